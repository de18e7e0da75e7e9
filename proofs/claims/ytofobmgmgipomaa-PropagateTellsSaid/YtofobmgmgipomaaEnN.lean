/-
  Plain: the bits of total.
-/
import Derived.Test.YtofobmgmgipomaaEnM
namespace Go.Proofs.Ytofobmgmgipomaa
open Go.RowKit

set_option maxRecDepth 100000 in
theorem bit7_all : (List.range 128).all (fun b => (List.range 7).all fun i => bit7 (b : Int) i == (if (b : Int) / 2 ^ i % 2 = 1 then 1 else -1)) = true := by kernel_rfl
theorem bit7_is {b i : Nat} (hb : b < 128) (hi : i < 7) : bit7 (b : Int) i = if (b : Int) / 2 ^ i % 2 = 1 then 1 else -1 := by
  have h := List.all_eq_true.1 bit7_all b (List.mem_range.2 hb)
  have h2 := List.all_eq_true.1 h i (List.mem_range.2 hi)
  exact eq_of_beq h2
end Go.Proofs.Ytofobmgmgipomaa
