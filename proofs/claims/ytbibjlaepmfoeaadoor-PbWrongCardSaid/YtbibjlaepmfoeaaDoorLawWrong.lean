/-
  Chapter 24: the walk of PbWrong.
-/
import Derived.Test.YtbibjlaepmfoeaaDoorLawWrong0
import Derived.Test.YtbibjlaepmfoeaaDoorLawWrong1
import Derived.Test.YtbibjlaepmfoeaaDoorLawWrong2
import Derived.Test.YtbibjlaepmfoeaaDoorLawWrong3
import Derived.Test.YtbibjlaepmfoeaaDoorLawWrong4
import Derived.Test.YtbibjlaepmfoeaaDoorLawWrong5
namespace Go.Proofs.YtbibjlaepmfoeaaDoor
open Go.RowKit

theorem wrong_walk {w : World} {F G : Nat → Prop} {u v : Value} {n m : Nat} {ls ks : List Int} {b at' way : Int} (hu : Rd w F 1 u n (ints ls)) (hv : Rd w G 1 v m (ints ks)) (hn : n ≤ 17592186043904) (hm : m ≤ 17592186043904)
    (ha1 : 0 ≤ at') (ha2 : at' ≤ 255) (hw1 : 0 ≤ way) :
    Calls Tryd.prog 7 #[u, v, .int .i64 b, .int .u8 way, .int .u8 at'] w fun r w' => r = .returned (.bool true) ∧ Below w.heap.size w w' := by
  have h1 := tmod_in way (m := 6) (by decide)
  have h2 := Int.tmod_nonneg 6 hw1
  have h3 : Int.tmod way 6 = 0 ∨ Int.tmod way 6 = 1 ∨ Int.tmod way 6 = 2 ∨ Int.tmod way 6 = 3 ∨ Int.tmod way 6 = 4 ∨ Int.tmod way 6 = 5 := by omega
  rcases h3 with e | e | e | e | e | e
  · exact wrong_walk0 hu hv hn hm ha1 ha2 e
  · exact wrong_walk1 hu hv hn hm ha1 ha2 e
  · exact wrong_walk2 hu hv hn hm ha1 ha2 e
  · exact wrong_walk3 hu hv hn hm ha1 ha2 e
  · exact wrong_walk4 hu hv hn hm ha1 ha2 e
  · exact wrong_walk5 hu hv hn hm ha1 ha2 e
end Go.Proofs.YtbibjlaepmfoeaaDoor
