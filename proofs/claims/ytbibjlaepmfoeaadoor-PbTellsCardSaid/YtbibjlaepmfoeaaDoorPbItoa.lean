/-
  Chapter 24: strconv.Itoa at every int (it reads a table of the library's).
-/
import Derived.Test.YtbibjlaepmfoeaaDoorPbShelf
import Derived.Test.YtbibjlaepmfoeaaDoorPbQ
import Derived.Lib.AppendIntMem
namespace Go.Proofs.YtbibjlaepmfoeaaDoor
open Go.Shelf Go.Proofs Go.RowKit

theorem sh_laysM171 : Go.Proofs.LaysM.n171 Tryd.prog sh_lays171_ren := { sh_lays171 with
  i0 := by kernel_rfl
  i2 := by kernel_rfl
  i3 := by kernel_rfl
  i4 := by kernel_rfl
  i5 := by kernel_rfl
  i9 := by kernel_rfl
  i20 := by kernel_rfl
  i37 := by kernel_rfl
  i46 := by kernel_rfl
  i51 := by kernel_rfl
  i53 := by kernel_rfl
  i171 := by kernel_rfl
  i173 := by kernel_rfl
  i212 := by kernel_rfl
  i232 := by kernel_rfl
  i233 := by kernel_rfl
  m17 := by kernel_rfl
  m18 := by kernel_rfl
  m19 := by kernel_rfl
}
theorem itoa_any {w : World} {n : Int} (h : I64 n) (htab : Lib.TabIs Tryd.prog w "internal/strconv.uint64pow10" .u64 Lib.pow10Tab) :
    Calls Tryd.prog 43 #[.int .i64 n] w fun r w' => r = .returned (.string ⟨(Lib.itoa n).toArray⟩) ∧ Below w.heap.size w w' :=
  (Any.strconv_Itoa sh_laysM171 n h.1 h.2 w htab).mono fun _ _ ⟨h1, k, os, h2⟩ => ⟨h1, h2 ▸ Lib.below_grow _ w (Nat.le_refl _) k os⟩
theorem itoaTo_tab {w : World} {M : Int} (hM : M ≤ 9223372036854775807) (htab : Lib.TabIs Tryd.prog w "internal/strconv.uint64pow10" .u64 Lib.pow10Tab) : ItoaTo w M := fun i h1 h2 W hW =>
  itoa_any (by unfold I64; omega) (Lib.tabBelow_of_tabIs htab W hW)
theorem ItoaTo.later {w W : World} {M : Int} (h : ItoaTo w M) (hW : Below w.heap.size w W) : ItoaTo W M := fun i h1 h2 W' hW' => h i h1 h2 W' (hW.trans (hW'.mono hW.size))
end Go.Proofs.YtbibjlaepmfoeaaDoor
