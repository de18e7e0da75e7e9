/-
  Chapter 24: the statements' own evaluation: holds.
-/
import Derived.Test.YtooioikkgdgnnaaDoorPbU
import Derived.Test.YtooioikkgdgnnaaDoorPlC
namespace Go.Proofs.YtooioikkgdgnnaaDoor
open Go.RowKit

/-- The literal is true in the list av. -/
def litT (av : List Int) (l : Int) : Bool := decide (0 < l ∧ 0 < nth av (l.natAbs - 1)) || decide (l < 0 ∧ nth av (l.natAbs - 1) < 0)
def gotT (av ls ks : List Int) (j : Nat) : Int := ((List.range j).map fun i => if litT av (nth ls i) = true then nth ks i else 0).sum
theorem gotT_succ (av ls ks : List Int) (j : Nat) : gotT av ls ks (j + 1) = gotT av ls ks j + (if litT av (nth ls j) = true then nth ks j else 0) := by simp [gotT, List.range_succ]

theorem gotT_bounds {av ls ks : List Int} (hk : ∀ k ∈ ks, -8 ≤ k ∧ k ≤ 8) : ∀ j, j ≤ ks.length → -(j * 8 : Int) ≤ gotT av ls ks j ∧ gotT av ls ks j ≤ j * 8 := by
  intro j
  induction j with
  | zero => intro _; simp [gotT]
  | succ j ih =>
    intro hj
    obtain ⟨h1, h2⟩ := ih (by omega)
    have := hk _ (nth_mem (show j < ks.length by omega))
    rw [gotT_succ]
    split <;> omega

end Go.Proofs.YtooioikkgdgnnaaDoor
