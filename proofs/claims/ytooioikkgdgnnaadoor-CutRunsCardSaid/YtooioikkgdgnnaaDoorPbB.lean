/-
  Chapter 24: literals, the constraint in memory, parts (an iterator over its literals and coefficients).
-/
import Derived.Test.YtooioikkgdgnnaaDoorPbA
import Derived.RangeFuncBound
import Derived.RangeFuncCalls
import Derived.RangeFuncLeaves
import Derived.RangeFuncFrom
import Derived.RangeFuncBox
import Derived.Shelf.Abstract
import Derived.WalkKit
import Derived.OwnWalkIn
import Derived.TacticsInMore
import Derived.LoopNIn
import Derived.LoopIn
namespace Go.Proofs.YtooioikkgdgnnaaDoor
open Go.RowKit Go.Shelf

attribute [local go_sem] Oper.semAt_some

/-- Is l a literal? -/
def litB (l : Int) : Bool := decide (l ≠ 0 ∧ -65536 ≤ l ∧ l ≤ 65536)
theorem abs_any {w : World} {l : Int} (h1 : -9223372036854775807 ≤ l) (h2 : l ≤ 9223372036854775807) :
    Calls Tryd.prog 61 #[.int .i64 l] w fun r w' => r = .returned (.int .i64 (l.natAbs : Nat)) ∧ w = w' := by
  have hwn : IntKind.i64.wrap (-l) = -l := iw' (by omega) (by omega)
  go_enter Tryd.func61, Tryd.ntmps61
  go_wp2_with fail
  all_goals go_ret
  · exact ⟨by show Ending.returned (Value.int IntKind.i64 _) = _; congr 2; omega, rfl⟩
  · exact ⟨by show Ending.returned (Value.int IntKind.i64 _) = _; congr 2; omega, rfl⟩
theorem literal_any {w : World} {l : Int} :
    Calls Tryd.prog 63 #[.int .i64 l] w fun r w' => r = .returned (.bool (litB l)) ∧ w = w' := by
  have e : litB l = (l != 0 && decide (-65536 ≤ l) && decide (l ≤ 65536)) := by
    unfold litB
    by_cases h1 : l = 0 <;> by_cases h2 : -65536 ≤ l <;> by_cases h3 : l ≤ 65536 <;> simp [h1, h2, h3]
  rw [e]
  clear e
  by_cases h1 : l = 0
  · subst h1
    go_enter Tryd.func63, Tryd.ntmps63
    go_wp2_with fail
    go_ret
    exact ⟨by simp, rfl⟩
  · have q1 : (l != 0) = true := by simpa using h1
    by_cases h2 : -65536 ≤ l
    · by_cases h3 : l ≤ 65536
      · have q2 : decide (-65536 ≤ l) = true := by simpa using h2
        have q3 : decide (l ≤ 65536) = true := by simpa using h3
        go_enter Tryd.func63, Tryd.ntmps63
        go_wp2_with fail
        go_ret
        exact ⟨by simp [h1, h2, h3], rfl⟩
      · have q2 : decide (-65536 ≤ l) = true := by simpa using h2
        have q3 : decide (l ≤ 65536) = false := by simpa using h3
        go_enter Tryd.func63, Tryd.ntmps63
        go_wp2_with fail
        go_ret
        exact ⟨by simp, rfl⟩
    · have q2 : decide (-65536 ≤ l) = false := by simpa using h2
      go_enter Tryd.func63, Tryd.ntmps63
      go_wp2_with fail
      go_ret
      exact ⟨by simp, rfl⟩
end Go.Proofs.YtooioikkgdgnnaaDoor
