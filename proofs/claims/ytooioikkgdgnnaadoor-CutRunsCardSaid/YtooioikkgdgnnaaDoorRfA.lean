/-
  Chapter 24, the reference: literals, values, sums.
-/
import Derived.Test.YtooioikkgdgnnaaDoorPlE
import Derived.Test.YtooioikkgdgnnaaDoorPbS
namespace Go.Proofs.YtooioikkgdgnnaaDoor
open Go.RowKit

theorem rlit_any {w : World} {l : Int} :
    Calls Tryd.prog 66 #[.int .i64 l] w fun r w' => r = .returned (.bool (litB l)) ∧ w = w' := by
  have e : litB l = (l != 0 && decide (-65536 ≤ l) && decide (l ≤ 65536)) := by
    unfold litB
    by_cases h1 : l = 0 <;> by_cases h2 : -65536 ≤ l <;> by_cases h3 : l ≤ 65536 <;> simp [h1, h2, h3]
  rw [e]
  clear e
  by_cases h1 : l = 0
  · subst h1
    go_enter Tryd.func66, Tryd.ntmps66
    go_wp2_with fail
    go_ret
    exact ⟨by simp, rfl⟩
  · have q1 : (l != 0) = true := by simpa using h1
    by_cases h2 : -65536 ≤ l
    · by_cases h3 : l ≤ 65536
      · have q2 : decide (-65536 ≤ l) = true := by simpa using h2
        have q3 : decide (l ≤ 65536) = true := by simpa using h3
        go_enter Tryd.func66, Tryd.ntmps66
        go_wp2_with fail
        go_ret
        exact ⟨by simp [h1, h2, h3], rfl⟩
      · have q2 : decide (-65536 ≤ l) = true := by simpa using h2
        have q3 : decide (l ≤ 65536) = false := by simpa using h3
        go_enter Tryd.func66, Tryd.ntmps66
        go_wp2_with fail
        go_ret
        exact ⟨by simp, rfl⟩
    · have q2 : decide (-65536 ≤ l) = false := by simpa using h2
      go_enter Tryd.func66, Tryd.ntmps66
      go_wp2_with fail
      go_ret
      exact ⟨by simp, rfl⟩
theorem rvar_any {w : World} {l : Int} (h1 : -9223372036854775807 ≤ l) (h2 : l ≤ 9223372036854775807) :
    Calls Tryd.prog 46 #[.int .i64 l] w fun r w' => r = .returned (.int .i64 (l.natAbs : Nat)) ∧ w = w' := by
  have hwn : IntKind.i64.wrap (-l) = -l := iw' (by omega) (by omega)
  by_cases h : l < 0
  · go_enter Tryd.func46, Tryd.ntmps46
    go_wp2_with fail
    go_ret
    exact ⟨by show Ending.returned (Value.int IntKind.i64 _) = _; congr 2; omega, rfl⟩
  · go_enter Tryd.func46, Tryd.ntmps46
    go_wp2_with fail
    go_ret
    exact ⟨by show Ending.returned (Value.int IntKind.i64 _) = _; congr 2; omega, rfl⟩
end Go.Proofs.YtooioikkgdgnnaaDoor
