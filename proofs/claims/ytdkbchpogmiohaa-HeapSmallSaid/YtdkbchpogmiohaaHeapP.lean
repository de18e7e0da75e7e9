/-
  The Luby sequence: the reference, the statement HeapLubys.
-/
import Derived.Test.YtdkbchpogmiohaaHeapN
namespace Go.Proofs.Ytdkbchpogmiohaa
open Go.RowKit

theorem hwf_i64 {n : Int} (h : (Lit.int .i64 n).wf = true) : I64 n := by
  unfold I64
  simp [Lit.wf, IntKind.min, IntKind.max, IntKind.signed, IntKind.bits] at h
  omega

set_option maxRecDepth 100000 in
set_option maxHeartbeats 4000000 in
theorem rluby_any {w : World} {i : Int} (hi : I64 i) :
    Calls Try.prog 12 #[.int .i64 i] w fun r w' => r = .returned (.int .i64 (lubyI i)) ∧ w' = w := by
  unfold I64 at hi
  rcases Int.lt_or_le i 1 with h1 | h1
  · have e0 : lubyI i = 0 := by
      have : i.toNat = 0 := by omega
      unfold lubyI
      rw [this, luby, dif_pos (.inl rfl)]
      rfl
    rw [e0]
    go_enter Try.func12, Try.ntmps12
    go_wp2_with fail
    go_ret
    exact ⟨rfl, rfl⟩
  · obtain ⟨m0, rfl⟩ : ∃ m : Nat, i = m := ⟨i.toNat, by omega⟩
    go_enter Try.func12, Try.ntmps12
    go_wp2_with fail
    go_loopw [0] (fun v W => ∃ m : Nat, 1 ≤ m ∧ m < 9223372036854775808 ∧ v = .int .i64 m ∧ Hid (luby m = luby m0) ∧ Hid (W = w)) (fun v _ => (intOf v).toNat)
    case atStart => exact ⟨m0, by omega, by omega, rfl, hid rfl, hid rfl⟩
    case round =>
      obtain ⟨m, a1, a2, rfl, E, EW⟩ := hrel
      generalize wr = w1 at *
      have y0 : (m : Int).tdiv 2 = ((m / 2 : Nat) : Int) := by rw [Int.tdiv_eq_ediv_of_nonneg (by omega)]; omega
      obtain ⟨m2, hm2⟩ : ∃ m2, m / 2 = m2 := ⟨_, rfl⟩
      rw [hm2] at y0
      go_wp2_with fail
      go_loopw [3] (fun v W => ∃ P : Nat, 1 ≤ P ∧ P ≤ m ∧ v = .int .i64 P ∧ Hid (∃ j, P = 2 ^ j) ∧ Hid (W = w1)) (fun v _ => m - (intOf v).toNat)
      case atStart => exact ⟨1, by omega, by omega, rfl, ⟨0, rfl⟩, hid rfl⟩
      case round =>
        obtain ⟨P, b1, b2, rfl, J, EW2⟩ := hrel
        by_cases hp : P ≤ m2
        · have x1 : (P : Int) ≤ (m2 : Int) := by omega
          go_wp2_with fail
          go_roundw
          case rel =>
            obtain ⟨j, hj⟩ := J.out
            exact ⟨2 * P, by omega, by omega, by go_num, ⟨j + 1, by rw [Nat.pow_succ]; omega⟩, EW2⟩
          case measure => simp [intOf]; omega
        · have x1 : (m2 : Int) < (P : Int) := by omega
          have T : Hid (top m = P) := by
            obtain ⟨j, hj⟩ := J.out
            rw [hj]
            exact hid (top_of (by omega) (by omega) a2)
          by_cases he : m + 1 = 2 * P
          · have x2 : ((P : Int) - 1 == (m : Int) - (P : Int)) = true := by simp; omega
            have L : Hid (lubyI m0 = P) := by
              unfold lubyI
              rw [Int.toNat_natCast, ← E.out, luby_eq a1 a2 (by rw [T.out]; exact he), T.out]
              exact hid rfl
            go_wp2_with fail
            go_ret
            exact ⟨by rw [L.out]; rfl, EW2.out.trans EW.out⟩
          · have x2 : ((P : Int) - 1 == (m : Int) - (P : Int)) = false := by simp; omega
            have x3 : 2 ≤ P := by
              rcases (by omega : P = 1 ∨ 2 ≤ P) with h | h
              · have := T.out
                have := (top_spec a1 a2).2.1
                omega
              · exact h
            have L := hid (luby_next a1 a2 (by rw [T.out]; exact he))
            go_wp2_with fail
            go_roundw
            case rel => exact ⟨m + 1 - P, by omega, by omega, by go_num, hid (by have := L.out; rw [T.out] at this; rw [← this]; exact E.out), hid (EW2.out.trans EW.out)⟩
            case measure => simp [intOf]; omega
theorem lubys_walk {w : World} {i : Int} (hi : I64 i) :
    Calls Try.prog 3 #[.int .i64 i] w fun r w' => r = .returned (.bool true) ∧ Below w.heap.size w w' := by
  have Hi := hid hi
  clear hi
  go_enter Try.func3, Try.ntmps3
  go_wp2_with fail
  refine (luby_any Hi.out).mono ?_
  rintro r w' ⟨rfl, rfl⟩
  go_wp2_with fail
  refine (rluby_any Hi.out).mono ?_
  rintro r w' ⟨rfl, rfl⟩
  have hvv : (lubyI i == lubyI i) = true := by simp
  go_wp2_with fail
  refine awake_any.mono ?_
  rintro r w1 ⟨rfl, b1⟩
  go_wp2_with fail
  go_ret
  exact ⟨rfl, b1⟩
end Go.Proofs.Ytdkbchpogmiohaa
