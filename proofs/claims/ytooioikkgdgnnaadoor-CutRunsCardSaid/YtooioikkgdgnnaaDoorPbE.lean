/-
  Chapter 24: an assignment, the value of a literal under it.
-/
import Derived.Test.YtooioikkgdgnnaaDoorPbC
namespace Go.Proofs.YtooioikkgdgnnaaDoor
open Go.RowKit Go.Shelf

def i8s (xs : List Int) : List Value := xs.map (Value.int .i8)
theorem i8s_length (xs : List Int) : (i8s xs).length = xs.length := by simp [i8s]
theorem i8s_nth {xs : List Int} {k : Nat} (h : k < xs.length) : (i8s xs)[k]? = some (.int .i8 (nth xs k)) := by
  unfold i8s
  rw [List.getElem?_map, nth_get h]
  rfl
theorem nth_out {xs : List Int} {k : Nat} (h : xs.length ≤ k) : nth xs k = 0 := by
  unfold nth
  rw [List.getElem?_eq_none h]
  rfl
theorem Rd.cell8 {w : World} {F : Nat → Prop} {A : Option Addr} {n c : Nat} {xs : List Int} (h : Rd w F 1 (.slice A n c) n (i8s xs)) : xs.length = n ∧
    ∀ k, k < n → ∃ g o, A = some ⟨g, o, none⟩ ∧ F g ∧ g < w.heap.size ∧ w.cell? ⟨g, o + k, none⟩ = some (.int .i8 (nth xs k)) := by
  obtain ⟨hl, A', c', hv, hc, hm, hA⟩ := h
  injection hv with h1 _ _
  subst h1
  have hln : xs.length = n := by simpa [i8s_length] using hl
  refine ⟨hln, fun k hk => ?_⟩
  obtain ⟨g, o, h1, h2, h3, h4⟩ := hA (by omega)
  exact ⟨g, o, h1, h2, h3, h4 k _ (i8s_nth (by omega))⟩
/-- The value of a literal: 1, -1, 0. -/
def valB (av : List Int) (l : Int) : Int := if nth av (l.natAbs - 1) = 0 then 0 else if (0 < nth av (l.natAbs - 1) ↔ 0 < l) then 1 else -1

set_option maxHeartbeats 1000000 in
theorem value_any {w : World} {F : Nat → Prop} {A : Option Addr} {n c : Nat} {av : List Int} {l : Int} (ha : Rd w F 1 (.slice A n c) n (i8s av)) (h0 : l ≠ 0) (h1 : -65536 ≤ l) (h2 : l ≤ 65536) :
    Calls Tryd.prog 58 #[.slice A n c, .int .i64 l] w fun r w' => r = .returned (.int .i64 (valB av l)) ∧ w = w' := by
  obtain ⟨v, hv⟩ : ∃ v, l.natAbs = v := ⟨_, rfl⟩
  have hv1 : 1 ≤ v ∧ v ≤ 65536 := by omega
  obtain ⟨p, hp⟩ : ∃ p, v = p + 1 := ⟨v - 1, by omega⟩
  have hwp : IntKind.i64.wrap ((v : Int) - 1) = (p : Int) := by rw [iw' (by omega) (by omega)]; omega
  have hvv : valB av l = if nth av p = 0 then 0 else if (0 < nth av p ↔ 0 < l) then 1 else -1 := by unfold valB; rw [hv, hp]; rfl
  have hal := ha.cell8.1
  by_cases hn : v ≤ n
  · obtain ⟨g, o, rfl, _, hg, e0⟩ := ha.cell8.2 p (by omega)
    obtain ⟨x, hx⟩ : ∃ x, nth av p = x := ⟨_, rfl⟩
    rw [hx] at e0 hvv
    have q1 : ((n : Int) < (v : Int)) = False := by simp; omega
    have q2 : (p : Int) < (n : Int) := by omega
    have q3 : (n < v) = False := by simp; omega
    have Hv := hid hv
    have Hvv := hid hvv
    clear hv hvv hp hx ha hal
    by_cases x0 : x = 0
    · subst x0
      have hval : valB av l = 0 := by rw [Hvv.out]; simp
      rw [hval]
      clear hval Hvv
      go_enter Tryd.func58, Tryd.ntmps58
      go_wp2_with fail
      refine (abs_any (by omega) (by omega)).mono ?_
      rw [Hv.out]
      rintro r w1 ⟨rfl, rfl⟩
      go_wp2_with fail
      go_ret
      exact ⟨rfl, rfl⟩
    · have r1 : (x = 0) = False := by simpa using x0
      have r2 : (x == 0) = false := by simpa using x0
      by_cases xp : 0 < x
      · by_cases lp : 0 < l
        · have r3 : decide (0 < x) = true := by simpa using xp
          have r4 : decide (0 < l) = true := by simpa using lp
          have hval : valB av l = 1 := by rw [Hvv.out]; simp [x0, xp, lp]
          rw [hval]
          clear hval Hvv
          go_enter Tryd.func58, Tryd.ntmps58
          go_wp2_with fail
          refine (abs_any (by omega) (by omega)).mono ?_
          rw [Hv.out]
          rintro r w1 ⟨rfl, rfl⟩
          go_wp2_with fail
          go_ret
          exact ⟨rfl, rfl⟩
        · have r3 : decide (0 < x) = true := by simpa using xp
          have r4 : decide (0 < l) = false := by simpa using lp
          have hval : valB av l = -1 := by rw [Hvv.out]; simp [x0, xp, lp]
          rw [hval]
          clear hval Hvv
          go_enter Tryd.func58, Tryd.ntmps58
          go_wp2_with fail
          refine (abs_any (by omega) (by omega)).mono ?_
          rw [Hv.out]
          rintro r w1 ⟨rfl, rfl⟩
          go_wp2_with fail
          go_ret
          exact ⟨rfl, rfl⟩
      · by_cases lp : 0 < l
        · have r3 : decide (0 < x) = false := by simpa using xp
          have r4 : decide (0 < l) = true := by simpa using lp
          have hval : valB av l = -1 := by rw [Hvv.out]; simp [x0, xp, lp]
          rw [hval]
          clear hval Hvv
          go_enter Tryd.func58, Tryd.ntmps58
          go_wp2_with fail
          refine (abs_any (by omega) (by omega)).mono ?_
          rw [Hv.out]
          rintro r w1 ⟨rfl, rfl⟩
          go_wp2_with fail
          go_ret
          exact ⟨rfl, rfl⟩
        · have r3 : decide (0 < x) = false := by simpa using xp
          have r4 : decide (0 < l) = false := by simpa using lp
          have hval : valB av l = 1 := by rw [Hvv.out]; simp [x0, xp, lp]
          rw [hval]
          clear hval Hvv
          go_enter Tryd.func58, Tryd.ntmps58
          go_wp2_with fail
          refine (abs_any (by omega) (by omega)).mono ?_
          rw [Hv.out]
          rintro r w1 ⟨rfl, rfl⟩
          go_wp2_with fail
          go_ret
          exact ⟨rfl, rfl⟩
  · have e : valB av l = 0 := by rw [hvv, nth_out (by omega), if_pos rfl]
    rw [e]
    have q1 : (n : Int) < (v : Int) := by omega
    have q3 : n < v := by omega
    have Hv := hid hv
    clear hv hvv hp ha hal e
    go_enter Tryd.func58, Tryd.ntmps58
    go_wp2_with fail
    refine (abs_any (by omega) (by omega)).mono ?_
    rw [Hv.out]
    rintro r w1 ⟨rfl, rfl⟩
    go_wp2_with fail
    go_ret
    exact ⟨rfl, rfl⟩
end Go.Proofs.YtooioikkgdgnnaaDoor
