/-
  Chapter 24, the reference: literals, values, sums.
-/
import Derived.Test.YtofobmgmgipomaaEnZ
namespace Go.Proofs.Ytofobmgmgipomaa
open Go.RowKit

theorem rlit_any {w : World} {l : Int} :
    Calls Try.prog 75 #[.int .i64 l] w fun r w' => r = .returned (.bool (litB l)) ∧ w = w' := by
  have e : litB l = (l != 0 && decide (-65536 ≤ l) && decide (l ≤ 65536)) := by
    unfold litB
    by_cases h1 : l = 0 <;> by_cases h2 : -65536 ≤ l <;> by_cases h3 : l ≤ 65536 <;> simp [h1, h2, h3]
  rw [e]
  clear e
  by_cases h1 : l = 0
  · subst h1
    go_enter Try.func75, Try.ntmps75
    go_wp2_with fail
    go_ret
    exact ⟨by simp, rfl⟩
  · have q1 : (l != 0) = true := by simpa using h1
    by_cases h2 : -65536 ≤ l
    · by_cases h3 : l ≤ 65536
      · have q2 : decide (-65536 ≤ l) = true := by simpa using h2
        have q3 : decide (l ≤ 65536) = true := by simpa using h3
        go_enter Try.func75, Try.ntmps75
        go_wp2_with fail
        go_ret
        exact ⟨by simp [h1, h2, h3], rfl⟩
      · have q2 : decide (-65536 ≤ l) = true := by simpa using h2
        have q3 : decide (l ≤ 65536) = false := by simpa using h3
        go_enter Try.func75, Try.ntmps75
        go_wp2_with fail
        go_ret
        exact ⟨by simp, rfl⟩
    · have q2 : decide (-65536 ≤ l) = false := by simpa using h2
      go_enter Try.func75, Try.ntmps75
      go_wp2_with fail
      go_ret
      exact ⟨by simp, rfl⟩
theorem rvar_any {w : World} {l : Int} (h1 : -9223372036854775807 ≤ l) (h2 : l ≤ 9223372036854775807) :
    Calls Try.prog 76 #[.int .i64 l] w fun r w' => r = .returned (.int .i64 (l.natAbs : Nat)) ∧ w = w' := by
  have hwn : IntKind.i64.wrap (-l) = -l := iw' (by omega) (by omega)
  by_cases h : l < 0
  · go_enter Try.func76, Try.ntmps76
    go_wp2_with fail
    go_ret
    exact ⟨by show Ending.returned (Value.int IntKind.i64 _) = _; congr 2; omega, rfl⟩
  · go_enter Try.func76, Try.ntmps76
    go_wp2_with fail
    go_ret
    exact ⟨by show Ending.returned (Value.int IntKind.i64 _) = _; congr 2; omega, rfl⟩
set_option maxRecDepth 100000 in
set_option maxHeartbeats 2000000 in
theorem rvalue_any {w : World} {F : Nat → Prop} {A : Option Addr} {n c : Nat} {av : List Int} {l : Int} (ha : Rd w F 1 (.slice A n c) n (i8s av)) (h0 : l ≠ 0) (h1 : -65536 ≤ l) (h2 : l ≤ 65536) :
    Calls Try.prog 68 #[.slice A n c, .int .i64 l] w fun r w' => r = .returned (.int .i64 (valB av l)) ∧ w = w' := by
  obtain ⟨hal, hA⟩ := ha.cell8
  obtain ⟨v, hv⟩ : ∃ v, l.natAbs = v := ⟨_, rfl⟩
  obtain ⟨p, hp⟩ : ∃ p : Nat, v = p + 1 := ⟨v - 1, by omega⟩
  have hvv : valB av l = if nth av p = 0 then 0 else if (0 < nth av p ↔ 0 < l) then 1 else -1 := by unfold valB; rw [hv, hp]; rfl
  have hpv : (v : Int) = (p : Int) + 1 := by omega
  have hp5 : p < 65536 := by omega
  have Hv := hid (show ((l.natAbs : Nat) : Int) = (p : Int) + 1 by omega)
  have Hvv := hid hvv
  have Hal := hid hal
  by_cases hlt : p < n
  · obtain ⟨g, o, rfl, _, hg, hc⟩ := hA p hlt
    obtain ⟨x, hx⟩ : ∃ x, nth av p = x := ⟨_, rfl⟩
    rw [hx] at hc
    have Hx := hid hx
    have q1 : ¬ (n : Int) < (p : Int) + 1 := by omega
    have q2 : (p : Int) < (n : Int) := by omega
    clear hvv hpv hp hv hA hx ha hal
    by_cases x0 : x = 0
    · subst x0
      have hval : valB av l = 0 := by rw [Hvv.out, Hx.out]; rfl
      rw [hval]
      clear hval
      go_enter Try.func68, Try.ntmps68
      go_wp2_with fail
      refine (rvar_any (by omega) (by omega)).mono ?_
      rw [Hv.out]
      rintro r w1 ⟨rfl, rfl⟩
      go_wp2_with fail
      go_ret
      exact ⟨rfl, rfl⟩
    · have r2 : (x == 0) = false := by simpa using x0
      by_cases xp : 0 < x
      · by_cases lp : 0 < l
        · have r3 : decide (0 < x) = true := by simpa using xp
          have r4 : decide (0 < l) = true := by simpa using lp
          have hval : valB av l = 1 := by rw [Hvv.out, Hx.out]; simp [x0, xp, lp]
          rw [hval]
          clear hval
          go_enter Try.func68, Try.ntmps68
          go_wp2_with fail
          refine (rvar_any (by omega) (by omega)).mono ?_
          rw [Hv.out]
          rintro r w1 ⟨rfl, rfl⟩
          go_wp2_with fail
          go_ret
          exact ⟨rfl, rfl⟩
        · have r3 : decide (0 < x) = true := by simpa using xp
          have r4 : decide (0 < l) = false := by simpa using lp
          have r5 : decide (x < 0) = false := by simp; omega
          have hval : valB av l = -1 := by rw [Hvv.out, Hx.out]; simp [x0, xp, lp]
          rw [hval]
          clear hval
          go_enter Try.func68, Try.ntmps68
          go_wp2_with fail
          refine (rvar_any (by omega) (by omega)).mono ?_
          rw [Hv.out]
          rintro r w1 ⟨rfl, rfl⟩
          go_wp2_with fail
          go_ret
          exact ⟨rfl, rfl⟩
      · have r3 : decide (0 < x) = false := by simpa using xp
        have r5 : decide (x < 0) = true := by simp; omega
        by_cases lp : 0 < l
        · have r6 : decide (l < 0) = false := by simp; omega
          have hval : valB av l = -1 := by rw [Hvv.out, Hx.out]; simp [x0, xp, lp]
          rw [hval]
          clear hval
          go_enter Try.func68, Try.ntmps68
          go_wp2_with fail
          refine (rvar_any (by omega) (by omega)).mono ?_
          rw [Hv.out]
          rintro r w1 ⟨rfl, rfl⟩
          go_wp2_with fail
          go_ret
          exact ⟨rfl, rfl⟩
        · have r6 : decide (l < 0) = true := by simp; omega
          have hval : valB av l = 1 := by rw [Hvv.out, Hx.out]; simp [x0, xp, lp]
          rw [hval]
          clear hval
          go_enter Try.func68, Try.ntmps68
          go_wp2_with fail
          refine (rvar_any (by omega) (by omega)).mono ?_
          rw [Hv.out]
          rintro r w1 ⟨rfl, rfl⟩
          go_wp2_with fail
          go_ret
          exact ⟨rfl, rfl⟩
  · have hval : valB av l = 0 := by rw [Hvv.out, nth_out (by omega)]; rfl
    rw [hval]
    have q1 : (n : Int) < (p : Int) + 1 := by omega
    clear hvv hpv hp hv hA ha hal hval
    go_enter Try.func68, Try.ntmps68
    go_wp2_with fail
    refine (rvar_any (by omega) (by omega)).mono ?_
    rw [Hv.out]
    rintro r w1 ⟨rfl, rfl⟩
    go_wp2_with fail
    go_ret
    exact ⟨rfl, rfl⟩
set_option maxRecDepth 100000 in
set_option maxHeartbeats 2000000 in
theorem rsum_any {w : World} {F G : Nat → Prop} {v : Value} {c : Pb} {A : Option Addr} {na ca : Nat} {av : List Int} {least : Int} (hc : PbRd w F v c) (hok : c.Ok) (ha : Rd w G 1 (.slice A na ca) na (i8s av)) :
    Calls Try.prog 67 #[v, .slice A na ca, .int .i64 least] w fun r w' => r = .returned (.int .i64 (c.total fun l => decide (least ≤ valB av l))) ∧ Below w.heap.size w w' := by
  obtain ⟨⟨L, n, cn, K, m, cm, rfl, hx, hk⟩, hb⟩ := hc
  have hxl : c.lits.length = n := by have := hx.1; simpa [ints_length] using this
  have hkl : c.coefs.length = m := by have := hk.1; simpa [ints_length] using this
  have hnm : n = m := by rw [← hxl, ← hkl]; exact hok.len
  have hn6 : n ≤ 65536 := by rw [← hxl]; exact hok.few
  subst hnm
  obtain ⟨X, hX, bX, kX, sX⟩ := alloc_step w (.cells #[.slice L n cn, .slice K n cm, .int .i64 c.bound] 36)
  obtain ⟨Z, hZ⟩ : ∃ z, w.heap.size = z := ⟨_, rfl⟩
  have Ha := hid (ha.below bX)
  have Hx := hid (hx.below bX)
  have Hk := hid (hk.below bX)
  have Hok := hid hok
  have HB := hid bX
  have Hxl := hid hxl
  have Hkl := hid hkl
  rw [hZ] at kX
  have KX := hid kX
  have HX := hid hX
  have HZ := hid hZ
  clear hx hk ha hok bX hkl hxl kX hX hZ sX
  go_enter Try.func67, Try.ntmps67
  go_wp2_with fail
  rw [HX.out, HZ.out]
  go_loopw [7, 8] (fun sv iv W => ∃ j : Nat, j ≤ n ∧ iv = .int .i64 j ∧ sv = .int .i64 (c.part (fun l => decide (least ≤ valB av l)) (List.range j)) ∧ W = X) (fun _ iv _ => n - (intOf iv).toNat)
  case atStart => exact ⟨0, by omega, rfl, rfl, rfl⟩
  case round =>
    obtain ⟨j, hj, rfl, rfl, rfl⟩ := hrel
    obtain ⟨e0, e1, e2⟩ := box3 KX.out
    by_cases hlt : j < n
    · have x1 : (j : Int) < (n : Int) := by omega
      obtain ⟨g, o, rfl, _, hg, hcx⟩ := Hx.out.cell.2 j hlt
      obtain ⟨g', o', rfl, _, hg', hck⟩ := Hk.out.cell.2 j hlt
      have hl := Hok.out.lit j (by rw [Hxl.out]; exact hlt)
      have hco := Hok.out.coef j (by rw [Hxl.out]; exact hlt)
      have hhi := Hok.out.high
      have hpb := Pb.part_bounds Hok.out (fun l => decide (least ≤ valB av l)) (List.range j) (fun i hi => by have := List.mem_range.1 hi; rw [Hxl.out]; omega)
      have hsn := c.part_snoc (fun l => decide (least ≤ valB av l)) (List.range j) j
      rw [← List.range_succ] at hsn
      obtain ⟨li, hli⟩ : ∃ x, nth c.lits j = x := ⟨_, rfl⟩
      obtain ⟨ki, hki⟩ : ∃ x, nth c.coefs j = x := ⟨_, rfl⟩
      rw [hli] at hl hcx hsn
      rw [hki] at hco hck hsn
      obtain ⟨s, hs⟩ : ∃ s, c.part (fun l => decide (least ≤ valB av l)) (List.range j) = s := ⟨_, rfl⟩
      rw [hs] at hpb hsn ⊢
      rw [List.length_range] at hpb
      obtain ⟨vv, hvv⟩ : ∃ x, valB av li = x := ⟨_, rfl⟩
      rw [hvv] at hsn
      have Hvv := hid hvv
      clear hli hki hs hvv
      by_cases hle : least ≤ vv
      · rw [if_pos (by simpa using hle)] at hsn
        have Hsn := hid hsn
        clear hsn
        go_wp2_with fail
        refine (rvalue_any Ha.out hl.1 (by omega) (by omega)).mono ?_
        rw [Hvv.out]
        rintro r w1 ⟨rfl, rfl⟩
        go_wp2_with fail
        go_roundw
        case rel => exact ⟨j + 1, by omega, by go_num, by rw [Hsn.out], trivial⟩
        case measure => simp [intOf]; omega
      · rw [if_neg (by simpa using hle)] at hsn
        have Hsn := hid hsn
        clear hsn
        go_wp2_with fail
        refine (rvalue_any Ha.out hl.1 (by omega) (by omega)).mono ?_
        rw [Hvv.out]
        rintro r w1 ⟨rfl, rfl⟩
        go_wp2_with fail
        go_roundw
        case rel => exact ⟨j + 1, by omega, by go_num, by rw [Hsn.out, Int.add_zero], trivial⟩
        case measure => simp [intOf]; omega
    · have hjn : j = n := by omega
      go_wp2_with fail
      go_ret
      exact ⟨by show Ending.returned (Value.int IntKind.i64 _) = _; unfold Pb.total; rw [Hxl.out, hjn], HB.out⟩
end Go.Proofs.Ytofobmgmgipomaa
