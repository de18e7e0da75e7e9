/-
  The statement HeapNext.
-/
import Derived.Test.YtdkbchpogmiohaaHeapT
import Derived.Test.YtdkbchpogmiohaaHeapU
import Derived.Test.YtdkbchpogmiohaaHeapN
namespace Go.Proofs.Ytdkbchpogmiohaa
open Go.RowKit

set_option maxRecDepth 100000 in
set_option maxHeartbeats 4000000 in
theorem ahead_law {w : World} {B b n tb : Nat} {o : Om} {T : Tr} (e : Two w B b n o tb T) {v y : Nat} (v1 : 1 ≤ v) (v2 : v ≤ n) (y1 : 1 ≤ y) (y2 : y ≤ n) :
    Calls Try.prog 23 #[.pointer (some ⟨b, 0, none⟩), .int .i64 v, .int .i64 y] w fun r w' => r = .returned (.bool (ahead o.acts v y)) ∧ w' = w := by
  obtain ⟨p, hp⟩ : ∃ p, nth o.acts v = p := ⟨_, rfl⟩
  obtain ⟨q, hq⟩ : ∃ q, nth o.acts y = q := ⟨_, rfl⟩
  have A1 : Hid (actv o.acts n v = p) := by unfold actv; rw [if_pos (by simp [hasv]; omega)]; exact hid hp
  have A2 : Hid (actv o.acts n y = q) := by unfold actv; rw [if_pos (by simp [hasv]; omega)]; exact hid hq
  obtain ⟨z, hz⟩ : ∃ z, ahead o.acts v y = z := ⟨_, rfl⟩
  have hz2 : z = true ↔ (q < p ∨ q = p ∧ v < y) := by
    rw [← hz, ahead_iff, hp, hq]
    constructor <;> rintro (h | h)
    · exact .inl h
    · exact .inr ⟨by have := h.1; omega, h.2⟩
    · exact .inl h
    · exact .inr ⟨by have := h.1; omega, h.2⟩
  rw [hz]
  have E := hid e
  clear hz hp hq e
  by_cases h1 : q < p
  · obtain rfl : z = true := hz2.2 (.inl h1)
    clear hz2
    go_enter Try.func23, Try.ntmps23
    go_wp2_with fail
    refine (two_activity_at E.out A1.out).mono ?_
    rintro r w' ⟨rfl, rfl⟩
    go_wp2_with fail
    refine (two_activity_at E.out A2.out).mono ?_
    rintro r w' ⟨rfl, rfl⟩
    go_wp2_with fail
    go_ret
    exact ⟨rfl, rfl⟩
  · have g1 : (q < p) = False := by simp; omega
    by_cases h2 : p = q
    · have g2 : (p == q) = true := by simp [h2]
      by_cases h3 : v < y
      · obtain rfl : z = true := hz2.2 (.inr ⟨h2.symm, h3⟩)
        have g3 : (v : Int) < (y : Int) := by omega
        clear hz2 h2
        go_enter Try.func23, Try.ntmps23
        go_wp2_with fail
        refine (two_activity_at E.out A1.out).mono ?_
        rintro r w' ⟨rfl, rfl⟩
        go_wp2_with fail
        refine (two_activity_at E.out A2.out).mono ?_
        rintro r w' ⟨rfl, rfl⟩
        go_wp2_with fail
        refine (two_activity_at E.out A1.out).mono ?_
        rintro r w' ⟨rfl, rfl⟩
        go_wp2_with fail
        refine (two_activity_at E.out A2.out).mono ?_
        rintro r w' ⟨rfl, rfl⟩
        go_wp2_with fail
        go_ret
        exact ⟨rfl, rfl⟩
      · obtain rfl : z = false := by cases z; rfl; exact absurd (hz2.1 rfl) (by omega)
        have g3 : (y : Int) ≤ (v : Int) := by omega
        clear hz2 h2
        go_enter Try.func23, Try.ntmps23
        go_wp2_with fail
        refine (two_activity_at E.out A1.out).mono ?_
        rintro r w' ⟨rfl, rfl⟩
        go_wp2_with fail
        refine (two_activity_at E.out A2.out).mono ?_
        rintro r w' ⟨rfl, rfl⟩
        go_wp2_with fail
        refine (two_activity_at E.out A1.out).mono ?_
        rintro r w' ⟨rfl, rfl⟩
        go_wp2_with fail
        refine (two_activity_at E.out A2.out).mono ?_
        rintro r w' ⟨rfl, rfl⟩
        go_wp2_with fail
        go_ret
        exact ⟨rfl, rfl⟩
    · have g2 : (p == q) = false := by simp [h2]
      obtain rfl : z = false := by cases z; rfl; exact absurd (hz2.1 rfl) (by omega)
      clear hz2 h2
      go_enter Try.func23, Try.ntmps23
      go_wp2_with fail
      refine (two_activity_at E.out A1.out).mono ?_
      rintro r w' ⟨rfl, rfl⟩
      go_wp2_with fail
      refine (two_activity_at E.out A2.out).mono ?_
      rintro r w' ⟨rfl, rfl⟩
      go_wp2_with fail
      refine (two_activity_at E.out A1.out).mono ?_
      rintro r w' ⟨rfl, rfl⟩
      go_wp2_with fail
      refine (two_activity_at E.out A2.out).mono ?_
      rintro r w' ⟨rfl, rfl⟩
      go_wp2_with fail
      go_ret
      exact ⟨rfl, rfl⟩

theorem two_value_at {w : World} {B b n tb : Nat} {o : Om} {T : Tr} (e : Two w B b n o tb T) {l x : Int} (hl : I64 l) (h : T.value l = x) : Calls Try.prog 22 #[.pointer (some ⟨tb, 0, none⟩), .int .i64 l] w fun r w' => r = .returned (.int .i64 x) ∧ Two w' B b n o tb T ∧ Below w.heap.size w w' := by
  rw [← h]; exact two_value e hl
theorem two_decide_ok {w : World} {B b n tb : Nat} {o : Om} {T : Tr} (e : Two w B b n o tb T) (hB : B ≤ w.heap.size) {l : Int} (hl : I64 l) (h : T.freeB l = true) : Calls Try.prog 24 #[.pointer (some ⟨tb, 0, none⟩), .int .i64 l] w fun r w' => r = .returned (.int .i64 0) ∧ Two w' B b n o tb (T.dec l) ∧ Below B w w' := by
  have := two_decide e hB hl
  rw [h] at this
  exact this
theorem ahead_at {w : World} {B b n tb : Nat} {o : Om} {T : Tr} (e : Two w B b n o tb T) {v y : Nat} (v1 : 1 ≤ v) (v2 : v ≤ n) (y1 : 1 ≤ y) (y2 : y ≤ n) (h : ahead o.acts v y = true) :
    Calls Try.prog 23 #[.pointer (some ⟨b, 0, none⟩), .int .i64 v, .int .i64 y] w fun r w' => r = .returned (.bool true) ∧ w' = w := by
  have := ahead_law e v1 v2 y1 y2
  rw [h] at this
  exact this

set_option maxRecDepth 100000 in
set_option maxHeartbeats 4000000 in
theorem next_some {w : World} {v : Value} {os : List Dd} {n : Nat} (hv : DsRd w v os) (hn : n ≤ 200) (hl : os.length ≤ 200) :
    Calls Try.prog 7 #[.int .i64 n, v] w fun r w' => r = .returned (.bool true) ∧ Below w.heap.size w w' := by
  obtain ⟨A, cap, rfl, _⟩ := id hv
  have Hv := hid hv
  have Hl := hid hl
  clear hv hl
  obtain ⟨B, hB⟩ : ∃ B, w.heap.size = B := ⟨_, rfl⟩
  go_enter Try.func7, Try.ntmps7
  rw [hB]
  go_wp2_with fail
  refine awake_any.mono ?_
  rintro r w1 ⟨rfl, b1⟩
  have Hv1 := hid (Hv.out.below b1)
  rw [hB] at b1
  have s1 := b1.size
  rw [hB] at s1
  go_wp2_with fail
  refine (played_any Hv1.out hn Hl.out).mono ?_
  rintro r w2 ⟨b, tb, rfl, t2, b2⟩
  have W2 : Hid (Two w2 B b n (playO n os) tb (playT n os)) := t2.mono s1
  have B2 : Hid (Below B w w2) := b1.trans (b2.mono s1)
  have V2 : Hid ((playT n os).vars = n) := playT_vars n os
  have F2 : Hid (frees (playT n os).value n + 0 ≤ n) := frees_le _ n
  generalize playO n os = O at W2
  generalize playT n os = T2 at W2 V2 F2
  clear t2 b1 b2
  go_wp2_with fail
  go_loopw [9, 8] (fun iv lv W => ∃ (i last : Nat) (T : Tr), i ≤ n ∧ iv = .int .i64 i ∧ lv = .int .i64 last ∧ Hid (Two W B b n O tb T) ∧ Hid (Below B w W) ∧ Hid (T.vars = n) ∧ Hid (frees T.value n + i ≤ n) ∧ Hid (last = 0 ∨ (1 ≤ last ∧ last ≤ n ∧ Lead O.acts n T.value last))) (fun iv _ _ => n + 1 - (intOf iv).toNat)
  case atStart => exact ⟨0, 0, T2, by omega, rfl, rfl, W2, B2, V2, F2, .inl rfl⟩
  case round =>
    obtain ⟨i, last, T, hi, rfl, rfl, W3, B3, V3, F3, L3⟩ := hrel
    have x1 : (i : Int) ≤ (n : Int) := by omega
    go_wp2_with fail
    go_loopw [11, 10] (fun jv fv W => ∃ j : Nat, j ≤ n ∧ jv = .int .i64 ((j : Int) + 1) ∧ fv = .int .i64 (frees T.value j : Nat) ∧ Hid (Two W B b n O tb T) ∧ Hid (Below B w W)) (fun jv _ _ => n + 1 - (intOf jv).toNat)
    case atStart => exact ⟨0, by omega, rfl, rfl, W3, B3⟩
    case round =>
      obtain ⟨j, hj, rfl, rfl, W4, B4⟩ := hrel
      have s4 := B4.out.size
      by_cases hjn : j < n
      · have x2 : (j : Int) + 1 ≤ (n : Int) := by omega
        have hI : I64 ((j : Int) + 1) := by unfold I64; omega
        obtain ⟨f, hf⟩ : ∃ f, frees T.value j = f := ⟨_, rfl⟩
        have hfj := frees_le T.value j
        rw [hf] at hfj
        obtain ⟨x, hx⟩ : ∃ x, T.value ((j : Int) + 1) = x := ⟨_, rfl⟩
        have hfs : Hid (frees T.value (j + 1) = if x = 0 then f + 1 else f) := by
          refine hid ?_
          show frees T.value j + (if T.value ((j + 1 : Nat) : Int) = 0 then 1 else 0) = _
          rw [show ((j + 1 : Nat) : Int) = (j : Int) + 1 by omega, hx, hf]
          split <;> omega
        rw [hf]
        have Hx := hid hx
        have HI := hid hI
        clear hx hf hI
        cases q : (x == 0)
        · have e : Hid (frees T.value (j + 1) = f) := by rw [hfs.out, if_neg (by simpa using q)]; exact hid rfl
          go_wp2_with fail
          refine (two_value_at W4.out HI.out Hx.out).mono ?_
          rintro r w5 ⟨rfl, W5, b5⟩
          go_wp2_with fail
          go_roundw
          case rel => exact ⟨j + 1, by omega, by go_num, by rw [e.out], W5, B4.out.trans (b5.mono (by omega))⟩
          case measure => simp [intOf]; omega
        · have e : Hid (frees T.value (j + 1) = f + 1) := by rw [hfs.out, if_pos (by simpa using q)]; exact hid rfl
          go_wp2_with fail
          refine (two_value_at W4.out HI.out Hx.out).mono ?_
          rintro r w5 ⟨rfl, W5, b5⟩
          go_wp2_with fail
          go_roundw
          case rel => exact ⟨j + 1, by omega, by go_num, by rw [e.out]; go_num, W5, B4.out.trans (b5.mono (by omega))⟩
          case measure => simp [intOf]; omega
      · have x2 : (n : Int) < (j : Int) + 1 := by omega
        have ejn : j = n := by omega
        rw [ejn] at x2 ⊢
        clear ejn hj hjn
        clear j
        obtain ⟨f, hf⟩ : ∃ f, frees T.value n = f := ⟨_, rfl⟩
        obtain ⟨k, hk⟩ : ∃ k, nextBest O.acts T.value n = k := ⟨_, rfl⟩
        have hkf := nextBest_frees O.acts T.value n
        rw [hk, hf] at hkf
        rw [hf]
        have hfn : f ≤ n := by rw [← hf]; exact frees_le _ n
        have Hf := hid hf
        have Hk := hid hk
        clear hk hf
        by_cases k0 : k = 0
        · have f0 : f = 0 := by subst k0; simpa using hkf
          have x3 : (f : Int) ≤ 0 := by omega
          have Hk0 : Hid ((nextBest O.acts T.value n : Nat) = (0 : Int)) := by rw [Hk.out, k0]; exact hid rfl
          have Hk1 : Hid (decide (0 < nextBest O.acts T.value n) = false) := by rw [Hk.out, k0]; exact hid rfl
          clear hkf k0 f0 Hk Hf
          go_wp2_with fail
          refine (two_next_at W4.out Hk0.out Hk1.out).mono ?_
          rintro r w5 ⟨rfl, W5, b5⟩
          go_wp2_with fail
          go_ret
          exact ⟨rfl, B4.out.trans (b5.mono (by omega))⟩
        · have f0 : 0 < f := by
            have : decide (0 < k) = true := by simp; omega
            rw [this] at hkf
            simpa using hkf.symm
          have x3 : (0 : Int) < (f : Int) := by omega
          obtain ⟨k2, k3, k4, k5, k6, k7⟩ := lead_next V3.out Hk.out (by omega)
          have Hk1 : Hid (decide (0 < nextBest O.acts T.value n) = true) := by rw [Hk.out]; refine hid ?_; simp; omega
          have x4 : ((k : Int) < 1) = False := by simp; omega
          have x5 : ((n : Int) < (k : Int)) = False := by simp; omega
          have x5n : (n < k) = False := by simp; omega
          have k1 : 1 ≤ k := by omega
          have HI : Hid (I64 (k : Int)) := by refine hid ?_; unfold I64; omega
          have K4 := hid k4
          have K3 := hid k3
          have K5 := hid k5
          have K6 := hid k6
          have K7 := hid k7
          clear hkf k0 k3 k4 k5 k6 k7
          go_wp2_with fail
          refine (two_next_at W4.out (k := k) (q := true) (by rw [Hk.out]) Hk1.out).mono ?_
          rintro r w5 ⟨rfl, W5, b5⟩
          have B5 : Hid (Below B w w5) := B4.out.trans (b5.mono (by omega))
          have s5 := B5.out.size
          have W5 := hid W5
          have Hk0 : Hid (T.value (k : Int) = 0) := K3
          clear b5 B4 W4 s4 B3 W3
          rcases L3.out with x6 | ⟨l1, l2, l3⟩
          · have x6 : (last : Int) ≤ 0 := by omega
            go_wp2_with fail
            refine (two_value_at W5.out HI.out Hk0.out).mono ?_
            rintro r w6 ⟨rfl, W6, b6⟩
            have B6 : Hid (Below B w w6) := B5.out.trans (b6.mono (by omega))
            have W6 := hid W6
            clear b6 B5 W5 s5
            go_wp2_with fail
            go_loopw [14] (fun yv W => ∃ y : Nat, 1 ≤ y ∧ y ≤ n + 1 ∧ yv = .int .i64 y ∧ Hid (Two W B b n O tb T) ∧ Hid (Below B w W)) (fun yv _ => n + 1 - (intOf yv).toNat)
            case atStart => exact ⟨1, by omega, by omega, rfl, W6, B6⟩
            case round =>
              obtain ⟨y, y1, y2, rfl, W7, B7⟩ := hrel
              have s7 := B7.out.size
              by_cases hyn : y ≤ n
              · have x7 : (y : Int) ≤ (n : Int) := by omega
                cases q : ((y : Int) != (k : Int))
                · go_wp2_with fail
                  go_roundw
                  case rel => exact ⟨y + 1, by omega, by omega, by go_num, W7, B7⟩
                  case measure => simp [intOf]; omega
                · have hne : y ≠ k := fun e => by subst e; simp at q
                  have HIy : Hid (I64 (y : Int)) := by refine hid ?_; unfold I64; omega
                  obtain ⟨x, hx⟩ : ∃ x, T.value (y : Int) = x := ⟨_, rfl⟩
                  have Hx := hid hx
                  clear hx
                  cases q2 : (x == 0)
                  · go_wp2_with fail
                    refine (two_value_at W7.out HIy.out Hx.out).mono ?_
                    rintro r w8 ⟨rfl, W8, b8⟩
                    go_wp2_with fail
                    go_roundw
                    case rel => exact ⟨y + 1, by omega, by omega, by go_num, W8, B7.out.trans (b8.mono (by omega))⟩
                    case measure => simp [intOf]; omega
                  · have hah2 := hid (K4.out y y1 hyn (by rw [Hx.out]; simpa using q2) hne)
                    go_wp2_with fail
                    refine (two_value_at W7.out HIy.out Hx.out).mono ?_
                    rintro r w8 ⟨rfl, W8, b8⟩
                    have W8 := hid W8
                    have B8 : Hid (Below B w w8) := B7.out.trans (b8.mono (by omega))
                    clear b8
                    go_wp2_with fail
                    refine (ahead_at W8.out k1 k2 y1 hyn hah2.out).mono ?_
                    rintro r w' ⟨rfl, rfl⟩
                    go_wp2_with fail
                    go_roundw
                    case rel => exact ⟨y + 1, by omega, by omega, by go_num, W8, B8⟩
                    case measure => simp [intOf]; omega
              · have x7 : (n : Int) < (y : Int) := by omega
                have hnew : Hid (i + 1 ≤ n ∧ frees (T.dec k).value n + (i + 1) ≤ n) := by
                  have h1 := K7.out
                  have h2 := F3.out
                  refine hid ?_
                  omega
                go_wp2_with fail
                refine (two_decide_ok W7.out (by omega) HI.out K5.out).mono ?_
                rintro r w8 ⟨rfl, W8, b8⟩
                go_wp2_with fail
                go_roundw
                case rel => exact ⟨i + 1, k, T.dec k, hnew.out.1, by go_num, rfl, W8, B7.out.trans b8, (Tr.dec_vars T k).trans V3.out, hnew.out.2, .inr ⟨k1, k2, K6.out⟩⟩
                case measure => have := hnew.out.1; simp [intOf]; omega
          · have x6 : (0 : Int) < (last : Int) := by omega
            have hah := hid (l3 k k1 k2 Hk0.out)
            clear l3
            go_wp2_with fail
            refine (two_value_at W5.out HI.out Hk0.out).mono ?_
            rintro r w6 ⟨rfl, W6, b6⟩
            have B6 : Hid (Below B w w6) := B5.out.trans (b6.mono (by omega))
            have W6 := hid W6
            clear b6 B5 W5 s5
            go_wp2_with fail
            refine (ahead_at W6.out l1 l2 k1 k2 hah.out).mono ?_
            rintro r w' ⟨rfl, rfl⟩
            go_wp2_with fail
            go_loopw [14] (fun yv W => ∃ y : Nat, 1 ≤ y ∧ y ≤ n + 1 ∧ yv = .int .i64 y ∧ Hid (Two W B b n O tb T) ∧ Hid (Below B w W)) (fun yv _ => n + 1 - (intOf yv).toNat)
            case atStart => exact ⟨1, by omega, by omega, rfl, W6, B6⟩
            case round =>
              obtain ⟨y, y1, y2, rfl, W7, B7⟩ := hrel
              have s7 := B7.out.size
              by_cases hyn : y ≤ n
              · have x7 : (y : Int) ≤ (n : Int) := by omega
                cases q : ((y : Int) != (k : Int))
                · go_wp2_with fail
                  go_roundw
                  case rel => exact ⟨y + 1, by omega, by omega, by go_num, W7, B7⟩
                  case measure => simp [intOf]; omega
                · have hne : y ≠ k := fun e => by subst e; simp at q
                  have HIy : Hid (I64 (y : Int)) := by refine hid ?_; unfold I64; omega
                  obtain ⟨x, hx⟩ : ∃ x, T.value (y : Int) = x := ⟨_, rfl⟩
                  have Hx := hid hx
                  clear hx
                  cases q2 : (x == 0)
                  · go_wp2_with fail
                    refine (two_value_at W7.out HIy.out Hx.out).mono ?_
                    rintro r w8 ⟨rfl, W8, b8⟩
                    go_wp2_with fail
                    go_roundw
                    case rel => exact ⟨y + 1, by omega, by omega, by go_num, W8, B7.out.trans (b8.mono (by omega))⟩
                    case measure => simp [intOf]; omega
                  · have hah2 := hid (K4.out y y1 hyn (by rw [Hx.out]; simpa using q2) hne)
                    go_wp2_with fail
                    refine (two_value_at W7.out HIy.out Hx.out).mono ?_
                    rintro r w8 ⟨rfl, W8, b8⟩
                    have W8 := hid W8
                    have B8 : Hid (Below B w w8) := B7.out.trans (b8.mono (by omega))
                    clear b8
                    go_wp2_with fail
                    refine (ahead_at W8.out k1 k2 y1 hyn hah2.out).mono ?_
                    rintro r w' ⟨rfl, rfl⟩
                    go_wp2_with fail
                    go_roundw
                    case rel => exact ⟨y + 1, by omega, by omega, by go_num, W8, B8⟩
                    case measure => simp [intOf]; omega
              · have x7 : (n : Int) < (y : Int) := by omega
                have hnew : Hid (i + 1 ≤ n ∧ frees (T.dec k).value n + (i + 1) ≤ n) := by
                  have h1 := K7.out
                  have h2 := F3.out
                  refine hid ?_
                  omega
                go_wp2_with fail
                refine (two_decide_ok W7.out (by omega) HI.out K5.out).mono ?_
                rintro r w8 ⟨rfl, W8, b8⟩
                go_wp2_with fail
                go_roundw
                case rel => exact ⟨i + 1, k, T.dec k, hnew.out.1, by go_num, rfl, W8, B7.out.trans b8, (Tr.dec_vars T k).trans V3.out, hnew.out.2, .inr ⟨k1, k2, K6.out⟩⟩
                case measure => have := hnew.out.1; simp [intOf]; omega

set_option maxRecDepth 100000 in
set_option maxHeartbeats 4000000 in
theorem next_walk {w : World} {v : Value} {os : List Dd} {x : Int} (hv : DsRd w v os) :
    Calls Try.prog 7 #[.int .i64 x, v] w fun r w' => r = .returned (.bool true) ∧ Below w.heap.size w w' := by
  by_cases hb : (x < 0 ∨ 200 < x) ∨ 200 < os.length
  · obtain ⟨A, cap, rfl, _⟩ := id hv
    generalize os.length = m at hb
    clear hv
    go_enter Try.func7, Try.ntmps7
    go_wp2_with fail
    refine awake_any.mono ?_
    rintro r w1 ⟨rfl, b1⟩
    have s1 := b1.size
    go_wp2_with fail
    refine (played_none hb).mono ?_
    rintro r w2 ⟨rfl, b2⟩
    go_wp2_with fail
    go_ret
    exact ⟨rfl, b1.trans (b2.mono s1)⟩
  · obtain ⟨n, rfl⟩ : ∃ n : Nat, x = n := ⟨x.toNat, by omega⟩
    exact next_some hv (by omega) (by omega)
end Go.Proofs.Ytdkbchpogmiohaa
