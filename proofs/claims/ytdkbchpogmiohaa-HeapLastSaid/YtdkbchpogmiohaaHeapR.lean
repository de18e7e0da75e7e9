/-
  The statement HeapLast.
-/
import Derived.Test.YtdkbchpogmiohaaHeapN
namespace Go.Proofs.Ytdkbchpogmiohaa
open Go.RowKit

theorem zeros_nth (n k : Nat) : nth (List.replicate n (0 : Int)) k = 0 := by
  unfold nth
  rw [List.getElem?_replicate]
  split <;> rfl
/-- Behind the first bump and some decays. -/
structure Decayed (v N : Nat) (o : Om) (j : Nat) : Prop where
  len : o.acts.length = N + 1
  one : nth o.acts v = 1
  rest : ∀ y, y ≠ v → nth o.acts y = 0
  lo : 1 ≤ o.inc
  lo2 : 1 ≤ j → 2 ≤ o.inc
  hi : o.inc ≤ 2 ^ j
theorem Decayed.start {v N : Nat} (h2 : v ≤ N) : Decayed v N ((Om.new N).bump v) 0 := by
  have e : (Om.new N).bump v = ⟨(List.replicate (N + 1) 0).set v 1, 1⟩ := by
    unfold Om.bump
    have : nth (Om.new N).acts v = 0 := zeros_nth (N + 1) v
    rw [this]
    rfl
  rw [e]
  have hlen : (List.set (List.replicate (N + 1) (0 : Int)) v 1).length = N + 1 := by rw [List.length_set, List.length_replicate]
  refine ⟨hlen, ?_, fun y hy => ?_, Int.le_refl 1, fun h => by omega, Int.le_refl 1⟩
  · show nth (List.set _ _ _) _ = _
    rw [nth_set', if_pos ⟨rfl, by rw [List.length_replicate]; omega⟩]
  · show nth (List.set _ _ _) _ = _
    rw [nth_set', if_neg (fun h => hy h.1.symm)]
    exact zeros_nth (N + 1) y
theorem Decayed.step {v N j : Nat} {o : Om} (e : Decayed v N o j) (hj : j < 30) : Decayed v N o.decay (j + 1) := by
  have h1 := e.lo
  have h2 := e.hi
  have hp : (2 : Int) ^ j ≤ 2 ^ 30 := by
    have : 2 ^ j ≤ 2 ^ 30 := Nat.pow_le_pow_right (by decide) (by omega)
    exact_mod_cast this
  have h3 : (2 : Int) ^ (j + 1) = 2 * 2 ^ j := by rw [Int.pow_succ]; omega
  have h4 : (2 : Int) ^ 30 = 1073741824 := by decide
  have ed : o.decay = ⟨o.acts, o.inc + (o.inc / 8 + 1)⟩ := by unfold Om.decay; rw [if_neg (by omega)]
  rw [ed]
  exact ⟨e.len, e.one, e.rest, by dsimp only; omega, fun _ => by dsimp only; omega, by dsimp only; rw [h3]; omega⟩
theorem Decayed.last {v w N j : Nat} {o : Om} (e : Decayed v N o j) (h1 : 1 ≤ w) (h2 : w ≤ N) (hj1 : 1 ≤ j) (hj : j ≤ 30) {val : Int → Int} (hval : ∀ y, val y = 0) :
    nextBest (o.bump w).acts val N = w ∧ (v ≠ w → nth (o.bump w).acts v = 1 ∧ 2 ≤ nth (o.bump w).acts w) := by
  have hp : (2 : Int) ^ j ≤ 2 ^ 30 := by
    have : 2 ^ j ≤ 2 ^ 30 := Nat.pow_le_pow_right (by decide) (by omega)
    exact_mod_cast this
  have h4 : (2 : Int) ^ 30 = 1073741824 := by decide
  have h5 := e.hi
  have h6 := e.lo2 hj1
  have a0 : 0 ≤ nth o.acts w ∧ nth o.acts w ≤ 1 := by
    by_cases hw : w = v
    · subst hw; rw [e.one]; omega
    · rw [e.rest w hw]; omega
  have ed : o.bump w = ⟨o.acts.set w (nth o.acts w + o.inc), o.inc⟩ := by unfold Om.bump; rw [if_neg (by omega)]
  rw [ed]
  have aw : nth (o.acts.set w (nth o.acts w + o.inc)) w = nth o.acts w + o.inc := by rw [nth_set', if_pos ⟨rfl, by have := e.len; omega⟩]
  have ay : ∀ y, y ≠ w → nth (o.acts.set w (nth o.acts w + o.inc)) y = nth o.acts y := fun y hy => by rw [nth_set', if_neg (fun h => hy h.1.symm)]
  refine ⟨?_, fun hv => ⟨?_, ?_⟩⟩
  · show nextBest (o.acts.set w (nth o.acts w + o.inc)) val N = w
    rcases nextBest_spec (o.acts.set w (nth o.acts w + o.inc)) val N with ⟨_, k2⟩ | ⟨k1, k2, _, k4⟩
    · exact absurd (hval w) (k2 w h1 h2)
    · refine Classical.byContradiction fun hne => ?_
      have hk := k4 w h1 h2 (hval w) (fun h => hne h.symm)
      rw [ahead_iff, aw, ay _ hne] at hk
      have : nth o.acts (nextBest (o.acts.set w (nth o.acts w + o.inc)) val N) ≤ 1 := by
        by_cases hw : nextBest (o.acts.set w (nth o.acts w + o.inc)) val N = v
        · rw [hw, e.one]; omega
        · rw [e.rest _ hw]; omega
      omega
  · rw [ay v hv]; exact e.one
  · show 2 ≤ nth (o.acts.set w (nth o.acts w + o.inc)) w
    rw [aw]; omega

theorem exT_value (n : Nat) (y : Int) : (⟨n, [], []⟩ : Tr).value y = 0 := by simp [Tr.value, Tr.lits]

set_option maxRecDepth 100000 in
set_option maxHeartbeats 4000000 in
theorem last_walk {w : World} {d a c : Int} (hd : 0 ≤ d ∧ d ≤ 255) (ha : 0 ≤ a ∧ a ≤ 255) (hc : 0 ≤ c ∧ c ≤ 255) :
    Calls Try.prog 4 #[.int .u8 d, .int .u8 a, .int .u8 c] w fun r w' => r = .returned (.bool true) ∧ Below w.heap.size w w' := by
  obtain ⟨d, rfl⟩ : ∃ x : Nat, d = x := ⟨d.toNat, by omega⟩
  obtain ⟨a, rfl⟩ : ∃ x : Nat, a = x := ⟨a.toNat, by omega⟩
  obtain ⟨c, rfl⟩ : ∃ x : Nat, c = x := ⟨c.toNat, by omega⟩
  obtain ⟨v, hv⟩ : ∃ v, a + 1 = v := ⟨_, rfl⟩
  obtain ⟨u, hu⟩ : ∃ u, c + 1 = u := ⟨_, rfl⟩
  obtain ⟨e, he⟩ : ∃ e, d % 20 = e := ⟨_, rfl⟩
  have z1 : (a : Int) + 1 = (v : Int) := by omega
  have z2 : (c : Int) + 1 = (u : Int) := by omega
  have z3 : (d : Int).tmod 20 = (e : Int) := by rw [Int.tmod_eq_emod_of_nonneg (by omega)]; omega
  have z4 : IntKind.i64.wrap (e : Int) = (e : Int) := iw (by omega) (by omega)
  have v1 : 1 ≤ v ∧ v ≤ 256 := by omega
  have u1 : 1 ≤ u ∧ u ≤ 256 := by omega
  have e20 : e < 20 := by omega
  obtain ⟨N, hN⟩ : ∃ N, 256 = N := ⟨_, rfl⟩
  obtain ⟨B, hB⟩ : ∃ B, w.heap.size = B := ⟨_, rfl⟩
  rw [hB]
  have HN := hid hN
  clear hv hu he hN
  go_enter Try.func4, Try.ntmps4
  go_wp2_with fail
  refine awake_any.mono ?_
  rintro r w1 ⟨rfl, b1⟩
  rw [hB] at b1
  have s1 := b1.size
  go_wp2_with fail
  refine (onew_any (n := 256) (by decide)).mono ?_
  rintro r w2 ⟨b, rfl, o2, b2⟩
  have s2 := b2.size
  go_wp2_with fail
  refine (new_ok (vars := 256) (by decide)).mono ?_
  rintro r w3 ⟨⟨tb, rfl, t3⟩, b3⟩
  have W3 : Hid (Two w3 B b 256 (Om.new 256) tb ⟨256, [], []⟩) := Two.make (B1 := w2.heap.size) (o2.mono fun g _ hg => by omega) rfl t3 b3 (by omega)
  rw [HN.out] at W3
  have B3 : Hid (Below B w w3) := (b1.trans (b2.mono (by omega))).trans (b3.mono (by omega))
  have s3 := B3.out.size
  clear b1 b2 b3 o2 t3
  go_wp2_with fail
  refine (two_bump W3.out (by omega) v).mono ?_
  rintro r w4 ⟨rfl, W4, b4⟩
  have hv2 : hasv N (v : Int) = true := by have := HN.out; simp [hasv]; omega
  have hu2 : hasv N (u : Int) = true := by have := HN.out; simp [hasv]; omega
  have W4 : Hid (Two w4 B b N ((Om.new N).bump v) tb ⟨N, [], []⟩) := by rw [Om.bumpI, if_pos hv2, Int.toNat_natCast] at W4; exact W4
  have B4 : Hid (Below B w w4) := B3.out.trans b4
  have s4 := B4.out.size
  have Hv2 := hid hv2
  have Hu2 := hid hu2
  clear b4 hv2 hu2
  go_wp2_with fail
  go_loopw [13] (fun iv W => ∃ (j : Nat) (o : Om), j ≤ e + 1 ∧ iv = .int .i64 j ∧ Hid (Decayed v N o j) ∧ Hid (Two W B b N o tb ⟨N, [], []⟩) ∧ Hid (Below B w W)) (fun iv _ => e + 1 - (intOf iv).toNat)
  case atStart => exact ⟨0, _, by omega, rfl, hid (Decayed.start (by have := HN.out; omega)), W4, B4⟩
  case round =>
    obtain ⟨j, o, hj, rfl, D, W5, B5⟩ := hrel
    have s5 := B5.out.size
    by_cases hlt : j ≤ e
    · have x1 : (j : Int) ≤ (e : Int) := by omega
      go_wp2_with fail
      refine (two_decay W5.out (by omega)).mono ?_
      rintro r w6 ⟨rfl, W6, b6⟩
      go_wp2_with fail
      go_roundw
      case rel => exact ⟨j + 1, o.decay, by omega, by go_num, D.out.step (by omega), W6, B5.out.trans b6⟩
      case measure => simp [intOf]; omega
    · have x1 : (e : Int) < (j : Int) := by omega
      obtain ⟨L1, L2⟩ := D.out.last u1.1 (by have := HN.out; omega) (by omega) (by omega) (val := (⟨N, [], []⟩ : Tr).value) (exT_value N)
      have HL1 := hid L1
      have HL2 := hid L2
      clear L1 L2
      go_wp2_with fail
      refine (two_bump W5.out (by omega) u).mono ?_
      rintro r w6 ⟨rfl, W6, b6⟩
      have W6 : Hid (Two w6 B b N (o.bump u) tb ⟨N, [], []⟩) := by rw [Om.bumpI, if_pos Hu2.out, Int.toNat_natCast] at W6; exact W6
      have B6 : Hid (Below B w w6) := B5.out.trans b6
      have s6 := B6.out.size
      clear b6
      go_wp2_with fail
      refine (two_next_at W6.out (k := u) (q := true) (by rw [HL1.out]) (by rw [HL1.out]; simp; omega)).mono ?_
      rintro r w7 ⟨rfl, W7, b7⟩
      have B7 : Hid (Below B w w7) := B6.out.trans (b7.mono (by omega))
      have W7 := hid W7
      clear b7
      have y1 : ((u : Int) == (u : Int)) = true := by simp
      by_cases hvu : v = u
      · subst hvu
        go_wp2_with fail
        go_ret
        exact ⟨rfl, B7.out⟩
      · have y2 : ((v : Int) == (u : Int)) = false := by simp; omega
        obtain ⟨l1, l2⟩ := HL2.out hvu
        have A1 : actv (o.bump u).acts N (v : Int) = 1 := by rw [actv, if_pos Hv2.out, Int.toNat_natCast, l1]
        obtain ⟨k, hk⟩ : ∃ k, actv (o.bump u).acts N (u : Int) = k := ⟨_, rfl⟩
        have k2 : 2 ≤ k := by rw [← hk, actv, if_pos Hu2.out, Int.toNat_natCast]; exact l2
        have A2 := hid hk
        have A1 := hid A1
        clear hk l1 l2
        go_wp2_with fail
        refine (two_activity_at W7.out A2.out).mono ?_
        rintro r w' ⟨rfl, rfl⟩
        go_wp2_with fail
        refine (two_activity_at W7.out A1.out).mono ?_
        rintro r w' ⟨rfl, rfl⟩
        go_wp2_with fail
        refine (two_activity_at W7.out A1.out).mono ?_
        rintro r w' ⟨rfl, rfl⟩
        go_wp2_with fail
        go_ret
        exact ⟨rfl, B7.out⟩
end Go.Proofs.Ytdkbchpogmiohaa
