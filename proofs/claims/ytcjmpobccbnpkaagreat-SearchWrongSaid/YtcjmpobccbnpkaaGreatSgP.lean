/-
  The law SearchWrong.
-/
import Derived.Test.YtcjmpobccbnpkaaGreatSgO
namespace Go.Proofs.YtcjmpobccbnpkaaGreat
open Go.RowKit

set_option maxRecDepth 100000 in
set_option maxHeartbeats 8000000 in
theorem wrong_walk {w : World} {A B C : Option Addr} {n cA m cB q cC : Nat} {lls kks : List (List Int)} {bs : List Int} {nn x : Int} (hl : LsRd w (fun _ => True) A n cA lls) (hk : LsRd w (fun _ => True) B m cB kks) (hb : Rd w (fun _ => True) 1 (.slice C q cC) q (ints bs)) :
    Calls Tryz.prog 3 #[.slice A n cA, .slice B m cB, .slice C q cC, .int .i64 nn, .int .i64 x] w fun r w' => r = .returned (.bool true) ∧ Below w.heap.size w w' := by
  obtain ⟨mn, hmn⟩ : ∃ k : Int, min nn (-1) = k := ⟨_, rfl⟩
  obtain ⟨mx, hmx⟩ : ∃ k : Int, max nn 65537 = k := ⟨_, rfl⟩
  obtain ⟨bg, hbg⟩ : ∃ k : Int, max x 8 = k := ⟨_, rfl⟩
  obtain ⟨sm, hsm⟩ : ∃ k : Int, min x (-8) = k := ⟨_, rfl⟩
  have h1 : ∀ w, (Builtin.min_ #[3, 3] 3 #[.int .i64 nn, .int .i64 (-1)]).run Tryz.prog w = .ok (.int .i64 mn) w := fun w => by rw [run_min, hmn]
  have h2 : ∀ w, (Builtin.max_ #[3, 3] 3 #[.int .i64 nn, .int .i64 65537]).run Tryz.prog w = .ok (.int .i64 mx) w := fun w => by rw [run_max, hmx]
  have h3 : ∀ w, (Builtin.max_ #[3, 3] 3 #[.int .i64 x, .int .i64 8]).run Tryz.prog w = .ok (.int .i64 bg) w := fun w => by rw [run_max, hbg]
  have h4 : ∀ w, (Builtin.min_ #[3, 3] 3 #[.int .i64 x, .int .i64 (-8)]).run Tryz.prog w = .ok (.int .i64 sm) w := fun w => by rw [run_min, hsm]
  have Hmn := hid (show mn < 0 by omega)
  have Hmx := hid (show 65536 < mx by omega)
  have Hbg := hid (show 8 ≤ bg by omega)
  have Hsm := hid (show sm ≤ -8 by omega)
  have Hl := hid hl
  have Hk := hid hk
  have Hb := hid hb
  obtain ⟨z0, hz0⟩ : ∃ z, w.heap.size = z := ⟨_, rfl⟩
  obtain ⟨X0, hX0, bX0, kX0, sX0⟩ := alloc_step w (.cells #[.int .i64 0, .pointer none, .pointer none, .pointer none, .map none, .slice none 0 0] 31)
  obtain ⟨X1, hX1, bX1, kX1, sX1⟩ := alloc_step X0 (.cells #[.pointer none, .pointer (some ⟨z0, 0, none⟩)] 24)
  have HX0 := hid hX0
  have HX1 := hid hX1
  have B1 := hid (bX0.trans (bX1.mono bX0.size))
  rw [hz0] at kX0 sX0
  rw [sX0] at kX1 sX1
  have K0 := hid (keep_blk kX0 bX1)
  have K1 := hid kX1
  have hzw := B1.out.size
  clear hmn hmx hbg hsm hl hk hb bX0 bX1 kX0 kX1 hX0 hX1
  go_enter Tryz.func3, Tryz.ntmps3
  go_wp2_with fail
  rw [HX0.out]
  try rw [hz0]
  rw [HX1.out]
  clear HX0 HX1 sX0 sX1 hz0
  have hzw := B1.out.size
  go_loopw [44] (fun iv W => ∃ k : Nat, k ≤ 2 ∧ iv = .int .i64 k ∧ Hid (Below X1.heap.size X1 W)) (fun iv _ => 2 - (intOf iv).toNat)
  case atStart => exact ⟨0, Nat.zero_le _, rfl, Below.refl _ _⟩
  case round =>
    obtain ⟨V, rfl⟩ : ∃ V, V = wr := ⟨_, rfl⟩
    obtain ⟨k, hk2, rfl, HB⟩ := hrel
    have hsV := HB.out.size
    rcases Nat.lt_or_ge k 2 with hlt | hge
    · have x1 : (k : Int) < 2 := by omega
      obtain ⟨p, e0, hg⟩ : ∃ p : Option Addr, V.cell? ⟨z0 + 1, k, none⟩ = some (.pointer p) ∧ Gone V (.pointer p) := by
        have hK := keep_blk K1.out HB.out
        have hK0 := keep_blk K0.out HB.out
        rcases (by omega : k = 0 ∨ k = 1) with rfl | rfl
        · exact ⟨none, by rw [cell_of_row _ _ _ _ _ _ hK]; rfl, Gone.nil _⟩
        · exact ⟨some ⟨z0, 0, none⟩, by rw [cell_of_row _ _ _ _ _ _ hK]; rfl, Gone.zero (lt_of_block hK0) (by rw [cell_of_row _ _ _ _ _ _ hK0]; rfl)⟩
      have Hg := hid hg
      clear hg
      go_wp2_with fail
      refine (ssolve_gone Hg.out).mono ?_
      rintro r w2 ⟨rfl, b2⟩
      have Hg := hid (Hg.out.below b2)
      have HB := hid (HB.out.trans (b2.mono HB.out.size))
      obtain ⟨X3, hX, bX, kX, sX⟩ := alloc_step w2 (.cells #[.bool false, .slice none 0 0, .slice none 0 0] 35)
      obtain ⟨zr, hzr⟩ : ∃ z, w2.heap.size = z := ⟨_, rfl⟩
      rw [hzr] at kX
      have HX3 := hid hX
      have Hg := hid (Hg.out.below bX)
      have HB := hid (HB.out.trans (bX.mono HB.out.size))
      have KR := hid kX
      clear b2 hX bX kX sX e0
      go_wp2_with fail
      rw [HX3.out]
      refine (sadd_gone Hg.out).mono ?_
      rintro r w4 ⟨rfl, b4⟩
      have Hg := hid (Hg.out.below b4)
      have HB := hid (HB.out.trans (b4.mono HB.out.size))
      obtain ⟨t0, t1, t2⟩ := box3 (keep_blk KR.out b4)
      clear b4 hzr
      go_wp2_with fail
      refine (slog_gone Hg.out).mono ?_
      rintro r w5 ⟨rfl, rfl⟩
      go_wp2_with fail
      go_roundw
      case rel => exact ⟨k + 1, by omega, by go_num, HB⟩
      case measure => simp [intOf]; omega
    · obtain rfl : k = 2 := by omega
      have x1 : ¬ (((2 : Nat) : Int) < 2) := by omega
      have B2 := hid (B1.out.trans (HB.out.mono hzw))
      clear K0 K1 B1 HB hk2 hge
      have hmn := Hmn.out
      go_wp2_with fail
      refine (snew_bad (.inl Hmn.out)).mono ?_
      rintro r w6 ⟨rfl, rfl⟩
      clear hmn
      go_wp2_with fail
      refine (snew_bad (.inr Hmx.out)).mono ?_
      rintro r w7 ⟨rfl, rfl⟩
      have Hsml := hid (small32_any (Hl.out.below B2.out) (Hk.out.below B2.out) (Hb.out.below B2.out))
      clear Hl Hk Hb
      go_wp2_with fail
      refine Hsml.out.mono ?_
      rintro r w8 ⟨⟨A1, n1, c1, ts1, rfl, hD⟩, b8⟩
      have hok1 : OkN 7 (small7 lls kks bs (min lls.length 24)) := fun p hp => small7_mem hp
      have hle1 := small7_len lls kks bs (min lls.length 24)
      obtain ⟨ps, hps⟩ : ∃ ps, small7 lls kks bs (min lls.length 24) = ps := ⟨_, rfl⟩
      rw [hps] at hD hok1 hle1
      have hn1 : n1 ≤ 24 := by rw [← hD.len]; omega
      have Hok := hid hok1
      have Hi64 := hid (fun p hp => (Hok.out p hp).1.i64)
      have HD := hid (hD.rd.mono (F' := fun g => g < w8.heap.size) (G' := fun g => g < w8.heap.size) (fun g hg _ => hg) fun g hg h => hg)
      have Hlen := hid (show ps.length = n1 from hD.len)
      have B8 := hid (B2.out.trans (b8.mono B2.out.size))
      have hw8 := B8.out.size
      clear hok1 hle1 hps hD b8 Hsml B2
      go_wp2_with fail
      have hld := loaded32_any (n := 7) HD.out Hi64.out Hok.out.fits (by omega) (by omega)
      rw [show ((7 : Nat) : Int) = 7 from rfl] at hld
      refine hld.mono ?_
      rintro r w9 ⟨⟨sb, rfl, tb, eb, ob, pm, S, h1', h2', h3', h4'⟩, b9⟩
      obtain ⟨F, hp1, hF⟩ := (h1'.mono (fun _ h => .inr h) : SolP w9 (fun g => False ∨ w8.heap.size ≤ g) sb tb eb ob pm S).pack (w := w8)
      have H := hid hp1
      have HK := hid (Kept.start h2' h3' h4' Hok.out)
      have Hcs := hid (show S.E.cs.length ≤ 400000 by rw [h3', Hlen.out]; omega)
      have Hlg := hid (show S.log.length ≤ 400000 by rw [h4']; simp)
      have Hsv := hid (show S.vars = 7 from h2'.sv)
      have HF := hid (show ∀ g, F g → w8.heap.size ≤ g ∧ g < w9.heap.size from fun g hg => ⟨(hF g hg).2.elim (fun h => h.elim) id, (hF g hg).1⟩)
      have HB := hid b9
      have hs9 : w9.heap.size ≤ w9.heap.size := Nat.le_refl _
      have hsW := b9.size
      clear h1' h2' h3' h4' b9 hld hp1 hF
      go_wp2_with fail
      obtain ⟨L10, hX, bX, rX, sX⟩ := lit_step w9 [1, bg] (by simp) (by simp)
      rw [show w9.alloc (.cells #[.int .i64 1, .int .i64 bg] 3) = L10 from hX]
      have rX : Rd L10 (fun g => g = w9.heap.size) 1 (.slice (some ⟨w9.heap.size, 0, none⟩) 2 2) 2 (ints [1, bg]) := rX
      have H := hid (H.out.below bX)
      have HB := hid (HB.out.trans (bX.mono HB.out.size))
      have hsW := HB.out.size
      have hs9 := Nat.le_trans hs9 bX.size
      have RX := hid rX
      clear hX bX sX rX
      refine (ssolve_bad (asm := [1, bg]) H.out (by rw [Hsv.out]; omega) RX.out (.inr (.inr ⟨by omega, by rw [Hsv.out]; have := Hbg.out; simp; omega⟩))).mono ?_
      rintro r w10 ⟨rfl, bw⟩
      have H := hid (H.out.below bw)
      have HB := hid (HB.out.trans (bw.mono HB.out.size))
      have hsW := HB.out.size
      have hs9 := Nat.le_trans hs9 bw.size
      clear bw
      clear RX
      obtain ⟨Y10, hX, bX, kX, sX⟩ := alloc_step w10 (.cells #[.bool false, .slice none 0 0, .slice none 0 0] 35)
      have HX := hid hX
      have HsX := hid sX
      have H := hid (H.out.below bX)
      have HB := hid (HB.out.trans (bX.mono HB.out.size))
      have hsW := HB.out.size
      have hs9 := Nat.le_trans hs9 bX.size
      clear hX bX kX sX
      go_wp2_with fail
      rw [HX.out]
      obtain ⟨L11, hX, bX, rX, sX⟩ := lit_step Y10 [sm] (by simp) (by simp)
      rw [show Y10.alloc (.cells #[.int .i64 sm] 3) = L11 from hX]
      have rX : Rd L11 (fun g => g = Y10.heap.size) 1 (.slice (some ⟨Y10.heap.size, 0, none⟩) 1 1) 1 (ints [sm]) := rX
      rw [HsX.out] at rX
      have H := hid (H.out.below bX)
      have HB := hid (HB.out.trans (bX.mono HB.out.size))
      have hsW := HB.out.size
      have hs9 := Nat.le_trans hs9 bX.size
      have RX := hid rX
      clear hX bX sX rX
      refine (ssolve_bad (asm := [sm]) H.out (by rw [Hsv.out]; omega) RX.out (.inr (.inr ⟨by omega, by rw [Hsv.out]; have := Hsm.out; simp; omega⟩))).mono ?_
      rintro r w11 ⟨rfl, bw⟩
      have H := hid (H.out.below bw)
      have HB := hid (HB.out.trans (bw.mono HB.out.size))
      have hsW := HB.out.size
      have hs9 := Nat.le_trans hs9 bw.size
      clear bw
      clear RX
      obtain ⟨Y11, hX, bX, kX, sX⟩ := alloc_step w11 (.cells #[.bool false, .slice none 0 0, .slice none 0 0] 35)
      have HX := hid hX
      have HsX := hid sX
      have H := hid (H.out.below bX)
      have HB := hid (HB.out.trans (bX.mono HB.out.size))
      have hsW := HB.out.size
      have hs9 := Nat.le_trans hs9 bX.size
      clear hX bX kX sX
      go_wp2_with fail
      rw [HX.out]
      obtain ⟨L12, hX, bX, rX, sX⟩ := lit_step Y11 [0] (by simp) (by simp)
      rw [show Y11.alloc (.cells #[.int .i64 0] 3) = L12 from hX]
      have rX : Rd L12 (fun g => g = Y11.heap.size) 1 (.slice (some ⟨Y11.heap.size, 0, none⟩) 1 1) 1 (ints [0]) := rX
      rw [HsX.out] at rX
      have H := hid (H.out.below bX)
      have HB := hid (HB.out.trans (bX.mono HB.out.size))
      have hsW := HB.out.size
      have hs9 := Nat.le_trans hs9 bX.size
      have RX := hid rX
      clear hX bX sX rX
      refine (ssolve_bad (asm := [0]) H.out (by rw [Hsv.out]; omega) RX.out (.inr (.inr ⟨by omega, by rw [Hsv.out]; simp⟩))).mono ?_
      rintro r w12 ⟨rfl, bw⟩
      have H := hid (H.out.below bw)
      have HB := hid (HB.out.trans (bw.mono HB.out.size))
      have hsW := HB.out.size
      have hs9 := Nat.le_trans hs9 bw.size
      clear bw
      clear RX
      obtain ⟨Y12, hX, bX, kX, sX⟩ := alloc_step w12 (.cells #[.bool false, .slice none 0 0, .slice none 0 0] 35)
      have HX := hid hX
      have HsX := hid sX
      have H := hid (H.out.below bX)
      have HB := hid (HB.out.trans (bX.mono HB.out.size))
      have hsW := HB.out.size
      have hs9 := Nat.le_trans hs9 bX.size
      clear hX bX kX sX
      go_wp2_with fail
      rw [HX.out]
      refine (ssolve_bad (asm := []) H.out (by rw [Hsv.out]; omega) (Rd.empty _ (fun _ => False) none) (.inl (by omega))).mono ?_
      rintro r w13 ⟨rfl, bw⟩
      have H := hid (H.out.below bw)
      have HB := hid (HB.out.trans (bw.mono HB.out.size))
      have hsW := HB.out.size
      have hs9 := Nat.le_trans hs9 bw.size
      clear bw
      obtain ⟨Y13, hX, bX, kX, sX⟩ := alloc_step w13 (.cells #[.bool false, .slice none 0 0, .slice none 0 0] 35)
      have HX := hid hX
      have HsX := hid sX
      have H := hid (H.out.below bX)
      have HB := hid (HB.out.trans (bX.mono HB.out.size))
      have hsW := HB.out.size
      have hs9 := Nat.le_trans hs9 bX.size
      clear hX bX kX sX
      go_wp2_with fail
      rw [HX.out]
      refine (ssolve_bad (asm := []) H.out (by rw [Hsv.out]; omega) (Rd.empty _ (fun _ => False) none) (.inr (.inl (by omega)))).mono ?_
      rintro r w14 ⟨rfl, bw⟩
      have H := hid (H.out.below bw)
      have HB := hid (HB.out.trans (bw.mono HB.out.size))
      have hsW := HB.out.size
      have hs9 := Nat.le_trans hs9 bw.size
      clear bw
      obtain ⟨Y14, hX, bX, kX, sX⟩ := alloc_step w14 (.cells #[.bool false, .slice none 0 0, .slice none 0 0] 35)
      have HX := hid hX
      have HsX := hid sX
      have H := hid (H.out.below bX)
      have HB := hid (HB.out.trans (bX.mono HB.out.size))
      have hsW := HB.out.size
      have hs9 := Nat.le_trans hs9 bX.size
      clear hX bX kX sX
      go_wp2_with fail
      rw [HX.out]
      obtain ⟨z15, hz15⟩ : ∃ z, Y14.heap.size = z := ⟨_, rfl⟩
      obtain ⟨L15, hX, bX, rX, sX⟩ := lit_step Y14 [8] (by simp) (by simp)
      obtain ⟨M15, hX2, bX2, rX2, sX2⟩ := lit_step L15 [1] (by simp) (by simp)
      rw [show Y14.alloc (.cells #[.int .i64 8] 3) = L15 from hX, show L15.alloc (.cells #[.int .i64 1] 3) = M15 from hX2]
      rw [show w14.heap.size + 1 = z15 from HsX.out.symm.trans hz15]
      rw [sX] at rX2
      rw [hz15] at rX rX2
      have hsz : Y14.heap.size ≤ z15 := by omega
      have bY := bX.trans (bX2.mono bX.size)
      have H := hid (H.out.below bY)
      have HB := hid (HB.out.trans (bY.mono HB.out.size))
      have hsW := HB.out.size
      have hs9 := Nat.le_trans hs9 bY.size
      have HP := hid (show PbRd M15 (fun g => z15 ≤ g) (.agg #[.slice (some ⟨z15, 0, none⟩) 1 1, .slice (some ⟨z15 + 1, 0, none⟩) 1 1, .int .i64 1]) ⟨[8], [1], 1⟩ from ⟨⟨_, 1, 1, _, 1, 1, rfl, (rX.below bX2).mono fun g _ h => by omega, rX2.mono fun g _ h => by omega⟩, by simp [I64]⟩)
      have Hz := hid hsz
      clear hX bX sX rX hX2 bX2 sX2 rX2 bY hsz hz15
      have hadd := sadd_any H.out HK.out.base (by omega) HP.out (by simp [I64]) (fun g hg hf => by have := (HF.out g hf).2; have := Hz.out; omega) (by have := Hcs.out; omega)
      rw [if_neg (show ¬ fitsB 7 ⟨[8], [1], 1⟩ = true by decide +kernel), if_neg (show ¬ fitsB 7 ⟨[8], [1], 1⟩ = true by decide +kernel)] at hadd
      refine hadd.mono ?_
      rintro r w15 ⟨rfl, ⟨F15, h5, hF5⟩, m5⟩
      have HB := hid (below_mod HB.out hsW m5 fun g hg => (HF.out g hg).1)
      have H := hid h5
      have hsM := m5.size
      have hs9 := Nat.le_trans hs9 hsM
      have HF := hid (show ∀ g, F15 g → w8.heap.size ≤ g ∧ g < w15.heap.size from fun g hg => ⟨(hF5 g hg).2.elim (fun h => (HF.out g h).1) fun h => by omega, (hF5 g hg).1⟩)
      have hsW := HB.out.size
      clear h5 hF5 m5 hadd HP
      go_wp2_with fail
      obtain ⟨z16, hz16⟩ : ∃ z, w15.heap.size = z := ⟨_, rfl⟩
      obtain ⟨L16, hX, bX, rX, sX⟩ := lit_step w15 [1] (by simp) (by simp)
      obtain ⟨M16, hX2, bX2, rX2, sX2⟩ := lit_step L16 [2] (by simp) (by simp)
      rw [show w15.alloc (.cells #[.int .i64 1] 3) = L16 from hX, show L16.alloc (.cells #[.int .i64 2] 3) = M16 from hX2]
      rw [hz16]
      rw [sX] at rX2
      rw [hz16] at rX rX2
      have hsz : w15.heap.size ≤ z16 := by omega
      have bY := bX.trans (bX2.mono bX.size)
      have H := hid (H.out.below bY)
      have HB := hid (HB.out.trans (bY.mono HB.out.size))
      have hsW := HB.out.size
      have hs9 := Nat.le_trans hs9 bY.size
      have HP := hid (show PbRd M16 (fun g => z16 ≤ g) (.agg #[.slice (some ⟨z16, 0, none⟩) 1 1, .slice (some ⟨z16 + 1, 0, none⟩) 1 1, .int .i64 1]) ⟨[1], [2], 1⟩ from ⟨⟨_, 1, 1, _, 1, 1, rfl, (rX.below bX2).mono fun g _ h => by omega, rX2.mono fun g _ h => by omega⟩, by simp [I64]⟩)
      have Hz := hid hsz
      clear hX bX sX rX hX2 bX2 sX2 rX2 bY hsz hz16
      have hadd := sadd_any H.out HK.out.base (by omega) HP.out (by simp [I64]) (fun g hg hf => by have := (HF.out g hf).2; have := Hz.out; omega) (by have := Hcs.out; omega)
      rw [if_neg (show ¬ fitsB 7 ⟨[1], [2], 1⟩ = true by decide +kernel), if_neg (show ¬ fitsB 7 ⟨[1], [2], 1⟩ = true by decide +kernel)] at hadd
      refine hadd.mono ?_
      rintro r w16 ⟨rfl, ⟨F16, h5, hF5⟩, m5⟩
      have HB := hid (below_mod HB.out hsW m5 fun g hg => (HF.out g hg).1)
      have H := hid h5
      have hsM := m5.size
      have hs9 := Nat.le_trans hs9 hsM
      have HF := hid (show ∀ g, F16 g → w8.heap.size ≤ g ∧ g < w16.heap.size from fun g hg => ⟨(hF5 g hg).2.elim (fun h => (HF.out g h).1) fun h => by omega, (hF5 g hg).1⟩)
      have hsW := HB.out.size
      clear h5 hF5 m5 hadd HP
      obtain ⟨zv, hzv⟩ : ∃ z, w16.heap.size = z := ⟨_, rfl⟩
      obtain ⟨XV, hX, bX, kX, sX⟩ := alloc_step w16 (.cells #[.int .i64 2, .int .i64 2, .int .i64 2, .int .i64 2, .int .i64 2, .int .i64 2, .int .i64 2] 36)
      rw [hzv] at kX
      have HXV := hid hX
      have KV := hid kX
      have H := hid (H.out.below bX)
      have HB := hid (HB.out.trans (bX.mono HB.out.size))
      have hsW := HB.out.size
      have hs9 := Nat.le_trans hs9 bX.size
      have Hzv := hid hzv
      clear hX bX kX sX Hz
      go_wp2_with fail
      rw [HXV.out]
      try rw [hzv]
      clear hzv
      go_loopw [163] (fun iv W => ∃ k : Nat, k ≤ 7 ∧ iv = .int .i64 k ∧ Hid (Below XV.heap.size XV W)) (fun iv _ => 7 - (intOf iv).toNat)
      case atStart => exact ⟨0, Nat.zero_le _, rfl, Below.refl _ _⟩
      case round =>
        obtain ⟨VB, rfl⟩ : ∃ V, V = wr := ⟨_, rfl⟩
        obtain ⟨k, hk7, rfl, HBv⟩ := hrel
        rcases Nat.lt_or_ge k 7 with hlt | hge
        · have y1 : (k : Int) < 7 := by omega
          have e0 : VB.cell? ⟨zv, k, none⟩ = some (.int .i64 2) := by
            rw [cell_of_row _ _ _ _ _ _ (keep_blk KV.out HBv.out)]
            rcases (by omega : k = 0 ∨ k = 1 ∨ k = 2 ∨ k = 3 ∨ k = 4 ∨ k = 5 ∨ k = 6) with rfl | rfl | rfl | rfl | rfl | rfl | rfl <;> rfl
          go_wp2_with fail
          go_roundw
          case rel => exact ⟨k + 1, by omega, by go_num, HBv⟩
          case measure => simp [intOf]; omega
        · obtain rfl : k = 7 := by omega
          have y1 : ¬ (((7 : Nat) : Int) < 7) := by omega
          have H := hid (H.out.below HBv.out)
          have HB := hid (HB.out.trans (HBv.out.mono hsW))
          have hsW := HB.out.size
          clear KV HBv
          go_wp2_with fail
          refine (ssolve_wrong H.out HK.out Hcs.out Hlg.out).mono ?_
          rintro r w30 ⟨⟨sat, U1, u1, v1, U2, u2, v2, e, rfl, he⟩, m30⟩
          have He := hid he
          have HB := hid (below_mod HB.out hsW m30 fun g hg => (HF.out g hg).1)
          obtain ⟨Y30, hX, bX, kX, sX⟩ := alloc_step w30 (.cells #[.bool sat, .slice U1 u1 v1, .slice U2 u2 v2] 35)
          have HX := hid hX
          have HB := hid (HB.out.trans (bX.mono HB.out.size))
          clear hX bX kX sX m30 he
          go_wp2_with fail
          rw [HX.out]
          refine (models_any (HD.out.below HB.out) Hi64.out (ls := []) (H := fun _ => False) (Rd.empty _ _ none) (by simp) (by omega) (by omega)).mono ?_
          rintro r w31 ⟨rfl, b31⟩
          obtain ⟨mq, hmq⟩ : ∃ k, modelsN ps [] 128 = k := ⟨_, rfl⟩
          have he := He.out
          rw [hmq] at he ⊢
          have HB := hid (HB.out.trans (b31.mono HB.out.size))
          clear b31 hmq
          rcases he with rfl | ⟨rfl, rfl⟩
          · go_wp2_with fail
            refine awake32_any.mono ?_
            rintro r w32 ⟨rfl, b32⟩
            have HB := hid (B8.out.trans ((HB.out.trans (b32.mono HB.out.size)).mono hw8))
            clear b32
            go_wp2_with fail
            go_ret
            exact ⟨rfl, HB.out⟩
          · go_wp2_with fail
            refine awake32_any.mono ?_
            rintro r w32 ⟨rfl, b32⟩
            have HB := hid (B8.out.trans ((HB.out.trans (b32.mono HB.out.size)).mono hw8))
            clear b32
            go_wp2_with fail
            go_ret
            exact ⟨rfl, HB.out⟩
end Go.Proofs.YtcjmpobccbnpkaaGreat
