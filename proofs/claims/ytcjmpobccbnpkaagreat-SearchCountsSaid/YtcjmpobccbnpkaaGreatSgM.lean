/-
 The law SearchCounts.
-/
import Derived.Test.YtcjmpobccbnpkaaGreatSgL
namespace Go.Proofs.YtcjmpobccbnpkaaGreat
open Go.RowKit

set_option maxRecDepth 100000 in
set_option maxHeartbeats 8000000 in
theorem counts_walk {w : World} {A B C : Option Addr} {n cA m cB q cC : Nat} {lls kks : List (List Int)} {bs : List Int} (hl : LsRd w (fun _ => True) A n cA lls) (hk : LsRd w (fun _ => True) B m cB kks) (hb : Rd w (fun _ => True) 1 (.slice C q cC) q (ints bs)) :
  Calls Tryz.prog 7 #[.slice A n cA, .slice B m cB, .slice C q cC] w fun r w' => r = .returned (.bool true) ∧ Below w.heap.size w w' := by
 have Hsm := hid (small32_any hl hk hb)
 clear hl hk hb
 go_enter Tryz.func7, Tryz.ntmps7
 go_wp2_with fail
 refine Hsm.out.mono ?_
 rintro r w1 ⟨⟨A1, n1, c1, ts1, rfl, hD⟩, b1⟩
 have hok1 : OkN 7 (small7 lls kks bs (min lls.length 24)) := fun p hp => small7_mem hp
 have hle1 := small7_len lls kks bs (min lls.length 24)
 obtain ⟨ps, hps⟩ : ∃ ps, small7 lls kks bs (min lls.length 24) = ps := ⟨_, rfl⟩
 rw [hps] at hD hok1 hle1
 have hn1 : n1 ≤ 24 := by rw [← hD.len]; omega
 have Hok := hid hok1
 have Hi64 := hid (fun p hp => (Hok.out p hp).1.i64)
 have HD := hid hD.rd
 have Hlen := hid (show ps.length = n1 from hD.len)
 have B1 := hid b1
 have hw1 := b1.size
 clear hok1 hle1 hps hD b1 Hsm
 go_wp2_with fail
 have hld := loaded32_any (n := 7) HD.out Hi64.out Hok.out.fits (by omega) (by omega)
 rw [show ((7 : Nat) : Int) = 7 from rfl] at hld
 refine hld.mono ?_
 rintro r w3 ⟨⟨sb, rfl, tb, eb, ob, pm, S, h1, h2, h3, h4⟩, b3⟩
 have H := hid (show ∃ F S Bs, SolP w3 F sb tb eb ob pm S ∧ (∀ g, F g → w1.heap.size ≤ g) ∧ Kept 7 Bs S ∧ Cnt ps 0 Bs ∧ S.E.cs.length ≤ 24 + 2188 * 0 ∧ S.log.length ≤ 2187 * 0 from ⟨_, S, ps, h1, fun _ h => h, Kept.start h2 h3 h4 Hok.out, Cnt.start Hok.out, by rw [h3, Hlen.out]; omega, by rw [h4]; simp⟩)
 have HD := hid (HD.out.mono (F' := fun g => g < w1.heap.size) (G' := fun g => g < w1.heap.size) (fun g hg _ => hg) fun g hg h => hg)
 have B3 := hid b3
 clear h1 h2 h3 h4 b3 hld
 go_wp2_with fail
 go_loopw [10, 29] (fun nv iv W => ∃ i : Nat, i ≤ 128 ∧ iv = .int .i64 i ∧ nv = .int .i64 i ∧ Hid (Below w1.heap.size w1 W) ∧ Hid (∃ F S Bs, SolP W F sb tb eb ob pm S ∧ (∀ g, F g → w1.heap.size ≤ g) ∧ Kept 7 Bs S ∧ Cnt ps i Bs ∧ S.E.cs.length ≤ 24 + 2188 * i ∧ S.log.length ≤ 2187 * i)) (fun _ iv _ => 129 - (intOf iv).toNat)
 case atStart => exact ⟨0, Nat.zero_le _, rfl, rfl, B3, H⟩
 case round =>
  obtain ⟨V, rfl⟩ : ∃ V, V = wr := ⟨_, rfl⟩
  obtain ⟨i, hi, rfl, rfl, HB, HS⟩ := hrel
  have x1 : (i : Int) < 129 := by omega
  obtain ⟨F0, S0, Bs, g1, g2, g3, g4, g5, g6⟩ := HS.out
  have H := hid g1
  have HF := hid g2
  have HK := hid g3
  have HCn := hid g4
  have Hcs := hid g5
  have Hlg := hid g6
  have hsV := HB.out.size
  clear HS g1 g2 g3 g4 g5 g6
  go_wp2_with fail
  have hsv := ssolve7 (asm := []) (most := 4000) H.out HK.out (Rd.empty _ (fun _ => False) none) (fun g hg hf => hg) (by simp) (by omega) (by omega) (by have := Hcs.out; omega) (by have := Hlg.out; omega)
  rw [show ((4000 : Nat) : Int) = 4000 from rfl] at hsv
  refine hsv.mono ?_
  rintro r w4 ⟨⟨sat, U1, u1, v1, U2, u2, v2, ez, rfl, S4, F4, new4, M, co, hni, hk, hlog, hcs, hnw, h1, hF, hM, hco⟩, m1⟩
  obtain ⟨rfl, ht⟩ : ez = 0 ∧ Told Bs [] new4 sat M co := by rcases hni with h | h <;> first | exact h | omega
  have s1 := m1.size
  have HB4 := hid (below_mod HB.out hsV m1 fun g hg => HF.out g hg)
  have HM := hid (hM.mono (G := fun g => w1.heap.size ≤ g ∧ ¬ F4 g) fun g _ hg => ⟨by omega, hg.2⟩)
  have Ht := hid ht
  have H4 := hid h1
  have HF4 := hid (show ∀ g, F4 g → w1.heap.size ≤ g ∧ g < w4.heap.size from fun g hg => ⟨(hF g hg).2.elim (HF.out g) fun h => by omega, (hF g hg).1⟩)
  have HK4 := hid hk
  have Hcs4 := hid (show S4.E.cs.length ≤ 24 + 2188 * i + 2187 by rw [hcs, List.length_append, List.length_map]; have := Hcs.out; omega)
  have Hlg4 := hid (show S4.log.length ≤ 2187 * (i + 1) by rw [hlog, List.length_append]; have := Hlg.out; omega)
  have hMl : M.length = u1 := by have := hM.1; rw [i8s_length] at this; omega
  have hCl : co.length = u2 := by have := hco.1; rw [ints_length] at this; omega
  obtain ⟨X5, hX, bX, kX, sX⟩ := alloc_step w4 (.cells #[.bool sat, .slice U1 u1 v1, .slice U2 u2 v2] 35)
  have HX5 := hid hX
  have H4 := hid (H4.out.below bX)
  have HM := hid (HM.out.below bX)
  have HB := hid (HB4.out.trans (bX.mono HB4.out.size))
  obtain ⟨zr, hzr⟩ : ∃ z, w4.heap.size = z := ⟨_, rfl⟩
  rw [hzr] at kX sX
  have KR := hid kX
  have Hzr := hid hzr
  have HzB := hid (show w1.heap.size ≤ zr ∧ ∀ g, F4 g → g ≠ zr from ⟨by rw [← hzr]; exact HB4.out.size, fun g hg e => by have := (HF4.out g hg).2; omega⟩)
  obtain ⟨t0, t1, t2⟩ := box3 kX
  rw [← hX] at t0 t1 t2
  clear h1 hF hM hco m1 hni hk hlog hcs hnw ht H HF HK Hcs Hlg hsv hX bX kX sX HB4
  cases sat with
  | false =>
   obtain ⟨hM0, hno, hsub, _⟩ := Ht.out.no rfl
   obtain rfl : co = [] := List.eq_nil_of_sublist_nil hsub
   obtain rfl : u2 = 0 := hCl.symm
   have Hcnt := hid (show modelsN ps [] 128 = i by have := HCn.out.n; omega)
   clear hno hsub hM0
   go_wp2_with fail
   rw [HX5.out] at t0 t1 t2 ⊢
   refine (models_any (HD.out.below HB.out) Hi64.out (ls := []) (H := fun _ => False) (Rd.empty _ _ none) (by simp) (by omega) (by omega)).mono ?_
   rintro r w7 ⟨rfl, b7⟩
   rw [Hcnt.out]
   obtain ⟨t0, t1, t2⟩ := box3 (keep_blk KR.out b7)
   have HB7 := hid (HB.out.trans (b7.mono HB.out.size))
   clear b7
   go_wp2_with fail
   refine awake32_any.mono ?_
   rintro r w8 ⟨rfl, b8⟩
   have B8 := hid (B1.out.trans ((HB7.out.trans (b8.mono HB7.out.size)).mono hw1))
   clear b8
   go_wp2_with fail
   go_ret
   exact ⟨rfl, B8.out⟩
  | true =>
   obtain ⟨hM7, hfine, hone, _⟩ := Ht.out.yes rfl
   have Hfull := hid (Full.mk hM7 hone)
   rw [hM7] at hMl
   subst hMl
   have Hfine := hid hfine
   have Hfps := hid (HCn.out.fine hfine)
   clear hfine hM7 hone hCl
   go_wp2_with fail
   rw [HX5.out] at t0 t1 t2 ⊢
   refine (fine_any (HD.out.below HB.out) Hi64.out (ls := []) (H := fun _ => False) (Rd.empty _ _ none) HM.out (by simp) (by omega) (by omega)).mono ?_
   rintro r w7 ⟨rfl, b7⟩
   rw [Hfps.out]
   have KR := hid (keep_blk KR.out b7)
   obtain ⟨t0, t1, t2⟩ := box3 KR.out
   have H4 := hid (H4.out.below b7)
   have HM := hid (HM.out.below b7)
   have HB := hid (HB.out.trans (b7.mono HB.out.size))
   have hs7 := HB.out.size
   clear b7 HX5 hzr
   go_wp2_with fail
   go_loopw [13, 70] (fun lv jv W => ∃ (j : Nat) (A : Option Addr) (c : Nat), j ≤ 7 ∧ jv = .int .i64 j ∧ lv = .slice A j c ∧ Hid (Own W (fun g => w7.heap.size ≤ g) 3 1 (.slice A j c) j (ints (blk M j))) ∧ Hid (Below w7.heap.size w7 W)) (fun _ jv _ => 7 - (intOf jv).toNat)
   case atStart => exact ⟨0, none, 0, Nat.zero_le _, rfl, rfl, Own.nil _ _ _ _, Below.refl _ _⟩
   case round =>
    obtain ⟨j, A, c, hj, rfl, rfl, Ho, B8⟩ := hrel
    have hs8 := B8.out.size
    rcases Nat.lt_or_ge j 7 with h1 | h1
    ·have hjn : (j : Int) < 7 := by omega
     obtain ⟨g, o, rfl, hg, _, e0⟩ := (HM.out.below B8.out).cell8.2 j h1
     obtain ⟨m, hm⟩ : ∃ m, nth M j = m := ⟨_, rfl⟩
     have hmo : m = 1 ∨ m = -1 := by rw [← hm]; exact Hfull.out.one j h1
     have Hbs := hid (show blk M (j + 1) = blk M j ++ [-((j : Int) + 1) * m] by rw [blk_succ, hm])
     rw [hm] at e0
     obtain ⟨y, hy⟩ : ∃ y, -((j : Int) + 1) * m = y := ⟨_, rfl⟩
     have hyb : -7 ≤ y ∧ y ≤ 7 := by rcases hmo with rfl | rfl <;> omega
     have hwn : wrap64 (-((j : Int) + 1) * m) = y := by rw [hy]; exact IntWalk.wrap64_in _ ⟨by omega, by omega⟩
     have hwm : wrap64 m = m := IntWalk.wrap64_in _ ⟨by omega, by omega⟩
     rw [hy] at Hbs
     clear hm hy hmo
     go_wp2_with (at_builtin; refine wpList_append_ints rfl _ _ rfl (Ho.out.below ((Below.refl _ _).alloc (Nat.le_refl _) _)) (own_one wr (.int .i64 y)).rd rfl rfl (by simp [Value.oneCell']) (by omega) ?_; intro Av cv w9 ho9 hm9 hr9)
     go_roundw
     case rel =>
      refine ⟨j + 1, Av, cv, by omega, by go_num, rfl, ?_, ?_⟩
      ·rw [Hbs.out, ints_append]
       exact ho9.mono fun g _ _ hg => hg.elim id fun hg => by simp at hg; omega
      ·exact below_mod (B8.out.alloc hs8 _) (by simp; omega) hm9 fun g hg => (Ho.out.row hg).1
     case measure => simp [intOf]; omega
    ·obtain rfl : j = 7 := by omega
     have hjn : ¬ (((7 : Nat) : Int) < 7) := by omega
     have KR := hid (keep_blk KR.out B8.out)
     have hzw : w4.heap.size < wr.heap.size := by rw [Hzr.out]; exact lt_of_block KR.out
     have H4 := hid (H4.out.below B8.out)
     have HM := hid (HM.out.below B8.out)
     have HB := hid (HB.out.trans (B8.out.mono HB.out.size))
     have Hr := hid Ho.out.rd
     have hsr := HB.out.size
     clear t0 t1 t2 Ho B8
     go_wp2_with fail
     refine (clause32_any Hr.out (fun x hx => by have := (blk_mem Hfull.out x hx).2; exact ⟨by omega, by omega⟩) (by omega)).mono ?_
     rintro r w10 ⟨⟨P1, n2, d1, P2, n3, d2, rfl, hp⟩, b10⟩
     obtain ⟨p, hpe⟩ : ∃ p, (clauseB (blk M 7)).1 = p := ⟨_, rfl⟩
     rw [hpe] at hp ⊢
     have Hpe := hid hpe
     have Hp := hid (hp.mono (G := fun g => wr.heap.size ≤ g ∧ g < w10.heap.size) fun g hg h => ⟨h, hg⟩)
     have KR := hid (keep_blk KR.out b10)
     have H4 := hid (H4.out.below b10)
     have HM := hid (HM.out.below b10)
     have HB := hid (HB.out.trans (b10.mono HB.out.size))
     have hs10 := b10.size
     obtain ⟨X11, hX, bX, kX, sX⟩ := alloc_step w10 (.cells #[.slice P1 n2 d1, .slice P2 n3 d2, .int .i64 p.bound] 41)
     have HX11 := hid hX
     have Hp := hid (Hp.out.below bX)
     have KR := hid (keep_blk KR.out bX)
     have H4 := hid (H4.out.below bX)
     have HM := hid (HM.out.below bX)
     have HB := hid (HB.out.trans (bX.mono HB.out.size))
     obtain ⟨zc, hzc⟩ : ∃ z, w10.heap.size = z := ⟨_, rfl⟩
     rw [hzc] at kX sX
     have KC := hid kX
     obtain ⟨q0, q1, q2⟩ := box3 kX
     rw [← hX] at q0 q1 q2
     have Hzc := hid hzc
     have HsX := hid sX
     obtain ⟨X12, hX12, bX12, kX12, sX12⟩ := alloc_step X11 (.cells #[] 41)
     obtain ⟨X13, hX13, bX13, kX13, sX13⟩ := alloc_step X12 (.cells #[.slice P1 n2 d1, .slice P2 n3 d2, .int .i64 p.bound] 41)
     have bY := bX12.trans (bX13.mono bX12.size)
     have K13 := rd_lit3 kX13
     rw [sX12, sX] at K13
     have K12 : Own X13 (fun _ => False) 41 3 (.slice (some ⟨zc + 1, 0, none⟩) 0 0) 0 [] := ⟨rfl, .inl ⟨_, rfl, rfl⟩⟩
     rw [← hX13, ← hX12, ← hX] at K13 K12
     have HK12 := hid K12
     have HK13 := hid K13
     have HX13 := hid hX13
     have HX12 := hid hX12
     have Hp := hid (Hp.out.below bY)
     have KR := hid (keep_blk KR.out bY)
     have KC := hid (keep_blk KC.out bY)
     have H4 := hid (H4.out.below bY)
     have HM := hid (HM.out.below bY)
     have HB := hid (HB.out.trans (bY.mono HB.out.size))
     have hs13 := bY.size
     clear hp hpe b10 hX bX kX sX Hr K13 K12 hX12 bX12 kX12 sX12 hX13 bX13 kX13 sX13 bY
     go_wp2_with (at_builtin; refine wpList_append_pb rfl _ _ rfl HK12.out HK13.out rfl rfl (pb_one Hp.out) (by omega) ?_; intro A' c' V5 ho hm hr; rw [HX11.out, HX12.out, HX13.out] at hm ho; have bV := hid (below_mod (Below.refl X13.heap.size X13) (Nat.le_refl _) hm fun g hg => by simp [row] at hg); have Ho := hid ho; obtain ⟨t0, t1, t2⟩ := box3 (keep_blk KR.out bV.out); obtain ⟨q0, q1, q2⟩ := box3 (keep_blk KC.out bV.out); clear ho hm hr)
     have ho := Ho.out
     have bV := bV.out
     have HQ := hid (show PsRd V5 (fun g => False ∨ X13.heap.size ≤ g) (fun g => wr.heap.size ≤ g ∧ g < w10.heap.size) A' 1 c' [p] from ⟨[(.slice P1 n2 d1, .slice P2 n3 d2, .int .i64 p.bound)], by simpa [flat3] using ho.rd, ((Ps.nil V5 _).snoc (Hp.out.below bV)), rfl⟩)
     have Hp := hid (Hp.out.below bV)
     have KR := hid (keep_blk KR.out bV)
     have KC := hid (keep_blk KC.out bV)
     have H4 := hid (H4.out.below bV)
     have HM := hid (HM.out.below bV)
     have HB := hid (HB.out.trans (bV.mono HB.out.size))
     have hsV5 := bV.size
     have hpo : OkN 7 [p] := by rw [← Hpe.out]; exact blk_ok Hfull.out
     have Hpi := hid (hpo p (List.mem_singleton.2 rfl)).1.i64
     have Hpf := hid (hpo.fits p (List.mem_singleton.2 rfl))
     have Hpb := hid (show fineB [p] [] M = false by
      rw [← Hpe.out]
      refine Bool.eq_false_iff.2 fun h => (fine_blk Hfull.out Hfull.out).1 h rfl)
     have HC5 := hid (show Cnt ps (i + 1) (Bs ++ [p]) by rw [← Hpe.out]; exact HCn.out.next Hfull.out Hfine.out)
     clear hpo bV ho HX11 HX12 HX13 HK13 HK12 hzc
     refine (fine_any HQ.out (fun q hq => by rw [List.mem_singleton.1 hq]; exact Hpi.out) (ls := []) (H := fun _ => False) (Rd.empty _ _ none) HM.out (by simp) (by omega) (by omega)).mono ?_
     rintro r w14 ⟨rfl, b14⟩
     rw [Hpb.out]
     have Hp := hid (Hp.out.below b14)
     have H4 := hid (H4.out.below b14)
     have HB := hid (HB.out.trans (b14.mono HB.out.size))
     have hs14 := HB.out.size
     obtain ⟨t0, t1, t2⟩ := box3 (keep_blk KR.out b14)
     obtain ⟨q0, q1, q2⟩ := box3 (keep_blk KC.out b14)
     have hb14 := b14.size
     clear b14
     have hadd := sadd_any H4.out HK4.out.base (by omega) Hp.out Hpi.out (fun g hg hf => by have := (HF4.out g hf).2; omega) (by have := Hcs4.out; omega)
     rw [if_pos Hpf.out, if_pos Hpf.out] at hadd
     have Hadd := hid hadd
     clear hadd
     go_wp2_with fail
     refine Hadd.out.mono ?_
     rintro r w15 ⟨rfl, ⟨F5, h5, hF5⟩, m5⟩
     have HB5 := hid (below_mod HB.out hs14 m5 fun g hg => (HF4.out g hg).1)
     have H5 := hid h5
     have HF5 := hid (show ∀ g, F5 g → w1.heap.size ≤ g from fun g hg => (hF5 g hg).2.elim (fun h => (HF4.out g h).1) fun h => by omega)
     have hi1 : i + 1 ≤ 128 := by have := HC5.out.le; omega
     clear h5 hF5 m5 Hadd t0 t1 t2 q0 q1 q2
     go_wp2_with fail
     go_roundw
     case rel => exact ⟨i + 1, hi1, by go_num, by go_num, HB5, hid ⟨F5, _, Bs ++ [p], H5.out, HF5.out, HK4.out.add Hpf.out, HC5.out, by show (S4.E.cs ++ [p]).length ≤ _; rw [List.length_append, List.length_singleton]; have := Hcs4.out; omega, Hlg4.out⟩⟩
     case measure => simp [intOf]; omega
end Go.Proofs.YtcjmpobccbnpkaaGreat
