/-
 The law SearchTells.
-/
import Derived.Test.YtcjmpobccbnpkaaGreatTgd
import Derived.Test.YtcjmpobccbnpkaaGreatTgb
import Derived.Test.YtcjmpobccbnpkaaGreatTkU
namespace Go.Proofs.YtcjmpobccbnpkaaGreat
open Go.RowKit
theorem StsRd.mod {w w' : World} {F G H : Nat → Prop} {A : Option Addr} {n c : Nat} {ss : List Stp} (h : StsRd w F G A n c ss) (hm : Mod H w w') (hF : ∀ g, g < w.heap.size → F g → ¬ H g) (hG : ∀ g, g < w.heap.size → G g → ¬ H g) : StsRd w' F G A n c ss := by
 obtain ⟨ts, h1, h2, h3⟩ := h
 exact ⟨ts, h1.mod hm hF, h2.mod hm hG, h3⟩
set_option maxRecDepth 100000 in
set_option maxHeartbeats 8000000 in
theorem tells32_walk {w : World} {A B C : Option Addr} {n cA m cB q cC : Nat} {lls kks : List (List Int)} {bs : List Int} {Dds : Option Addr} {dds cDds : Nat} {ds : List Int} (hl : LsRd w (fun _ => True) A n cA lls) (hk : LsRd w (fun _ => True) B m cB kks) (hb : Rd w (fun _ => True) 1 (.slice C q cC) q (ints bs)) (hds : Rd w (fun _ => True) 1 (.slice Dds dds cDds) dds (ints ds)) :
  Calls Tryz.prog 5 #[.slice A n cA, .slice B m cB, .slice C q cC, .slice Dds dds cDds] w fun r w' => r = .returned (.bool true) ∧ Below w.heap.size w w' := by
 have Hds := hid (hds.mono (G := fun g => g < w.heap.size) fun g hg _ => hg)
 have Hsm := hid (small32_any hl hk hb)
 clear hl hk hb hds
 go_enter Tryz.func5, Tryz.ntmps5
 go_wp2_with fail
 refine Hsm.o.mono ?_
 rintro r w1 ⟨⟨A1, n1, c1, ts1, rfl, hD⟩, b1⟩
 have hok1 : OkN 7 (small7 lls kks bs (min lls.length 24)) := fun p hp => small7_mem hp
 have hle1 := small7_len lls kks bs (min lls.length 24)
 obtain ⟨ps, hps⟩ : ∃ ps, small7 lls kks bs (min lls.length 24) = ps := ⟨_, rfl⟩
 rw [hps] at hD hok1 hle1
 have hn1 : n1 ≤ 24 := by rw [← hD.len]; omega
 have Hok := hid hok1
 have Hi64 := hid (fun p hp => (Hok.o p hp).1.i64)
 have Hif := hid (fun p hp => (⟨(Hok.o p hp).1.i64, (Hok.o p hp).1.few⟩ : (∀ k ∈ p.coefs, I64 k) ∧ p.lits.length ≤ 65536))
 have HD := hid hD.rd
 have Hlen := hid (show ps.length = n1 from hD.len)
 have B1 := hid b1
 have hw1 := b1.size
 have Hds := hid ((Hds.o.below b1).mono (G := fun g => g < w1.heap.size) fun g _ hg => by omega)
 clear hok1 hle1 hps hD b1 Hsm
 go_wp2_with fail
 refine (lits7_any Hds.o).mono ?_
 rintro r w2 ⟨⟨A2, c2, rfl, h2⟩, b2⟩
 have hlt := lits7B_ok (l := ds)
 obtain ⟨qs, has⟩ : ∃ qs, lits7B ds = qs := ⟨_, rfl⟩
 rw [has] at hlt h2 ⊢
 obtain ⟨na, hna⟩ : ∃ k, qs.length = k := ⟨_, rfl⟩
 rw [hna] at hlt h2 ⊢
 have Has := hid hlt
 have HA := hid (h2.mono (G := fun g => g < w2.heap.size) fun g hg _ => hg)
 have HD := hid ((HD.o.mono (F' := fun g => g < w1.heap.size) (G' := fun g => g < w1.heap.size) (fun g hg _ => hg) fun g hg h => hg).below b2)
 have B2 := hid (B1.o.trans (b2.mono B1.o.size))
 have hw2 := B2.o.size
 have hw12 := b2.size
 clear hlt h2 b2 Hds has hna B1
 go_wp2_with fail
 have hld := loaded32_any (n := 7) HD.o Hi64.o Hok.o.fits (by omega) (by omega)
 rw [show ((7 : Nat) : Int) = 7 from rfl] at hld
 refine hld.mono ?_
 rintro r w3 ⟨⟨sb, rfl, tb, eb, ob, pm, S, h1, h2, h3, h4⟩, b3⟩
 have H := hid h1
 have HK := hid (Kept.start h2 h3 h4 Hok.o)
 have Hcs := hid h3
 have Hlg := hid h4
 have HD := hid (HD.o.below b3)
 have HA := hid (HA.o.below b3)
 have B3 := hid (B2.o.trans (b3.mono B2.o.size))
 have hw3 := b3.size
 have HF := hid (show ∀ g, w2.heap.size ≤ g → w2.heap.size ≤ g from fun _ h => h)
 clear h1 h2 h3 h4 b3 hld B2
 go_wp2_with fail
 have hsv := ssolve_nil (most := 4000) H.o HK.o HA.o (fun g hg hf => by omega) Has.o.1 (by have := Has.o.2; omega) (by omega) (by omega) (by rw [Hcs.o, Hlen.o]; omega) (by rw [Hlg.o]; simp)
 rw [show ((4000 : Nat) : Int) = 4000 from rfl] at hsv
 refine hsv.mono ?_
 rintro r w4 ⟨⟨sat, U1, u1, v1, U2, u2, v2, ez, rfl, S4, F4, new, M, co, hni, hk, hlog, hcs, hnw, h1, hF, hM, hco⟩, m1⟩
 obtain ⟨rfl, ht⟩ : ez = 0 ∧ Told ps qs new sat M co := by rcases hni.law Hok.o Has.o.1 with h | h <;> first | exact h | omega
 have hlast : sat = false → ∃ n0, new = n0 ++ [⟨1, (clauseB (co.map fun l => -l)).1, []⟩] := fun hs => by
  cases hni with
  | sat => cases hs
  | unsat co _ _ n0 hn => exact ⟨n0, hn⟩
 rw [Hlg.o, List.nil_append] at hlog
 rw [Hcs.o] at hnw
 have s1 := m1.size
 have HD := hid (HD.o.mod m1 (fun g hg hf => by omega) (fun g hg hf => by omega))
 have HA := hid (HA.o.mod m1 fun g _ hg hf => by omega)
 have HB := hid (below_mod B3.o B3.o.size m1 fun g hg => by omega)
 have HM := hid (hM.mono (G := fun g => g < w4.heap.size) fun g hg _ => hg)
 have HC := hid (hco.mono (G := fun g => g < w4.heap.size) fun g hg _ => hg)
 have Ht := hid ht
 have Hlast := hid hlast
 have H4 := hid h1
 have Hsz := hid (show ∀ s ∈ new, s.c.lits.length ≤ 1000000 ∧ s.c.coefs.length ≤ 1000000 ∧ s.set.length ≤ 1000000 by have := hk.size; rwa [hlog] at this)
 have Hlog := hid hlog
 have Hnw := hid hnw
 have hMl : M.length = u1 := by have := hM.1; rw [i8s_length] at this; omega
 have hCl : co.length = u2 := by have := hco.1; rw [ints_length] at this; omega
 clear h1 hF hM hco m1 hni hk hlog hcs hnw ht hlast H HK Hcs Hlg HF hsv B3
 obtain ⟨X5, hX, bX, kX, sX⟩ := alloc_step w4 (.cells #[.bool sat, .slice U1 u1 v1, .slice U2 u2 v2] 35)
 have HX5 := hid hX
 have H4 := hid (H4.o.below bX)
 have HD := hid (HD.o.below bX)
 have HA := hid (HA.o.below bX)
 have HM := hid (HM.o.below bX)
 have HC := hid (HC.o.below bX)
 have HB := hid (HB.o.trans (bX.mono HB.o.size))
 obtain ⟨zr, hzr⟩ : ∃ z, w4.heap.size = z := ⟨_, rfl⟩
 rw [hzr] at kX
 have KR := hid kX
 obtain ⟨t0, t1, t2⟩ := box3 kX
 rw [← hX] at t0 t1 t2
 clear hX bX kX sX
 go_wp2_with fail
 try rw [hzr]
 rw [HX5.o] at t0 t1 t2 ⊢
 clear HX5
 cases sat with
 | true =>
  obtain ⟨hM7, hfine, hM1, hc0⟩ := Ht.o.yes rfl
  rw [hM7] at hMl
  subst hMl
  rw [hc0] at hCl
  obtain rfl : u2 = 0 := hCl.symm
  have hfB : allB ps qs M = true := by rw [allB_fine Has.o.1 fun i hi => by rcases hM1 i hi with h | h <;> rw [h] <;> decide]; exact hfine
  have HfB := hid hfB
  clear hfB hfine hM7 hc0 hM1
  refine wp_region_held_drew (S := fun w' => w'.cell? ⟨zr, 0, none⟩ = some (.bool true)) (by kernel_rfl) t0 (fun hHeld => ?_)
  obtain ⟨WD, hWD⟩ : ∃ Y, X5.drew = Y := ⟨_, rfl⟩
  have bD : Below X5.heap.size X5 X5.drew := Bl.drew (Below.refl _ _)
  have H4 := hid (H4.o.below bD)
  have HA := hid (HA.o.below bD)
  have HM := hid (HM.o.below bD)
  have HC := hid (HC.o.below bD)
  have HD := hid (HD.o.below bD)
  have KR := hid (keep_blk KR.o bD)
  have HB := hid (HB.o.trans (bD.mono HB.o.size))
  rw [hWD] at hHeld H4 HA HM HC HD KR HB ⊢
  clear hWD bD t0 t1 t2
  refine tk 0 ?_
  refine tk 1 ?_
  refine tk 2 ?_
  refine tk 3 ?_
  refine tk 4 ?_
  refine tk 5 ?_
  refine tk 6 ?_
  refine rd1 7 fun K hK => ?_
  go_simp
  refine (rsat_any HD.o Hif.o HA.o Has.o.1 (by omega) (by have := Has.o.2; omega)).mono ?_
  rintro r w6 ⟨rfl, b6⟩
  rw [← Ht.o.ans]
  have H4 := hid (H4.o.below b6)
  have HA := hid (HA.o.below b6)
  have HM := hid (HM.o.below b6)
  have HC := hid (HC.o.below b6)
  have HD := hid (HD.o.below b6)
  have KR := hid (keep_blk KR.o b6)
  have HB := hid (HB.o.trans (b6.mono HB.o.size))
  obtain ⟨t0, t1, t2⟩ := box3 KR.o
  go_simp
  refine hK.out _ _ t0 (fun hHeld => ?_)
  clear hK K b6
  refine tk 8 ?_
  refine tk 9 ?_
  refine wpAnyH_done (by kernel_rfl) ?_ _
  clear hHeld
  go_wp2_with fail
  refine (rall_any HD.o Hif.o HA.o HM.o Has.o.1 (by omega) (by have := Has.o.2; omega)).mono ?_
  rintro r w7 ⟨rfl, b7⟩
  rw [HfB.o]
  have H4 := hid (H4.o.below b7)
  have HD := hid (HD.o.below b7)
  have HC := hid (HC.o.below b7)
  have KR := hid (keep_blk KR.o b7)
  have HB := hid (HB.o.trans (b7.mono HB.o.size))
  have HC := hid (HC.o.mono (G := fun g => g < w7.heap.size) fun g hg _ => hg)
  have hzr := lt_of_block KR.o
  obtain ⟨t0, t1, t2⟩ := box3 KR.o
  clear b7 HA HM Has
  obtain ⟨ts, hT, hPs, hdl⟩ := HD.o
  have bE : Below w7.heap.size w7 (w7.alloc (.cells #[] 41)) := (Below.refl _ _).alloc (Nat.le_refl _) _
  have HT := hid (hT.below bE)
  have Hone := hid hPs.one
  have HPs := hid ((hPs.mono (G := fun g => g < w7.heap.size) fun g hg _ => hg).below bE)
  have Hdl := hid hdl
  have HBE := hid bE
  clear hT hPs hdl bE HD
  go_wp2_with (at_builtin; refine wpList_append_pb rfl _ _ rfl (Own.none_ _ (fun _ => False) _ _ _) HT.o rfl rfl Hone.o (by omega) fun A6 c6 V6 ho hm hr => ?_; have hmB := hm; rw [row_none] at hmB; have hbV := hmB.below; have hbW := HBE.o.trans (hbV.mono HBE.o.size))
  rw [Nat.zero_add, List.nil_append] at ho
  obtain ⟨zB, hzB⟩ : ∃ z, w7.heap.size = z := ⟨_, rfl⟩
  have hsE := HBE.o.size
  have HS := hid (show Dbg zB (fun _ => True) V6 A6 n1 c6 ts ps from ⟨Hdl.o, ho.mono fun g _ _ h => h.elim (fun h => h.elim) fun h => by omega, (HPs.o.below hbV).mono fun g _ h => ⟨trivial, fun hr => by have := ho.row hr; rcases this.1 with h1 | h1 <;> first | exact h1.elim | omega⟩⟩)
  have H4 := hid (H4.o.below hbW)
  have HC := hid (HC.o.below hbW)
  have KR := hid (keep_blk KR.o hbW)
  have hBw := HB.o.size
  have hsV6 := hbW.size
  have HB := hid (HB.o.trans (hbW.mono hBw))
  have hzw : w.heap.size ≤ zB := by omega
  clear ho hm hr hmB hbV hbW HT HPs HBE hsE Hone Hdl
  try go_wp2_with fail
  refine (slog_any H4.o (by rw [Hlog.o]; exact Hsz.o) (by rw [Hlog.o]; have := Hnw.o.len; omega)).mono ?_
  rintro r w8 ⟨⟨A8, c8, rfl, hst⟩, b8⟩
  rw [Hlog.o] at hst ⊢
  obtain ⟨L, hL⟩ : ∃ L, new.length = L := ⟨_, rfl⟩
  rw [hL] at hst ⊢
  have hL4 : L ≤ 2187 := by have := Hnw.o.len; omega
  obtain ⟨y0, hy0⟩ : ∃ z, V6.heap.size = z := ⟨_, rfl⟩
  rw [hy0] at hst
  have HLg := hid (hst.mono (F' := fun g => y0 ≤ g ∧ g < w8.heap.size) (G' := fun g => y0 ≤ g ∧ g < w8.heap.size) (fun g hg h => ⟨h, hg⟩) fun g hg h => ⟨h, hg⟩)
  have Hrw := hid (show ∀ g, row (.slice A6 n1 c6) g → zB ≤ g ∧ (g < y0 ∨ w8.heap.size ≤ g) from fun g hg => by have := HS.o.row hg; exact ⟨this.1, .inl (by omega)⟩)
  have HS := hid (HS.o.below b8)
  have HC := hid (HC.o.below b8)
  have KR := hid (keep_blk KR.o b8)
  have HB := hid (HB.o.trans (b8.mono HB.o.size))
  have s8 := b8.size
  have hzB8 : zB ≤ w8.heap.size := by omega
  have hrl := lt_of_block KR.o
  have HL := hid hL
  clear hst b8 hL H4 t0 t1 t2
  go_wp2_with fail
  go_loopw [15, 104] (fun dv kv W => ∃ (j : Nat) (Ad : Option Addr) (cd : Nat) (tsd : List (Value × Value × Value)), j ≤ L ∧ kv = .int .i64 j ∧ dv = .slice Ad (n1 + j) cd ∧ Hid (Dbg zB (fun _ => True) W Ad (n1 + j) cd tsd (ps ++ (new.take j).map Stp.c)) ∧ Hid (∀ g, row (.slice Ad (n1 + j) cd) g → zB ≤ g ∧ (g < y0 ∨ w8.heap.size ≤ g)) ∧ Hid (Mod (fun g => zB ≤ g ∧ g < y0) w8 W)) (fun _ kv _ => L - (intOf kv).toNat)
  case atStart => exact ⟨0, A6, c6, ts, Nat.zero_le _, rfl, rfl, hid (by rw [List.take_zero, List.map_nil, List.append_nil]; exact HS.o), Hrw, hid (Mod.refl _ _)⟩
  case round =>
   obtain ⟨Y, rfl⟩ : ∃ Y, Y = wr := ⟨_, rfl⟩
   obtain ⟨j, Ad, cd, tsd, hj, rfl, rfl, HS, Hrw, HML⟩ := hrel
   by_cases hjl : j < L
   ·have y1 : (j : Int) < (L : Int) := by omega
    obtain ⟨g, o, s, t, rfl, hgF, hgl, hsk, hst, hce⟩ := (HLg.o.mod HML.o (fun g _ h h2 => by omega) (fun g _ h h2 => by omega)).cells hjl
    obtain ⟨L1, l1, d1, L2, l2, d2, C1, f1, rfl, hpb, hset⟩ := hst
    obtain ⟨k1, k2, Lc, k3, k4, k5, k6⟩ := Hnw.o.ok j s hsk
    obtain ⟨sk, q, ss⟩ := s
    obtain rfl : sk = 1 := k1
    obtain rfl : ss = [] := k2
    have hqc : q = (clauseB Lc).1 := k3
    have e0 : Y.cell? ⟨g, o + j * 6, none⟩ = some (.int .u8 1) := hce 0 _ rfl
    have e1 : Y.cell? ⟨g, o + j * 6 + 1, none⟩ = some (.slice L1 l1 d1) := hce 1 _ rfl
    have e2 : Y.cell? ⟨g, o + j * 6 + 2, none⟩ = some (.slice L2 l2 d2) := hce 2 _ rfl
    have e3 : Y.cell? ⟨g, o + j * 6 + 3, none⟩ = some (.int .i64 q.bound) := hce 3 _ rfl
    have e4 : Y.cell? ⟨g, o + j * 6 + 4, none⟩ = some (.slice C1 0 f1) := hce 4 _ rfl
    have e5 : Y.cell? ⟨g, o + j * 6 + 5, none⟩ = some (.slice none 0 0) := hce 5 _ rfl
    have hpb : PbRd Y (fun g => y0 ≤ g ∧ g < w8.heap.size) (.agg #[.slice L1 l1 d1, .slice L2 l2 d2, .int .i64 q.bound]) q := hpb
    obtain ⟨hqo, hql⟩ := clauseB_okN k4 k5
    have hqf := hqo.fewn hql
    rw [← hqc] at hqo hql hqf
    have hDok : OkN 7 (ps ++ (new.take j).map Stp.c) := fun p hp => by
     rcases List.mem_append.1 hp with hp | hp
     ·exact Hok.o p hp
     ·obtain ⟨s, hs, rfl⟩ := List.mem_map.1 hp
      obtain ⟨i, hi, e⟩ := List.getElem_of_mem (List.mem_of_mem_take hs)
      obtain ⟨_, _, Ls, h3, h4, h5, _⟩ := Hnw.o.ok i s (by rw [List.getElem?_eq_getElem hi, e])
      rw [h3]
      exact clauseB_okN h4 h5
    have HDok := hid hDok
    have Hk4 := hid k4
    have Hk6 := hid k6
    have Hqc := hid hqc
    have Hqi := hid hqo.i64
    have Hqok := hid ((Pb.ok_iff q).2 hqo)
    have Htk := hid (show ps ++ (new.take (j + 1)).map Stp.c = (ps ++ (new.take j).map Stp.c) ++ [q] by rw [List.take_add_one, hsk]; simp)
    obtain ⟨zx, hzx⟩ : ∃ z, Y.heap.size = z := ⟨_, rfl⟩
    obtain ⟨X, hX, bX, kX, sX⟩ := alloc_step Y (.cells #[.int .u8 1, .slice L1 l1 d1, .slice L2 l2 d2, .int .i64 q.bound, .slice C1 0 f1, .slice none 0 0] 52)
    rw [hzx] at kX
    have KX := hid kX
    obtain ⟨s0, s1, s2, s3, s4, s5⟩ := sbox6 kX
    have HX := hid hX
    rw [← hX] at s0 s1 s2 s3 s4 s5
    have hYs : w8.heap.size ≤ Y.heap.size := HML.o.size
    have HpX := hid (hpb.below bX)
    have HS := hid (HS.o.below bX)
    have HML := hid (HML.o.trans (Mod.of_below bX))
    clear k3 k4 k6 hset hpb bX kX sX hgF hgl hX hsk hce hqc hqo hql hDok
    go_wp2_with fail
    try rw [hzx]
    rw [HX.o]
    refine (rvalid_any HpX.o Hqi.o (by omega)).mono ?_
    rintro r w9 ⟨rfl, b9⟩
    rw [Hqok.o]
    have KX := hid (keep_blk KX.o b9)
    have HpX := hid (HpX.o.below b9)
    have HS := hid (HS.o.below b9)
    have HML := hid (HML.o.trans (Mod.of_below b9))
    obtain ⟨s0, s1, s2, s3, s4, s5⟩ := sbox6 KX.o
    clear b9 e0 e1 e2 e3 e4 e5 HX
    go_wp2_with fail
    refine (rrup_any (L := Lc) HS.o.rd HDok.o (show PbRd w9 (fun g => y0 ≤ g ∧ g < w8.heap.size) (.agg #[.slice L1 l1 d1, .slice L2 l2 d2, .int .i64 q.bound]) (clauseB Lc).1 by rw [← Hqc.o]; exact HpX.o) Hk4.o k5 Hk6.o (by omega)).mono ?_
    rintro r w10 ⟨rfl, b10⟩
    have KX := hid (keep_blk KX.o b10)
    have HpX := hid (HpX.o.below b10)
    have HS := hid (HS.o.below b10)
    have HML := hid (HML.o.trans (Mod.of_below b10))
    obtain ⟨s0, s1, s2, s3, s4, s5⟩ := sbox6 KX.o
    clear b10
    obtain ⟨X4, hX4, bX4, kX4, sX4⟩ := alloc_step w10 (.cells #[.slice L1 l1 d1, .slice L2 l2 d2, .int .i64 q.bound] 41)
    have K4 := hid (rd_lit3 kX4)
    have HS4 := hid (HS.o.below bX4)
    have HP4 := hid (HpX.o.below bX4)
    have HM4 := hid (HML.o.trans (Mod.of_below bX4))
    have D4o := hid HS4.o.own
    have hno1 : n1 + j + 1 ≤ 1000000 := by omega
    clear bX4 kX4 sX4 HS HML HpX KX
    go_wp2_with (at_builtin; refine wpList_append_pb rfl _ _ rfl D4o.o K4.o rfl rfl (pb_one HP4.o) hno1 fun A' c' V5 ho hm hr => ?_)
    have hs4 := HM4.o.size
    obtain ⟨D5, b5⟩ := HS4.o.push (t := (.slice L1 l1 d1, .slice L2 l2 d2, .int .i64 q.bound)) (by omega) ho hm hr (HP4.o.mono fun g _ hg => ⟨trivial, fun e => by have := Hrw.o g e; omega⟩)
    have HS5 := hid D5
    have HR5 := hid (show ∀ g, row (.slice A' (n1 + j + 1) c') g → zB ≤ g ∧ (g < y0 ∨ w8.heap.size ≤ g) from fun g hg => (hr g hg).elim (fun h => Hrw.o g h) fun h => ⟨by omega, .inr (by omega)⟩)
    have HM5 := hid (HM4.o.trans (hm.mono fun g _ hg => by
     obtain ⟨h1, h2⟩ := Hrw.o g hg
     rcases h2 with h2 | h2
     ·exact .inl ⟨h1, h2⟩
     ·exact .inr h2))
    clear D5 b5 ho hm hr hs4
    go_roundw
    case rel => exact ⟨j + 1, A', c', _, by omega, by go_num, rfl, hid (by rw [Htk.o]; exact HS5.o), HR5, HM5⟩
    case measure => simp [intOf]; omega
   ·have y1 : ¬ ((j : Int) < (L : Int)) := by omega
    have HLg := hid (HLg.o.mod HML.o (fun g _ h h2 => by omega) (fun g _ h h2 => by omega))
    have HC := hid (HC.o.mod HML.o fun g hg h h2 => by omega)
    have KR := hid ((HML.o.block zr hrl fun h => by have := h.1; omega).trans KR.o)
    have HB := hid (below_mod HB.o HB.o.size HML.o fun g hg => by omega)
    obtain ⟨t0, t1, t2⟩ := box3 KR.o
    clear HS Hrw HML
    clear HLg HC
    go_wp2_with fail
    refine awake32_any.mono ?_
    rintro r w20 ⟨rfl, b20⟩
    have HB := hid (HB.o.trans (b20.mono HB.o.size))
    clear b20
    go_wp2_with fail
    go_ret
    exact ⟨rfl, HB.o⟩
 | false =>
  obtain ⟨hM0, hno, hsub, hnl⟩ := Ht.o.no rfl
  rw [hM0] at hMl
  obtain rfl : u1 = 0 := hMl.symm
  have Hno := hid hno
  have Hsub := hid hsub
  have hcl := hsub.length_le
  have hc7 := HC.o.cell.1
  have hAl := HA.o.cell.1
  obtain ⟨n0, hn0⟩ := Hlast.o rfl
  have Hn0 := hid hn0
  have hu2 : u2 ≤ 7 := by have := Has.o.2; omega
  clear hno hsub hM0 hn0 Hlast
  refine wp_region_held_drew (S := fun w' => w'.cell? ⟨zr, 0, none⟩ = some (.bool false)) (by kernel_rfl) t0 (fun hHeld => ?_)
  obtain ⟨WD, hWD⟩ : ∃ Y, X5.drew = Y := ⟨_, rfl⟩
  have bD : Below X5.heap.size X5 X5.drew := Bl.drew (Below.refl _ _)
  have H4 := hid (H4.o.below bD)
  have HA := hid (HA.o.below bD)
  have HM := hid (HM.o.below bD)
  have HC := hid (HC.o.below bD)
  have HD := hid (HD.o.below bD)
  have KR := hid (keep_blk KR.o bD)
  have HB := hid (HB.o.trans (bD.mono HB.o.size))
  rw [hWD] at hHeld H4 HA HM HC HD KR HB ⊢
  clear hWD bD t0 t1 t2
  refine tk 0 ?_
  refine tk 1 ?_
  refine tk 2 ?_
  refine tk 3 ?_
  refine tk 4 ?_
  refine tk 5 ?_
  refine tk 6 ?_
  refine rd1 7 fun K hK => ?_
  go_simp
  refine (rsat_any HD.o Hif.o HA.o Has.o.1 (by omega) (by have := Has.o.2; omega)).mono ?_
  rintro r w6 ⟨rfl, b6⟩
  rw [← Ht.o.ans]
  have H4 := hid (H4.o.below b6)
  have HA := hid (HA.o.below b6)
  have HM := hid (HM.o.below b6)
  have HC := hid (HC.o.below b6)
  have HD := hid (HD.o.below b6)
  have KR := hid (keep_blk KR.o b6)
  have HB := hid (HB.o.trans (b6.mono HB.o.size))
  obtain ⟨t0, t1, t2⟩ := box3 KR.o
  go_simp
  refine hK.out _ _ t0 (fun hHeld => ?_)
  clear hK K b6
  refine tk 8 ?_
  refine tk 9 ?_
  refine wpAnyH_done (by kernel_rfl) ?_ _
  clear hHeld
  go_wp2_with fail
  refine (sublist_any HC.o HA.o Hsub.o).mono ?_
  rintro r w7 ⟨rfl, rfl⟩
  go_wp2_with fail
  refine (rsat_any HD.o Hif.o HC.o (fun x hx => Has.o.1 x (Hsub.o.subset hx)) (by omega) (by have := Has.o.2; omega)).mono ?_
  rintro r w7 ⟨rfl, b7⟩
  rw [Hno.o, show decide (0 < 0) = false from rfl]
  have H4 := hid (H4.o.below b7)
  have HD := hid (HD.o.below b7)
  have HC := hid (HC.o.below b7)
  have KR := hid (keep_blk KR.o b7)
  have HB := hid (HB.o.trans (b7.mono HB.o.size))
  have HC := hid (HC.o.mono (G := fun g => g < w7.heap.size) fun g hg _ => hg)
  have hzr := lt_of_block KR.o
  obtain ⟨t0, t1, t2⟩ := box3 KR.o
  clear b7 HA HM
  obtain ⟨ts, hT, hPs, hdl⟩ := HD.o
  have bE : Below w7.heap.size w7 (w7.alloc (.cells #[] 41)) := (Below.refl _ _).alloc (Nat.le_refl _) _
  have HT := hid (hT.below bE)
  have Hone := hid hPs.one
  have HPs := hid ((hPs.mono (G := fun g => g < w7.heap.size) fun g hg _ => hg).below bE)
  have Hdl := hid hdl
  have HBE := hid bE
  clear hT hPs hdl bE HD
  go_wp2_with (at_builtin; refine wpList_append_pb rfl _ _ rfl (Own.none_ _ (fun _ => False) _ _ _) HT.o rfl rfl Hone.o (by omega) fun A6 c6 V6 ho hm hr => ?_; have hmB := hm; rw [row_none] at hmB; have hbV := hmB.below; have hbW := HBE.o.trans (hbV.mono HBE.o.size))
  rw [Nat.zero_add, List.nil_append] at ho
  obtain ⟨zB, hzB⟩ : ∃ z, w7.heap.size = z := ⟨_, rfl⟩
  have hsE := HBE.o.size
  have HS := hid (show Dbg zB (fun _ => True) V6 A6 n1 c6 ts ps from ⟨Hdl.o, ho.mono fun g _ _ h => h.elim (fun h => h.elim) fun h => by omega, (HPs.o.below hbV).mono fun g _ h => ⟨trivial, fun hr => by have := ho.row hr; rcases this.1 with h1 | h1 <;> first | exact h1.elim | omega⟩⟩)
  have H4 := hid (H4.o.below hbW)
  have HC := hid (HC.o.below hbW)
  have KR := hid (keep_blk KR.o hbW)
  have hBw := HB.o.size
  have hsV6 := hbW.size
  have HB := hid (HB.o.trans (hbW.mono hBw))
  have hzw : w.heap.size ≤ zB := by omega
  clear ho hm hr hmB hbV hbW HT HPs HBE hsE Hone Hdl
  try go_wp2_with fail
  refine (slog_any H4.o (by rw [Hlog.o]; exact Hsz.o) (by rw [Hlog.o]; have := Hnw.o.len; omega)).mono ?_
  rintro r w8 ⟨⟨A8, c8, rfl, hst⟩, b8⟩
  rw [Hlog.o] at hst ⊢
  obtain ⟨L, hL⟩ : ∃ L, new.length = L := ⟨_, rfl⟩
  rw [hL] at hst ⊢
  have hL4 : L ≤ 2187 := by have := Hnw.o.len; omega
  obtain ⟨y0, hy0⟩ : ∃ z, V6.heap.size = z := ⟨_, rfl⟩
  rw [hy0] at hst
  have HLg := hid (hst.mono (F' := fun g => y0 ≤ g ∧ g < w8.heap.size) (G' := fun g => y0 ≤ g ∧ g < w8.heap.size) (fun g hg h => ⟨h, hg⟩) fun g hg h => ⟨h, hg⟩)
  have Hrw := hid (show ∀ g, row (.slice A6 n1 c6) g → zB ≤ g ∧ (g < y0 ∨ w8.heap.size ≤ g) from fun g hg => by have := HS.o.row hg; exact ⟨this.1, .inl (by omega)⟩)
  have HS := hid (HS.o.below b8)
  have HC := hid (HC.o.below b8)
  have KR := hid (keep_blk KR.o b8)
  have HB := hid (HB.o.trans (b8.mono HB.o.size))
  have s8 := b8.size
  have hzB8 : zB ≤ w8.heap.size := by omega
  have hrl := lt_of_block KR.o
  have HL := hid hL
  clear hst b8 hL H4 t0 t1 t2
  go_wp2_with fail
  go_loopw [15, 104] (fun dv kv W => ∃ (j : Nat) (Ad : Option Addr) (cd : Nat) (tsd : List (Value × Value × Value)), j ≤ L ∧ kv = .int .i64 j ∧ dv = .slice Ad (n1 + j) cd ∧ Hid (Dbg zB (fun _ => True) W Ad (n1 + j) cd tsd (ps ++ (new.take j).map Stp.c)) ∧ Hid (∀ g, row (.slice Ad (n1 + j) cd) g → zB ≤ g ∧ (g < y0 ∨ w8.heap.size ≤ g)) ∧ Hid (Mod (fun g => zB ≤ g ∧ g < y0) w8 W)) (fun _ kv _ => L - (intOf kv).toNat)
  case atStart => exact ⟨0, A6, c6, ts, Nat.zero_le _, rfl, rfl, hid (by rw [List.take_zero, List.map_nil, List.append_nil]; exact HS.o), Hrw, hid (Mod.refl _ _)⟩
  case round =>
   obtain ⟨Y, rfl⟩ : ∃ Y, Y = wr := ⟨_, rfl⟩
   obtain ⟨j, Ad, cd, tsd, hj, rfl, rfl, HS, Hrw, HML⟩ := hrel
   by_cases hjl : j < L
   ·have y1 : (j : Int) < (L : Int) := by omega
    obtain ⟨g, o, s, t, rfl, hgF, hgl, hsk, hst, hce⟩ := (HLg.o.mod HML.o (fun g _ h h2 => by omega) (fun g _ h h2 => by omega)).cells hjl
    obtain ⟨L1, l1, d1, L2, l2, d2, C1, f1, rfl, hpb, hset⟩ := hst
    obtain ⟨k1, k2, Lc, k3, k4, k5, k6⟩ := Hnw.o.ok j s hsk
    obtain ⟨sk, q, ss⟩ := s
    obtain rfl : sk = 1 := k1
    obtain rfl : ss = [] := k2
    have hqc : q = (clauseB Lc).1 := k3
    have e0 : Y.cell? ⟨g, o + j * 6, none⟩ = some (.int .u8 1) := hce 0 _ rfl
    have e1 : Y.cell? ⟨g, o + j * 6 + 1, none⟩ = some (.slice L1 l1 d1) := hce 1 _ rfl
    have e2 : Y.cell? ⟨g, o + j * 6 + 2, none⟩ = some (.slice L2 l2 d2) := hce 2 _ rfl
    have e3 : Y.cell? ⟨g, o + j * 6 + 3, none⟩ = some (.int .i64 q.bound) := hce 3 _ rfl
    have e4 : Y.cell? ⟨g, o + j * 6 + 4, none⟩ = some (.slice C1 0 f1) := hce 4 _ rfl
    have e5 : Y.cell? ⟨g, o + j * 6 + 5, none⟩ = some (.slice none 0 0) := hce 5 _ rfl
    have hpb : PbRd Y (fun g => y0 ≤ g ∧ g < w8.heap.size) (.agg #[.slice L1 l1 d1, .slice L2 l2 d2, .int .i64 q.bound]) q := hpb
    obtain ⟨hqo, hql⟩ := clauseB_okN k4 k5
    have hqf := hqo.fewn hql
    rw [← hqc] at hqo hql hqf
    have hDok : OkN 7 (ps ++ (new.take j).map Stp.c) := fun p hp => by
     rcases List.mem_append.1 hp with hp | hp
     ·exact Hok.o p hp
     ·obtain ⟨s, hs, rfl⟩ := List.mem_map.1 hp
      obtain ⟨i, hi, e⟩ := List.getElem_of_mem (List.mem_of_mem_take hs)
      obtain ⟨_, _, Ls, h3, h4, h5, _⟩ := Hnw.o.ok i s (by rw [List.getElem?_eq_getElem hi, e])
      rw [h3]
      exact clauseB_okN h4 h5
    have HDok := hid hDok
    have Hk4 := hid k4
    have Hk6 := hid k6
    have Hqc := hid hqc
    have Hqi := hid hqo.i64
    have Hqok := hid ((Pb.ok_iff q).2 hqo)
    have Htk := hid (show ps ++ (new.take (j + 1)).map Stp.c = (ps ++ (new.take j).map Stp.c) ++ [q] by rw [List.take_add_one, hsk]; simp)
    obtain ⟨zx, hzx⟩ : ∃ z, Y.heap.size = z := ⟨_, rfl⟩
    obtain ⟨X, hX, bX, kX, sX⟩ := alloc_step Y (.cells #[.int .u8 1, .slice L1 l1 d1, .slice L2 l2 d2, .int .i64 q.bound, .slice C1 0 f1, .slice none 0 0] 52)
    rw [hzx] at kX
    have KX := hid kX
    obtain ⟨s0, s1, s2, s3, s4, s5⟩ := sbox6 kX
    have HX := hid hX
    rw [← hX] at s0 s1 s2 s3 s4 s5
    have hYs : w8.heap.size ≤ Y.heap.size := HML.o.size
    have HpX := hid (hpb.below bX)
    have HS := hid (HS.o.below bX)
    have HML := hid (HML.o.trans (Mod.of_below bX))
    clear k3 k4 k6 hset hpb bX kX sX hgF hgl hX hsk hce hqc hqo hql hDok
    go_wp2_with fail
    try rw [hzx]
    rw [HX.o]
    refine (rvalid_any HpX.o Hqi.o (by omega)).mono ?_
    rintro r w9 ⟨rfl, b9⟩
    rw [Hqok.o]
    have KX := hid (keep_blk KX.o b9)
    have HpX := hid (HpX.o.below b9)
    have HS := hid (HS.o.below b9)
    have HML := hid (HML.o.trans (Mod.of_below b9))
    obtain ⟨s0, s1, s2, s3, s4, s5⟩ := sbox6 KX.o
    clear b9 e0 e1 e2 e3 e4 e5 HX
    go_wp2_with fail
    refine (rrup_any (L := Lc) HS.o.rd HDok.o (show PbRd w9 (fun g => y0 ≤ g ∧ g < w8.heap.size) (.agg #[.slice L1 l1 d1, .slice L2 l2 d2, .int .i64 q.bound]) (clauseB Lc).1 by rw [← Hqc.o]; exact HpX.o) Hk4.o k5 Hk6.o (by omega)).mono ?_
    rintro r w10 ⟨rfl, b10⟩
    have KX := hid (keep_blk KX.o b10)
    have HpX := hid (HpX.o.below b10)
    have HS := hid (HS.o.below b10)
    have HML := hid (HML.o.trans (Mod.of_below b10))
    obtain ⟨s0, s1, s2, s3, s4, s5⟩ := sbox6 KX.o
    clear b10
    obtain ⟨X4, hX4, bX4, kX4, sX4⟩ := alloc_step w10 (.cells #[.slice L1 l1 d1, .slice L2 l2 d2, .int .i64 q.bound] 41)
    have K4 := hid (rd_lit3 kX4)
    have HS4 := hid (HS.o.below bX4)
    have HP4 := hid (HpX.o.below bX4)
    have HM4 := hid (HML.o.trans (Mod.of_below bX4))
    have D4o := hid HS4.o.own
    have hno1 : n1 + j + 1 ≤ 1000000 := by omega
    clear bX4 kX4 sX4 HS HML HpX KX
    go_wp2_with (at_builtin; refine wpList_append_pb rfl _ _ rfl D4o.o K4.o rfl rfl (pb_one HP4.o) hno1 fun A' c' V5 ho hm hr => ?_)
    have hs4 := HM4.o.size
    obtain ⟨D5, b5⟩ := HS4.o.push (t := (.slice L1 l1 d1, .slice L2 l2 d2, .int .i64 q.bound)) (by omega) ho hm hr (HP4.o.mono fun g _ hg => ⟨trivial, fun e => by have := Hrw.o g e; omega⟩)
    have HS5 := hid D5
    have HR5 := hid (show ∀ g, row (.slice A' (n1 + j + 1) c') g → zB ≤ g ∧ (g < y0 ∨ w8.heap.size ≤ g) from fun g hg => (hr g hg).elim (fun h => Hrw.o g h) fun h => ⟨by omega, .inr (by omega)⟩)
    have HM5 := hid (HM4.o.trans (hm.mono fun g _ hg => by
     obtain ⟨h1, h2⟩ := Hrw.o g hg
     rcases h2 with h2 | h2
     ·exact .inl ⟨h1, h2⟩
     ·exact .inr h2))
    clear D5 b5 ho hm hr hs4
    go_roundw
    case rel => exact ⟨j + 1, A', c', _, by omega, by go_num, rfl, hid (by rw [Htk.o]; exact HS5.o), HR5, HM5⟩
    case measure => simp [intOf]; omega
   ·have y1 : ¬ ((j : Int) < (L : Int)) := by omega
    have HLg := hid (HLg.o.mod HML.o (fun g _ h h2 => by omega) (fun g _ h h2 => by omega))
    have HC := hid (HC.o.mod HML.o fun g hg h h2 => by omega)
    have KR := hid ((HML.o.block zr hrl fun h => by have := h.1; omega).trans KR.o)
    have HB := hid (below_mod HB.o HB.o.size HML.o fun g hg => by omega)
    obtain ⟨t0, t1, t2⟩ := box3 KR.o
    clear HS Hrw HML
    have hn0 := Hn0.o
    have hL1 : n0.length + 1 = L := by rw [← HL.o, hn0]; simp
    have hlk : new[n0.length]? = some ⟨1, (clauseB (co.map fun l => -l)).1, []⟩ := by rw [hn0]; simp
    obtain ⟨L', hL'⟩ : ∃ k, n0.length = k := ⟨_, rfl⟩
    rw [hL'] at hL1 hlk
    obtain ⟨q, hq⟩ : ∃ q, (clauseB (co.map fun l => -l)).1 = q := ⟨_, rfl⟩
    rw [hq] at hlk
    obtain ⟨gl, ol, s, t, rfl, _, _, hsk, hst, hce⟩ := HLg.o.cells (i := L') (by omega)
    obtain rfl := Option.some.inj (hlk.symm.trans hsk)
    obtain ⟨P1, p1, a1, P2, p2, a2, C1, f1, rfl, hpb, _⟩ := hst
    have HyL := hid (show Y.cell? ⟨gl, ol + L' * 6 + 1, none⟩ = some (.slice P1 p1 a1) ∧ Y.cell? ⟨gl, ol + L' * 6 + 2, none⟩ = some (.slice P2 p2 a2) ∧ Y.cell? ⟨gl, ol + L' * 6 + 3, none⟩ = some (.int .i64 q.bound) from ⟨hce 1 _ rfl, hce 2 _ rfl, hce 3 _ rfl⟩)
    have HpL := hid (show PbRd Y (fun g => y0 ≤ g ∧ g < w8.heap.size) (.agg #[.slice P1 p1 a1, .slice P2 p2 a2, .int .i64 q.bound]) q from hpb)
    have Hq := hid hq
    have HL1 := hid hL1
    clear hn0 hL1 hlk hL' hq hsk hce hpb HLg
    go_wp2_with fail
    go_loopw [19, 136] (fun nv iv W => ∃ (i : Nat) (Xn : Option Addr) (cn : Nat), i ≤ u2 ∧ iv = .int .i64 i ∧ nv = .slice Xn i cn ∧ Hid (Own W (fun g => Y.heap.size ≤ g) 3 1 (.slice Xn i cn) i (ints ((co.take i).map fun l => -l))) ∧ Hid (Below Y.heap.size Y W)) (fun _ iv _ => u2 - (intOf iv).toNat)
    case atStart => exact ⟨0, none, 0, Nat.zero_le _, rfl, rfl, Own.nil _ _ _ _, Below.refl _ _⟩
    case round =>
     obtain ⟨V, rfl⟩ : ∃ V, V = wr := ⟨_, rfl⟩
     obtain ⟨i, Xn, cn, hi, rfl, rfl, Ho, HBi⟩ := hrel
     have hsz := HBi.o.size
     by_cases hlt : i < u2
     ·have x1 : (i : Int) < (u2 : Int) := by omega
      obtain ⟨gC, oC, rfl, _, hgC, eC⟩ := (HC.o.below HBi.o).cell.2 i hlt
      have hcx := Has.o.1 (nth co i) (Hsub.o.subset (nth_mem (by rw [hCl]; exact hlt)))
      have htk := take_nth (xs := co) (k := i) (by rw [hCl]; exact hlt)
      obtain ⟨x, hx⟩ : ∃ x, nth co i = x := ⟨_, rfl⟩
      rw [hx] at eC hcx htk
      have Htk := hid (show (co.take (i + 1)).map (fun l => -l) = (co.take i).map (fun l => -l) ++ [-x] by rw [htk]; simp)
      have hwn : IntKind.i64.wrap (-x) = -x := iw' (by omega) (by omega)
      clear htk hx
      go_wp2_with (at_builtin; refine wpList_append_ints rfl _ _ rfl (Ho.o.below ((Below.refl _ _).alloc (Nat.le_refl _) _)) (own_one V (.int .i64 (-x))).rd rfl rfl (by simp [Value.oneCell']) (by omega) ?_; intro Av cv w9 ho9 hm9 hr9)
      go_roundw
      case rel =>
       refine ⟨i + 1, Av, cv, by omega, by go_num, rfl, ?_, ?_⟩
       ·rw [Htk.o, ints_append]
        exact ho9.mono fun g _ _ hg => hg.elim id fun hg => by simp at hg; omega
       ·exact below_mod (HBi.o.alloc hsz _) (by simp; omega) hm9 fun g hg => (Ho.o.row hg).1
      case measure => simp [intOf]; omega
     ·have x1 : ¬ ((i : Int) < (u2 : Int)) := by omega
      have hiu : i = u2 := by omega
      have HoC := hid (show Rd V (fun g => Y.heap.size ≤ g) 1 (.slice Xn i cn) i (ints (co.map fun l => -l)) by
       have h := Ho.o.rd
       rwa [List.take_of_length_le (by omega)] at h)
      have HcI := hid (show ∀ x ∈ co.map (fun l => -l), I64 x from fun x hx => by
       obtain ⟨y, hy, rfl⟩ := List.mem_map.1 hx
       have := (Has.o.1 y (Hsub.o.subset hy)).2
       unfold I64
       omega)
      have hi8 : i ≤ 8 := by have := Has.o.2; omega
      have HB := hid (HB.o.trans (HBi.o.mono HB.o.size))
      have HpL := hid (HpL.o.below HBi.o)
      have HyL := hid (show V.cell? ⟨gl, ol + L' * 6 + 1, none⟩ = some (.slice P1 p1 a1) ∧ V.cell? ⟨gl, ol + L' * 6 + 2, none⟩ = some (.slice P2 p2 a2) ∧ V.cell? ⟨gl, ol + L' * 6 + 3, none⟩ = some (.int .i64 q.bound) from ⟨keep_cell HyL.o.1 HBi.o, keep_cell HyL.o.2.1 HBi.o, keep_cell HyL.o.2.2 HBi.o⟩)
      clear hiu HC HBi Ho
      go_wp2_with fail
      refine (rclause_any HoC.o HcI.o (by omega)).mono ?_
      rintro r w9 ⟨⟨pv, rfl, hpv⟩, b9⟩
      rw [Hq.o] at hpv
      obtain ⟨err, herr⟩ : ∃ e, (clauseB (co.map fun l => -l)).2 = e := ⟨_, rfl⟩
      rw [herr]
      have hpv0 := hpv
      obtain ⟨⟨Q1, q1, b1, Q2, q2, b2, rfl, _, _⟩, _⟩ := hpv0
      obtain ⟨XQ, hX, bX, kX, sX⟩ := alloc_step w9 (.cells #[.slice Q1 q1 b1, .slice Q2 q2 b2, .int .i64 q.bound] 41)
      obtain ⟨zq, hzq⟩ : ∃ z, w9.heap.size = z := ⟨_, rfl⟩
      rw [hzq] at kX
      have HXQ := hid hX
      obtain ⟨z0, z1, z2⟩ := box3 kX
      rw [← hX] at z0 z1 z2
      have bQ := b9.trans (bX.mono b9.size)
      have HpQ := hid (hpv.below bX)
      have HpL := hid (HpL.o.below bQ)
      have HB := hid (HB.o.trans (bQ.mono HB.o.size))
      have y1 := keep_cell HyL.o.1 bQ
      have y2 := keep_cell HyL.o.2.1 bQ
      have y3 := keep_cell HyL.o.2.2 bQ
      clear hpv b9 bX kX sX bQ herr hX HoC HcI
      go_wp2_with fail
      try rw [hzq]
      rw [HXQ.o] at z0 z1 z2 ⊢
      have hL1 := HL1.o
      have xL : (L : Int) - 1 = (L' : Int) := by omega
      have xb : (L' : Int) < (L : Int) := by omega
      have xz : ((L : Int) == 0) = false := by simp; omega
      have xw : IntKind.i64.wrap (L' : Int) = (L' : Int) := iw' (by omega) (by omega)
      clear hL1 HXQ
      refine wp_region_held_drew (S := fun w' => w'.cell? ⟨gl, ol + L' * 6 + 1, none⟩ = some (.slice P1 p1 a1) ∧ w'.cell? ⟨gl, ol + L' * 6 + 2, none⟩ = some (.slice P2 p2 a2) ∧ w'.cell? ⟨gl, ol + L' * 6 + 3, none⟩ = some (.int .i64 q.bound) ∧ w'.cell? ⟨zq, 0, none⟩ = some (.slice Q1 q1 b1) ∧ w'.cell? ⟨zq, 1, none⟩ = some (.slice Q2 q2 b2) ∧ w'.cell? ⟨zq, 2, none⟩ = some (.int .i64 q.bound)) (by kernel_rfl) ⟨y1, y2, y3, z0, z1, z2⟩ (fun hHeld => ?_)
      obtain ⟨WD, hWD⟩ : ∃ Y, XQ.drew = Y := ⟨_, rfl⟩
      have bD : Below XQ.heap.size XQ XQ.drew := Bl.drew (Below.refl _ _)
      have HpL := hid (HpL.o.below bD)
      have HpQ := hid (HpQ.o.below bD)
      have HB := hid (HB.o.trans (bD.mono HB.o.size))
      rw [hWD] at hHeld HpL HpQ HB ⊢
      clear hWD bD y1 y2 y3 z0 z1 z2
      refine tk 0 ?_
      refine tk 1 ?_
      refine tk 2 ?_
      refine tk 3 ?_
      refine tk 4 ?_
      refine tk 5 ?_
      refine tk 6 ?_
      refine tk 7 ?_
      refine tk 8 ?_
      refine tk 9 ?_
      refine tk 10 ?_
      refine tk 11 ?_
      refine rd1 12 fun K hK => ?_
      go_simp
      refine (requal_any HpL.o HpQ.o).mono ?_
      rintro r w9 ⟨rfl, b9⟩
      rw [show q.same q = true by unfold Pb.same; simp]
      have HB := hid (HB.o.trans (b9.mono HB.o.size))
      obtain ⟨y1, y2, y3, z0, z1, z2⟩ := hHeld
      have kc : ∀ {a : Addr} {v : Value}, WD.cell? a = some v → w9.cell? a = some v := fun h => keep_cell h b9
      go_simp
      refine hK.out _ _ ⟨kc y1, kc y2, kc y3, kc z0, kc z1, kc z2⟩ (fun hHeld => ?_)
      clear hK K b9 kc y1 y2 y3 z0 z1 z2
      refine tk 13 ?_
      refine tk 14 ?_
      refine wpAnyH_done (by kernel_rfl) ?_ _
      clear hHeld
      clear xL xb xz xw
      go_wp2_with fail
      refine awake32_any.mono ?_
      rintro r w20 ⟨rfl, b20⟩
      have HB := hid (HB.o.trans (b20.mono HB.o.size))
      clear b20
      go_wp2_with fail
      go_ret
      exact ⟨rfl, HB.o⟩
end Go.Proofs.YtcjmpobccbnpkaaGreat
