/-
 The law SearchDecides.
-/
import Derived.Test.YtcjmpobccbnpkaaGreatMjbr
import Derived.Test.YtcjmpobccbnpkaaGreatMjbp
import Derived.Test.YtcjmpobccbnpkaaGreatTk
namespace Go.Proofs.YtcjmpobccbnpkaaGreat
open Go.RowKit

/-- What a search without a lazy function answers, in the law's words. -/
structure Told (Bs : List Pb) (asm : List Int) (new : List Stp) (sat : Bool) (M co : List Int) : Prop where
 ans : sat = decide (0 < modelsN Bs asm 128)
 yes : sat = true → M.length = 7 ∧ fineB Bs asm M = true ∧ (∀ i, i < 7 → nth M i = 1 ∨ nth M i = -1) ∧ co = []
 no : sat = false → M = [] ∧ modelsN Bs co 128 = 0 ∧ List.Sublist co asm ∧ 1 ≤ new.length
theorem Nilled.law {Bs G : List Pb} {asm : List Int} {log0 new : List Stp} {most : Nat} {sat : Bool} {M co : List Int} {e : Int} (h : Nilled 7 Bs G asm log0 most new sat M co e) (hok : OkN 7 Bs) (ha : ∀ x ∈ asm, x ≠ 0 ∧ x.natAbs ≤ 7) :
  (e = 0 ∧ Told Bs asm new sat M co) ∨ (e = 5 ∧ most < 2187 ∧ sat = false ∧ M = [] ∧ co = []) := by
 cases h with
 | sat X hX hn hxa hall hcal =>
  obtain ⟨h1, h2, h3⟩ := sat_hold hX hn hall hok hcal
  refine .inl ⟨rfl, (decide_eq_true ((models_iff hok ha).2 ⟨_, h3, fun x hx => (h2 x (ha x hx).1 (ha x hx).2).2 (hxa x hx)⟩)).symm, fun _ => ⟨asgX_len _ _, ?_, fun i hi => ?_, rfl⟩, (fun h => by cases h)⟩
  ·exact (fineB_iff hok ha h1).2 ⟨h3, fun x hx => (h2 x (ha x hx).1 (ha x hx).2).2 (hxa x hx)⟩
  ·have h4 := h1 i hi
   rw [asgX_nth X hi] at h4 ⊢
   rcases valX_cases X ((i : Int) + 1) with e | e | e
   ·exact .inl e
   ·exact absurd e h4
   ·exact .inr e
 | unsat co hs hno n0 hn hr =>
  refine .inl ⟨rfl, (decide_eq_false fun h => ?_).symm, (fun h => by cases h), fun _ => ⟨rfl, ?_, hs, by rw [hn]; simp⟩⟩
  ·obtain ⟨s, h1, h2⟩ := (models_iff hok ha).1 h
   exact hno s h1 fun x hx => h2 x (hs.subset hx)
  ·refine Nat.eq_zero_of_not_pos fun h => ?_
   obtain ⟨s, h1, h2⟩ := (models_iff hok fun x hx => ha x (hs.subset hx)).1 h
   exact hno s h1 h2
 | many hmany =>
  have := hmany _ (Open.all (n := 7) ⟨asm, G, log0, 7, most, [], fun _ => False⟩ rfl)
  refine .inr ⟨rfl, ?_, rfl, rfl, rfl⟩
  simpa using this
/-- The same as a call's contract, for a solver of 7 variables. -/
theorem ssolve7 {w : World} {F Ga : Nat → Prop} {sb tb eb ob pm na ca most : Nat} {Aa : Option Addr} {asm : List Int} {Bs : List Pb} {S : Sol} (h : SolP w F sb tb eb ob pm S) (hK : Kept 7 Bs S)
  (hasm : Rd w Ga 1 (.slice Aa na ca) na (ints asm)) (hGa : ∀ g, Ga g → ¬ F g) (hal : ∀ x ∈ asm, x ≠ 0 ∧ x.natAbs ≤ 7) (hna : na ≤ 8) (hmost : most ≤ 65536) (hG : S.E.cs.length ≤ 400000) (hL : S.log.length ≤ 400000) :
  Calls Tryz.prog 10 #[.pointer (some ⟨sb, 0, none⟩), .slice Aa na ca, .int .i64 most, .nilFunc] w fun r w' => (∃ sat A1 n1 c1 A2 n2 c2 e, r = .returned (.tuple #[.agg #[.bool sat, .slice A1 n1 c1, .slice A2 n2 c2], .int .i64 e]) ∧ ∃ S' F' new M co, ((e = 0 ∧ Told Bs asm new sat M co) ∨ (e = 5 ∧ most < 2187 ∧ sat = false ∧ M = [] ∧ co = [])) ∧
   Kept 7 Bs S' ∧ S'.log = S.log ++ new ∧ S'.E.cs = S.E.cs ++ new.map Stp.c ∧ new.length ≤ 2187 ∧ SolP w' F' sb tb eb ob pm S' ∧ (∀ g, F' g → g < w'.heap.size ∧ (F g ∨ w.heap.size ≤ g)) ∧ Rd w' (fun g => w.heap.size ≤ g ∧ ¬ F' g) 1 (.slice A1 n1 c1) n1 (i8s M) ∧ Rd w' (fun g => w.heap.size ≤ g ∧ ¬ F' g) 1 (.slice A2 n2 c2) n2 (ints co)) ∧ Mod F w w' := by
 refine (ssolve_nil h hK hasm hGa hal hna (by omega) hmost hG hL).mono ?_
 rintro r w' ⟨⟨sat, A1, n1, c1, A2, n2, c2, e, rfl, S', F', new, M, co, h1, h2, h3, h4, h5, h6, h7, h8, h9⟩, hm⟩
 exact ⟨⟨sat, A1, n1, c1, A2, n2, c2, e, rfl, S', F', new, M, co, h1.law hK.okBs hal, h2, h3, h4, h5.len, h6, h7, h8, h9⟩, hm⟩
set_option maxRecDepth 100000 in
set_option maxHeartbeats 8000000 in
theorem decides_walk {w : World} {A B C : Option Addr} {n cA m cB q cC : Nat} {lls kks : List (List Int)} {bs : List Int} {Dds : Option Addr} {dds cDds : Nat} {ds : List Int} (hl : LsRd w (fun _ => True) A n cA lls) (hk : LsRd w (fun _ => True) B m cB kks) (hb : Rd w (fun _ => True) 1 (.slice C q cC) q (ints bs)) (hds : Rd w (fun _ => True) 1 (.slice Dds dds cDds) dds (ints ds)) :
  Calls Tryz.prog 6 #[.slice A n cA, .slice B m cB, .slice C q cC, .slice Dds dds cDds] w fun r w' => r = .returned (.bool true) ∧ Below w.heap.size w w' := by
 have Hds := hid (hds.mono (G := fun g => g < w.heap.size) fun g hg _ => hg)
 have Hsm := hid (small32_any hl hk hb)
 clear hl hk hb hds
 go_enter Tryz.func6, Tryz.ntmps6
 go_wp2_with fail
 refine Hsm.out.mono ?_
 rintro r w1 ⟨⟨A1, n1, c1, ts1, rfl, hD⟩, b1⟩
 have hok1 : OkN 7 (small7 lls kks bs (min lls.length 24)) := fun p hp => small7_mem hp
 have hle1 := small7_len lls kks bs (min lls.length 24)
 obtain ⟨ps, hps⟩ : ∃ ps, small7 lls kks bs (min lls.length 24) = ps := ⟨_, rfl⟩
 rw [hps] at hD hok1 hle1
 have hn1 : n1 ≤ 24 := by rw [← hD.len]; omega
 have Hok := hid hok1
 have Hi64 := hid (fun p hp => (Hok.out p hp).1.i64)
 have HD := hid hD.rd
 have Hlen := hid (show ps.length = n1 from hD.len)
 have B1 := hid b1
 have hw1 := b1.size
 have Hds := hid ((Hds.out.below b1).mono (G := fun g => g < w1.heap.size) fun g _ hg => by omega)
 clear hok1 hle1 hps hD b1 Hsm
 go_wp2_with fail
 refine (lits7_any Hds.out).mono ?_
 rintro r w2 ⟨⟨A2, c2, rfl, h2⟩, b2⟩
 have hlt := lits7B_ok (l := ds)
 obtain ⟨qs, has⟩ : ∃ qs, lits7B ds = qs := ⟨_, rfl⟩
 rw [has] at hlt h2 ⊢
 obtain ⟨na, hna⟩ : ∃ k, qs.length = k := ⟨_, rfl⟩
 rw [hna] at hlt h2 ⊢
 have Has := hid hlt
 have HA := hid (h2.mono (G := fun g => g < w2.heap.size) fun g hg _ => hg)
 have HD := hid ((HD.out.mono (F' := fun g => g < w1.heap.size) (G' := fun g => g < w1.heap.size) (fun g hg _ => hg) fun g hg h => hg).below b2)
 have B2 := hid (B1.out.trans (b2.mono B1.out.size))
 have hw2 := B2.out.size
 have hw12 := b2.size
 clear hlt h2 b2 Hds has hna B1
 go_wp2_with fail
 have hld := loaded32_any (n := 7) HD.out Hi64.out Hok.out.fits (by omega) (by omega)
 rw [show ((7 : Nat) : Int) = 7 from rfl] at hld
 refine hld.mono ?_
 rintro r w3 ⟨⟨sb, rfl, tb, eb, ob, pm, S, h1, h2, h3, h4⟩, b3⟩
 have H := hid h1
 have HK := hid (Kept.start h2 h3 h4 Hok.out)
 have Hcs := hid h3
 have Hlg := hid h4
 have HD := hid (HD.out.below b3)
 have HA := hid (HA.out.below b3)
 have B3 := hid (B2.out.trans (b3.mono B2.out.size))
 have hw3 := b3.size
 have HF := hid (show ∀ g, w2.heap.size ≤ g → w2.heap.size ≤ g from fun _ h => h)
 clear h1 h2 h3 h4 b3 hld B2
 go_wp2_with fail
 have hsv := ssolve7 (most := 4000) H.out HK.out HA.out (fun g hg hf => by omega) Has.out.1 (by have := Has.out.2; omega) (by omega) (by rw [Hcs.out, Hlen.out]; omega) (by rw [Hlg.out]; simp)
 rw [show ((4000 : Nat) : Int) = 4000 from rfl] at hsv
 refine hsv.mono ?_
 rintro r w4 ⟨⟨sat, U1, u1, v1, U2, u2, v2, ez, rfl, T4, F4, new4, M, co, hni, hk, hlog, hcs, hnw, h1, hF, hM, hco⟩, m1⟩
 obtain ⟨rfl, ht⟩ : ez = 0 ∧ Told ps qs new4 sat M co := by rcases hni with h | h <;> first | exact h | omega
 have s1 := m1.size
 have HD := hid (HD.out.mod m1 (fun g hg hf => by omega) (fun g hg hf => by omega))
 have HA := hid (HA.out.mod m1 fun g _ hg hf => by omega)
 have B4 := hid (below_mod B3.out B3.out.size m1 fun g hg => by omega)
 have HM := hid (hM.mono (G := fun g => g < w4.heap.size) fun g hg _ => hg)
 have HC := hid (hco.mono (G := fun g => g < w4.heap.size) fun g hg _ => hg)
 have Ht := hid ht
 have hMl : M.length = u1 := by have := hM.1; rw [i8s_length] at this; omega
 clear h1 hF hM hco m1 hni hk hlog hcs hnw ht H HK Hcs Hlg HF hsv B3
 obtain ⟨X5, hX, bX, kX, sX⟩ := alloc_step w4 (.cells #[.bool sat, .slice U1 u1 v1, .slice U2 u2 v2] 35)
 have HX5 := hid hX
 have HD := hid (HD.out.below bX)
 have HA := hid (HA.out.below bX)
 have HM := hid (HM.out.below bX)
 have HC := hid (HC.out.below bX)
 have B5 := hid (B4.out.trans (bX.mono B4.out.size))
 obtain ⟨zr, hzr⟩ : ∃ z, w4.heap.size = z := ⟨_, rfl⟩
 rw [hzr] at kX
 have KR := hid kX
 obtain ⟨t0, t1, t2⟩ := box3 kX
 rw [← hX] at t0 t1 t2
 clear hX bX kX B4 sX
 go_wp2_with fail
 try rw [hzr]
 rw [HX5.out] at t0 t1 t2 ⊢
 skip
 refine wp_region_held_drew (S := fun w' => w'.cell? ⟨zr, 0, none⟩ = some (.bool sat)) (by kernel_rfl) t0 (fun hHeld => ?_)
 obtain ⟨WD, hWD⟩ : ∃ Y, X5.drew = Y := ⟨_, rfl⟩
 have bD : Below X5.heap.size X5 X5.drew := Bl.drew (Below.refl _ _)
 have HD := hid (HD.out.below bD)
 have HA := hid (HA.out.below bD)
 have HM := hid (HM.out.below bD)
 have HC := hid (HC.out.below bD)
 have KR := hid (keep_blk KR.out bD)
 have B5 := hid (B5.out.trans (bD.mono B5.out.size))
 rw [hWD] at hHeld HD HA HM HC KR B5 ⊢
 clear hWD bD
 refine tk 0 ?_
 refine tk 1 ?_
 refine tk 2 ?_
 refine tk 3 ?_
 refine tk 4 ?_
 refine tk 5 ?_
 refine tk 6 ?_
 refine wpAnyH_ready (rs := [7]) (by kernel_rfl) (by simp) (AllReadyH.cons (o := ⟨_, _, _, _, _, _⟩) rfl (fun K hK => ?_) AllReadyH.nil)
 go_simp
 refine (models_any HD.out Hi64.out HA.out Has.out.1 (by omega) (by have := Has.out.2; omega)).mono ?_
 rintro r w6 ⟨rfl, b6⟩
 have HD := hid (HD.out.below b6)
 have HA := hid (HA.out.below b6)
 have HM := hid (HM.out.below b6)
 have HC := hid (HC.out.below b6)
 have KR := hid (keep_blk KR.out b6)
 have B6 := hid (B5.out.trans (b6.mono B5.out.size))
 obtain ⟨t0, t1, t2⟩ := box3 KR.out
 obtain ⟨q, hq⟩ : ∃ q, modelsN ps qs 128 = q := ⟨_, rfl⟩
 have hans := Ht.out.ans
 rw [hq] at hans ⊢
 go_simp
 refine hK.out _ _ t0 (fun hHeld => ?_)
 clear hK K
 clear b6 B5
 try simp only [Act.put, List.setIfInBounds_toArray, List.set_cons_zero, List.set_cons_succ]
 refine tk 8 ?_
 refine tk 9 ?_
 refine tk 10 ?_
 refine wpAnyH_done (by kernel_rfl) ?_ _
 have Hq := hid hq
 clear hq hHeld
 cases sat with
 | false =>
  have hq0 : q = 0 := by
   have := of_decide_eq_false hans.symm
   omega
  subst hq0
  clear hans
  obtain ⟨hM0, hno, hsub, _⟩ := Ht.out.no rfl
  have Hno := hid hno
  have Hsub := hid hsub
  have hcl := hsub.length_le
  have hc7 := HC.out.cell.1
  have hAl := HA.out.cell.1
  clear hno hsub hM0
  go_wp2_with fail
  refine (models_any HD.out Hi64.out HC.out (fun x hx => Has.out.1 x (Hsub.out.subset hx)) (by omega) (by have := Has.out.2; omega)).mono ?_
  rintro r w7 ⟨rfl, b7⟩
  rw [Hno.out]
  have B7 := hid (B6.out.trans (b7.mono B6.out.size))
  clear b7
  go_wp2_with fail
  refine awake32_any.mono ?_
  rintro r w8 ⟨rfl, b8⟩
  have B8 := hid (B7.out.trans (b8.mono B7.out.size))
  clear b8
  go_wp2_with fail
  go_ret
  exact ⟨rfl, B8.out⟩
 | true =>
  have hq0 : 0 < q := of_decide_eq_true hans.symm
  clear hans
  obtain ⟨hM7, hfine, _, _⟩ := Ht.out.yes rfl
  rw [hM7] at hMl
  subst hMl
  have Hfine := hid hfine
  clear hfine hM7
  go_wp2_with fail
  refine (fine_any HD.out Hi64.out HA.out HM.out Has.out.1 (by omega) (by have := Has.out.2; omega)).mono ?_
  rintro r w7 ⟨rfl, b7⟩
  rw [Hfine.out]
  have B7 := hid (B6.out.trans (b7.mono B6.out.size))
  clear b7
  go_wp2_with fail
  refine awake32_any.mono ?_
  rintro r w8 ⟨rfl, b8⟩
  have B8 := hid (B7.out.trans (b8.mono B7.out.size))
  clear b8
  go_wp2_with fail
  go_ret
  exact ⟨rfl, B8.out⟩
end Go.Proofs.YtcjmpobccbnpkaaGreat
