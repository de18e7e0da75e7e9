/-
  The law SearchAgain.
-/
import Derived.Test.YtcjmpobccbnpkaaGreatSgI
import Derived.Test.YtcjmpobccbnpkaaGreatTk
namespace Go.Proofs.YtcjmpobccbnpkaaGreat
open Go.RowKit

theorem pbs_to {A : Option Addr} {n c i : Nat} (hA : 0 < n → ∃ g o, A = some ⟨g, o, none⟩) (hi : i ≤ n) (hc : n ≤ c) :
    ∃ A', (0 < n → A' = A) ∧ ∀ W : World, (Instr.slice 45 (.slice A n c) none (some (.int .i64 (i : Int))) none).run Tryz.prog W = .ok (.slice A' i c) W := by
  have h1 : (0 : Int) ≤ (i : Int) ∧ (i : Int) ≤ (c : Int) := by omega
  refine ⟨if c = 0 then A else A.map (·.add (0 * 3)), fun hp => ?_, fun W => by simp [Instr.slice, Instr.sliceBounds, Instr.sliceBound, run_underlying Tryz.underlying45, asIntOf, h1, Tryz.sizeOf41]; exact fun h => absurd h (by omega)⟩
  obtain ⟨g, o, rfl⟩ := hA hp
  rw [if_neg (by omega)]
  simp [addr_add]
section
variable {w : World} {F G : Nat → Prop} {k : Nat} {A A' : Option Addr} {n c i : Nat} {xs : List Value} {ps : List Pb}
theorem rd_to_k (h : Rd w F k (.slice A n c) n xs) (hi : i ≤ n) (hA : 0 < n → A' = A) : Rd w F k (.slice A' i c) i (xs.take (i * k)) := by
  rcases Nat.eq_zero_or_pos n with e | e
  · obtain ⟨_, A'', c', hv, _, hm, _⟩ := h
    injection hv with _ _ h3
    subst h3
    have hi0 : i = 0 := by omega
    subst hi0
    exact ⟨by simp, _, _, rfl, Nat.zero_le _, hm, fun h => absurd h (by omega)⟩
  · rw [hA e]
    exact h.take hi
theorem PsRd.to (h : PsRd w F G A n c ps) (hi : i ≤ n) (hA : 0 < n → A' = A) : PsRd w F G A' i c (ps.take i) := by
  obtain ⟨ts, h1, h2, h3⟩ := h
  exact ⟨ts.take i, by rw [← flat3_take]; exact rd_to_k h1 hi hA, h2.take i, by rw [List.length_take]; omega⟩
theorem PsRd.spot (h : PsRd w F G A n c ps) : n ≤ c ∧ c ≤ maxLen ∧ (0 < n → ∃ g o, A = some ⟨g, o, none⟩) := by
  obtain ⟨ts, h1, _⟩ := h
  exact rd_spot h1
end
theorem LsRd.low {w : World} {F : Nat → Prop} {A : Option Addr} {n c : Nat} {lls : List (List Int)} (h : LsRd w F A n c lls) : LsRd w (fun g => g < w.heap.size) A n c lls := by
  obtain ⟨rows, h1, h2, h3⟩ := h
  refine ⟨rows, h1.mono fun g hg _ => hg, h2, fun i l hl => ?_⟩
  obtain ⟨R, d, h4, h5⟩ := h3 i l hl
  exact ⟨R, d, h4, h5.mono fun g hg _ => hg⟩
set_option maxRecDepth 100000 in
set_option maxHeartbeats 8000000 in
theorem again_walk {w : World} {A B C : Option Addr} {n cA m cB q cC : Nat} {lls kks : List (List Int)} {bs : List Int} {D : Option Addr} {nD cD : Nat} {asks : List (List Int)} (hl : LsRd w (fun _ => True) A n cA lls) (hk : LsRd w (fun _ => True) B m cB kks) (hb : Rd w (fun _ => True) 1 (.slice C q cC) q (ints bs)) (hd : LsRd w (fun _ => True) D nD cD asks) :
    Calls Tryz.prog 8 #[.slice A n cA, .slice B m cB, .slice C q cC, .slice D nD cD] w fun r w' => r = .returned (.bool true) ∧ Below w.heap.size w w' := by
  have Hsm := hid (small32_any hl hk hb)
  obtain ⟨hcap, hmx, hA0⟩ := hd.spot
  have hnD : nD ≤ 9223372036854775807 := by unfold maxLen at hmx; omega
  obtain ⟨Q, hQ⟩ : ∃ Q, min nD 6 = Q := ⟨_, rfl⟩
  have hmin : ∀ w, (Builtin.min_ #[3, 3] 3 #[.int .i64 (nD : Int), .int .i64 6]).run Tryz.prog w = .ok (.int .i64 (Q : Int)) w := fun w => by rw [run_min]; congr 2; omega
  obtain ⟨D2, hD2, hsl⟩ := slices_to (A := D) (n := nD) (c := cD) (i := Q) hA0 (by omega) hcap
  have HAs := hid (hd.to (show Q ≤ nD by omega) hD2)
  have hQ6 : Q ≤ 6 := by omega
  clear hl hk hb hd hcap hmx hA0 hD2 hQ
  go_enter Tryz.func8, Tryz.ntmps8
  go_wp2_with fail
  refine Hsm.out.mono ?_
  rintro r w1 ⟨⟨A1, n1, c1, ts1, rfl, hD⟩, b1⟩
  have hok1 : OkN 7 (small7 lls kks bs (min lls.length 24)) := fun p hp => small7_mem hp
  have hle1 := small7_len lls kks bs (min lls.length 24)
  obtain ⟨ps, hps⟩ : ∃ ps, small7 lls kks bs (min lls.length 24) = ps := ⟨_, rfl⟩
  rw [hps] at hD hok1 hle1
  have hn1 : n1 ≤ 24 := by rw [← hD.len]; omega
  have Hok := hid hok1
  have Hi64 := hid (fun p hp => (Hok.out p hp).1.i64)
  have HD := hid hD.rd
  have Hlen := hid (show ps.length = n1 from hD.len)
  have B1 := hid b1
  have hw1 := b1.size
  clear hok1 hle1 hps hD b1 Hsm
  have HD := hid (HD.out.mono (F' := fun g => g < w1.heap.size) (G' := fun g => g < w1.heap.size) (fun g hg _ => hg) fun g hg h => hg)
  have hsp := HD.out.spot
  have Hps := hid hsp
  have HAs := hid (HAs.out.below B1.out).low
  obtain ⟨k0, hk0⟩ : ∃ k, n1 / 2 = k := ⟨_, rfl⟩
  have hq2 : ((n1 : Nat) : Int).tdiv 2 = (k0 : Int) := by rw [Int.tdiv_eq_ediv_of_nonneg (by omega)]; omega
  obtain ⟨At, hAt, hst⟩ := pbs_to (A := A1) (n := n1) (c := c1) (i := k0) hsp.2.2 (by omega) hsp.1
  have HL0 := hid (HD.out.to (show k0 ≤ n1 by omega) hAt)
  have hk0n : k0 ≤ n1 := by omega
  clear hsp hAt hk0
  go_wp2_with fail
  have hld := loaded32_any (n := 7) HL0.out (fun p hp => Hi64.out p (List.mem_of_mem_take hp)) (fun p hp => Hok.out.fits p (List.mem_of_mem_take hp)) (by omega) (by omega)
  rw [show ((7 : Nat) : Int) = 7 from rfl] at hld
  refine hld.mono ?_
  rintro r w3 ⟨⟨sb, rfl, tb, eb, ob, pm, S, h1, h2, h3, h4⟩, b3⟩
  have H := hid (show ∃ F S, SolP w3 F sb tb eb ob pm S ∧ (∀ g, F g → w1.heap.size ≤ g) ∧ Kept 7 (ps.take k0) S ∧ S.E.cs.length ≤ 24 + 2300 * 0 ∧ S.log.length = 0 ∧ 0 ≤ 2300 * 0 from ⟨_, S, h1, fun _ h => h, Kept.start h2 h3 h4 (fun p hp => Hok.out p (List.mem_of_mem_take hp)), by rw [h3, List.length_take]; omega, by rw [h4]; rfl, by omega⟩)
  have B3 := hid b3
  clear h1 h2 h3 h4 b3 hld hst hq2 HL0
  go_wp2_with fail
  go_loopw [10, 13, 42] (fun kv lv jv W => ∃ (j kk L : Nat), j ≤ Q ∧ kk ≤ n1 ∧ jv = .int .i64 j ∧ kv = .int .i64 kk ∧ lv = .int .i64 L ∧ Hid (Below w1.heap.size w1 W) ∧ Hid (∃ F S, SolP W F sb tb eb ob pm S ∧ (∀ g, F g → w1.heap.size ≤ g) ∧ Kept 7 (ps.take kk) S ∧ S.E.cs.length ≤ 24 + 2300 * j ∧ S.log.length = L ∧ L ≤ 2300 * j)) (fun _ _ jv _ => Q - (intOf jv).toNat)
  case atStart => exact ⟨0, k0, 0, Nat.zero_le _, hk0n, rfl, rfl, rfl, B3, H⟩
  case round =>
    obtain ⟨V, rfl⟩ : ∃ V, V = wr := ⟨_, rfl⟩
    obtain ⟨j, kk, L, hj, hkk, rfl, rfl, rfl, HB, HS⟩ := hrel
    by_cases hlt : j < Q
    · have x1 : (j : Int) < (Q : Int) := by omega
      obtain ⟨F0, S0, g1, g2, g3, g4, g5, g6⟩ := HS.out
      have hsV := HB.out.size
      obtain ⟨gL, oL, l, R, d, hDe, hgL, hl0, eL, hR⟩ := ((HAs.out.below HB.out)).cells hlt
      subst hDe
      have HR := hid hR
      clear hl0 hR HS
      by_cases hkn : kk < n1
      · have x2 : (kk : Int) < (n1 : Int) := by omega
        obtain ⟨gA, oA, p, P1, m1, d1, P2, m2, d2, hAe, hgF, hgl, hpk, e0, e1, e2, hp⟩ := (HD.out.below HB.out).cells hkn
        subst hAe
        have hpm := List.mem_of_getElem? hpk
        have hnx : ps.take (kk + 1) = ps.take kk ++ [p] := by rw [List.take_add_one, hpk]; rfl
        have hfit := Hok.out.fits p hpm
        have hadd := sadd_any g1 g3.base (by omega) hp (Hi64.out p hpm) (fun g hg hf => by have := g2 g hf; omega) (by omega)
        rw [if_pos hfit, if_pos hfit] at hadd
        have Hadd := hid hadd
        have HK1 := hid (show Kept 7 (ps.take (kk + 1)) _ from hnx ▸ g3.add hfit)
        have Hcs0 := hid (show (S0.E.add p).cs.length ≤ 25 + 2300 * j by show (S0.E.cs ++ [p]).length ≤ _; rw [List.length_append, List.length_singleton]; omega)
        have Hlg0 := hid g5
        have Hg2 := hid g2
        clear g1 g2 g3 g4 g5 hadd hfit hnx hpk hp
        go_wp2_with fail
        refine Hadd.out.mono ?_
        rintro r W1 ⟨rfl, ⟨F1, h1, hF1⟩, m1⟩
        have HF := hid (show ∀ g, F1 g → w1.heap.size ≤ g ∧ g < W1.heap.size from fun g hg => ⟨(hF1 g hg).2.elim (Hg2.out g) fun h => by omega, (hF1 g hg).1⟩)
        have HB1 := hid (below_mod HB.out hsV m1 fun g hg => Hg2.out g hg)
        have HR := hid (HR.out.mod m1 fun g _ hg hf => by have := Hg2.out g hf; omega)
        obtain ⟨k1, hk1⟩ : ∃ k1, kk + 1 = k1 := ⟨_, rfl⟩
        rw [hk1] at HK1
        obtain ⟨S1, H, HK1, Hcs1, Hlg1⟩ : ∃ S1, Hid (SolP W1 F1 sb tb eb ob pm S1) ∧ Hid (Kept 7 (ps.take k1) S1) ∧ Hid (S1.E.cs.length ≤ 25 + 2300 * j) ∧ Hid (S1.log.length = L) := ⟨_, hid h1, HK1, Hcs0, Hlg0⟩
        clear h1 hF1 m1 Hadd HB e0 e1 e2
        go_wp2_with fail
        rw [show (kk : Int) + 1 = (k1 : Int) by omega]
        refine (lits7_any HR.out).mono ?_
        rintro r w2 ⟨⟨A2, c2, rfl, h2⟩, b2⟩
        have hlt7 := lits7B_ok (l := l)
        obtain ⟨qs, has⟩ : ∃ qs, lits7B l = qs := ⟨_, rfl⟩
        rw [has] at hlt7 h2 ⊢
        obtain ⟨na, hna⟩ : ∃ k, qs.length = k := ⟨_, rfl⟩
        rw [hna] at hlt7 h2 ⊢
        have Has := hid hlt7
        have HA := hid h2
        have H := hid (H.out.below b2)
        have HB := hid (HB1.out.trans (b2.mono HB1.out.size))
        have hs2 := b2.size
        have hs1 := HB1.out.size
        clear hlt7 h2 b2 has hna HR
        go_wp2_with fail
        have hsv := ssolve7 (most := 4000) H.out HK1.out HA.out (fun g hg hf => by have := (HF.out g hf).2; omega) Has.out.1 (by have := Has.out.2; omega) (by omega) (by have := Hcs1.out; omega) (by have := Hlg1.out; omega)
        rw [show ((4000 : Nat) : Int) = 4000 from rfl] at hsv
        refine hsv.mono ?_
        rintro r w4 ⟨⟨sat, U1, u1, v1, U2, u2, v2, ez, rfl, S4, F4, new4, M, co, hni, hk, hlog, hcs, hnw, h1, hF, hM, hco⟩, m1⟩
        obtain ⟨rfl, ht⟩ : ez = 0 ∧ Told (ps.take k1) qs new4 sat M co := by rcases hni with h | h <;> first | exact h | omega
        have s1 := m1.size
        have HA := hid (HA.out.mod m1 fun g _ hg hf => by have := (HF.out g hf).2; omega)
        have HB := hid (below_mod HB.out HB.out.size m1 fun g hg => (HF.out g hg).1)
        have HM := hid hM
        have HC := hid hco
        have Ht := hid ht
        have H4 := hid h1
        have HF4 := hid (show ∀ g, F4 g → w1.heap.size ≤ g from fun g hg => (hF g hg).2.elim (fun h => (HF.out g h).1) fun h => by omega)
        have HK4 := hid hk
        obtain ⟨L4, hL4⟩ : ∃ L4, L + new4.length = L4 := ⟨_, rfl⟩
        have Hlg4 := hid (show S4.log.length = L4 by rw [hlog, List.length_append, Hlg1.out]; exact hL4)
        have Hcs4 := hid (show S4.E.cs.length ≤ 24 + 2300 * (j + 1) by rw [hcs, List.length_append, List.length_map]; have := Hcs1.out; omega)
        have hL0 : L ≤ L4 := by omega
        have hL9 : L4 ≤ 2300 * (j + 1) := by omega
        have hMl : M.length = u1 := by have := hM.1; rw [i8s_length] at this; omega
        obtain ⟨X5, hX, bX, kX, sX⟩ := alloc_step w4 (.cells #[.bool sat, .slice U1 u1 v1, .slice U2 u2 v2] 35)
        have HX5 := hid hX
        have H4 := hid (H4.out.below bX)
        have HA := hid (HA.out.below bX)
        have HM := hid (HM.out.below bX)
        have HC := hid (HC.out.below bX)
        have HB := hid (HB.out.trans (bX.mono HB.out.size))
        obtain ⟨zr, hzr⟩ : ∃ z, w4.heap.size = z := ⟨_, rfl⟩
        rw [hzr] at kX
        have KR := hid kX
        obtain ⟨t0, t1, t2⟩ := box3 kX
        rw [← hX] at t0 t1 t2
        obtain ⟨Ak, hAk, hsk⟩ := pbs_to (n := n1) (c := c1) (i := k1) Hps.out.2.2 (by omega) Hps.out.1
        have HLk := hid (HD.out.to (show k1 ≤ n1 by omega) hAk)
        have HNl := hid hL4
        clear h1 hF hM hco m1 hni hk hlog hcs hnw ht H HK1 Hcs1 Hlg1 HF hsv hX bX kX sX hAk hL4 hsl
        go_wp2_with fail
        try rw [hzr]
        rw [HX5.out] at t0 t1 t2 ⊢
        cases sat with
        | false =>
          obtain ⟨hM0, hno, hsub, hnl⟩ := Ht.out.no rfl
          have Hno := hid hno
          have Hsub := hid hsub
          have hcl := hsub.length_le
          have hc7 := HC.out.cell.1
          have hAl := HA.out.cell.1
          have Hy2 := hid (show ¬ L4 = L by have := HNl.out; omega)
          clear hno hsub hM0 hnl
          refine wp_region_held_drew (S := fun w' => w'.cell? ⟨zr, 0, none⟩ = some (.bool false) ∧ w'.cell? ⟨zr, 1, none⟩ = some (.slice U1 u1 v1) ∧ w'.cell? ⟨zr, 2, none⟩ = some (.slice U2 u2 v2)) (by kernel_rfl) ⟨t0, t1, t2⟩ (fun hHeld => ?_)
          obtain ⟨WD, hWD⟩ : ∃ Y, X5.drew = Y := ⟨_, rfl⟩
          have bD : Below X5.heap.size X5 X5.drew := Bl.drew (Below.refl _ _)
          have H4 := hid (H4.out.below bD)
          have HA := hid (HA.out.below bD)
          have HM := hid (HM.out.below bD)
          have HC := hid (HC.out.below bD)
          have KR := hid (keep_blk KR.out bD)
          have HB := hid (HB.out.trans (bD.mono HB.out.size))
          rw [hWD] at hHeld H4 HA HM HC KR HB ⊢
          clear hWD bD
          refine tk 0 ?_
          refine tk 1 ?_
          refine tk 2 ?_
          refine tk 3 ?_
          refine tk 4 ?_
          refine tk 5 ?_
          refine tk 6 ?_
          refine tk 7 ?_
          refine tk 8 ?_
          refine wpAnyH_ready (rs := [9]) (by kernel_rfl) (by simp) (AllReadyH.cons (o := ⟨_, _, _, _, _, _⟩) rfl (fun K hK => ?_) AllReadyH.nil)
          go_simp
          refine (models_any (HLk.out.below HB.out) (fun p hp => Hi64.out p (List.mem_of_mem_take hp)) HA.out Has.out.1 (by omega) (by have := Has.out.2; omega)).mono ?_
          rintro r w6 ⟨rfl, b6⟩
          have H4 := hid (H4.out.below b6)
          have HA := hid (HA.out.below b6)
          have HM := hid (HM.out.below b6)
          have HC := hid (HC.out.below b6)
          have KR := hid (keep_blk KR.out b6)
          have HB := hid (HB.out.trans (b6.mono HB.out.size))
          obtain ⟨t0, t1, t2⟩ := box3 KR.out
          obtain ⟨z, hz⟩ : ∃ z, modelsN (ps.take k1) qs 128 = z := ⟨_, rfl⟩
          rw [hz]
          have Hans := hid (show false = decide (0 < z) from hz ▸ Ht.out.ans)
          go_simp
          refine hK.out _ _ ⟨t0, t1, t2⟩ (fun hHeld => ?_)
          clear hK K
          clear b6 hz
          try simp only [Act.put, List.setIfInBounds_toArray, List.set_cons_zero, List.set_cons_succ]
          refine tk 10 ?_
          rw [← Hans.out]
          refine tk 11 ?_
          refine tk 12 ?_
          refine tk 13 ?_
          refine tk 14 ?_
          refine tk 15 ?_
          refine tk 16 ?_
          refine tn 17 ?_
          refine tn 18 ?_
          refine tn 19 ?_
          refine tn 20 ?_
          refine tn 21 ?_
          refine tn 22 ?_
          refine tn 23 ?_
          refine tn 24 ?_
          refine tn 25 ?_
          refine tn 26 ?_
          refine tn 27 ?_
          refine tn 28 ?_
          refine tn 29 ?_
          refine tn 30 ?_
          refine tk 31 ?_
          refine tk 32 ?_
          refine tk 33 ?_
          refine tk 34 ?_
          refine tk 35 ?_
          refine tk 36 ?_
          refine tk 37 ?_
          refine tk 38 ?_
          refine tk 39 ?_
          refine tk 40 ?_
          refine tk 41 ?_
          refine tk 42 ?_
          refine wpAnyH_ready (rs := [43]) (by kernel_rfl) (by simp) (AllReadyH.cons (o := ⟨_, _, _, _, _, _⟩) rfl (fun K hK => ?_) AllReadyH.nil)
          go_simp
          refine (models_any (HLk.out.below HB.out) (fun p hp => Hi64.out p (List.mem_of_mem_take hp)) HC.out (fun x hx => Has.out.1 x (Hsub.out.subset hx)) (by omega) (by have := Has.out.2; omega)).mono ?_
          rintro r w7 ⟨rfl, b7⟩
          rw [Hno.out]
          have H4 := hid (H4.out.below b7)
          have HA := hid (HA.out.below b7)
          have HM := hid (HM.out.below b7)
          have HC := hid (HC.out.below b7)
          have KR := hid (keep_blk KR.out b7)
          have HB := hid (HB.out.trans (b7.mono HB.out.size))
          obtain ⟨t0, t1, t2⟩ := box3 KR.out
          go_simp
          refine hK.out _ _ ⟨t0, t1, t2⟩ (fun hHeld => ?_)
          clear hK K
          clear b7
          try simp only [Act.put, List.setIfInBounds_toArray, List.set_cons_zero, List.set_cons_succ]
          refine tk 44 ?_
          refine tk 45 ?_
          refine tk 46 ?_
          refine wpAnyH_done (by kernel_rfl) ?_ _
          clear hHeld
          go_wp2_with fail
          refine (slog_any H4.out HK4.out.size (by rw [Hlg4.out]; omega)).mono ?_
          rintro r w8 ⟨⟨A8, c8, rfl, _⟩, b8⟩
          rw [Hlg4.out]
          have H4 := hid (H4.out.below b8)
          have HB := hid (HB.out.trans (b8.mono HB.out.size))
          obtain ⟨t0, t1, t2⟩ := box3 (keep_blk KR.out b8)
          have y1 : ¬ ((L4 : Int) < (L : Int)) := by omega
          clear b8
          go_wp2_with fail
          rename_i hb
          · exfalso
            have := Hy2.out
            rcases hb with hb | hb <;> first | omega | (simp at hb; omega)
          go_roundw
          case rel => exact ⟨j + 1, k1, L4, by omega, by omega, by go_num, rfl, rfl, HB, hid ⟨_, _, H4.out, HF4.out, HK4.out, Hcs4.out, Hlg4.out, by omega⟩⟩
          case measure => simp [intOf]; omega
        | true =>
          obtain ⟨hM7, hfine, _, _⟩ := Ht.out.yes rfl
          rw [hM7] at hMl
          subst hMl
          have Hfine := hid hfine
          clear hfine hM7
          refine wp_region_held_drew (S := fun w' => w'.cell? ⟨zr, 0, none⟩ = some (.bool true) ∧ w'.cell? ⟨zr, 1, none⟩ = some (.slice U1 7 v1) ∧ w'.cell? ⟨zr, 2, none⟩ = some (.slice U2 u2 v2)) (by kernel_rfl) ⟨t0, t1, t2⟩ (fun hHeld => ?_)
          obtain ⟨WD, hWD⟩ : ∃ Y, X5.drew = Y := ⟨_, rfl⟩
          have bD : Below X5.heap.size X5 X5.drew := Bl.drew (Below.refl _ _)
          have H4 := hid (H4.out.below bD)
          have HA := hid (HA.out.below bD)
          have HM := hid (HM.out.below bD)
          have HC := hid (HC.out.below bD)
          have KR := hid (keep_blk KR.out bD)
          have HB := hid (HB.out.trans (bD.mono HB.out.size))
          rw [hWD] at hHeld H4 HA HM HC KR HB ⊢
          clear hWD bD
          refine tk 0 ?_
          refine tk 1 ?_
          refine tk 2 ?_
          refine tk 3 ?_
          refine tk 4 ?_
          refine tk 5 ?_
          refine tk 6 ?_
          refine tk 7 ?_
          refine tk 8 ?_
          refine wpAnyH_ready (rs := [9]) (by kernel_rfl) (by simp) (AllReadyH.cons (o := ⟨_, _, _, _, _, _⟩) rfl (fun K hK => ?_) AllReadyH.nil)
          go_simp
          refine (models_any (HLk.out.below HB.out) (fun p hp => Hi64.out p (List.mem_of_mem_take hp)) HA.out Has.out.1 (by omega) (by have := Has.out.2; omega)).mono ?_
          rintro r w6 ⟨rfl, b6⟩
          have H4 := hid (H4.out.below b6)
          have HA := hid (HA.out.below b6)
          have HM := hid (HM.out.below b6)
          have HC := hid (HC.out.below b6)
          have KR := hid (keep_blk KR.out b6)
          have HB := hid (HB.out.trans (b6.mono HB.out.size))
          obtain ⟨t0, t1, t2⟩ := box3 KR.out
          obtain ⟨z, hz⟩ : ∃ z, modelsN (ps.take k1) qs 128 = z := ⟨_, rfl⟩
          rw [hz]
          have Hans := hid (show true = decide (0 < z) from hz ▸ Ht.out.ans)
          go_simp
          refine hK.out _ _ ⟨t0, t1, t2⟩ (fun hHeld => ?_)
          clear hK K
          clear b6 hz
          try simp only [Act.put, List.setIfInBounds_toArray, List.set_cons_zero, List.set_cons_succ]
          refine tk 10 ?_
          rw [← Hans.out]
          refine tk 11 ?_
          refine tk 12 ?_
          refine tk 13 ?_
          refine tk 14 ?_
          refine tk 15 ?_
          refine tk 16 ?_
          refine tk 17 ?_
          refine tk 18 ?_
          refine tk 19 ?_
          refine tk 20 ?_
          refine tk 21 ?_
          refine tk 22 ?_
          refine tk 23 ?_
          refine tk 24 ?_
          refine tk 25 ?_
          refine tk 26 ?_
          refine tk 27 ?_
          refine wpAnyH_ready (rs := [28]) (by kernel_rfl) (by simp) (AllReadyH.cons (o := ⟨_, _, _, _, _, _⟩) rfl (fun K hK => ?_) AllReadyH.nil)
          go_simp
          refine (fine_any (HLk.out.below HB.out) (fun p hp => Hi64.out p (List.mem_of_mem_take hp)) HA.out HM.out Has.out.1 (by omega) (by have := Has.out.2; omega)).mono ?_
          rintro r w7 ⟨rfl, b7⟩
          rw [Hfine.out]
          have H4 := hid (H4.out.below b7)
          have HA := hid (HA.out.below b7)
          have HM := hid (HM.out.below b7)
          have HC := hid (HC.out.below b7)
          have KR := hid (keep_blk KR.out b7)
          have HB := hid (HB.out.trans (b7.mono HB.out.size))
          obtain ⟨t0, t1, t2⟩ := box3 KR.out
          go_simp
          refine hK.out _ _ ⟨t0, t1, t2⟩ (fun hHeld => ?_)
          clear hK K
          clear b7
          try simp only [Act.put, List.setIfInBounds_toArray, List.set_cons_zero, List.set_cons_succ]
          refine tk 29 ?_
          refine tk 30 ?_
          refine tk 31 ?_
          refine tk 32 ?_
          refine tk 33 ?_
          refine tk 34 ?_
          refine tk 35 ?_
          refine tk 36 ?_
          refine tk 37 ?_
          refine tn 38 ?_
          refine tn 39 ?_
          refine tn 40 ?_
          refine tn 41 ?_
          refine tn 42 ?_
          refine tn 43 ?_
          refine tn 44 ?_
          refine tk 45 ?_
          refine tk 46 ?_
          refine wpAnyH_done (by kernel_rfl) ?_ _
          clear hHeld
          go_wp2_with fail
          refine (slog_any H4.out HK4.out.size (by rw [Hlg4.out]; omega)).mono ?_
          rintro r w8 ⟨⟨A8, c8, rfl, _⟩, b8⟩
          rw [Hlg4.out]
          have H4 := hid (H4.out.below b8)
          have HB := hid (HB.out.trans (b8.mono HB.out.size))
          obtain ⟨t0, t1, t2⟩ := box3 (keep_blk KR.out b8)
          have y1 : ¬ ((L4 : Int) < (L : Int)) := by omega
          clear b8
          go_wp2_with fail
          skip
          go_roundw
          case rel => exact ⟨j + 1, k1, L4, by omega, by omega, by go_num, rfl, rfl, HB, hid ⟨_, _, H4.out, HF4.out, HK4.out, Hcs4.out, Hlg4.out, by omega⟩⟩
          case measure => simp [intOf]; omega
      · have x2 : ¬ ((kk : Int) < (n1 : Int)) := by omega
        obtain ⟨F1, h1, hF1⟩ := (g1.mono (fun _ h => .inl h) : SolP V (fun g => F0 g ∨ V.heap.size ≤ g) sb tb eb ob pm S0).pack (w := V)
        have HF := hid (show ∀ g, F1 g → w1.heap.size ≤ g ∧ g < V.heap.size from fun g hg => ⟨(hF1 g hg).2.elim (g2 g) fun h => by omega, (hF1 g hg).1⟩)
        have HB1 := hid HB.out
        have H := hid h1
        have HK1 := hid g3
        have Hcs1 := hid (show S0.E.cs.length ≤ 25 + 2300 * j by omega)
        have Hlg1 := hid g5
        clear h1 hF1 HB g1 g2 g3 g4 g5
        go_wp2_with fail
        refine (lits7_any HR.out).mono ?_
        rintro r w2 ⟨⟨A2, c2, rfl, h2⟩, b2⟩
        have hlt7 := lits7B_ok (l := l)
        obtain ⟨qs, has⟩ : ∃ qs, lits7B l = qs := ⟨_, rfl⟩
        rw [has] at hlt7 h2 ⊢
        obtain ⟨na, hna⟩ : ∃ k, qs.length = k := ⟨_, rfl⟩
        rw [hna] at hlt7 h2 ⊢
        have Has := hid hlt7
        have HA := hid h2
        have H := hid (H.out.below b2)
        have HB := hid (HB1.out.trans (b2.mono HB1.out.size))
        have hs2 := b2.size
        have hs1 := HB1.out.size
        clear hlt7 h2 b2 has hna HR
        go_wp2_with fail
        have hsv := ssolve7 (most := 4000) H.out HK1.out HA.out (fun g hg hf => by have := (HF.out g hf).2; omega) Has.out.1 (by have := Has.out.2; omega) (by omega) (by have := Hcs1.out; omega) (by have := Hlg1.out; omega)
        rw [show ((4000 : Nat) : Int) = 4000 from rfl] at hsv
        refine hsv.mono ?_
        rintro r w4 ⟨⟨sat, U1, u1, v1, U2, u2, v2, ez, rfl, S4, F4, new4, M, co, hni, hk, hlog, hcs, hnw, h1, hF, hM, hco⟩, m1⟩
        obtain ⟨rfl, ht⟩ : ez = 0 ∧ Told (ps.take kk) qs new4 sat M co := by rcases hni with h | h <;> first | exact h | omega
        have s1 := m1.size
        have HA := hid (HA.out.mod m1 fun g _ hg hf => by have := (HF.out g hf).2; omega)
        have HB := hid (below_mod HB.out HB.out.size m1 fun g hg => (HF.out g hg).1)
        have HM := hid hM
        have HC := hid hco
        have Ht := hid ht
        have H4 := hid h1
        have HF4 := hid (show ∀ g, F4 g → w1.heap.size ≤ g from fun g hg => (hF g hg).2.elim (fun h => (HF.out g h).1) fun h => by omega)
        have HK4 := hid hk
        obtain ⟨L4, hL4⟩ : ∃ L4, L + new4.length = L4 := ⟨_, rfl⟩
        have Hlg4 := hid (show S4.log.length = L4 by rw [hlog, List.length_append, Hlg1.out]; exact hL4)
        have Hcs4 := hid (show S4.E.cs.length ≤ 24 + 2300 * (j + 1) by rw [hcs, List.length_append, List.length_map]; have := Hcs1.out; omega)
        have hL0 : L ≤ L4 := by omega
        have hL9 : L4 ≤ 2300 * (j + 1) := by omega
        have hMl : M.length = u1 := by have := hM.1; rw [i8s_length] at this; omega
        obtain ⟨X5, hX, bX, kX, sX⟩ := alloc_step w4 (.cells #[.bool sat, .slice U1 u1 v1, .slice U2 u2 v2] 35)
        have HX5 := hid hX
        have H4 := hid (H4.out.below bX)
        have HA := hid (HA.out.below bX)
        have HM := hid (HM.out.below bX)
        have HC := hid (HC.out.below bX)
        have HB := hid (HB.out.trans (bX.mono HB.out.size))
        obtain ⟨zr, hzr⟩ : ∃ z, w4.heap.size = z := ⟨_, rfl⟩
        rw [hzr] at kX
        have KR := hid kX
        obtain ⟨t0, t1, t2⟩ := box3 kX
        rw [← hX] at t0 t1 t2
        obtain ⟨Ak, hAk, hsk⟩ := pbs_to (n := n1) (c := c1) (i := kk) Hps.out.2.2 (by omega) Hps.out.1
        have HLk := hid (HD.out.to (show kk ≤ n1 by omega) hAk)
        have HNl := hid hL4
        clear h1 hF hM hco m1 hni hk hlog hcs hnw ht H HK1 Hcs1 Hlg1 HF hsv hX bX kX sX hAk hL4 hsl
        go_wp2_with fail
        try rw [hzr]
        rw [HX5.out] at t0 t1 t2 ⊢
        cases sat with
        | false =>
          obtain ⟨hM0, hno, hsub, hnl⟩ := Ht.out.no rfl
          have Hno := hid hno
          have Hsub := hid hsub
          have hcl := hsub.length_le
          have hc7 := HC.out.cell.1
          have hAl := HA.out.cell.1
          have Hy2 := hid (show ¬ L4 = L by have := HNl.out; omega)
          clear hno hsub hM0 hnl
          refine wp_region_held_drew (S := fun w' => w'.cell? ⟨zr, 0, none⟩ = some (.bool false) ∧ w'.cell? ⟨zr, 1, none⟩ = some (.slice U1 u1 v1) ∧ w'.cell? ⟨zr, 2, none⟩ = some (.slice U2 u2 v2)) (by kernel_rfl) ⟨t0, t1, t2⟩ (fun hHeld => ?_)
          obtain ⟨WD, hWD⟩ : ∃ Y, X5.drew = Y := ⟨_, rfl⟩
          have bD : Below X5.heap.size X5 X5.drew := Bl.drew (Below.refl _ _)
          have H4 := hid (H4.out.below bD)
          have HA := hid (HA.out.below bD)
          have HM := hid (HM.out.below bD)
          have HC := hid (HC.out.below bD)
          have KR := hid (keep_blk KR.out bD)
          have HB := hid (HB.out.trans (bD.mono HB.out.size))
          rw [hWD] at hHeld H4 HA HM HC KR HB ⊢
          clear hWD bD
          refine tk 0 ?_
          refine tk 1 ?_
          refine tk 2 ?_
          refine tk 3 ?_
          refine tk 4 ?_
          refine tk 5 ?_
          refine tk 6 ?_
          refine tk 7 ?_
          refine tk 8 ?_
          refine wpAnyH_ready (rs := [9]) (by kernel_rfl) (by simp) (AllReadyH.cons (o := ⟨_, _, _, _, _, _⟩) rfl (fun K hK => ?_) AllReadyH.nil)
          go_simp
          refine (models_any (HLk.out.below HB.out) (fun p hp => Hi64.out p (List.mem_of_mem_take hp)) HA.out Has.out.1 (by omega) (by have := Has.out.2; omega)).mono ?_
          rintro r w6 ⟨rfl, b6⟩
          have H4 := hid (H4.out.below b6)
          have HA := hid (HA.out.below b6)
          have HM := hid (HM.out.below b6)
          have HC := hid (HC.out.below b6)
          have KR := hid (keep_blk KR.out b6)
          have HB := hid (HB.out.trans (b6.mono HB.out.size))
          obtain ⟨t0, t1, t2⟩ := box3 KR.out
          obtain ⟨z, hz⟩ : ∃ z, modelsN (ps.take kk) qs 128 = z := ⟨_, rfl⟩
          rw [hz]
          have Hans := hid (show false = decide (0 < z) from hz ▸ Ht.out.ans)
          go_simp
          refine hK.out _ _ ⟨t0, t1, t2⟩ (fun hHeld => ?_)
          clear hK K
          clear b6 hz
          try simp only [Act.put, List.setIfInBounds_toArray, List.set_cons_zero, List.set_cons_succ]
          refine tk 10 ?_
          rw [← Hans.out]
          refine tk 11 ?_
          refine tk 12 ?_
          refine tk 13 ?_
          refine tk 14 ?_
          refine tk 15 ?_
          refine tk 16 ?_
          refine tn 17 ?_
          refine tn 18 ?_
          refine tn 19 ?_
          refine tn 20 ?_
          refine tn 21 ?_
          refine tn 22 ?_
          refine tn 23 ?_
          refine tn 24 ?_
          refine tn 25 ?_
          refine tn 26 ?_
          refine tn 27 ?_
          refine tn 28 ?_
          refine tn 29 ?_
          refine tn 30 ?_
          refine tk 31 ?_
          refine tk 32 ?_
          refine tk 33 ?_
          refine tk 34 ?_
          refine tk 35 ?_
          refine tk 36 ?_
          refine tk 37 ?_
          refine tk 38 ?_
          refine tk 39 ?_
          refine tk 40 ?_
          refine tk 41 ?_
          refine tk 42 ?_
          refine wpAnyH_ready (rs := [43]) (by kernel_rfl) (by simp) (AllReadyH.cons (o := ⟨_, _, _, _, _, _⟩) rfl (fun K hK => ?_) AllReadyH.nil)
          go_simp
          refine (models_any (HLk.out.below HB.out) (fun p hp => Hi64.out p (List.mem_of_mem_take hp)) HC.out (fun x hx => Has.out.1 x (Hsub.out.subset hx)) (by omega) (by have := Has.out.2; omega)).mono ?_
          rintro r w7 ⟨rfl, b7⟩
          rw [Hno.out]
          have H4 := hid (H4.out.below b7)
          have HA := hid (HA.out.below b7)
          have HM := hid (HM.out.below b7)
          have HC := hid (HC.out.below b7)
          have KR := hid (keep_blk KR.out b7)
          have HB := hid (HB.out.trans (b7.mono HB.out.size))
          obtain ⟨t0, t1, t2⟩ := box3 KR.out
          go_simp
          refine hK.out _ _ ⟨t0, t1, t2⟩ (fun hHeld => ?_)
          clear hK K
          clear b7
          try simp only [Act.put, List.setIfInBounds_toArray, List.set_cons_zero, List.set_cons_succ]
          refine tk 44 ?_
          refine tk 45 ?_
          refine tk 46 ?_
          refine wpAnyH_done (by kernel_rfl) ?_ _
          clear hHeld
          go_wp2_with fail
          refine (slog_any H4.out HK4.out.size (by rw [Hlg4.out]; omega)).mono ?_
          rintro r w8 ⟨⟨A8, c8, rfl, _⟩, b8⟩
          rw [Hlg4.out]
          have H4 := hid (H4.out.below b8)
          have HB := hid (HB.out.trans (b8.mono HB.out.size))
          obtain ⟨t0, t1, t2⟩ := box3 (keep_blk KR.out b8)
          have y1 : ¬ ((L4 : Int) < (L : Int)) := by omega
          clear b8
          go_wp2_with fail
          rename_i hb
          · exfalso
            have := Hy2.out
            rcases hb with hb | hb <;> first | omega | (simp at hb; omega)
          go_roundw
          case rel => exact ⟨j + 1, kk, L4, by omega, by omega, by go_num, rfl, rfl, HB, hid ⟨_, _, H4.out, HF4.out, HK4.out, Hcs4.out, Hlg4.out, by omega⟩⟩
          case measure => simp [intOf]; omega
        | true =>
          obtain ⟨hM7, hfine, _, _⟩ := Ht.out.yes rfl
          rw [hM7] at hMl
          subst hMl
          have Hfine := hid hfine
          clear hfine hM7
          refine wp_region_held_drew (S := fun w' => w'.cell? ⟨zr, 0, none⟩ = some (.bool true) ∧ w'.cell? ⟨zr, 1, none⟩ = some (.slice U1 7 v1) ∧ w'.cell? ⟨zr, 2, none⟩ = some (.slice U2 u2 v2)) (by kernel_rfl) ⟨t0, t1, t2⟩ (fun hHeld => ?_)
          obtain ⟨WD, hWD⟩ : ∃ Y, X5.drew = Y := ⟨_, rfl⟩
          have bD : Below X5.heap.size X5 X5.drew := Bl.drew (Below.refl _ _)
          have H4 := hid (H4.out.below bD)
          have HA := hid (HA.out.below bD)
          have HM := hid (HM.out.below bD)
          have HC := hid (HC.out.below bD)
          have KR := hid (keep_blk KR.out bD)
          have HB := hid (HB.out.trans (bD.mono HB.out.size))
          rw [hWD] at hHeld H4 HA HM HC KR HB ⊢
          clear hWD bD
          refine tk 0 ?_
          refine tk 1 ?_
          refine tk 2 ?_
          refine tk 3 ?_
          refine tk 4 ?_
          refine tk 5 ?_
          refine tk 6 ?_
          refine tk 7 ?_
          refine tk 8 ?_
          refine wpAnyH_ready (rs := [9]) (by kernel_rfl) (by simp) (AllReadyH.cons (o := ⟨_, _, _, _, _, _⟩) rfl (fun K hK => ?_) AllReadyH.nil)
          go_simp
          refine (models_any (HLk.out.below HB.out) (fun p hp => Hi64.out p (List.mem_of_mem_take hp)) HA.out Has.out.1 (by omega) (by have := Has.out.2; omega)).mono ?_
          rintro r w6 ⟨rfl, b6⟩
          have H4 := hid (H4.out.below b6)
          have HA := hid (HA.out.below b6)
          have HM := hid (HM.out.below b6)
          have HC := hid (HC.out.below b6)
          have KR := hid (keep_blk KR.out b6)
          have HB := hid (HB.out.trans (b6.mono HB.out.size))
          obtain ⟨t0, t1, t2⟩ := box3 KR.out
          obtain ⟨z, hz⟩ : ∃ z, modelsN (ps.take kk) qs 128 = z := ⟨_, rfl⟩
          rw [hz]
          have Hans := hid (show true = decide (0 < z) from hz ▸ Ht.out.ans)
          go_simp
          refine hK.out _ _ ⟨t0, t1, t2⟩ (fun hHeld => ?_)
          clear hK K
          clear b6 hz
          try simp only [Act.put, List.setIfInBounds_toArray, List.set_cons_zero, List.set_cons_succ]
          refine tk 10 ?_
          rw [← Hans.out]
          refine tk 11 ?_
          refine tk 12 ?_
          refine tk 13 ?_
          refine tk 14 ?_
          refine tk 15 ?_
          refine tk 16 ?_
          refine tk 17 ?_
          refine tk 18 ?_
          refine tk 19 ?_
          refine tk 20 ?_
          refine tk 21 ?_
          refine tk 22 ?_
          refine tk 23 ?_
          refine tk 24 ?_
          refine tk 25 ?_
          refine tk 26 ?_
          refine tk 27 ?_
          refine wpAnyH_ready (rs := [28]) (by kernel_rfl) (by simp) (AllReadyH.cons (o := ⟨_, _, _, _, _, _⟩) rfl (fun K hK => ?_) AllReadyH.nil)
          go_simp
          refine (fine_any (HLk.out.below HB.out) (fun p hp => Hi64.out p (List.mem_of_mem_take hp)) HA.out HM.out Has.out.1 (by omega) (by have := Has.out.2; omega)).mono ?_
          rintro r w7 ⟨rfl, b7⟩
          rw [Hfine.out]
          have H4 := hid (H4.out.below b7)
          have HA := hid (HA.out.below b7)
          have HM := hid (HM.out.below b7)
          have HC := hid (HC.out.below b7)
          have KR := hid (keep_blk KR.out b7)
          have HB := hid (HB.out.trans (b7.mono HB.out.size))
          obtain ⟨t0, t1, t2⟩ := box3 KR.out
          go_simp
          refine hK.out _ _ ⟨t0, t1, t2⟩ (fun hHeld => ?_)
          clear hK K
          clear b7
          try simp only [Act.put, List.setIfInBounds_toArray, List.set_cons_zero, List.set_cons_succ]
          refine tk 29 ?_
          refine tk 30 ?_
          refine tk 31 ?_
          refine tk 32 ?_
          refine tk 33 ?_
          refine tk 34 ?_
          refine tk 35 ?_
          refine tk 36 ?_
          refine tk 37 ?_
          refine tn 38 ?_
          refine tn 39 ?_
          refine tn 40 ?_
          refine tn 41 ?_
          refine tn 42 ?_
          refine tn 43 ?_
          refine tn 44 ?_
          refine tk 45 ?_
          refine tk 46 ?_
          refine wpAnyH_done (by kernel_rfl) ?_ _
          clear hHeld
          go_wp2_with fail
          refine (slog_any H4.out HK4.out.size (by rw [Hlg4.out]; omega)).mono ?_
          rintro r w8 ⟨⟨A8, c8, rfl, _⟩, b8⟩
          rw [Hlg4.out]
          have H4 := hid (H4.out.below b8)
          have HB := hid (HB.out.trans (b8.mono HB.out.size))
          obtain ⟨t0, t1, t2⟩ := box3 (keep_blk KR.out b8)
          have y1 : ¬ ((L4 : Int) < (L : Int)) := by omega
          clear b8
          go_wp2_with fail
          skip
          go_roundw
          case rel => exact ⟨j + 1, kk, L4, by omega, by omega, by go_num, rfl, rfl, HB, hid ⟨_, _, H4.out, HF4.out, HK4.out, Hcs4.out, Hlg4.out, by omega⟩⟩
          case measure => simp [intOf]; omega
    · have x1 : ¬ ((j : Int) < (Q : Int)) := by omega
      have HBw := hid (B1.out.trans (HB.out.mono hw1))
      clear HS
      go_wp2_with fail
      refine awake32_any.mono ?_
      rintro r w8 ⟨rfl, b8⟩
      have B8 := hid (HBw.out.trans (b8.mono HBw.out.size))
      clear b8
      go_wp2_with fail
      go_ret
      exact ⟨rfl, B8.out⟩
end Go.Proofs.YtcjmpobccbnpkaaGreat
