/-
  The law PropagateImplied.
-/
import Derived.Test.YtofobmgmgipomaaPrE
import Derived.Test.YtofobmgmgipomaaMgu
namespace Go.Proofs.Ytofobmgmgipomaa
open Go.RowKit

set_option maxRecDepth 100000 in
set_option maxHeartbeats 16000000 in
theorem implied_walk {w : World} {A B C : Option Addr} {n cA m cB q cC : Nat} {lls kks : List (List Int)} {bs : List Int} {Dds : Option Addr} {dds cDds : Nat} {ds : List Int} (hl : LsRd w (fun _ => True) A n cA lls) (hk : LsRd w (fun _ => True) B m cB kks) (hb : Rd w (fun _ => True) 1 (.slice C q cC) q (ints bs)) (hds : Rd w (fun _ => True) 1 (.slice Dds dds cDds) dds (ints ds)) (hids : ∀ x ∈ ds, I64 x) :
    Calls Try.prog 8 #[.slice A n cA, .slice B m cB, .slice C q cC, .slice Dds dds cDds] w fun r w' => r = .returned (.bool true) ∧ Below w.heap.size w w' := by
  have Hds := hid (hds.mono (G := fun g => g < w.heap.size) fun g hg _ => hg)
  have Hids := hid hids
  have Hsm := hid (small29_any hl hk hb)
  clear hl hk hb hds hids
  go_enter Try.func8, Try.ntmps8
  go_wp2_with fail
  refine Hsm.out.mono ?_
  rintro r w1 ⟨⟨A1, n1, c1, ts1, rfl, hD⟩, b1⟩
  have hfi1 : ∀ p ∈ small7 lls kks bs (min lls.length 24), Eng.fits ⟨7, [], [], 0⟩ p = true := small7_fits
  have hok1 : ∀ p ∈ small7 lls kks bs (min lls.length 24), p.Ok ∧ ∀ l ∈ p.lits, l.natAbs ≤ 7 := fun p hp => small7_mem hp
  have hle1 := small7_len lls kks bs (min lls.length 24)
  obtain ⟨ps, hps⟩ : ∃ ps, small7 lls kks bs (min lls.length 24) = ps := ⟨_, rfl⟩
  rw [hps] at hD hfi1 hok1 hle1
  have hn1 : n1 ≤ 24 := by rw [← hD.len]; omega
  have Hfit := hid hfi1
  have Hok := hid hok1
  have Hi64 := hid (fun p hp => (Hok.out p hp).1.i64)
  have HD := hid hD
  have B1 := hid b1
  have hw1 := b1.size
  have Hds := hid ((Hds.out.below b1).mono (G := fun g => g < w1.heap.size) fun g _ hg => by omega)
  clear hfi1 hok1 hle1 hps hD b1 Hsm

  go_wp2_with fail
  refine (loaded_any HD.out.rd Hi64.out Hfit.out (by omega)).mono ?_
  rintro r w2 ⟨⟨eb, tb, rfl, het⟩, b2⟩
  have So2 := hid (show Solo w1.heap.size (fun _ => False) w2 eb tb ⟨7, ps, [], 0⟩ ⟨7, [], []⟩ from ⟨_, het, fun g hg => hg, fun _ _ h => h, fun _ h => h.elim⟩)
  have HL := hid ((HD.out.rd.mono (F' := fun g => g < w1.heap.size) (G' := fun g => g < w1.heap.size) (fun g hg _ => hg) fun g hg h => hg).below b2)
  have hlen := HD.out.len
  have Hlen := hid hlen
  have B2 := hid b2
  have hw2 := b2.size
  clear het b2 hlen HD
  go_wp2_with fail
  refine (solo_decided So2.out hw2 (Hds.out.below B2.out) Hids.out fun g hg => .inl hg).mono ?_
  rintro r w3 ⟨⟨z3, rfl⟩, h3, m3⟩
  have hw3 := m3.size
  have B3 := hid (mod_on B2.out hw2 m3)
  have So3 := hid h3
  obtain ⟨TD, hTD⟩ : ∃ T, Tr.decs ⟨7, [], []⟩ (ds.take 7) = T := ⟨_, rfl⟩
  have hTv : TD.vars = 7 := by rw [← hTD, Tr.decs_vars]
  rw [hTD] at So3
  have HTv0 := hid hTv
  have M3 := hid m3
  clear h3 m3 So2 hTD hTv
  go_wp2_with fail
  refine (lits_any So3.out.trail).mono ?_
  rintro r w4 ⟨⟨ub, rfl, hob⟩, b4⟩
  have hw4 := b4.size
  obtain ⟨Ab, cb, rfl, _⟩ := hob.form
  have So4 := hid (So3.out.more b4)
  have Rb := hid (hob.rd.mono (G := fun g => False ∨ (w3.heap.size ≤ g ∧ g < w4.heap.size)) fun g hg h => .inr ⟨h, hg⟩)
  have B4 := hid (B3.out.trans (b4.mono (Nat.le_trans hw2 hw3)))
  have HL := hid (HL.out.mod M3.out (fun g _ hg h => by have := h.1; omega) fun g _ hg h => by have := h.1; omega)
  have HL := hid (HL.out.below b4)
  clear b4 hob So3 B3
  go_wp2_with fail
  refine (solo_prop So4.out (by omega) (by rw [HTv0.out]; exact Nat.le_refl _) (by show ps.length ≤ _; rw [Hlen.out]; omega)).mono ?_
  rintro r w5 ⟨hP, m5⟩
  have hw5 := m5.size
  have Rb5 := hid (Rb.out.mod m5 fun g _ hk hg => hg.2 hk)
  have B5 := hid (mod_on B4.out (by omega) m5)
  have BW := hid (below_on B1.out (Nat.le_refl _) B5.out)
  have hoT := So4.out.ok.2
  have Hx0 := hid (lits7 hoT HTv0.out)
  have Hx00 := hid (fun x hx => (Hx0.out x hx).1)
  have HoT := hid hoT
  have Htl := hid (show TD.lits.length = TD.L.length by simp [Tr.lits])
  have Hvl := hid (show TD.L.length ≤ 7 by have := hoT.len; rw [HTv0.out] at this; exact this)
  have M5 := hid (m5)
  clear m5 hoT Rb B4
  have HL5 := hid ((HL.out.mod M5.out (fun g _ hg h => by have := h.1; omega) fun g _ hg h => by have := h.1; omega))
  cases hP with
  | calm Ac cc xs g1 g2 g3 g4 =>
    have Hxs := hid g1
    have hex := Tr.exams_is (fun c hc => (Hok.out c hc).1) xs TD HoT.out (fun c hc l hl => by rw [HTv0.out]; exact (Hok.out c hc).2 l hl) g1
    have HlitsP := hid (show Tr.lits (TD.exams ps xs) = runX ps TD.lits xs from hex.lits)
    have HwP := hid hex.wf
    have HTv := hid (show (TD.exams ps xs).vars = 7 by rw [hex.vars]; exact HTv0.out)
    have Hx9 := hid (show ∀ x ∈ runX ps TD.lits xs, x ≠ 0 ∧ x.natAbs ≤ 7 by rw [← HlitsP.out]; exact lits7 HwP.out HTv.out)
    have HlenP := hid (show (TD.exams ps xs).L.length ≤ 7 by have := HwP.out.len; rw [HTv.out] at this; exact this)
    have SoP := hid g4
    have HcP := hid (show ∀ c ∈ ps, c.Calm (Tr.lits (TD.exams ps xs)) by rw [HlitsP.out]; exact calm_all g3)
    clear g1 g2 g3 g4 hex
    go_wp2_with fail
    go_loopw [45] (fun iv W => ∃ k : Nat, k ≤ 128 ∧ iv = .int .i64 k ∧ Hid (Below w5.heap.size w5 W)) (fun iv _ => 128 - (intOf iv).toNat)
    case atStart => exact ⟨0, Nat.zero_le _, rfl, hid (Below.refl _ _)⟩
    case round =>
      obtain ⟨k, hk, rfl, HBk⟩ := hrel
      have hsk := HBk.out.size
      by_cases hlt : k < 128
      · have x1 : (k : Int) < 128 := by omega
        have Hne := hid (tot7_ne hlt)
        go_wp2_with fail
        refine total7_any.mono ?_
        rintro r w6 ⟨Z, hZ, rfl, hoZ, b6⟩
        have RZ := hid hoZ.rd
        have B6 := hid (HBk.out.trans (b6.mono hsk))
        obtain ⟨av, hav⟩ : ∃ av, totUp7 (k : Int) 7 = av := ⟨_, rfl⟩
        rw [hav] at RZ Hne
        clear hoZ b6 hav hZ
        go_wp2_with fail
        refine (extends_any (HL5.out.below B6.out) Hi64.out (Rb5.out.below B6.out) RZ.out (fun x hx => by have := Hx0.out x hx; omega) (by omega) (by rw [← Htl.out]; have := Hvl.out; have := Htl.out; omega)).mono ?_
        rintro r w7 ⟨rfl, b7⟩
        have B7 := hid (B6.out.trans (b7.mono B6.out.size))
        have RZ7 := hid (RZ.out.below b7)
        clear b7
        cases hX : extB ps TD.lits av with
        | false =>
          go_wp2_with fail
          go_roundw
          case rel => exact ⟨k + 1, by omega, by go_num, B7⟩
          case measure => simp [intOf]; omega
        | true =>
          have hrun := run_tells Hok.out Hx00.out Hne.out Hxs.out hX
          have Hr1 := hid hrun.1
          have HTr := hid (SoP.out.below B7.out).trail
          clear hrun
          go_wp2_with fail
          refine (lits_any HTr.out).mono ?_
          rintro r w8 ⟨⟨ub2, rfl, hob2⟩, b8⟩
          obtain ⟨Ab2, cb2, rfl, _⟩ := hob2.form
          have Rb2 := hid hob2.rd
          have B8 := hid (B7.out.trans (b8.mono B7.out.size))
          have RZ8 := hid (RZ7.out.below b8)
          rw [HlitsP.out] at Rb2
          clear hob2 b8
          go_wp2_with fail
          refine (extends_any (HL5.out.below B8.out) Hi64.out Rb2.out RZ8.out (fun x hx => by have := Hx9.out x hx; omega) (by omega) (by have := HlenP.out; omega)).mono ?_
          rintro r w9 ⟨rfl, b9⟩
          rw [Hr1.out]
          have B9 := hid (B8.out.trans (b9.mono B8.out.size))
          clear b9
          go_wp2_with fail
          go_roundw
          case rel => exact ⟨k + 1, by omega, by go_num, B9⟩
          case measure => simp [intOf]; omega
      · have x1 : ¬ ((k : Int) < 128) := by omega
        have SoK := hid (SoP.out.below HBk.out)
        have HLk := hid (HL5.out.below HBk.out)
        have BWk := hid (BW.out.trans (HBk.out.mono BW.out.size))
        go_wp2_with fail
        obtain ⟨V, hVV⟩ : ∃ V, V = wr := ⟨_, rfl⟩
        rw [← hVV] at BWk SoK HLk ⊢
        clear hVV
        go_loopw [81] (fun iv W => ∃ k : Nat, k ≤ n1 ∧ iv = .int .i64 k ∧ Hid (Below V.heap.size V W)) (fun iv _ => n1 - (intOf iv).toNat)
        case atStart => exact ⟨0, Nat.zero_le _, rfl, hid (Below.refl _ _)⟩
        case round =>
          obtain ⟨k2, hk2, rfl, HBl⟩ := hrel
          by_cases hlt2 : k2 < n1
          · have x2 : (k2 : Int) < (n1 : Int) := by omega
            obtain ⟨gA, oA, p, P1, m1, d1, P2, m2, d2, rfl, hgF, hgl, hpk, e0, e1, e2, hp⟩ := (HLk.out.below HBl.out).cells hlt2
            have hpm := List.mem_of_getElem? hpk
            obtain ⟨X, hX, bX, kX, sX⟩ := alloc_step wr (.cells #[.slice P1 m1 d1, .slice P2 m2 d2, .int .i64 p.bound] 36)
            obtain ⟨Z, hZ⟩ : ∃ z, wr.heap.size = z := ⟨_, rfl⟩
            rw [hZ] at kX
            have HTX := hid ((SoK.out.below HBl.out).trail.below bX)
            have HPX := hid (hp.below bX)
            have HBX := hid (Below.refl X.heap.size X)
            have KX := hid kX
            have hcal := unitsB_calm HwP.out (Hok.out p hpm).1 (by rw [HTv.out]; exact (Hok.out p hpm).2) (HcP.out p hpm)
            have Hpi := hid (Hi64.out p hpm)
            have Hun := hid hcal.2
            obtain ⟨sl, hsl⟩ : ∃ s, p.slackB (Tr.assign (TD.exams ps xs)) = s := ⟨_, rfl⟩
            have hs0 := hcal.1
            rw [hsl] at hs0
            have Hsl := hid hsl
            have hsd : decide (sl < 0) = false := by simpa using hs0
            have BX := hid (HBl.out.trans (bX.mono HBl.out.size))
            have HX := hid hX
            have HZ := hid hZ
            clear hp hpk hpm hcal hsl bX kX sX hX hZ
            go_wp2_with fail
            rw [HX.out, HZ.out]
            have HBd := HBX.out.drew
            refine wp_region_held_drew (S := fun w' => (w'.cell? ⟨Z, 0, none⟩ = some (.slice P1 m1 d1) ∧ w'.cell? ⟨Z, 1, none⟩ = some (.slice P2 m2 d2) ∧ w'.cell? ⟨Z, 2, none⟩ = some (.int .i64 p.bound)) ∧ Hid (Below X.heap.size X w')) (by kernel_rfl) ⟨box3 (keep_blk KX.out HBd), hid HBd⟩ (fun hHeld => ?_)
            refine wpAnyH_take (i := 0) (oi := ⟨_, _, _, _, _, _⟩) (v := ?_) rfl (by kernel_rfl) (by kernel_rfl) (by kernel_rfl) (fun _ _ _ h => h) (Or.inl ⟨by rfl, ?_⟩) (by assumption) ?_
            rotate_left
            · intro w hSw
              try dsimp only at hSw
              go_simp
              try with_reducible rfl
            simp only [Act.put, List.setIfInBounds_toArray, List.set_cons_zero, List.set_cons_succ]
            refine wpAnyH_take (i := 1) (oi := ⟨_, _, _, _, _, _⟩) (v := ?_) rfl (by kernel_rfl) (by kernel_rfl) (by kernel_rfl) (fun _ _ _ h => h) (Or.inl ⟨by rfl, ?_⟩) (by assumption) ?_
            rotate_left
            · intro w hSw
              try dsimp only at hSw
              go_simp
              try with_reducible rfl
            simp only [Act.put, List.setIfInBounds_toArray, List.set_cons_zero, List.set_cons_succ]
            refine wpAnyH_ready (rs := [2]) (by kernel_rfl) (by simp) (AllReadyH.cons (o := ⟨_, _, _, _, _, _⟩) rfl (fun K hK => ?_) AllReadyH.nil)
            go_simp
            refine (assign_any (HTX.out.below hHeld.2.out)).mono ?_
            rintro r wA1 ⟨⟨ua, rfl, hoA⟩, bA1⟩
            rw [HTv.out] at hoA
            obtain ⟨Aa1, ca1, rfl, _⟩ := hoA.form
            have RA1 := hid hoA.rd
            clear hoA
            go_simp
            refine hK.out _ _ ⟨box3 (keep_blk KX.out (hHeld.2.out.trans (bA1.mono hHeld.2.out.size))), hid (hHeld.2.out.trans (bA1.mono hHeld.2.out.size))⟩ (fun hHeld => ?_)
            clear hK K
            try simp only [Act.put, List.setIfInBounds_toArray, List.set_cons_zero, List.set_cons_succ]
            refine wpAnyH_ready (rs := [3]) (by kernel_rfl) (by simp) (AllReadyH.cons (o := ⟨_, _, _, _, _, _⟩) rfl (fun K hK => ?_) AllReadyH.nil)
            go_simp
            refine (slack_any (HPX.out.below hHeld.2.out) Hpi.out RA1.out).mono ?_
            rintro r wS ⟨rfl, bS⟩
            rw [Hsl.out]
            go_simp
            refine hK.out _ _ ⟨box3 (keep_blk KX.out (hHeld.2.out.trans (bS.mono hHeld.2.out.size))), hid (hHeld.2.out.trans (bS.mono hHeld.2.out.size))⟩ (fun hHeld => ?_)
            clear hK K
            try simp only [Act.put, List.setIfInBounds_toArray, List.set_cons_zero, List.set_cons_succ]
            refine wpAnyH_take (i := 4) (oi := ⟨_, _, _, _, _, _⟩) (v := ?_) rfl (by kernel_rfl) (by kernel_rfl) (by kernel_rfl) (fun _ _ _ h => h) (Or.inl ⟨by rfl, ?_⟩) (by assumption) ?_
            rotate_left
            · intro w hSw
              try dsimp only at hSw
              go_simp
              try with_reducible rfl
            simp only [Act.put, List.setIfInBounds_toArray, List.set_cons_zero, List.set_cons_succ]
            refine wpAnyH_take (i := 5) (oi := ⟨_, _, _, _, _, _⟩) (v := ?_) rfl (by kernel_rfl) (by kernel_rfl) (by kernel_rfl) (fun _ _ _ h => h) (Or.inl ⟨by rfl, ?_⟩) (by assumption) ?_
            rotate_left
            · intro w hSw
              try dsimp only at hSw
              go_simp
              try with_reducible rfl
            simp only [Act.put, List.setIfInBounds_toArray, List.set_cons_zero, List.set_cons_succ]
            refine wpAnyH_take (i := 6) (oi := ⟨_, _, _, _, _, _⟩) (v := ?_) rfl (by kernel_rfl) (by kernel_rfl) (by kernel_rfl) (fun _ _ _ h => h) (Or.inl ⟨by rfl, ?_⟩) (by assumption) ?_
            rotate_left
            · intro w hSw
              try dsimp only at hSw
              go_simp
              try with_reducible rfl
            simp only [Act.put, List.setIfInBounds_toArray, List.set_cons_zero, List.set_cons_succ]
            refine wpAnyH_take (i := 7) (oi := ⟨_, _, _, _, _, _⟩) (v := ?_) rfl (by kernel_rfl) (by kernel_rfl) (by kernel_rfl) (fun _ _ _ h => h) (Or.inl ⟨by rfl, ?_⟩) (by assumption) ?_
            rotate_left
            · intro w hSw
              try dsimp only at hSw
              go_simp
              try with_reducible rfl
            simp only [Act.put, List.setIfInBounds_toArray, List.set_cons_zero, List.set_cons_succ]
            refine wpAnyH_ready (rs := [8]) (by kernel_rfl) (by simp) (AllReadyH.cons (o := ⟨_, _, _, _, _, _⟩) rfl (fun K hK => ?_) AllReadyH.nil)
            go_simp
            refine (assign_any (HTX.out.below hHeld.2.out)).mono ?_
            rintro r wA2 ⟨⟨ua, rfl, hoA⟩, bA2⟩
            rw [HTv.out] at hoA
            obtain ⟨Aa2, ca2, rfl, _⟩ := hoA.form
            have RA2 := hid hoA.rd
            clear hoA
            go_simp
            refine hK.out _ _ ⟨box3 (keep_blk KX.out (hHeld.2.out.trans (bA2.mono hHeld.2.out.size))), hid (hHeld.2.out.trans (bA2.mono hHeld.2.out.size))⟩ (fun hHeld => ?_)
            clear hK K
            try simp only [Act.put, List.setIfInBounds_toArray, List.set_cons_zero, List.set_cons_succ]
            refine wpAnyH_ready (rs := [9]) (by kernel_rfl) (by simp) (AllReadyH.cons (o := ⟨_, _, _, _, _, _⟩) rfl (fun K hK => ?_) AllReadyH.nil)
            go_simp
            refine (units_any (HPX.out.below hHeld.2.out) Hpi.out RA2.out).mono ?_
            rintro r wU ⟨⟨RU, cU, rfl, hoU⟩, bU⟩
            clear hoU
            rw [Hun.out]
            go_simp
            refine hK.out _ _ ⟨box3 (keep_blk KX.out (hHeld.2.out.trans (bU.mono hHeld.2.out.size))), hid (hHeld.2.out.trans (bU.mono hHeld.2.out.size))⟩ (fun hHeld => ?_)
            clear hK K
            try simp only [Act.put, List.setIfInBounds_toArray, List.set_cons_zero, List.set_cons_succ]
            refine wpAnyH_take (i := 10) (oi := ⟨_, _, _, _, _, _⟩) (v := ?_) rfl (by kernel_rfl) (by kernel_rfl) (by kernel_rfl) (fun _ _ _ h => h) (Or.inl ⟨by rfl, ?_⟩) (by assumption) ?_
            rotate_left
            · intro w hSw
              try dsimp only at hSw
              go_simp
              try with_reducible rfl
            simp only [Act.put, List.setIfInBounds_toArray, List.set_cons_zero, List.set_cons_succ]
            refine wpAnyH_take (i := 11) (oi := ⟨_, _, _, _, _, _⟩) (v := ?_) rfl (by kernel_rfl) (by kernel_rfl) (by kernel_rfl) (fun _ _ _ h => h) (Or.inl ⟨by rfl, ?_⟩) (by assumption) ?_
            rotate_left
            · intro w hSw
              try dsimp only at hSw
              go_simp
              try with_reducible rfl
            simp only [Act.put, List.setIfInBounds_toArray, List.set_cons_zero, List.set_cons_succ]
            refine wpAnyH_take (i := 12) (oi := ⟨_, _, _, _, _, _⟩) (v := ?_) rfl (by kernel_rfl) (by kernel_rfl) (by kernel_rfl) (fun _ _ _ h => h) (Or.inl ⟨by rfl, ?_⟩) (by assumption) ?_
            rotate_left
            · intro w hSw
              try dsimp only at hSw
              go_simp
              try with_reducible rfl
            simp only [Act.put, List.setIfInBounds_toArray, List.set_cons_zero, List.set_cons_succ]
            refine wpAnyH_done (by kernel_rfl) ?_ _
            have BU := hid hHeld.2.out
            go_wp2_with fail
            go_roundw
            case rel => exact ⟨k2 + 1, by omega, by go_num, hid (BX.out.trans (BU.out.mono BX.out.size))⟩
            case measure => simp [intOf]; omega
          · have x2 : ¬ ((k2 : Int) < (n1 : Int)) := by omega
            have BWl := hid (BWk.out.trans (HBl.out.mono BWk.out.size))
            go_wp2_with fail
            refine awake29_any.mono ?_
            rintro r w9 ⟨rfl, b9⟩
            have B9 := hid (BWl.out.trans (b9.mono BWl.out.size))
            clear b9
            go_wp2_with fail
            go_ret
            exact ⟨rfl, B9.out⟩
  | bad Ac nc cc xs i K' g1 g2 g3 g4 g5 g6 g7 =>
    have Hxs := hid g1
    have hex := Tr.exams_is (fun c hc => (Hok.out c hc).1) xs TD HoT.out (fun c hc l hl => by rw [HTv0.out]; exact (Hok.out c hc).2 l hl) g1
    have HlitsP := hid (show Tr.lits (TD.exams ps xs) = runX ps TD.lits xs from hex.lits)
    have HwP := hid hex.wf
    have HTv := hid (show (TD.exams ps xs).vars = 7 by rw [hex.vars]; exact HTv0.out)
    have Hx9 := hid (show ∀ x ∈ runX ps TD.lits xs, x ≠ 0 ∧ x.natAbs ≤ 7 by rw [← HlitsP.out]; exact lits7 HwP.out HTv.out)
    have HlenP := hid (show (TD.exams ps xs).L.length ≤ 7 by have := HwP.out.len; rw [HTv.out] at this; exact this)
    have SoP := hid g7
    have Rc := hid (show Rd w5 (fun g => K' g ∧ w1.heap.size ≤ g) 1 (.slice Ac nc cc) nc (ints ((cAt ps i).offX (runX ps TD.lits xs))) from g5)
    have Hg4 := hid (show (cAt ps i).slackX (runX ps TD.lits xs) < 0 from g4)
    have g3 : i < ps.length := g3
    have hncm : nc ≤ 9223372036854775807 := by have h := rd_spot Rc.out; have h1 := h.1; have h2 := h.2.1; unfold maxLen at h2; omega
    clear g1 g2 g4 g5 g6 g7 hex
    go_wp2_with fail
    go_loopw [45] (fun iv W => ∃ k : Nat, k ≤ 128 ∧ iv = .int .i64 k ∧ Hid (Below w5.heap.size w5 W)) (fun iv _ => 128 - (intOf iv).toNat)
    case atStart => exact ⟨0, Nat.zero_le _, rfl, hid (Below.refl _ _)⟩
    case round =>
      obtain ⟨k, hk, rfl, HBk⟩ := hrel
      have hsk := HBk.out.size
      by_cases hlt : k < 128
      · have x1 : (k : Int) < 128 := by omega
        have Hne := hid (tot7_ne hlt)
        go_wp2_with fail
        refine total7_any.mono ?_
        rintro r w6 ⟨Z, hZ, rfl, hoZ, b6⟩
        have RZ := hid hoZ.rd
        have B6 := hid (HBk.out.trans (b6.mono hsk))
        obtain ⟨av, hav⟩ : ∃ av, totUp7 (k : Int) 7 = av := ⟨_, rfl⟩
        rw [hav] at RZ Hne
        clear hoZ b6 hav hZ
        go_wp2_with fail
        refine (extends_any (HL5.out.below B6.out) Hi64.out (Rb5.out.below B6.out) RZ.out (fun x hx => by have := Hx0.out x hx; omega) (by omega) (by rw [← Htl.out]; have := Hvl.out; have := Htl.out; omega)).mono ?_
        rintro r w7 ⟨rfl, b7⟩
        have B7 := hid (B6.out.trans (b7.mono B6.out.size))
        have RZ7 := hid (RZ.out.below b7)
        clear b7
        cases hX : extB ps TD.lits av with
        | false =>
          go_wp2_with fail
          go_roundw
          case rel => exact ⟨k + 1, by omega, by go_num, B7⟩
          case measure => simp [intOf]; omega
        | true =>
          have hrun := run_tells Hok.out Hx00.out Hne.out Hxs.out hX
          exact absurd Hg4.out (by have := hrun.2 i g3; omega)
      · have x1 : ¬ ((k : Int) < 128) := by omega
        have SoK := hid (SoP.out.below HBk.out)
        have HLk := hid (HL5.out.below HBk.out)
        have BWk := hid (BW.out.trans (HBk.out.mono BW.out.size))
        go_wp2_with fail
        obtain ⟨V, hVV⟩ : ∃ V, V = wr := ⟨_, rfl⟩
        rw [← hVV] at BWk SoK ⊢
        have RC := hid (Rc.out.below HBk.out)
        rw [← hVV] at RC
        clear hVV
        go_loopw [69] (fun iv W => ∃ k : Nat, k ≤ nc ∧ iv = .int .i64 k ∧ Hid (Below V.heap.size V W)) (fun iv _ => nc - (intOf iv).toNat)
        case atStart => exact ⟨0, Nat.zero_le _, rfl, hid (Below.refl _ _)⟩
        case round =>
          obtain ⟨k2, hk2, rfl, HBl⟩ := hrel
          by_cases hlt2 : k2 < nc
          · have x2 : (k2 : Int) < (nc : Int) := by omega
            obtain ⟨gC, oC, rfl, _, hgC, eC⟩ := (RC.out.below HBl.out).cell.2 k2 hlt2
            have hcl := RC.out.cell.1
            have hmem := nth_mem (xs := (cAt ps i).offX (runX ps TD.lits xs)) (k := k2) (by omega)
            obtain ⟨x, hx⟩ : ∃ x, nth ((cAt ps i).offX (runX ps TD.lits xs)) k2 = x := ⟨_, rfl⟩
            rw [hx] at eC hmem
            have hval : Tr.value (TD.exams ps xs) x = -1 := by rw [Tr.value_is, HlitsP.out]; exact off_val hmem
            have hl1 := (mem_offX.1 hmem).1
            have hl7 : x.natAbs ≤ 7 := (Hok.out _ (cAt_mem g3)).2 x hl1
            have HI := hid (show I64 x by unfold I64; omega)
            have Hval := hid hval
            have HTr := hid (SoK.out.below HBl.out).trail
            clear hval hmem hl1 hx hcl
            go_wp2_with fail
            refine (value_any HTr.out HI.out).mono ?_
            rintro r w8 ⟨rfl, b8⟩
            rw [Hval.out]
            have B8 := hid (HBl.out.trans (b8.mono HBl.out.size))
            clear b8
            go_wp2_with fail
            go_roundw
            case rel => exact ⟨k2 + 1, by omega, by go_num, B8⟩
            case measure => simp [intOf]; omega
          · have x2 : ¬ ((k2 : Int) < (nc : Int)) := by omega
            have BWl := hid (BWk.out.trans (HBl.out.mono BWk.out.size))
            go_wp2_with fail
            refine awake29_any.mono ?_
            rintro r w9 ⟨rfl, b9⟩
            have B9 := hid (BWl.out.trans (b9.mono BWl.out.size))
            clear b9
            go_wp2_with fail
            go_ret
            exact ⟨rfl, B9.out⟩
end Go.Proofs.Ytofobmgmgipomaa
