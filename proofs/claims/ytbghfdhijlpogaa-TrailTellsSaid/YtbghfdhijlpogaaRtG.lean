/-
  TrailTells: the law's walk.
-/
import Derived.Test.YtbghfdhijlpogaaRtF
namespace Go.Proofs.Ytbghfdhijlpogaa
open Go.RowKit

set_option maxRecDepth 100000 in
set_option maxHeartbeats 8000000 in
theorem tells_walk {w : World} {v : Value} {os : List Opd} {vars : Int} (h64 : I64 vars) (hv : OpsRd w v os) :
    Calls Try.prog 7 #[.int .i64 vars, v] w fun r w' => r = .returned (.bool true) ∧ Below w.heap.size w w' := by
  obtain ⟨n, hn⟩ : ∃ n, n = min os.length 40 := ⟨_, rfl⟩
  have hno : n ≤ os.length := by omega
  have hn40 : n ≤ 40 := by omega
  obtain ⟨A, cap, rfl, hc, hcm, hel⟩ := id hv
  have hmin : (if (40 : Int) < (os.length : Int) then (40 : Int) else (os.length : Int)) = (n : Int) := by split <;> omega
  have hncap : (n : Int) ≤ (cap : Int) := by omega
  have Hv := hid hv
  have Hn := hid hn
  have Hel := hid hel
  have Hcm := hid hcm
  clear hv hn hel hcm
  by_cases hok : 0 ≤ vars ∧ vars ≤ 65536
  · obtain ⟨N, rfl⟩ : ∃ N : Nat, vars = N := ⟨vars.toNat, by omega⟩
    have hN : N ≤ 65536 := by omega
    have Hq := hid (show (decide (0 ≤ (N : Int)) && decide ((N : Int) ≤ 65536)) = true by simp; omega)
    have HN := hid hN
    clear hok hN
    go_enter Try.func7, Try.ntmps7
    go_wp2_with fail
    refine (new_b (vars := N) HN.out (Nat.le_refl _)).mono ?_
    rintro r w1 ⟨b, rfl, t1, b1⟩
    have T1 := hid t1.restrict
    have B1 := hid b1
    clear t1 b1
    go_wp2_with fail
    refine rnew_any.mono ?_
    rintro r w2 ⟨rfl, b2⟩
    rw [Hq.out]
    have T2 := hid (T1.out.below b2)
    have B2 := hid (B1.out.trans (b2.mono B1.out.size))
    have S1 := hid b2.size
    clear b2
    go_wp2_with fail
    refine errno_any.mono ?_
    rintro r w3 ⟨rfl, rfl⟩
    rw [show err true = 0 from rfl]
    obtain ⟨X, hX, bX, kX, sX⟩ := alloc_step w2 (.cells #[.int .i64 N, .int .i64 0, .slice none 0 0] 48)
    rw [hX]
    obtain ⟨rb, hrb⟩ : ∃ z, w2.heap.size = z := ⟨_, rfl⟩
    have HB : Hid (Both w.heap.size rb b ⟨N, [], []⟩ X (fun g => w.heap.size ≤ g ∧ g < w1.heap.size) (fun _ => False) none 0) := by
      have hl : ∀ e ∈ (⟨N, [], []⟩ : Tr).L, e.reason.length ≤ 20 := fun e he => by cases he
      have hs1 := S1.out
      have hs2 := B2.out.size
      exact ⟨T2.out.below bX, ⟨none, 0, [], rfl, rfl, rfl, (Own.none_ _ _ 74 3 none).rd, fun p hp => by cases hp⟩, by rw [← hrb]; exact kX, fun g hg => ⟨by omega, hg.1, by omega, fun hf => hf⟩, fun g hg => False.elim hg, hl, by omega⟩
    have BX := hid (B2.out.trans (bX.mono B2.out.size))
    rw [hrb]
    clear hX bX kX sX hrb T1 T2 B1 B2 S1 Hq HN
    by_cases h100 : (N : Int) > 100
    · go_wp2_with fail
      refine awake_any.mono ?_
      rintro r w4 ⟨rfl, b4⟩
      go_wp2_with fail
      go_ret
      exact ⟨rfl, BX.out.trans (b4.mono BX.out.size)⟩
    · have h100' : ((100 : Int) < N) = False := by simp; omega
      clear h100
      go_wp2_with fail
      go_loopw [52, 10, 11, 12, 13, 14, 15, 16] (fun i _ _ _ _ _ _ _ W => ∃ (k : Nat) (T : Tr) (F P : Nat → Prop) (At : Option Addr) (ct : Nat), k ≤ n ∧ i = .int .i64 k ∧ Hid (Both w.heap.size rb b T W F P At ct ∧ Below w.heap.size w W)) (fun i _ _ _ _ _ _ _ _ => n - (intOf i).toNat)
      case atStart => exact ⟨0, _, _, _, _, _, Nat.zero_le _, rfl, hid ⟨HB.out, BX.out⟩⟩
      case round =>
        obtain ⟨k, T, F, P, At, ct, hk, rfl, HI⟩ := hrel
        by_cases hlt : k < n
        · obtain ⟨x, hx⟩ : ∃ x, os[k]? = some x := ⟨os[k], List.getElem?_eq_getElem (by omega)⟩
          obtain ⟨g, o, R, m, c, rfl, hg, c0, c1, c2, hr, hok⟩ := Hel.out k x hx
          have bk := HI.out.2
          have d0 := (bk.cell (p := ⟨g, o + k * 3, none⟩) hg).trans c0
          have d1 := (bk.cell (p := ⟨g, o + k * 3 + 1, none⟩) hg).trans c1
          have d2 := (bk.cell (p := ⟨g, o + k * 3 + 2, none⟩) hg).trans c2
          have hrm : x.reason.length = m := by have := hr.1; simpa [ints_length] using this
          have Hr := hid (hr.below bk)
          have Hok := hid hok
          have Hrm := hid hrm
          have hsz := bk.size
          have hsz' := hid hsz
          clear c0 c1 c2 hr hok hx hrm bk hsz
          obtain ⟨Y, hY, bY, kY, sY⟩ := alloc_step wr (.cells #[.int .u8 x.kind, .int .i64 x.n, .slice R m c] 37)
          have HY := hid hY
          have HB := hid (HI.out.1.below bY)
          have BY := hid (HI.out.2.trans (bY.mono hsz'.out))
          have Hr := hid (Hr.out.below bY)
          obtain ⟨q, hq⟩ : ∃ z, wr.heap.size = z := ⟨_, rfl⟩
          rw [hq] at kY sY
          obtain ⟨e0, e1, e2⟩ := box3 kY
          have KY := hid kY
          have SY := hid sY
          have Hq := hid hq
          clear hY bY kY sY hq hsz' HI
          by_cases h20 : (20 : Int) < m
          · go_wp2_with fail
            rw [HY.out]
            go_roundw
            case rel => exact ⟨k + 1, T, F, P, At, ct, by omega, by go_num, hid ⟨HB.out, BY.out⟩⟩
            case measure => simp [intOf]; omega
          · have h20' : ((20 : Int) < m) = False := by simp; omega
            have Hm := hid (show m ≤ 20 by omega)
            clear h20
            cases q1 : (x.kind == 1)
            · cases q2 : (x.kind == 2)
              · cases q3 : (x.kind == 3)
                · obtain ⟨y0, y1, y2⟩ := box3 HB.out.2.2.1
                  rw [← HY.out] at y0 y1 y2
                  go_wp2_with fail
                  rw [HY.out]
                  clear y0 y1 y2
                  refine (same_any HB.out.1 HB.out.2.1 HB.out.2.2.2.2.2.1).mono ?_
                  rintro r9 w9 ⟨rfl, b9⟩
                  have HB := hid (HB.out.below b9)
                  have BY := hid (BY.out.trans (b9.mono BY.out.size))
                  clear b9
                  go_wp2_with fail
                  go_roundw
                  case rel => exact ⟨k + 1, _, _, _, _, _, by omega, by go_num, hid ⟨HB.out, BY.out⟩⟩
                  case measure => simp [intOf]; omega
                · obtain ⟨y0, y1, y2⟩ := box3 HB.out.2.2.1
                  rw [← HY.out] at y0 y1 y2
                  go_wp2_with fail
                  rw [HY.out, Hq.out]
                  clear y0 y1 y2
                  refine (rundo_any HB.out.2.1 HB.out.1.1 Hok.out.2.1).mono ?_
                  rintro r4 w4 ⟨⟨u, gv, rfl, hu, hg4⟩, b4⟩
                  obtain ⟨A5, c5, ts5, rfl, hts5⟩ := id hu
                  have HU := hid hu
                  have B4 := hid b4
                  obtain ⟨Z, hZ, bZ, kZ, sZ⟩ := alloc_step w4 (.cells #[.int .i64 (T.back (lvl x.n)).vars, .int .i64 (T.back (lvl x.n)).depth, .slice A5 (T.back (lvl x.n)).L.length c5] 48)
                  have e1Z : (w4.alloc (.cells #[.int .i64 (T.back (lvl x.n)).vars, .int .i64 (T.back (lvl x.n)).depth, .slice A5 (T.back (lvl x.n)).L.length c5] 48)).cell? ⟨q, 1, none⟩ = some (.int .i64 x.n) := by rw [hZ]; exact keep_cell (keep_cell e1 b4) bZ
                  have e2Z : (w4.alloc (.cells #[.int .i64 (T.back (lvl x.n)).vars, .int .i64 (T.back (lvl x.n)).depth, .slice A5 (T.back (lvl x.n)).L.length c5] 48)).cell? ⟨q, 2, none⟩ = some (.slice R m c) := by rw [hZ]; exact keep_cell (keep_cell e2 b4) bZ
                  have HZ := hid hZ
                  have BZ := hid bZ
                  have TZ := hid ((HB.out.1.below b4).below bZ)
                  obtain ⟨Ag, cg, rfl, _⟩ := hg4.2
                  have HG := hid (hg4.below bZ)
                  have s4 := b4.size
                  have S4 := hid s4
                  obtain ⟨z, hz⟩ : ∃ z, w4.heap.size = z := ⟨_, rfl⟩
                  rw [hz] at kZ sZ s4
                  have KZ := hid kZ
                  have SZ := hid sZ
                  have Hz := hid hz
                  clear hu b4 hts5 bZ kZ sZ hZ hz s4 hg4
                  go_wp2_with fail
                  rw [HZ.out, Hz.out]
                  refine (undo_e TZ.out x.n).mono ?_
                  rintro r5 w5 ⟨⟨gu, rfl, hgu⟩, t5, m5⟩
                  obtain ⟨A6, c6, h56, m0, k5, hfin⟩ := HB.out.step HU.out B4.out BZ.out t5 m5 (small_back HB.out.2.2.2.2.2.1 _)
                  obtain ⟨rfl, rfl⟩ : A5 = A6 ∧ c5 = c6 := by simpa using h56
                  have hzF : ¬ F z := fun hF => by
                    have h8 := (HB.out.2.2.2.1 z hF).1
                    have h9 := S4.out
                    have h10 := Hz.out
                    omega
                  have k5z := (m5.block z (lt_of_block KZ.out) hzF).trans KZ.out
                  have B5 := hid (below_mod BY.out BY.out.size m0 fun g hg => (HB.out.2.2.2.1 g hg).2.1)
                  obtain ⟨f0, f1, f2⟩ := froz3 k5
                  obtain ⟨x0, x1, x2⟩ := box3 k5
                  obtain ⟨z0, z1, z2⟩ := box3 k5z
                  have HF := hid hfin
                  have K5 := hid k5
                  have K5z := hid k5z
                  have HG5 := hid (HG.out.mod m5 fun g _ hP hF => by
                    have h8 := HB.out.2.2.2.1 g hF
                    rcases hP with h9 | h9
                    · exact h8.2.2.2 h9
                    · omega)
                  have HGU := hid hgu.rd
                  clear HG hgu
                  clear e1Z e2Z h56 m0 k5 hfin t5 m5 hzF k5z TZ HU HZ
                  go_wp2_with fail
                  refine (ints_eq HGU.out HG5.out).mono ?_
                  rintro r6 w6 ⟨rfl, b6⟩
                  rw [show decide (T.gone (lvl x.n) = T.gone (lvl x.n)) = true by simp]
                  have k6 := keep_blk K5.out b6
                  have k6z := keep_blk K5z.out b6
                  clear f0 f1 f2 x0 x1 x2 z0 z1 z2
                  obtain ⟨f0, f1, f2⟩ := froz3 k6
                  obtain ⟨x0, x1, x2⟩ := box3 k6
                  obtain ⟨z0, z1, z2⟩ := box3 k6z
                  have B5 := hid (B5.out.trans (b6.mono B5.out.size))
                  have B6 := hid b6
                  have K6 := hid k6
                  clear k6 k6z b6
                  obtain ⟨k7, m7⟩ := stored3 K6.out rfl (.int .i64 (T.back (lvl x.n)).vars) (.int .i64 (T.back (lvl x.n)).depth) (.slice A5 (T.back (lvl x.n)).L.length c5)
                  obtain ⟨v0, v1, v2⟩ := box3 k7
                  have K7 := hid k7
                  have M7 := hid m7
                  clear k7 m7
                  go_wp2_with fail
                  obtain ⟨W7, hW7⟩ : ∃ Y, ((w6.setCell ⟨rb, 0, none⟩ (.int .i64 (T.back (lvl x.n)).vars)).setCell ⟨rb, 1, none⟩ (.int .i64 (T.back (lvl x.n)).depth)).setCell ⟨rb, 2, none⟩ (.slice A5 (T.back (lvl x.n)).L.length c5) = Y := ⟨_, rfl⟩
                  rw [hW7] at K7 M7 ⊢
                  obtain ⟨F2, P2, hB2⟩ := HF.out W7 ((Mod.of_below B6.out).trans (M7.out.mono fun g _ h => .inl h)) K7.out
                  have BY := hid (below_mod B5.out B5.out.size M7.out fun g hg => by rw [hg]; exact HB.out.2.2.2.2.2.2)
                  have HB := hid hB2
                  clear hB2
                  refine (same_any HB.out.1 HB.out.2.1 HB.out.2.2.2.2.2.1).mono ?_
                  rintro r9 w9 ⟨rfl, b9⟩
                  have HB := hid (HB.out.below b9)
                  have BY := hid (BY.out.trans (b9.mono BY.out.size))
                  clear b9
                  go_wp2_with fail
                  go_roundw
                  case rel => exact ⟨k + 1, _, _, _, _, _, by omega, by go_num, hid ⟨HB.out, BY.out⟩⟩
                  case measure => simp [intOf]; omega
              · obtain ⟨y0, y1, y2⟩ := box3 HB.out.2.2.1
                rw [← HY.out] at y0 y1 y2
                go_wp2_with fail
                rw [HY.out, Hq.out]
                clear y0 y1 y2
                refine (rimply_any HB.out.2.1 HB.out.1.1 Hok.out.2.1 Hr.out (by have := Hm.out; omega) Hok.out.2.2).mono ?_
                rintro r4 w4 ⟨⟨u, rfl, hu⟩, b4⟩
                obtain ⟨A5, c5, ts5, rfl, hts5⟩ := id hu
                have HU := hid hu
                have B4 := hid b4
                obtain ⟨Z, hZ, bZ, kZ, sZ⟩ := alloc_step w4 (.cells #[.int .i64 (T.imp x.n x.reason).vars, .int .i64 (T.imp x.n x.reason).depth, .slice A5 (T.imp x.n x.reason).L.length c5] 48)
                have e1Z : (w4.alloc (.cells #[.int .i64 (T.imp x.n x.reason).vars, .int .i64 (T.imp x.n x.reason).depth, .slice A5 (T.imp x.n x.reason).L.length c5] 48)).cell? ⟨q, 1, none⟩ = some (.int .i64 x.n) := by rw [hZ]; exact keep_cell (keep_cell e1 b4) bZ
                have e2Z : (w4.alloc (.cells #[.int .i64 (T.imp x.n x.reason).vars, .int .i64 (T.imp x.n x.reason).depth, .slice A5 (T.imp x.n x.reason).L.length c5] 48)).cell? ⟨q, 2, none⟩ = some (.slice R m c) := by rw [hZ]; exact keep_cell (keep_cell e2 b4) bZ
                have HZ := hid hZ
                have BZ := hid bZ
                have TZ := hid ((HB.out.1.below b4).below bZ)
                have HrZ := hid ((Hr.out.below b4).below bZ)
                have s4 := b4.size
                have S4 := hid s4
                obtain ⟨z, hz⟩ : ∃ z, w4.heap.size = z := ⟨_, rfl⟩
                rw [hz] at kZ sZ s4
                have KZ := hid kZ
                have SZ := hid sZ
                have Hz := hid hz
                clear hu b4 hts5 bZ kZ sZ hZ hz s4
                go_wp2_with fail
                rw [HZ.out, Hz.out]
                refine (imply_e TZ.out Hok.out.2.1 HrZ.out (by have := Hm.out; omega) Hok.out.2.2).mono ?_
                rintro r5 w5 ⟨rfl, t5, m5⟩
                obtain ⟨A6, c6, h56, m0, k5, hfin⟩ := HB.out.step HU.out B4.out BZ.out t5 m5 (small_imp HB.out.2.2.2.2.2.1 _ (by rw [Hrm.out]; exact Hm.out))
                obtain ⟨rfl, rfl⟩ : A5 = A6 ∧ c5 = c6 := by simpa using h56
                have hzF : ¬ F z := fun hF => by
                  have h8 := (HB.out.2.2.2.1 z hF).1
                  have h9 := S4.out
                  have h10 := Hz.out
                  omega
                have k5z := (m5.block z (lt_of_block KZ.out) hzF).trans KZ.out
                have B5 := hid (below_mod BY.out BY.out.size m0 fun g hg => (HB.out.2.2.2.1 g hg).2.1)
                obtain ⟨f0, f1, f2⟩ := froz3 k5
                obtain ⟨x0, x1, x2⟩ := box3 k5
                obtain ⟨z0, z1, z2⟩ := box3 k5z
                have HF := hid hfin
                have K5 := hid k5
                have K5z := hid k5z
                clear e1Z e2Z h56 m0 k5 hfin t5 m5 hzF k5z TZ HU HZ
                go_wp2_with fail
                refine errno_any.mono ?_
                rintro r6 w6 ⟨rfl, rfl⟩
                have K6 := K5
                obtain ⟨k7, m7⟩ := stored3 K6.out rfl (.int .i64 (T.imp x.n x.reason).vars) (.int .i64 (T.imp x.n x.reason).depth) (.slice A5 (T.imp x.n x.reason).L.length c5)
                obtain ⟨v0, v1, v2⟩ := box3 k7
                have K7 := hid k7
                have M7 := hid m7
                clear k7 m7
                go_wp2_with fail
                obtain ⟨W7, hW7⟩ : ∃ Y, ((w6.setCell ⟨rb, 0, none⟩ (.int .i64 (T.imp x.n x.reason).vars)).setCell ⟨rb, 1, none⟩ (.int .i64 (T.imp x.n x.reason).depth)).setCell ⟨rb, 2, none⟩ (.slice A5 (T.imp x.n x.reason).L.length c5) = Y := ⟨_, rfl⟩
                rw [hW7] at K7 M7 ⊢
                obtain ⟨F2, P2, hB2⟩ := HF.out W7 M7.out K7.out
                have BY := hid (below_mod B5.out B5.out.size M7.out fun g hg => by rw [hg]; exact HB.out.2.2.2.2.2.2)
                have HB := hid hB2
                clear hB2
                refine (same_any HB.out.1 HB.out.2.1 HB.out.2.2.2.2.2.1).mono ?_
                rintro r9 w9 ⟨rfl, b9⟩
                have HB := hid (HB.out.below b9)
                have BY := hid (BY.out.trans (b9.mono BY.out.size))
                clear b9
                go_wp2_with fail
                go_roundw
                case rel => exact ⟨k + 1, _, _, _, _, _, by omega, by go_num, hid ⟨HB.out, BY.out⟩⟩
                case measure => simp [intOf]; omega
            · obtain ⟨y0, y1, y2⟩ := box3 HB.out.2.2.1
              rw [← HY.out] at y0 y1 y2
              go_wp2_with fail
              rw [HY.out, Hq.out]
              clear y0 y1 y2
              refine (rdecide_any HB.out.2.1 HB.out.1.1 Hok.out.2.1).mono ?_
              rintro r4 w4 ⟨⟨u, rfl, hu⟩, b4⟩
              obtain ⟨A5, c5, ts5, rfl, hts5⟩ := id hu
              have HU := hid hu
              have B4 := hid b4
              obtain ⟨Z, hZ, bZ, kZ, sZ⟩ := alloc_step w4 (.cells #[.int .i64 (T.dec x.n).vars, .int .i64 (T.dec x.n).depth, .slice A5 (T.dec x.n).L.length c5] 48)
              have e1Z : (w4.alloc (.cells #[.int .i64 (T.dec x.n).vars, .int .i64 (T.dec x.n).depth, .slice A5 (T.dec x.n).L.length c5] 48)).cell? ⟨q, 1, none⟩ = some (.int .i64 x.n) := by rw [hZ]; exact keep_cell (keep_cell e1 b4) bZ
              have e2Z : (w4.alloc (.cells #[.int .i64 (T.dec x.n).vars, .int .i64 (T.dec x.n).depth, .slice A5 (T.dec x.n).L.length c5] 48)).cell? ⟨q, 2, none⟩ = some (.slice R m c) := by rw [hZ]; exact keep_cell (keep_cell e2 b4) bZ
              have HZ := hid hZ
              have BZ := hid bZ
              have TZ := hid ((HB.out.1.below b4).below bZ)
              have s4 := b4.size
              have S4 := hid s4
              obtain ⟨z, hz⟩ : ∃ z, w4.heap.size = z := ⟨_, rfl⟩
              rw [hz] at kZ sZ s4
              have KZ := hid kZ
              have SZ := hid sZ
              have Hz := hid hz
              clear hu b4 hts5 bZ kZ sZ hZ hz s4
              go_wp2_with fail
              rw [HZ.out, Hz.out]
              refine (decide_e TZ.out Hok.out.2.1).mono ?_
              rintro r5 w5 ⟨rfl, t5, m5⟩
              obtain ⟨A6, c6, h56, m0, k5, hfin⟩ := HB.out.step HU.out B4.out BZ.out t5 m5 (small_dec HB.out.2.2.2.2.2.1 _)
              obtain ⟨rfl, rfl⟩ : A5 = A6 ∧ c5 = c6 := by simpa using h56
              have hzF : ¬ F z := fun hF => by
                have h8 := (HB.out.2.2.2.1 z hF).1
                have h9 := S4.out
                have h10 := Hz.out
                omega
              have k5z := (m5.block z (lt_of_block KZ.out) hzF).trans KZ.out
              have B5 := hid (below_mod BY.out BY.out.size m0 fun g hg => (HB.out.2.2.2.1 g hg).2.1)
              obtain ⟨f0, f1, f2⟩ := froz3 k5
              obtain ⟨x0, x1, x2⟩ := box3 k5
              obtain ⟨z0, z1, z2⟩ := box3 k5z
              have HF := hid hfin
              have K5 := hid k5
              have K5z := hid k5z
              clear e1Z e2Z h56 m0 k5 hfin t5 m5 hzF k5z TZ HU HZ
              go_wp2_with fail
              refine errno_any.mono ?_
              rintro r6 w6 ⟨rfl, rfl⟩
              have K6 := K5
              obtain ⟨k7, m7⟩ := stored3 K6.out rfl (.int .i64 (T.dec x.n).vars) (.int .i64 (T.dec x.n).depth) (.slice A5 (T.dec x.n).L.length c5)
              obtain ⟨v0, v1, v2⟩ := box3 k7
              have K7 := hid k7
              have M7 := hid m7
              clear k7 m7
              go_wp2_with fail
              obtain ⟨W7, hW7⟩ : ∃ Y, ((w6.setCell ⟨rb, 0, none⟩ (.int .i64 (T.dec x.n).vars)).setCell ⟨rb, 1, none⟩ (.int .i64 (T.dec x.n).depth)).setCell ⟨rb, 2, none⟩ (.slice A5 (T.dec x.n).L.length c5) = Y := ⟨_, rfl⟩
              rw [hW7] at K7 M7 ⊢
              obtain ⟨F2, P2, hB2⟩ := HF.out W7 M7.out K7.out
              have BY := hid (below_mod B5.out B5.out.size M7.out fun g hg => by rw [hg]; exact HB.out.2.2.2.2.2.2)
              have HB := hid hB2
              clear hB2
              refine (same_any HB.out.1 HB.out.2.1 HB.out.2.2.2.2.2.1).mono ?_
              rintro r9 w9 ⟨rfl, b9⟩
              have HB := hid (HB.out.below b9)
              have BY := hid (BY.out.trans (b9.mono BY.out.size))
              clear b9
              go_wp2_with fail
              go_roundw
              case rel => exact ⟨k + 1, _, _, _, _, _, by omega, by go_num, hid ⟨HB.out, BY.out⟩⟩
              case measure => simp [intOf]; omega
        · have BW := HI.out.2
          have hkn : k = n := by omega
          rw [hkn]
          clear hmin hkn
          go_wp2_with fail
          refine awake_any.mono ?_
          rintro r w4 ⟨rfl, b4⟩
          go_wp2_with fail
          go_ret
          exact ⟨rfl, BW.trans (b4.mono BW.size)⟩
  · have hbad : vars < 0 ∨ 65536 < vars := by omega
    have Hq := hid (show (decide (0 ≤ vars) && decide (vars ≤ 65536)) = false by simp; omega)
    clear hok
    go_enter Try.func7, Try.ntmps7
    go_wp2_with fail
    refine (new_bad hbad).mono ?_
    rintro r w1 ⟨rfl, rfl⟩
    go_wp2_with fail
    refine rnew_any.mono ?_
    rintro r w2 ⟨rfl, b2⟩
    rw [Hq.out]
    have B2 := hid b2
    clear b2 hbad
    go_wp2_with fail
    refine errno_any.mono ?_
    rintro r w3 ⟨rfl, rfl⟩
    rw [show err false = 2 from rfl]
    obtain ⟨X, hX, bX, _, _⟩ := alloc_step w2 (.cells #[.int .i64 vars, .int .i64 0, .slice none 0 0] 48)
    rw [hX]
    have BX := hid (B2.out.trans (bX.mono B2.out.size))
    clear hX bX B2
    go_wp2_with fail
    refine awake_any.mono ?_
    rintro r w4 ⟨rfl, b4⟩
    go_wp2_with fail
    go_ret
    exact ⟨rfl, BX.out.trans (b4.mono BX.out.size)⟩
end Go.Proofs.Ytbghfdhijlpogaa
