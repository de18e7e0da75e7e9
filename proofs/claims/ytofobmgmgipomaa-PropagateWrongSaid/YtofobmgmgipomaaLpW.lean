/-
  The law PropagateWrong.
-/
import Derived.Test.YtofobmgmgipomaaEnWr
import Derived.Test.YtofobmgmgipomaaMgu
namespace Go.Proofs.Ytofobmgmgipomaa
open Go.RowKit

set_option maxRecDepth 100000 in
set_option maxHeartbeats 16000000 in
theorem wrong_walk {w : World} {A B C : Option Addr} {n cA m cB q cC : Nat} {lls kks : List (List Int)} {bs : List Int} {n0 : Int} (hl : LsRd w (fun _ => True) A n cA lls) (hk : LsRd w (fun _ => True) B m cB kks) (hb : Rd w (fun _ => True) 1 (.slice C q cC) q (ints bs)) :
    Calls Try.prog 4 #[.slice A n cA, .slice B m cB, .slice C q cC, .int .i64 n0] w fun r w' => r = .returned (.bool true) ∧ Below w.heap.size w w' := by
  have Hsm := hid (fun W (h : Below w.heap.size w W) => small29_any (hl.below h) (hk.below h) (hb.below h))
  clear hl hk hb
  obtain ⟨X0, hX0, bX0, k0, s0⟩ := alloc_step w (.cells #[.int .i64 0, .slice none 0 0, .map none, .slice none 0 0, .int .i64 0] 45)
  obtain ⟨X1, hX1, bX1, k1, s1⟩ := alloc_step X0 (.cells #[.pointer none, .pointer (some ⟨w.heap.size, 0, none⟩)] 26)
  have B1 := hid (bX0.trans (bX1.mono bX0.size))
  have k0 := keep_blk k0 bX1
  rw [s0] at k1
  have R1 := hid (rd_ptr2 k1)
  have K0 := hid (show X1.cell? ⟨w.heap.size, 2, none⟩ = some (.map none) by rw [cell_of_row _ _ _ _ _ _ k0]; rfl)
  have HX1 := hid (show (w.alloc (.cells #[.int .i64 0, .slice none 0 0, .map none, .slice none 0 0, .int .i64 0] 45)).alloc (.cells #[.pointer none, .pointer (some ⟨w.heap.size, 0, none⟩)] 26) = X1 by rw [hX0, hX1])
  obtain ⟨e0, he0⟩ : ∃ z, w.heap.size = z := ⟨_, rfl⟩
  rw [he0] at R1 K0 HX1
  have He0 := hid he0
  clear hX0 bX0 k0 s0 hX1 bX1 k1 s1 he0
  go_enter Try.func4, Try.ntmps4
  go_wp2_with fail
  rw [He0.out, HX1.out]
  go_loopw [33] (fun iv W => ∃ k : Nat, k ≤ 2 ∧ iv = .int .i64 k ∧ Hid (Below X1.heap.size X1 W)) (fun iv _ => 2 - (intOf iv).toNat)
  case atStart => exact ⟨0, by omega, rfl, hid (Below.refl _ _)⟩
  case round =>
    obtain ⟨k, hk, rfl, HB⟩ := hrel
    by_cases hlt : k < 2
    · have x1 : (k : Int) < 2 := by omega
      have hq : ∃ q : Option Addr, wr.cell? ⟨e0 + 1, k, none⟩ = some (.pointer q) ∧ ∀ W, Below wr.heap.size wr W → Calls Try.prog 35 #[.pointer q] W fun r w' => r = .returned (.bool true) ∧ W = w' := by
        rcases (show k = 0 ∨ k = 1 by omega) with rfl | rfl
        · exact ⟨none, rd_at (R1.out.below HB.out) (by decide) rfl, fun W _ => enone_nil⟩
        · exact ⟨_, rd_at (R1.out.below HB.out) (by decide) rfl, fun W hW => enone_empty (keep_cell (keep_cell K0.out HB.out) hW)⟩
      obtain ⟨q0, e3, hnn⟩ := hq
      have Hn := hid hnn
      clear hnn
      go_wp2_with fail
      refine (new_ok (vars := 3) (by decide)).mono ?_
      rintro r w2 ⟨⟨tb, rfl, ht⟩, b2⟩
      have B2 := hid b2
      have HT := hid ht
      clear ht b2 e3
      go_wp2_with fail
      refine (prop_none (fun W hW => Hn.out W (B2.out.trans (hW.mono B2.out.size)))).mono ?_
      rintro r w3 ⟨rfl, b3⟩
      have B3 := hid (B2.out.trans (b3.mono B2.out.size))
      have HT3 := hid (HT.out.below b3)
      clear b3
      go_wp2_with fail
      obtain ⟨X, hX, bX, rX, sX⟩ := lit_step w3 [1] (by decide) (by decide)
      rw [show w3.alloc (.cells #[.int .i64 1] 3) = X from hX]
      refine (clause29_any rX (by simp [I64]) (by decide)).mono ?_
      rintro r w4 hgv
      rw [cl_c1] at hgv
      obtain ⟨⟨C1, m1, d1, C2, m2, d2, rfl, _⟩, b4⟩ := hgv
      have b34 := bX.trans (b4.mono bX.size)
      have B4 := hid (B3.out.trans (b34.mono B3.out.size))
      have HT4 := hid (HT3.out.below b34)
      clear hX bX rX sX b4 b34
      go_wp2_with fail
      refine (eadd_none (fun W hW => Hn.out W (B4.out.trans (hW.mono B4.out.size)))).mono ?_
      rintro r w5 ⟨rfl, b5⟩
      have B5 := hid (B4.out.trans (b5.mono B4.out.size))
      have HT5 := hid (HT4.out.below b5)
      clear b5
      go_wp2_with fail
      refine (elen_none (Hn.out w5 B5.out)).mono ?_
      rintro r w6 ⟨rfl, rfl⟩
      go_wp2_with fail
      refine (lits_zero HT5.out).mono ?_
      rintro r w7 ⟨⟨Al, cl, rfl⟩, b7⟩
      have B7 := hid (HB.out.trans ((B5.out.trans (b7.mono B5.out.size)).mono HB.out.size))
      clear b7
      go_wp2_with fail
      go_roundw
      case rel => exact ⟨k + 1, by omega, by go_num, B7⟩
      case measure => simp [intOf]; omega
    · have x1 : ¬ ((k : Int) < 2) := by omega
      have HW := hid (B1.out.trans (HB.out.mono B1.out.size))
      obtain ⟨mn, hmn⟩ : ∃ z, min n0 (-1) = z := ⟨_, rfl⟩
      obtain ⟨mx, hmx⟩ : ∃ z, max n0 65537 = z := ⟨_, rfl⟩
      have hrn : ∀ w, (Builtin.min_ #[3, 3] 3 #[.int .i64 n0, .int .i64 (-1)]).run Try.prog w = .ok (.int .i64 mn) w := fun w => by rw [run_min, hmn]
      have hrx : ∀ w, (Builtin.max_ #[3, 3] 3 #[.int .i64 n0, .int .i64 65537]).run Try.prog w = .ok (.int .i64 mx) w := fun w => by rw [run_max, hmx]
      have hm1 : mn < 0 := by omega
      have hm2 : 65536 < mx := by omega
      clear hmn hmx
      go_wp2_with fail
      refine (enew_bad (.inl hm1)).mono ?_
      rintro r w2 ⟨rfl, rfl⟩
      go_wp2_with fail
      refine (enew_bad (.inr hm2)).mono ?_
      rintro r w2 ⟨rfl, rfl⟩
      clear hrn hrx hm1 hm2
      go_wp2_with fail
      refine (Hsm.out wr HW.out).mono ?_
      rintro r w2 ⟨⟨A1, n1, c1', ts1, rfl, hD⟩, b2⟩
      have hfi1 : ∀ p ∈ small7 lls kks bs (min lls.length 24), Eng.fits ⟨7, [], [], 0⟩ p = true := small7_fits
      have hi1 : ∀ p ∈ small7 lls kks bs (min lls.length 24), ∀ z ∈ p.coefs, I64 z := small7_i64
      have hle1 := small7_len lls kks bs (min lls.length 24)
      obtain ⟨ps, hps⟩ : ∃ ps, small7 lls kks bs (min lls.length 24) = ps := ⟨_, rfl⟩
      rw [hps] at hD hfi1 hi1 hle1
      have hn1 : n1 ≤ 24 := by rw [← hD.len]; omega
      have Hfit := hid hfi1
      have Hi64 := hid hi1
      have HD := hid hD
      have Hlen := hid hD.len
      have B2 := hid (HW.out.trans (b2.mono HW.out.size))
      have hw2 := b2.size
      clear hfi1 hi1 hle1 hps hD b2 Hsm
      go_wp2_with fail
      obtain ⟨X, hX, bX, rX, sX⟩ := lit_step w2 [1] (by decide) (by decide)
      rw [show w2.alloc (.cells #[.int .i64 1] 3) = X from hX]
      refine (clause29_any rX (by simp [I64]) (by decide)).mono ?_
      rintro r w3 hgv
      rw [cl_c1] at hgv
      obtain ⟨⟨C1, m1, d1, C2, m2, d2, rfl, hp3⟩, b3⟩ := hgv
      have b23 := bX.trans (b3.mono bX.size)
      have B3 := hid (B2.out.trans (b23.mono B2.out.size))
      have HD3 := hid (HD.out.below b23)
      have HP3 := hid hp3
      have hw3 := b23.size
      obtain ⟨Y, hY, bY, kY, sY⟩ := alloc_step w3 (.cells #[.slice C1 m1 d1, .slice C2 m2 d2, .int .i64 c1.bound] 36)
      have HDY := hid (HD3.out.below bY)
      have HPY := hid (HP3.out.below bY)
      have BY := hid (B3.out.trans (bY.mono B3.out.size))
      have oD := HDY.out.own
      have kk := rd_lit3 kY
      rw [← hY] at oD kk
      have OD := hid oD
      have KK := hid kk
      have HY := hid hY
      have Hrow := hid (show ∀ g, row (.slice A1 n1 c1') g → g < X.heap.size from fun g hg => by have := (HD.out.row hg).2; have := bX.size; omega)
      have hxy : X.heap.size ≤ w3.heap.size := b3.size
      have hwX := bX.size
      have hwY := bY.size
      have hn11 : n1 + 1 ≤ 1000000 := by omega
      clear hX bX rX sX b3 b23 hp3 hY bY kY sY oD kk
      go_wp2_with (at_builtin; refine wpList_append_pb rfl _ _ rfl OD.out KK.out rfl rfl (pb_one HPY.out) hn11 fun A' c' V5 ho hm hr => ?_)
      rw [HY.out] at hm hr ho
      obtain ⟨D5, b5⟩ := HDY.out.push (by omega) (t := (.slice C1 m1 d1, .slice C2 m2 d2, .int .i64 c1.bound)) ho hm hr (HPY.out.mono fun g _ hg => ⟨by omega, fun e => by have := Hrow.out g e; omega⟩)
      have HD5 := hid D5
      have B5 := hid (BY.out.trans (b5.mono HW.out.size))
      clear D5 b5 ho hm hr
      refine (loaded_any HD5.out.rd (fun p hp => (List.mem_append.1 hp).elim (Hi64.out p) fun h => by rw [List.mem_singleton.1 h]; simp [c1, I64]) (fun p hp => (List.mem_append.1 hp).elim (Hfit.out p) fun h => by rw [List.mem_singleton.1 h]; decide +kernel) (by omega)).mono ?_
      rintro r w6 ⟨⟨eb, tb, rfl, het⟩, b6⟩
      have So := hid (show Solo w.heap.size (fun _ => False) w6 eb tb ⟨7, ps ++ [c1], [], 0⟩ ⟨7, [], []⟩ from ⟨_, het, fun g hg => Nat.le_trans B5.out.size hg, fun _ _ h => h, fun _ h => h.elim⟩)
      have B6 := hid (B5.out.trans (b6.mono B5.out.size))
      clear het b6
      go_wp2_with fail
      refine (new_ok (vars := 6) (by decide)).mono ?_
      rintro r w7 ⟨⟨sb, rfl, ht⟩, b7⟩
      have HT := hid ht
      have B7 := hid (B6.out.trans (b7.mono B6.out.size))
      have So7 := hid (So.out.below b7)
      obtain ⟨Y2, hY2, bY2, kY2, sY2⟩ := alloc_step w7 (.cells #[.pointer none, .pointer (some ⟨sb, 0, none⟩)] 27)
      have R2 := hid (rd_ptr2 kY2)
      have HT2 := hid (HT.out.below bY2)
      have So8 := hid (So7.out.below bY2)
      have B8 := hid (B7.out.trans (bY2.mono B7.out.size))
      have HY2 := hid hY2
      clear ht b7 hY2 bY2 kY2 sY2
      go_wp2_with fail
      rw [HY2.out]
      obtain ⟨z7, hz7⟩ : ∃ z, w7.heap.size = z := ⟨_, rfl⟩
      rw [hz7] at R2 ⊢
      clear hz7
      go_loopw [121] (fun iv W => ∃ k : Nat, k ≤ 2 ∧ iv = .int .i64 k ∧ Hid (Below Y2.heap.size Y2 W)) (fun iv _ => 2 - (intOf iv).toNat)
      case atStart => exact ⟨0, by omega, rfl, hid (Below.refl _ _)⟩
      case round =>
        obtain ⟨k2, hk2, rfl, HB2⟩ := hrel
        by_cases hlt2 : k2 < 2
        · have x2 : (k2 : Int) < 2 := by omega
          have hq : ∃ q : Option Addr, wr.cell? ⟨z7, k2, none⟩ = some (.pointer q) ∧ (Calls Try.prog 12 #[.pointer (some ⟨eb, 0, none⟩), .pointer q] wr fun r w' => r = .returned (.tuple #[.slice none 0 0, .bool false]) ∧ Below wr.heap.size wr w') ∧ ∀ W, Below wr.heap.size wr W → Calls Try.prog 14 #[.pointer q] W fun r w' => NoLits W w' r := by
            obtain ⟨Fe, he, _⟩ := So8.out.below HB2.out
            rcases (show k2 = 0 ∨ k2 = 1 by omega) with rfl | rfl
            · exact ⟨none, rd_at (R2.out.below HB2.out) (by decide) rfl, prop_nil he.engine, fun W _ => lits_nil⟩
            · exact ⟨_, rd_at (R2.out.below HB2.out) (by decide) rfl, prop_short he.engine (HT2.out.below HB2.out) (show 6 < 7 by decide), fun W hW => lits_zero ((HT2.out.below HB2.out).below hW)⟩
          obtain ⟨q0, e3, hP, hL⟩ := hq
          have HP := hid hP
          have HL := hid hL
          clear hP hL
          go_wp2_with fail
          refine HP.out.mono ?_
          rintro r w9 ⟨rfl, b9⟩
          have B9 := hid b9
          clear b9 e3
          go_wp2_with fail
          refine (HL.out w9 B9.out).mono ?_
          rintro r w10 ⟨⟨Al, cl, rfl⟩, b10⟩
          have B10 := hid (HB2.out.trans ((B9.out.trans (b10.mono B9.out.size)).mono HB2.out.size))
          clear b10
          go_wp2_with fail
          go_roundw
          case rel => exact ⟨k2 + 1, by omega, by go_num, B10⟩
          case measure => simp [intOf]; omega
        · have x2 : ¬ ((k2 : Int) < 2) := by omega
          have So9 := hid (So8.out.below HB2.out)
          have B9 := hid (B8.out.trans (HB2.out.mono B8.out.size))
          clear So So7 So8
          go_wp2_with fail
          obtain ⟨X, hX, bX, rX, sX⟩ := lit_step wr [8] (by decide) (by decide)
          rw [show wr.alloc (.cells #[.int .i64 8] 3) = X from hX]
          refine (clause29_any rX (by simp [I64]) (by decide)).mono ?_
          rintro r w11 hgv
          rw [cl_c8] at hgv
          obtain ⟨⟨P1, m3, d3, P2, m4, d4, rfl, hp⟩, bb⟩ := hgv
          have b2 := bX.trans (bb.mono bX.size)
          have B11 := hid (B9.out.trans (b2.mono B9.out.size))
          have hadd := solo_add (v := .agg #[.slice P1 m3 d3, .slice P2 m4 d4, .int .i64 c8.bound]) ((So9.out.more b2).less (K' := fun g => wr.heap.size ≤ g ∧ g < w11.heap.size) fun g hg => .inr hg) B11.out.size (hp.mono (G := fun g => wr.heap.size ≤ g ∧ g < w11.heap.size) fun g hg h => ⟨by have := bX.size; omega, hg⟩) (by simp [c8, I64]) (fun g hg => .inr hg) (by show (ps ++ [c1]).length ≤ _; rw [List.length_append, Hlen.out]; simp; omega)
          have hf : Eng.fits ⟨7, ps ++ [c1], [], 0⟩ c8 = false := (fits_8 rfl).1
          rw [if_neg (by rw [hf]; decide), if_neg (by rw [hf]; decide)] at hadd
          have Hadd := hid hadd
          clear hX bX rX sX bb hp hadd hf b2
          go_wp2_with fail
          refine Hadd.out.mono ?_
          rintro r w12 ⟨rfl, s2, m2⟩
          have So12 := hid (s2.less (K' := fun _ => False) fun _ h => h.elim)
          have B12 := hid (mod_on B11.out B11.out.size m2)
          clear s2 m2 Hadd
          go_wp2_with fail
          obtain ⟨X, hX, bX, rX, sX⟩ := lit_step w12 [-8] (by decide) (by decide)
          rw [show w12.alloc (.cells #[.int .i64 (-8)] 3) = X from hX]
          refine (clause29_any rX (by simp [I64]) (by decide)).mono ?_
          rintro r w13 hgv
          rw [cl_c8n] at hgv
          obtain ⟨⟨P1, m3, d3, P2, m4, d4, rfl, hp⟩, bb⟩ := hgv
          have b2 := bX.trans (bb.mono bX.size)
          have B13 := hid (B12.out.trans (b2.mono B12.out.size))
          have hadd := solo_add (v := .agg #[.slice P1 m3 d3, .slice P2 m4 d4, .int .i64 c8n.bound]) ((So12.out.more b2).less (K' := fun g => w12.heap.size ≤ g ∧ g < w13.heap.size) fun g hg => .inr hg) B13.out.size (hp.mono (G := fun g => w12.heap.size ≤ g ∧ g < w13.heap.size) fun g hg h => ⟨by have := bX.size; omega, hg⟩) (by simp [c8n, I64]) (fun g hg => .inr hg) (by show (ps ++ [c1]).length ≤ _; rw [List.length_append, Hlen.out]; simp; omega)
          have hf : Eng.fits ⟨7, ps ++ [c1], [], 0⟩ c8n = false := (fits_8 rfl).2.1
          rw [if_neg (by rw [hf]; decide), if_neg (by rw [hf]; decide)] at hadd
          have Hadd := hid hadd
          clear hX bX rX sX bb hp hadd hf b2
          go_wp2_with fail
          refine Hadd.out.mono ?_
          rintro r w14 ⟨rfl, s2, m2⟩
          have So14 := hid (s2.less (K' := fun _ => False) fun _ h => h.elim)
          have B14 := hid (mod_on B13.out B13.out.size m2)
          clear s2 m2 Hadd
          have hadd := solo_add (v := .agg #[.slice none 0 0, .slice none 0 0, .int .i64 2]) (c := ⟨[], [], 2⟩) (G := fun _ => False) So14.out B14.out.size ⟨⟨none, 0, 0, none, 0, 0, rfl, (Own.nil _ _ 3 1).rd, (Own.nil _ _ 3 1).rd⟩, by simp [I64]⟩ (by simp) (fun _ h => h.elim) (by show (ps ++ [c1]).length ≤ _; rw [List.length_append, Hlen.out]; simp; omega)
          have hf : Eng.fits ⟨7, ps ++ [c1], [], 0⟩ ⟨[], [], 2⟩ = false := (fits_8 rfl).2.2
          rw [if_neg (by rw [hf]; decide), if_neg (by rw [hf]; decide)] at hadd
          have Hadd := hid hadd
          clear hadd hf
          go_wp2_with fail
          refine Hadd.out.mono ?_
          rintro r w20 ⟨rfl, s2, m2⟩
          obtain ⟨Fe, he, _⟩ := s2
          have hel := elen_any he.engine
          rw [show (⟨7, ps ++ [c1], [], 0⟩ : Eng).cs.length = n1 + 1 by show (ps ++ [c1]).length = _; rw [List.length_append, Hlen.out]; rfl] at hel
          have Hel := hid hel
          have B20 := hid (mod_on B14.out B14.out.size m2)
          clear m2 he hel Hadd
          go_wp2_with fail
          refine Hel.out.mono ?_
          rintro r w21 ⟨rfl, rfl⟩
          go_wp2_with fail
          refine awake29_any.mono ?_
          rintro r w22 ⟨rfl, b22⟩
          have B22 := hid (B20.out.trans (b22.mono B20.out.size))
          clear b22
          go_wp2_with fail
          go_ret
          exact ⟨rfl, B22.out⟩
end Go.Proofs.Ytofobmgmgipomaa
