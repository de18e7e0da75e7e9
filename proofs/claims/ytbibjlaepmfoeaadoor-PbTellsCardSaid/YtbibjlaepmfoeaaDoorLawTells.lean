/-
  Chapter 24: the walk of PbTells.
-/
import Derived.Test.YtbibjlaepmfoeaaDoorRfJ
import Derived.Test.YtbibjlaepmfoeaaDoorRfL
import Derived.Test.YtbibjlaepmfoeaaDoorPbItoa
import Derived.Test.YtbibjlaepmfoeaaDoorPbOpen2
import Derived.Test.YtbibjlaepmfoeaaDoorPbS
namespace Go.Proofs.YtbibjlaepmfoeaaDoor
open Go.RowKit

theorem normed_props (ls ks : List Int) (b : Int) : (∀ k ∈ (normed ls ks b).1.coefs, I64 k) ∧ (normed ls ks b).1.lits.length ≤ 65536 := by
  by_cases h1 : normOk ls ks b = true
  · by_cases h2 : (normed ls ks b).2 = 0
    · have h := (Pb.ok_iff _).1 (norm_valid h1 h2)
      exact ⟨h.i64, h.few⟩
    · have e : (normed ls ks b).1 = ⟨[], [], 0⟩ := by
        unfold normed at h2 ⊢
        split at h2
        · rename_i h; rw [if_pos h]
        · rename_i h
          rw [if_neg h]
          split at h2
          · exact absurd rfl h2
          · rename_i h
            rw [if_neg h]
            split at h2
            · exact absurd rfl h2
            · rename_i h
              rw [if_neg h]
              split at h2
              · rename_i h; rw [if_pos h]
              · exact absurd rfl h2
      rw [e]
      exact ⟨fun k hk => (by cases hk), by simp⟩
  · have e : normed ls ks b = (⟨[], [], 0⟩, 2) := by unfold normed; rw [if_pos (by simpa using h1)]
    rw [e]
    exact ⟨fun k hk => (by cases hk), by simp⟩
/-- The cells of a slice of two constraints. -/
theorem two_pbs {w : World} {x y z x' y' z' : Value} : ∃ W, w.alloc (.cells #[x, y, z, x', y', z'] 26) = W ∧ Below w.heap.size w W ∧ W.heap[w.heap.size]? = some (.cells #[x, y, z, x', y', z'] 26) ∧ W.heap.size = w.heap.size + 1 := alloc_step w _
set_option maxRecDepth 100000 in
set_option maxHeartbeats 16000000 in
theorem tells_walk {w : World} {F G Fc Fd H : Nat → Prop} {A B : Option Addr} {n cA m cB : Nat} {ls ks : List Int} {b : Int} {vc vd : Value} {c d : Pb} {Aa : Option Addr} {na ca : Nat} {av : List Int}
    (hu : Rd w F 1 (.slice A n cA) n (ints ls)) (hv : Rd w G 1 (.slice B m cB) m (ints ks)) (hi : ∀ x ∈ ls, I64 x) (hik : ∀ x ∈ ks, I64 x) (hb : I64 b) (hc : PbRd w Fc vc c) (hci : ∀ k ∈ c.coefs, I64 k) (hd : PbRd w Fd vd d) (ha : Rd w H 1 (.slice Aa na ca) na (i8s av))
    (htab : Lib.TabIs Tryd.prog w "internal/strconv.uint64pow10" .u64 Lib.pow10Tab) :
    Calls Tryd.prog 8 #[.slice A n cA, .slice B m cB, .int .i64 b, vc, vd, .slice Aa na ca] w fun r w' => r = .returned (.bool true) ∧ Below w.heap.size w w' := by
  have Hc := hid hc
  have Hd := hid hd
  have Ht := hid (itoaTo_tab (M := 16777216) (by omega) htab)
  obtain ⟨⟨L, n1, cn, K, m1, cm, rfl, hx, hk⟩, hbc⟩ := hc
  obtain ⟨⟨L2, n2, cn2, K2, m2, cm2, rfl, hx2, hk2⟩, hbd⟩ := hd
  have hxc : c.lits.length = n1 := by have := hx.1; simpa [ints_length] using this
  have Hxc := hid hxc
  obtain ⟨X, hX, bX, kX, sX⟩ := alloc_step w (.cells #[.slice L n1 cn, .slice K m1 cm, .int .i64 c.bound] 26)
  obtain ⟨Y, hY, bY, kY, sY⟩ := alloc_step X (.cells #[.slice L2 n2 cn2, .slice K2 m2 cm2, .int .i64 d.bound] 26)
  obtain ⟨Z, hZ⟩ : ∃ z, w.heap.size = z := ⟨_, rfl⟩
  have bW := bX.trans (bY.mono bX.size)
  have Hu := hid ((hu.mono (G := fun g => g < Z) fun g hg _ => by omega).below bW)
  have Hv := hid ((hv.mono (G := fun g => g < Z) fun g hg _ => by omega).below bW)
  have Hc1 := hid ((Hc.out.mono (G := fun g => g < Z) fun g hg _ => by omega).below bW)
  have Hd1 := hid ((Hd.out.mono (G := fun g => g < Z) fun g hg _ => by omega).below bW)
  have Ha := hid ((ha.mono (G := fun g => g < Z) fun g hg _ => by omega).below bW)
  have HB := hid bW
  have Hi := hid hi
  have Hik := hid hik
  have Hci := hid hci
  have Hb := hid hb
  have kX2 := keep_blk kX bY
  rw [sX] at kY
  rw [hZ] at kX2 kY
  have KX := hid kX2
  have KY := hid kY
  have HX := hid hX
  have HY := hid hY
  have HZ := hid hZ
  clear hu hv hi hik hb hci ha htab hx hk hx2 hk2 hbc hbd bX bY bW kX kX2 kY hX hY hZ sX sY Hc Hd hxc
  obtain ⟨e0, e1, e2⟩ := box3 KX.out
  obtain ⟨d0, d1, d2⟩ := box3 KY.out
  by_cases h_n : n ≤ 40
  · have t_n := h_n
    have qa_n : ((40 : Int) < (n : Int)) = False := by simp; omega
    have qb_n : (40 < n) = False := by simp; omega
    have qc_n : decide (40 < n) = false := by simp; omega
    by_cases h_m : m ≤ 40
    · have t_m := h_m
      have qa_m : ((40 : Int) < (m : Int)) = False := by simp; omega
      have qb_m : (40 < m) = False := by simp; omega
      have qc_m : decide (40 < m) = false := by simp; omega
      by_cases h_n1 : n1 ≤ 40
      · have t_n1 := h_n1
        have qa_n1 : ((40 : Int) < (n1 : Int)) = False := by simp; omega
        have qb_n1 : (40 < n1) = False := by simp; omega
        have qc_n1 : decide (40 < n1) = false := by simp; omega
        by_cases h_m1 : m1 ≤ 40
        · have t_m1 := h_m1
          have qa_m1 : ((40 : Int) < (m1 : Int)) = False := by simp; omega
          have qb_m1 : (40 < m1) = False := by simp; omega
          have qc_m1 : decide (40 < m1) = false := by simp; omega
          by_cases h_n2 : n2 ≤ 40
          · have t_n2 := h_n2
            have qa_n2 : ((40 : Int) < (n2 : Int)) = False := by simp; omega
            have qb_n2 : (40 < n2) = False := by simp; omega
            have qc_n2 : decide (40 < n2) = false := by simp; omega
            by_cases h_m2 : m2 ≤ 40
            · have t_m2 := h_m2
              have qa_m2 : ((40 : Int) < (m2 : Int)) = False := by simp; omega
              have qb_m2 : (40 < m2) = False := by simp; omega
              have qc_m2 : decide (40 < m2) = false := by simp; omega
              clear t_n t_m t_n1 t_m1 t_n2 t_m2
              go_enter Tryd.func8, Tryd.ntmps8
              go_wp2_with fail
              rw [HX.out, HY.out, HZ.out]
              refine (norm_any Hu.out Hv.out Hi.out Hik.out Hb.out).mono ?_
              rintro r w2 ⟨⟨pv, rfl, hpv⟩, b2⟩
              obtain ⟨N1, hN1⟩ : ∃ N, normed ls ks b = N := ⟨_, rfl⟩
              have HN1 := hid hN1
              rw [hN1] at hpv ⊢
              obtain ⟨er, her⟩ : ∃ x, N1.2 = x := ⟨_, rfl⟩
              rw [her]
              have Her := hid her
              have B2 := hid (HB.out.trans (b2.mono HB.out.size))
              have KX2 := hid (keep_blk KX.out b2)
              have KY2 := hid (keep_blk KY.out b2)
              have Hu2 := hid (Hu.out.below b2)
              have Hv2 := hid (Hv.out.below b2)
              have Hc2 := hid (Hc1.out.below b2)
              have Hd2 := hid (Hd1.out.below b2)
              have Ha2 := hid (Ha.out.below b2)
              have P1 := hid hpv
              obtain ⟨⟨A1, a1, c1, A2, a2, c2, rfl, _, _⟩, _⟩ := hpv
              obtain ⟨Z1, hZ1⟩ : ∃ z, w2.heap.size = z := ⟨_, rfl⟩
              have hzz1 : Z + 1 < Z1 := by rw [← hZ1]; exact lt_of_block KY2.out
              clear hN1 her e0 e1 e2 d0 d1 d2 Hu Hv Hc1 Hd1 Ha KX KY
              go_wp2_with fail
              obtain ⟨X3, hX, bX, k1, sX⟩ := alloc_step w2 (.cells #[.slice A1 a1 c1, .slice A2 a2 c2, .int .i64 N1.1.bound] 26)
              rw [hX]
              refine (rnorm_any (Hu2.out.below bX) (Hv2.out.below bX) Hi.out Hik.out Hb.out).mono ?_
              rintro r w4 ⟨⟨pv2, rfl, hpv2⟩, b4⟩
              rw [HN1.out] at hpv2 ⊢
              rw [Her.out]
              have bb := bX.trans (b4.mono bX.size)
              have B4 := hid (B2.out.trans (bb.mono B2.out.size))
              have KX4 := hid (keep_blk KX2.out bb)
              have KY4 := hid (keep_blk KY2.out bb)
              have Hu4 := hid (Hu2.out.below bb)
              have Hc4 := hid (Hc2.out.below bb)
              have Hd4 := hid (Hd2.out.below bb)
              have Ha4 := hid (Ha2.out.below bb)
              have P4 := hid (P1.out.below bb)
              have K14 := hid (hZ1 ▸ keep_blk k1 b4)
              have Q4 := hid hpv2
              obtain ⟨⟨D1, g1, f1, D2, g2, f2, rfl, _, _⟩, _⟩ := hpv2
              obtain ⟨Z2, hZ2⟩ : ∃ z, w4.heap.size = z := ⟨_, rfl⟩
              have hzz2 : Z1 < Z2 := by rw [← hZ2]; exact lt_of_block K14.out
              have herr : (er != er) = false := by simp
              clear hX bX k1 sX b4 bb hZ1 Hu2 Hv2 Hc2 Hd2 Ha2 P1 KX2 KY2 B2
              obtain ⟨e0, e1, e2⟩ := box3 K14.out
              go_wp2_with fail
              obtain ⟨X5, hX, bX, k5, sX⟩ := alloc_step w4 (.cells #[.slice D1 g1 f1, .slice D2 g2 f2, .int .i64 N1.1.bound] 26)
              rw [hX]
              refine (requal_any (P4.out.below bX) (Q4.out.below bX)).mono ?_
              rintro r w6 ⟨rfl, b6⟩
              rw [show N1.1.same N1.1 = true by simp [Pb.same]]
              have bb := bX.trans (b6.mono bX.size)
              have B6 := hid (B4.out.trans (bb.mono B4.out.size))
              have KX6 := hid (keep_blk KX4.out bb)
              have KY6 := hid (keep_blk KY4.out bb)
              have Hu6 := hid (Hu4.out.below bb)
              have Hc6 := hid (Hc4.out.below bb)
              have Hd6 := hid (Hd4.out.below bb)
              have Ha6 := hid (Ha4.out.below bb)
              have K16 := hid (keep_blk K14.out bb)
              have K26 := hid (hZ2 ▸ keep_blk k5 b6)
              have hzz6 : Z2 < w6.heap.size := lt_of_block K26.out
              clear hX bX k5 sX b6 bb hZ2 Hu4 Hc4 Hd4 Ha4 P4 Q4 KX4 KY4 B4 K14 e0 e1 e2
              go_wp2_with fail
              -- Clause
              have hln : (Go.Proofs.YtbibjlaepmfoeaaDoor.once ls).length ≤ n := by have h := once_len ls; have h2 := Hu6.out.1; rw [ints_length] at h2; omega
              refine (clause_any Hu6.out Hi.out (by omega) hln (fun x hx => mem_once.1 hx)).mono ?_
              rintro r w7 ⟨⟨pv, rfl, hpv⟩, b7⟩
              have hnp : (∀ k ∈ (clauseB ls).1.coefs, I64 k) ∧ (clauseB ls).1.lits.length ≤ 65536 := normed_props _ _ _
              obtain ⟨N2, hN2⟩ : ∃ N, clauseB ls = N := ⟨_, rfl⟩
              have HN2 := hid hN2
              rw [hN2] at hpv hnp ⊢
              have Hnp := hid hnp
              obtain ⟨es, hes⟩ : ∃ x, N2.2 = x := ⟨_, rfl⟩
              rw [hes]
              have Hes := hid hes
              have K17 := keep_blk K16.out b7
              obtain ⟨E1, p1, q1, E2, p2, q2, rfl, hst⟩ := stored3 (n₀ := Z1) K17 (hpv.mono (G := fun g => w6.heap.size ≤ g) fun g _ h => h) (fun g hg => by omega) (Nat.le_refl _) (by have := b7.size; omega)
              obtain ⟨t0, t1, t2⟩ := box3 K17
              have f0 : w7.frozen? ⟨Z1, 0, none⟩ = false := by simp [World.frozen?, K17]
              have ff1 : w7.frozen? ⟨Z1, 1, none⟩ = false := by simp [World.frozen?, K17]
              have ff2 : w7.frozen? ⟨Z1, 2, none⟩ = false := by simp [World.frozen?, K17]
              obtain ⟨W7, hW7⟩ : ∃ W, (((w7.setCell ⟨Z1, 0, none⟩ (.slice E1 p1 q1)).setCell ⟨Z1, 1, none⟩ (.slice E2 p2 q2)).setCell ⟨Z1, 2, none⟩ (.int .i64 N2.1.bound)) = W := ⟨_, rfl⟩
              obtain ⟨u0, u1, u2, hP7, hB7⟩ := hst W7 hW7
              have hM7 : Mod (fun g => g = Z1) w7 W7 := hW7 ▸ (((Mod.refl (fun g => g = Z1) w7).setCell (p := ⟨Z1, 0, none⟩) (.inl rfl) _).setCell (p := ⟨Z1, 1, none⟩) (.inl rfl) _).setCell (p := ⟨Z1, 2, none⟩) (.inl rfl) _
              have HW7 := hid hW7
              have U7 := hid (And.intro u0 (And.intro u1 u2))
              have P7 := hid (hpv.mod hM7 fun g _ h e => by omega)
              have B7 := hid ((B6.out.trans (b7.mono B6.out.size)).trans (hB7.mono (by have := HZ.out; omega)))
              have M7 := hid ((Mod.of_below b7).trans (hM7.mono fun g _ e => .inl e) : Mod (fun g => g = Z1) w6 W7)
              have KX7 := hid (Below.mod_lt KX6.out M7.out (by omega))
              have KY7 := hid (Below.mod_lt KY6.out M7.out (by omega))
              have K27 := hid (Below.mod_lt K26.out M7.out (by omega))
              have Hu7 := hid (Hu6.out.mod M7.out fun g _ h e => by omega)
              have Hc7 := hid (Hc6.out.mod M7.out fun g _ h e => by omega)
              have Hd7 := hid (Hd6.out.mod M7.out fun g _ h e => by omega)
              have Ha7 := hid (Ha6.out.mod M7.out fun g _ h e => by omega)
              have s7 := M7.out.size
              clear hN2 hes hnp hst hW7 u0 u1 u2 hP7 hB7 hM7 hpv b7 K17 K16 K26 KX6 KY6 B6 Hu6 Hc6 Hd6 Ha6 M7
              go_wp2_with fail
              rw [HW7.out]
              clear t0 t1 t2 f0 ff1 ff2
              refine (rclause_any Hu7.out Hi.out (by omega)).mono ?_
              rintro r w8 ⟨⟨pv, rfl, hpv⟩, b8⟩
              rw [HN2.out] at hpv ⊢
              rw [Hes.out]
              have K28 := keep_blk K27.out b8
              obtain ⟨I1, i1, j1, I2, i2, j2, rfl, hst⟩ := stored3 (n₀ := Z2) K28 (hpv.mono (G := fun g => W7.heap.size ≤ g) fun g _ h => h) (fun g hg => by omega) (Nat.le_refl _) (by have := b8.size; omega)
              obtain ⟨t0, t1, t2⟩ := box3 K28
              have f0 : w8.frozen? ⟨Z2, 0, none⟩ = false := by simp [World.frozen?, K28]
              have ff1 : w8.frozen? ⟨Z2, 1, none⟩ = false := by simp [World.frozen?, K28]
              have ff2 : w8.frozen? ⟨Z2, 2, none⟩ = false := by simp [World.frozen?, K28]
              obtain ⟨W9, hW9⟩ : ∃ W, (((w8.setCell ⟨Z2, 0, none⟩ (.slice I1 i1 j1)).setCell ⟨Z2, 1, none⟩ (.slice I2 i2 j2)).setCell ⟨Z2, 2, none⟩ (.int .i64 N2.1.bound)) = W := ⟨_, rfl⟩
              obtain ⟨u0, u1, u2, hP9, hB9⟩ := hst W9 hW9
              have hM9 : Mod (fun g => g = Z2) w8 W9 := hW9 ▸ (((Mod.refl (fun g => g = Z2) w8).setCell (p := ⟨Z2, 0, none⟩) (.inl rfl) _).setCell (p := ⟨Z2, 1, none⟩) (.inl rfl) _).setCell (p := ⟨Z2, 2, none⟩) (.inl rfl) _
              have HW9 := hid hW9
              have U9 := hid (And.intro u0 (And.intro u1 u2))
              have Q9 := hid hP9
              have M9 := hid ((Mod.of_below b8).trans (hM9.mono fun g _ e => .inl e) : Mod (fun g => g = Z2) W7 W9)
              have B9 := hid (below_mod B7.out B7.out.size M9.out (fun g e => by have := HZ.out; omega))
              have P9 := hid (P7.out.mod M9.out fun g _ h e => by omega)
              have KX9 := hid (Below.mod_lt KX7.out M9.out (by omega))
              have KY9 := hid (Below.mod_lt KY7.out M9.out (by omega))
              have Hc9 := hid (Hc7.out.mod M9.out fun g _ h e => by omega)
              have Hd9 := hid (Hd7.out.mod M9.out fun g _ h e => by omega)
              have Ha9 := hid (Ha7.out.mod M9.out fun g _ h e => by omega)
              have g0 := (World.cell?_of_block (a := ⟨Z1, 0, none⟩) (M9.out.block Z1 (by omega) (by omega))).trans U7.out.1
              have g1' := (World.cell?_of_block (a := ⟨Z1, 1, none⟩) (M9.out.block Z1 (by omega) (by omega))).trans U7.out.2.1
              have g2' := (World.cell?_of_block (a := ⟨Z1, 2, none⟩) (M9.out.block Z1 (by omega) (by omega))).trans U7.out.2.2
              obtain ⟨y0, y1, y2⟩ := U9.out
              have s9 := M9.out.size
              have hess : (es != es) = false := by simp
              have x0 := keep_cell U7.out.1 b8
              have x1' := keep_cell U7.out.2.1 b8
              have x2' := keep_cell U7.out.2.2 b8
              have hne1 : Z1 ≠ Z2 := by omega
              have hne2 : Z2 ≠ Z1 := by omega
              clear hst hW9 u0 u1 u2 hP9 hB9 hM9 hpv b8 K28 K27 KX7 KY7 Hc7 Hd7 Ha7 M9 U7 P7 Hu7 B7
              go_wp2_with fail
              rw [HW9.out]
              clear t0 t1 t2 f0 ff1 ff2 x0 x1' x2' hne1 hne2
              refine (requal_any P9.out Q9.out).mono ?_
              rintro r w10 ⟨rfl, b10⟩
              rw [show N2.1.same N2.1 = true by simp [Pb.same]]
              have B10 := hid (B9.out.trans (b10.mono B9.out.size))
              have KX10 := hid (keep_blk KX9.out b10)
              have KY10 := hid (keep_blk KY9.out b10)
              have Hc10 := hid (Hc9.out.below b10)
              have Hd10 := hid (Hd9.out.below b10)
              have Ha10 := hid (Ha9.out.below b10)
              have Q10 := hid (Q9.out.below b10)
              have z0 := keep_cell y0 b10
              have z1 := keep_cell y1 b10
              have z2 := keep_cell y2 b10
              have s10 := b10.size
              clear b10 y0 y1 y2 g0 g1' g2' KX9 KY9 Hc9 Hd9 Ha9 Q9 P9 B9 U9
              obtain ⟨e0, e1, e2⟩ := box3 KX10.out
              go_wp2_with fail
              obtain ⟨X11, hX, bX, k11, sX⟩ := two_pbs (w := w10) (x := .slice L n1 cn) (y := .slice K m1 cm) (z := .int .i64 c.bound) (x' := .slice I1 i1 j1) (y' := .slice I2 i2 j2) (z' := .int .i64 N2.1.bound)
              obtain ⟨Z3, hZ3⟩ : ∃ z, w10.heap.size = z := ⟨_, rfl⟩
              rw [hX, hZ3]
              rw [hZ3] at k11
              have hz3 : Z + 1 < Z3 := by rw [← hZ3]; exact lt_of_block KY10.out
              have B11 := hid (B10.out.trans (bX.mono B10.out.size))
              have KY11 := hid (keep_blk KY10.out bX)
              have Hd11 := hid (Hd10.out.below bX)
              have Ha11 := hid (Ha10.out.below bX)
              have Both := hid (show ∀ j : Nat, j < 2 → ∃ (A3 : Option Addr) (a3 c3 : Nat) (A4 : Option Addr) (a4 c4 : Nat) (N : Pb) (Fk : Nat → Prop), X11.cell? ⟨Z3, j * 3, none⟩ = some (.slice A3 a3 c3) ∧ X11.cell? ⟨Z3, j * 3 + 1, none⟩ = some (.slice A4 a4 c4) ∧ X11.cell? ⟨Z3, j * 3 + 2, none⟩ = some (.int .i64 N.bound) ∧
                  PbRd X11 Fk (.agg #[.slice A3 a3 c3, .slice A4 a4 c4, .int .i64 N.bound]) N ∧ (∀ k ∈ N.coefs, I64 k) ∧ N.lits.length ≤ 65536 by
                intro j hj
                by_cases h0 : j = 0
                · subst h0
                  exact ⟨L, n1, cn, K, m1, cm, c, _, by rw [cell_of_row _ _ _ _ _ _ k11]; rfl, by rw [cell_of_row _ _ _ _ _ _ k11]; rfl, by rw [cell_of_row _ _ _ _ _ _ k11]; rfl, Hc10.out.below bX, Hci.out, by rw [Hxc.out]; omega⟩
                · obtain rfl : j = 1 := by omega
                  exact ⟨I1, i1, j1, I2, i2, j2, N2.1, _, by rw [cell_of_row _ _ _ _ _ _ k11]; rfl, by rw [cell_of_row _ _ _ _ _ _ k11]; rfl, by rw [cell_of_row _ _ _ _ _ _ k11]; rfl, Q10.out.below bX, Hnp.out.1, Hnp.out.2⟩)
              clear hX bX k11 sX hZ3 z0 z1 z2 e0 e1 e2 KX10 KY10 Hc10 Hd10 Ha10 Q10 B10
              go_loopw [102] (fun iv W => ∃ j : Nat, j ≤ 2 ∧ iv = .int .i64 j ∧ Hid (Below X11.heap.size X11 W)) (fun iv _ => 2 - (intOf iv).toNat)
              case atStart => exact ⟨0, by omega, rfl, hid (Below.refl _ _)⟩
              case round =>
                obtain ⟨j, hj, rfl, HBj⟩ := hrel
                by_cases hlt : j < 2
                · have x1 : (j : Int) < 2 := by omega
                  obtain ⟨A3, a3, c3, A4, a4, c4, N, Fk, q0, q1, q2, hN, hNi, hNl⟩ := Both.out j hlt
                  have r0 := keep_cell q0 HBj.out
                  have r1 := keep_cell q1 HBj.out
                  have r2 := keep_cell q2 HBj.out
                  have PN := hid (hN.below HBj.out)
                  have HNi := hid hNi
                  have HNl := hid hNl
                  have BW := hid (B11.out.trans (HBj.out.mono B11.out.size))
                  have KYj := hid (keep_blk KY11.out HBj.out)
                  have Hdj := hid (Hd11.out.below HBj.out)
                  have Haj := hid (Ha11.out.below HBj.out)
                  obtain ⟨nb, hnb⟩ : ∃ x, N.bound = x := ⟨_, rfl⟩
                  rw [hnb] at r2 PN
                  clear q0 q1 q2 hN hNi hNl hnb
                  go_wp2_with fail
                  obtain ⟨V1, hV, bV, kV, sV⟩ := alloc_step wr (.cells #[.slice A3 a3 c3, .slice A4 a4 c4, .int .i64 nb] 26)
                  obtain ⟨Zk, hZk⟩ : ∃ z, wr.heap.size = z := ⟨_, rfl⟩
                  rw [hV, hZk]
                  rw [hZk] at kV
                  refine (negate_any (PN.out.below bV) HNi.out).mono ?_
                  rintro r w12 ⟨⟨pv, rfl, hpv⟩, b12⟩
                  obtain ⟨M1, hM1⟩ : ∃ M, N.negB = M := ⟨_, rfl⟩
                  have HM1 := hid hM1
                  rw [hM1] at hpv ⊢
                  obtain ⟨en, hen⟩ : ∃ x, M1.2 = x := ⟨_, rfl⟩
                  have Hen := hid hen
                  rw [hen]
                  have bb := bV.trans (b12.mono bV.size)
                  have kk := hid (keep_blk kV b12)
                  have PN2 := hid (PN.out.below bb)
                  have PM2 := hid hpv
                  obtain ⟨⟨A5, a5, c5, A6, a6, c6, rfl, _, _⟩, _⟩ := hpv
                  have B12 := hid (HBj.out.trans (bb.mono HBj.out.size))
                  have KY12 := hid (keep_blk KYj.out bb)
                  have Hd12 := hid (Hdj.out.below bb)
                  have Ha12 := hid (Haj.out.below bb)
                  clear bV b12 hM1 hen kV sV hV hZk bb r0 r1 r2 PN KYj Hdj Haj
                  obtain ⟨e0, e1, e2⟩ := box3 kk.out
                  obtain ⟨Zp, hZp⟩ : ∃ z, w12.heap.size = z := ⟨_, rfl⟩
                  have hkp : Zk < Zp := by rw [← hZp]; exact lt_of_block kk.out
                  go_wp2_with fail
                  obtain ⟨V2, hV, bV, kV, sV⟩ := alloc_step w12 (.cells #[.slice A5 a5 c5, .slice A6 a6 c6, .int .i64 M1.1.bound] 26)
                  rw [hV]
                  refine (rnegate_any (PN2.out.below bV) HNi.out HNl.out).mono ?_
                  rintro r w13 ⟨⟨pv, rfl, hpv⟩, b13⟩
                  rw [HM1.out] at hpv ⊢
                  rw [Hen.out]
                  have bb := bV.trans (b13.mono bV.size)
                  have kk3 := hid (keep_blk kk.out bb)
                  have kp3 := hid (hZp ▸ keep_blk kV b13)
                  have PN3 := hid (PN2.out.below bb)
                  have PM3 := hid (PM2.out.below bb)
                  have QM3 := hid hpv
                  obtain ⟨⟨A7, a7, c7, A8, a8, c8, rfl, _, _⟩, _⟩ := hpv
                  have B13 := hid (B12.out.trans (bb.mono B12.out.size))
                  have KY13 := hid (keep_blk KY12.out bb)
                  have Hd13 := hid (Hd12.out.below bb)
                  have Ha13 := hid (Ha12.out.below bb)
                  clear bV b13 kV sV hV hZp bb kk PN2 PM2 KY12 Hd12 Ha12 B12 e0 e1 e2
                  obtain ⟨Zq, hZq⟩ : ∃ z, w13.heap.size = z := ⟨_, rfl⟩
                  have hpq : Zp < Zq := by rw [← hZq]; exact lt_of_block kp3.out
                  go_wp2_with fail
                  obtain ⟨W0, hW0, b0, kq, sq⟩ := alloc_step w13 (.cells #[.slice A7 a7 c7, .slice A8 a8 c8, .int .i64 M1.1.bound] 26)
                  rw [hZq] at kq
                  rw [hW0]
                  have PN4 := hid (PN3.out.below b0)
                  have PM4 := hid (PM3.out.below b0)
                  have QM4 := hid (QM3.out.below b0)
                  have Hd4' := hid (Hd13.out.below b0)
                  have Ha4' := hid (Ha13.out.below b0)
                  have B14 := hid (B13.out.trans (b0.mono B13.out.size))
                  have BW4 := hid (B11.out.trans (B14.out.mono B11.out.size))
                  obtain ⟨k0, k1, k2⟩ := box3 (keep_blk kk3.out b0)
                  obtain ⟨p0, p1', p2'⟩ := box3 (keep_blk kp3.out b0)
                  obtain ⟨v0, v1, v2⟩ := box3 kq
                  obtain ⟨d0, d1, d2⟩ := box3 (keep_blk KY13.out b0)
                  obtain ⟨qv, hqv⟩ : ∃ q, N.ok = q := ⟨_, rfl⟩
                  obtain ⟨sv, hsv⟩ : ∃ s, N.slackB av = s := ⟨_, rfl⟩
                  obtain ⟨U, hU⟩ : ∃ u, N.unitsB av = u := ⟨_, rfl⟩
                  obtain ⟨qh, hqh⟩ : ∃ q, N.holdsB av = q := ⟨_, rfl⟩
                  obtain ⟨tx, htx⟩ : ∃ t : ByteArray, (⟨N.text.toArray⟩ : ByteArray) = t := ⟨_, rfl⟩
                  obtain ⟨qe, hqe⟩ : ∃ q, N.same d = q := ⟨_, rfl⟩
                  have Hqv := hid hqv
                  have Hsv := hid hsv
                  have HU := hid hU
                  have Hqh := hid hqh
                  have Htx := hid htx
                  have Hqe := hid hqe
                  have HM := hid (show N.Ok → N.bound ≤ 16777216 ∧ ∀ j, j < N.lits.length → ((nth N.lits j).natAbs : Nat) ≤ (16777216 : Int) from fun h => ⟨h.high, fun j hj => by have := h.lit j hj; omega⟩)
                  have h1 : (en != en) = false := by simp
                  have h2 : (qv != qv) = false := by simp
                  have h3 : (sv != sv) = false := by simp
                  have h4 : (qh != qh) = false := by simp
                  have h6 : (qe != qe) = false := by simp
                  have HBd0 := hid (Bl.drew (Below.refl W0.heap.size W0))
                  clear hqv hsv hU hqh htx hqe kk3 kp3 kq sq b0 hW0 hZq PN3 PM3 QM3 Hd13 Ha13 B13 KY13
                  -- GREAT
                  refine wp_region_held_drew (S := fun w' => (w'.cell? ⟨Zk, 0, none⟩ = some (.slice A3 a3 c3) ∧ w'.cell? ⟨Zk, 1, none⟩ = some (.slice A4 a4 c4) ∧ w'.cell? ⟨Zk, 2, none⟩ = some (.int .i64 nb) ∧ w'.cell? ⟨Zp, 0, none⟩ = some (.slice A5 a5 c5) ∧ w'.cell? ⟨Zp, 1, none⟩ = some (.slice A6 a6 c6) ∧ w'.cell? ⟨Zp, 2, none⟩ = some (.int .i64 M1.1.bound) ∧ w'.cell? ⟨Zq, 0, none⟩ = some (.slice A7 a7 c7) ∧ w'.cell? ⟨Zq, 1, none⟩ = some (.slice A8 a8 c8) ∧ w'.cell? ⟨Zq, 2, none⟩ = some (.int .i64 M1.1.bound) ∧ w'.cell? ⟨(Z + 1), 0, none⟩ = some (.slice L2 n2 cn2) ∧ w'.cell? ⟨(Z + 1), 1, none⟩ = some (.slice K2 m2 cm2) ∧ w'.cell? ⟨(Z + 1), 2, none⟩ = some (.int .i64 d.bound)) ∧ Hid (Below W0.heap.size W0 w')) (by kernel_rfl) ⟨⟨keep_cell k0 HBd0.out, keep_cell k1 HBd0.out, keep_cell k2 HBd0.out, keep_cell p0 HBd0.out, keep_cell p1' HBd0.out, keep_cell p2' HBd0.out, keep_cell v0 HBd0.out, keep_cell v1 HBd0.out, keep_cell v2 HBd0.out, keep_cell d0 HBd0.out, keep_cell d1 HBd0.out, keep_cell d2 HBd0.out⟩, HBd0⟩ (fun hHeld => ?_)
                  clear HBd0
                  refine wpAnyH_take (i := 0) (oi := ⟨_, _, _, _, _, _⟩) (v := ?_) rfl (by kernel_rfl) (by kernel_rfl) (by kernel_rfl) (fun _ _ _ h => h) (Or.inl ⟨by rfl, ?_⟩) (by assumption) ?_
                  rotate_left
                  · intro w hSw
                    try dsimp only at hSw
                    go_simp
                    try with_reducible rfl
                  simp only [Act.put, List.setIfInBounds_toArray, List.set_cons_zero, List.set_cons_succ]
                  refine wpAnyH_take (i := 1) (oi := ⟨_, _, _, _, _, _⟩) (v := ?_) rfl (by kernel_rfl) (by kernel_rfl) (by kernel_rfl) (fun _ _ _ h => h) (Or.inl ⟨by rfl, ?_⟩) (by assumption) ?_
                  rotate_left
                  · intro w hSw
                    try dsimp only at hSw
                    go_simp
                    try with_reducible rfl
                  simp only [Act.put, List.setIfInBounds_toArray, List.set_cons_zero, List.set_cons_succ]
                  refine wpAnyH_take (i := 2) (oi := ⟨_, _, _, _, _, _⟩) (v := ?_) rfl (by kernel_rfl) (by kernel_rfl) (by kernel_rfl) (fun _ _ _ h => h) (Or.inl ⟨by rfl, ?_⟩) (by assumption) ?_
                  rotate_left
                  · intro w hSw
                    try dsimp only at hSw
                    go_simp
                    try with_reducible rfl
                  simp only [Act.put, List.setIfInBounds_toArray, List.set_cons_zero, List.set_cons_succ]
                  refine wpAnyH_take (i := 3) (oi := ⟨_, _, _, _, _, _⟩) (v := ?_) rfl (by kernel_rfl) (by kernel_rfl) (by kernel_rfl) (fun _ _ _ h => h) (Or.inl ⟨by rfl, ?_⟩) (by assumption) ?_
                  rotate_left
                  · intro w hSw
                    try dsimp only at hSw
                    go_simp
                    try with_reducible rfl
                  simp only [Act.put, List.setIfInBounds_toArray, List.set_cons_zero, List.set_cons_succ]
                  refine wpAnyH_take (i := 4) (oi := ⟨_, _, _, _, _, _⟩) (v := ?_) rfl (by kernel_rfl) (by kernel_rfl) (by kernel_rfl) (fun _ _ _ h => h) (Or.inl ⟨by rfl, ?_⟩) (by assumption) ?_
                  rotate_left
                  · intro w hSw
                    try dsimp only at hSw
                    go_simp
                    try with_reducible rfl
                  simp only [Act.put, List.setIfInBounds_toArray, List.set_cons_zero, List.set_cons_succ]
                  refine wpAnyH_take (i := 5) (oi := ⟨_, _, _, _, _, _⟩) (v := ?_) rfl (by kernel_rfl) (by kernel_rfl) (by kernel_rfl) (fun _ _ _ h => h) (Or.inl ⟨by rfl, ?_⟩) (by assumption) ?_
                  rotate_left
                  · intro w hSw
                    try dsimp only at hSw
                    go_simp
                    try with_reducible rfl
                  simp only [Act.put, List.setIfInBounds_toArray, List.set_cons_zero, List.set_cons_succ]
                  refine wpAnyH_ready (rs := [6]) (by kernel_rfl) (by simp) (AllReadyH.cons (o := ⟨_, _, _, _, _, _⟩) rfl (fun K hK => ?_) AllReadyH.nil)
                  go_simp
                  refine (requal_any (PM4.out.below hHeld.2.out) (QM4.out.below hHeld.2.out)).mono ?_
                  rintro r w21 ⟨rfl, b21⟩
                  rw [show M1.1.same M1.1 = true by unfold Pb.same; simp]
                  go_simp
                  refine hK.out _ _ ⟨⟨keep_cell hHeld.1.1 b21, keep_cell hHeld.1.2.1 b21, keep_cell hHeld.1.2.2.1 b21, keep_cell hHeld.1.2.2.2.1 b21, keep_cell hHeld.1.2.2.2.2.1 b21, keep_cell hHeld.1.2.2.2.2.2.1 b21, keep_cell hHeld.1.2.2.2.2.2.2.1 b21, keep_cell hHeld.1.2.2.2.2.2.2.2.1 b21, keep_cell hHeld.1.2.2.2.2.2.2.2.2.1 b21, keep_cell hHeld.1.2.2.2.2.2.2.2.2.2.1 b21, keep_cell hHeld.1.2.2.2.2.2.2.2.2.2.2.1 b21, keep_cell hHeld.1.2.2.2.2.2.2.2.2.2.2.2 b21⟩, hid (hHeld.2.out.trans (b21.mono hHeld.2.out.size))⟩ (fun hHeld => ?_)
                  clear hK K
                  try simp only [Act.put, List.setIfInBounds_toArray, List.set_cons_zero, List.set_cons_succ]
                  refine wpAnyH_take (i := 7) (oi := ⟨_, _, _, _, _, _⟩) (v := ?_) rfl (by kernel_rfl) (by kernel_rfl) (by kernel_rfl) (fun _ _ _ h => h) (Or.inl ⟨by rfl, ?_⟩) (by assumption) ?_
                  rotate_left
                  · intro w hSw
                    try dsimp only at hSw
                    go_simp
                    try with_reducible rfl
                  simp only [Act.put, List.setIfInBounds_toArray, List.set_cons_zero, List.set_cons_succ]
                  refine wpAnyH_take (i := 8) (oi := ⟨_, _, _, _, _, _⟩) (v := ?_) rfl (by kernel_rfl) (by kernel_rfl) (by kernel_rfl) (fun _ _ _ h => h) (Or.inl ⟨by rfl, ?_⟩) (by assumption) ?_
                  rotate_left
                  · intro w hSw
                    try dsimp only at hSw
                    go_simp
                    try with_reducible rfl
                  simp only [Act.put, List.setIfInBounds_toArray, List.set_cons_zero, List.set_cons_succ]
                  refine wpAnyH_take (i := 9) (oi := ⟨_, _, _, _, _, _⟩) (v := ?_) rfl (by kernel_rfl) (by kernel_rfl) (by kernel_rfl) (fun _ _ _ h => h) (Or.inl ⟨by rfl, ?_⟩) (by assumption) ?_
                  rotate_left
                  · intro w hSw
                    try dsimp only at hSw
                    go_simp
                    try with_reducible rfl
                  simp only [Act.put, List.setIfInBounds_toArray, List.set_cons_zero, List.set_cons_succ]
                  refine wpAnyH_take (i := 10) (oi := ⟨_, _, _, _, _, _⟩) (v := ?_) rfl (by kernel_rfl) (by kernel_rfl) (by kernel_rfl) (fun _ _ _ h => h) (Or.inl ⟨by rfl, ?_⟩) (by assumption) ?_
                  rotate_left
                  · intro w hSw
                    try dsimp only at hSw
                    go_simp
                    try with_reducible rfl
                  simp only [Act.put, List.setIfInBounds_toArray, List.set_cons_zero, List.set_cons_succ]
                  refine wpAnyH_take (i := 12) (oi := ⟨_, _, _, _, _, _⟩) (v := ?_) rfl (by kernel_rfl) (by kernel_rfl) (by kernel_rfl) (fun _ _ _ h => h) (Or.inl ⟨by rfl, ?_⟩) (by assumption) ?_
                  rotate_left
                  · intro w hSw
                    try dsimp only at hSw
                    go_simp
                    try with_reducible rfl
                  simp only [Act.put, List.setIfInBounds_toArray, List.set_cons_zero, List.set_cons_succ]
                  refine wpAnyH_ready (rs := [11]) (by kernel_rfl) (by simp) (AllReadyH.cons (o := ⟨_, _, _, _, _, _⟩) rfl (fun K hK => ?_) AllReadyH.nil)
                  go_simp
                  refine (valid_any (PN4.out.below hHeld.2.out) HNi.out).mono ?_
                  rintro r w22 ⟨rfl, b22⟩
                  rw [Hqv.out]
                  go_simp
                  refine hK.out _ _ ⟨⟨keep_cell hHeld.1.1 b22, keep_cell hHeld.1.2.1 b22, keep_cell hHeld.1.2.2.1 b22, keep_cell hHeld.1.2.2.2.1 b22, keep_cell hHeld.1.2.2.2.2.1 b22, keep_cell hHeld.1.2.2.2.2.2.1 b22, keep_cell hHeld.1.2.2.2.2.2.2.1 b22, keep_cell hHeld.1.2.2.2.2.2.2.2.1 b22, keep_cell hHeld.1.2.2.2.2.2.2.2.2.1 b22, keep_cell hHeld.1.2.2.2.2.2.2.2.2.2.1 b22, keep_cell hHeld.1.2.2.2.2.2.2.2.2.2.2.1 b22, keep_cell hHeld.1.2.2.2.2.2.2.2.2.2.2.2 b22⟩, hid (hHeld.2.out.trans (b22.mono hHeld.2.out.size))⟩ (fun hHeld => ?_)
                  clear hK K
                  try simp only [Act.put, List.setIfInBounds_toArray, List.set_cons_zero, List.set_cons_succ]
                  refine wpAnyH_ready (rs := [13]) (by kernel_rfl) (by simp) (AllReadyH.cons (o := ⟨_, _, _, _, _, _⟩) rfl (fun K hK => ?_) AllReadyH.nil)
                  go_simp
                  refine (rvalid_any (PN4.out.below hHeld.2.out) HNi.out HNl.out).mono ?_
                  rintro r w23 ⟨rfl, b23⟩
                  rw [Hqv.out]
                  go_simp
                  refine hK.out _ _ ⟨⟨keep_cell hHeld.1.1 b23, keep_cell hHeld.1.2.1 b23, keep_cell hHeld.1.2.2.1 b23, keep_cell hHeld.1.2.2.2.1 b23, keep_cell hHeld.1.2.2.2.2.1 b23, keep_cell hHeld.1.2.2.2.2.2.1 b23, keep_cell hHeld.1.2.2.2.2.2.2.1 b23, keep_cell hHeld.1.2.2.2.2.2.2.2.1 b23, keep_cell hHeld.1.2.2.2.2.2.2.2.2.1 b23, keep_cell hHeld.1.2.2.2.2.2.2.2.2.2.1 b23, keep_cell hHeld.1.2.2.2.2.2.2.2.2.2.2.1 b23, keep_cell hHeld.1.2.2.2.2.2.2.2.2.2.2.2 b23⟩, hid (hHeld.2.out.trans (b23.mono hHeld.2.out.size))⟩ (fun hHeld => ?_)
                  clear hK K
                  try simp only [Act.put, List.setIfInBounds_toArray, List.set_cons_zero, List.set_cons_succ]
                  refine wpAnyH_take (i := 14) (oi := ⟨_, _, _, _, _, _⟩) (v := ?_) rfl (by kernel_rfl) (by kernel_rfl) (by kernel_rfl) (fun _ _ _ h => h) (Or.inl ⟨by rfl, ?_⟩) (by assumption) ?_
                  rotate_left
                  · intro w hSw
                    try dsimp only at hSw
                    go_simp
                    try with_reducible rfl
                  simp only [Act.put, List.setIfInBounds_toArray, List.set_cons_zero, List.set_cons_succ]
                  refine wpAnyH_take (i := 15) (oi := ⟨_, _, _, _, _, _⟩) (v := ?_) rfl (by kernel_rfl) (by kernel_rfl) (by kernel_rfl) (fun _ _ _ h => h) (Or.inl ⟨by rfl, ?_⟩) (by assumption) ?_
                  rotate_left
                  · intro w hSw
                    try dsimp only at hSw
                    go_simp
                    try with_reducible rfl
                  simp only [Act.put, List.setIfInBounds_toArray, List.set_cons_zero, List.set_cons_succ]
                  refine wpAnyH_take (i := 16) (oi := ⟨_, _, _, _, _, _⟩) (v := ?_) rfl (by kernel_rfl) (by kernel_rfl) (by kernel_rfl) (fun _ _ _ h => h) (Or.inl ⟨by rfl, ?_⟩) (by assumption) ?_
                  rotate_left
                  · intro w hSw
                    try dsimp only at hSw
                    go_simp
                    try with_reducible rfl
                  simp only [Act.put, List.setIfInBounds_toArray, List.set_cons_zero, List.set_cons_succ]
                  refine wpAnyH_take (i := 17) (oi := ⟨_, _, _, _, _, _⟩) (v := ?_) rfl (by kernel_rfl) (by kernel_rfl) (by kernel_rfl) (fun _ _ _ h => h) (Or.inl ⟨by rfl, ?_⟩) (by assumption) ?_
                  rotate_left
                  · intro w hSw
                    try dsimp only at hSw
                    go_simp
                    try with_reducible rfl
                  simp only [Act.put, List.setIfInBounds_toArray, List.set_cons_zero, List.set_cons_succ]
                  refine wpAnyH_take (i := 18) (oi := ⟨_, _, _, _, _, _⟩) (v := ?_) rfl (by kernel_rfl) (by kernel_rfl) (by kernel_rfl) (fun _ _ _ h => h) (Or.inl ⟨by rfl, ?_⟩) (by assumption) ?_
                  rotate_left
                  · intro w hSw
                    try dsimp only at hSw
                    go_simp
                    try with_reducible rfl
                  simp only [Act.put, List.setIfInBounds_toArray, List.set_cons_zero, List.set_cons_succ]
                  refine wpAnyH_take (i := 20) (oi := ⟨_, _, _, _, _, _⟩) (v := ?_) rfl (by kernel_rfl) (by kernel_rfl) (by kernel_rfl) (fun _ _ _ h => h) (Or.inl ⟨by rfl, ?_⟩) (by assumption) ?_
                  rotate_left
                  · intro w hSw
                    try dsimp only at hSw
                    go_simp
                    try with_reducible rfl
                  simp only [Act.put, List.setIfInBounds_toArray, List.set_cons_zero, List.set_cons_succ]
                  refine wpAnyH_take (i := 21) (oi := ⟨_, _, _, _, _, _⟩) (v := ?_) rfl (by kernel_rfl) (by kernel_rfl) (by kernel_rfl) (fun _ _ _ h => h) (Or.inl ⟨by rfl, ?_⟩) (by assumption) ?_
                  rotate_left
                  · intro w hSw
                    try dsimp only at hSw
                    go_simp
                    try with_reducible rfl
                  simp only [Act.put, List.setIfInBounds_toArray, List.set_cons_zero, List.set_cons_succ]
                  refine wpAnyH_ready (rs := [19]) (by kernel_rfl) (by simp) (AllReadyH.cons (o := ⟨_, _, _, _, _, _⟩) rfl (fun K hK => ?_) AllReadyH.nil)
                  go_simp
                  refine (slack_any (PN4.out.below hHeld.2.out) HNi.out (Ha4'.out.below hHeld.2.out)).mono ?_
                  rintro r w24 ⟨rfl, b24⟩
                  rw [Hsv.out]
                  go_simp
                  refine hK.out _ _ ⟨⟨keep_cell hHeld.1.1 b24, keep_cell hHeld.1.2.1 b24, keep_cell hHeld.1.2.2.1 b24, keep_cell hHeld.1.2.2.2.1 b24, keep_cell hHeld.1.2.2.2.2.1 b24, keep_cell hHeld.1.2.2.2.2.2.1 b24, keep_cell hHeld.1.2.2.2.2.2.2.1 b24, keep_cell hHeld.1.2.2.2.2.2.2.2.1 b24, keep_cell hHeld.1.2.2.2.2.2.2.2.2.1 b24, keep_cell hHeld.1.2.2.2.2.2.2.2.2.2.1 b24, keep_cell hHeld.1.2.2.2.2.2.2.2.2.2.2.1 b24, keep_cell hHeld.1.2.2.2.2.2.2.2.2.2.2.2 b24⟩, hid (hHeld.2.out.trans (b24.mono hHeld.2.out.size))⟩ (fun hHeld => ?_)
                  clear hK K
                  try simp only [Act.put, List.setIfInBounds_toArray, List.set_cons_zero, List.set_cons_succ]
                  refine wpAnyH_ready (rs := [22]) (by kernel_rfl) (by simp) (AllReadyH.cons (o := ⟨_, _, _, _, _, _⟩) rfl (fun K hK => ?_) AllReadyH.nil)
                  go_simp
                  refine (rslack_any (PN4.out.below hHeld.2.out) HNi.out HNl.out (Ha4'.out.below hHeld.2.out)).mono ?_
                  rintro r w25 ⟨rfl, b25⟩
                  rw [Hsv.out]
                  go_simp
                  refine hK.out _ _ ⟨⟨keep_cell hHeld.1.1 b25, keep_cell hHeld.1.2.1 b25, keep_cell hHeld.1.2.2.1 b25, keep_cell hHeld.1.2.2.2.1 b25, keep_cell hHeld.1.2.2.2.2.1 b25, keep_cell hHeld.1.2.2.2.2.2.1 b25, keep_cell hHeld.1.2.2.2.2.2.2.1 b25, keep_cell hHeld.1.2.2.2.2.2.2.2.1 b25, keep_cell hHeld.1.2.2.2.2.2.2.2.2.1 b25, keep_cell hHeld.1.2.2.2.2.2.2.2.2.2.1 b25, keep_cell hHeld.1.2.2.2.2.2.2.2.2.2.2.1 b25, keep_cell hHeld.1.2.2.2.2.2.2.2.2.2.2.2 b25⟩, hid (hHeld.2.out.trans (b25.mono hHeld.2.out.size))⟩ (fun hHeld => ?_)
                  clear hK K
                  try simp only [Act.put, List.setIfInBounds_toArray, List.set_cons_zero, List.set_cons_succ]
                  refine wpAnyH_take (i := 23) (oi := ⟨_, _, _, _, _, _⟩) (v := ?_) rfl (by kernel_rfl) (by kernel_rfl) (by kernel_rfl) (fun _ _ _ h => h) (Or.inl ⟨by rfl, ?_⟩) (by assumption) ?_
                  rotate_left
                  · intro w hSw
                    try dsimp only at hSw
                    go_simp
                    try with_reducible rfl
                  simp only [Act.put, List.setIfInBounds_toArray, List.set_cons_zero, List.set_cons_succ]
                  refine wpAnyH_take (i := 24) (oi := ⟨_, _, _, _, _, _⟩) (v := ?_) rfl (by kernel_rfl) (by kernel_rfl) (by kernel_rfl) (fun _ _ _ h => h) (Or.inl ⟨by rfl, ?_⟩) (by assumption) ?_
                  rotate_left
                  · intro w hSw
                    try dsimp only at hSw
                    go_simp
                    try with_reducible rfl
                  simp only [Act.put, List.setIfInBounds_toArray, List.set_cons_zero, List.set_cons_succ]
                  refine wpAnyH_take (i := 25) (oi := ⟨_, _, _, _, _, _⟩) (v := ?_) rfl (by kernel_rfl) (by kernel_rfl) (by kernel_rfl) (fun _ _ _ h => h) (Or.inl ⟨by rfl, ?_⟩) (by assumption) ?_
                  rotate_left
                  · intro w hSw
                    try dsimp only at hSw
                    go_simp
                    try with_reducible rfl
                  simp only [Act.put, List.setIfInBounds_toArray, List.set_cons_zero, List.set_cons_succ]
                  refine wpAnyH_take (i := 26) (oi := ⟨_, _, _, _, _, _⟩) (v := ?_) rfl (by kernel_rfl) (by kernel_rfl) (by kernel_rfl) (fun _ _ _ h => h) (Or.inl ⟨by rfl, ?_⟩) (by assumption) ?_
                  rotate_left
                  · intro w hSw
                    try dsimp only at hSw
                    go_simp
                    try with_reducible rfl
                  simp only [Act.put, List.setIfInBounds_toArray, List.set_cons_zero, List.set_cons_succ]
                  refine wpAnyH_take (i := 27) (oi := ⟨_, _, _, _, _, _⟩) (v := ?_) rfl (by kernel_rfl) (by kernel_rfl) (by kernel_rfl) (fun _ _ _ h => h) (Or.inl ⟨by rfl, ?_⟩) (by assumption) ?_
                  rotate_left
                  · intro w hSw
                    try dsimp only at hSw
                    go_simp
                    try with_reducible rfl
                  simp only [Act.put, List.setIfInBounds_toArray, List.set_cons_zero, List.set_cons_succ]
                  refine wpAnyH_take (i := 29) (oi := ⟨_, _, _, _, _, _⟩) (v := ?_) rfl (by kernel_rfl) (by kernel_rfl) (by kernel_rfl) (fun _ _ _ h => h) (Or.inl ⟨by rfl, ?_⟩) (by assumption) ?_
                  rotate_left
                  · intro w hSw
                    try dsimp only at hSw
                    go_simp
                    try with_reducible rfl
                  simp only [Act.put, List.setIfInBounds_toArray, List.set_cons_zero, List.set_cons_succ]
                  refine wpAnyH_take (i := 30) (oi := ⟨_, _, _, _, _, _⟩) (v := ?_) rfl (by kernel_rfl) (by kernel_rfl) (by kernel_rfl) (fun _ _ _ h => h) (Or.inl ⟨by rfl, ?_⟩) (by assumption) ?_
                  rotate_left
                  · intro w hSw
                    try dsimp only at hSw
                    go_simp
                    try with_reducible rfl
                  simp only [Act.put, List.setIfInBounds_toArray, List.set_cons_zero, List.set_cons_succ]
                  refine wpAnyH_ready (rs := [28]) (by kernel_rfl) (by simp) (AllReadyH.cons (o := ⟨_, _, _, _, _, _⟩) rfl (fun K hK => ?_) AllReadyH.nil)
                  go_simp
                  refine (units_any (PN4.out.below hHeld.2.out) HNi.out (Ha4'.out.below hHeld.2.out)).mono ?_
                  rintro r w40 ⟨⟨R1, cr1, rfl, ho1⟩, b40⟩
                  rw [HU.out] at ho1 ⊢
                  have RU1 := hid ho1.rd
                  clear ho1
                  go_simp
                  refine hK.out _ _ ⟨⟨keep_cell hHeld.1.1 b40, keep_cell hHeld.1.2.1 b40, keep_cell hHeld.1.2.2.1 b40, keep_cell hHeld.1.2.2.2.1 b40, keep_cell hHeld.1.2.2.2.2.1 b40, keep_cell hHeld.1.2.2.2.2.2.1 b40, keep_cell hHeld.1.2.2.2.2.2.2.1 b40, keep_cell hHeld.1.2.2.2.2.2.2.2.1 b40, keep_cell hHeld.1.2.2.2.2.2.2.2.2.1 b40, keep_cell hHeld.1.2.2.2.2.2.2.2.2.2.1 b40, keep_cell hHeld.1.2.2.2.2.2.2.2.2.2.2.1 b40, keep_cell hHeld.1.2.2.2.2.2.2.2.2.2.2.2 b40⟩, hid (hHeld.2.out.trans (b40.mono hHeld.2.out.size))⟩ (fun hHeld => ?_)
                  clear hK K
                  try simp only [Act.put, List.setIfInBounds_toArray, List.set_cons_zero, List.set_cons_succ]
                  refine wpAnyH_ready (rs := [31]) (by kernel_rfl) (by simp) (AllReadyH.cons (o := ⟨_, _, _, _, _, _⟩) rfl (fun K hK => ?_) AllReadyH.nil)
                  go_simp
                  refine (runits_any (PN4.out.below hHeld.2.out) HNi.out HNl.out (Ha4'.out.below hHeld.2.out)).mono ?_
                  rintro r w41 ⟨⟨R2, cr2, rfl, ho2⟩, b41⟩
                  rw [HU.out] at ho2 ⊢
                  have RU2 := hid ho2.rd
                  have RU3 := hid (RU1.out.below b41)
                  clear ho2
                  go_simp
                  refine hK.out _ _ ⟨⟨keep_cell hHeld.1.1 b41, keep_cell hHeld.1.2.1 b41, keep_cell hHeld.1.2.2.1 b41, keep_cell hHeld.1.2.2.2.1 b41, keep_cell hHeld.1.2.2.2.2.1 b41, keep_cell hHeld.1.2.2.2.2.2.1 b41, keep_cell hHeld.1.2.2.2.2.2.2.1 b41, keep_cell hHeld.1.2.2.2.2.2.2.2.1 b41, keep_cell hHeld.1.2.2.2.2.2.2.2.2.1 b41, keep_cell hHeld.1.2.2.2.2.2.2.2.2.2.1 b41, keep_cell hHeld.1.2.2.2.2.2.2.2.2.2.2.1 b41, keep_cell hHeld.1.2.2.2.2.2.2.2.2.2.2.2 b41⟩, hid (hHeld.2.out.trans (b41.mono hHeld.2.out.size))⟩ (fun hHeld => ?_)
                  clear hK K
                  try simp only [Act.put, List.setIfInBounds_toArray, List.set_cons_zero, List.set_cons_succ]
                  refine wpAnyH_ready (rs := [32]) (by kernel_rfl) (by simp) (AllReadyH.cons (o := ⟨_, _, _, _, _, _⟩) rfl (fun K hK => ?_) AllReadyH.nil)
                  go_simp
                  refine (lists_any RU3.out RU2.out).mono ?_
                  rintro r w26 ⟨rfl, b26⟩
                  rw [decide_eq_true rfl]
                  go_simp
                  refine hK.out _ _ ⟨⟨keep_cell hHeld.1.1 b26, keep_cell hHeld.1.2.1 b26, keep_cell hHeld.1.2.2.1 b26, keep_cell hHeld.1.2.2.2.1 b26, keep_cell hHeld.1.2.2.2.2.1 b26, keep_cell hHeld.1.2.2.2.2.2.1 b26, keep_cell hHeld.1.2.2.2.2.2.2.1 b26, keep_cell hHeld.1.2.2.2.2.2.2.2.1 b26, keep_cell hHeld.1.2.2.2.2.2.2.2.2.1 b26, keep_cell hHeld.1.2.2.2.2.2.2.2.2.2.1 b26, keep_cell hHeld.1.2.2.2.2.2.2.2.2.2.2.1 b26, keep_cell hHeld.1.2.2.2.2.2.2.2.2.2.2.2 b26⟩, hid (hHeld.2.out.trans (b26.mono hHeld.2.out.size))⟩ (fun hHeld => ?_)
                  clear hK K
                  try simp only [Act.put, List.setIfInBounds_toArray, List.set_cons_zero, List.set_cons_succ]
                  refine wpAnyH_take (i := 33) (oi := ⟨_, _, _, _, _, _⟩) (v := ?_) rfl (by kernel_rfl) (by kernel_rfl) (by kernel_rfl) (fun _ _ _ h => h) (Or.inl ⟨by rfl, ?_⟩) (by assumption) ?_
                  rotate_left
                  · intro w hSw
                    try dsimp only at hSw
                    go_simp
                    try with_reducible rfl
                  simp only [Act.put, List.setIfInBounds_toArray, List.set_cons_zero, List.set_cons_succ]
                  refine wpAnyH_take (i := 34) (oi := ⟨_, _, _, _, _, _⟩) (v := ?_) rfl (by kernel_rfl) (by kernel_rfl) (by kernel_rfl) (fun _ _ _ h => h) (Or.inl ⟨by rfl, ?_⟩) (by assumption) ?_
                  rotate_left
                  · intro w hSw
                    try dsimp only at hSw
                    go_simp
                    try with_reducible rfl
                  simp only [Act.put, List.setIfInBounds_toArray, List.set_cons_zero, List.set_cons_succ]
                  refine wpAnyH_take (i := 35) (oi := ⟨_, _, _, _, _, _⟩) (v := ?_) rfl (by kernel_rfl) (by kernel_rfl) (by kernel_rfl) (fun _ _ _ h => h) (Or.inl ⟨by rfl, ?_⟩) (by assumption) ?_
                  rotate_left
                  · intro w hSw
                    try dsimp only at hSw
                    go_simp
                    try with_reducible rfl
                  simp only [Act.put, List.setIfInBounds_toArray, List.set_cons_zero, List.set_cons_succ]
                  refine wpAnyH_take (i := 36) (oi := ⟨_, _, _, _, _, _⟩) (v := ?_) rfl (by kernel_rfl) (by kernel_rfl) (by kernel_rfl) (fun _ _ _ h => h) (Or.inl ⟨by rfl, ?_⟩) (by assumption) ?_
                  rotate_left
                  · intro w hSw
                    try dsimp only at hSw
                    go_simp
                    try with_reducible rfl
                  simp only [Act.put, List.setIfInBounds_toArray, List.set_cons_zero, List.set_cons_succ]
                  refine wpAnyH_take (i := 37) (oi := ⟨_, _, _, _, _, _⟩) (v := ?_) rfl (by kernel_rfl) (by kernel_rfl) (by kernel_rfl) (fun _ _ _ h => h) (Or.inl ⟨by rfl, ?_⟩) (by assumption) ?_
                  rotate_left
                  · intro w hSw
                    try dsimp only at hSw
                    go_simp
                    try with_reducible rfl
                  simp only [Act.put, List.setIfInBounds_toArray, List.set_cons_zero, List.set_cons_succ]
                  refine wpAnyH_take (i := 39) (oi := ⟨_, _, _, _, _, _⟩) (v := ?_) rfl (by kernel_rfl) (by kernel_rfl) (by kernel_rfl) (fun _ _ _ h => h) (Or.inl ⟨by rfl, ?_⟩) (by assumption) ?_
                  rotate_left
                  · intro w hSw
                    try dsimp only at hSw
                    go_simp
                    try with_reducible rfl
                  simp only [Act.put, List.setIfInBounds_toArray, List.set_cons_zero, List.set_cons_succ]
                  refine wpAnyH_take (i := 40) (oi := ⟨_, _, _, _, _, _⟩) (v := ?_) rfl (by kernel_rfl) (by kernel_rfl) (by kernel_rfl) (fun _ _ _ h => h) (Or.inl ⟨by rfl, ?_⟩) (by assumption) ?_
                  rotate_left
                  · intro w hSw
                    try dsimp only at hSw
                    go_simp
                    try with_reducible rfl
                  simp only [Act.put, List.setIfInBounds_toArray, List.set_cons_zero, List.set_cons_succ]
                  refine wpAnyH_ready (rs := [38]) (by kernel_rfl) (by simp) (AllReadyH.cons (o := ⟨_, _, _, _, _, _⟩) rfl (fun K hK => ?_) AllReadyH.nil)
                  go_simp
                  refine (holds_any (PN4.out.below hHeld.2.out) HNi.out (Ha4'.out.below hHeld.2.out)).mono ?_
                  rintro r w27 ⟨rfl, b27⟩
                  rw [Hqh.out]
                  go_simp
                  refine hK.out _ _ ⟨⟨keep_cell hHeld.1.1 b27, keep_cell hHeld.1.2.1 b27, keep_cell hHeld.1.2.2.1 b27, keep_cell hHeld.1.2.2.2.1 b27, keep_cell hHeld.1.2.2.2.2.1 b27, keep_cell hHeld.1.2.2.2.2.2.1 b27, keep_cell hHeld.1.2.2.2.2.2.2.1 b27, keep_cell hHeld.1.2.2.2.2.2.2.2.1 b27, keep_cell hHeld.1.2.2.2.2.2.2.2.2.1 b27, keep_cell hHeld.1.2.2.2.2.2.2.2.2.2.1 b27, keep_cell hHeld.1.2.2.2.2.2.2.2.2.2.2.1 b27, keep_cell hHeld.1.2.2.2.2.2.2.2.2.2.2.2 b27⟩, hid (hHeld.2.out.trans (b27.mono hHeld.2.out.size))⟩ (fun hHeld => ?_)
                  clear hK K
                  try simp only [Act.put, List.setIfInBounds_toArray, List.set_cons_zero, List.set_cons_succ]
                  refine wpAnyH_ready (rs := [41]) (by kernel_rfl) (by simp) (AllReadyH.cons (o := ⟨_, _, _, _, _, _⟩) rfl (fun K hK => ?_) AllReadyH.nil)
                  go_simp
                  refine (rholds_any (PN4.out.below hHeld.2.out) HNi.out HNl.out (Ha4'.out.below hHeld.2.out)).mono ?_
                  rintro r w28 ⟨rfl, b28⟩
                  rw [Hqh.out]
                  go_simp
                  refine hK.out _ _ ⟨⟨keep_cell hHeld.1.1 b28, keep_cell hHeld.1.2.1 b28, keep_cell hHeld.1.2.2.1 b28, keep_cell hHeld.1.2.2.2.1 b28, keep_cell hHeld.1.2.2.2.2.1 b28, keep_cell hHeld.1.2.2.2.2.2.1 b28, keep_cell hHeld.1.2.2.2.2.2.2.1 b28, keep_cell hHeld.1.2.2.2.2.2.2.2.1 b28, keep_cell hHeld.1.2.2.2.2.2.2.2.2.1 b28, keep_cell hHeld.1.2.2.2.2.2.2.2.2.2.1 b28, keep_cell hHeld.1.2.2.2.2.2.2.2.2.2.2.1 b28, keep_cell hHeld.1.2.2.2.2.2.2.2.2.2.2.2 b28⟩, hid (hHeld.2.out.trans (b28.mono hHeld.2.out.size))⟩ (fun hHeld => ?_)
                  clear hK K
                  try simp only [Act.put, List.setIfInBounds_toArray, List.set_cons_zero, List.set_cons_succ]
                  refine wpAnyH_take (i := 42) (oi := ⟨_, _, _, _, _, _⟩) (v := ?_) rfl (by kernel_rfl) (by kernel_rfl) (by kernel_rfl) (fun _ _ _ h => h) (Or.inl ⟨by rfl, ?_⟩) (by assumption) ?_
                  rotate_left
                  · intro w hSw
                    try dsimp only at hSw
                    go_simp
                    try with_reducible rfl
                  simp only [Act.put, List.setIfInBounds_toArray, List.set_cons_zero, List.set_cons_succ]
                  refine wpAnyH_take (i := 43) (oi := ⟨_, _, _, _, _, _⟩) (v := ?_) rfl (by kernel_rfl) (by kernel_rfl) (by kernel_rfl) (fun _ _ _ h => h) (Or.inl ⟨by rfl, ?_⟩) (by assumption) ?_
                  rotate_left
                  · intro w hSw
                    try dsimp only at hSw
                    go_simp
                    try with_reducible rfl
                  simp only [Act.put, List.setIfInBounds_toArray, List.set_cons_zero, List.set_cons_succ]
                  refine wpAnyH_take (i := 44) (oi := ⟨_, _, _, _, _, _⟩) (v := ?_) rfl (by kernel_rfl) (by kernel_rfl) (by kernel_rfl) (fun _ _ _ h => h) (Or.inl ⟨by rfl, ?_⟩) (by assumption) ?_
                  rotate_left
                  · intro w hSw
                    try dsimp only at hSw
                    go_simp
                    try with_reducible rfl
                  simp only [Act.put, List.setIfInBounds_toArray, List.set_cons_zero, List.set_cons_succ]
                  refine wpAnyH_take (i := 45) (oi := ⟨_, _, _, _, _, _⟩) (v := ?_) rfl (by kernel_rfl) (by kernel_rfl) (by kernel_rfl) (fun _ _ _ h => h) (Or.inl ⟨by rfl, ?_⟩) (by assumption) ?_
                  rotate_left
                  · intro w hSw
                    try dsimp only at hSw
                    go_simp
                    try with_reducible rfl
                  simp only [Act.put, List.setIfInBounds_toArray, List.set_cons_zero, List.set_cons_succ]
                  refine wpAnyH_take (i := 47) (oi := ⟨_, _, _, _, _, _⟩) (v := ?_) rfl (by kernel_rfl) (by kernel_rfl) (by kernel_rfl) (fun _ _ _ h => h) (Or.inl ⟨by rfl, ?_⟩) (by assumption) ?_
                  rotate_left
                  · intro w hSw
                    try dsimp only at hSw
                    go_simp
                    try with_reducible rfl
                  simp only [Act.put, List.setIfInBounds_toArray, List.set_cons_zero, List.set_cons_succ]
                  refine wpAnyH_ready (rs := [46]) (by kernel_rfl) (by simp) (AllReadyH.cons (o := ⟨_, _, _, _, _, _⟩) rfl (fun K hK => ?_) AllReadyH.nil)
                  go_simp
                  refine (string_any (PN4.out.below hHeld.2.out) HNi.out (Ht.out.later (BW4.out.trans (hHeld.2.out.mono BW4.out.size))) HM.out).mono ?_
                  rintro r w29 ⟨rfl, b29⟩
                  rw [Htx.out]
                  go_simp
                  refine hK.out _ _ ⟨⟨keep_cell hHeld.1.1 b29, keep_cell hHeld.1.2.1 b29, keep_cell hHeld.1.2.2.1 b29, keep_cell hHeld.1.2.2.2.1 b29, keep_cell hHeld.1.2.2.2.2.1 b29, keep_cell hHeld.1.2.2.2.2.2.1 b29, keep_cell hHeld.1.2.2.2.2.2.2.1 b29, keep_cell hHeld.1.2.2.2.2.2.2.2.1 b29, keep_cell hHeld.1.2.2.2.2.2.2.2.2.1 b29, keep_cell hHeld.1.2.2.2.2.2.2.2.2.2.1 b29, keep_cell hHeld.1.2.2.2.2.2.2.2.2.2.2.1 b29, keep_cell hHeld.1.2.2.2.2.2.2.2.2.2.2.2 b29⟩, hid (hHeld.2.out.trans (b29.mono hHeld.2.out.size))⟩ (fun hHeld => ?_)
                  clear hK K
                  try simp only [Act.put, List.setIfInBounds_toArray, List.set_cons_zero, List.set_cons_succ]
                  refine wpAnyH_ready (rs := [48]) (by kernel_rfl) (by simp) (AllReadyH.cons (o := ⟨_, _, _, _, _, _⟩) rfl (fun K hK => ?_) AllReadyH.nil)
                  go_simp
                  refine (rstring_any (PN4.out.below hHeld.2.out) HNi.out HNl.out (Ht.out.later (BW4.out.trans (hHeld.2.out.mono BW4.out.size))) HM.out).mono ?_
                  rintro r w30 ⟨rfl, b30⟩
                  rw [Htx.out]
                  go_simp
                  refine hK.out _ _ ⟨⟨keep_cell hHeld.1.1 b30, keep_cell hHeld.1.2.1 b30, keep_cell hHeld.1.2.2.1 b30, keep_cell hHeld.1.2.2.2.1 b30, keep_cell hHeld.1.2.2.2.2.1 b30, keep_cell hHeld.1.2.2.2.2.2.1 b30, keep_cell hHeld.1.2.2.2.2.2.2.1 b30, keep_cell hHeld.1.2.2.2.2.2.2.2.1 b30, keep_cell hHeld.1.2.2.2.2.2.2.2.2.1 b30, keep_cell hHeld.1.2.2.2.2.2.2.2.2.2.1 b30, keep_cell hHeld.1.2.2.2.2.2.2.2.2.2.2.1 b30, keep_cell hHeld.1.2.2.2.2.2.2.2.2.2.2.2 b30⟩, hid (hHeld.2.out.trans (b30.mono hHeld.2.out.size))⟩ (fun hHeld => ?_)
                  clear hK K
                  try simp only [Act.put, List.setIfInBounds_toArray, List.set_cons_zero, List.set_cons_succ]
                  refine wpAnyH_take (i := 49) (oi := ⟨_, _, _, _, _, _⟩) (v := ?_) rfl (by kernel_rfl) (by kernel_rfl) (by kernel_rfl) (fun _ _ _ h => h) (Or.inl ⟨by rfl, ?_⟩) (by assumption) ?_
                  rotate_left
                  · intro w hSw
                    try dsimp only at hSw
                    go_simp
                    try with_reducible rfl
                  simp only [Act.put, List.setIfInBounds_toArray, List.set_cons_zero, List.set_cons_succ]
                  refine wpAnyH_take (i := 50) (oi := ⟨_, _, _, _, _, _⟩) (v := ?_) rfl (by kernel_rfl) (by kernel_rfl) (by kernel_rfl) (fun _ _ _ h => h) (Or.inl ⟨by rfl, ?_⟩) (by assumption) ?_
                  rotate_left
                  · intro w hSw
                    try dsimp only at hSw
                    go_simp
                    try with_reducible rfl
                  simp only [Act.put, List.setIfInBounds_toArray, List.set_cons_zero, List.set_cons_succ]
                  refine wpAnyH_take (i := 51) (oi := ⟨_, _, _, _, _, _⟩) (v := ?_) rfl (by kernel_rfl) (by kernel_rfl) (by kernel_rfl) (fun _ _ _ h => h) (Or.inl ⟨by rfl, ?_⟩) (by assumption) ?_
                  rotate_left
                  · intro w hSw
                    try dsimp only at hSw
                    go_simp
                    try with_reducible rfl
                  simp only [Act.put, List.setIfInBounds_toArray, List.set_cons_zero, List.set_cons_succ]
                  refine wpAnyH_take (i := 52) (oi := ⟨_, _, _, _, _, _⟩) (v := ?_) rfl (by kernel_rfl) (by kernel_rfl) (by kernel_rfl) (fun _ _ _ h => h) (Or.inl ⟨by rfl, ?_⟩) (by assumption) ?_
                  rotate_left
                  · intro w hSw
                    try dsimp only at hSw
                    go_simp
                    try with_reducible rfl
                  simp only [Act.put, List.setIfInBounds_toArray, List.set_cons_zero, List.set_cons_succ]
                  refine wpAnyH_take (i := 53) (oi := ⟨_, _, _, _, _, _⟩) (v := ?_) rfl (by kernel_rfl) (by kernel_rfl) (by kernel_rfl) (fun _ _ _ h => h) (Or.inl ⟨by rfl, ?_⟩) (by assumption) ?_
                  rotate_left
                  · intro w hSw
                    try dsimp only at hSw
                    go_simp
                    try with_reducible rfl
                  simp only [Act.put, List.setIfInBounds_toArray, List.set_cons_zero, List.set_cons_succ]
                  refine wpAnyH_take (i := 55) (oi := ⟨_, _, _, _, _, _⟩) (v := ?_) rfl (by kernel_rfl) (by kernel_rfl) (by kernel_rfl) (fun _ _ _ h => h) (Or.inl ⟨by rfl, ?_⟩) (by assumption) ?_
                  rotate_left
                  · intro w hSw
                    try dsimp only at hSw
                    go_simp
                    try with_reducible rfl
                  simp only [Act.put, List.setIfInBounds_toArray, List.set_cons_zero, List.set_cons_succ]
                  refine wpAnyH_take (i := 56) (oi := ⟨_, _, _, _, _, _⟩) (v := ?_) rfl (by kernel_rfl) (by kernel_rfl) (by kernel_rfl) (fun _ _ _ h => h) (Or.inl ⟨by rfl, ?_⟩) (by assumption) ?_
                  rotate_left
                  · intro w hSw
                    try dsimp only at hSw
                    go_simp
                    try with_reducible rfl
                  simp only [Act.put, List.setIfInBounds_toArray, List.set_cons_zero, List.set_cons_succ]
                  refine wpAnyH_ready (rs := [54]) (by kernel_rfl) (by simp) (AllReadyH.cons (o := ⟨_, _, _, _, _, _⟩) rfl (fun K hK => ?_) AllReadyH.nil)
                  go_simp
                  refine (equal_any (PN4.out.below hHeld.2.out) (Hd4'.out.below hHeld.2.out)).mono ?_
                  rintro r w31 ⟨rfl, b31⟩
                  rw [Hqe.out]
                  go_simp
                  refine hK.out _ _ ⟨⟨keep_cell hHeld.1.1 b31, keep_cell hHeld.1.2.1 b31, keep_cell hHeld.1.2.2.1 b31, keep_cell hHeld.1.2.2.2.1 b31, keep_cell hHeld.1.2.2.2.2.1 b31, keep_cell hHeld.1.2.2.2.2.2.1 b31, keep_cell hHeld.1.2.2.2.2.2.2.1 b31, keep_cell hHeld.1.2.2.2.2.2.2.2.1 b31, keep_cell hHeld.1.2.2.2.2.2.2.2.2.1 b31, keep_cell hHeld.1.2.2.2.2.2.2.2.2.2.1 b31, keep_cell hHeld.1.2.2.2.2.2.2.2.2.2.2.1 b31, keep_cell hHeld.1.2.2.2.2.2.2.2.2.2.2.2 b31⟩, hid (hHeld.2.out.trans (b31.mono hHeld.2.out.size))⟩ (fun hHeld => ?_)
                  clear hK K
                  try simp only [Act.put, List.setIfInBounds_toArray, List.set_cons_zero, List.set_cons_succ]
                  refine wpAnyH_ready (rs := [57]) (by kernel_rfl) (by simp) (AllReadyH.cons (o := ⟨_, _, _, _, _, _⟩) rfl (fun K hK => ?_) AllReadyH.nil)
                  go_simp
                  refine (requal_any (PN4.out.below hHeld.2.out) (Hd4'.out.below hHeld.2.out)).mono ?_
                  rintro r w32 ⟨rfl, b32⟩
                  rw [Hqe.out]
                  go_simp
                  refine hK.out _ _ ⟨⟨keep_cell hHeld.1.1 b32, keep_cell hHeld.1.2.1 b32, keep_cell hHeld.1.2.2.1 b32, keep_cell hHeld.1.2.2.2.1 b32, keep_cell hHeld.1.2.2.2.2.1 b32, keep_cell hHeld.1.2.2.2.2.2.1 b32, keep_cell hHeld.1.2.2.2.2.2.2.1 b32, keep_cell hHeld.1.2.2.2.2.2.2.2.1 b32, keep_cell hHeld.1.2.2.2.2.2.2.2.2.1 b32, keep_cell hHeld.1.2.2.2.2.2.2.2.2.2.1 b32, keep_cell hHeld.1.2.2.2.2.2.2.2.2.2.2.1 b32, keep_cell hHeld.1.2.2.2.2.2.2.2.2.2.2.2 b32⟩, hid (hHeld.2.out.trans (b32.mono hHeld.2.out.size))⟩ (fun hHeld => ?_)
                  clear hK K
                  try simp only [Act.put, List.setIfInBounds_toArray, List.set_cons_zero, List.set_cons_succ]
                  refine wpAnyH_take (i := 58) (oi := ⟨_, _, _, _, _, _⟩) (v := ?_) rfl (by kernel_rfl) (by kernel_rfl) (by kernel_rfl) (fun _ _ _ h => h) (Or.inl ⟨by rfl, ?_⟩) (by assumption) ?_
                  rotate_left
                  · intro w hSw
                    try dsimp only at hSw
                    go_simp
                    try with_reducible rfl
                  simp only [Act.put, List.setIfInBounds_toArray, List.set_cons_zero, List.set_cons_succ]
                  refine wpAnyH_take (i := 59) (oi := ⟨_, _, _, _, _, _⟩) (v := ?_) rfl (by kernel_rfl) (by kernel_rfl) (by kernel_rfl) (fun _ _ _ h => h) (Or.inl ⟨by rfl, ?_⟩) (by assumption) ?_
                  rotate_left
                  · intro w hSw
                    try dsimp only at hSw
                    go_simp
                    try with_reducible rfl
                  simp only [Act.put, List.setIfInBounds_toArray, List.set_cons_zero, List.set_cons_succ]
                  refine wpAnyH_done (by kernel_rfl) ?_ _
                  -- END GREAT
                  have HB9 := hid (B14.out.trans (hHeld.2.out.mono B14.out.size))
                  clear hHeld
                  go_wp2_with fail
                  go_roundw
                  case rel => exact ⟨j + 1, by omega, by go_num, HB9⟩
                  case measure => simp [intOf]; omega
                · go_wp2_with fail
                  refine awake_any.mono ?_
                  rintro r w15 ⟨rfl, b15⟩
                  have B15 := hid (B11.out.trans ((HBj.out.trans (b15.mono HBj.out.size)).mono B11.out.size))
                  clear b15
                  go_wp2_with fail
                  go_ret
                  exact ⟨rfl, B15.out⟩
            · have t_m2 := h_m2
              have qa_m2 : ((40 : Int) < (m2 : Int)) = True := by simp; omega
              have qb_m2 : (40 < m2) = True := by simp; omega
              have qc_m2 : decide (40 < m2) = true := by simp; omega
              clear t_m2
              go_enter Tryd.func8, Tryd.ntmps8
              go_wp2_with fail
              rw [HX.out, HY.out]
              refine awake_any.mono ?_
              rintro r w9 ⟨rfl, b9⟩
              have B9 := hid (HB.out.trans (b9.mono HB.out.size))
              clear b9
              go_wp2_with fail
              go_ret
              exact ⟨rfl, B9.out⟩
          · have t_n2 := h_n2
            have qa_n2 : ((40 : Int) < (n2 : Int)) = True := by simp; omega
            have qb_n2 : (40 < n2) = True := by simp; omega
            have qc_n2 : decide (40 < n2) = true := by simp; omega
            clear t_n2
            go_enter Tryd.func8, Tryd.ntmps8
            go_wp2_with fail
            rw [HX.out, HY.out]
            refine awake_any.mono ?_
            rintro r w9 ⟨rfl, b9⟩
            have B9 := hid (HB.out.trans (b9.mono HB.out.size))
            clear b9
            go_wp2_with fail
            go_ret
            exact ⟨rfl, B9.out⟩
        · have t_m1 := h_m1
          have qa_m1 : ((40 : Int) < (m1 : Int)) = True := by simp; omega
          have qb_m1 : (40 < m1) = True := by simp; omega
          have qc_m1 : decide (40 < m1) = true := by simp; omega
          clear t_m1
          go_enter Tryd.func8, Tryd.ntmps8
          go_wp2_with fail
          rw [HX.out, HY.out]
          refine awake_any.mono ?_
          rintro r w9 ⟨rfl, b9⟩
          have B9 := hid (HB.out.trans (b9.mono HB.out.size))
          clear b9
          go_wp2_with fail
          go_ret
          exact ⟨rfl, B9.out⟩
      · have t_n1 := h_n1
        have qa_n1 : ((40 : Int) < (n1 : Int)) = True := by simp; omega
        have qb_n1 : (40 < n1) = True := by simp; omega
        have qc_n1 : decide (40 < n1) = true := by simp; omega
        clear t_n1
        go_enter Tryd.func8, Tryd.ntmps8
        go_wp2_with fail
        rw [HX.out, HY.out]
        refine awake_any.mono ?_
        rintro r w9 ⟨rfl, b9⟩
        have B9 := hid (HB.out.trans (b9.mono HB.out.size))
        clear b9
        go_wp2_with fail
        go_ret
        exact ⟨rfl, B9.out⟩
    · have t_m := h_m
      have qa_m : ((40 : Int) < (m : Int)) = True := by simp; omega
      have qb_m : (40 < m) = True := by simp; omega
      have qc_m : decide (40 < m) = true := by simp; omega
      clear t_m
      go_enter Tryd.func8, Tryd.ntmps8
      go_wp2_with fail
      rw [HX.out, HY.out]
      refine awake_any.mono ?_
      rintro r w9 ⟨rfl, b9⟩
      have B9 := hid (HB.out.trans (b9.mono HB.out.size))
      clear b9
      go_wp2_with fail
      go_ret
      exact ⟨rfl, B9.out⟩
  · have t_n := h_n
    have qa_n : ((40 : Int) < (n : Int)) = True := by simp; omega
    have qb_n : (40 < n) = True := by simp; omega
    have qc_n : decide (40 < n) = true := by simp; omega
    clear t_n
    go_enter Tryd.func8, Tryd.ntmps8
    go_wp2_with fail
    rw [HX.out, HY.out]
    refine awake_any.mono ?_
    rintro r w9 ⟨rfl, b9⟩
    have B9 := hid (HB.out.trans (b9.mono HB.out.size))
    clear b9
    go_wp2_with fail
    go_ret
    exact ⟨rfl, B9.out⟩
theorem tells_walk2 {w : World} {F G Fc Fd H : Nat → Prop} {u v x : Value} {n m na : Nat} {ls ks : List Int} {b : Int} {vc vd : Value} {c d : Pb} {av : List Int}
    (hu : Rd w F 1 u n (ints ls)) (hv : Rd w G 1 v m (ints ks)) (hi : ∀ x ∈ ls, I64 x) (hik : ∀ x ∈ ks, I64 x) (hb : I64 b) (hc : PbRd w Fc vc c) (hci : ∀ k ∈ c.coefs, I64 k) (hd : PbRd w Fd vd d) (ha : Rd w H 1 x na (i8s av))
    (htab : Lib.TabIs Tryd.prog w "internal/strconv.uint64pow10" .u64 Lib.pow10Tab) :
    Calls Tryd.prog 8 #[u, v, .int .i64 b, vc, vd, x] w fun r w' => r = .returned (.bool true) ∧ Below w.heap.size w w' := by
  obtain ⟨_, A, cA, rfl, _⟩ := id hu
  obtain ⟨_, B, cB, rfl, _⟩ := id hv
  obtain ⟨_, Aa, ca, rfl, _⟩ := id ha
  exact tells_walk hu hv hi hik hb hc hci hd ha htab
end Go.Proofs.YtbibjlaepmfoeaaDoor
