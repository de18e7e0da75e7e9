/-
  Chapter 25: the walk of CutTells (written by gen_laws.py).
-/
import Derived.Test.YtooioikkgdgnnaaDoorCvM
import Derived.Test.YtooioikkgdgnnaaDoorPbOpen2
import Derived.Test.YtooioikkgdgnnaaDoorRfK
namespace Go.Proofs.YtooioikkgdgnnaaDoor
open Go.RowKit

/-- A box of three cells. -/
structure Bx3 (W : World) (Z : Nat) (x y z : Value) : Prop where
  c0 : W.cell? ⟨Z, 0, none⟩ = some x
  c1 : W.cell? ⟨Z, 1, none⟩ = some y
  c2 : W.cell? ⟨Z, 2, none⟩ = some z
  f0 : W.frozen? ⟨Z, 0, none⟩ = false
  f1 : W.frozen? ⟨Z, 1, none⟩ = false
  f2 : W.frozen? ⟨Z, 2, none⟩ = false
theorem Bx3.of {W : World} {Z : Nat} {x y z : Value} (k : W.heap[Z]? = some (.cells #[x, y, z] 24)) : Bx3 W Z x y z := ⟨(box3 k).1, (box3 k).2.1, (box3 k).2.2, (froz3 k).1, (froz3 k).2.1, (froz3 k).2.2⟩
section
variable {W W' : World} {Z : Nat} {x y z : Value}
theorem Bx3.lt (h : Bx3 W Z x y z) : Z < W.heap.size := World.block_lt_of_cell? W _ h.c0
theorem Bx3.same (h : Bx3 W Z x y z) (e : W'.heap[Z]? = W.heap[Z]?) : Bx3 W' Z x y z :=
  ⟨(World.cell?_of_block e).trans h.c0, (World.cell?_of_block e).trans h.c1, (World.cell?_of_block e).trans h.c2, (World.frozen?_of_block e).trans h.f0, (World.frozen?_of_block e).trans h.f1, (World.frozen?_of_block e).trans h.f2⟩
theorem Bx3.below (h : Bx3 W Z x y z) (b : Below W.heap.size W W') : Bx3 W' Z x y z := h.same (b.block _ h.lt)
theorem Bx3.mod {G : Nat → Prop} (h : Bx3 W Z x y z) (m : Mod G W W') (hG : ¬ G Z) : Bx3 W' Z x y z := h.same (m.block _ h.lt hG)
theorem Bx3.set (h : Bx3 W Z x y z) (x' y' z' : Value) : Bx3 (((W.setCell ⟨Z, 0, none⟩ x').setCell ⟨Z, 1, none⟩ y').setCell ⟨Z, 2, none⟩ z') Z x' y' z' ∧ Mod (fun g => g = Z) W (((W.setCell ⟨Z, 0, none⟩ x').setCell ⟨Z, 1, none⟩ y').setCell ⟨Z, 2, none⟩ z') := by
  obtain ⟨u0, u1, u2, m⟩ := set3 h.c0 h.c1 h.c2 x' y' z'
  exact ⟨⟨u0, u1, u2, by simp [h.f0], by simp [h.f1], by simp [h.f2]⟩, m⟩
end
set_option maxRecDepth 100000 in
theorem same25_any {w : World} {F G : Nat → Prop} {va vb : Value} {c : Pb} {e : Int} (hc : PbRd w F va c) (hd : PbRd w G vb c) :
    Calls Tryd.prog 14 #[va, .int .i64 e, vb, .int .i64 e] w fun r w' => r = .returned (.bool true) ∧ Below w.heap.size w w' := by
  have Hc := hid hc
  have Hd := hid hd
  have hs : c.same c = true := by simp [Pb.same]
  have Hs := hid hs
  obtain ⟨⟨A, n, x, B, m, y, rfl, _, _⟩, _⟩ := hc
  obtain ⟨⟨A2, n2, x2, B2, m2, y2, rfl, _, _⟩, _⟩ := hd
  obtain ⟨X0, hX0, bX0, k0, s0⟩ := alloc_step w (.cells #[.slice A n x, .slice B m y, .int .i64 c.bound] 24)
  obtain ⟨X1, hX1, bX1, k1, s1⟩ := alloc_step X0 (.cells #[.slice A2 n2 x2, .slice B2 m2 y2, .int .i64 c.bound] 24)
  have HX := hid hX0
  have HX1 := hid hX1
  have B1 := hid (bX0.trans (bX1.mono bX0.size))
  clear hX0 hX1 bX0 bX1 k0 k1 s0 s1 hs
  go_enter Tryd.func14, Tryd.ntmps14
  go_wp2_with fail
  rw [HX.out, HX1.out]
  refine (requal_any (Hc.out.below B1.out) (Hd.out.below B1.out)).mono ?_
  rintro r w' ⟨rfl, b⟩
  rw [Hs.out]
  have B3 := hid (B1.out.trans (b.mono B1.out.size))
  clear b
  go_wp2_with fail
  go_ret
  exact ⟨rfl, B3.out⟩
set_option maxRecDepth 100000 in
set_option maxHeartbeats 8000000 in
theorem tells_walk {w : World} {F G : Nat → Prop} {va vb : Value} {a d : Pb} {k : Int} (ha : PbRd w F va a) (hb : PbRd w G vb d) (hia : ∀ k ∈ a.coefs, I64 k) (hib : ∀ k ∈ d.coefs, I64 k) :
    Calls Tryd.prog 3 #[va, vb, .int .i64 k] w fun r w' => r = .returned (.bool true) ∧ Below w.heap.size w w' := by
  have Ha := hid ha
  have Hb := hid hb
  obtain ⟨⟨Apa, xpa, ypa, Dpa, zpa, tpa, rfl, hx, hk⟩, _⟩ := ha
  obtain ⟨⟨Apb, xpb, ypb, Dpb, zpb, tpb, rfl, hy, hj⟩, _⟩ := hb
  have n1 : a.lits.length = xpa := by have := hx.1; simpa [ints_length] using this
  have n2 : a.coefs.length = zpa := by have := hk.1; simpa [ints_length] using this
  have n3 : d.lits.length = xpb := by have := hy.1; simpa [ints_length] using this
  have n4 : d.coefs.length = zpb := by have := hj.1; simpa [ints_length] using this
  have N1 := hid n1
  have N3 := hid n3
  obtain ⟨S0, hS0⟩ : ∃ s, w.heap.size = s := ⟨_, rfl⟩
  have pa := hid (Ha.out.mono (G := fun g => g < S0) fun g hg _ => by omega)
  have pb := hid (Hb.out.mono (G := fun g => g < S0) fun g hg _ => by omega)
  obtain ⟨X0, hX0, bX0, k0, s0⟩ := alloc_step w (.cells #[.slice Apa xpa ypa, .slice Dpa zpa tpa, .int .i64 a.bound] 24)
  obtain ⟨X1, hX1, bX1, k1, s1⟩ := alloc_step X0 (.cells #[.slice Apb xpb ypb, .slice Dpb zpb tpb, .int .i64 d.bound] 24)
  have HX := hid hX0
  have HX1 := hid hX1
  have B := hid (bX0.trans (bX1.mono bX0.size))
  rw [hS0] at k0 s0
  rw [s0] at k1
  have ka := hid (Bx3.of (keep_blk k0 bX1))
  have kb := hid (Bx3.of k1)
  have pa := hid (pa.out.below B.out)
  have pb := hid (pb.out.below B.out)
  clear hX0 hX1 bX0 bX1 k0 k1 s0 s1 hx hk hy hj n1 n2 n3 n4 Ha Hb
  obtain ⟨Zka, hZa⟩ : ∃ z, S0 = z := ⟨_, rfl⟩
  obtain ⟨Zkb, hZb⟩ : ∃ z, S0 + 1 = z := ⟨_, rfl⟩
  have za : S0 ≤ Zka ∧ Zka < Zkb := by omega
  rw [hZb] at kb
  rw [hZa] at ka
  have HZa := hid hZa
  have HZb := hid hZb
  clear hZa hZb
  obtain ⟨R1, hR1⟩ : ∃ R, a.addB d = R := ⟨_, rfl⟩
  have HR1 := hid hR1
  clear hR1
  obtain ⟨R2, hR2⟩ : ∃ R, a.mulB k = R := ⟨_, rfl⟩
  have HR2 := hid hR2
  clear hR2
  obtain ⟨R3, hR3⟩ : ∃ R, a.divB k = R := ⟨_, rfl⟩
  have HR3 := hid hR3
  clear hR3
  obtain ⟨R4, hR4⟩ : ∃ R, a.weakB k = R := ⟨_, rfl⟩
  have HR4 := hid hR4
  clear hR4
  by_cases e1 : 40 < xpa
  · have g1 : (xpa : Int) > 40 := by omega
    go_enter Tryd.func3, Tryd.ntmps3
    go_upto_region 1 with fail
    rw [HX.out, HX1.out, HZb.out, HZa.out]
    have ka0 := ka.out.c0
    have ka1 := ka.out.c1
    have ka2 := ka.out.c2
    have kb0 := kb.out.c0
    have kb1 := kb.out.c1
    have kb2 := kb.out.c2
    go_wp2_with fail
    clear ka0 ka1 ka2 kb0 kb1 kb2
    refine (awake25_any).mono ?_
    rintro r W1 ⟨rfl, b⟩
    have pa := hid (pa.out.below b)
    have pb := hid (pb.out.below b)
    have ka := hid (ka.out.below b)
    have kb := hid (kb.out.below b)
    have B := hid (B.out.trans (b.mono B.out.size))
    clear b
    go_wp2_with fail
    go_ret
    exact ⟨rfl, B.out⟩
  · have g1 : ¬ ((xpa : Int) > 40) := by omega
    by_cases e2 : 40 < zpa
    · have g2 : (zpa : Int) > 40 := by omega
      go_enter Tryd.func3, Tryd.ntmps3
      go_upto_region 1 with fail
      rw [HX.out, HX1.out, HZb.out, HZa.out]
      have ka0 := ka.out.c0
      have ka1 := ka.out.c1
      have ka2 := ka.out.c2
      have kb0 := kb.out.c0
      have kb1 := kb.out.c1
      have kb2 := kb.out.c2
      go_wp2_with fail
      clear ka0 ka1 ka2 kb0 kb1 kb2
      refine (awake25_any).mono ?_
      rintro r W1 ⟨rfl, b⟩
      have pa := hid (pa.out.below b)
      have pb := hid (pb.out.below b)
      have ka := hid (ka.out.below b)
      have kb := hid (kb.out.below b)
      have B := hid (B.out.trans (b.mono B.out.size))
      clear b
      go_wp2_with fail
      go_ret
      exact ⟨rfl, B.out⟩
    · have g2 : ¬ ((zpa : Int) > 40) := by omega
      by_cases e3 : 40 < xpb
      · have g3 : (xpb : Int) > 40 := by omega
        go_enter Tryd.func3, Tryd.ntmps3
        go_upto_region 1 with fail
        rw [HX.out, HX1.out, HZb.out, HZa.out]
        have ka0 := ka.out.c0
        have ka1 := ka.out.c1
        have ka2 := ka.out.c2
        have kb0 := kb.out.c0
        have kb1 := kb.out.c1
        have kb2 := kb.out.c2
        go_wp2_with fail
        clear ka0 ka1 ka2 kb0 kb1 kb2
        refine (awake25_any).mono ?_
        rintro r W1 ⟨rfl, b⟩
        have pa := hid (pa.out.below b)
        have pb := hid (pb.out.below b)
        have ka := hid (ka.out.below b)
        have kb := hid (kb.out.below b)
        have B := hid (B.out.trans (b.mono B.out.size))
        clear b
        go_wp2_with fail
        go_ret
        exact ⟨rfl, B.out⟩
      · have g3 : ¬ ((xpb : Int) > 40) := by omega
        by_cases e4 : 40 < zpb
        · have g4 : (zpb : Int) > 40 := by omega
          go_enter Tryd.func3, Tryd.ntmps3
          go_upto_region 1 with fail
          rw [HX.out, HX1.out, HZb.out, HZa.out]
          have ka0 := ka.out.c0
          have ka1 := ka.out.c1
          have ka2 := ka.out.c2
          have kb0 := kb.out.c0
          have kb1 := kb.out.c1
          have kb2 := kb.out.c2
          go_wp2_with fail
          clear ka0 ka1 ka2 kb0 kb1 kb2
          refine (awake25_any).mono ?_
          rintro r W1 ⟨rfl, b⟩
          have pa := hid (pa.out.below b)
          have pb := hid (pb.out.below b)
          have ka := hid (ka.out.below b)
          have kb := hid (kb.out.below b)
          have B := hid (B.out.trans (b.mono B.out.size))
          clear b
          go_wp2_with fail
          go_ret
          exact ⟨rfl, B.out⟩
        · have g4 : ¬ ((zpb : Int) > 40) := by omega
          go_enter Tryd.func3, Tryd.ntmps3
          go_upto_region 1 with fail
          rw [HX.out, HX1.out, HZb.out, HZa.out]
          have ka0 := ka.out.c0
          have ka1 := ka.out.c1
          have ka2 := ka.out.c2
          have kb0 := kb.out.c0
          have kb1 := kb.out.c1
          have kb2 := kb.out.c2
          go_wp2_with fail
          clear ka0 ka1 ka2 kb0 kb1 kb2
          refine (add_any pa.out pb.out hia hib).mono ?_
          rintro r W1 ⟨⟨pv, rfl, hp⟩, b⟩
          rw [HR1.out] at hp ⊢
          have hp2 := hid hp
          obtain ⟨⟨Ap1, xp1, yp1, Dp1, zp1, tp1, rfl, _, _⟩, _⟩ := hp
          have pa := hid (pa.out.below b)
          have pb := hid (pb.out.below b)
          have ka := hid (ka.out.below b)
          have kb := hid (kb.out.below b)
          have B := hid (B.out.trans (b.mono B.out.size))
          have p1 := hp2
          clear b hp2
          go_upto_region 4 with fail
          obtain ⟨W2, hW, b, kq, sx⟩ := alloc_step W1 (.cells #[.slice Ap1 xp1 yp1, .slice Dp1 zp1 tp1, .int .i64 R1.1.bound] 24)
          rw [hW]
          clear hW sx
          obtain ⟨Zkx, hZ⟩ : ∃ z, W1.heap.size = z := ⟨_, rfl⟩
          have ka_kx : Zka < Zkx := by have := ka.out.lt; omega
          have kb_kx : Zkb < Zkx := by have := kb.out.lt; omega
          rw [hZ] at kq
          try rw [hZ]
          clear hZ
          have pa := hid (pa.out.below b)
          have pb := hid (pb.out.below b)
          have ka := hid (ka.out.below b)
          have kb := hid (kb.out.below b)
          have p1 := hid (p1.out.below b)
          have B := hid (B.out.trans (b.mono B.out.size))
          have kx := hid (Bx3.of kq)
          clear b kq
          have ka0 := ka.out.c0
          have ka1 := ka.out.c1
          have ka2 := ka.out.c2
          have kb0 := kb.out.c0
          have kb1 := kb.out.c1
          have kb2 := kb.out.c2
          go_wp2_with fail
          clear ka0 ka1 ka2 kb0 kb1 kb2
          refine (radd_any pa.out pb.out hia hib (by rw [N1.out]; omega) (by rw [N3.out]; omega)).mono ?_
          rintro r W3 ⟨⟨pv, rfl, hp⟩, b⟩
          rw [HR1.out] at hp ⊢
          have hp2 := hid hp
          obtain ⟨⟨Ap2, xp2, yp2, Dp2, zp2, tp2, rfl, _, _⟩, _⟩ := hp
          have pa := hid (pa.out.below b)
          have pb := hid (pb.out.below b)
          have ka := hid (ka.out.below b)
          have kb := hid (kb.out.below b)
          have p1 := hid (p1.out.below b)
          have kx := hid (kx.out.below b)
          have B := hid (B.out.trans (b.mono B.out.size))
          have p2 := hp2
          clear b hp2
          go_upto_region 5 with fail
          obtain ⟨W4, hW, b, kq, sx⟩ := alloc_step W3 (.cells #[.slice Ap2 xp2 yp2, .slice Dp2 zp2 tp2, .int .i64 R1.1.bound] 24)
          rw [hW]
          clear hW sx
          obtain ⟨Zky, hZ⟩ : ∃ z, W3.heap.size = z := ⟨_, rfl⟩
          have ka_ky : Zka < Zky := by have := ka.out.lt; omega
          have kb_ky : Zkb < Zky := by have := kb.out.lt; omega
          have kx_ky : Zkx < Zky := by have := kx.out.lt; omega
          rw [hZ] at kq
          try rw [hZ]
          clear hZ
          have pa := hid (pa.out.below b)
          have pb := hid (pb.out.below b)
          have ka := hid (ka.out.below b)
          have kb := hid (kb.out.below b)
          have p1 := hid (p1.out.below b)
          have kx := hid (kx.out.below b)
          have p2 := hid (p2.out.below b)
          have B := hid (B.out.trans (b.mono B.out.size))
          have ky := hid (Bx3.of kq)
          clear b kq
          have kx0 := kx.out.c0
          have kx1 := kx.out.c1
          have kx2 := kx.out.c2
          have ky0 := ky.out.c0
          have ky1 := ky.out.c1
          have ky2 := ky.out.c2
          go_wp2_with fail
          clear kx0 kx1 kx2 ky0 ky1 ky2
          refine (same25_any p1.out p2.out).mono ?_
          rintro r W5 ⟨rfl, b⟩
          have pa := hid (pa.out.below b)
          have pb := hid (pb.out.below b)
          have ka := hid (ka.out.below b)
          have kb := hid (kb.out.below b)
          have p1 := hid (p1.out.below b)
          have kx := hid (kx.out.below b)
          have p2 := hid (p2.out.below b)
          have ky := hid (ky.out.below b)
          have B := hid (B.out.trans (b.mono B.out.size))
          clear b
          clear p1 p2 pb kb
          have zx := kx.out.lt
          have zw := ky.out.lt
          have ka0 := ka.out.c0
          have ka1 := ka.out.c1
          have ka2 := ka.out.c2
          go_wp2_with fail
          clear ka0 ka1 ka2
          refine (mul_any pa.out hia).mono ?_
          rintro r W6 ⟨⟨pv, rfl, hp⟩, b⟩
          rw [HR2.out] at hp ⊢
          have hp2 := hid hp
          obtain ⟨⟨Ap1, xp1, yp1, Dp1, zp1, tp1, rfl, _, _⟩, _⟩ := hp
          have pa := hid (pa.out.below b)
          have ka := hid (ka.out.below b)
          have kx := hid (kx.out.below b)
          have ky := hid (ky.out.below b)
          have B := hid (B.out.trans (b.mono B.out.size))
          have p1 := hp2
          clear b hp2
          have kx0 := kx.out.c0
          have kx1 := kx.out.c1
          have kx2 := kx.out.c2
          have kxf0 := kx.out.f0
          have kxf1 := kx.out.f1
          have kxf2 := kx.out.f2
          go_upto_region 8 with fail
          clear kx0 kx1 kx2 kxf0 kxf1 kxf2
          obtain ⟨hset, hm⟩ := kx.out.set (.slice Ap1 xp1 yp1) (.slice Dp1 zp1 tp1) (.int .i64 R2.1.bound)
          obtain ⟨W7, hW⟩ : ∃ X, (((W6.setCell ⟨Zkx, 0, none⟩ (.slice Ap1 xp1 yp1)).setCell ⟨Zkx, 1, none⟩ (.slice Dp1 zp1 tp1)).setCell ⟨Zkx, 2, none⟩ (.int .i64 R2.1.bound)) = X := ⟨_, rfl⟩
          rw [hW] at hset hm ⊢
          clear hW
          have ka := hid (ka.out.mod hm (by omega))
          have ky := hid (ky.out.mod hm (by omega))
          have pa := hid (pa.out.mod hm fun g _ hg e => by omega)
          have p1 := hid (p1.out.mod hm fun g _ hg e => by omega)
          have B := hid (below_mod B.out B.out.size hm fun g hg => by omega)
          have kx := hid hset
          clear hset hm
          have zy := ky.out.lt
          have ka0 := ka.out.c0
          have ka1 := ka.out.c1
          have ka2 := ka.out.c2
          go_wp2_with fail
          clear ka0 ka1 ka2
          refine (rmul_any pa.out hia (by rw [N1.out]; omega)).mono ?_
          rintro r W8 ⟨⟨pv, rfl, hp⟩, b⟩
          rw [HR2.out] at hp ⊢
          have hp2 := hid hp
          obtain ⟨⟨Ap2, xp2, yp2, Dp2, zp2, tp2, rfl, _, _⟩, _⟩ := hp
          have pa := hid (pa.out.below b)
          have ka := hid (ka.out.below b)
          have kx := hid (kx.out.below b)
          have ky := hid (ky.out.below b)
          have p1 := hid (p1.out.below b)
          have B := hid (B.out.trans (b.mono B.out.size))
          have p2 := hp2
          clear b hp2
          have ky0 := ky.out.c0
          have ky1 := ky.out.c1
          have ky2 := ky.out.c2
          have kyf0 := ky.out.f0
          have kyf1 := ky.out.f1
          have kyf2 := ky.out.f2
          go_upto_region 9 with fail
          clear ky0 ky1 ky2 kyf0 kyf1 kyf2
          have p1b := p1.out.bnd
          have zp : ∀ g, S0 ≤ g → g ≠ Zky ∨ True := fun _ _ => .inr trivial
          clear zp p1b
          obtain ⟨hset, hm⟩ := ky.out.set (.slice Ap2 xp2 yp2) (.slice Dp2 zp2 tp2) (.int .i64 R2.1.bound)
          obtain ⟨W9, hW⟩ : ∃ X, (((W8.setCell ⟨Zky, 0, none⟩ (.slice Ap2 xp2 yp2)).setCell ⟨Zky, 1, none⟩ (.slice Dp2 zp2 tp2)).setCell ⟨Zky, 2, none⟩ (.int .i64 R2.1.bound)) = X := ⟨_, rfl⟩
          rw [hW] at hset hm ⊢
          clear hW
          have ka := hid (ka.out.mod hm (by omega))
          have kx := hid (kx.out.mod hm (by omega))
          have pa := hid (pa.out.mod hm fun g _ hg e => by omega)
          have p2 := hid (p2.out.mod hm fun g _ hg e => by omega)
          have p1 := hid (p1.out.mod hm fun g _ hg e => by omega)
          have B := hid (below_mod B.out B.out.size hm fun g hg => by omega)
          have ky := hid hset
          clear hset hm
          have kx0 := kx.out.c0
          have kx1 := kx.out.c1
          have kx2 := kx.out.c2
          have ky0 := ky.out.c0
          have ky1 := ky.out.c1
          have ky2 := ky.out.c2
          go_wp2_with fail
          clear kx0 kx1 kx2 ky0 ky1 ky2
          refine (same25_any p1.out p2.out).mono ?_
          rintro r W10 ⟨rfl, b⟩
          have pa := hid (pa.out.below b)
          have ka := hid (ka.out.below b)
          have kx := hid (kx.out.below b)
          have ky := hid (ky.out.below b)
          have p1 := hid (p1.out.below b)
          have p2 := hid (p2.out.below b)
          have B := hid (B.out.trans (b.mono B.out.size))
          clear b
          clear p1 p2
          clear zx zy zw
          have zx := kx.out.lt
          have zw := ky.out.lt
          have ka0 := ka.out.c0
          have ka1 := ka.out.c1
          have ka2 := ka.out.c2
          go_wp2_with fail
          clear ka0 ka1 ka2
          refine (div_any pa.out hia).mono ?_
          rintro r W11 ⟨⟨pv, rfl, hp⟩, b⟩
          rw [HR3.out] at hp ⊢
          have hp2 := hid hp
          obtain ⟨⟨Ap1, xp1, yp1, Dp1, zp1, tp1, rfl, _, _⟩, _⟩ := hp
          have pa := hid (pa.out.below b)
          have ka := hid (ka.out.below b)
          have kx := hid (kx.out.below b)
          have ky := hid (ky.out.below b)
          have B := hid (B.out.trans (b.mono B.out.size))
          have p1 := hp2
          clear b hp2
          have kx0 := kx.out.c0
          have kx1 := kx.out.c1
          have kx2 := kx.out.c2
          have kxf0 := kx.out.f0
          have kxf1 := kx.out.f1
          have kxf2 := kx.out.f2
          go_upto_region 12 with fail
          clear kx0 kx1 kx2 kxf0 kxf1 kxf2
          obtain ⟨hset, hm⟩ := kx.out.set (.slice Ap1 xp1 yp1) (.slice Dp1 zp1 tp1) (.int .i64 R3.1.bound)
          obtain ⟨W12, hW⟩ : ∃ X, (((W11.setCell ⟨Zkx, 0, none⟩ (.slice Ap1 xp1 yp1)).setCell ⟨Zkx, 1, none⟩ (.slice Dp1 zp1 tp1)).setCell ⟨Zkx, 2, none⟩ (.int .i64 R3.1.bound)) = X := ⟨_, rfl⟩
          rw [hW] at hset hm ⊢
          clear hW
          have ka := hid (ka.out.mod hm (by omega))
          have ky := hid (ky.out.mod hm (by omega))
          have pa := hid (pa.out.mod hm fun g _ hg e => by omega)
          have p1 := hid (p1.out.mod hm fun g _ hg e => by omega)
          have B := hid (below_mod B.out B.out.size hm fun g hg => by omega)
          have kx := hid hset
          clear hset hm
          have zy := ky.out.lt
          have ka0 := ka.out.c0
          have ka1 := ka.out.c1
          have ka2 := ka.out.c2
          go_wp2_with fail
          clear ka0 ka1 ka2
          refine (rdiv_any pa.out hia (by rw [N1.out]; omega)).mono ?_
          rintro r W13 ⟨⟨pv, rfl, hp⟩, b⟩
          rw [HR3.out] at hp ⊢
          have hp2 := hid hp
          obtain ⟨⟨Ap2, xp2, yp2, Dp2, zp2, tp2, rfl, _, _⟩, _⟩ := hp
          have pa := hid (pa.out.below b)
          have ka := hid (ka.out.below b)
          have kx := hid (kx.out.below b)
          have ky := hid (ky.out.below b)
          have p1 := hid (p1.out.below b)
          have B := hid (B.out.trans (b.mono B.out.size))
          have p2 := hp2
          clear b hp2
          have ky0 := ky.out.c0
          have ky1 := ky.out.c1
          have ky2 := ky.out.c2
          have kyf0 := ky.out.f0
          have kyf1 := ky.out.f1
          have kyf2 := ky.out.f2
          go_upto_region 13 with fail
          clear ky0 ky1 ky2 kyf0 kyf1 kyf2
          have p1b := p1.out.bnd
          have zp : ∀ g, S0 ≤ g → g ≠ Zky ∨ True := fun _ _ => .inr trivial
          clear zp p1b
          obtain ⟨hset, hm⟩ := ky.out.set (.slice Ap2 xp2 yp2) (.slice Dp2 zp2 tp2) (.int .i64 R3.1.bound)
          obtain ⟨W14, hW⟩ : ∃ X, (((W13.setCell ⟨Zky, 0, none⟩ (.slice Ap2 xp2 yp2)).setCell ⟨Zky, 1, none⟩ (.slice Dp2 zp2 tp2)).setCell ⟨Zky, 2, none⟩ (.int .i64 R3.1.bound)) = X := ⟨_, rfl⟩
          rw [hW] at hset hm ⊢
          clear hW
          have ka := hid (ka.out.mod hm (by omega))
          have kx := hid (kx.out.mod hm (by omega))
          have pa := hid (pa.out.mod hm fun g _ hg e => by omega)
          have p2 := hid (p2.out.mod hm fun g _ hg e => by omega)
          have p1 := hid (p1.out.mod hm fun g _ hg e => by omega)
          have B := hid (below_mod B.out B.out.size hm fun g hg => by omega)
          have ky := hid hset
          clear hset hm
          have kx0 := kx.out.c0
          have kx1 := kx.out.c1
          have kx2 := kx.out.c2
          have ky0 := ky.out.c0
          have ky1 := ky.out.c1
          have ky2 := ky.out.c2
          go_wp2_with fail
          clear kx0 kx1 kx2 ky0 ky1 ky2
          refine (same25_any p1.out p2.out).mono ?_
          rintro r W15 ⟨rfl, b⟩
          have pa := hid (pa.out.below b)
          have ka := hid (ka.out.below b)
          have kx := hid (kx.out.below b)
          have ky := hid (ky.out.below b)
          have p1 := hid (p1.out.below b)
          have p2 := hid (p2.out.below b)
          have B := hid (B.out.trans (b.mono B.out.size))
          clear b
          clear p1 p2
          clear zx zy zw
          have zx := kx.out.lt
          have zw := ky.out.lt
          have ka0 := ka.out.c0
          have ka1 := ka.out.c1
          have ka2 := ka.out.c2
          go_wp2_with fail
          clear ka0 ka1 ka2
          refine (weak_any pa.out hia).mono ?_
          rintro r W16 ⟨⟨pv, rfl, hp⟩, b⟩
          rw [HR4.out] at hp ⊢
          have hp2 := hid hp
          obtain ⟨⟨Ap1, xp1, yp1, Dp1, zp1, tp1, rfl, _, _⟩, _⟩ := hp
          have pa := hid (pa.out.below b)
          have ka := hid (ka.out.below b)
          have kx := hid (kx.out.below b)
          have ky := hid (ky.out.below b)
          have B := hid (B.out.trans (b.mono B.out.size))
          have p1 := hp2
          clear b hp2
          have kx0 := kx.out.c0
          have kx1 := kx.out.c1
          have kx2 := kx.out.c2
          have kxf0 := kx.out.f0
          have kxf1 := kx.out.f1
          have kxf2 := kx.out.f2
          go_upto_region 16 with fail
          clear kx0 kx1 kx2 kxf0 kxf1 kxf2
          obtain ⟨hset, hm⟩ := kx.out.set (.slice Ap1 xp1 yp1) (.slice Dp1 zp1 tp1) (.int .i64 R4.1.bound)
          obtain ⟨W17, hW⟩ : ∃ X, (((W16.setCell ⟨Zkx, 0, none⟩ (.slice Ap1 xp1 yp1)).setCell ⟨Zkx, 1, none⟩ (.slice Dp1 zp1 tp1)).setCell ⟨Zkx, 2, none⟩ (.int .i64 R4.1.bound)) = X := ⟨_, rfl⟩
          rw [hW] at hset hm ⊢
          clear hW
          have ka := hid (ka.out.mod hm (by omega))
          have ky := hid (ky.out.mod hm (by omega))
          have pa := hid (pa.out.mod hm fun g _ hg e => by omega)
          have p1 := hid (p1.out.mod hm fun g _ hg e => by omega)
          have B := hid (below_mod B.out B.out.size hm fun g hg => by omega)
          have kx := hid hset
          clear hset hm
          have zy := ky.out.lt
          have ka0 := ka.out.c0
          have ka1 := ka.out.c1
          have ka2 := ka.out.c2
          go_wp2_with fail
          clear ka0 ka1 ka2
          refine (rweak_any pa.out hia (by rw [N1.out]; omega)).mono ?_
          rintro r W18 ⟨⟨pv, rfl, hp⟩, b⟩
          rw [HR4.out] at hp ⊢
          have hp2 := hid hp
          obtain ⟨⟨Ap2, xp2, yp2, Dp2, zp2, tp2, rfl, _, _⟩, _⟩ := hp
          have pa := hid (pa.out.below b)
          have ka := hid (ka.out.below b)
          have kx := hid (kx.out.below b)
          have ky := hid (ky.out.below b)
          have p1 := hid (p1.out.below b)
          have B := hid (B.out.trans (b.mono B.out.size))
          have p2 := hp2
          clear b hp2
          have ky0 := ky.out.c0
          have ky1 := ky.out.c1
          have ky2 := ky.out.c2
          have kyf0 := ky.out.f0
          have kyf1 := ky.out.f1
          have kyf2 := ky.out.f2
          go_upto_region 17 with fail
          clear ky0 ky1 ky2 kyf0 kyf1 kyf2
          have p1b := p1.out.bnd
          have zp : ∀ g, S0 ≤ g → g ≠ Zky ∨ True := fun _ _ => .inr trivial
          clear zp p1b
          obtain ⟨hset, hm⟩ := ky.out.set (.slice Ap2 xp2 yp2) (.slice Dp2 zp2 tp2) (.int .i64 R4.1.bound)
          obtain ⟨W19, hW⟩ : ∃ X, (((W18.setCell ⟨Zky, 0, none⟩ (.slice Ap2 xp2 yp2)).setCell ⟨Zky, 1, none⟩ (.slice Dp2 zp2 tp2)).setCell ⟨Zky, 2, none⟩ (.int .i64 R4.1.bound)) = X := ⟨_, rfl⟩
          rw [hW] at hset hm ⊢
          clear hW
          have ka := hid (ka.out.mod hm (by omega))
          have kx := hid (kx.out.mod hm (by omega))
          have pa := hid (pa.out.mod hm fun g _ hg e => by omega)
          have p2 := hid (p2.out.mod hm fun g _ hg e => by omega)
          have p1 := hid (p1.out.mod hm fun g _ hg e => by omega)
          have B := hid (below_mod B.out B.out.size hm fun g hg => by omega)
          have ky := hid hset
          clear hset hm
          have kx0 := kx.out.c0
          have kx1 := kx.out.c1
          have kx2 := kx.out.c2
          have ky0 := ky.out.c0
          have ky1 := ky.out.c1
          have ky2 := ky.out.c2
          go_wp2_with fail
          clear kx0 kx1 kx2 ky0 ky1 ky2
          refine (same25_any p1.out p2.out).mono ?_
          rintro r W20 ⟨rfl, b⟩
          have pa := hid (pa.out.below b)
          have ka := hid (ka.out.below b)
          have kx := hid (kx.out.below b)
          have ky := hid (ky.out.below b)
          have p1 := hid (p1.out.below b)
          have p2 := hid (p2.out.below b)
          have B := hid (B.out.trans (b.mono B.out.size))
          clear b
          clear p1 p2
          clear zx zy zw
          go_wp2_with fail
          refine (awake25_any).mono ?_
          rintro r W21 ⟨rfl, b⟩
          have pa := hid (pa.out.below b)
          have ka := hid (ka.out.below b)
          have kx := hid (kx.out.below b)
          have ky := hid (ky.out.below b)
          have B := hid (B.out.trans (b.mono B.out.size))
          clear b
          go_wp2_with fail
          go_ret
          exact ⟨rfl, B.out⟩
end Go.Proofs.YtooioikkgdgnnaaDoor
