/-
  Chapter 25: the walk of CutSound (written by gen_laws.py).
-/
import Derived.Test.YtooioikkgdgnnaaDoorCuE
namespace Go.Proofs.YtooioikkgdgnnaaDoor
open Go.RowKit

set_option maxRecDepth 100000 in
set_option maxHeartbeats 8000000 in
theorem sound_walk {w : World} {F G H I : Nat → Prop} {u v x y : Value} {n1 n2 n3 n4 : Nat} {ls ks ms ns : List Int} {b lim kk : Int} (hu : Rd w F 1 u n1 (ints ls)) (hv : Rd w G 1 v n2 (ints ks)) (hx : Rd w H 1 x n3 (ints ms)) (hy : Rd w I 1 y n4 (ints ns)) (hkk : 0 ≤ kk ∧ kk ≤ 255) :
    Calls Tryd.prog 6 #[u, v, .int .i64 b, x, y, .int .i64 lim, .int .u8 kk] w fun r w' => r = .returned (.bool true) ∧ Below w.heap.size w w' := by
  obtain ⟨a, ha⟩ : ∃ c, (normed (smL ls ks) (smC ls ks) (Int.tmod b 41)).1 = c := ⟨_, rfl⟩
  obtain ⟨d, hd⟩ : ∃ c, (normed (smL ms ns) (smC ms ns) (Int.tmod lim 41)).1 = c := ⟨_, rfl⟩
  have Sa := hid (ha ▸ small_is ls ks b)
  have Sd := hid (hd ▸ small_is ms ns lim)
  obtain ⟨n, hn⟩ : ∃ n, 1 + kk = n := ⟨_, rfl⟩
  have hn1 : 1 ≤ n ∧ n ≤ 256 := by omega
  have hw1 : IntKind.i64.wrap (1 + kk) = n := by rw [iw' (by omega) (by omega)]; exact hn
  obtain ⟨q, hq⟩ : ∃ q, 1 + n % 6 = q := ⟨_, rfl⟩
  have hq1 : 1 ≤ q ∧ q ≤ 65536 := by omega
  have Hq := hid hq
  have hk8 : IntKind.i64.wrap kk = kk := iw' (by omega) (by omega)
  have e1 := hid (Sa.out.o.add_err Sd.out.o (by have := Sa.out.low; omega) (by have := Sd.out.low; omega))
  have i1 := hid (Sa.out.o.add Sd.out.o e1.out)
  have e2 := hid (Sa.out.o.mul_err Sa.out.low hn1.1 hn1.2).1
  have i2 := hid (Sa.out.o.mul e2.out)
  have e3 := hid (Sa.out.o.div_err (by have := Sa.out.low; omega) hn1.1 (by omega) : (a.divB n).2 = 0)
  have i3 := hid (Sa.out.o.div e3.out)
  have e4 := hid (Sa.out.o.weak_err (by have := Sa.out.low; omega) hq1.1 hq1.2)
  have i4 := hid (Sa.out.o.weak e4.out)
  obtain ⟨c1, hc1⟩ : ∃ c, (a.addB d).1 = c := ⟨_, rfl⟩
  obtain ⟨c2, hc2⟩ : ∃ c, (a.mulB n).1 = c := ⟨_, rfl⟩
  obtain ⟨c3, hc3⟩ : ∃ c, (a.divB n).1 = c := ⟨_, rfl⟩
  obtain ⟨c4, hc4⟩ : ∃ c, (a.weakB q).1 = c := ⟨_, rfl⟩
  rw [hc1] at i1
  rw [hc2] at i2
  rw [hc3] at i3
  rw [hc4] at i4
  have j1 := hid (implB_true (c := c1) (ps := [a, d]) i1.out.1.ok fun av hv h => i1.out.2 av hv (h a (by simp)) (h d (by simp)))
  have j2 := hid (implB_true (c := c2) (ps := [a]) i2.out.1.ok fun av hv h => by rw [i2.out.2 av hv]; exact h a (by simp))
  have j3 := hid (implB_true (c := c3) (ps := [a]) i3.out.1.ok fun av hv h => i3.out.2 av hv (h a (by simp)))
  have j4 := hid (implB_true (c := c4) (ps := [a]) i4.out.1.ok fun av hv h => i4.out.2 av hv (h a (by simp)))
  have j5 := hid (implB_true (c := a) (ps := [c2]) Sa.out.o.ok fun av hv h => by rw [← i2.out.2 av hv]; exact h c2 (by simp))
  have hk := hid hn
  have Hc1 := hid hc1
  have Hc2 := hid hc2
  have Hc3 := hid hc3
  have Hc4 := hid hc4
  have Ha := hid ha
  have Hd := hid hd
  have Hu := hid hu
  have Hv := hid hv
  have Hx := hid hx
  have Hy := hid hy
  clear hn hq hc1 hc2 hc3 hc4 ha hd hu hv hx hy
  go_enter Tryd.func6, Tryd.ntmps6
  go_wp2_with fail
  refine (small25_any Hu.out Hv.out).mono ?_
  rintro r W1 ⟨⟨Apa, xpa, ypa, Dpa, zpa, tpa, rfl, hp⟩, b⟩
  rw [Ha.out] at hp ⊢
  have Hx := hid (Hx.out.below b)
  have Hy := hid (Hy.out.below b)
  have B := hid b
  have pa := hid hp
  clear b hp
  go_wp2_with fail
  refine (small25_any Hx.out Hy.out).mono ?_
  rintro r W2 ⟨⟨Apd, xpd, ypd, Dpd, zpd, tpd, rfl, hp⟩, b⟩
  rw [Hd.out] at hp ⊢
  have Hx := hid (Hx.out.below b)
  have Hy := hid (Hy.out.below b)
  have pa := hid (pa.out.below b)
  have B := hid (B.out.trans (b.mono B.out.size))
  have pd := hid hp
  clear b hp
  clear Hx Hy
  go_upto_region 2 with fail
  obtain ⟨W3, hW, b, k, sx⟩ := alloc_step W2 (.cells #[.slice Apa xpa ypa, .slice Dpa zpa tpa, .int .i64 a.bound] 24)
  rw [hW]
  clear sx
  obtain ⟨Zka, hZ⟩ : ∃ z, W2.heap.size = z := ⟨_, rfl⟩
  have sW3 : W3.heap.size = W2.heap.size + 1 := by rw [← hW]; exact World.size_alloc _ _
  rw [hZ] at k sW3
  try rw [hZ]
  clear hW hZ
  have pa := hid (pa.out.below b)
  have pd := hid (pd.out.below b)
  have B := hid (B.out.trans (b.mono B.out.size))
  have ka := hid k
  clear b k
  obtain ⟨W4, hW, b, k, sx⟩ := alloc_step W3 (.cells #[.slice Apd xpd ypd, .slice Dpd zpd tpd, .int .i64 d.bound] 24)
  rw [hW]
  clear sx
  obtain ⟨Zkd, hZ⟩ : ∃ z, W3.heap.size = z := ⟨_, rfl⟩
  have sW4 : W4.heap.size = W3.heap.size + 1 := by rw [← hW]; exact World.size_alloc _ _
  have hZ2 := hZ
  rw [sW3] at hZ2
  rw [hZ] at k sW4
  try rw [hZ2]
  clear hW hZ hZ2
  have pa := hid (pa.out.below b)
  have pd := hid (pd.out.below b)
  have ka := hid (keep_blk ka.out b)
  have B := hid (B.out.trans (b.mono B.out.size))
  have kd := hid k
  clear b k
  obtain ⟨kae0, kae1, kae2⟩ := box3 ka.out
  obtain ⟨kde0, kde1, kde2⟩ := box3 kd.out
  go_wp2_with fail
  clear kae0 kae1 kae2 kde0 kde1 kde2
  refine (add_any pa.out pd.out Sa.out.o.ok.i64 Sd.out.o.ok.i64).mono ?_
  rintro r W5 ⟨⟨pv, rfl, hp⟩, b⟩
  rw [Hc1.out] at hp
  rw [e1.out]
  have hp2 := hid hp
  obtain ⟨⟨Ap1, xp1, yp1, Dp1, zp1, tp1, rfl, _, _⟩, _⟩ := hp
  have pa := hid (pa.out.below b)
  have pd := hid (pd.out.below b)
  have ka := hid (keep_blk ka.out b)
  have kd := hid (keep_blk kd.out b)
  have B := hid (B.out.trans (b.mono B.out.size))
  have p1 := hp2
  clear b hp2
  go_upto_region 4 with fail
  obtain ⟨W6, hW, b, k, sx⟩ := alloc_step W5 (.cells #[.slice Ap1 xp1 yp1, .slice Dp1 zp1 tp1, .int .i64 c1.bound] 24)
  rw [hW]
  clear sx
  obtain ⟨Zk1, hZ⟩ : ∃ z, W5.heap.size = z := ⟨_, rfl⟩
  have sW6 : W6.heap.size = W5.heap.size + 1 := by rw [← hW]; exact World.size_alloc _ _
  rw [hZ] at k sW6
  try rw [hZ]
  clear hW hZ
  have pa := hid (pa.out.below b)
  have pd := hid (pd.out.below b)
  have ka := hid (keep_blk ka.out b)
  have kd := hid (keep_blk kd.out b)
  have p1 := hid (p1.out.below b)
  have B := hid (B.out.trans (b.mono B.out.size))
  have k1 := hid k
  clear b k
  obtain ⟨kae0, kae1, kae2⟩ := box3 ka.out
  go_wp2_with fail
  clear kae0 kae1 kae2
  refine (mul_any pa.out Sa.out.o.ok.i64).mono ?_
  rintro r W7 ⟨⟨pv, rfl, hp⟩, b⟩
  rw [Hc2.out] at hp
  rw [e2.out]
  have hp2 := hid hp
  obtain ⟨⟨Ap2, xp2, yp2, Dp2, zp2, tp2, rfl, _, _⟩, _⟩ := hp
  have pa := hid (pa.out.below b)
  have pd := hid (pd.out.below b)
  have ka := hid (keep_blk ka.out b)
  have kd := hid (keep_blk kd.out b)
  have p1 := hid (p1.out.below b)
  have k1 := hid (keep_blk k1.out b)
  have B := hid (B.out.trans (b.mono B.out.size))
  have p2 := hp2
  clear b hp2
  go_upto_region 5 with fail
  obtain ⟨W8, hW, b, k, sx⟩ := alloc_step W7 (.cells #[.slice Ap2 xp2 yp2, .slice Dp2 zp2 tp2, .int .i64 c2.bound] 24)
  rw [hW]
  clear sx
  obtain ⟨Zk2, hZ⟩ : ∃ z, W7.heap.size = z := ⟨_, rfl⟩
  have sW8 : W8.heap.size = W7.heap.size + 1 := by rw [← hW]; exact World.size_alloc _ _
  rw [hZ] at k sW8
  try rw [hZ]
  clear hW hZ
  have pa := hid (pa.out.below b)
  have pd := hid (pd.out.below b)
  have ka := hid (keep_blk ka.out b)
  have kd := hid (keep_blk kd.out b)
  have p1 := hid (p1.out.below b)
  have k1 := hid (keep_blk k1.out b)
  have p2 := hid (p2.out.below b)
  have B := hid (B.out.trans (b.mono B.out.size))
  have k2 := hid k
  clear b k
  obtain ⟨kae0, kae1, kae2⟩ := box3 ka.out
  go_wp2_with fail
  clear kae0 kae1 kae2
  refine (div_any pa.out Sa.out.o.ok.i64).mono ?_
  rintro r W9 ⟨⟨pv, rfl, hp⟩, b⟩
  rw [Hc3.out] at hp
  rw [e3.out]
  have hp2 := hid hp
  obtain ⟨⟨Ap3, xp3, yp3, Dp3, zp3, tp3, rfl, _, _⟩, _⟩ := hp
  have pa := hid (pa.out.below b)
  have pd := hid (pd.out.below b)
  have ka := hid (keep_blk ka.out b)
  have kd := hid (keep_blk kd.out b)
  have p1 := hid (p1.out.below b)
  have k1 := hid (keep_blk k1.out b)
  have p2 := hid (p2.out.below b)
  have k2 := hid (keep_blk k2.out b)
  have B := hid (B.out.trans (b.mono B.out.size))
  have p3 := hp2
  clear b hp2
  go_upto_region 6 with fail
  obtain ⟨W10, hW, b, k, sx⟩ := alloc_step W9 (.cells #[.slice Ap3 xp3 yp3, .slice Dp3 zp3 tp3, .int .i64 c3.bound] 24)
  rw [hW]
  clear sx
  obtain ⟨Zk3, hZ⟩ : ∃ z, W9.heap.size = z := ⟨_, rfl⟩
  have sW10 : W10.heap.size = W9.heap.size + 1 := by rw [← hW]; exact World.size_alloc _ _
  rw [hZ] at k sW10
  try rw [hZ]
  clear hW hZ
  have pa := hid (pa.out.below b)
  have pd := hid (pd.out.below b)
  have ka := hid (keep_blk ka.out b)
  have kd := hid (keep_blk kd.out b)
  have p1 := hid (p1.out.below b)
  have k1 := hid (keep_blk k1.out b)
  have p2 := hid (p2.out.below b)
  have k2 := hid (keep_blk k2.out b)
  have p3 := hid (p3.out.below b)
  have B := hid (B.out.trans (b.mono B.out.size))
  have k3 := hid k
  clear b k
  obtain ⟨kae0, kae1, kae2⟩ := box3 ka.out
  go_wp2_with fail
  clear kae0 kae1 kae2
  refine (weak_any pa.out Sa.out.o.ok.i64).mono ?_
  rintro r W11 ⟨⟨pv, rfl, hp⟩, b⟩
  rw [Hq.out] at hp ⊢
  rw [Hc4.out] at hp
  rw [e4.out]
  have hp2 := hid hp
  obtain ⟨⟨Ap4, xp4, yp4, Dp4, zp4, tp4, rfl, _, _⟩, _⟩ := hp
  have pa := hid (pa.out.below b)
  have pd := hid (pd.out.below b)
  have ka := hid (keep_blk ka.out b)
  have kd := hid (keep_blk kd.out b)
  have p1 := hid (p1.out.below b)
  have k1 := hid (keep_blk k1.out b)
  have p2 := hid (p2.out.below b)
  have k2 := hid (keep_blk k2.out b)
  have p3 := hid (p3.out.below b)
  have k3 := hid (keep_blk k3.out b)
  have B := hid (B.out.trans (b.mono B.out.size))
  have p4 := hp2
  clear b hp2
  go_upto_region 7 with fail
  obtain ⟨W12, hW, b, k, sx⟩ := alloc_step W11 (.cells #[.slice Ap4 xp4 yp4, .slice Dp4 zp4 tp4, .int .i64 c4.bound] 24)
  rw [hW]
  clear sx
  obtain ⟨Zk4, hZ⟩ : ∃ z, W11.heap.size = z := ⟨_, rfl⟩
  have sW12 : W12.heap.size = W11.heap.size + 1 := by rw [← hW]; exact World.size_alloc _ _
  rw [hZ] at k sW12
  try rw [hZ]
  clear hW hZ
  have pa := hid (pa.out.below b)
  have pd := hid (pd.out.below b)
  have ka := hid (keep_blk ka.out b)
  have kd := hid (keep_blk kd.out b)
  have p1 := hid (p1.out.below b)
  have k1 := hid (keep_blk k1.out b)
  have p2 := hid (p2.out.below b)
  have k2 := hid (keep_blk k2.out b)
  have p3 := hid (p3.out.below b)
  have k3 := hid (keep_blk k3.out b)
  have p4 := hid (p4.out.below b)
  have B := hid (B.out.trans (b.mono B.out.size))
  have k4 := hid k
  clear b k
  obtain ⟨k1e0, k1e1, k1e2⟩ := box3 k1.out
  obtain ⟨kae0, kae1, kae2⟩ := box3 ka.out
  obtain ⟨kde0, kde1, kde2⟩ := box3 kd.out
  go_wp2_with fail
  clear k1e0 k1e1 k1e2 kae0 kae1 kae2 kde0 kde1 kde2
  obtain ⟨W13, hW, b, ho⟩ := ps_lit (ps := [a, d]) (ts := [(_, _, _), (_, _, _)]) (((Ps.nil _ (fun _ => True)).snoc (t := (_, _, _)) (pa.out.mono fun _ _ _ => trivial)).snoc (t := (_, _, _)) (pd.out.mono fun _ _ _ => trivial)) (by simp) (by simp)
  rw [show W12.alloc (.cells #[.slice Apa xpa ypa, .slice Dpa zpa tpa, .int .i64 a.bound, .slice Apd xpd ypd, .slice Dpd zpd tpd, .int .i64 d.bound] 24) = W13 from hW]
  have sW13 : W13.heap.size = W12.heap.size + 1 := by rw [← hW]; exact World.size_alloc _ _
  rw [sW12] at ho sW13
  clear hW
  have pa := hid (pa.out.below b)
  have pd := hid (pd.out.below b)
  have ka := hid (keep_blk ka.out b)
  have kd := hid (keep_blk kd.out b)
  have p1 := hid (p1.out.below b)
  have k1 := hid (keep_blk k1.out b)
  have p2 := hid (p2.out.below b)
  have k2 := hid (keep_blk k2.out b)
  have p3 := hid (p3.out.below b)
  have k3 := hid (keep_blk k3.out b)
  have p4 := hid (p4.out.below b)
  have k4 := hid (keep_blk k4.out b)
  have B := hid (B.out.trans (b.mono B.out.size))
  have pr := hid ho
  clear b ho
  refine (implied_any p1.out i1.out.1.ok.i64 pr.out (by intro p hp; simp at hp; rcases hp with rfl | rfl; exact Sa.out.o.ok.i64; exact Sd.out.o.ok.i64)).mono ?_
  rintro r W14 ⟨rfl, b⟩
  rw [j1.out]
  have pa := hid (pa.out.below b)
  have pd := hid (pd.out.below b)
  have ka := hid (keep_blk ka.out b)
  have kd := hid (keep_blk kd.out b)
  have p1 := hid (p1.out.below b)
  have k1 := hid (keep_blk k1.out b)
  have p2 := hid (p2.out.below b)
  have k2 := hid (keep_blk k2.out b)
  have p3 := hid (p3.out.below b)
  have k3 := hid (keep_blk k3.out b)
  have p4 := hid (p4.out.below b)
  have k4 := hid (keep_blk k4.out b)
  have pr := hid (pr.out.below b)
  have B := hid (B.out.trans (b.mono B.out.size))
  clear b
  clear pr
  obtain ⟨k2e0, k2e1, k2e2⟩ := box3 k2.out
  obtain ⟨kae0, kae1, kae2⟩ := box3 ka.out
  go_wp2_with fail
  clear k2e0 k2e1 k2e2 kae0 kae1 kae2
  obtain ⟨W15, hW, b, ho⟩ := ps_lit (ps := [a]) (ts := [(_, _, _)]) ((Ps.nil _ (fun _ => True)).snoc (t := (_, _, _)) (pa.out.mono fun _ _ _ => trivial)) (by simp) (by simp)
  rw [show W14.alloc (.cells #[.slice Apa xpa ypa, .slice Dpa zpa tpa, .int .i64 a.bound] 24) = W15 from hW]
  have sW15 : W15.heap.size = W14.heap.size + 1 := by rw [← hW]; exact World.size_alloc _ _
  clear hW
  have pa := hid (pa.out.below b)
  have pd := hid (pd.out.below b)
  have ka := hid (keep_blk ka.out b)
  have kd := hid (keep_blk kd.out b)
  have p1 := hid (p1.out.below b)
  have k1 := hid (keep_blk k1.out b)
  have p2 := hid (p2.out.below b)
  have k2 := hid (keep_blk k2.out b)
  have p3 := hid (p3.out.below b)
  have k3 := hid (keep_blk k3.out b)
  have p4 := hid (p4.out.below b)
  have k4 := hid (keep_blk k4.out b)
  have B := hid (B.out.trans (b.mono B.out.size))
  have pr := hid ho
  clear b ho
  refine (implied_any p2.out i2.out.1.ok.i64 pr.out (by intro p hp; simp at hp; subst hp; exact Sa.out.o.ok.i64)).mono ?_
  rintro r W16 ⟨rfl, b⟩
  rw [j2.out]
  have pa := hid (pa.out.below b)
  have pd := hid (pd.out.below b)
  have ka := hid (keep_blk ka.out b)
  have kd := hid (keep_blk kd.out b)
  have p1 := hid (p1.out.below b)
  have k1 := hid (keep_blk k1.out b)
  have p2 := hid (p2.out.below b)
  have k2 := hid (keep_blk k2.out b)
  have p3 := hid (p3.out.below b)
  have k3 := hid (keep_blk k3.out b)
  have p4 := hid (p4.out.below b)
  have k4 := hid (keep_blk k4.out b)
  have pr := hid (pr.out.below b)
  have B := hid (B.out.trans (b.mono B.out.size))
  clear b
  clear pr
  obtain ⟨kae0, kae1, kae2⟩ := box3 ka.out
  obtain ⟨k2e0, k2e1, k2e2⟩ := box3 k2.out
  go_wp2_with fail
  clear kae0 kae1 kae2 k2e0 k2e1 k2e2
  obtain ⟨W17, hW, b, ho⟩ := ps_lit (ps := [c2]) (ts := [(_, _, _)]) ((Ps.nil _ (fun _ => True)).snoc (t := (_, _, _)) (p2.out.mono fun _ _ _ => trivial)) (by simp) (by simp)
  rw [show W16.alloc (.cells #[.slice Ap2 xp2 yp2, .slice Dp2 zp2 tp2, .int .i64 c2.bound] 24) = W17 from hW]
  have sW17 : W17.heap.size = W16.heap.size + 1 := by rw [← hW]; exact World.size_alloc _ _
  clear hW
  have pa := hid (pa.out.below b)
  have pd := hid (pd.out.below b)
  have ka := hid (keep_blk ka.out b)
  have kd := hid (keep_blk kd.out b)
  have p1 := hid (p1.out.below b)
  have k1 := hid (keep_blk k1.out b)
  have p2 := hid (p2.out.below b)
  have k2 := hid (keep_blk k2.out b)
  have p3 := hid (p3.out.below b)
  have k3 := hid (keep_blk k3.out b)
  have p4 := hid (p4.out.below b)
  have k4 := hid (keep_blk k4.out b)
  have B := hid (B.out.trans (b.mono B.out.size))
  have pr := hid ho
  clear b ho
  refine (implied_any pa.out Sa.out.o.ok.i64 pr.out (by intro p hp; simp at hp; subst hp; exact i2.out.1.ok.i64)).mono ?_
  rintro r W18 ⟨rfl, b⟩
  rw [j5.out]
  have pa := hid (pa.out.below b)
  have pd := hid (pd.out.below b)
  have ka := hid (keep_blk ka.out b)
  have kd := hid (keep_blk kd.out b)
  have p1 := hid (p1.out.below b)
  have k1 := hid (keep_blk k1.out b)
  have p2 := hid (p2.out.below b)
  have k2 := hid (keep_blk k2.out b)
  have p3 := hid (p3.out.below b)
  have k3 := hid (keep_blk k3.out b)
  have p4 := hid (p4.out.below b)
  have k4 := hid (keep_blk k4.out b)
  have pr := hid (pr.out.below b)
  have B := hid (B.out.trans (b.mono B.out.size))
  clear b
  clear pr
  obtain ⟨k3e0, k3e1, k3e2⟩ := box3 k3.out
  obtain ⟨kae0, kae1, kae2⟩ := box3 ka.out
  go_wp2_with fail
  clear k3e0 k3e1 k3e2 kae0 kae1 kae2
  obtain ⟨W19, hW, b, ho⟩ := ps_lit (ps := [a]) (ts := [(_, _, _)]) ((Ps.nil _ (fun _ => True)).snoc (t := (_, _, _)) (pa.out.mono fun _ _ _ => trivial)) (by simp) (by simp)
  rw [show W18.alloc (.cells #[.slice Apa xpa ypa, .slice Dpa zpa tpa, .int .i64 a.bound] 24) = W19 from hW]
  have sW19 : W19.heap.size = W18.heap.size + 1 := by rw [← hW]; exact World.size_alloc _ _
  clear hW
  have pa := hid (pa.out.below b)
  have pd := hid (pd.out.below b)
  have ka := hid (keep_blk ka.out b)
  have kd := hid (keep_blk kd.out b)
  have p1 := hid (p1.out.below b)
  have k1 := hid (keep_blk k1.out b)
  have p2 := hid (p2.out.below b)
  have k2 := hid (keep_blk k2.out b)
  have p3 := hid (p3.out.below b)
  have k3 := hid (keep_blk k3.out b)
  have p4 := hid (p4.out.below b)
  have k4 := hid (keep_blk k4.out b)
  have B := hid (B.out.trans (b.mono B.out.size))
  have pr := hid ho
  clear b ho
  refine (implied_any p3.out i3.out.1.ok.i64 pr.out (by intro p hp; simp at hp; subst hp; exact Sa.out.o.ok.i64)).mono ?_
  rintro r W20 ⟨rfl, b⟩
  rw [j3.out]
  have pa := hid (pa.out.below b)
  have pd := hid (pd.out.below b)
  have ka := hid (keep_blk ka.out b)
  have kd := hid (keep_blk kd.out b)
  have p1 := hid (p1.out.below b)
  have k1 := hid (keep_blk k1.out b)
  have p2 := hid (p2.out.below b)
  have k2 := hid (keep_blk k2.out b)
  have p3 := hid (p3.out.below b)
  have k3 := hid (keep_blk k3.out b)
  have p4 := hid (p4.out.below b)
  have k4 := hid (keep_blk k4.out b)
  have pr := hid (pr.out.below b)
  have B := hid (B.out.trans (b.mono B.out.size))
  clear b
  clear pr
  obtain ⟨k4e0, k4e1, k4e2⟩ := box3 k4.out
  obtain ⟨kae0, kae1, kae2⟩ := box3 ka.out
  go_wp2_with fail
  clear k4e0 k4e1 k4e2 kae0 kae1 kae2
  obtain ⟨W21, hW, b, ho⟩ := ps_lit (ps := [a]) (ts := [(_, _, _)]) ((Ps.nil _ (fun _ => True)).snoc (t := (_, _, _)) (pa.out.mono fun _ _ _ => trivial)) (by simp) (by simp)
  rw [show W20.alloc (.cells #[.slice Apa xpa ypa, .slice Dpa zpa tpa, .int .i64 a.bound] 24) = W21 from hW]
  have sW21 : W21.heap.size = W20.heap.size + 1 := by rw [← hW]; exact World.size_alloc _ _
  clear hW
  have pa := hid (pa.out.below b)
  have pd := hid (pd.out.below b)
  have ka := hid (keep_blk ka.out b)
  have kd := hid (keep_blk kd.out b)
  have p1 := hid (p1.out.below b)
  have k1 := hid (keep_blk k1.out b)
  have p2 := hid (p2.out.below b)
  have k2 := hid (keep_blk k2.out b)
  have p3 := hid (p3.out.below b)
  have k3 := hid (keep_blk k3.out b)
  have p4 := hid (p4.out.below b)
  have k4 := hid (keep_blk k4.out b)
  have B := hid (B.out.trans (b.mono B.out.size))
  have pr := hid ho
  clear b ho
  refine (implied_any p4.out i4.out.1.ok.i64 pr.out (by intro p hp; simp at hp; subst hp; exact Sa.out.o.ok.i64)).mono ?_
  rintro r W22 ⟨rfl, b⟩
  rw [j4.out]
  have pa := hid (pa.out.below b)
  have pd := hid (pd.out.below b)
  have ka := hid (keep_blk ka.out b)
  have kd := hid (keep_blk kd.out b)
  have p1 := hid (p1.out.below b)
  have k1 := hid (keep_blk k1.out b)
  have p2 := hid (p2.out.below b)
  have k2 := hid (keep_blk k2.out b)
  have p3 := hid (p3.out.below b)
  have k3 := hid (keep_blk k3.out b)
  have p4 := hid (p4.out.below b)
  have k4 := hid (keep_blk k4.out b)
  have pr := hid (pr.out.below b)
  have B := hid (B.out.trans (b.mono B.out.size))
  clear b
  clear pr
  go_wp2_with fail
  refine (awake25_any).mono ?_
  rintro r W23 ⟨rfl, b⟩
  have pa := hid (pa.out.below b)
  have pd := hid (pd.out.below b)
  have ka := hid (keep_blk ka.out b)
  have kd := hid (keep_blk kd.out b)
  have p1 := hid (p1.out.below b)
  have k1 := hid (keep_blk k1.out b)
  have p2 := hid (p2.out.below b)
  have k2 := hid (keep_blk k2.out b)
  have p3 := hid (p3.out.below b)
  have k3 := hid (keep_blk k3.out b)
  have p4 := hid (p4.out.below b)
  have k4 := hid (keep_blk k4.out b)
  have B := hid (B.out.trans (b.mono B.out.size))
  clear b
  go_wp2_with fail
  go_ret
  exact ⟨rfl, B.out⟩
end Go.Proofs.YtooioikkgdgnnaaDoor
