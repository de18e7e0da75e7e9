/-
  Chapter 25: the walk of CutEqual (written by gen_laws.py).
-/
import Derived.Test.YtooioikkgdgnnaaDoorCuE
namespace Go.Proofs.YtooioikkgdgnnaaDoor
open Go.RowKit

theorem PbRd.one (w : World) (F : Nat → Prop) : PbRd w F (.agg #[.slice none 0 0, .slice none 0 0, .int .i64 1]) ⟨[], [], 1⟩ := ⟨⟨none, 0, 0, none, 0, 0, rfl, Rd.empty _ _ _, Rd.empty _ _ _⟩, by unfold I64; decide⟩
set_option maxRecDepth 100000 in
set_option maxHeartbeats 8000000 in
theorem equal_walk {w : World} {F G H I : Nat → Prop} {u v x y : Value} {n1 n2 n3 n4 : Nat} {ls ks ms ns : List Int} {b lim kk : Int} (hu : Rd w F 1 u n1 (ints ls)) (hv : Rd w G 1 v n2 (ints ks)) (hx : Rd w H 1 x n3 (ints ms)) (hy : Rd w I 1 y n4 (ints ns)) (hkk : 0 ≤ kk ∧ kk ≤ 255) :
    Calls Tryd.prog 9 #[u, v, .int .i64 b, x, y, .int .i64 lim, .int .u8 kk] w fun r w' => r = .returned (.bool true) ∧ Below w.heap.size w w' := by
  obtain ⟨a, ha⟩ : ∃ c, (normed (smL ls ks) (smC ls ks) (Int.tmod b 41)).1 = c := ⟨_, rfl⟩
  obtain ⟨d, hd⟩ : ∃ c, (normed (smL ms ns) (smC ms ns) (Int.tmod lim 41)).1 = c := ⟨_, rfl⟩
  have Sa := hid (ha ▸ small_is ls ks b)
  have Sd := hid (hd ▸ small_is ms ns lim)
  obtain ⟨n, hn⟩ : ∃ n, 1 + kk = n := ⟨_, rfl⟩
  have hn1 : 1 ≤ n ∧ n ≤ 256 := by omega
  have hw1 : IntKind.i64.wrap (1 + kk) = n := by rw [iw' (by omega) (by omega)]; exact hn
  have hk8 : IntKind.i64.wrap kk = kk := iw' (by omega) (by omega)
  have e1 := hid (Sa.out.o.add_err Sd.out.o (by have := Sa.out.low; omega) (by have := Sd.out.low; omega))
  have hcm := hid (Sd.out.o.add_comm Sa.out.o)
  have i1 := hid (Sa.out.o.add Sd.out.o e1.out).1
  have hz := hid Sa.out.o.ok.add_zero
  have hm1 := hid Sa.out.o.ok.mul_one
  have hd1 := hid Sa.out.o.ok.div_one
  obtain ⟨hb1, hb2⟩ := Sa.out.o.mul_err Sa.out.low hn1.1 hn1.2
  obtain ⟨md, e2, ok2⟩ := Sa.out.o.mul_div hn1.1 (by omega) (by omega)
  have e2 := hid e2
  obtain ⟨e3, o3, l3⟩ := Sa.out.neg_parts
  have e4 := hid (Sa.out.o.add_err o3 (by have := Sa.out.low; omega) l3)
  have o4 := hid (Sa.out.o.add o3 e4.out).1
  have j1 := Sa.out.none_impl
  have e3 := hid e3
  obtain ⟨c1, hc1⟩ : ∃ c, (a.addB d).1 = c := ⟨_, rfl⟩
  obtain ⟨c2, hc2⟩ : ∃ c, (a.mulB n).1 = c := ⟨_, rfl⟩
  obtain ⟨c3, hc3⟩ : ∃ c, a.negB.1 = c := ⟨_, rfl⟩
  rw [hc3] at e4 o4 j1 o3
  obtain ⟨c4, hc4⟩ : ∃ c, (a.addB c3).1 = c := ⟨_, rfl⟩
  rw [hc4] at o4 j1
  rw [hc1] at i1
  rw [hc2] at md ok2
  have md := hid md
  have ok2 := hid ok2
  have o3 := hid o3
  have j1 := hid j1
  have hs : ∀ c : Pb, c.same c = true := fun c => by simp [Pb.same]
  have Hs := hid hs
  have hk := hid hn
  have Hc1 := hid hc1
  have Hc2 := hid hc2
  have Hc3 := hid hc3
  have Hc4 := hid hc4
  have Ha := hid ha
  have Hd := hid hd
  have Hu := hid hu
  have Hv := hid hv
  have Hx := hid hx
  have Hy := hid hy
  clear hn hc1 hc2 hc3 hc4 ha hd hu hv hx hy hs hb1 hb2 l3
  go_enter Tryd.func9, Tryd.ntmps9
  go_wp2_with fail
  refine (small25_any Hu.out Hv.out).mono ?_
  rintro r W1 ⟨⟨Apa, xpa, ypa, Dpa, zpa, tpa, rfl, hp⟩, b⟩
  rw [Ha.out] at hp ⊢
  have Hx := hid (Hx.out.below b)
  have Hy := hid (Hy.out.below b)
  have B := hid b
  have pa := hid hp
  clear b hp
  go_wp2_with fail
  refine (small25_any Hx.out Hy.out).mono ?_
  rintro r W2 ⟨⟨Apd, xpd, ypd, Dpd, zpd, tpd, rfl, hp⟩, b⟩
  rw [Hd.out] at hp ⊢
  have Hx := hid (Hx.out.below b)
  have Hy := hid (Hy.out.below b)
  have pa := hid (pa.out.below b)
  have B := hid (B.out.trans (b.mono B.out.size))
  have pd := hid hp
  clear b hp
  clear Hx Hy
  go_upto_region 2 with fail
  obtain ⟨W3, hW, b, k, sx⟩ := alloc_step W2 (.cells #[.slice Apa xpa ypa, .slice Dpa zpa tpa, .int .i64 a.bound] 24)
  rw [hW]
  clear sx
  obtain ⟨Zka, hZ⟩ : ∃ z, W2.heap.size = z := ⟨_, rfl⟩
  have sW3 : W3.heap.size = W2.heap.size + 1 := by rw [← hW]; exact World.size_alloc _ _
  rw [hZ] at k sW3
  try rw [hZ]
  clear hW hZ
  have pa := hid (pa.out.below b)
  have pd := hid (pd.out.below b)
  have B := hid (B.out.trans (b.mono B.out.size))
  have ka := hid k
  clear b k
  obtain ⟨W4, hW, b, k, sx⟩ := alloc_step W3 (.cells #[.slice Apd xpd ypd, .slice Dpd zpd tpd, .int .i64 d.bound] 24)
  rw [hW]
  clear sx
  obtain ⟨Zkd, hZ⟩ : ∃ z, W3.heap.size = z := ⟨_, rfl⟩
  have sW4 : W4.heap.size = W3.heap.size + 1 := by rw [← hW]; exact World.size_alloc _ _
  have hZ2 := hZ
  rw [sW3] at hZ2
  rw [hZ] at k sW4
  try rw [hZ2]
  clear hW hZ hZ2
  have pa := hid (pa.out.below b)
  have pd := hid (pd.out.below b)
  have ka := hid (keep_blk ka.out b)
  have B := hid (B.out.trans (b.mono B.out.size))
  have kd := hid k
  clear b k
  obtain ⟨kae0, kae1, kae2⟩ := box3 ka.out
  obtain ⟨kde0, kde1, kde2⟩ := box3 kd.out
  go_wp2_with fail
  clear kae0 kae1 kae2 kde0 kde1 kde2
  refine (add_any pa.out pd.out Sa.out.o.ok.i64 Sd.out.o.ok.i64).mono ?_
  rintro r W5 ⟨⟨pv, rfl, hp⟩, b⟩
  rw [Hc1.out] at hp
  rw [e1.out]
  have hp2 := hid hp
  obtain ⟨⟨Ap1, xp1, yp1, Dp1, zp1, tp1, rfl, _, _⟩, _⟩ := hp
  have pa := hid (pa.out.below b)
  have pd := hid (pd.out.below b)
  have ka := hid (keep_blk ka.out b)
  have kd := hid (keep_blk kd.out b)
  have B := hid (B.out.trans (b.mono B.out.size))
  have p1 := hp2
  clear b hp2
  go_upto_region 3 with fail
  obtain ⟨W6, hW, b, k, sx⟩ := alloc_step W5 (.cells #[.slice Ap1 xp1 yp1, .slice Dp1 zp1 tp1, .int .i64 c1.bound] 24)
  rw [hW]
  clear sx
  obtain ⟨Zk1, hZ⟩ : ∃ z, W5.heap.size = z := ⟨_, rfl⟩
  have sW6 : W6.heap.size = W5.heap.size + 1 := by rw [← hW]; exact World.size_alloc _ _
  rw [hZ] at k sW6
  try rw [hZ]
  clear hW hZ
  have pa := hid (pa.out.below b)
  have pd := hid (pd.out.below b)
  have ka := hid (keep_blk ka.out b)
  have kd := hid (keep_blk kd.out b)
  have p1 := hid (p1.out.below b)
  have B := hid (B.out.trans (b.mono B.out.size))
  have k1 := hid k
  clear b k
  obtain ⟨kae0, kae1, kae2⟩ := box3 ka.out
  obtain ⟨kde0, kde1, kde2⟩ := box3 kd.out
  go_wp2_with fail
  clear kae0 kae1 kae2 kde0 kde1 kde2
  refine (add_any pd.out pa.out Sd.out.o.ok.i64 Sa.out.o.ok.i64).mono ?_
  rintro r W7 ⟨⟨pv, rfl, hp⟩, b⟩
  rw [hcm.out] at hp ⊢
  rw [Hc1.out] at hp
  rw [e1.out]
  have hp2 := hid hp
  obtain ⟨⟨Ap2, xp2, yp2, Dp2, zp2, tp2, rfl, _, _⟩, _⟩ := hp
  have pa := hid (pa.out.below b)
  have pd := hid (pd.out.below b)
  have ka := hid (keep_blk ka.out b)
  have kd := hid (keep_blk kd.out b)
  have p1 := hid (p1.out.below b)
  have k1 := hid (keep_blk k1.out b)
  have B := hid (B.out.trans (b.mono B.out.size))
  have p2 := hp2
  clear b hp2
  clear pd kd
  go_upto_region 4 with fail
  obtain ⟨W8, hW, b, k, sx⟩ := alloc_step W7 (.cells #[.slice Ap2 xp2 yp2, .slice Dp2 zp2 tp2, .int .i64 c1.bound] 24)
  rw [hW]
  clear sx
  obtain ⟨Zk2, hZ⟩ : ∃ z, W7.heap.size = z := ⟨_, rfl⟩
  have sW8 : W8.heap.size = W7.heap.size + 1 := by rw [← hW]; exact World.size_alloc _ _
  rw [hZ] at k sW8
  try rw [hZ]
  clear hW hZ
  have pa := hid (pa.out.below b)
  have ka := hid (keep_blk ka.out b)
  have p1 := hid (p1.out.below b)
  have k1 := hid (keep_blk k1.out b)
  have p2 := hid (p2.out.below b)
  have B := hid (B.out.trans (b.mono B.out.size))
  have k2 := hid k
  clear b k
  obtain ⟨kae0, kae1, kae2⟩ := box3 ka.out
  go_wp2_with fail
  clear kae0 kae1 kae2
  refine (add_any pa.out (PbRd.zero _ (fun _ => True)) Sa.out.o.ok.i64 (i64s (by decide))).mono ?_
  rintro r W9 ⟨⟨pv, rfl, hp⟩, b⟩
  rw [hz.out] at hp ⊢
  dsimp only at hp
  have hp2 := hid hp
  obtain ⟨⟨Apz, xpz, ypz, Dpz, zpz, tpz, rfl, _, _⟩, _⟩ := hp
  have pa := hid (pa.out.below b)
  have ka := hid (keep_blk ka.out b)
  have p1 := hid (p1.out.below b)
  have k1 := hid (keep_blk k1.out b)
  have p2 := hid (p2.out.below b)
  have k2 := hid (keep_blk k2.out b)
  have B := hid (B.out.trans (b.mono B.out.size))
  have pz := hp2
  clear b hp2
  go_upto_region 5 with fail
  obtain ⟨W10, hW, b, k, sx⟩ := alloc_step W9 (.cells #[.slice Apz xpz ypz, .slice Dpz zpz tpz, .int .i64 a.bound] 24)
  rw [hW]
  clear sx
  obtain ⟨Zkz, hZ⟩ : ∃ z, W9.heap.size = z := ⟨_, rfl⟩
  have sW10 : W10.heap.size = W9.heap.size + 1 := by rw [← hW]; exact World.size_alloc _ _
  rw [hZ] at k sW10
  try rw [hZ]
  clear hW hZ
  have pa := hid (pa.out.below b)
  have ka := hid (keep_blk ka.out b)
  have p1 := hid (p1.out.below b)
  have k1 := hid (keep_blk k1.out b)
  have p2 := hid (p2.out.below b)
  have k2 := hid (keep_blk k2.out b)
  have pz := hid (pz.out.below b)
  have B := hid (B.out.trans (b.mono B.out.size))
  have kz := hid k
  clear b k
  obtain ⟨kae0, kae1, kae2⟩ := box3 ka.out
  go_wp2_with fail
  clear kae0 kae1 kae2
  refine (mul_any pa.out Sa.out.o.ok.i64).mono ?_
  rintro r W11 ⟨⟨pv, rfl, hp⟩, b⟩
  rw [hm1.out] at hp ⊢
  dsimp only at hp
  have hp2 := hid hp
  obtain ⟨⟨Apo, xpo, ypo, Dpo, zpo, tpo, rfl, _, _⟩, _⟩ := hp
  have pa := hid (pa.out.below b)
  have ka := hid (keep_blk ka.out b)
  have p1 := hid (p1.out.below b)
  have k1 := hid (keep_blk k1.out b)
  have p2 := hid (p2.out.below b)
  have k2 := hid (keep_blk k2.out b)
  have pz := hid (pz.out.below b)
  have kz := hid (keep_blk kz.out b)
  have B := hid (B.out.trans (b.mono B.out.size))
  have po := hp2
  clear b hp2
  go_upto_region 6 with fail
  obtain ⟨W12, hW, b, k, sx⟩ := alloc_step W11 (.cells #[.slice Apo xpo ypo, .slice Dpo zpo tpo, .int .i64 a.bound] 24)
  rw [hW]
  clear sx
  obtain ⟨Zko, hZ⟩ : ∃ z, W11.heap.size = z := ⟨_, rfl⟩
  have sW12 : W12.heap.size = W11.heap.size + 1 := by rw [← hW]; exact World.size_alloc _ _
  rw [hZ] at k sW12
  try rw [hZ]
  clear hW hZ
  have pa := hid (pa.out.below b)
  have ka := hid (keep_blk ka.out b)
  have p1 := hid (p1.out.below b)
  have k1 := hid (keep_blk k1.out b)
  have p2 := hid (p2.out.below b)
  have k2 := hid (keep_blk k2.out b)
  have pz := hid (pz.out.below b)
  have kz := hid (keep_blk kz.out b)
  have po := hid (po.out.below b)
  have B := hid (B.out.trans (b.mono B.out.size))
  have ko := hid k
  clear b k
  obtain ⟨kae0, kae1, kae2⟩ := box3 ka.out
  go_wp2_with fail
  clear kae0 kae1 kae2
  refine (div_any pa.out Sa.out.o.ok.i64).mono ?_
  rintro r W13 ⟨⟨pv, rfl, hp⟩, b⟩
  rw [hd1.out] at hp ⊢
  dsimp only at hp
  have hp2 := hid hp
  obtain ⟨⟨Apy, xpy, ypy, Dpy, zpy, tpy, rfl, _, _⟩, _⟩ := hp
  have pa := hid (pa.out.below b)
  have ka := hid (keep_blk ka.out b)
  have p1 := hid (p1.out.below b)
  have k1 := hid (keep_blk k1.out b)
  have p2 := hid (p2.out.below b)
  have k2 := hid (keep_blk k2.out b)
  have pz := hid (pz.out.below b)
  have kz := hid (keep_blk kz.out b)
  have po := hid (po.out.below b)
  have ko := hid (keep_blk ko.out b)
  have B := hid (B.out.trans (b.mono B.out.size))
  have py := hp2
  clear b hp2
  go_upto_region 7 with fail
  obtain ⟨W14, hW, b, k, sx⟩ := alloc_step W13 (.cells #[.slice Apy xpy ypy, .slice Dpy zpy tpy, .int .i64 a.bound] 24)
  rw [hW]
  clear sx
  obtain ⟨Zky, hZ⟩ : ∃ z, W13.heap.size = z := ⟨_, rfl⟩
  have sW14 : W14.heap.size = W13.heap.size + 1 := by rw [← hW]; exact World.size_alloc _ _
  rw [hZ] at k sW14
  try rw [hZ]
  clear hW hZ
  have pa := hid (pa.out.below b)
  have ka := hid (keep_blk ka.out b)
  have p1 := hid (p1.out.below b)
  have k1 := hid (keep_blk k1.out b)
  have p2 := hid (p2.out.below b)
  have k2 := hid (keep_blk k2.out b)
  have pz := hid (pz.out.below b)
  have kz := hid (keep_blk kz.out b)
  have po := hid (po.out.below b)
  have ko := hid (keep_blk ko.out b)
  have py := hid (py.out.below b)
  have B := hid (B.out.trans (b.mono B.out.size))
  have ky := hid k
  clear b k
  obtain ⟨kae0, kae1, kae2⟩ := box3 ka.out
  go_wp2_with fail
  clear kae0 kae1 kae2
  refine (mul_any pa.out Sa.out.o.ok.i64).mono ?_
  rintro r W15 ⟨⟨pv, rfl, hp⟩, b⟩
  rw [Hc2.out] at hp
  rw [e2.out]
  have hp2 := hid hp
  obtain ⟨⟨Apm, xpm, ypm, Dpm, zpm, tpm, rfl, _, _⟩, _⟩ := hp
  have pa := hid (pa.out.below b)
  have ka := hid (keep_blk ka.out b)
  have p1 := hid (p1.out.below b)
  have k1 := hid (keep_blk k1.out b)
  have p2 := hid (p2.out.below b)
  have k2 := hid (keep_blk k2.out b)
  have pz := hid (pz.out.below b)
  have kz := hid (keep_blk kz.out b)
  have po := hid (po.out.below b)
  have ko := hid (keep_blk ko.out b)
  have py := hid (py.out.below b)
  have ky := hid (keep_blk ky.out b)
  have B := hid (B.out.trans (b.mono B.out.size))
  have pm := hp2
  clear b hp2
  go_upto_region 8 with fail
  obtain ⟨W16, hW, b, k, sx⟩ := alloc_step W15 (.cells #[.slice Apm xpm ypm, .slice Dpm zpm tpm, .int .i64 c2.bound] 24)
  rw [hW]
  clear sx
  obtain ⟨Zkm, hZ⟩ : ∃ z, W15.heap.size = z := ⟨_, rfl⟩
  have sW16 : W16.heap.size = W15.heap.size + 1 := by rw [← hW]; exact World.size_alloc _ _
  rw [hZ] at k sW16
  try rw [hZ]
  clear hW hZ
  have pa := hid (pa.out.below b)
  have ka := hid (keep_blk ka.out b)
  have p1 := hid (p1.out.below b)
  have k1 := hid (keep_blk k1.out b)
  have p2 := hid (p2.out.below b)
  have k2 := hid (keep_blk k2.out b)
  have pz := hid (pz.out.below b)
  have kz := hid (keep_blk kz.out b)
  have po := hid (po.out.below b)
  have ko := hid (keep_blk ko.out b)
  have py := hid (py.out.below b)
  have ky := hid (keep_blk ky.out b)
  have pm := hid (pm.out.below b)
  have B := hid (B.out.trans (b.mono B.out.size))
  have km := hid k
  clear b k
  obtain ⟨kme0, kme1, kme2⟩ := box3 km.out
  go_wp2_with fail
  clear kme0 kme1 kme2
  refine (div_any pm.out ok2.out.i64).mono ?_
  rintro r W17 ⟨⟨pv, rfl, hp⟩, b⟩
  rw [md.out] at hp ⊢
  dsimp only at hp
  have hp2 := hid hp
  obtain ⟨⟨Apb, xpb, ypb, Dpb, zpb, tpb, rfl, _, _⟩, _⟩ := hp
  have pa := hid (pa.out.below b)
  have ka := hid (keep_blk ka.out b)
  have p1 := hid (p1.out.below b)
  have k1 := hid (keep_blk k1.out b)
  have p2 := hid (p2.out.below b)
  have k2 := hid (keep_blk k2.out b)
  have pz := hid (pz.out.below b)
  have kz := hid (keep_blk kz.out b)
  have po := hid (po.out.below b)
  have ko := hid (keep_blk ko.out b)
  have py := hid (py.out.below b)
  have ky := hid (keep_blk ky.out b)
  have pm := hid (pm.out.below b)
  have km := hid (keep_blk km.out b)
  have B := hid (B.out.trans (b.mono B.out.size))
  have pb := hp2
  clear b hp2
  clear km pm
  go_upto_region 9 with fail
  obtain ⟨W18, hW, b, k, sx⟩ := alloc_step W17 (.cells #[.slice Apb xpb ypb, .slice Dpb zpb tpb, .int .i64 a.bound] 24)
  rw [hW]
  clear sx
  obtain ⟨Zkb, hZ⟩ : ∃ z, W17.heap.size = z := ⟨_, rfl⟩
  have sW18 : W18.heap.size = W17.heap.size + 1 := by rw [← hW]; exact World.size_alloc _ _
  rw [hZ] at k sW18
  try rw [hZ]
  clear hW hZ
  have pa := hid (pa.out.below b)
  have ka := hid (keep_blk ka.out b)
  have p1 := hid (p1.out.below b)
  have k1 := hid (keep_blk k1.out b)
  have p2 := hid (p2.out.below b)
  have k2 := hid (keep_blk k2.out b)
  have pz := hid (pz.out.below b)
  have kz := hid (keep_blk kz.out b)
  have po := hid (po.out.below b)
  have ko := hid (keep_blk ko.out b)
  have py := hid (py.out.below b)
  have ky := hid (keep_blk ky.out b)
  have pb := hid (pb.out.below b)
  have B := hid (B.out.trans (b.mono B.out.size))
  have kb := hid k
  clear b k
  obtain ⟨kae0, kae1, kae2⟩ := box3 ka.out
  go_wp2_with fail
  clear kae0 kae1 kae2
  refine (negate_any pa.out Sa.out.o.ok.i64).mono ?_
  rintro r W19 ⟨⟨pv, rfl, hp⟩, b⟩
  rw [Hc3.out] at hp
  rw [e3.out]
  have hp2 := hid hp
  obtain ⟨⟨Apn, xpn, ypn, Dpn, zpn, tpn, rfl, _, _⟩, _⟩ := hp
  have pa := hid (pa.out.below b)
  have ka := hid (keep_blk ka.out b)
  have p1 := hid (p1.out.below b)
  have k1 := hid (keep_blk k1.out b)
  have p2 := hid (p2.out.below b)
  have k2 := hid (keep_blk k2.out b)
  have pz := hid (pz.out.below b)
  have kz := hid (keep_blk kz.out b)
  have po := hid (po.out.below b)
  have ko := hid (keep_blk ko.out b)
  have py := hid (py.out.below b)
  have ky := hid (keep_blk ky.out b)
  have pb := hid (pb.out.below b)
  have kb := hid (keep_blk kb.out b)
  have B := hid (B.out.trans (b.mono B.out.size))
  have pn := hp2
  clear b hp2
  go_upto_region 10 with fail
  obtain ⟨W20, hW, b, k, sx⟩ := alloc_step W19 (.cells #[.slice Apn xpn ypn, .slice Dpn zpn tpn, .int .i64 c3.bound] 24)
  rw [hW]
  clear sx
  obtain ⟨Zkn, hZ⟩ : ∃ z, W19.heap.size = z := ⟨_, rfl⟩
  have sW20 : W20.heap.size = W19.heap.size + 1 := by rw [← hW]; exact World.size_alloc _ _
  rw [hZ] at k sW20
  try rw [hZ]
  clear hW hZ
  have pa := hid (pa.out.below b)
  have ka := hid (keep_blk ka.out b)
  have p1 := hid (p1.out.below b)
  have k1 := hid (keep_blk k1.out b)
  have p2 := hid (p2.out.below b)
  have k2 := hid (keep_blk k2.out b)
  have pz := hid (pz.out.below b)
  have kz := hid (keep_blk kz.out b)
  have po := hid (po.out.below b)
  have ko := hid (keep_blk ko.out b)
  have py := hid (py.out.below b)
  have ky := hid (keep_blk ky.out b)
  have pb := hid (pb.out.below b)
  have kb := hid (keep_blk kb.out b)
  have pn := hid (pn.out.below b)
  have B := hid (B.out.trans (b.mono B.out.size))
  have kn := hid k
  clear b k
  obtain ⟨kae0, kae1, kae2⟩ := box3 ka.out
  obtain ⟨kne0, kne1, kne2⟩ := box3 kn.out
  go_wp2_with fail
  clear kae0 kae1 kae2 kne0 kne1 kne2
  refine (add_any pa.out pn.out Sa.out.o.ok.i64 o3.out.ok.i64).mono ?_
  rintro r W21 ⟨⟨pv, rfl, hp⟩, b⟩
  rw [Hc4.out] at hp
  rw [e4.out]
  have hp2 := hid hp
  obtain ⟨⟨Ap4, xp4, yp4, Dp4, zp4, tp4, rfl, _, _⟩, _⟩ := hp
  have pa := hid (pa.out.below b)
  have ka := hid (keep_blk ka.out b)
  have p1 := hid (p1.out.below b)
  have k1 := hid (keep_blk k1.out b)
  have p2 := hid (p2.out.below b)
  have k2 := hid (keep_blk k2.out b)
  have pz := hid (pz.out.below b)
  have kz := hid (keep_blk kz.out b)
  have po := hid (po.out.below b)
  have ko := hid (keep_blk ko.out b)
  have py := hid (py.out.below b)
  have ky := hid (keep_blk ky.out b)
  have pb := hid (pb.out.below b)
  have kb := hid (keep_blk kb.out b)
  have pn := hid (pn.out.below b)
  have kn := hid (keep_blk kn.out b)
  have B := hid (B.out.trans (b.mono B.out.size))
  have p4 := hp2
  clear b hp2
  clear kn pn
  go_upto_region 11 with fail
  obtain ⟨W22, hW, b, k, sx⟩ := alloc_step W21 (.cells #[.slice Ap4 xp4 yp4, .slice Dp4 zp4 tp4, .int .i64 c4.bound] 24)
  rw [hW]
  clear sx
  obtain ⟨Zk4, hZ⟩ : ∃ z, W21.heap.size = z := ⟨_, rfl⟩
  have sW22 : W22.heap.size = W21.heap.size + 1 := by rw [← hW]; exact World.size_alloc _ _
  rw [hZ] at k sW22
  try rw [hZ]
  clear hW hZ
  have pa := hid (pa.out.below b)
  have ka := hid (keep_blk ka.out b)
  have p1 := hid (p1.out.below b)
  have k1 := hid (keep_blk k1.out b)
  have p2 := hid (p2.out.below b)
  have k2 := hid (keep_blk k2.out b)
  have pz := hid (pz.out.below b)
  have kz := hid (keep_blk kz.out b)
  have po := hid (po.out.below b)
  have ko := hid (keep_blk ko.out b)
  have py := hid (py.out.below b)
  have ky := hid (keep_blk ky.out b)
  have pb := hid (pb.out.below b)
  have kb := hid (keep_blk kb.out b)
  have p4 := hid (p4.out.below b)
  have B := hid (B.out.trans (b.mono B.out.size))
  have k4 := hid k
  clear b k
  obtain ⟨k1e0, k1e1, k1e2⟩ := box3 k1.out
  obtain ⟨k2e0, k2e1, k2e2⟩ := box3 k2.out
  go_wp2_with fail
  clear k1e0 k1e1 k1e2 k2e0 k2e1 k2e2
  refine (equal_any p1.out p2.out).mono ?_
  rintro r W23 ⟨rfl, b⟩
  rw [Hs.out]
  have pa := hid (pa.out.below b)
  have ka := hid (keep_blk ka.out b)
  have p1 := hid (p1.out.below b)
  have k1 := hid (keep_blk k1.out b)
  have p2 := hid (p2.out.below b)
  have k2 := hid (keep_blk k2.out b)
  have pz := hid (pz.out.below b)
  have kz := hid (keep_blk kz.out b)
  have po := hid (po.out.below b)
  have ko := hid (keep_blk ko.out b)
  have py := hid (py.out.below b)
  have ky := hid (keep_blk ky.out b)
  have pb := hid (pb.out.below b)
  have kb := hid (keep_blk kb.out b)
  have p4 := hid (p4.out.below b)
  have k4 := hid (keep_blk k4.out b)
  have B := hid (B.out.trans (b.mono B.out.size))
  clear b
  clear k1 k2 p1 p2
  obtain ⟨kze0, kze1, kze2⟩ := box3 kz.out
  obtain ⟨kae0, kae1, kae2⟩ := box3 ka.out
  go_wp2_with fail
  clear kze0 kze1 kze2 kae0 kae1 kae2
  refine (equal_any pz.out pa.out).mono ?_
  rintro r W24 ⟨rfl, b⟩
  rw [Hs.out]
  have pa := hid (pa.out.below b)
  have ka := hid (keep_blk ka.out b)
  have pz := hid (pz.out.below b)
  have kz := hid (keep_blk kz.out b)
  have po := hid (po.out.below b)
  have ko := hid (keep_blk ko.out b)
  have py := hid (py.out.below b)
  have ky := hid (keep_blk ky.out b)
  have pb := hid (pb.out.below b)
  have kb := hid (keep_blk kb.out b)
  have p4 := hid (p4.out.below b)
  have k4 := hid (keep_blk k4.out b)
  have B := hid (B.out.trans (b.mono B.out.size))
  clear b
  clear kz pz
  obtain ⟨koe0, koe1, koe2⟩ := box3 ko.out
  obtain ⟨kae0, kae1, kae2⟩ := box3 ka.out
  go_wp2_with fail
  clear koe0 koe1 koe2 kae0 kae1 kae2
  refine (equal_any po.out pa.out).mono ?_
  rintro r W25 ⟨rfl, b⟩
  rw [Hs.out]
  have pa := hid (pa.out.below b)
  have ka := hid (keep_blk ka.out b)
  have po := hid (po.out.below b)
  have ko := hid (keep_blk ko.out b)
  have py := hid (py.out.below b)
  have ky := hid (keep_blk ky.out b)
  have pb := hid (pb.out.below b)
  have kb := hid (keep_blk kb.out b)
  have p4 := hid (p4.out.below b)
  have k4 := hid (keep_blk k4.out b)
  have B := hid (B.out.trans (b.mono B.out.size))
  clear b
  clear ko po
  obtain ⟨kye0, kye1, kye2⟩ := box3 ky.out
  obtain ⟨kae0, kae1, kae2⟩ := box3 ka.out
  go_wp2_with fail
  clear kye0 kye1 kye2 kae0 kae1 kae2
  refine (equal_any py.out pa.out).mono ?_
  rintro r W26 ⟨rfl, b⟩
  rw [Hs.out]
  have pa := hid (pa.out.below b)
  have ka := hid (keep_blk ka.out b)
  have py := hid (py.out.below b)
  have ky := hid (keep_blk ky.out b)
  have pb := hid (pb.out.below b)
  have kb := hid (keep_blk kb.out b)
  have p4 := hid (p4.out.below b)
  have k4 := hid (keep_blk k4.out b)
  have B := hid (B.out.trans (b.mono B.out.size))
  clear b
  clear ky py
  obtain ⟨kbe0, kbe1, kbe2⟩ := box3 kb.out
  obtain ⟨kae0, kae1, kae2⟩ := box3 ka.out
  go_wp2_with fail
  clear kbe0 kbe1 kbe2 kae0 kae1 kae2
  refine (equal_any pb.out pa.out).mono ?_
  rintro r W27 ⟨rfl, b⟩
  rw [Hs.out]
  have pa := hid (pa.out.below b)
  have ka := hid (keep_blk ka.out b)
  have pb := hid (pb.out.below b)
  have kb := hid (keep_blk kb.out b)
  have p4 := hid (p4.out.below b)
  have k4 := hid (keep_blk k4.out b)
  have B := hid (B.out.trans (b.mono B.out.size))
  clear b
  clear kb pb
  obtain ⟨k4e0, k4e1, k4e2⟩ := box3 k4.out
  go_wp2_with fail
  clear k4e0 k4e1 k4e2
  obtain ⟨W28, hW, b, ho⟩ := ps_lit (ps := [c4]) (ts := [(_, _, _)]) ((Ps.nil _ (fun _ => True)).snoc (t := (_, _, _)) (p4.out.mono fun _ _ _ => trivial)) (by simp) (by simp)
  rw [show W27.alloc (.cells #[.slice Ap4 xp4 yp4, .slice Dp4 zp4 tp4, .int .i64 c4.bound] 24) = W28 from hW]
  have sW28 : W28.heap.size = W27.heap.size + 1 := by rw [← hW]; exact World.size_alloc _ _
  clear hW
  have pa := hid (pa.out.below b)
  have ka := hid (keep_blk ka.out b)
  have p4 := hid (p4.out.below b)
  have k4 := hid (keep_blk k4.out b)
  have B := hid (B.out.trans (b.mono B.out.size))
  have pr := hid ho
  clear b ho
  refine (implied_any (PbRd.one _ (fun _ => True)) (i64s (by decide)) pr.out (by intro p hp; simp at hp; subst hp; exact o4.out.ok.i64)).mono ?_
  rintro r W29 ⟨rfl, b⟩
  rw [j1.out]
  have pa := hid (pa.out.below b)
  have ka := hid (keep_blk ka.out b)
  have p4 := hid (p4.out.below b)
  have k4 := hid (keep_blk k4.out b)
  have pr := hid (pr.out.below b)
  have B := hid (B.out.trans (b.mono B.out.size))
  clear b
  clear pr
  go_wp2_with fail
  refine (awake25_any).mono ?_
  rintro r W30 ⟨rfl, b⟩
  have pa := hid (pa.out.below b)
  have ka := hid (keep_blk ka.out b)
  have p4 := hid (p4.out.below b)
  have k4 := hid (keep_blk k4.out b)
  have B := hid (B.out.trans (b.mono B.out.size))
  clear b
  go_wp2_with fail
  go_ret
  exact ⟨rfl, B.out⟩
end Go.Proofs.YtooioikkgdgnnaaDoor
