/-
  Chapter 25: the walk of CutWrong (written by gen_laws.py).
-/
import Derived.Test.YtooioikkgdgnnaaDoorLwWrH
namespace Go.Proofs.YtooioikkgdgnnaaDoor
open Go.RowKit

set_option maxRecDepth 100000 in
set_option maxHeartbeats 8000000 in
theorem wrong_walk {w : World} {F G : Nat → Prop} {u v : Value} {n1 n2 : Nat} {ls ks : List Int} {b kk way : Int} (hu : Rd w F 1 u n1 (ints ls)) (hv : Rd w G 1 v n2 (ints ks)) (hwy : 0 ≤ way ∧ way ≤ 255) :
    Calls Tryd.prog 5 #[u, v, .int .i64 b, .int .i64 kk, .int .u8 way] w fun r w' => r = .returned (.bool true) ∧ Below w.heap.size w w' := by
  obtain ⟨a, ha⟩ : ∃ c, (normed (smL ls ks) (smC ls ks) (Int.tmod b 41)).1 = c := ⟨_, rfl⟩
  have Sa := hid (ha ▸ small_is ls ks b)
  obtain ⟨lo, hlo⟩ : ∃ n, min kk 0 = n := ⟨_, rfl⟩
  obtain ⟨hi, hhi⟩ : ∃ n, max kk 16777217 = n := ⟨_, rfl⟩
  have hmn : ∀ w, (Builtin.min_ #[3, 3] 3 #[.int .i64 kk, .int .i64 0]).run Tryd.prog w = .ok (.int .i64 lo) w := fun w => by rw [← hlo]; exact run_min kk 0 w
  have hmx : ∀ w, (Builtin.max_ #[3, 3] 3 #[.int .i64 kk, .int .i64 16777217]).run Tryd.prog w = .ok (.int .i64 hi) w := fun w => by rw [← hhi]; exact run_max kk 16777217 w
  have m1 := hid (mul_bad (a := a) (k := lo) (by omega))
  have m2 := hid (mul_bad (a := a) (k := hi) (by omega))
  have d1 := hid (div_bad (a := a) (k := lo) (by omega))
  have d2 := hid (div_bad (a := a) (k := hi) (by omega))
  have k1 := hid (weak_bad (a := a) (k := lo) (by omega))
  have Ha := hid ha
  have Hu := hid hu
  have Hv := hid hv
  clear ha hu hv hlo hhi
  obtain ⟨kd, z, hix, hrn⟩ := six_index (way % 6) (by omega)
  have hrA := hid (hrn a Sa.out.o.ok)
  have Hix := hid hix
  clear hix hrn
  obtain ⟨c5, hc5⟩ : ∃ c, (Pb.mulB ⟨[1, 2], [1, 1], 1⟩ 16777216).1 = c := ⟨_, rfl⟩
  have Hc5 := hid hc5
  clear hc5
  go_enter Tryd.func5, Tryd.ntmps5
  go_wp2_with fail
  refine (small25_any Hu.out Hv.out).mono ?_
  rintro r W1 ⟨⟨Apa, xpa, ypa, Dpa, zpa, tpa, rfl, hp⟩, b⟩
  rw [Ha.out] at hp ⊢
  have B := hid b
  have pa := hid hp
  clear b hp
  go_upto_region 2 with fail
  obtain ⟨W2, hW, b, k, sx⟩ := alloc_step W1 (.cells #[.slice Apa xpa ypa, .slice Dpa zpa tpa, .int .i64 a.bound] 24)
  rw [hW]
  clear sx
  obtain ⟨Zka, hZ⟩ : ∃ z, W1.heap.size = z := ⟨_, rfl⟩
  have sW2 : W2.heap.size = W1.heap.size + 1 := by rw [← hW]; exact World.size_alloc _ _
  rw [hZ] at k sW2
  try rw [hZ]
  clear hW hZ
  have pa := hid (pa.out.below b)
  have B := hid (B.out.trans (b.mono B.out.size))
  have ka := hid k
  clear b k
  go_upto_region 3 with fail
  clear sW2
  clear hmn hmx
  go_upto_region 4 with fail
  obtain ⟨W3, hW, b, ho⟩ := lit_one (w := W2) [1] (by decide) (by decide)
  rw [show W2.alloc (.cells #[.int .i64 1] 3) = W3 from hW]
  have sW3 : W3.heap.size = W2.heap.size + 1 := by rw [← hW]; exact World.size_alloc _ _
  clear hW
  have pa := hid (pa.out.below b)
  have ka := hid (keep_blk ka.out b)
  have B := hid (B.out.trans (b.mono B.out.size))
  have l1 := hid ho
  clear b ho
  obtain ⟨W4, hW, b, ho⟩ := lit_one (w := W3) [2] (by decide) (by decide)
  rw [show W3.alloc (.cells #[.int .i64 2] 3) = W4 from hW]
  have sW4 : W4.heap.size = W3.heap.size + 1 := by rw [← hW]; exact World.size_alloc _ _
  rw [sW3] at ho sW4
  clear hW
  have pa := hid (pa.out.below b)
  have ka := hid (keep_blk ka.out b)
  have l1 := hid (l1.out.below b)
  have B := hid (B.out.trans (b.mono B.out.size))
  have l2 := hid ho
  clear b ho
  have pb := hid (PbRd.mk ⟨some ⟨W2.heap.size, 0, none⟩, 1, 1, some ⟨W2.heap.size + 1, 0, none⟩, 1, 1, rfl, l1.out.mono fun _ _ _ => trivial, l2.out.mono fun _ _ _ => trivial⟩ (by unfold I64; decide) : PbRd W4 (fun _ => True) (.agg #[.slice (some ⟨W2.heap.size, 0, none⟩) 1 1, .slice (some ⟨W2.heap.size + 1, 0, none⟩) 1 1, .int .i64 1]) ⟨[1], [2], 1⟩)
  clear l1 l2
  obtain ⟨W5, hW, b, kx, sx⟩ := alloc_step W4 (.cells #[.slice (some ⟨W2.heap.size, 0, none⟩) 1 1, .slice (some ⟨W2.heap.size + 1, 0, none⟩) 1 1, .int .i64 1] 24)
  rw [hW]
  clear hW
  rw [sW4] at kx sx
  obtain ⟨Zkb, hZ⟩ : ∃ z, W2.heap.size + 1 + 1 = z := ⟨_, rfl⟩
  rw [hZ] at kx sx
  try rw [hZ]
  clear hZ sx
  have pa := hid (pa.out.below b)
  have ka := hid (keep_blk ka.out b)
  have pb := hid (pb.out.below b)
  have B := hid (B.out.trans (b.mono B.out.size))
  have kb := hid kx
  clear b kx
  obtain ⟨kae0, kae1, kae2⟩ := box3 ka.out
  go_wp2_with fail
  clear kae0 kae1 kae2
  refine (mul_any pa.out Sa.out.o.ok.i64).mono ?_
  rintro r W6 ⟨⟨pv, rfl, hp⟩, b⟩
  rw [m1.out] at hp ⊢
  dsimp only at hp
  have hp2 := hid hp
  obtain ⟨⟨Ar1, xr1, yr1, Dr1, zr1, tr1, rfl, _, _⟩, _⟩ := hp
  have pa := hid (pa.out.below b)
  have ka := hid (keep_blk ka.out b)
  have pb := hid (pb.out.below b)
  have kb := hid (keep_blk kb.out b)
  have B := hid (B.out.trans (b.mono B.out.size))
  have r1 := hp2
  clear b hp2
  go_upto_region 5 with fail
  obtain ⟨W7, hW, b, k, sx⟩ := alloc_step W6 (.cells #[.slice Ar1 xr1 yr1, .slice Dr1 zr1 tr1, .int .i64 0] 24)
  rw [hW]
  clear sx
  obtain ⟨Zkr1, hZ⟩ : ∃ z, W6.heap.size = z := ⟨_, rfl⟩
  have sW7 : W7.heap.size = W6.heap.size + 1 := by rw [← hW]; exact World.size_alloc _ _
  rw [hZ] at k sW7
  try rw [hZ]
  clear hW hZ
  have pa := hid (pa.out.below b)
  have ka := hid (keep_blk ka.out b)
  have pb := hid (pb.out.below b)
  have kb := hid (keep_blk kb.out b)
  have r1 := hid (r1.out.below b)
  have B := hid (B.out.trans (b.mono B.out.size))
  have kr1 := hid k
  clear b k
  clear kr1 r1
  obtain ⟨kae0, kae1, kae2⟩ := box3 ka.out
  go_wp2_with fail
  clear kae0 kae1 kae2
  refine (mul_any pa.out Sa.out.o.ok.i64).mono ?_
  rintro r W8 ⟨⟨pv, rfl, hp⟩, b⟩
  rw [m2.out] at hp ⊢
  dsimp only at hp
  have hp2 := hid hp
  obtain ⟨⟨Ar2, xr2, yr2, Dr2, zr2, tr2, rfl, _, _⟩, _⟩ := hp
  have pa := hid (pa.out.below b)
  have ka := hid (keep_blk ka.out b)
  have pb := hid (pb.out.below b)
  have kb := hid (keep_blk kb.out b)
  have B := hid (B.out.trans (b.mono B.out.size))
  have r2 := hp2
  clear b hp2
  go_upto_region 6 with fail
  obtain ⟨W9, hW, b, k, sx⟩ := alloc_step W8 (.cells #[.slice Ar2 xr2 yr2, .slice Dr2 zr2 tr2, .int .i64 0] 24)
  rw [hW]
  clear sx
  obtain ⟨Zkr2, hZ⟩ : ∃ z, W8.heap.size = z := ⟨_, rfl⟩
  have sW9 : W9.heap.size = W8.heap.size + 1 := by rw [← hW]; exact World.size_alloc _ _
  rw [hZ] at k sW9
  try rw [hZ]
  clear hW hZ
  have pa := hid (pa.out.below b)
  have ka := hid (keep_blk ka.out b)
  have pb := hid (pb.out.below b)
  have kb := hid (keep_blk kb.out b)
  have r2 := hid (r2.out.below b)
  have B := hid (B.out.trans (b.mono B.out.size))
  have kr2 := hid k
  clear b k
  clear kr2 r2
  obtain ⟨kae0, kae1, kae2⟩ := box3 ka.out
  go_wp2_with fail
  clear kae0 kae1 kae2
  refine (div_any pa.out Sa.out.o.ok.i64).mono ?_
  rintro r W10 ⟨⟨pv, rfl, hp⟩, b⟩
  rw [d1.out] at hp ⊢
  dsimp only at hp
  have hp2 := hid hp
  obtain ⟨⟨Ar3, xr3, yr3, Dr3, zr3, tr3, rfl, _, _⟩, _⟩ := hp
  have pa := hid (pa.out.below b)
  have ka := hid (keep_blk ka.out b)
  have pb := hid (pb.out.below b)
  have kb := hid (keep_blk kb.out b)
  have B := hid (B.out.trans (b.mono B.out.size))
  have r3 := hp2
  clear b hp2
  go_upto_region 7 with fail
  obtain ⟨W11, hW, b, k, sx⟩ := alloc_step W10 (.cells #[.slice Ar3 xr3 yr3, .slice Dr3 zr3 tr3, .int .i64 0] 24)
  rw [hW]
  clear sx
  obtain ⟨Zkr3, hZ⟩ : ∃ z, W10.heap.size = z := ⟨_, rfl⟩
  have sW11 : W11.heap.size = W10.heap.size + 1 := by rw [← hW]; exact World.size_alloc _ _
  rw [hZ] at k sW11
  try rw [hZ]
  clear hW hZ
  have pa := hid (pa.out.below b)
  have ka := hid (keep_blk ka.out b)
  have pb := hid (pb.out.below b)
  have kb := hid (keep_blk kb.out b)
  have r3 := hid (r3.out.below b)
  have B := hid (B.out.trans (b.mono B.out.size))
  have kr3 := hid k
  clear b k
  clear kr3 r3
  obtain ⟨kae0, kae1, kae2⟩ := box3 ka.out
  go_wp2_with fail
  clear kae0 kae1 kae2
  refine (div_any pa.out Sa.out.o.ok.i64).mono ?_
  rintro r W12 ⟨⟨pv, rfl, hp⟩, b⟩
  rw [d2.out] at hp ⊢
  dsimp only at hp
  have hp2 := hid hp
  obtain ⟨⟨Ar4, xr4, yr4, Dr4, zr4, tr4, rfl, _, _⟩, _⟩ := hp
  have pa := hid (pa.out.below b)
  have ka := hid (keep_blk ka.out b)
  have pb := hid (pb.out.below b)
  have kb := hid (keep_blk kb.out b)
  have B := hid (B.out.trans (b.mono B.out.size))
  have r4 := hp2
  clear b hp2
  go_upto_region 8 with fail
  obtain ⟨W13, hW, b, k, sx⟩ := alloc_step W12 (.cells #[.slice Ar4 xr4 yr4, .slice Dr4 zr4 tr4, .int .i64 0] 24)
  rw [hW]
  clear sx
  obtain ⟨Zkr4, hZ⟩ : ∃ z, W12.heap.size = z := ⟨_, rfl⟩
  have sW13 : W13.heap.size = W12.heap.size + 1 := by rw [← hW]; exact World.size_alloc _ _
  rw [hZ] at k sW13
  try rw [hZ]
  clear hW hZ
  have pa := hid (pa.out.below b)
  have ka := hid (keep_blk ka.out b)
  have pb := hid (pb.out.below b)
  have kb := hid (keep_blk kb.out b)
  have r4 := hid (r4.out.below b)
  have B := hid (B.out.trans (b.mono B.out.size))
  have kr4 := hid k
  clear b k
  clear kr4 r4
  obtain ⟨kae0, kae1, kae2⟩ := box3 ka.out
  go_wp2_with fail
  clear kae0 kae1 kae2
  refine (weak_any pa.out Sa.out.o.ok.i64).mono ?_
  rintro r W14 ⟨⟨pv, rfl, hp⟩, b⟩
  rw [k1.out] at hp ⊢
  dsimp only at hp
  have hp2 := hid hp
  obtain ⟨⟨Ar5, xr5, yr5, Dr5, zr5, tr5, rfl, _, _⟩, _⟩ := hp
  have pa := hid (pa.out.below b)
  have ka := hid (keep_blk ka.out b)
  have pb := hid (pb.out.below b)
  have kb := hid (keep_blk kb.out b)
  have B := hid (B.out.trans (b.mono B.out.size))
  have r5 := hp2
  clear b hp2
  go_upto_region 9 with fail
  obtain ⟨W15, hW, b, k, sx⟩ := alloc_step W14 (.cells #[.slice Ar5 xr5 yr5, .slice Dr5 zr5 tr5, .int .i64 0] 24)
  rw [hW]
  clear sx
  obtain ⟨Zkr5, hZ⟩ : ∃ z, W14.heap.size = z := ⟨_, rfl⟩
  have sW15 : W15.heap.size = W14.heap.size + 1 := by rw [← hW]; exact World.size_alloc _ _
  rw [hZ] at k sW15
  try rw [hZ]
  clear hW hZ
  have pa := hid (pa.out.below b)
  have ka := hid (keep_blk ka.out b)
  have pb := hid (pb.out.below b)
  have kb := hid (keep_blk kb.out b)
  have r5 := hid (r5.out.below b)
  have B := hid (B.out.trans (b.mono B.out.size))
  have kr5 := hid k
  clear b k
  clear kr5 r5
  obtain ⟨kae0, kae1, kae2⟩ := box3 ka.out
  obtain ⟨kbe0, kbe1, kbe2⟩ := box3 kb.out
  go_wp2_with fail
  clear kae0 kae1 kae2 kbe0 kbe1 kbe2
  refine (add_any pa.out pb.out Sa.out.o.ok.i64 (i64s (by decide))).mono ?_
  rintro r W16 ⟨⟨pv, rfl, hp⟩, b⟩
  rw [add_bad] at hp ⊢
  dsimp only at hp
  have hp2 := hid hp
  obtain ⟨⟨Ar6, xr6, yr6, Dr6, zr6, tr6, rfl, _, _⟩, _⟩ := hp
  have pa := hid (pa.out.below b)
  have ka := hid (keep_blk ka.out b)
  have pb := hid (pb.out.below b)
  have kb := hid (keep_blk kb.out b)
  have B := hid (B.out.trans (b.mono B.out.size))
  have r6 := hp2
  clear b hp2
  go_upto_region 10 with fail
  obtain ⟨W17, hW, b, k, sx⟩ := alloc_step W16 (.cells #[.slice Ar6 xr6 yr6, .slice Dr6 zr6 tr6, .int .i64 0] 24)
  rw [hW]
  clear sx
  obtain ⟨Zkr6, hZ⟩ : ∃ z, W16.heap.size = z := ⟨_, rfl⟩
  have sW17 : W17.heap.size = W16.heap.size + 1 := by rw [← hW]; exact World.size_alloc _ _
  rw [hZ] at k sW17
  try rw [hZ]
  clear hW hZ
  have pa := hid (pa.out.below b)
  have ka := hid (keep_blk ka.out b)
  have pb := hid (pb.out.below b)
  have kb := hid (keep_blk kb.out b)
  have r6 := hid (r6.out.below b)
  have B := hid (B.out.trans (b.mono B.out.size))
  have kr6 := hid k
  clear b k
  clear kr6 r6
  obtain ⟨kae0, kae1, kae2⟩ := box3 ka.out
  obtain ⟨kbe0, kbe1, kbe2⟩ := box3 kb.out
  go_wp2_with fail
  clear kae0 kae1 kae2 kbe0 kbe1 kbe2
  refine (add_any pb.out pa.out (i64s (by decide)) Sa.out.o.ok.i64).mono ?_
  rintro r W18 ⟨⟨pv, rfl, hp⟩, b⟩
  rw [bad_add] at hp ⊢
  dsimp only at hp
  have hp2 := hid hp
  obtain ⟨⟨Ar7, xr7, yr7, Dr7, zr7, tr7, rfl, _, _⟩, _⟩ := hp
  have pa := hid (pa.out.below b)
  have ka := hid (keep_blk ka.out b)
  have pb := hid (pb.out.below b)
  have kb := hid (keep_blk kb.out b)
  have B := hid (B.out.trans (b.mono B.out.size))
  have r7 := hp2
  clear b hp2
  go_upto_region 11 with fail
  obtain ⟨W19, hW, b, k, sx⟩ := alloc_step W18 (.cells #[.slice Ar7 xr7 yr7, .slice Dr7 zr7 tr7, .int .i64 0] 24)
  rw [hW]
  clear sx
  obtain ⟨Zkr7, hZ⟩ : ∃ z, W18.heap.size = z := ⟨_, rfl⟩
  have sW19 : W19.heap.size = W18.heap.size + 1 := by rw [← hW]; exact World.size_alloc _ _
  rw [hZ] at k sW19
  try rw [hZ]
  clear hW hZ
  have pa := hid (pa.out.below b)
  have ka := hid (keep_blk ka.out b)
  have pb := hid (pb.out.below b)
  have kb := hid (keep_blk kb.out b)
  have r7 := hid (r7.out.below b)
  have B := hid (B.out.trans (b.mono B.out.size))
  have kr7 := hid k
  clear b k
  clear kr7 r7
  clear sW19
  go_wp2_with fail
  obtain ⟨W20, hW, b, ho⟩ := lit_one (w := W19) [1, 2] (by decide) (by decide)
  rw [show W19.alloc (.cells #[.int .i64 1, .int .i64 2] 3) = W20 from hW]
  have sW20 : W20.heap.size = W19.heap.size + 1 := by rw [← hW]; exact World.size_alloc _ _
  clear hW
  have pa := hid (pa.out.below b)
  have ka := hid (keep_blk ka.out b)
  have pb := hid (pb.out.below b)
  have kb := hid (keep_blk kb.out b)
  have B := hid (B.out.trans (b.mono B.out.size))
  have l1 := hid ho
  clear b ho
  refine (clause25_any l1.out (i64s (by decide)) (by decide)).mono ?_
  rintro r W21 ⟨⟨Aq1, xq1, yq1, Dq1, zq1, tq1, rfl, hp⟩, b⟩
  rw [cl12] at hp ⊢
  have pa := hid (pa.out.below b)
  have ka := hid (keep_blk ka.out b)
  have pb := hid (pb.out.below b)
  have kb := hid (keep_blk kb.out b)
  have l1 := hid (l1.out.below b)
  have B := hid (B.out.trans (b.mono B.out.size))
  have q1 := hid hp
  clear b hp
  clear l1
  go_wp2_with fail
  refine (mul_any q1.out (i64s (by decide))).mono ?_
  rintro r W22 ⟨⟨pv, rfl, hp⟩, b⟩
  rw [Hc5.out] at hp
  rw [mx1]
  have hp2 := hid hp
  obtain ⟨⟨Ar8, xr8, yr8, Dr8, zr8, tr8, rfl, _, _⟩, _⟩ := hp
  have pa := hid (pa.out.below b)
  have ka := hid (keep_blk ka.out b)
  have pb := hid (pb.out.below b)
  have kb := hid (keep_blk kb.out b)
  have q1 := hid (q1.out.below b)
  have B := hid (B.out.trans (b.mono B.out.size))
  have r8 := hp2
  clear b hp2
  clear q1
  go_upto_region 12 with fail
  obtain ⟨W23, hW, b, k, sx⟩ := alloc_step W22 (.cells #[.slice Ar8 xr8 yr8, .slice Dr8 zr8 tr8, .int .i64 c5.bound] 24)
  rw [hW]
  clear sx
  obtain ⟨Zkr8, hZ⟩ : ∃ z, W22.heap.size = z := ⟨_, rfl⟩
  have sW23 : W23.heap.size = W22.heap.size + 1 := by rw [← hW]; exact World.size_alloc _ _
  rw [hZ] at k sW23
  try rw [hZ]
  clear hW hZ
  have pa := hid (pa.out.below b)
  have ka := hid (keep_blk ka.out b)
  have pb := hid (pb.out.below b)
  have kb := hid (keep_blk kb.out b)
  have r8 := hid (r8.out.below b)
  have B := hid (B.out.trans (b.mono B.out.size))
  have kr8 := hid k
  clear b k
  clear kr8 r8
  clear sW23
  go_wp2_with fail
  obtain ⟨W24, hW, b, ho⟩ := lit_one (w := W23) [1, 2] (by decide) (by decide)
  rw [show W23.alloc (.cells #[.int .i64 1, .int .i64 2] 3) = W24 from hW]
  have sW24 : W24.heap.size = W23.heap.size + 1 := by rw [← hW]; exact World.size_alloc _ _
  clear hW
  have pa := hid (pa.out.below b)
  have ka := hid (keep_blk ka.out b)
  have pb := hid (pb.out.below b)
  have kb := hid (keep_blk kb.out b)
  have B := hid (B.out.trans (b.mono B.out.size))
  have l1 := hid ho
  clear b ho
  obtain ⟨W25, hW, b, ho⟩ := lit_one (w := W24) [1, 1] (by decide) (by decide)
  rw [show W24.alloc (.cells #[.int .i64 1, .int .i64 1] 3) = W25 from hW]
  have sW25 : W25.heap.size = W24.heap.size + 1 := by rw [← hW]; exact World.size_alloc _ _
  rw [sW24] at ho sW25
  clear hW
  have pa := hid (pa.out.below b)
  have ka := hid (keep_blk ka.out b)
  have pb := hid (pb.out.below b)
  have kb := hid (keep_blk kb.out b)
  have l1 := hid (l1.out.below b)
  have B := hid (B.out.trans (b.mono B.out.size))
  have l2 := hid ho
  clear b ho
  refine (norm25_any l1.out l2.out (i64s (by decide)) (i64s (by decide)) (by unfold I64; omega)).mono ?_
  rintro r W26 ⟨⟨Aq1, xq1, yq1, Dq1, zq1, tq1, rfl, hp⟩, b⟩
  rw [nm3] at hp ⊢
  have pa := hid (pa.out.below b)
  have ka := hid (keep_blk ka.out b)
  have pb := hid (pb.out.below b)
  have kb := hid (keep_blk kb.out b)
  have l1 := hid (l1.out.below b)
  have l2 := hid (l2.out.below b)
  have B := hid (B.out.trans (b.mono B.out.size))
  have q1 := hid hp
  clear b hp
  clear l1 l2
  go_wp2_with fail
  refine (mul_any q1.out (i64s (by decide))).mono ?_
  rintro r W27 ⟨⟨pv, rfl, hp⟩, b⟩
  rw [mx2] at hp ⊢
  dsimp only at hp
  have hp2 := hid hp
  obtain ⟨⟨Ar9, xr9, yr9, Dr9, zr9, tr9, rfl, _, _⟩, _⟩ := hp
  have pa := hid (pa.out.below b)
  have ka := hid (keep_blk ka.out b)
  have pb := hid (pb.out.below b)
  have kb := hid (keep_blk kb.out b)
  have q1 := hid (q1.out.below b)
  have B := hid (B.out.trans (b.mono B.out.size))
  have r9 := hp2
  clear b hp2
  clear q1
  go_upto_region 13 with fail
  obtain ⟨W28, hW, b, k, sx⟩ := alloc_step W27 (.cells #[.slice Ar9 xr9 yr9, .slice Dr9 zr9 tr9, .int .i64 0] 24)
  rw [hW]
  clear sx
  obtain ⟨Zkr9, hZ⟩ : ∃ z, W27.heap.size = z := ⟨_, rfl⟩
  have sW28 : W28.heap.size = W27.heap.size + 1 := by rw [← hW]; exact World.size_alloc _ _
  rw [hZ] at k sW28
  try rw [hZ]
  clear hW hZ
  have pa := hid (pa.out.below b)
  have ka := hid (keep_blk ka.out b)
  have pb := hid (pb.out.below b)
  have kb := hid (keep_blk kb.out b)
  have r9 := hid (r9.out.below b)
  have B := hid (B.out.trans (b.mono B.out.size))
  have kr9 := hid k
  clear b k
  clear kr9 r9
  clear sW28
  go_wp2_with fail
  obtain ⟨W29, hW, b, kx, sx⟩ := alloc_step W28 (.cells #[.int .i64 2, .int .i64 2, .int .i64 2, .int .i64 2, .int .i64 2, .int .i64 2, .int .i64 2] 26)
  rw [hW]
  clear hW
  obtain ⟨Ze, hZ⟩ : ∃ z, W28.heap.size = z := ⟨_, rfl⟩
  rw [hZ] at kx sx
  try rw [hZ]
  clear hZ sx
  have pa := hid (pa.out.below b)
  have ka := hid (keep_blk ka.out b)
  have pb := hid (pb.out.below b)
  have kb := hid (keep_blk kb.out b)
  have B := hid (B.out.trans (b.mono B.out.size))
  have he : ∀ j : Nat, j < 7 → W29.cell? ⟨Ze, j, none⟩ = some (.int .i64 2) := fun j hj => by
    rw [cell_of_row _ _ _ _ _ _ kx]
    rcases (show j = 0 ∨ j = 1 ∨ j = 2 ∨ j = 3 ∨ j = 4 ∨ j = 5 ∨ j = 6 by omega) with rfl | rfl | rfl | rfl | rfl | rfl | rfl <;> rfl
  have He := hid he
  clear b kx he
  go_loopw [119] (fun iv W => ∃ i : Nat, i ≤ 7 ∧ iv = .int .i64 i ∧ W29 = W) (fun iv _ => 7 - (intOf iv).toNat)
  case atStart => exact ⟨0, by omega, rfl, rfl⟩
  case round =>
    obtain ⟨i, hi2, rfl, rfl⟩ := hrel
    by_cases hlt : i < 7
    · have x1 : (i : Int) < 7 := by omega
      have hc := He.out i hlt
      go_wp2_with fail
      go_roundw
      case rel => exact ⟨i + 1, by omega, by go_num, trivial⟩
      case measure => simp [intOf]; omega
    · have x1 : ¬ ((i : Int) < 7) := by omega
      clear hlt hi2 He
      have hix := Hix.out
      go_upto_region 20 with fail
      clear hix Hix
      obtain ⟨W30, hW, b, ho⟩ := ops_lit (w := W29) [⟨1, 0⟩, ⟨kd, z⟩] (by simp) (by simp)
      rw [show W29.alloc (.cells #[.int .u8 1, .int .i64 0, .int .u8 kd, .int .i64 z] 44) = W30 from hW]
      clear hW
      obtain ⟨Zo, hZ⟩ : ∃ z, W29.heap.size = z := ⟨_, rfl⟩
      rw [hZ] at ho
      try rw [hZ]
      clear hZ
      have pa := hid (pa.out.below b)
      have ka := hid (keep_blk ka.out b)
      have pb := hid (pb.out.below b)
      have kb := hid (keep_blk kb.out b)
      have B := hid (B.out.trans (b.mono B.out.size))
      have ops := hid (ho.mono (G := fun _ => True) fun _ _ _ => trivial)
      clear b ho
      obtain ⟨kae0, kae1, kae2⟩ := box3 ka.out
      go_wp2_with fail
      clear kae0 kae1 kae2
      obtain ⟨W31, hW, b, ho⟩ := ps_lit (ps := [a]) (ts := [(_, _, _)]) ((Ps.nil _ (fun _ => True)).snoc (t := (_, _, _)) (pa.out.mono fun _ _ _ => trivial)) (by simp) (by simp)
      rw [show W30.alloc (.cells #[.slice Apa xpa ypa, .slice Dpa zpa tpa, .int .i64 a.bound] 24) = W31 from hW]
      have sW31 : W31.heap.size = W30.heap.size + 1 := by rw [← hW]; exact World.size_alloc _ _
      clear hW
      have pa := hid (pa.out.below b)
      have ka := hid (keep_blk ka.out b)
      have pb := hid (pb.out.below b)
      have kb := hid (keep_blk kb.out b)
      have ops := hid (ops.out.below b)
      have B := hid (B.out.trans (b.mono B.out.size))
      have pr := hid ho
      clear b ho
      refine (run_any ops.out rfl pr.out (by intro p hp; simp at hp; subst hp; exact Sa.out.o.ok.i64)).mono ?_
      rintro r W32 ⟨⟨pv, rfl, hp⟩, b⟩
      obtain ⟨c6, hc6⟩ : ∃ c, (runB [⟨1, 0⟩, ⟨kd, z⟩] [a]).1 = c := ⟨_, rfl⟩
      rw [hc6] at hp
      rw [hrA.out]
      clear hc6
      have hp2 := hid hp
      obtain ⟨⟨Ar1, xr1, yr1, Dr1, zr1, tr1, rfl, _, _⟩, _⟩ := hp
      have pa := hid (pa.out.below b)
      have ka := hid (keep_blk ka.out b)
      have pb := hid (pb.out.below b)
      have kb := hid (keep_blk kb.out b)
      have ops := hid (ops.out.below b)
      have pr := hid (pr.out.below b)
      have B := hid (B.out.trans (b.mono B.out.size))
      have r1 := hp2
      clear b hp2
      clear pr
      go_upto_region 21 with fail
      obtain ⟨W33, hW, b, k, sx⟩ := alloc_step W32 (.cells #[.slice Ar1 xr1 yr1, .slice Dr1 zr1 tr1, .int .i64 c6.bound] 24)
      rw [hW]
      clear sx
      obtain ⟨Zkr1, hZ⟩ : ∃ z, W32.heap.size = z := ⟨_, rfl⟩
      have sW33 : W33.heap.size = W32.heap.size + 1 := by rw [← hW]; exact World.size_alloc _ _
      rw [hZ] at k sW33
      try rw [hZ]
      clear hW hZ
      have pa := hid (pa.out.below b)
      have ka := hid (keep_blk ka.out b)
      have pb := hid (pb.out.below b)
      have kb := hid (keep_blk kb.out b)
      have ops := hid (ops.out.below b)
      have r1 := hid (r1.out.below b)
      have B := hid (B.out.trans (b.mono B.out.size))
      have kr1 := hid k
      clear b k
      clear kr1 r1
      clear sW33
      obtain ⟨kae0, kae1, kae2⟩ := box3 ka.out
      go_wp2_with fail
      clear kae0 kae1 kae2
      obtain ⟨W34, hW, b, ho⟩ := ps_lit (ps := [a]) (ts := [(_, _, _)]) ((Ps.nil _ (fun _ => True)).snoc (t := (_, _, _)) (pa.out.mono fun _ _ _ => trivial)) (by simp) (by simp)
      rw [show W33.alloc (.cells #[.slice Apa xpa ypa, .slice Dpa zpa tpa, .int .i64 a.bound] 24) = W34 from hW]
      have sW34 : W34.heap.size = W33.heap.size + 1 := by rw [← hW]; exact World.size_alloc _ _
      clear hW
      have pa := hid (pa.out.below b)
      have ka := hid (keep_blk ka.out b)
      have pb := hid (pb.out.below b)
      have kb := hid (keep_blk kb.out b)
      have ops := hid (ops.out.below b)
      have B := hid (B.out.trans (b.mono B.out.size))
      have pr := hid ho
      clear b ho
      refine (run_any (os := []) (Rd.empty2 _ (fun _ => True) none) rfl pr.out (by intro p hp; simp at hp; subst hp; exact Sa.out.o.ok.i64)).mono ?_
      rintro r W35 ⟨⟨pv, rfl, hp⟩, b⟩
      rw [rnB] at hp ⊢
      dsimp only at hp
      have hp2 := hid hp
      obtain ⟨⟨Ar2, xr2, yr2, Dr2, zr2, tr2, rfl, _, _⟩, _⟩ := hp
      have pa := hid (pa.out.below b)
      have ka := hid (keep_blk ka.out b)
      have pb := hid (pb.out.below b)
      have kb := hid (keep_blk kb.out b)
      have ops := hid (ops.out.below b)
      have pr := hid (pr.out.below b)
      have B := hid (B.out.trans (b.mono B.out.size))
      have r2 := hp2
      clear b hp2
      clear pr
      go_upto_region 22 with fail
      obtain ⟨W36, hW, b, k, sx⟩ := alloc_step W35 (.cells #[.slice Ar2 xr2 yr2, .slice Dr2 zr2 tr2, .int .i64 0] 24)
      rw [hW]
      clear sx
      obtain ⟨Zkr2, hZ⟩ : ∃ z, W35.heap.size = z := ⟨_, rfl⟩
      have sW36 : W36.heap.size = W35.heap.size + 1 := by rw [← hW]; exact World.size_alloc _ _
      rw [hZ] at k sW36
      try rw [hZ]
      clear hW hZ
      have pa := hid (pa.out.below b)
      have ka := hid (keep_blk ka.out b)
      have pb := hid (pb.out.below b)
      have kb := hid (keep_blk kb.out b)
      have ops := hid (ops.out.below b)
      have r2 := hid (r2.out.below b)
      have B := hid (B.out.trans (b.mono B.out.size))
      have kr2 := hid k
      clear b k
      clear kr2 r2
      clear sW36
      have ops1 := hid (show Rd _ _ 2 (.slice (some ⟨Zo, 0, none⟩) 1 2) 1 (ocells [⟨1, 0⟩]) from Rd.take ops.out (show 1 ≤ 2 by decide))
      clear ops
      have hsl := fun W => slice_op (g := Zo) W
      go_cut [41] (fun s wx => s = .int .i64 2 ∧ Hid (Below W36.heap.size W36 wx))
      case first =>
        refine wp_region_held_drew (S := fun w' => (w'.cell? ⟨Zkb, 0, none⟩ = some (.slice (some ⟨W2.heap.size, 0, none⟩) 1 1) ∧ w'.cell? ⟨Zkb, 1, none⟩ = some (.slice (some ⟨W2.heap.size + 1, 0, none⟩) 1 1) ∧ w'.cell? ⟨Zkb, 2, none⟩ = some (.int .i64 1)) ∧ Hid (Below W36.heap.size W36 w')) (by kernel_rfl) ⟨box3 (keep_blk kb.out (Bl.drew (Below.refl _ _))), hid (Bl.drew (Below.refl _ _))⟩ (fun hHeld => ?_)
        obtain ⟨WD, hWD⟩ : ∃ W, W36.drew = W := ⟨_, rfl⟩
        rw [hWD] at hHeld ⊢
        clear hWD
        refine wpAnyH_take (i := 0) (oi := ⟨_, _, _, _, _, _⟩) (v := ?_) rfl (by kernel_rfl) (by kernel_rfl) (by kernel_rfl) (fun _ _ _ h => h) (Or.inl ⟨by rfl, ?_⟩) (by assumption) ?_
        rotate_left
        · intro w hSw
          try dsimp only at hSw
          go_simp
          try with_reducible rfl
        simp only [Act.put, List.setIfInBounds_toArray, List.set_cons_zero, List.set_cons_succ]
        refine wpAnyH_take (i := 2) (oi := ⟨_, _, _, _, _, _⟩) (v := ?_) rfl (by kernel_rfl) (by kernel_rfl) (by kernel_rfl) (fun _ _ _ h => h) (Or.inl ⟨by rfl, ?_⟩) (by assumption) ?_
        rotate_left
        · intro w hSw
          try dsimp only at hSw
          go_simp
          try with_reducible rfl
        simp only [Act.put, List.setIfInBounds_toArray, List.set_cons_zero, List.set_cons_succ]
        refine wpAnyH_take (i := 1) (oi := ⟨_, _, _, _, _, _⟩) (v := ?_) rfl (by kernel_rfl) (by kernel_rfl) (by kernel_rfl) (fun _ _ _ h => h) (Or.inl ⟨by rfl, ?_⟩) (by assumption) ?_
        rotate_left
        · intro w hSw
          try dsimp only at hSw
          go_simp
          try with_reducible rfl
        simp only [Act.put, List.setIfInBounds_toArray, List.set_cons_zero, List.set_cons_succ]
        refine wpAnyH_ready (rs := [3, 8]) (by kernel_rfl) (by simp) (AllReadyH.cons (o := ⟨_, _, _, _, _, _⟩) rfl (fun K hK => ?_) (AllReadyH.cons (o := ⟨_, _, _, _, _, _⟩) rfl (fun K hK => ?_) AllReadyH.nil))
        · go_simp
          obtain ⟨X3, hX, bX, ho⟩ := ps_lit (w := WD) (ps := [⟨[1], [2], 1⟩]) (ts := [(_, _, _)]) ((Ps.nil _ (fun _ => True)).snoc (t := (_, _, _)) ((pb.out.below hHeld.2.out).mono fun _ _ _ => trivial)) (by simp) (by simp)
          rw [show WD.alloc (.cells #[.slice (some ⟨W2.heap.size, 0, none⟩) 1 1, .slice (some ⟨W2.heap.size + 1, 0, none⟩) 1 1, .int .i64 1] 24) = X3 from hX]
          refine hK.out _ _ ⟨box3 (keep_blk kb.out (hHeld.2.out.trans (bX.mono hHeld.2.out.size))), hid (hHeld.2.out.trans (bX.mono hHeld.2.out.size))⟩ (fun hHeld => ?_)
          clear hK K
          have pr := hid ho
          have sb3 := bX.size
          clear hX bX ho
          try simp only [Act.put, List.setIfInBounds_toArray, List.set_cons_zero, List.set_cons_succ]
          refine wpAnyH_ready (rs := [4, 8]) (by kernel_rfl) (by simp) (AllReadyH.cons (o := ⟨_, _, _, _, _, _⟩) rfl (fun K hK => ?_) (AllReadyH.cons (o := ⟨_, _, _, _, _, _⟩) rfl (fun K hK => ?_) AllReadyH.nil))
          · go_simp
            refine (run_any (ops1.out.below hHeld.2.out) rfl pr.out (by intro p hp; simp at hp; subst hp; exact i64s (by decide))).mono ?_
            rintro r W4 ⟨⟨pv, rfl, hp⟩, b⟩
            rw [rnC] at hp ⊢
            dsimp only at hp
            have hp2 := hid (hp.mono (G := fun _ => True) fun _ _ _ => trivial)
            obtain ⟨⟨Aq, xq, yq, Dq, zq, tq, rfl, _, _⟩, _⟩ := hp
            have hlt4 := lt_heap_refl X3
            refine hK.out _ _ ⟨box3 (keep_blk kb.out (hHeld.2.out.trans (b.mono hHeld.2.out.size))), hid (hHeld.2.out.trans (b.mono hHeld.2.out.size))⟩ (fun hHeld => ?_)
            clear hK K
            have pr := hid (pr.out.below b)
            have rq := hp2
            have sb4 := b.size
            clear b hp2
            try simp only [Act.put, List.setIfInBounds_toArray, List.set_cons_zero, List.set_cons_succ]
            refine wpAnyH_take (i := 5) (oi := ⟨_, _, _, _, _, _⟩) (v := ?_) rfl (by kernel_rfl) (by kernel_rfl) (by kernel_rfl) (fun _ _ _ h => h) (Or.inl ⟨by rfl, ?_⟩) (by assumption) ?_
            rotate_left
            · intro w hSw
              try dsimp only at hSw
              go_simp
              try with_reducible rfl
            simp only [Act.put, List.setIfInBounds_toArray, List.set_cons_zero, List.set_cons_succ]
            refine wpAnyH_take (i := 6) (oi := ⟨_, _, _, _, _, _⟩) (v := ?_) rfl (by kernel_rfl) (by kernel_rfl) (by kernel_rfl) (fun _ _ _ h => h) (Or.inl ⟨by rfl, ?_⟩) (by assumption) ?_
            rotate_left
            · intro w hSw
              try dsimp only at hSw
              go_simp
              try with_reducible rfl
            simp only [Act.put, List.setIfInBounds_toArray, List.set_cons_zero, List.set_cons_succ]
            refine wpAnyH_take (i := 7) (oi := ⟨_, _, _, _, _, _⟩) (v := ?_) rfl (by kernel_rfl) (by kernel_rfl) (by kernel_rfl) (fun _ _ _ h => h) (Or.inl ⟨by rfl, ?_⟩) (by assumption) ?_
            rotate_left
            · intro w hSw
              try dsimp only at hSw
              go_simp
              try with_reducible rfl
            simp only [Act.put, List.setIfInBounds_toArray, List.set_cons_zero, List.set_cons_succ]
            refine wpAnyH_ready (rs := [8]) (by kernel_rfl) (by simp) (AllReadyH.cons (o := ⟨_, _, _, _, _, _⟩) rfl (fun K hK => ?_) AllReadyH.nil)
            go_simp
            obtain ⟨X8, hX, bX, kX, sX⟩ := alloc_step W4 (.cells #[.slice none 0 0, .slice none 0 0, .int .i64 0] 24)
            rw [hX]
            obtain ⟨tb, htb⟩ : ∃ t, W4.heap.size = t := ⟨_, rfl⟩
            have stb : W36.heap.size ≤ tb := by have := hHeld.2.out.size; omega
            refine hK.out _ _ ⟨box3 (keep_blk kb.out (hHeld.2.out.trans (bX.mono hHeld.2.out.size))), hid (hHeld.2.out.trans (bX.mono hHeld.2.out.size))⟩ (fun hHeld => ?_)
            clear hK K
            have pr := hid (pr.out.below bX)
            have rq := hid ((rq.out.mono (G := fun b => b ≠ tb) fun b hlt _ => by omega).below bX)
            rw [htb] at kX sX
            try rw [htb]
            have kt := hid kX
            have htX : tb < X8.heap.size := by omega
            clear hX bX kX sX
            try simp only [Act.put, List.setIfInBounds_toArray, List.set_cons_zero, List.set_cons_succ]
            refine wpAnyH_ready (rs := [9]) (by kernel_rfl) (by simp) (AllReadyH.cons (o := ⟨_, _, _, _, _, _⟩) rfl (fun K hK => ?_) AllReadyH.nil)
            go_simp
            obtain ⟨t0, t1, t2⟩ := box3 kt.out
            obtain ⟨f0, f1, f2⟩ := froz3 kt.out
            go_simp
            obtain ⟨u0, u1, u2, m3⟩ := set3 t0 t1 t2 (.slice Aq xq yq) (.slice Dq zq tq) (.int .i64 0)
            have hM := below_mod hHeld.2.out hHeld.2.out.size m3 fun g hg => by omega
            refine hK.out _ _ ⟨box3 (keep_blk kb.out hM), hid hM⟩ (fun hHeld => ?_)
            clear hK K
            try simp only [Act.put, List.setIfInBounds_toArray, List.set_cons_zero, List.set_cons_succ]
            refine wpAnyH_ready (rs := [10]) (by kernel_rfl) (by simp) (AllReadyH.cons (o := ⟨_, _, _, _, _, _⟩) rfl (fun K hK => ?_) AllReadyH.nil)
            go_simp
            go_simp
            refine hK.out _ _ hHeld (fun hHeld => ?_)
            clear hK K
            try simp only [Act.put, List.setIfInBounds_toArray, List.set_cons_zero, List.set_cons_succ]
            refine wpAnyH_done (by kernel_rfl) ?_ _
            go_wp2_with fail
            go_meet
            exact ⟨rfl, hHeld.2⟩
          · go_simp
            obtain ⟨X8, hX, bX, kX, sX⟩ := alloc_step X3 (.cells #[.slice none 0 0, .slice none 0 0, .int .i64 0] 24)
            rw [hX]
            obtain ⟨tb, htb⟩ : ∃ t, X3.heap.size = t := ⟨_, rfl⟩
            have stb : W36.heap.size ≤ tb := by have := hHeld.2.out.size; omega
            refine hK.out _ _ ⟨box3 (keep_blk kb.out (hHeld.2.out.trans (bX.mono hHeld.2.out.size))), hid (hHeld.2.out.trans (bX.mono hHeld.2.out.size))⟩ (fun hHeld => ?_)
            clear hK K
            have pr := hid (pr.out.below bX)
            rw [htb] at kX sX
            try rw [htb]
            have kt := hid kX
            have htX : tb < X8.heap.size := by omega
            clear hX bX kX sX
            try simp only [Act.put, List.setIfInBounds_toArray, List.set_cons_zero, List.set_cons_succ]
            refine wpAnyH_ready (rs := [4]) (by kernel_rfl) (by simp) (AllReadyH.cons (o := ⟨_, _, _, _, _, _⟩) rfl (fun K hK => ?_) AllReadyH.nil)
            go_simp
            refine (run_any (ops1.out.below hHeld.2.out) rfl pr.out (by intro p hp; simp at hp; subst hp; exact i64s (by decide))).mono ?_
            rintro r W4 ⟨⟨pv, rfl, hp⟩, b⟩
            rw [rnC] at hp ⊢
            dsimp only at hp
            have hp2 := hid (hp.mono (G := fun b => b ≠ tb) fun b _ (hb : X8.heap.size ≤ b) => by omega)
            obtain ⟨⟨Aq, xq, yq, Dq, zq, tq, rfl, _, _⟩, _⟩ := hp
            have hlt4 := lt_heap_refl X8
            refine hK.out _ _ ⟨box3 (keep_blk kb.out (hHeld.2.out.trans (b.mono hHeld.2.out.size))), hid (hHeld.2.out.trans (b.mono hHeld.2.out.size))⟩ (fun hHeld => ?_)
            clear hK K
            have pr := hid (pr.out.below b)
            have kt := hid (keep_blk kt.out b)
            have rq := hp2
            have sb4 := b.size
            clear b hp2
            try simp only [Act.put, List.setIfInBounds_toArray, List.set_cons_zero, List.set_cons_succ]
            refine wpAnyH_take (i := 5) (oi := ⟨_, _, _, _, _, _⟩) (v := ?_) rfl (by kernel_rfl) (by kernel_rfl) (by kernel_rfl) (fun _ _ _ h => h) (Or.inl ⟨by rfl, ?_⟩) (by assumption) ?_
            rotate_left
            · intro w hSw
              try dsimp only at hSw
              go_simp
              try with_reducible rfl
            simp only [Act.put, List.setIfInBounds_toArray, List.set_cons_zero, List.set_cons_succ]
            refine wpAnyH_take (i := 6) (oi := ⟨_, _, _, _, _, _⟩) (v := ?_) rfl (by kernel_rfl) (by kernel_rfl) (by kernel_rfl) (fun _ _ _ h => h) (Or.inl ⟨by rfl, ?_⟩) (by assumption) ?_
            rotate_left
            · intro w hSw
              try dsimp only at hSw
              go_simp
              try with_reducible rfl
            simp only [Act.put, List.setIfInBounds_toArray, List.set_cons_zero, List.set_cons_succ]
            refine wpAnyH_take (i := 7) (oi := ⟨_, _, _, _, _, _⟩) (v := ?_) rfl (by kernel_rfl) (by kernel_rfl) (by kernel_rfl) (fun _ _ _ h => h) (Or.inl ⟨by rfl, ?_⟩) (by assumption) ?_
            rotate_left
            · intro w hSw
              try dsimp only at hSw
              go_simp
              try with_reducible rfl
            simp only [Act.put, List.setIfInBounds_toArray, List.set_cons_zero, List.set_cons_succ]
            refine wpAnyH_ready (rs := [9]) (by kernel_rfl) (by simp) (AllReadyH.cons (o := ⟨_, _, _, _, _, _⟩) rfl (fun K hK => ?_) AllReadyH.nil)
            go_simp
            obtain ⟨t0, t1, t2⟩ := box3 kt.out
            obtain ⟨f0, f1, f2⟩ := froz3 kt.out
            go_simp
            obtain ⟨u0, u1, u2, m3⟩ := set3 t0 t1 t2 (.slice Aq xq yq) (.slice Dq zq tq) (.int .i64 0)
            have hM := below_mod hHeld.2.out hHeld.2.out.size m3 fun g hg => by omega
            refine hK.out _ _ ⟨box3 (keep_blk kb.out hM), hid hM⟩ (fun hHeld => ?_)
            clear hK K
            try simp only [Act.put, List.setIfInBounds_toArray, List.set_cons_zero, List.set_cons_succ]
            refine wpAnyH_ready (rs := [10]) (by kernel_rfl) (by simp) (AllReadyH.cons (o := ⟨_, _, _, _, _, _⟩) rfl (fun K hK => ?_) AllReadyH.nil)
            go_simp
            go_simp
            refine hK.out _ _ hHeld (fun hHeld => ?_)
            clear hK K
            try simp only [Act.put, List.setIfInBounds_toArray, List.set_cons_zero, List.set_cons_succ]
            refine wpAnyH_done (by kernel_rfl) ?_ _
            go_wp2_with fail
            go_meet
            exact ⟨rfl, hHeld.2⟩
        · go_simp
          obtain ⟨X8, hX, bX, kX, sX⟩ := alloc_step WD (.cells #[.slice none 0 0, .slice none 0 0, .int .i64 0] 24)
          rw [hX]
          obtain ⟨tb, htb⟩ : ∃ t, WD.heap.size = t := ⟨_, rfl⟩
          have stb : W36.heap.size ≤ tb := by have := hHeld.2.out.size; omega
          refine hK.out _ _ ⟨box3 (keep_blk kb.out (hHeld.2.out.trans (bX.mono hHeld.2.out.size))), hid (hHeld.2.out.trans (bX.mono hHeld.2.out.size))⟩ (fun hHeld => ?_)
          clear hK K
          rw [htb] at kX sX
          try rw [htb]
          have kt := hid kX
          have htX : tb < X8.heap.size := by omega
          clear hX bX kX sX
          try simp only [Act.put, List.setIfInBounds_toArray, List.set_cons_zero, List.set_cons_succ]
          refine wpAnyH_ready (rs := [3]) (by kernel_rfl) (by simp) (AllReadyH.cons (o := ⟨_, _, _, _, _, _⟩) rfl (fun K hK => ?_) AllReadyH.nil)
          go_simp
          obtain ⟨X3, hX, bX, ho⟩ := ps_lit (w := X8) (ps := [⟨[1], [2], 1⟩]) (ts := [(_, _, _)]) ((Ps.nil _ (fun _ => True)).snoc (t := (_, _, _)) ((pb.out.below hHeld.2.out).mono fun _ _ _ => trivial)) (by simp) (by simp)
          rw [show X8.alloc (.cells #[.slice (some ⟨W2.heap.size, 0, none⟩) 1 1, .slice (some ⟨W2.heap.size + 1, 0, none⟩) 1 1, .int .i64 1] 24) = X3 from hX]
          refine hK.out _ _ ⟨box3 (keep_blk kb.out (hHeld.2.out.trans (bX.mono hHeld.2.out.size))), hid (hHeld.2.out.trans (bX.mono hHeld.2.out.size))⟩ (fun hHeld => ?_)
          clear hK K
          have kt := hid (keep_blk kt.out bX)
          have pr := hid ho
          have sb3 := bX.size
          clear hX bX ho
          try simp only [Act.put, List.setIfInBounds_toArray, List.set_cons_zero, List.set_cons_succ]
          refine wpAnyH_ready (rs := [4]) (by kernel_rfl) (by simp) (AllReadyH.cons (o := ⟨_, _, _, _, _, _⟩) rfl (fun K hK => ?_) AllReadyH.nil)
          go_simp
          refine (run_any (ops1.out.below hHeld.2.out) rfl pr.out (by intro p hp; simp at hp; subst hp; exact i64s (by decide))).mono ?_
          rintro r W4 ⟨⟨pv, rfl, hp⟩, b⟩
          rw [rnC] at hp ⊢
          dsimp only at hp
          have hp2 := hid (hp.mono (G := fun b => b ≠ tb) fun b _ (hb : X3.heap.size ≤ b) => by omega)
          obtain ⟨⟨Aq, xq, yq, Dq, zq, tq, rfl, _, _⟩, _⟩ := hp
          have hlt4 := lt_heap_refl X3
          refine hK.out _ _ ⟨box3 (keep_blk kb.out (hHeld.2.out.trans (b.mono hHeld.2.out.size))), hid (hHeld.2.out.trans (b.mono hHeld.2.out.size))⟩ (fun hHeld => ?_)
          clear hK K
          have kt := hid (keep_blk kt.out b)
          have pr := hid (pr.out.below b)
          have rq := hp2
          have sb4 := b.size
          clear b hp2
          try simp only [Act.put, List.setIfInBounds_toArray, List.set_cons_zero, List.set_cons_succ]
          refine wpAnyH_take (i := 5) (oi := ⟨_, _, _, _, _, _⟩) (v := ?_) rfl (by kernel_rfl) (by kernel_rfl) (by kernel_rfl) (fun _ _ _ h => h) (Or.inl ⟨by rfl, ?_⟩) (by assumption) ?_
          rotate_left
          · intro w hSw
            try dsimp only at hSw
            go_simp
            try with_reducible rfl
          simp only [Act.put, List.setIfInBounds_toArray, List.set_cons_zero, List.set_cons_succ]
          refine wpAnyH_take (i := 6) (oi := ⟨_, _, _, _, _, _⟩) (v := ?_) rfl (by kernel_rfl) (by kernel_rfl) (by kernel_rfl) (fun _ _ _ h => h) (Or.inl ⟨by rfl, ?_⟩) (by assumption) ?_
          rotate_left
          · intro w hSw
            try dsimp only at hSw
            go_simp
            try with_reducible rfl
          simp only [Act.put, List.setIfInBounds_toArray, List.set_cons_zero, List.set_cons_succ]
          refine wpAnyH_take (i := 7) (oi := ⟨_, _, _, _, _, _⟩) (v := ?_) rfl (by kernel_rfl) (by kernel_rfl) (by kernel_rfl) (fun _ _ _ h => h) (Or.inl ⟨by rfl, ?_⟩) (by assumption) ?_
          rotate_left
          · intro w hSw
            try dsimp only at hSw
            go_simp
            try with_reducible rfl
          simp only [Act.put, List.setIfInBounds_toArray, List.set_cons_zero, List.set_cons_succ]
          refine wpAnyH_ready (rs := [9]) (by kernel_rfl) (by simp) (AllReadyH.cons (o := ⟨_, _, _, _, _, _⟩) rfl (fun K hK => ?_) AllReadyH.nil)
          go_simp
          obtain ⟨t0, t1, t2⟩ := box3 kt.out
          obtain ⟨f0, f1, f2⟩ := froz3 kt.out
          go_simp
          obtain ⟨u0, u1, u2, m3⟩ := set3 t0 t1 t2 (.slice Aq xq yq) (.slice Dq zq tq) (.int .i64 0)
          have hM := below_mod hHeld.2.out hHeld.2.out.size m3 fun g hg => by omega
          refine hK.out _ _ ⟨box3 (keep_blk kb.out hM), hid hM⟩ (fun hHeld => ?_)
          clear hK K
          try simp only [Act.put, List.setIfInBounds_toArray, List.set_cons_zero, List.set_cons_succ]
          refine wpAnyH_ready (rs := [10]) (by kernel_rfl) (by simp) (AllReadyH.cons (o := ⟨_, _, _, _, _, _⟩) rfl (fun K hK => ?_) AllReadyH.nil)
          go_simp
          go_simp
          refine hK.out _ _ hHeld (fun hHeld => ?_)
          clear hK K
          try simp only [Act.put, List.setIfInBounds_toArray, List.set_cons_zero, List.set_cons_succ]
          refine wpAnyH_done (by kernel_rfl) ?_ _
          go_wp2_with fail
          go_meet
          exact ⟨rfl, hHeld.2⟩
      case rest =>
        obtain ⟨rfl, b⟩ := hcut
        obtain ⟨W37, rfl⟩ : ∃ W : World, W = wc := ⟨_, rfl⟩
        have b := b.out
        have pa := hid (pa.out.below b)
        have ka := hid (keep_blk ka.out b)
        have pb := hid (pb.out.below b)
        have kb := hid (keep_blk kb.out b)
        have ops1 := hid (ops1.out.below b)
        have B := hid (B.out.trans (b.mono B.out.size))
        clear b
        go_upto_region 23 with fail
        go_cut [42, 43] (fun p s wx => ∃ (Z : Nat) (A : Option Addr) (n d : Nat) (D : Option Addr) (m e : Nat), p = .pointer (some ⟨Z, 0, none⟩) ∧ s = .int .i64 0 ∧ Hid (wx.cell? ⟨Z, 0, none⟩ = some (.slice A n d) ∧ wx.cell? ⟨Z, 1, none⟩ = some (.slice D m e) ∧ wx.cell? ⟨Z, 2, none⟩ = some (.int .i64 a.bound)) ∧ Hid (PbRd wx (fun _ => True) (.agg #[.slice A n d, .slice D m e, .int .i64 a.bound]) a) ∧ Hid (Below W37.heap.size W37 wx))
        case first =>
          refine wp_region_held_drew (S := fun w' => (w'.cell? ⟨Zka, 0, none⟩ = some (.slice Apa xpa ypa) ∧ w'.cell? ⟨Zka, 1, none⟩ = some (.slice Dpa zpa tpa) ∧ w'.cell? ⟨Zka, 2, none⟩ = some (.int .i64 a.bound)) ∧ Hid (Below W37.heap.size W37 w')) (by kernel_rfl) ⟨box3 (keep_blk ka.out (Bl.drew (Below.refl _ _))), hid (Bl.drew (Below.refl _ _))⟩ (fun hHeld => ?_)
          obtain ⟨WD, hWD⟩ : ∃ W, W37.drew = W := ⟨_, rfl⟩
          rw [hWD] at hHeld ⊢
          clear hWD
          refine wpAnyH_take (i := 0) (oi := ⟨_, _, _, _, _, _⟩) (v := ?_) rfl (by kernel_rfl) (by kernel_rfl) (by kernel_rfl) (fun _ _ _ h => h) (Or.inl ⟨by rfl, ?_⟩) (by assumption) ?_
          rotate_left
          · intro w hSw
            try dsimp only at hSw
            go_simp
            try with_reducible rfl
          simp only [Act.put, List.setIfInBounds_toArray, List.set_cons_zero, List.set_cons_succ]
          refine wpAnyH_take (i := 2) (oi := ⟨_, _, _, _, _, _⟩) (v := ?_) rfl (by kernel_rfl) (by kernel_rfl) (by kernel_rfl) (fun _ _ _ h => h) (Or.inl ⟨by rfl, ?_⟩) (by assumption) ?_
          rotate_left
          · intro w hSw
            try dsimp only at hSw
            go_simp
            try with_reducible rfl
          simp only [Act.put, List.setIfInBounds_toArray, List.set_cons_zero, List.set_cons_succ]
          refine wpAnyH_take (i := 1) (oi := ⟨_, _, _, _, _, _⟩) (v := ?_) rfl (by kernel_rfl) (by kernel_rfl) (by kernel_rfl) (fun _ _ _ h => h) (Or.inl ⟨by rfl, ?_⟩) (by assumption) ?_
          rotate_left
          · intro w hSw
            try dsimp only at hSw
            go_simp
            try with_reducible rfl
          simp only [Act.put, List.setIfInBounds_toArray, List.set_cons_zero, List.set_cons_succ]
          refine wpAnyH_ready (rs := [3, 8]) (by kernel_rfl) (by simp) (AllReadyH.cons (o := ⟨_, _, _, _, _, _⟩) rfl (fun K hK => ?_) (AllReadyH.cons (o := ⟨_, _, _, _, _, _⟩) rfl (fun K hK => ?_) AllReadyH.nil))
          · go_simp
            obtain ⟨X3, hX, bX, ho⟩ := ps_lit (w := WD) (ps := [a]) (ts := [(_, _, _)]) ((Ps.nil _ (fun _ => True)).snoc (t := (_, _, _)) ((pa.out.below hHeld.2.out).mono fun _ _ _ => trivial)) (by simp) (by simp)
            rw [show WD.alloc (.cells #[.slice Apa xpa ypa, .slice Dpa zpa tpa, .int .i64 a.bound] 24) = X3 from hX]
            refine hK.out _ _ ⟨box3 (keep_blk ka.out (hHeld.2.out.trans (bX.mono hHeld.2.out.size))), hid (hHeld.2.out.trans (bX.mono hHeld.2.out.size))⟩ (fun hHeld => ?_)
            clear hK K
            have pr := hid ho
            have sb3 := bX.size
            clear hX bX ho
            try simp only [Act.put, List.setIfInBounds_toArray, List.set_cons_zero, List.set_cons_succ]
            refine wpAnyH_ready (rs := [4, 8]) (by kernel_rfl) (by simp) (AllReadyH.cons (o := ⟨_, _, _, _, _, _⟩) rfl (fun K hK => ?_) (AllReadyH.cons (o := ⟨_, _, _, _, _, _⟩) rfl (fun K hK => ?_) AllReadyH.nil))
            · go_simp
              refine (run_any (ops1.out.below hHeld.2.out) rfl pr.out (by intro p hp; simp at hp; subst hp; exact Sa.out.o.ok.i64)).mono ?_
              rintro r W4 ⟨⟨pv, rfl, hp⟩, b⟩
              rw [rnD Sa.out.o.ok] at hp ⊢
              dsimp only at hp
              have hp2 := hid (hp.mono (G := fun _ => True) fun _ _ _ => trivial)
              obtain ⟨⟨Aq, xq, yq, Dq, zq, tq, rfl, _, _⟩, _⟩ := hp
              have hlt4 := lt_heap_refl X3
              refine hK.out _ _ ⟨box3 (keep_blk ka.out (hHeld.2.out.trans (b.mono hHeld.2.out.size))), hid (hHeld.2.out.trans (b.mono hHeld.2.out.size))⟩ (fun hHeld => ?_)
              clear hK K
              have pr := hid (pr.out.below b)
              have rq := hp2
              have sb4 := b.size
              clear b hp2
              try simp only [Act.put, List.setIfInBounds_toArray, List.set_cons_zero, List.set_cons_succ]
              refine wpAnyH_take (i := 5) (oi := ⟨_, _, _, _, _, _⟩) (v := ?_) rfl (by kernel_rfl) (by kernel_rfl) (by kernel_rfl) (fun _ _ _ h => h) (Or.inl ⟨by rfl, ?_⟩) (by assumption) ?_
              rotate_left
              · intro w hSw
                try dsimp only at hSw
                go_simp
                try with_reducible rfl
              simp only [Act.put, List.setIfInBounds_toArray, List.set_cons_zero, List.set_cons_succ]
              refine wpAnyH_take (i := 6) (oi := ⟨_, _, _, _, _, _⟩) (v := ?_) rfl (by kernel_rfl) (by kernel_rfl) (by kernel_rfl) (fun _ _ _ h => h) (Or.inl ⟨by rfl, ?_⟩) (by assumption) ?_
              rotate_left
              · intro w hSw
                try dsimp only at hSw
                go_simp
                try with_reducible rfl
              simp only [Act.put, List.setIfInBounds_toArray, List.set_cons_zero, List.set_cons_succ]
              refine wpAnyH_take (i := 7) (oi := ⟨_, _, _, _, _, _⟩) (v := ?_) rfl (by kernel_rfl) (by kernel_rfl) (by kernel_rfl) (fun _ _ _ h => h) (Or.inl ⟨by rfl, ?_⟩) (by assumption) ?_
              rotate_left
              · intro w hSw
                try dsimp only at hSw
                go_simp
                try with_reducible rfl
              simp only [Act.put, List.setIfInBounds_toArray, List.set_cons_zero, List.set_cons_succ]
              refine wpAnyH_ready (rs := [8]) (by kernel_rfl) (by simp) (AllReadyH.cons (o := ⟨_, _, _, _, _, _⟩) rfl (fun K hK => ?_) AllReadyH.nil)
              go_simp
              obtain ⟨X8, hX, bX, kX, sX⟩ := alloc_step W4 (.cells #[.slice none 0 0, .slice none 0 0, .int .i64 0] 24)
              rw [hX]
              obtain ⟨tb, htb⟩ : ∃ t, W4.heap.size = t := ⟨_, rfl⟩
              have stb : W37.heap.size ≤ tb := by have := hHeld.2.out.size; omega
              refine hK.out _ _ ⟨box3 (keep_blk ka.out (hHeld.2.out.trans (bX.mono hHeld.2.out.size))), hid (hHeld.2.out.trans (bX.mono hHeld.2.out.size))⟩ (fun hHeld => ?_)
              clear hK K
              have pr := hid (pr.out.below bX)
              have rq := hid ((rq.out.mono (G := fun b => b ≠ tb) fun b hlt _ => by omega).below bX)
              rw [htb] at kX sX
              try rw [htb]
              have kt := hid kX
              have htX : tb < X8.heap.size := by omega
              clear hX bX kX sX
              try simp only [Act.put, List.setIfInBounds_toArray, List.set_cons_zero, List.set_cons_succ]
              refine wpAnyH_ready (rs := [9]) (by kernel_rfl) (by simp) (AllReadyH.cons (o := ⟨_, _, _, _, _, _⟩) rfl (fun K hK => ?_) AllReadyH.nil)
              go_simp
              obtain ⟨t0, t1, t2⟩ := box3 kt.out
              obtain ⟨f0, f1, f2⟩ := froz3 kt.out
              go_simp
              obtain ⟨u0, u1, u2, m3⟩ := set3 t0 t1 t2 (.slice Aq xq yq) (.slice Dq zq tq) (.int .i64 a.bound)
              have hM := below_mod hHeld.2.out hHeld.2.out.size m3 fun g hg => by omega
              refine hK.out _ _ ⟨box3 (keep_blk ka.out hM), hid hM⟩ (fun hHeld => ?_)
              clear hK K
              try simp only [Act.put, List.setIfInBounds_toArray, List.set_cons_zero, List.set_cons_succ]
              refine wpAnyH_ready (rs := [10]) (by kernel_rfl) (by simp) (AllReadyH.cons (o := ⟨_, _, _, _, _, _⟩) rfl (fun K hK => ?_) AllReadyH.nil)
              go_simp
              go_simp
              refine hK.out _ _ hHeld (fun hHeld => ?_)
              clear hK K
              try simp only [Act.put, List.setIfInBounds_toArray, List.set_cons_zero, List.set_cons_succ]
              refine wpAnyH_done (by kernel_rfl) ?_ _
              go_wp2_with fail
              go_meet
              exact ⟨tb, _, _, _, _, _, _, rfl, rfl, hid ⟨u0, u1, u2⟩, hid ((rq.out.mod m3 fun g _ hg e => hg e).mono fun _ _ _ => trivial), hHeld.2⟩
            · go_simp
              obtain ⟨X8, hX, bX, kX, sX⟩ := alloc_step X3 (.cells #[.slice none 0 0, .slice none 0 0, .int .i64 0] 24)
              rw [hX]
              obtain ⟨tb, htb⟩ : ∃ t, X3.heap.size = t := ⟨_, rfl⟩
              have stb : W37.heap.size ≤ tb := by have := hHeld.2.out.size; omega
              refine hK.out _ _ ⟨box3 (keep_blk ka.out (hHeld.2.out.trans (bX.mono hHeld.2.out.size))), hid (hHeld.2.out.trans (bX.mono hHeld.2.out.size))⟩ (fun hHeld => ?_)
              clear hK K
              have pr := hid (pr.out.below bX)
              rw [htb] at kX sX
              try rw [htb]
              have kt := hid kX
              have htX : tb < X8.heap.size := by omega
              clear hX bX kX sX
              try simp only [Act.put, List.setIfInBounds_toArray, List.set_cons_zero, List.set_cons_succ]
              refine wpAnyH_ready (rs := [4]) (by kernel_rfl) (by simp) (AllReadyH.cons (o := ⟨_, _, _, _, _, _⟩) rfl (fun K hK => ?_) AllReadyH.nil)
              go_simp
              refine (run_any (ops1.out.below hHeld.2.out) rfl pr.out (by intro p hp; simp at hp; subst hp; exact Sa.out.o.ok.i64)).mono ?_
              rintro r W4 ⟨⟨pv, rfl, hp⟩, b⟩
              rw [rnD Sa.out.o.ok] at hp ⊢
              dsimp only at hp
              have hp2 := hid (hp.mono (G := fun b => b ≠ tb) fun b _ (hb : X8.heap.size ≤ b) => by omega)
              obtain ⟨⟨Aq, xq, yq, Dq, zq, tq, rfl, _, _⟩, _⟩ := hp
              have hlt4 := lt_heap_refl X8
              refine hK.out _ _ ⟨box3 (keep_blk ka.out (hHeld.2.out.trans (b.mono hHeld.2.out.size))), hid (hHeld.2.out.trans (b.mono hHeld.2.out.size))⟩ (fun hHeld => ?_)
              clear hK K
              have pr := hid (pr.out.below b)
              have kt := hid (keep_blk kt.out b)
              have rq := hp2
              have sb4 := b.size
              clear b hp2
              try simp only [Act.put, List.setIfInBounds_toArray, List.set_cons_zero, List.set_cons_succ]
              refine wpAnyH_take (i := 5) (oi := ⟨_, _, _, _, _, _⟩) (v := ?_) rfl (by kernel_rfl) (by kernel_rfl) (by kernel_rfl) (fun _ _ _ h => h) (Or.inl ⟨by rfl, ?_⟩) (by assumption) ?_
              rotate_left
              · intro w hSw
                try dsimp only at hSw
                go_simp
                try with_reducible rfl
              simp only [Act.put, List.setIfInBounds_toArray, List.set_cons_zero, List.set_cons_succ]
              refine wpAnyH_take (i := 6) (oi := ⟨_, _, _, _, _, _⟩) (v := ?_) rfl (by kernel_rfl) (by kernel_rfl) (by kernel_rfl) (fun _ _ _ h => h) (Or.inl ⟨by rfl, ?_⟩) (by assumption) ?_
              rotate_left
              · intro w hSw
                try dsimp only at hSw
                go_simp
                try with_reducible rfl
              simp only [Act.put, List.setIfInBounds_toArray, List.set_cons_zero, List.set_cons_succ]
              refine wpAnyH_take (i := 7) (oi := ⟨_, _, _, _, _, _⟩) (v := ?_) rfl (by kernel_rfl) (by kernel_rfl) (by kernel_rfl) (fun _ _ _ h => h) (Or.inl ⟨by rfl, ?_⟩) (by assumption) ?_
              rotate_left
              · intro w hSw
                try dsimp only at hSw
                go_simp
                try with_reducible rfl
              simp only [Act.put, List.setIfInBounds_toArray, List.set_cons_zero, List.set_cons_succ]
              refine wpAnyH_ready (rs := [9]) (by kernel_rfl) (by simp) (AllReadyH.cons (o := ⟨_, _, _, _, _, _⟩) rfl (fun K hK => ?_) AllReadyH.nil)
              go_simp
              obtain ⟨t0, t1, t2⟩ := box3 kt.out
              obtain ⟨f0, f1, f2⟩ := froz3 kt.out
              go_simp
              obtain ⟨u0, u1, u2, m3⟩ := set3 t0 t1 t2 (.slice Aq xq yq) (.slice Dq zq tq) (.int .i64 a.bound)
              have hM := below_mod hHeld.2.out hHeld.2.out.size m3 fun g hg => by omega
              refine hK.out _ _ ⟨box3 (keep_blk ka.out hM), hid hM⟩ (fun hHeld => ?_)
              clear hK K
              try simp only [Act.put, List.setIfInBounds_toArray, List.set_cons_zero, List.set_cons_succ]
              refine wpAnyH_ready (rs := [10]) (by kernel_rfl) (by simp) (AllReadyH.cons (o := ⟨_, _, _, _, _, _⟩) rfl (fun K hK => ?_) AllReadyH.nil)
              go_simp
              go_simp
              refine hK.out _ _ hHeld (fun hHeld => ?_)
              clear hK K
              try simp only [Act.put, List.setIfInBounds_toArray, List.set_cons_zero, List.set_cons_succ]
              refine wpAnyH_done (by kernel_rfl) ?_ _
              go_wp2_with fail
              go_meet
              exact ⟨tb, _, _, _, _, _, _, rfl, rfl, hid ⟨u0, u1, u2⟩, hid ((rq.out.mod m3 fun g _ hg e => hg e).mono fun _ _ _ => trivial), hHeld.2⟩
          · go_simp
            obtain ⟨X8, hX, bX, kX, sX⟩ := alloc_step WD (.cells #[.slice none 0 0, .slice none 0 0, .int .i64 0] 24)
            rw [hX]
            obtain ⟨tb, htb⟩ : ∃ t, WD.heap.size = t := ⟨_, rfl⟩
            have stb : W37.heap.size ≤ tb := by have := hHeld.2.out.size; omega
            refine hK.out _ _ ⟨box3 (keep_blk ka.out (hHeld.2.out.trans (bX.mono hHeld.2.out.size))), hid (hHeld.2.out.trans (bX.mono hHeld.2.out.size))⟩ (fun hHeld => ?_)
            clear hK K
            rw [htb] at kX sX
            try rw [htb]
            have kt := hid kX
            have htX : tb < X8.heap.size := by omega
            clear hX bX kX sX
            try simp only [Act.put, List.setIfInBounds_toArray, List.set_cons_zero, List.set_cons_succ]
            refine wpAnyH_ready (rs := [3]) (by kernel_rfl) (by simp) (AllReadyH.cons (o := ⟨_, _, _, _, _, _⟩) rfl (fun K hK => ?_) AllReadyH.nil)
            go_simp
            obtain ⟨X3, hX, bX, ho⟩ := ps_lit (w := X8) (ps := [a]) (ts := [(_, _, _)]) ((Ps.nil _ (fun _ => True)).snoc (t := (_, _, _)) ((pa.out.below hHeld.2.out).mono fun _ _ _ => trivial)) (by simp) (by simp)
            rw [show X8.alloc (.cells #[.slice Apa xpa ypa, .slice Dpa zpa tpa, .int .i64 a.bound] 24) = X3 from hX]
            refine hK.out _ _ ⟨box3 (keep_blk ka.out (hHeld.2.out.trans (bX.mono hHeld.2.out.size))), hid (hHeld.2.out.trans (bX.mono hHeld.2.out.size))⟩ (fun hHeld => ?_)
            clear hK K
            have kt := hid (keep_blk kt.out bX)
            have pr := hid ho
            have sb3 := bX.size
            clear hX bX ho
            try simp only [Act.put, List.setIfInBounds_toArray, List.set_cons_zero, List.set_cons_succ]
            refine wpAnyH_ready (rs := [4]) (by kernel_rfl) (by simp) (AllReadyH.cons (o := ⟨_, _, _, _, _, _⟩) rfl (fun K hK => ?_) AllReadyH.nil)
            go_simp
            refine (run_any (ops1.out.below hHeld.2.out) rfl pr.out (by intro p hp; simp at hp; subst hp; exact Sa.out.o.ok.i64)).mono ?_
            rintro r W4 ⟨⟨pv, rfl, hp⟩, b⟩
            rw [rnD Sa.out.o.ok] at hp ⊢
            dsimp only at hp
            have hp2 := hid (hp.mono (G := fun b => b ≠ tb) fun b _ (hb : X3.heap.size ≤ b) => by omega)
            obtain ⟨⟨Aq, xq, yq, Dq, zq, tq, rfl, _, _⟩, _⟩ := hp
            have hlt4 := lt_heap_refl X3
            refine hK.out _ _ ⟨box3 (keep_blk ka.out (hHeld.2.out.trans (b.mono hHeld.2.out.size))), hid (hHeld.2.out.trans (b.mono hHeld.2.out.size))⟩ (fun hHeld => ?_)
            clear hK K
            have kt := hid (keep_blk kt.out b)
            have pr := hid (pr.out.below b)
            have rq := hp2
            have sb4 := b.size
            clear b hp2
            try simp only [Act.put, List.setIfInBounds_toArray, List.set_cons_zero, List.set_cons_succ]
            refine wpAnyH_take (i := 5) (oi := ⟨_, _, _, _, _, _⟩) (v := ?_) rfl (by kernel_rfl) (by kernel_rfl) (by kernel_rfl) (fun _ _ _ h => h) (Or.inl ⟨by rfl, ?_⟩) (by assumption) ?_
            rotate_left
            · intro w hSw
              try dsimp only at hSw
              go_simp
              try with_reducible rfl
            simp only [Act.put, List.setIfInBounds_toArray, List.set_cons_zero, List.set_cons_succ]
            refine wpAnyH_take (i := 6) (oi := ⟨_, _, _, _, _, _⟩) (v := ?_) rfl (by kernel_rfl) (by kernel_rfl) (by kernel_rfl) (fun _ _ _ h => h) (Or.inl ⟨by rfl, ?_⟩) (by assumption) ?_
            rotate_left
            · intro w hSw
              try dsimp only at hSw
              go_simp
              try with_reducible rfl
            simp only [Act.put, List.setIfInBounds_toArray, List.set_cons_zero, List.set_cons_succ]
            refine wpAnyH_take (i := 7) (oi := ⟨_, _, _, _, _, _⟩) (v := ?_) rfl (by kernel_rfl) (by kernel_rfl) (by kernel_rfl) (fun _ _ _ h => h) (Or.inl ⟨by rfl, ?_⟩) (by assumption) ?_
            rotate_left
            · intro w hSw
              try dsimp only at hSw
              go_simp
              try with_reducible rfl
            simp only [Act.put, List.setIfInBounds_toArray, List.set_cons_zero, List.set_cons_succ]
            refine wpAnyH_ready (rs := [9]) (by kernel_rfl) (by simp) (AllReadyH.cons (o := ⟨_, _, _, _, _, _⟩) rfl (fun K hK => ?_) AllReadyH.nil)
            go_simp
            obtain ⟨t0, t1, t2⟩ := box3 kt.out
            obtain ⟨f0, f1, f2⟩ := froz3 kt.out
            go_simp
            obtain ⟨u0, u1, u2, m3⟩ := set3 t0 t1 t2 (.slice Aq xq yq) (.slice Dq zq tq) (.int .i64 a.bound)
            have hM := below_mod hHeld.2.out hHeld.2.out.size m3 fun g hg => by omega
            refine hK.out _ _ ⟨box3 (keep_blk ka.out hM), hid hM⟩ (fun hHeld => ?_)
            clear hK K
            try simp only [Act.put, List.setIfInBounds_toArray, List.set_cons_zero, List.set_cons_succ]
            refine wpAnyH_ready (rs := [10]) (by kernel_rfl) (by simp) (AllReadyH.cons (o := ⟨_, _, _, _, _, _⟩) rfl (fun K hK => ?_) AllReadyH.nil)
            go_simp
            go_simp
            refine hK.out _ _ hHeld (fun hHeld => ?_)
            clear hK K
            try simp only [Act.put, List.setIfInBounds_toArray, List.set_cons_zero, List.set_cons_succ]
            refine wpAnyH_done (by kernel_rfl) ?_ _
            go_wp2_with fail
            go_meet
            exact ⟨tb, _, _, _, _, _, _, rfl, rfl, hid ⟨u0, u1, u2⟩, hid ((rq.out.mod m3 fun g _ hg e => hg e).mono fun _ _ _ => trivial), hHeld.2⟩
        case rest =>
          obtain ⟨Zs, As, ns, ds, Ds, ms, es, rfl, rfl, hs, ps, b⟩ := hcut
          obtain ⟨W38, rfl⟩ : ∃ W : World, W = wc := ⟨_, rfl⟩
          have b := b.out
          have pa := hid (pa.out.below b)
          have ka := hid (keep_blk ka.out b)
          have pb := hid (pb.out.below b)
          have kb := hid (keep_blk kb.out b)
          have ops1 := hid (ops1.out.below b)
          have B := hid (B.out.trans (b.mono B.out.size))
          clear b
          have hsm : a.same a = true := by simp [Pb.same]
          have Hsm := hid hsm
          clear hsm hsl
          obtain ⟨s0, s1, s2⟩ := hs.out
          obtain ⟨kae0, kae1, kae2⟩ := box3 ka.out
          go_wp2_with fail
          clear kae0 kae1 kae2
          clear s0 s1 s2
          refine (equal_any ps.out pa.out).mono ?_
          rintro r W39 ⟨rfl, b⟩
          rw [Hsm.out]
          have pa := hid (pa.out.below b)
          have ka := hid (keep_blk ka.out b)
          have pb := hid (pb.out.below b)
          have kb := hid (keep_blk kb.out b)
          have ops1 := hid (ops1.out.below b)
          have B := hid (B.out.trans (b.mono B.out.size))
          clear b
          go_wp2_with fail
          refine (awake25_any).mono ?_
          rintro r W40 ⟨rfl, b⟩
          have pa := hid (pa.out.below b)
          have ka := hid (keep_blk ka.out b)
          have pb := hid (pb.out.below b)
          have kb := hid (keep_blk kb.out b)
          have ops1 := hid (ops1.out.below b)
          have B := hid (B.out.trans (b.mono B.out.size))
          clear b
          go_wp2_with fail
          go_ret
          exact ⟨rfl, B.out⟩
end Go.Proofs.YtooioikkgdgnnaaDoor
