/-
 The law SearchMany.
-/
import Derived.Test.YtcjmpobccbnpkaaGreatSgI
namespace Go.Proofs.YtcjmpobccbnpkaaGreat
open Go.RowKit

set_option maxRecDepth 100000 in
set_option maxHeartbeats 8000000 in
theorem many_walk {w : World} {A B C : Option Addr} {n cA m cB q cC : Nat} {lls kks : List (List Int)} {bs : List Int} {x : Int} (hl : LsRd w (fun _ => True) A n cA lls) (hk : LsRd w (fun _ => True) B m cB kks) (hb : Rd w (fun _ => True) 1 (.slice C q cC) q (ints bs)) (hx : 0 ≤ x ∧ x < 256) :
  Calls Tryz.prog 9 #[.slice A n cA, .slice B m cB, .slice C q cC, .int .u8 x] w fun r w' => r = .returned (.bool true) ∧ Below w.heap.size w w' := by
 have Hsm := hid (small32_any hl hk hb)
 have Hx := hid hx
 clear hl hk hb hx
 go_enter Tryz.func9, Tryz.ntmps9
 go_wp2_with fail
 refine Hsm.out.mono ?_
 rintro r w1 ⟨⟨A1, n1, c1, ts1, rfl, hD⟩, b1⟩
 have hok1 : OkN 7 (small7 lls kks bs (min lls.length 24)) := fun p hp => small7_mem hp
 have hle1 := small7_len lls kks bs (min lls.length 24)
 obtain ⟨ps, hps⟩ : ∃ ps, small7 lls kks bs (min lls.length 24) = ps := ⟨_, rfl⟩
 rw [hps] at hD hok1 hle1
 have hn1 : n1 ≤ 24 := by rw [← hD.len]; omega
 have Hok := hid hok1
 have Hi64 := hid (fun p hp => (Hok.out p hp).1.i64)
 have HD := hid hD.rd
 have Hlen := hid (show ps.length = n1 from hD.len)
 have B1 := hid b1
 have hw1 := b1.size
 clear hok1 hle1 hps hD b1 Hsm
 go_wp2_with fail
 have hld := loaded32_any (n := 7) HD.out Hi64.out Hok.out.fits (by omega) (by omega)
 rw [show ((7 : Nat) : Int) = 7 from rfl] at hld
 refine hld.mono ?_
 rintro r w3 ⟨⟨sb, rfl, tb, eb, ob, pm, S, h1, h2, h3, h4⟩, b3⟩
 have H := hid h1
 have HK := hid (Kept.start h2 h3 h4 Hok.out)
 have Hcs := hid h3
 have Hlg := hid h4
 have HD := hid ((HD.out.mono (F' := fun g => g < w1.heap.size) (G' := fun g => g < w1.heap.size) (fun g hg _ => hg) fun g hg h => hg).below b3)
 have B3 := hid (B1.out.trans (b3.mono B1.out.size))
 have hw3 := b3.size
 have HF := hid (show ∀ g, w1.heap.size ≤ g → w1.heap.size ≤ g from fun _ h => h)
 clear h1 h2 h3 h4 b3 hld B1
 go_wp2_with fail
 refine (models_any HD.out Hi64.out (ls := []) (H := fun _ => False) (Rd.empty _ _ none) (by simp) (by omega) (by omega)).mono ?_
 rintro r w4 ⟨rfl, b4⟩
 obtain ⟨q, hq⟩ : ∃ q, modelsN ps [] 128 = q := ⟨_, rfl⟩
 rw [hq]
 have Hq := hid hq
 have hw4 := b4.size
 have H := hid (H.out.below b4)
 have B4 := hid (B3.out.trans (b4.mono B3.out.size))
 clear b4 hq HD B3
 go_wp2_with fail
 obtain ⟨k, hk, hk10⟩ : ∃ k : Nat, wrap64 (x.tmod 11) = (k : Int) ∧ k ≤ 10 := by
  have h1 := Hx.out
  obtain ⟨y, rfl⟩ := Int.eq_ofNat_of_zero_le h1.1
  refine ⟨y % 11, ?_, by omega⟩
  have h2 : ((y : Int)).tmod 11 = ((y % 11 : Nat) : Int) := by rw [Int.tmod_eq_emod_of_nonneg (by omega)]; omega
  rw [h2]
  exact IntWalk.wrap64_in _ ⟨by omega, by omega⟩
 rw [hk]
 refine (ssolve7 (asm := []) (most := k) H.out HK.out (Rd.empty _ (fun _ => False) none) (fun g hg hf => hg) (by simp) (by omega) (by omega) (by rw [Hcs.out, Hlen.out]; omega) (by rw [Hlg.out]; simp)).mono ?_
 rintro r w5 ⟨⟨sat, U1, u1, v1, U2, u2, v2, ez, rfl, T4, F4, new4, M, co, hni, hk4, hlog, hcs, hnw, h1, hF, hM, hco⟩, m1⟩
 have s1 := m1.size
 have HK4 := hid hk4
 have Hcs4 := hid (show T4.E.cs.length ≤ 3000 by rw [hcs, List.length_append, List.length_map, Hcs.out, Hlen.out]; omega)
 have Hlg4 := hid (show T4.log.length ≤ 3000 by rw [hlog, List.length_append, Hlg.out]; simp; omega)
 have HF4 := hid (show ∀ g, F4 g → w1.heap.size ≤ g from fun g hg => (hF g hg).2.elim id fun h => by omega)
 have Hni := hid hni
 have hMl : M.length = u1 := by have := hM.1; rw [i8s_length] at this; omega
 have hCl : co.length = u2 := by have := hco.1; rw [ints_length] at this; omega
 have B5 := hid (below_mod B4.out B4.out.size m1 fun g hg => by omega)
 have H5 := hid h1
 clear h1 hF hM hco m1 hni hk4 hlog hcs hnw H HK Hcs Hlg HF B4 hk Hx
 obtain ⟨X5, hX, bX, kX, sX⟩ := alloc_step w5 (.cells #[.bool sat, .slice U1 u1 v1, .slice U2 u2 v2] 35)
 have HX5 := hid hX
 have H5 := hid (H5.out.below bX)
 have B6 := hid (B5.out.trans (bX.mono B5.out.size))
 obtain ⟨zr, hzr⟩ : ∃ z, w5.heap.size = z := ⟨_, rfl⟩
 rw [hzr] at kX sX
 obtain ⟨t0, t1, t2⟩ := box3 kX
 rw [← hX] at t0 t1 t2
 have Hzr := hid hzr
 have HsX := hid sX
 clear hX bX kX B5 sX
 rcases Hni.out with ⟨rfl, ht⟩ | ⟨rfl, hmost, rfl, rfl, rfl⟩
 ·have hans : sat = decide (0 < q) := by rw [← Hq.out]; exact ht.ans
  subst hans
  clear ht
  go_wp2_with fail
  rw [HX5.out]
  clear t0 t1 t2
  have hsv := ssolve7 (asm := []) (most := 4000) H5.out HK4.out (Rd.empty _ (fun _ => False) none) (fun g hg hf => hg) (by simp) (by omega) (by omega) (by have := Hcs4.out; omega) (by have := Hlg4.out; omega)
  rw [show ((4000 : Nat) : Int) = 4000 from rfl] at hsv
  refine hsv.mono ?_
  rintro r w6 ⟨⟨sat, V1, i1, j1, V2, i2, j2, ez, rfl, T5, F5, new5, M5, co5, hni, hk4, hlog, hcs, hnw, h1, hF, hM, hco⟩, m1⟩
  obtain ⟨rfl, ht⟩ : ez = 0 ∧ Told ps [] new5 sat M5 co5 := by rcases hni with h | h <;> first | exact h | omega
  have hans : sat = decide (0 < q) := by rw [← Hq.out]; exact ht.ans
  subst hans
  have B7 := hid (below_mod B6.out B6.out.size m1 fun g hg => by have := HF4.out g hg; omega)
  clear h1 hF hM hco m1 hni hk4 hlog hcs hnw ht hsv B6 H5 HK4
  obtain ⟨X7, hX, bX, kX, sX⟩ := alloc_step w6 (.cells #[.bool (decide (0 < q)), .slice V1 i1 j1, .slice V2 i2 j2] 35)
  have B8 := hid (B7.out.trans (bX.mono B7.out.size))
  have HX7 := hid hX
  obtain ⟨zs, hzs⟩ : ∃ z, w6.heap.size = z := ⟨_, rfl⟩
  rw [hzs] at kX sX
  obtain ⟨t0, t1, t2⟩ := box3 kX
  rw [← hX] at t0 t1 t2
  clear hX bX kX B7 sX
  go_wp2_with fail
  rw [HX7.out]
  refine awake32_any.mono ?_
  rintro r w8 ⟨rfl, b8⟩
  have B9 := hid (B8.out.trans (b8.mono B8.out.size))
  clear b8
  go_wp2_with fail
  go_ret
  exact ⟨rfl, B9.out⟩
 ·obtain rfl : u1 = 0 := hMl.symm
  obtain rfl : u2 = 0 := hCl.symm
  go_wp2_with fail
  rw [HX5.out]
  clear t0 t1 t2
  have hsv := ssolve7 (asm := []) (most := 4000) H5.out HK4.out (Rd.empty _ (fun _ => False) none) (fun g hg hf => hg) (by simp) (by omega) (by omega) (by have := Hcs4.out; omega) (by have := Hlg4.out; omega)
  rw [show ((4000 : Nat) : Int) = 4000 from rfl] at hsv
  refine hsv.mono ?_
  rintro r w6 ⟨⟨sat, V1, i1, j1, V2, i2, j2, ez, rfl, T5, F5, new5, M5, co5, hni, hk4, hlog, hcs, hnw, h1, hF, hM, hco⟩, m1⟩
  obtain ⟨rfl, ht⟩ : ez = 0 ∧ Told ps [] new5 sat M5 co5 := by rcases hni with h | h <;> first | exact h | omega
  have hans : sat = decide (0 < q) := by rw [← Hq.out]; exact ht.ans
  subst hans
  have B7 := hid (below_mod B6.out B6.out.size m1 fun g hg => by have := HF4.out g hg; omega)
  clear h1 hF hM hco m1 hni hk4 hlog hcs hnw ht hsv B6 H5 HK4
  obtain ⟨X7, hX, bX, kX, sX⟩ := alloc_step w6 (.cells #[.bool (decide (0 < q)), .slice V1 i1 j1, .slice V2 i2 j2] 35)
  have B8 := hid (B7.out.trans (bX.mono B7.out.size))
  have HX7 := hid hX
  obtain ⟨zs, hzs⟩ : ∃ z, w6.heap.size = z := ⟨_, rfl⟩
  rw [hzs] at kX sX
  obtain ⟨t0, t1, t2⟩ := box3 kX
  rw [← hX] at t0 t1 t2
  clear hX bX kX B7 sX
  go_wp2_with fail
  rw [HX7.out]
  refine awake32_any.mono ?_
  rintro r w8 ⟨rfl, b8⟩
  have B9 := hid (B8.out.trans (b8.mono B8.out.size))
  clear b8
  go_wp2_with fail
  go_ret
  exact ⟨rfl, B9.out⟩
end Go.Proofs.YtcjmpobccbnpkaaGreat
