/-
 Chapter 32: several texts in one (SeY).
-/
import Derived.Test.YtcjmpobccbnpkaaGreatMjbl
import Derived.Test.YtcjmpobccbnpkaaGreatTk
namespace Go.Proofs.YtcjmpobccbnpkaaGreat
section
open Go.RowKit

set_option maxRecDepth 100000 in
set_option maxHeartbeats 4000000 in
theorem scall_any {w : World} {F : Nat → Prop} {rb sb tb eb ob pm left k i : Nat} {va : Value} {a : Ask} {z : Lazy} {S : Sol} (h : SolP w F sb tb eb ob pm S) (hrun : RunAt w rb sb va z.v left) (hrb : ¬ F rb)
  (hz : LazyOk a z) (hI : z.I w i) (hP : ∀ g, z.P g → g < w.heap.size ∧ ¬ F g ∧ g ≠ rb) (hfx : Fixed a S) (hR : Run a S.E.cs S.log S.T left k) (hcal : ∀ p ∈ S.E.cs, p.Calm S.T.lits) :
  Calls Tryz.prog 69 #[.pointer (some ⟨rb, 0, none⟩)] w fun r w' => (∃ b e, r = .returned (.tuple #[.bool b, .int .i64 e]) ∧ ∃ S' l' i', Called a z S left k i S' l' i' b e ∧ SolP w' (fun g => F g ∨ w.heap.size ≤ g) sb tb eb ob pm S' ∧ RunAt w' rb sb va z.v l' ∧ z.I w' i') ∧ Mod (fun g => F g ∨ g = rb ∨ z.P g) w w' := by
 obtain ⟨r0, r1, r2, r3⟩ := hrun.four
 obtain ⟨hl1, hl2, hl3⟩ := hR.sizes
 have hmost := hfx.most
 have hn8 := hfx.n8
 have H := hid h.restrict
 have HrbF := hid hrb
 have HrbL := hid hrun.lt
 have HRun := hid hrun
 have Hz := hid hz
 have HI := hid hI
 have HP := hid hP
 have Hfx := hid hfx
 have HR := hid hR
 have Hcal := hid hcal
 have Hwf := hid h.trail.wf
 have hTv := hR.vars
 have Hll : Hid (∀ l ∈ S.T.lits, l.natAbs ≤ a.n) := hid fun l hl => by
  obtain ⟨e, he, rfl⟩ := List.mem_map.1 hl
  have := (h.trail.wf.lit e he).2
  rw [hTv] at this
  exact this
 rcases hz.call with ⟨hv, hno⟩ | ⟨f, first, captured, hv, hcf, hcl⟩
 ·have Hno := hid hno
  have Hv := hid hv
  rw [hv] at r3
  clear h hrb hrun hz hI hP hfx hR hcal hno hv
  go_enter Tryz.func69, Tryz.ntmps69
  go_wp2_with fail
  go_ret2
  exact ⟨⟨false, 0, rfl, S, left, i, .no (Hno.out _), H.out.mono fun g hg => .inl hg.1, HRun.out, HI.out⟩, Mod.refl _ _⟩
 ·have Hcf := hid hcf
  have Hcl := hid hcl
  have Hv := hid hv
  rw [hv] at r3
  obtain ⟨z0, z1, z2, z3, z4⟩ := h.six
  clear h hrb hrun hz hI hP hfx hR hcal hcf hcl hv
  go_enter Tryz.func69, Tryz.ntmps69
  go_wp2_with fail
  refine wp_region_held_drew (S := fun w' => w'.cell? ⟨rb, 0, none⟩ = some (.pointer (some ⟨sb, 0, none⟩)) ∧ w'.cell? ⟨rb, 3, none⟩ = some (.func (.func f) first captured) ∧ w'.cell? ⟨sb, 1, none⟩ = some (.pointer (some ⟨tb, 0, none⟩))) (by kernel_rfl) ⟨r0, r3, z1⟩ (fun hHeld => ?_)
  obtain ⟨WD, hWD⟩ : ∃ Y, w.drew = Y := ⟨_, rfl⟩
  have bD : Below w.heap.size w w.drew := Bl.drew (Below.refl _ _)
  have H := hid (H.out.below bD)
  have HRun := hid (HRun.out.keep (bD.block rb HRun.out.lt))
  have M := hid bD
  have HI := hid (Hz.out.keep HI.out (Mod.of_below (F := fun _ => False) bD) fun g _ _ h => h)
  rw [hWD] at hHeld H HRun M HI ⊢
  clear hWD bD
  refine tk 0 ?_
  refine tk 1 ?_
  refine tk 2 ?_
  refine tk 3 ?_
  refine tk 4 ?_
  refine tk 5 ?_
  refine tk 6 ?_
  refine tk 7 ?_
  refine tk 8 ?_
  refine tk 9 ?_
  refine tk 10 ?_
  refine wpAnyH_ready (rs := [11]) (by kernel_rfl) (by simp) (AllReadyH.cons (o := ⟨_, _, _, _, _, _⟩) rfl (fun K hK => ?_) AllReadyH.nil)
  go_simp
  refine (assign_any H.out.trail).mono ?_
  rintro r w2 ⟨⟨u, rfl, hu⟩, b2⟩
  have H := hid (H.out.below b2)
  have HRun := hid (HRun.out.keep (b2.block rb HRun.out.lt))
  have M := hid (M.out.trans (b2.mono M.out.size))
  obtain ⟨r0, r1, r2, r3⟩ := HRun.out.four
  obtain ⟨z0, z1, z2, z3, z4⟩ := H.out.six
  rw [Hv.out] at r3
  go_simp
  refine hK.out _ _ ⟨r0, r3, z1⟩ (fun hHeld => ?_)
  clear hK K
  have Hu := hid hu.rd
  have s1 := M.out.size
  have HI := hid (Hz.out.keep HI.out (Mod.of_below (F := fun _ => False) b2) fun g _ _ h => h)
  clear hu b2
  try simp only [Act.put, List.setIfInBounds_toArray, List.set_cons_zero, List.set_cons_succ]
  refine wpAnyH_ready (rs := [12]) (by kernel_rfl) (by simp) (AllReadyH.cons (o := ⟨_, _, _, _, _, _⟩) rfl (fun K hK => ?_) AllReadyH.nil)
  go_simp
  refine (clone8_any Hu.out (by rw [hTv]; omega)).mono ?_
  rintro r w3 ⟨⟨A3, c3, rfl, hu3⟩, b3⟩
  have H := hid (H.out.below b3)
  have HRun := hid (HRun.out.keep (b3.block rb HRun.out.lt))
  have M := hid (M.out.trans (b3.mono M.out.size))
  obtain ⟨r0, r1, r2, r3⟩ := HRun.out.four
  obtain ⟨z0, z1, z2, z3, z4⟩ := H.out.six
  rw [Hv.out] at r3
  go_simp
  refine hK.out _ _ ⟨r0, r3, z1⟩ (fun hHeld => ?_)
  clear hK K
  have Hu3 := hid hu3
  have HI := hid (Hz.out.keep HI.out (Mod.of_below (F := fun _ => False) b3) fun g _ _ h => h)
  have s2 := M.out.size
  clear hu3 b3 Hu
  have hcf := Hcf.out
  try simp only [Act.put, List.setIfInBounds_toArray, List.set_cons_zero, List.set_cons_succ]
  refine wpAnyH_ready (rs := [13]) (by kernel_rfl) (by simp) (AllReadyH.cons (o := ⟨_, _, _, _, _, _⟩) rfl (fun K hK => ?_) AllReadyH.nil)
  go_simp
  refine (by simpa using Hcl.out w3 i S.T.lits A3 a.n c3 HI.out Hwf.out.okX Hll.out (by have := Hu3.out; rw [assign_asgX, hTv] at this; exact this.mono fun g _ _ hg hp => by have := (HP.out g hp).1; omega) : Calls Tryz.prog f (first.push (.slice A3 a.n c3) ++ captured) w3 _).mono ?_
  rintro r w4 ⟨⟨B, m, e, rfl, hans⟩, m4⟩
  have s3 := M.out.size
  have H := hid (H.out.mod m4 fun g _ hF hp => (HP.out g hp).2.1 hF.1)
  have HRun := hid (HRun.out.keep (m4.block rb HRun.out.lt fun e => (HP.out rb e).2.2 rfl))
  have M := hid ((Mod.of_below (F := fun g => F g ∨ g = rb ∨ z.P g) M.out).trans (m4.mono fun g _ h => .inl (.inr (.inr h))))
  obtain ⟨r0, r1, r2, r3⟩ := HRun.out.four
  obtain ⟨z0, z1, z2, z3, z4⟩ := H.out.six
  rw [Hv.out] at r3
  go_simp
  refine hK.out _ _ ⟨r0, r3, z1⟩ (fun hHeld => ?_)
  clear hK K
  have Hans := hid hans
  clear hans m4 hcf
  try simp only [Act.put, List.setIfInBounds_toArray, List.set_cons_zero, List.set_cons_succ]
  refine tk 14 ?_
  refine wpAnyH_done (by kernel_rfl) ?_ _
  rcases Hans.out with ⟨rfl, hR0, hI0⟩ | ⟨rfl, s, hst, hRs, hI1⟩
  ·have HR0 := hid hR0
   have HI0 := hid hI0
   clear hR0 hI0 Hans
   go_wp2_with fail
   go_ret2
   exact ⟨⟨false, 0, rfl, S, left, i, .no HR0.out, H.out.mono fun g hg => .inl hg.1, HRun.out, HI0.out⟩, M.out⟩
  ·have Hst := hid hst
   have HRs := hid hRs
   have HI1 := hid hI1
   clear hst hRs hI1 Hans Hu3 HI Hcl Hcf
   cases left with
   | zero =>
    go_wp2_with fail
    refine (scount_no HRun.out).mono ?_
    rintro r w5 ⟨rfl, rfl⟩
    go_wp2_with fail
    go_ret2
    exact ⟨⟨false, 5, rfl, S, 0, i + 1, .many rfl, H.out.mono fun g hg => .inl hg.1, HRun.out, HI1.out⟩, M.out⟩
   | succ left =>
    go_wp2_with fail
    refine (scount_yes HRun.out (by omega)).mono ?_
    rintro r w5 ⟨rfl, h5, m5⟩
    have H := hid (H.out.mod m5 fun g _ hF e => HrbF.out (e ▸ hF.1))
    have HRun := hid h5
    have HI1 := hid (Hz.out.keep HI1.out m5 fun g _ hp e => (HP.out g hp).2.2 e)
    have hrl : Hid (rb < w.heap.size) := hid HrbL.out
    obtain ⟨g, o, s0, t, rfl, hg3, hg4, hs0, hst, hce⟩ := Hst.out.cells (i := 0) (by omega)
    obtain rfl : s = s0 := by simpa using hs0
    obtain ⟨A1, n1, d1, B1, m1, e1, C1, f1, rfl, hpb, hset⟩ := hst
    have hgr : g ≠ rb := by have := hrl.out; omega
    have hce5 : ∀ j u, (Six.cells ⟨.int .u8 s.kind, .slice A1 n1 d1, .slice B1 m1 e1, .int .i64 s.c.bound, .slice C1 s.set.length f1, .slice none 0 0⟩)[j]? = some u → w5.cell? ⟨g, o + j, none⟩ = some u := fun j u hu => (World.cell?_of_block (m5.block g hg4 hgr)).trans (by have := hce j u hu; rwa [Nat.zero_mul, Nat.add_zero] at this)
    have q0 : w5.cell? ⟨g, o, none⟩ = _ := hce5 0 _ rfl
    have q1 : w5.cell? ⟨g, o + 1, none⟩ = _ := hce5 1 _ rfl
    have q2 : w5.cell? ⟨g, o + 2, none⟩ = _ := hce5 2 _ rfl
    have q3 : w5.cell? ⟨g, o + 3, none⟩ = _ := hce5 3 _ rfl
    have q4 : w5.cell? ⟨g, o + 4, none⟩ = _ := hce5 4 _ rfl
    have q5 : w5.cell? ⟨g, o + 5, none⟩ = _ := hce5 5 _ rfl
    have hGr : ∀ g, z.P g ∨ w3.heap.size ≤ g → g ≠ rb := fun g hg e => hg.elim (fun h => (HP.out g h).2.2 e) fun h => by have := hrl.out; omega
    have s4 := m5.size
    have HPB := hid (((hpb.mono (G := fun g => (z.P g ∨ w3.heap.size ≤ g) ∧ g < w4.heap.size) fun g hg h => ⟨h, hg⟩).mod m5 fun g _ hg e => hGr g hg.1 e))
    have HSet := hid (((hset.mono (G := fun g => (z.P g ∨ w3.heap.size ≤ g) ∧ g < w4.heap.size) fun g hg h => ⟨h, hg⟩).mod m5 fun g _ hg e => hGr g hg.1 e))
    have M := hid (M.out.trans (m5.mono fun g _ e => .inl (.inr (.inl e))))
    have Hans := hid (Hz.out.ans HRs.out)
    have hsw4 := s4
    clear hs0 hce hce5 hpb hset m5 h5 Hst hg3 hg4 hgr
    obtain ⟨r0, r1, r2, r3⟩ := HRun.out.four
    obtain ⟨z0, z1, z2, z3, z4⟩ := H.out.six
    go_wp2_with fail
    go_loopw [38] (fun jv W => (jv = .int .i64 0 ∧ Hid (W = w5)) ∨ (jv = .int .i64 1 ∧ Hid (∃ S', Fixed a S' ∧ Run a S'.E.cs S'.log S'.T left (k + 1) ∧ SolP W (fun g => F g ∨ w.heap.size ≤ g) sb tb eb ob pm S' ∧ RunAt W rb sb va z.v left ∧ z.I W (i + 1) ∧ Mod (fun g => F g ∨ g = rb ∨ z.P g) w W))) (fun jv _ => 1 - (intOf jv).toNat)
    case atStart => exact .inl ⟨rfl, rfl⟩
    case round =>
     rcases hrel with ⟨rfl, hW⟩ | ⟨rfl, hW⟩
     ·obtain rfl : w5 = wr := hW.out.symm
      have hwZ0 := M.out.size
      obtain ⟨Z, hZ⟩ : ∃ Z, w5.heap.size = Z := ⟨_, rfl⟩
      obtain ⟨X, hX, bX, kX, sX⟩ := alloc_step w5 (.cells #[.int .u8 s.kind, .slice A1 n1 d1, .slice B1 m1 e1, .int .i64 s.c.bound, .slice C1 s.set.length f1, .slice none 0 0] 52)
      have HX := hid hX
      have HZ := hid hZ
      have H := hid (H.out.below bX)
      have HRun := hid (HRun.out.keep (bX.block rb HRun.out.lt))
      have HPB := hid (HPB.out.below bX)
      have HSet := hid (HSet.out.below bX)
      have HI1 := hid (Hz.out.keep HI1.out (Mod.of_below (F := fun _ => False) bX) fun g _ _ h => h)
      have M := hid (M.out.trans (Mod.of_below bX))
      rw [hZ] at kX sX
      have KX := hid kX
      obtain ⟨t0, t1, t2, t3, t4, t5⟩ := sbox6 kX
      rw [← hX] at t0 t1 t2 t3 t4 t5
      obtain ⟨r0, r1, r2, r3⟩ := HRun.out.four
      obtain ⟨z0, z1, z2, z3, z4⟩ := H.out.six
      have HsX : Hid (Z + 1 ≤ X.heap.size) := hid (by omega)
      have HwZ : Hid (w.heap.size ≤ Z) := hid (by omega)
      clear hX bX kX
      go_wp2_with fail
      try rw [HZ.out]
      rw [HX.out] at t0 t1 t2 t3 t4 t5 ⊢
      refine wp_region_held_drew (S := fun w' => w'.cell? ⟨rb, 0, none⟩ = some (.pointer (some ⟨sb, 0, none⟩)) ∧ w'.cell? ⟨Z, 1, none⟩ = some (.slice A1 n1 d1) ∧ w'.cell? ⟨Z, 2, none⟩ = some (.slice B1 m1 e1) ∧ w'.cell? ⟨Z, 3, none⟩ = some (.int .i64 s.c.bound)) (by kernel_rfl) ⟨r0, t1, t2, t3⟩ (fun hHeld => ?_)
      obtain ⟨WD, hWD⟩ : ∃ Y, X.drew = Y := ⟨_, rfl⟩
      have bD : Below X.heap.size X X.drew := Bl.drew (Below.refl _ _)
      have H := hid (H.out.below bD)
      have HRun := hid (HRun.out.keep (bD.block rb HRun.out.lt))
      have HPB := hid (HPB.out.below bD)
      have HSet := hid (HSet.out.below bD)
      have HI1 := hid (Hz.out.keep HI1.out (Mod.of_below (F := fun _ => False) bD) fun g _ _ h => h)
      have M := hid (M.out.trans (Mod.of_below bD))
      have KX := hid ((bD.block Z (lt_of_block KX.out)).trans KX.out)
      have HsX := hid (Nat.le_trans HsX.out bD.size)
      rw [hWD] at hHeld H HRun HPB HSet HI1 M KX HsX ⊢
      clear hWD bD
      refine tk 0 ?_
      refine tk 1 ?_
      refine tk 2 ?_
      refine tk 3 ?_
      refine tk 4 ?_
      refine tk 5 ?_
      refine wpAnyH_ready (rs := [6]) (by kernel_rfl) (by simp) (AllReadyH.cons (o := ⟨_, _, _, _, _, _⟩) rfl (fun K hK => ?_) AllReadyH.nil)
      go_simp
      refine (sfits_any H.out.six.1 H.out.blocks.2.1 (by rw [Hfx.out.sv]; omega) HPB.out Hans.out.1).mono ?_
      rintro r w6 ⟨rfl, b6⟩
      rw [Hfx.out.sv]
      have H := hid (H.out.below b6)
      have HRun := hid (HRun.out.keep (b6.block rb HRun.out.lt))
      have HPB := hid (HPB.out.below b6)
      have HSet := hid (HSet.out.below b6)
      have HI1 := hid (Hz.out.keep HI1.out (Mod.of_below (F := fun _ => False) b6) fun g _ _ h => h)
      have M := hid (M.out.trans (Mod.of_below b6))
      have KX := hid ((b6.block Z (lt_of_block KX.out)).trans KX.out)
      have HsX := hid (Nat.le_trans HsX.out b6.size)
      obtain ⟨r0, r1, r2, r3⟩ := HRun.out.four
      obtain ⟨z0, z1, z2, z3, z4⟩ := H.out.six
      obtain ⟨t0, t1, t2, t3, t4, t5⟩ := sbox6 KX.out
      go_simp
      refine hK.out _ _ ⟨r0, t1, t2, t3⟩ (fun hHeld => ?_)
      clear hK K
      clear b6
      try simp only [Act.put, List.setIfInBounds_toArray, List.set_cons_zero, List.set_cons_succ]
      obtain ⟨fq, hfq⟩ : ∃ q, fitsB a.n s.c = q := ⟨_, rfl⟩
      rw [hfq]
      have Hfq := hid hfq
      clear hfq
      refine tk 7 ?_
      refine wpAnyH_done (by kernel_rfl) ?_ _
      cases fq with
      | false =>
       go_wp2_with fail
       go_ret2
       exact ⟨⟨false, 2, rfl, S, left, i + 1, .arg left rfl s HRs.out Hfq.out, H.out.mono fun g hg => .inl hg.1, HRun.out, HI1.out⟩, M.out⟩
      | true =>
       obtain ⟨hk3, hLz, hHs, hsl⟩ := Hans.out.2.2.2.2 Hfq.out
       have hfo := Hfq.out
       unfold fitsB at hfo
       rw [Bool.and_eq_true, Bool.not_eq_true', List.any_eq_false] at hfo
       have hok : s.c.Ok := (Pb.ok_iff s.c).1 hfo.1
       have hlit : ∀ l ∈ s.c.lits, l.natAbs ≤ a.n := fun l hl => by
        have := hfo.2 l hl
        simp at this
        exact this.2
       have HEfit : Hid (S.E.fits s.c = true) := hid (fits_of hok (by rw [Hfx.out.ev]; exact hlit))
       have HRn : Hid (Run a (S.E.cs ++ [s.c]) (S.log ++ [s]) S.T left (k + 1)) := hid (HR.out.lazy hk3 hLz hHs (fun hm => by have := (Hcal.out _ hm).1; omega) hok hlit)
       clear hk3 hLz hHs hsl hfo hok hlit
       go_wp2_with fail
       refine wp_region_held_drew (S := fun w' => w'.cell? ⟨rb, 0, none⟩ = some (.pointer (some ⟨sb, 0, none⟩)) ∧ w'.cell? ⟨Z, 0, none⟩ = some (.int .u8 s.kind) ∧ w'.cell? ⟨Z, 1, none⟩ = some (.slice A1 n1 d1) ∧ w'.cell? ⟨Z, 2, none⟩ = some (.slice B1 m1 e1) ∧ w'.cell? ⟨Z, 3, none⟩ = some (.int .i64 s.c.bound) ∧ w'.cell? ⟨Z, 4, none⟩ = some (.slice C1 s.set.length f1) ∧ w'.cell? ⟨Z, 5, none⟩ = some (.slice none 0 0)) (by kernel_rfl) ⟨r0, t0, t1, t2, t3, t4, t5⟩ (fun hHeld => ?_)
       obtain ⟨WE, hWD⟩ : ∃ Y, w6.drew = Y := ⟨_, rfl⟩
       have bD : Below w6.heap.size w6 w6.drew := Bl.drew (Below.refl _ _)
       have H := hid (H.out.below bD)
       have HRun := hid (HRun.out.keep (bD.block rb HRun.out.lt))
       have HPB := hid (HPB.out.below bD)
       have HSet := hid (HSet.out.below bD)
       have HI1 := hid (Hz.out.keep HI1.out (Mod.of_below (F := fun _ => False) bD) fun g _ _ h => h)
       have M := hid (M.out.trans (Mod.of_below bD))
       have KX := hid ((bD.block Z (lt_of_block KX.out)).trans KX.out)
       have HsX := hid (Nat.le_trans HsX.out bD.size)
       rw [hWD] at hHeld H HRun HPB HSet HI1 M KX HsX ⊢
       clear hWD bD
       refine tk 0 ?_
       refine tk 1 ?_
       refine tk 2 ?_
       refine tk 3 ?_
       refine tk 4 ?_
       refine wpAnyH_ready (rs := [5]) (by kernel_rfl) (by simp) (AllReadyH.cons (o := ⟨_, _, _, _, _, _⟩) rfl (fun K hK => ?_) AllReadyH.nil)
       go_simp
       refine (s_note (t := ⟨.int .u8 s.kind, .slice A1 n1 d1, .slice B1 m1 e1, .int .i64 s.c.bound, .slice C1 s.set.length f1, .slice none 0 0⟩) (s := s) H.out ⟨A1, n1, d1, B1, m1, e1, C1, f1, rfl, HPB.out, HSet.out⟩ ⟨Hans.out.2.1, Hans.out.2.2.1, Hans.out.2.2.2.1⟩ (by have := Hfx.out.ls; omega)).mono ?_
       rintro r w7 ⟨⟨v7, rfl⟩, h7, m7⟩
       have hpF : ∀ g, ((z.P g ∨ w3.heap.size ≤ g) ∧ g < w4.heap.size) → ¬ (F g ∧ g < w.heap.size) := fun g hg hf => hg.1.elim (fun h => (HP.out g h).2.1 hf.1) fun h => by omega
       have HdF := hid (show ∀ g, ((z.P g ∨ w3.heap.size ≤ g) ∧ g < w4.heap.size) → ¬ ((F g ∧ g < w.heap.size) ∨ WE.heap.size ≤ g) from fun g hg hf => hf.elim (hpF g hg) fun h => by have := HsX.out; have := HZ.out; omega)
       have HsE := hid HsX.out
       have H := hid h7
       have HRun := hid (HRun.out.keep (m7.block rb HRun.out.lt fun e => HrbF.out e.1))
       have HPB := hid (HPB.out.mod m7 fun g _ hg hf => hpF g hg hf)
       have HSet := hid (HSet.out.mod m7 fun g _ hg hf => hpF g hg hf)
       have HI1 := hid (Hz.out.keep HI1.out m7 fun g _ hp hf => (HP.out g hp).2.1 hf.1)
       have M := hid (M.out.trans (m7.mono fun g _ h => .inl (.inl h.1)))
       have KX := hid ((m7.block Z (lt_of_block KX.out) fun hf => by have := hf.2; have := HwZ.out; omega).trans KX.out)
       have HsX := hid (Nat.le_trans HsX.out m7.size)
       obtain ⟨r0, r1, r2, r3⟩ := HRun.out.four
       obtain ⟨z0, z1, z2, z3, z4⟩ := H.out.six
       obtain ⟨t0, t1, t2, t3, t4, t5⟩ := sbox6 KX.out
       go_simp
       refine hK.out _ _ ⟨r0, t0, t1, t2, t3, t4, t5⟩ (fun hHeld => ?_)
       clear hK K
       clear h7 m7
       try simp only [Act.put, List.setIfInBounds_toArray, List.set_cons_zero, List.set_cons_succ]
       refine wpAnyH_done (by kernel_rfl) ?_ _
       go_wp2_with fail
       refine wp_region_held_drew (S := fun w' => w'.cell? ⟨rb, 0, none⟩ = some (.pointer (some ⟨sb, 0, none⟩)) ∧ w'.cell? ⟨sb, 2, none⟩ = some (.pointer (some ⟨eb, 0, none⟩)) ∧ w'.cell? ⟨Z, 1, none⟩ = some (.slice A1 n1 d1) ∧ w'.cell? ⟨Z, 2, none⟩ = some (.slice B1 m1 e1) ∧ w'.cell? ⟨Z, 3, none⟩ = some (.int .i64 s.c.bound)) (by kernel_rfl) ⟨r0, z2, t1, t2, t3⟩ (fun hHeld => ?_)
       obtain ⟨WF, hWD⟩ : ∃ Y, w7.drew = Y := ⟨_, rfl⟩
       have bD : Below w7.heap.size w7 w7.drew := Bl.drew (Below.refl _ _)
       have H := hid (H.out.below bD)
       have HRun := hid (HRun.out.keep (bD.block rb HRun.out.lt))
       have HPB := hid (HPB.out.below bD)
       have HSet := hid (HSet.out.below bD)
       have HI1 := hid (Hz.out.keep HI1.out (Mod.of_below (F := fun _ => False) bD) fun g _ _ h => h)
       have M := hid (M.out.trans (Mod.of_below bD))
       have KX := hid ((bD.block Z (lt_of_block KX.out)).trans KX.out)
       have HsX := hid (Nat.le_trans HsX.out bD.size)
       rw [hWD] at hHeld H HRun HPB HSet HI1 M KX HsX ⊢
       clear hWD bD
       refine tk 0 ?_
       refine tk 1 ?_
       refine tk 2 ?_
       refine tk 3 ?_
       refine tk 4 ?_
       refine tk 5 ?_
       refine tk 6 ?_
       refine tk 7 ?_
       refine tk 8 ?_
       refine wpAnyH_ready (rs := [9]) (by kernel_rfl) (by simp) (AllReadyH.cons (o := ⟨_, _, _, _, _, _⟩) rfl (fun K hK => ?_) AllReadyH.nil)
       go_simp
       refine (s_add (c := s.c) H.out HPB.out Hans.out.1 HdF.out (by have := Hfx.out.gs; show S.E.cs.length ≤ 500000; omega)).mono ?_
       rintro r w8 ⟨rfl, h8, m8⟩
       rw [if_pos HEfit.out] at h8 ⊢
       have H := hid h8
       have HRun := hid (HRun.out.keep (m8.block rb HRun.out.lt fun e => e.elim (fun e => HrbF.out e.1) fun h => by have := hrl.out; have := HwZ.out; have := HsE.out; omega))
       have HI1 := hid (Hz.out.keep HI1.out m8 fun g _ hp hf => hf.elim (fun h => (HP.out g hp).2.1 h.1) fun h => by have := (HP.out g hp).1; have := HwZ.out; have := HsE.out; omega)
       have M := hid (M.out.trans (m8.mono fun g _ h => h.elim (fun h => .inl (.inl h.1)) fun h => .inr (by have := HwZ.out; have := HsE.out; omega)))
       have KX := hid ((m8.block Z (lt_of_block KX.out) fun hf => hf.elim (fun h => by have := h.2; have := HwZ.out; omega) fun h => by have := HsE.out; omega).trans KX.out)
       obtain ⟨r0, r1, r2, r3⟩ := HRun.out.four
       obtain ⟨z0, z1, z2, z3, z4⟩ := H.out.six
       obtain ⟨t0, t1, t2, t3, t4, t5⟩ := sbox6 KX.out
       go_simp
       refine hK.out _ _ ⟨r0, z2, t1, t2, t3⟩ (fun hHeld => ?_)
       clear hK K
       clear m8
       try simp only [Act.put, List.setIfInBounds_toArray, List.set_cons_zero, List.set_cons_succ]
       refine tk 10 ?_
       refine wpAnyH_done (by kernel_rfl) ?_ _
       go_wp2_with fail
       go_roundw
       case rel =>
        refine .inr ⟨by go_num, hid ⟨{ S with E := S.E.add s.c, log := S.log ++ [s] }, ⟨Hfx.out.n8, Hfx.out.sv, Hfx.out.ev, Hfx.out.most, Hfx.out.gs, Hfx.out.ls⟩, HRn.out, H.out.mono fun g hg => ?_, HRun.out, HI1.out, M.out⟩⟩
        rcases hg with (hg | hg) | hg
        ·exact .inl hg.1
        ·exact .inr (by have := HwZ.out; have := HsE.out; omega)
        ·exact .inr (by have := M.out.size; have := HwZ.out; have := HsX.out; omega)
       case measure => simp [intOf]
     ·obtain ⟨S', hf, hr, hs, hrr, hii, hmm⟩ := hW.out
      go_wp2_with fail
      go_ret2
      exact ⟨⟨true, 0, rfl, S', left, i + 1, .on S' left rfl hf hr, hs, hrr, hii⟩, hmm⟩
end
end Go.Proofs.YtcjmpobccbnpkaaGreat
