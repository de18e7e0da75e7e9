/-
 Chapter 32: several texts in one (SeZ).
-/
import Derived.Test.YtcjmpobccbnpkaaGreatMjbm
import Derived.Test.YtcjmpobccbnpkaaGreatTk
import Derived.Test.YtcjmpobccbnpkaaGreatTkU
namespace Go.Proofs.YtcjmpobccbnpkaaGreat
section
open Go.RowKit
inductive Parted (a : Ask) (z : Lazy) (i0 left : Nat) (S : Sol) (co : List Int) (l k i : Nat) : Int → Int → Prop
 | again (hi : i = i0 + k) (hr : Run a S.E.cs S.log S.T l k) (hl : l < left) : Parted a z i0 left S co l k i 0 0
 | sat (hi : i = i0 + k) (hr : Run a S.E.cs S.log S.T l k) (ha : ∀ x ∈ a.asm, x ∈ S.T.lits) (hall : ∀ y : Nat, 1 ≤ y → y ≤ a.n → S.T.value y ≠ 0) (hcal : ∀ p ∈ S.E.cs, p.Calm S.T.lits) (hz : z.R S.T.lits none) : Parted a z i0 left S co l k i 1 0
 | unsat (hi : i = i0 + k) (lx : Nat) (hr : Run a S.E.cs S.log S.T lx k) (hs : List.Sublist co a.asm) (hn : RupX S.E.cs (co.map fun l => -l)) : Parted a z i0 left S co l k i 2 0
 | many (hr : Run a S.E.cs S.log S.T 0 k) : Parted a z i0 left S co l k i 0 5
 | arg (lx : Nat) (hr : Run a S.E.cs S.log S.T lx k) (X : List Int) (s : Stp) (hs : z.R X (some s)) (hn : fitsB a.n s.c = false) : Parted a z i0 left S co l k i 0 2
theorem s_prop2 {w : World} {F : Nat → Prop} {sb tb eb ob pm : Nat} {S : Sol} (h : SolP w F sb tb eb ob pm S) (hv : S.E.vars ≤ S.T.vars) (hn : S.E.cs.length ≤ 1000000) (hv8 : S.T.vars ≤ 1000) :
  Calls Tryz.prog 67 #[.pointer (some ⟨eb, 0, none⟩), .pointer (some ⟨tb, 0, none⟩)] w fun r w' =>
   (∃ A n c b, r = .returned (.tuple #[.slice A n c, .bool b]) ∧ ∃ S' cf F', (∃ xs, (∀ i ∈ xs, i < S.E.cs.length) ∧ fineX S.E.cs S.T.lits xs ∧ S'.T = S.T.exams S.E.cs xs) ∧ S'.vars = S.vars ∧ S'.E.vars = S.E.vars ∧ S'.E.cs = S.E.cs ∧ S'.log = S.log ∧
    SolP w' F' sb tb eb ob pm S' ∧ (∀ g, F' g → g < w'.heap.size ∧ (F g ∨ w.heap.size ≤ g)) ∧
    ((b = false ∧ ∀ p ∈ S.E.cs, p.Calm S'.T.lits) ∨ (b = true ∧ Rd w' (fun g => w.heap.size ≤ g ∧ ¬ F' g) 1 (.slice A n c) n (ints cf) ∧ n ≤ 1000 ∧ UPc S.E.cs cf ∧ ∀ x ∈ cf, -x ∈ S'.T.lits))) ∧ Mod F w w' := by
 have hE := h.eok
 have hT := h.trail.wf
 have hl : ∀ c ∈ S.E.cs, ∀ l ∈ c.lits, l.natAbs ≤ S.T.vars := fun c hc l hl => Nat.le_trans (hE.lits c hc l hl) hv
 refine (s_prop h hv hn).mono ?_
 rintro r w' ⟨hr, hm⟩
 refine ⟨?_, hm⟩
 rcases hr with ⟨A, c, xs, rfl, h1, h2, h3, h4⟩ | ⟨A, n, c, xs, i, B, rfl, h1, h2, h3, h4, h5, h6, h7⟩
 ·have he := Tr.exams_is hE.cs xs S.T hT hl h1
  obtain ⟨F', h8, h9⟩ := h4.pack
  refine ⟨A, 0, c, false, rfl, { S with E := { S.E with seen := runX S.E.cs S.T.lits xs, done := S.E.cs.length }, T := S.T.exams S.E.cs xs }, [], F', ⟨xs, h1, h2, rfl⟩, rfl, rfl, rfl, rfl, h8, h9, .inl ⟨rfl, fun p hp => ?_⟩⟩
  have := h3 p hp
  rw [← he.lits] at this
  exact this
 ·have he := Tr.exams_is hE.cs xs S.T hT hl h1
  refine ⟨A, n, c, true, rfl, { S with E := { S.E with seen := [], done := 0 }, T := S.T.exams S.E.cs xs }, _, fun g => ((F g ∨ w.heap.size ≤ g) ∧ g < B) ∧ g < w'.heap.size, ⟨xs, h1, h2, rfl⟩, rfl, rfl, rfl, rfl, h7.restrict, fun g hg => ⟨hg.2, hg.1.1⟩, .inr ⟨rfl, h5.mono fun g _ hg => ⟨by omega, fun hf => by omega⟩, ?_, UPc.off hE.cs h3 h4, fun x hx => ?_⟩⟩
  ·have h8 := h5.1
   rw [ints_length, Nat.mul_one] at h8
   have h9 : ((cAt S.E.cs i).offX (runX S.E.cs S.T.lits xs)).length ≤ (cAt S.E.cs i).lits.length := List.length_filter_le _ _
   have h10 := (hE.cs _ (cAt_mem h3)).fewn (hl _ (cAt_mem h3))
   omega
  ·have := (mem_offX.1 hx).2.2
   rw [← he.lits] at this
   exact this
def todo (l : Nat) (T : Tr) : Nat := l * 9 + (8 - T.L.length)
theorem Run.len8 {a : Ask} {cs : List Pb} {log : List Stp} {T : Tr} {left k : Nat} (h : Run a cs log T left k) (h8 : a.n ≤ 8) : T.L.length ≤ 8 := by
 obtain ⟨Ls, hs⟩ := h.srch
 have := hs.wf.len
 have := h.vars
 omega
structure PartW (B : Nat) (F P : Nat → Prop) (a : Ask) (z : Lazy) (i0 left rb sb tb eb ob pm : Nat) (va : Value) (W0 W : World) (l : Nat) (F' : Nat → Prop) (S : Sol) (i k : Nat) : Prop where
 s : SolP W F' sb tb eb ob pm S
 f : ∀ g, F' g → g < W.heap.size ∧ (F g ∨ B ≤ g)
 r : RunAt W rb sb va z.v l
 fx : Fixed a S
 run : Run a S.E.cs S.log S.T l k
 zi : z.I W i
 ik : i = i0 + k
 m : Mod (fun g => F g ∨ g = rb ∨ P g) W0 W
 le : l ≤ left
set_option maxRecDepth 100000 in
set_option maxHeartbeats 8000000 in
theorem spart_any {w : World} {F Ga : Nat → Prop} {rb sb tb eb ob pm na ca left k i0 : Nat} {Aa : Option Addr} {a : Ask} {z : Lazy} {S : Sol} {cn : Int} (h : SolP w F sb tb eb ob pm S) (hrun : RunAt w rb sb (.slice Aa na ca) z.v left) (hrb : ¬ F rb)
  (hz : LazyOk a z) (hI : z.I w (i0 + k)) (hP : ∀ g, z.P g → g < w.heap.size ∧ ¬ F g ∧ g ≠ rb) (hasm : Rd w Ga 1 (.slice Aa na ca) na (ints a.asm)) (hGa : ∀ g, Ga g → ¬ F g ∧ g ≠ rb ∧ ¬ z.P g) (hal : ∀ x ∈ a.asm, x ≠ 0 ∧ x.natAbs ≤ a.n) (hna : na ≤ 1000000)
  (hfx : Fixed a S) (hR : Run a S.E.cs S.log S.T left k) (hc1 : 1 ≤ cn) (hc2 : cn ≤ 4611686018427387904) :
  Calls Tryz.prog 37 #[.pointer (some ⟨rb, 0, none⟩), .int .i64 cn] w fun r w' => (∃ st A n c e, r = .returned (.tuple #[.int .i64 st, .slice A n c, .int .i64 e]) ∧ ∃ S' F' co l' k' i', Parted a z i0 left S' co l' k' i' st e ∧ Fixed a S' ∧ SolP w' F' sb tb eb ob pm S' ∧ (∀ g, F' g → g < w'.heap.size ∧ (F g ∨ w.heap.size ≤ g)) ∧
   Rd w' (fun g => w.heap.size ≤ g ∧ ¬ F' g) 1 (.slice A n c) n (ints co) ∧ RunAt w' rb sb (.slice Aa na ca) z.v l' ∧ z.I w' i') ∧ Mod (fun g => F g ∨ g = rb ∨ z.P g) w w' := by
 have hn8 := hfx.n8
 have hb := h.blocks.2.1
 have hrl := hrun.lt
 have Hst := hid (show PartW w.heap.size F z.P a z i0 left rb sb tb eb ob pm (.slice Aa na ca) w w left (fun g => F g ∧ g < w.heap.size) S (i0 + k) k from ⟨h.restrict, fun g hg => ⟨hg.2, .inl hg.1⟩, hrun, hfx, hR, hI, rfl, Mod.refl _ _, Nat.le_refl _⟩)
 have HrbF := hid hrb
 have Hz := hid hz
 have HP := hid hP
 have Hasm := hid hasm
 have HGa := hid hGa
 have Hal := hid hal
 have hc0 := hR.len8 hfx.n8
 clear h hrun hrb hz hI hP hasm hGa hal hfx hR
 go_enter Tryz.func37, Tryz.ntmps37
 go_wp2_with fail
 go_loopg [1] (todo left S.T) (fun q cv W => ∃ (cf : Int) (l : Nat) (F' : Nat → Prop) (S' : Sol) (i k : Nat), cv = .int .i64 cf ∧ 1 ≤ cf ∧ cf ≤ cn ∧ Hid (todo l S'.T = q) ∧ Hid (PartW w.heap.size F z.P a z i0 left rb sb tb eb ob pm (.slice Aa na ca) w W l F' S' i k))
 case atStart => exact ⟨cn, left, _, S, i0 + k, k, rfl, hc1, Int.le_refl _, rfl, Hst⟩
 case round =>
  clear Hst
  obtain ⟨cf, l, F1, S1, i, k, rfl, cf1, cf2, Hq, C⟩ := hrel
  obtain ⟨r0, r1, r2, r3⟩ := C.o.r.four
  obtain ⟨z0, z1, z2, z3, z4⟩ := C.o.s.six
  have hTv := C.o.run.vars
  have hsz := C.o.run.sizes
  have hmost := C.o.fx.most
  have hgs := C.o.fx.gs
  have H := hid C.o.s
  have HRun := hid C.o.r
  have M := hid C.o.m
  have HI := hid C.o.zi
  have HF1r : Hid (¬ F1 rb) := hid fun e => by
   rcases (C.o.f rb e).2 with h | h
   ·exact HrbF.o h
   ·omega
  have HF1p : Hid (∀ g, z.P g → ¬ F1 g) := hid fun g hp e => by
   have := HP.o g hp
   rcases (C.o.f g e).2 with h | h
   ·exact this.2.1 h
   ·omega
  go_wp2_with fail
  refine wp_region_held_drew (S := fun w' => w'.cell? ⟨rb, 0, none⟩ = some (.pointer (some ⟨sb, 0, none⟩)) ∧ w'.cell? ⟨sb, 2, none⟩ = some (.pointer (some ⟨eb, 0, none⟩)) ∧ w'.cell? ⟨sb, 1, none⟩ = some (.pointer (some ⟨tb, 0, none⟩))) (by kernel_rfl) ⟨r0, z2, z1⟩ (fun hHeld => ?_)
  obtain ⟨WD, hWD⟩ : ∃ Y, wr.drew = Y := ⟨_, rfl⟩
  have bD : Below wr.heap.size wr wr.drew := Bl.drew (Below.refl _ _)
  have H := hid (H.o.below bD)
  have HRun := hid (HRun.o.keep (bD.block rb HRun.o.lt))
  have M := hid (M.o.trans (Mod.of_below bD))
  have HI := hid (Hz.o.keep HI.o (Mod.of_below (F := fun _ => False) bD) fun g _ _ h => h)
  have sD := bD.size
  rw [hWD] at hHeld H HRun M HI sD ⊢
  clear hWD bD
  refine tk 0 ?_
  refine tk 1 ?_
  refine tk 2 ?_
  refine tk 3 ?_
  refine tk 4 ?_
  refine tk 5 ?_
  refine tk 6 ?_
  refine tk 7 ?_
  refine tk 8 ?_
  refine tk 9 ?_
  refine tk 10 ?_
  refine tk 11 ?_
  refine tk 12 ?_
  refine tk 13 ?_
  refine rd1 14 fun K hK => ?_
  go_simp
  refine (s_prop2 H.o (by rw [C.o.fx.ev, hTv]; exact Nat.le_refl _) (by omega) (by rw [hTv]; have := C.o.fx.n8; omega)).mono ?_
  rintro r w2 ⟨⟨A2, n2, c2, b2, rfl, S2, cl, F2, hx2, hv2, hev2, hcs2, hlog2, h2, hF2, hb2⟩, m2⟩
  have H := hid h2
  have HRun := hid (HRun.o.keep (m2.block rb HRun.o.lt fun e => HF1r.o e))
  have M := hid (M.o.trans (m2.mono fun g _ h => (C.o.f g h).2.elim (fun h => .inl (.inl h)) .inr))
  have HI := hid (Hz.o.keep HI.o m2 fun g _ hp hf => HF1p.o g hp hf)
  have s2 := m2.size
  obtain ⟨r0, r1, r2, r3⟩ := HRun.o.four
  obtain ⟨z0, z1, z2, z3, z4⟩ := H.o.six
  go_simp
  refine hK.out _ _ ⟨r0, z2, z1⟩ (fun hHeld => ?_)
  clear hK K
  have Hb := hid hb2
  have HF2 := hid hF2
  have Hx2 := hid hx2
  clear hb2 hF2 hx2 h2 m2
  refine tk 15 ?_
  refine tk 16 ?_
  refine tk 17 ?_
  refine tk 18 ?_
  refine tk 19 ?_
  refine wpAnyH_done (by kernel_rfl) ?_ _
  obtain ⟨xs, x1, x2, x3⟩ := Hx2.o
  have hR2 : Run a S2.E.cs S2.log S2.T l k := by
   rw [hcs2, hlog2, x3]
   obtain ⟨Ls, hs⟩ := C.o.run.srch
   exact C.o.run.move (fun G hG => (hG.exams x1 x2).1) (hs.exams x1 x2).2.1
  have hlen2 : S1.T.L.length ≤ S2.T.L.length := by
   rw [x3]
   obtain ⟨Ls, hs⟩ := C.o.run.srch
   exact (hs.exams x1 x2).2.2.2
  have hfx2 : Fixed a S2 := ⟨C.o.fx.n8, hv2.trans C.o.fx.sv, hev2.trans C.o.fx.ev, C.o.fx.most, C.o.fx.gs, C.o.fx.ls⟩
  have hl8 := C.o.run.len8 C.o.fx.n8
  have hl82 := hR2.len8 C.o.fx.n8
  have hsM := C.o.m.size
  have HF2' := hid (show ∀ g, F2 g → g < w2.heap.size ∧ (F g ∨ w.heap.size ≤ g) from fun g hg => ⟨(HF2.o g hg).1, (HF2.o g hg).2.elim (fun h => (C.o.f g h).2) fun h => .inr (by omega)⟩)
  have HF2r : Hid (¬ F2 rb) := hid fun e => by
   rcases (HF2'.o rb e).2 with h | h
   ·exact HrbF.o h
   ·omega
  have HF2p : Hid (∀ g, z.P g → ¬ F2 g) := hid fun g hp e => by
   have := HP.o g hp
   rcases (HF2'.o g e).2 with h | h
   ·exact this.2.1 h
   ·omega
  have HR2 := hid hR2
  have Hfx2 := hid hfx2
  have Hcs2 := hid hcs2
  have hik := C.o.ik
  have hle := C.o.le
  have Hik := hid hik
  have hwsM := M.o.size
  clear hR2 hfx2 hcs2 hlog2 hv2 hev2 x1 x2 x3 Hx2 hik hsz
  rcases Hb.o with ⟨rfl, hcal⟩ | ⟨rfl, hrd, hn, hu, hneg⟩
  ·have Hcal := hid (show ∀ p ∈ S2.E.cs, p.Calm S2.T.lits from fun p hp => hcal p (by rw [← Hcs2.o]; exact hp))
   clear hcal Hb
   go_wp2_with fail
   refine (scall_any H.o HRun.o HF2r.o Hz.o HI.o (fun g hg => ⟨by have := (HP.o g hg).1; omega, HF2p.o g hg, (HP.o g hg).2.2⟩) Hfx2.o HR2.o Hcal.o).mono ?_
   rintro r w3 ⟨⟨b3, e3, rfl, S3, l3, i3, hcd, h3, hr3, hi3⟩, m3⟩
   have s3 := m3.size
   obtain ⟨F3, h3, hF3⟩ := h3.pack
   have HF3 := hid (show ∀ g, F3 g → g < w3.heap.size ∧ (F g ∨ w.heap.size ≤ g) from fun g hg => ⟨(hF3 g hg).1, (hF3 g hg).2.elim (fun h => (HF2'.o g h).2) fun h => .inr (by omega)⟩)
   have M3 := hid (M.o.trans (m3.mono (G := fun g => (F g ∨ g = rb ∨ z.P g) ∨ w.heap.size ≤ g) fun g _ h => h.elim (fun h => (HF2'.o g h).2.imp .inl id) fun h => .inl (.inr h)))
   have H3 := hid h3
   have HRun3 := hid hr3
   have HI3 := hid hi3
   clear h3 hr3 hi3 hF3 m3
   cases hcd with
   | many hl0 =>
    go_wp2_with fail
    go_ret3
    exact ⟨⟨0, none, 0, 0, 5, rfl, S2, F3, [], 0, k, i + 1, .many (hl0 ▸ HR2.o), Hfx2.o, H3.o, HF3.o, Rd.empty _ _ _, HRun3.o, HI3.o⟩, M3.o⟩
   | arg l' hl' s hs hnf =>
    go_wp2_with fail
    go_ret3
    exact ⟨⟨0, none, 0, 0, 2, rfl, S2, F3, [], l3, k, i + 1, .arg l HR2.o _ s hs hnf, Hfx2.o, H3.o, HF3.o, Rd.empty _ _ _, HRun3.o, HI3.o⟩, M3.o⟩
   | on S3 l' hl' hf hr =>
    have hl83 := hr.len8 hf.n8
    go_wp2_with fail
    go_roundg (todo l3 S3.T)
    case measure => rw [← Hq.o]; unfold todo; omega
    case rel => exact ⟨cf, l3, F3, S3, i + 1, k + 1, rfl, cf1, cf2, rfl, ⟨H3.o, HF3.o, HRun3.o, hf, hr, HI3.o, by have := Hik.o; omega, M3.o, by omega⟩⟩
   | no hno =>
    have HF3r : Hid (¬ F3 rb) := hid fun e => by
     rcases (HF3.o rb e).2 with h | h
     ·exact HrbF.o h
     ·omega
    have Hno := hid hno
    have HA3 := hid (Hasm.o.mod M3.o fun g _ hg hf => by
     obtain ⟨g1, g2, g3⟩ := HGa.o g hg
     exact hf.elim g1 fun h => h.elim g2 g3)
    have hw3 := M3.o.size
    go_wp2_with fail
    refine (sdecide_any H3.o HRun3.o HF3r.o HA3.o Hal.o hna Hfx2.o HR2.o Hcal.o).mono ?_
    rintro r w4 ⟨⟨st, A4, n4, c4, rfl, co, hco, S4, hde, h4, h4s⟩, m4⟩
    have s4 := m4.size
    have M4 := hid (M3.o.trans (m4.mono (G := fun g => (F g ∨ g = rb ∨ z.P g) ∨ w.heap.size ≤ g) fun g _ h => (HF3.o g h).2.imp .inl id))
    have HRun4 := hid (HRun3.o.keep (m4.block rb HRun3.o.lt fun e => HF3r.o e))
    have HI4 := hid (Hz.o.keep HI3.o m4 fun g _ hp hf => by
     have := HP.o g hp
     rcases (HF3.o g hf).2 with h | h
     ·exact this.2.1 h
     ·omega)
    have Hco := hid hco
    have H4s := hid h4s
    have H4 := hid h4
    clear hco h4s h4 m4
    cases hde with
    | on S4 hf hr hl4 =>
     obtain ⟨F4, h5, hF4⟩ := H4.o.pack
     have HF4 := hid (show ∀ g, F4 g → g < w4.heap.size ∧ (F g ∨ w.heap.size ≤ g) from fun g hg => ⟨(hF4 g hg).1, (hF4 g hg).2.elim (fun h => (HF3.o g h).2) fun h => .inr (by omega)⟩)
     have hl84 := hr.len8 hf.n8
     have H5 := hid h5
     clear h5 hF4
     go_wp2_with fail
     go_roundg (todo l S4.T)
     case measure => rw [← Hq.o]; unfold todo; omega
     case rel => exact ⟨cf, l, F4, S4, i, k, rfl, cf1, cf2, rfl, ⟨H5.o, HF4.o, HRun4.o, hf, hr, HI4.o, Hik.o, M4.o, hle⟩⟩
    | sat ha hall =>
     go_wp2_with fail
     go_ret3
     exact ⟨⟨1, A4, n4, c4, 0, rfl, S2, F3, co, l, k, i, .sat Hik.o HR2.o ha hall Hcal.o Hno.o, Hfx2.o, (H4s.o (by omega)), fun g hg => ⟨by have := (HF3.o g hg).1; omega, (HF3.o g hg).2⟩, Hco.o.mono fun g _ hg => ⟨by omega, fun hf => by have := (HF3.o g hf).1; omega⟩, HRun4.o, HI4.o⟩, M4.o⟩
    | unsat hs hn =>
     go_wp2_with fail
     go_ret3
     exact ⟨⟨2, A4, n4, c4, 0, rfl, S2, F3, co, l, k, i, .unsat Hik.o l HR2.o hs hn, Hfx2.o, (H4s.o (by omega)), fun g hg => ⟨by have := (HF3.o g hg).1; omega, (HF3.o g hg).2⟩, Hco.o.mono fun g _ hg => ⟨by omega, fun hf => by have := (HF3.o g hf).1; omega⟩, HRun4.o, HI4.o⟩, M4.o⟩
  ·have Hrd := hid hrd
   have Hu := hid (show UPc S2.E.cs cl from by rw [Hcs2.o]; exact hu)
   have Hneg := hid hneg
   have hwc : IntKind.i64.wrap (cf - 1) = cf - 1 := iw' (by omega) (by omega)
   clear hrd hu hneg Hb
   go_wp2_with fail
   refine (sresolve_any H.o HRun.o HF2r.o Hrd.o (fun g hg => ⟨hg.2, by omega⟩) Hfx2.o HR2.o Hu.o Hneg.o hn).mono ?_
   rintro r w3 ⟨⟨st, e3, rfl, S3, l3, hres, h3, hr3⟩, m3⟩
   have s3 := m3.size
   obtain ⟨F3, h3, hF3⟩ := h3.pack
   have HF3 := hid (show ∀ g, F3 g → g < w3.heap.size ∧ (F g ∨ w.heap.size ≤ g) from fun g hg => ⟨(hF3 g hg).1, (hF3 g hg).2.elim (fun h => (HF2'.o g h).2) fun h => .inr (by omega)⟩)
   have M3 := hid (M.o.trans (m3.mono (G := fun g => (F g ∨ g = rb ∨ z.P g) ∨ w.heap.size ≤ g) fun g _ h => h.elim (fun h => (HF2'.o g h).2.imp .inl id) fun h => .inl (.inr (.inl h))))
   have H3 := hid h3
   have HRun3 := hid hr3
   have HI3 := hid (Hz.o.keep HI.o m3 fun g _ hp hf => hf.elim (HF2p.o g hp) (HP.o g hp).2.2)
   clear h3 hr3 hF3 m3
   cases hres with
   | many hl0 hl' hS =>
    subst hl' hS
    go_wp2_with fail
    go_ret3
    exact ⟨⟨0, none, 0, 0, 5, rfl, S3, F3, [], 0, k, i, .many (hl0 ▸ HR2.o), Hfx2.o, H3.o, HF3.o, Rd.empty _ _ _, HRun3.o, HI3.o⟩, M3.o⟩
   | none hl' hS hr =>
    subst hS
    go_wp2_with fail
    go_ret3
    exact ⟨⟨2, none, 0, 0, 0, rfl, S3, F3, [], l3, k, i, .unsat Hik.o l HR2.o (List.nil_sublist _) hr, Hfx2.o, H3.o, HF3.o, Rd.empty _ _ _, HRun3.o, HI3.o⟩, M3.o⟩
   | on hl' hf hr =>
    have hl83 := hr.len8 hf.n8
    by_cases hc1 : cf = 1
    ·subst hc1
     go_wp2_with fail
     go_ret3
     exact ⟨⟨0, none, 0, 0, 0, rfl, S3, F3, [], l3, k, i, .again Hik.o hr (by omega), hf, H3.o, HF3.o, Rd.empty _ _ _, HRun3.o, HI3.o⟩, M3.o⟩
    ·have hcF : (cf - 1 == 0) = false := by simp; omega
     go_wp2_with fail
     go_roundg (todo l3 S3.T)
     case measure => rw [← Hq.o]; unfold todo; omega
     case rel => exact ⟨cf - 1, l3, F3, S3, i, k, rfl, by omega, by omega, rfl, ⟨H3.o, HF3.o, HRun3.o, hf, hr, HI3.o, Hik.o, M3.o, by omega⟩⟩
end
end Go.Proofs.YtcjmpobccbnpkaaGreat
