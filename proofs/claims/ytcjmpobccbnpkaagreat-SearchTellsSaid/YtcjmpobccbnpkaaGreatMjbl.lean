/-
 Chapter 32: several texts in one (SeW SeX).
-/
import Derived.Test.YtcjmpobccbnpkaaGreatMjbj
import Derived.Test.YtcjmpobccbnpkaaGreatMjbk
import Derived.Test.YtcjmpobccbnpkaaGreatMjav
import Derived.Test.YtcjmpobccbnpkaaGreatTk
import Derived.Test.YtcjmpobccbnpkaaGreatTkU
namespace Go.Proofs.YtcjmpobccbnpkaaGreat
section
open Go.RowKit
inductive Decided (a : Ask) (S : Sol) (co : List Int) (left k : Nat) : Sol → Int → Prop
 | on (S' : Sol) (hf : Fixed a S') (hr : Run a S'.E.cs S'.log S'.T left k) (hl : S'.T.L.length = S.T.L.length + 1) : Decided a S co left k S' 0
 | sat (ha : ∀ x ∈ a.asm, x ∈ S.T.lits) (hall : ∀ y : Nat, 1 ≤ y → y ≤ a.n → S.T.value y ≠ 0) : Decided a S co left k S 1
 | unsat (hs : List.Sublist co a.asm) (hr : RupX S.E.cs (co.map fun l => -l)) : Decided a S co left k S 2
set_option maxRecDepth 100000 in
set_option maxHeartbeats 4000000 in
theorem sdecide_any {w : World} {F Ga : Nat → Prop} {rb sb tb eb ob pm na ca left k : Nat} {Aa : Option Addr} {lz : Value} {a : Ask} {S : Sol} (h : SolP w F sb tb eb ob pm S) (hrun : RunAt w rb sb (.slice Aa na ca) lz left) (hrb : ¬ F rb)
  (hasm : Rd w Ga 1 (.slice Aa na ca) na (ints a.asm)) (hal : ∀ x ∈ a.asm, x ≠ 0 ∧ x.natAbs ≤ a.n) (hna : na ≤ 1000000) (hfx : Fixed a S) (hR : Run a S.E.cs S.log S.T left k) (hcal : ∀ p ∈ S.E.cs, p.Calm S.T.lits) :
  Calls Tryz.prog 70 #[.pointer (some ⟨rb, 0, none⟩)] w fun r w' => (∃ st A n c, r = .returned (.tuple #[.int .i64 st, .slice A n c, .int .i64 0]) ∧ ∃ co, Rd w' (fun g => w.heap.size ≤ g) 1 (.slice A n c) n (ints co) ∧ ∃ S', Decided a S co left k S' st ∧ SolP w' (fun g => F g ∨ w.heap.size ≤ g) sb tb eb ob pm S' ∧ (st ≠ 0 → SolP w' F sb tb eb ob pm S')) ∧ Mod F w w' := by
 obtain ⟨r0, r1, r2, r3⟩ := hrun.four
 have hln : a.asm.length = na := by have := hasm.1; simpa [ints_length] using this
 have hncap : (na : Int) ≤ (ca : Int) := by
  obtain ⟨_, A2, c2, hv2, h2, _⟩ := hasm
  injection hv2 with _ _ h3
  omega
 have hn8 := hfx.n8
 have H := hid h.restrict
 have HrbF := hid hrb
 have HRun := hid hrun
 have Hasm := hid hasm
 have Hal := hid hal
 have Hfx := hid hfx
 have HR := hid hR
 have Hcal := hid hcal
 have Hwf := hid h.trail.wf
 have Hln := hid hln
 have hTv := hR.vars
 clear h hrb hrun hasm hal hfx hR hcal hln
 go_enter Tryz.func70, Tryz.ntmps70
 go_wp2_with fail
 go_loopw [15] (fun jv W => ∃ j : Nat, j ≤ na ∧ jv = .int .i64 j ∧ Hid (∀ x ∈ a.asm.take j, x ∈ S.T.lits) ∧ Hid (Below w.heap.size w W)) (fun jv _ => na - (intOf jv).toNat)
 case atStart => exact ⟨0, Nat.zero_le _, rfl, (fun x hx => by simp at hx), Below.refl _ _⟩
 case round =>
  obtain ⟨j, jn, rfl, Hx, B1⟩ := hrel
  have H1 := hid (H.o.below B1.o)
  have HRun1 := hid (HRun.o.keep (B1.o.block rb HRun.o.lt))
  obtain ⟨r0, r1, r2, r3⟩ := HRun1.o.four
  obtain ⟨z0, z1, z2, z3, z4⟩ := H1.o.six
  rcases Nat.lt_or_ge j na with h1 | h1
  ·have hjl : j < a.asm.length := by rw [Hln.o]; exact h1
   obtain ⟨ga, oa, rfl, hga, _, e0⟩ := (Hasm.o.below B1.o).cell.2 j h1
   obtain ⟨l, hl⟩ : ∃ l, nth a.asm j = l := ⟨_, rfl⟩
   have hlm : l ∈ a.asm := by rw [← hl]; exact nth_mem hjl
   have htk : Hid (a.asm.take (j + 1) = a.asm.take j ++ [l]) := hid (by rw [take_nth hjl, hl])
   obtain ⟨l1, l2⟩ := Hal.o l hlm
   rw [hl] at e0
   have hjn : (j : Int) < (na : Int) := by omega
   have hlI : I64 l := by unfold I64; omega
   have Hlm := hid hlm
   clear hl hlm
   go_wp2_with fail
   refine (value_any H1.o.trail hlI).mono ?_
   rintro r w2 ⟨rfl, b2⟩
   have H2 := hid (H1.o.below b2)
   have HRun2 := hid (HRun1.o.keep (b2.block rb HRun1.o.lt))
   have B2 := hid (B1.o.trans (b2.mono B1.o.size))
   obtain ⟨r0, r1, r2, r3⟩ := HRun2.o.four
   obtain ⟨z0, z1, z2, z3, z4⟩ := H2.o.six
   clear b2 H1 HRun1
   rw [Tr.value_is]
   rcases valX_cases S.T.lits l with hv | hv | hv
   ·have hin : l ∈ S.T.lits := valX_pos.1 (by omega)
    rw [hv]
    clear hv
    go_wp2_with fail
    go_roundw
    case rel => exact ⟨j + 1, by omega, by go_num, hid (fun x hx => by
     rw [htk.o] at hx
     exact (List.mem_append.1 hx).elim (Hx.o x) fun e => by rw [List.mem_singleton.1 e]; exact hin), B2⟩
    case measure => simp [intOf]; omega
   ·have hfree : S.T.freeB l = true := Tr.free_iff.2 ⟨l1, by rw [hTv]; exact l2, by rw [Tr.value_is]; exact hv⟩
    have herr : err (S.T.freeB l) = 0 := by rw [hfree]; rfl
    have Hfree := hid hfree
    rw [hv]
    clear hv hfree
    go_wp2_with fail
    refine (s_decide H2.o hlI).mono ?_
    rintro r w3 ⟨rfl, h3, m3⟩
    rw [herr]
    have Hd : Hid (∀ G, Srch a.asm G S.E.cs S.T → Srch a.asm G S.E.cs (S.T.dec l) ∧ (S.T.dec l).vars = S.T.vars ∧ (S.T.dec l).L.length = S.T.L.length + 1) := hid fun G hG => hG.decide Hcal.o Hfree.o (.inl Hlm.o)
    go_wp2_with fail
    go_ret3
    refine ⟨⟨0, none, 0, 0, rfl, [], Rd.empty _ _ _, { S with T := S.T.dec l }, .on _ ⟨Hfx.o.n8, Hfx.o.sv, Hfx.o.ev, Hfx.o.most, Hfx.o.gs, Hfx.o.ls⟩ (HR.o.move (fun G hG => (Hd.o G hG).1) (Tr.dec_vars _ _)) ?_, h3.mono fun g hg => ?_, fun e => absurd rfl e⟩, (Mod.of_below B2.o).trans (m3.mono fun g _ hg => .inl hg.1)⟩
    ·obtain ⟨Ls, hs⟩ := HR.o.srch
     exact (Hd.o _ hs).2.2
    ·exact hg.elim (fun h => .inl h.1) fun h => .inr (Nat.le_trans B2.o.size h)
   ·have hneg : -l ∈ S.T.lits := (valX_neg.1 (by omega)).2
    have Hneg := hid hneg
    rw [hv]
    clear hv hneg
    go_wp2_with fail
    refine (score_any r0 r1 z1 HRun2.o.lt H2.o.blocks.2.1 H2.o.trail (Hasm.o.below B2.o) Hneg.o (fun x hx => by have := Hal.o x hx; omega) (by obtain ⟨Ls, hs⟩ := HR.o.srch; exact hs.short) hna).mono ?_
    rintro r w3 ⟨⟨A3, n3, c3, rfl, Bf, hr3, P, hcs⟩, b3⟩
    have B3 := hid (B2.o.trans (b3.mono B2.o.size))
    have H3 := hid (H2.o.below b3)
    have s2 := B2.o.size
    have Hr3 := hid hr3
    have Hrup : Hid (RupX S.E.cs ((coreOut Bf a.asm).map fun l => -l)) := hid (by obtain ⟨Ls, hs⟩ := HR.o.srch; exact hs.core Hlm.o Hneg.o hcs)
    clear b3 hr3 hcs
    go_wp2_with fail
    go_ret3
    exact ⟨⟨2, A3, n3, c3, rfl, coreOut Bf a.asm, Hr3.o.mono fun g _ hg => by omega, S, .unsat (coreOut_sub _ _) Hrup.o, H3.o.mono fun g hg => .inl hg.1, fun _ => H3.o.mono fun g hg => hg.1⟩, Mod.of_below B3.o⟩
  ·have hjn : ¬ ((j : Int) < (na : Int)) := by omega
   have Hall : Hid (∀ x ∈ a.asm, x ∈ S.T.lits) := hid fun x hx => Hx.o x (by rw [List.take_of_length_le (by rw [Hln.o]; exact h1)]; exact hx)
   clear Hx
   go_wp2_with fail
   refine wp_region_held_drew (S := fun w' => w'.cell? ⟨rb, 0, none⟩ = some (.pointer (some ⟨sb, 0, none⟩)) ∧ w'.cell? ⟨sb, 3, none⟩ = some (.pointer (some ⟨ob, 0, none⟩)) ∧ w'.cell? ⟨sb, 1, none⟩ = some (.pointer (some ⟨tb, 0, none⟩))) (by kernel_rfl) ⟨r0, z3, z1⟩ (fun hHeld => ?_)
   obtain ⟨WD, hWD⟩ : ∃ Y, wr.drew = Y := ⟨_, rfl⟩
   have bD : Below wr.heap.size wr wr.drew := Bl.drew (Below.refl _ _)
   have H := hid (H1.o.below bD)
   have HRun := hid (HRun1.o.keep (bD.block rb HRun1.o.lt))
   have M := hid (B1.o.trans (bD.mono B1.o.size))
   rw [hWD] at hHeld H HRun M ⊢
   clear hWD bD
   refine tk 0 ?_
   refine tk 1 ?_
   refine tk 2 ?_
   refine tk 3 ?_
   refine tk 4 ?_
   refine tk 5 ?_
   refine tk 6 ?_
   refine tk 7 ?_
   refine tk 8 ?_
   refine tk 9 ?_
   refine tk 10 ?_
   refine tk 11 ?_
   refine tk 12 ?_
   refine tk 13 ?_
   refine rd1 14 fun K hK => ?_
   go_simp
   refine (s_next H.o).mono ?_
   rintro r w2 ⟨⟨v, is, rfl, hnx⟩, b2⟩
   have H := hid (H.o.below b2)
   have HRun := hid (HRun.o.keep (b2.block rb HRun.o.lt))
   have M := hid (M.o.trans (b2.mono M.o.size))
   obtain ⟨r0, r1, r2, r3⟩ := HRun.o.four
   obtain ⟨z0, z1, z2, z3, z4⟩ := H.o.six
   go_simp
   refine hK.out _ _ ⟨r0, z3, z1⟩ (fun hHeld => ?_)
   clear hK K
   have Hnx := hid hnx
   clear hnx b2
   refine tk 15 ?_
   refine tk 16 ?_
   refine tk 17 ?_
   refine tk 18 ?_
   refine tk 19 ?_
   refine wpAnyH_done (by kernel_rfl) ?_ _
   rcases Hnx.o with ⟨rfl, hno⟩ | ⟨rfl, v1, v2, v0⟩
   ·have Hno : Hid (∀ y : Nat, 1 ≤ y → y ≤ a.n → S.T.value y ≠ 0) := hid fun y y1 y2 => hno y y1 (by rw [Hfx.o.sv]; exact y2)
    clear hno
    go_wp2_with fail
    go_ret3
    exact ⟨⟨1, none, 0, 0, rfl, [], Rd.empty _ _ _, S, .sat Hall.o Hno.o, H.o.mono fun g hg => .inl hg.1, fun _ => H.o.mono fun g hg => hg.1⟩, Mod.of_below M.o⟩
   ·rw [Hfx.o.sv] at v2
    have hwn : IntKind.i64.wrap (-v) = -v := iw' (by omega) (by omega)
    obtain ⟨z, hz, hz3⟩ := phase_get H.o.phase v
    have hends : ∀ (l : Int), (l = v ∨ l = -v) → Hid (S.T.freeB l = true ∧ I64 l ∧ (err (S.T.freeB l) = 0) ∧ ∀ G, Srch a.asm G S.E.cs S.T → Srch a.asm G S.E.cs (S.T.dec l) ∧ (S.T.dec l).vars = S.T.vars ∧ (S.T.dec l).L.length = S.T.L.length + 1) := fun l hl => hid (by
     have hvl : S.T.value l = 0 := by
      rcases hl with rfl | rfl
      ·exact v0
      ·rw [Tr.value_is] at v0 ⊢
       rw [valX_zero] at v0 ⊢
       rw [Int.neg_neg]
       exact ⟨v0.2, v0.1⟩
     have hf : S.T.freeB l = true := Tr.free_iff.2 ⟨by omega, by omega, hvl⟩
     exact ⟨hf, by unfold I64; omega, by rw [hf]; rfl, fun G hG => hG.decide Hcal.o hf (.inr Hall.o)⟩)
    have Hends := hid hends
    clear hends v0
    by_cases hz0 : z = 0
    ·subst hz0
     have He := Hends.o (-v) (.inr rfl)
     clear Hends hz3
     go_wp2_with fail
     refine (s_decide H.o He.o.2.1).mono ?_
     rintro r w3 ⟨rfl, h3, m3⟩
     rw [He.o.2.2.1]
     go_wp2_with fail
     go_ret3
     refine ⟨⟨0, none, 0, 0, rfl, [], Rd.empty _ _ _, { S with T := S.T.dec (-v) }, .on _ ⟨Hfx.o.n8, Hfx.o.sv, Hfx.o.ev, Hfx.o.most, Hfx.o.gs, Hfx.o.ls⟩ (HR.o.move (fun G hG => (He.o.2.2.2 G hG).1) (Tr.dec_vars _ _)) ?_, h3.mono fun g hg => ?_, fun e => absurd rfl e⟩, (Mod.of_below M.o).trans (m3.mono fun g _ hg => .inl hg.1)⟩
     ·obtain ⟨Ls, hs⟩ := HR.o.srch
      exact (He.o.2.2.2 _ hs).2.2
     ·exact hg.elim (fun h => .inl h.1) fun h => .inr (Nat.le_trans M.o.size h)
    ·have hzF : (z == 0) = false := by simpa using hz0
     have He := Hends.o z (hz3.resolve_left hz0)
     clear Hends hz3
     go_wp2_with fail
     refine (s_decide H.o He.o.2.1).mono ?_
     rintro r w3 ⟨rfl, h3, m3⟩
     rw [He.o.2.2.1]
     go_wp2_with fail
     go_ret3
     refine ⟨⟨0, none, 0, 0, rfl, [], Rd.empty _ _ _, { S with T := S.T.dec z }, .on _ ⟨Hfx.o.n8, Hfx.o.sv, Hfx.o.ev, Hfx.o.most, Hfx.o.gs, Hfx.o.ls⟩ (HR.o.move (fun G hG => (He.o.2.2.2 G hG).1) (Tr.dec_vars _ _)) ?_, h3.mono fun g hg => ?_, fun e => absurd rfl e⟩, (Mod.of_below M.o).trans (m3.mono fun g _ hg => .inl hg.1)⟩
     ·obtain ⟨Ls, hs⟩ := HR.o.srch
      exact (He.o.2.2.2 _ hs).2.2
     ·exact hg.elim (fun h => .inl h.1) fun h => .inr (Nat.le_trans M.o.size h)
end
section
open Go.RowKit
theorem eql_i8s_nil (w : World) (a : Option Addr) (n c : Nat) : (binOp .eql 33 (.slice a n c) (.slice none 0 0)).run Tryz.prog w = .ok (.bool a.isNone) w := Lib.run_eql_slice_nil w _ _ a n c 0 0 Tryz.underlying33
attribute [go_sem] eql_i8s_nil
theorem eql_nf (w : World) : (binOp .eql 53 .nilFunc .nilFunc).run Tryz.prog w = .ok (.bool true) w := by
 kernel_rfl
theorem eql_ff (w : World) (f : FuncId) (x y : Array Value) : (binOp .eql 53 (.func (.func f) x y) .nilFunc).run Tryz.prog w = .ok (.bool false) w := by
 kernel_rfl
attribute [go_sem] eql_nf eql_ff

structure Lazy where
 v : Value
 P : Nat → Prop
 I : World → Nat → Prop
 R : List Int → Option Stp → Prop
structure LazyOk (a : Ask) (z : Lazy) : Prop where
 keep : ∀ {w w' : World} {k : Nat} {G : Nat → Prop}, z.I w k → Mod G w w' → (∀ g, g < w.heap.size → z.P g → ¬ G g) → z.I w' k
 ans : ∀ {X : List Int} {s : Stp}, z.R X (some s) → (∀ k ∈ s.c.coefs, I64 k) ∧ s.c.lits.length ≤ 1000000 ∧ s.c.coefs.length ≤ 1000000 ∧ s.set.length ≤ 1000000 ∧ (fitsB a.n s.c = true → s.kind = 3 ∧ a.Lz s ∧ s.c ∈ a.Hs ∧ s.c.slackX X < 0)
 call : z.v = .nilFunc ∧ ∀ X, z.R X none
inductive Called (a : Ask) (z : Lazy) (S : Sol) (left k i : Nat) : Sol → Nat → Nat → Bool → Int → Prop
 | no (h : z.R S.T.lits none) : Called a z S left k i S left i false 0
 | many (h : left = 0) : Called a z S left k i S 0 (i + 1) false 5
 | arg (l' : Nat) (h : left = l' + 1) (s : Stp) (hs : z.R S.T.lits (some s)) (hn : fitsB a.n s.c = false) : Called a z S left k i S l' (i + 1) false 2
 | on (S' : Sol) (l' : Nat) (h : left = l' + 1) (hf : Fixed a S') (hr : Run a S'.E.cs S'.log S'.T l' (k + 1)) : Called a z S left k i S' l' (i + 1) true 0
end
end Go.Proofs.YtcjmpobccbnpkaaGreat
