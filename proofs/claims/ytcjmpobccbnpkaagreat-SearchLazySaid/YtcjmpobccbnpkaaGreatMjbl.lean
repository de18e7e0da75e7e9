/-
 Chapter 32: several texts in one (SeW SeX).
-/
import Derived.Test.YtcjmpobccbnpkaaGreatMjbj
import Derived.Test.YtcjmpobccbnpkaaGreatMjbk
import Derived.Test.YtcjmpobccbnpkaaGreatMjav
import Derived.Test.YtcjmpobccbnpkaaGreatTk
namespace Go.Proofs.YtcjmpobccbnpkaaGreat
section
open Go.RowKit

/-- What decide comes to; co: the core. -/
inductive Decided (a : Ask) (S : Sol) (co : List Int) (left k : Nat) : Sol → Int → Prop
 | on (S' : Sol) (hf : Fixed a S') (hr : Run a S'.E.cs S'.log S'.T left k) (hl : S'.T.L.length = S.T.L.length + 1) : Decided a S co left k S' 0
 | sat (ha : ∀ x ∈ a.asm, x ∈ S.T.lits) (hall : ∀ y : Nat, 1 ≤ y → y ≤ a.n → S.T.value y ≠ 0) : Decided a S co left k S 1
 | unsat (hs : List.Sublist co a.asm) (hr : RupX S.E.cs (co.map fun l => -l)) : Decided a S co left k S 2
set_option maxRecDepth 100000 in
set_option maxHeartbeats 4000000 in
theorem sdecide_any {w : World} {F Ga : Nat → Prop} {rb sb tb eb ob pm na ca left k : Nat} {Aa : Option Addr} {lz : Value} {a : Ask} {S : Sol} (h : SolP w F sb tb eb ob pm S) (hrun : RunAt w rb sb (.slice Aa na ca) lz left) (hrb : ¬ F rb)
  (hasm : Rd w Ga 1 (.slice Aa na ca) na (ints a.asm)) (hal : ∀ x ∈ a.asm, x ≠ 0 ∧ x.natAbs ≤ a.n) (hna : na ≤ 1000000) (hfx : Fixed a S) (hR : Run a S.E.cs S.log S.T left k) (hcal : ∀ p ∈ S.E.cs, p.Calm S.T.lits) :
  Calls Tryz.prog 70 #[.pointer (some ⟨rb, 0, none⟩)] w fun r w' => (∃ st A n c, r = .returned (.tuple #[.int .i64 st, .slice A n c, .int .i64 0]) ∧ ∃ co, Rd w' (fun g => w.heap.size ≤ g) 1 (.slice A n c) n (ints co) ∧ ∃ S', Decided a S co left k S' st ∧ SolP w' (fun g => F g ∨ w.heap.size ≤ g) sb tb eb ob pm S' ∧ (st ≠ 0 → SolP w' F sb tb eb ob pm S')) ∧ Mod F w w' := by
 obtain ⟨r0, r1, r2, r3⟩ := hrun.four
 have hln : a.asm.length = na := by have := hasm.1; simpa [ints_length] using this
 have hncap : (na : Int) ≤ (ca : Int) := by
  obtain ⟨_, A2, c2, hv2, h2, _⟩ := hasm
  injection hv2 with _ _ h3
  omega
 have hn8 := hfx.n8
 have H := hid h.restrict
 have HrbF := hid hrb
 have HRun := hid hrun
 have Hasm := hid hasm
 have Hal := hid hal
 have Hfx := hid hfx
 have HR := hid hR
 have Hcal := hid hcal
 have Hwf := hid h.trail.wf
 have Hln := hid hln
 have hTv := hR.vars
 clear h hrb hrun hasm hal hfx hR hcal hln
 go_enter Tryz.func70, Tryz.ntmps70
 go_wp2_with fail
 go_loopw [15] (fun jv W => ∃ j : Nat, j ≤ na ∧ jv = .int .i64 j ∧ Hid (∀ x ∈ a.asm.take j, x ∈ S.T.lits) ∧ Hid (Below w.heap.size w W)) (fun jv _ => na - (intOf jv).toNat)
 case atStart => exact ⟨0, Nat.zero_le _, rfl, (fun x hx => by simp at hx), Below.refl _ _⟩
 case round =>
  obtain ⟨j, jn, rfl, Hx, B1⟩ := hrel
  have H1 := hid (H.out.below B1.out)
  have HRun1 := hid (HRun.out.keep (B1.out.block rb HRun.out.lt))
  obtain ⟨r0, r1, r2, r3⟩ := HRun1.out.four
  obtain ⟨z0, z1, z2, z3, z4⟩ := H1.out.six
  rcases Nat.lt_or_ge j na with h1 | h1
  ·have hjl : j < a.asm.length := by rw [Hln.out]; exact h1
   obtain ⟨ga, oa, rfl, hga, _, e0⟩ := (Hasm.out.below B1.out).cell.2 j h1
   obtain ⟨l, hl⟩ : ∃ l, nth a.asm j = l := ⟨_, rfl⟩
   have hlm : l ∈ a.asm := by rw [← hl]; exact nth_mem hjl
   have htk : Hid (a.asm.take (j + 1) = a.asm.take j ++ [l]) := hid (by rw [take_nth hjl, hl])
   obtain ⟨l1, l2⟩ := Hal.out l hlm
   rw [hl] at e0
   have hjn : (j : Int) < (na : Int) := by omega
   have hlI : I64 l := by unfold I64; omega
   have Hlm := hid hlm
   clear hl hlm
   go_wp2_with fail
   refine (value_any H1.out.trail hlI).mono ?_
   rintro r w2 ⟨rfl, b2⟩
   have H2 := hid (H1.out.below b2)
   have HRun2 := hid (HRun1.out.keep (b2.block rb HRun1.out.lt))
   have B2 := hid (B1.out.trans (b2.mono B1.out.size))
   obtain ⟨r0, r1, r2, r3⟩ := HRun2.out.four
   obtain ⟨z0, z1, z2, z3, z4⟩ := H2.out.six
   clear b2 H1 HRun1
   rw [Tr.value_is]
   rcases valX_cases S.T.lits l with hv | hv | hv
   ·have hin : l ∈ S.T.lits := valX_pos.1 (by omega)
    rw [hv]
    clear hv
    go_wp2_with fail
    go_roundw
    case rel => exact ⟨j + 1, by omega, by go_num, hid (fun x hx => by
     rw [htk.out] at hx
     exact (List.mem_append.1 hx).elim (Hx.out x) fun e => by rw [List.mem_singleton.1 e]; exact hin), B2⟩
    case measure => simp [intOf]; omega
   ·have hfree : S.T.freeB l = true := Tr.free_iff.2 ⟨l1, by rw [hTv]; exact l2, by rw [Tr.value_is]; exact hv⟩
    have herr : err (S.T.freeB l) = 0 := by rw [hfree]; rfl
    have Hfree := hid hfree
    rw [hv]
    clear hv hfree
    go_wp2_with fail
    refine (s_decide H2.out hlI).mono ?_
    rintro r w3 ⟨rfl, h3, m3⟩
    rw [herr]
    have Hd : Hid (∀ G, Srch a.asm G S.E.cs S.T → Srch a.asm G S.E.cs (S.T.dec l) ∧ (S.T.dec l).vars = S.T.vars ∧ (S.T.dec l).L.length = S.T.L.length + 1) := hid fun G hG => hG.decide Hcal.out Hfree.out (.inl Hlm.out)
    go_wp2_with fail
    go_ret3
    refine ⟨⟨0, none, 0, 0, rfl, [], Rd.empty _ _ _, { S with T := S.T.dec l }, .on _ ⟨Hfx.out.n8, Hfx.out.sv, Hfx.out.ev, Hfx.out.most, Hfx.out.gs, Hfx.out.ls⟩ (HR.out.move (fun G hG => (Hd.out G hG).1) (Tr.dec_vars _ _)) ?_, h3.mono fun g hg => ?_, fun e => absurd rfl e⟩, (Mod.of_below B2.out).trans (m3.mono fun g _ hg => .inl hg.1)⟩
    ·obtain ⟨Ls, hs⟩ := HR.out.srch
     exact (Hd.out _ hs).2.2
    ·exact hg.elim (fun h => .inl h.1) fun h => .inr (Nat.le_trans B2.out.size h)
   ·have hneg : -l ∈ S.T.lits := (valX_neg.1 (by omega)).2
    have Hneg := hid hneg
    rw [hv]
    clear hv hneg
    go_wp2_with fail
    refine (score_any r0 r1 z1 HRun2.out.lt H2.out.blocks.2.1 H2.out.trail (Hasm.out.below B2.out) Hneg.out (fun x hx => by have := Hal.out x hx; omega) (by obtain ⟨Ls, hs⟩ := HR.out.srch; exact hs.short) hna).mono ?_
    rintro r w3 ⟨⟨A3, n3, c3, rfl, Bf, hr3, P, hcs⟩, b3⟩
    have B3 := hid (B2.out.trans (b3.mono B2.out.size))
    have H3 := hid (H2.out.below b3)
    have s2 := B2.out.size
    have Hr3 := hid hr3
    have Hrup : Hid (RupX S.E.cs ((coreOut Bf a.asm).map fun l => -l)) := hid (by obtain ⟨Ls, hs⟩ := HR.out.srch; exact hs.core Hlm.out Hneg.out hcs)
    clear b3 hr3 hcs
    go_wp2_with fail
    go_ret3
    exact ⟨⟨2, A3, n3, c3, rfl, coreOut Bf a.asm, Hr3.out.mono fun g _ hg => by omega, S, .unsat (coreOut_sub _ _) Hrup.out, H3.out.mono fun g hg => .inl hg.1, fun _ => H3.out.mono fun g hg => hg.1⟩, Mod.of_below B3.out⟩
  ·have hjn : ¬ ((j : Int) < (na : Int)) := by omega
   have Hall : Hid (∀ x ∈ a.asm, x ∈ S.T.lits) := hid fun x hx => Hx.out x (by rw [List.take_of_length_le (by rw [Hln.out]; exact h1)]; exact hx)
   clear Hx
   go_wp2_with fail
   refine wp_region_held_drew (S := fun w' => w'.cell? ⟨rb, 0, none⟩ = some (.pointer (some ⟨sb, 0, none⟩)) ∧ w'.cell? ⟨sb, 3, none⟩ = some (.pointer (some ⟨ob, 0, none⟩)) ∧ w'.cell? ⟨sb, 1, none⟩ = some (.pointer (some ⟨tb, 0, none⟩))) (by kernel_rfl) ⟨r0, z3, z1⟩ (fun hHeld => ?_)
   obtain ⟨WD, hWD⟩ : ∃ Y, wr.drew = Y := ⟨_, rfl⟩
   have bD : Below wr.heap.size wr wr.drew := Bl.drew (Below.refl _ _)
   have H := hid (H1.out.below bD)
   have HRun := hid (HRun1.out.keep (bD.block rb HRun1.out.lt))
   have M := hid (B1.out.trans (bD.mono B1.out.size))
   rw [hWD] at hHeld H HRun M ⊢
   clear hWD bD
   refine tk 0 ?_
   refine tk 1 ?_
   refine tk 2 ?_
   refine tk 3 ?_
   refine tk 4 ?_
   refine tk 5 ?_
   refine tk 6 ?_
   refine tk 7 ?_
   refine tk 8 ?_
   refine tk 9 ?_
   refine tk 10 ?_
   refine tk 11 ?_
   refine tk 12 ?_
   refine tk 13 ?_
   refine wpAnyH_ready (rs := [14]) (by kernel_rfl) (by simp) (AllReadyH.cons (o := ⟨_, _, _, _, _, _⟩) rfl (fun K hK => ?_) AllReadyH.nil)
   go_simp
   refine (s_next H.out).mono ?_
   rintro r w2 ⟨⟨v, is, rfl, hnx⟩, b2⟩
   have H := hid (H.out.below b2)
   have HRun := hid (HRun.out.keep (b2.block rb HRun.out.lt))
   have M := hid (M.out.trans (b2.mono M.out.size))
   obtain ⟨r0, r1, r2, r3⟩ := HRun.out.four
   obtain ⟨z0, z1, z2, z3, z4⟩ := H.out.six
   go_simp
   refine hK.out _ _ ⟨r0, z3, z1⟩ (fun hHeld => ?_)
   clear hK K
   have Hnx := hid hnx
   clear hnx b2
   try simp only [Act.put, List.setIfInBounds_toArray, List.set_cons_zero, List.set_cons_succ]
   refine tk 15 ?_
   refine tk 16 ?_
   refine tk 17 ?_
   refine tk 18 ?_
   refine tk 19 ?_
   refine wpAnyH_done (by kernel_rfl) ?_ _
   rcases Hnx.out with ⟨rfl, hno⟩ | ⟨rfl, v1, v2, v0⟩
   ·have Hno : Hid (∀ y : Nat, 1 ≤ y → y ≤ a.n → S.T.value y ≠ 0) := hid fun y y1 y2 => hno y y1 (by rw [Hfx.out.sv]; exact y2)
    clear hno
    go_wp2_with fail
    go_ret3
    exact ⟨⟨1, none, 0, 0, rfl, [], Rd.empty _ _ _, S, .sat Hall.out Hno.out, H.out.mono fun g hg => .inl hg.1, fun _ => H.out.mono fun g hg => hg.1⟩, Mod.of_below M.out⟩
   ·rw [Hfx.out.sv] at v2
    have hwn : IntKind.i64.wrap (-v) = -v := iw' (by omega) (by omega)
    obtain ⟨z, hz, hz3⟩ := phase_get H.out.phase v
    have hends : ∀ (l : Int), (l = v ∨ l = -v) → Hid (S.T.freeB l = true ∧ I64 l ∧ (err (S.T.freeB l) = 0) ∧ ∀ G, Srch a.asm G S.E.cs S.T → Srch a.asm G S.E.cs (S.T.dec l) ∧ (S.T.dec l).vars = S.T.vars ∧ (S.T.dec l).L.length = S.T.L.length + 1) := fun l hl => hid (by
     have hvl : S.T.value l = 0 := by
      rcases hl with rfl | rfl
      ·exact v0
      ·rw [Tr.value_is] at v0 ⊢
       rw [valX_zero] at v0 ⊢
       rw [Int.neg_neg]
       exact ⟨v0.2, v0.1⟩
     have hf : S.T.freeB l = true := Tr.free_iff.2 ⟨by omega, by omega, hvl⟩
     exact ⟨hf, by unfold I64; omega, by rw [hf]; rfl, fun G hG => hG.decide Hcal.out hf (.inr Hall.out)⟩)
    have Hends := hid hends
    clear hends v0
    by_cases hz0 : z = 0
    ·subst hz0
     have He := Hends.out (-v) (.inr rfl)
     clear Hends hz3
     go_wp2_with fail
     refine (s_decide H.out He.out.2.1).mono ?_
     rintro r w3 ⟨rfl, h3, m3⟩
     rw [He.out.2.2.1]
     go_wp2_with fail
     go_ret3
     refine ⟨⟨0, none, 0, 0, rfl, [], Rd.empty _ _ _, { S with T := S.T.dec (-v) }, .on _ ⟨Hfx.out.n8, Hfx.out.sv, Hfx.out.ev, Hfx.out.most, Hfx.out.gs, Hfx.out.ls⟩ (HR.out.move (fun G hG => (He.out.2.2.2 G hG).1) (Tr.dec_vars _ _)) ?_, h3.mono fun g hg => ?_, fun e => absurd rfl e⟩, (Mod.of_below M.out).trans (m3.mono fun g _ hg => .inl hg.1)⟩
     ·obtain ⟨Ls, hs⟩ := HR.out.srch
      exact (He.out.2.2.2 _ hs).2.2
     ·exact hg.elim (fun h => .inl h.1) fun h => .inr (Nat.le_trans M.out.size h)
    ·have hzF : (z == 0) = false := by simpa using hz0
     have He := Hends.out z (hz3.resolve_left hz0)
     clear Hends hz3
     go_wp2_with fail
     refine (s_decide H.out He.out.2.1).mono ?_
     rintro r w3 ⟨rfl, h3, m3⟩
     rw [He.out.2.2.1]
     go_wp2_with fail
     go_ret3
     refine ⟨⟨0, none, 0, 0, rfl, [], Rd.empty _ _ _, { S with T := S.T.dec z }, .on _ ⟨Hfx.out.n8, Hfx.out.sv, Hfx.out.ev, Hfx.out.most, Hfx.out.gs, Hfx.out.ls⟩ (HR.out.move (fun G hG => (He.out.2.2.2 G hG).1) (Tr.dec_vars _ _)) ?_, h3.mono fun g hg => ?_, fun e => absurd rfl e⟩, (Mod.of_below M.out).trans (m3.mono fun g _ hg => .inl hg.1)⟩
     ·obtain ⟨Ls, hs⟩ := HR.out.srch
      exact (He.out.2.2.2 _ hs).2.2
     ·exact hg.elim (fun h => .inl h.1) fun h => .inr (Nat.le_trans M.out.size h)
end

section
open Go.RowKit

theorem eql_i8s_nil (w : World) (a : Option Addr) (n c : Nat) : (binOp .eql 33 (.slice a n c) (.slice none 0 0)).run Tryz.prog w = .ok (.bool a.isNone) w := Lib.run_eql_slice_nil w _ _ a n c 0 0 Tryz.underlying33
attribute [go_sem] eql_i8s_nil
theorem eql_nf (w : World) : (binOp .eql 53 .nilFunc .nilFunc).run Tryz.prog w = .ok (.bool true) w := by
 kernel_rfl
theorem eql_ff (w : World) (f : FuncId) (x y : Array Value) : (binOp .eql 53 (.func (.func f) x y) .nilFunc).run Tryz.prog w = .ok (.bool false) w := by
 kernel_rfl
attribute [go_sem] eql_nf eql_ff
set_option maxHeartbeats 400000 in
theorem clone8_any {w : World} {F : Nat → Prop} {v : Value} {n : Nat} {xs : List Int} (hv : Rd w F 1 v n (i8s xs)) (hn : n ≤ 17592186044416) :
  Calls Tryz.prog 40 #[v] w fun r w' => (∃ A c, r = .returned (.slice A n c) ∧ Own w' (fun b => w.heap.size ≤ b) 70 1 (.slice A n c) n (i8s xs)) ∧ Below w.heap.size w w' := by
 have hv0 := hv
 obtain ⟨hl, A, c, rfl, hc, hm, hA⟩ := hv
 cases A with
 | none =>
  have hn0 : n = 0 := by
   rcases Nat.eq_zero_or_pos n with h | h
   ·exact h
   ·obtain ⟨_, _, h, _⟩ := hA h; cases h
  subst hn0
  have hx : i8s xs = [] := List.eq_nil_of_length_eq_zero (by simpa using hl)
  rw [hx]
  clear hA hl hx hv0
  go_enter Tryz.func40, Tryz.ntmps40
  go_wp2
  go_ret
  exact ⟨⟨_, _, rfl, Own.nil _ _ _ _⟩, Below.refl _ _⟩
 | some a =>
  clear hA
  have Hv := hid hv0
  have Hl := hid hl
  clear hv0 hl
  go_enter Tryz.func40, Tryz.ntmps40
  go_wp2_with (at_builtin; refine wpList_append_i8s rfl _ _ rfl (Own.none_ _ (fun _ => False) _ _ _) (Hv.out.below ((Below.refl _ _).alloc (Nat.le_refl _) _)) rfl rfl (i8s_one xs) (by omega) ?_; intro A1 c1 w1 ho1 hm1 hr1)
  go_ret
  rw [row_none] at hm1
  simp only [Nat.zero_add, List.nil_append] at ho1 ⊢
  exact ⟨⟨_, _, rfl, ho1.mono fun g _ _ h => by
   rcases h with h | h
   ·exact h.elim
   ·simp at h; omega⟩, ((Below.refl _ _).alloc (Nat.le_refl _) _).trans (hm1.below.mono (by simp))⟩
/-- A lazy function: its value, the blocks that it uses, its state (how often it answered), what it answers. -/
structure Lazy where
 v : Value
 P : Nat → Prop
 I : World → Nat → Prop
 R : List Int → Option Stp → Prop
/-- What is asked of a lazy function. -/
structure LazyOk (a : Ask) (z : Lazy) : Prop where
 keep : ∀ {w w' : World} {k : Nat} {G : Nat → Prop}, z.I w k → Mod G w w' → (∀ g, g < w.heap.size → z.P g → ¬ G g) → z.I w' k
 ans : ∀ {X : List Int} {s : Stp}, z.R X (some s) → (∀ k ∈ s.c.coefs, I64 k) ∧ s.c.lits.length ≤ 1000000 ∧ s.c.coefs.length ≤ 1000000 ∧ s.set.length ≤ 1000000 ∧ (fitsB a.n s.c = true → s.kind = 3 ∧ a.Lz s ∧ s.c ∈ a.Hs ∧ s.c.slackX X < 0)
 call : (z.v = .nilFunc ∧ ∀ X, z.R X none) ∨ ∃ f first captured, z.v = .func (.func f) first captured ∧ (∀ args W, (callFunc f args).run Tryz.prog W = .ok (.enter f args) W) ∧
  ∀ (w : World) (k : Nat) (X : List Int) (A : Option Addr) (n c : Nat), z.I w k → okX X → (∀ l ∈ X, l.natAbs ≤ a.n) → Own w (fun g => ¬ z.P g) 70 1 (.slice A n c) n (i8s (asgX a.n X)) →
   Calls Tryz.prog f (first ++ #[.slice A n c] ++ captured) w fun r w' => (∃ B m e, r = .returned (.slice B m e) ∧ ((m = 0 ∧ z.R X none ∧ z.I w' k) ∨ (m = 1 ∧ ∃ s, StsRd w' (fun g => w.heap.size ≤ g) (fun g => z.P g ∨ w.heap.size ≤ g) B 1 e [s] ∧ z.R X (some s) ∧ z.I w' (k + 1)))) ∧ Mod z.P w w'
/-- What call comes to. -/
inductive Called (a : Ask) (z : Lazy) (S : Sol) (left k i : Nat) : Sol → Nat → Nat → Bool → Int → Prop
 | no (h : z.R S.T.lits none) : Called a z S left k i S left i false 0
 | many (h : left = 0) : Called a z S left k i S 0 (i + 1) false 5
 | arg (l' : Nat) (h : left = l' + 1) (s : Stp) (hs : z.R S.T.lits (some s)) (hn : fitsB a.n s.c = false) : Called a z S left k i S l' (i + 1) false 2
 | on (S' : Sol) (l' : Nat) (h : left = l' + 1) (hf : Fixed a S') (hr : Run a S'.E.cs S'.log S'.T l' (k + 1)) : Called a z S left k i S' l' (i + 1) true 0
end
end Go.Proofs.YtcjmpobccbnpkaaGreat
