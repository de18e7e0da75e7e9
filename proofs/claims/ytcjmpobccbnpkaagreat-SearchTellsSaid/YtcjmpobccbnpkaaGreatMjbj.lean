/-
 Chapter 32: several texts in one (SeS SeU).
-/
import Derived.Test.YtcjmpobccbnpkaaGreatMjbi
import Derived.Test.YtcjmpobccbnpkaaGreatMjat
import Derived.Test.YtcjmpobccbnpkaaGreatMjbf
import Derived.ArgAppend
import Derived.Test.YtcjmpobccbnpkaaGreatTk
import Derived.Test.YtcjmpobccbnpkaaGreatTkU
namespace Go.Proofs.YtcjmpobccbnpkaaGreat
section
open Go.RowKit
theorem fits_of {E : Eng} {c : Pb} (hc : c.Ok) (hl : ∀ l ∈ c.lits, l.natAbs ≤ E.vars) : E.fits c = true := by
 unfold Eng.fits
 rw [(Pb.ok_iff c).2 hc, Bool.true_and, List.all_eq_true]
 exact fun l h => decide_eq_true (hl l h)
theorem reasons_short {T : Tr} (h : ∀ e ∈ T.L, e.reason.length ≤ 9) (v : Int) : (T.reasonOf v).length ≤ 9 := by
 unfold Tr.reasonOf
 split
 ·rename_i e he
  obtain ⟨i, _, h2⟩ := Option.bind_eq_some_iff.1 he
  exact h e (List.mem_of_getElem? h2)
 ·exact Nat.zero_le _
structure Fixed (a : Ask) (S : Sol) : Prop where
 n8 : a.n ≤ 8
 sv : S.vars = a.n
 ev : S.E.vars = a.n
 most : a.most ≤ 65536
 gs : a.G.length ≤ 400000
 ls : a.log.length ≤ 400000
inductive Resolved (a : Ask) (S S' : Sol) (left k : Nat) (l' : Nat) : Int → Int → Prop
 | many (h : left = 0) (hl : l' = 0) (hS : S' = S) : Resolved a S S' left k l' 0 5
 | none (h : left = l' + 1) (hS : S' = S) (hr : RupX S.E.cs []) : Resolved a S S' left k l' 2 0
 | on (h : left = l' + 1) (hf : Fixed a S') (hr : Run a S'.E.cs S'.log S'.T l' k) : Resolved a S S' left k l' 0 0
set_option maxRecDepth 100000 in
set_option maxHeartbeats 4000000 in
theorem sresolve_any {w : World} {F G : Nat → Prop} {rb sb tb eb ob pm n cA left k : Nat} {A : Option Addr} {va lz : Value} {a : Ask} {S : Sol} {cf : List Int} (h : SolP w F sb tb eb ob pm S) (hrun : RunAt w rb sb va lz left) (hrb : ¬ F rb)
  (hcf : Rd w G 1 (.slice A n cA) n (ints cf)) (hG : ∀ g, G g → ¬ F g ∧ g ≠ rb) (hfx : Fixed a S) (hR : Run a S.E.cs S.log S.T left k) (hu : UPc S.E.cs cf) (hc : ∀ x ∈ cf, -x ∈ S.T.lits) (hn : n ≤ 1000) :
  Calls Tryz.prog 68 #[.pointer (some ⟨rb, 0, none⟩), .slice A n cA] w fun r w' => (∃ st e, r = .returned (.tuple #[.int .i64 st, .int .i64 e]) ∧ ∃ S' l', Resolved a S S' left k l' st e ∧ SolP w' (fun g => (F g ∨ w.heap.size ≤ g)) sb tb eb ob pm S' ∧ RunAt w' rb sb va lz l') ∧ Mod (fun g => F g ∨ g = rb) w w' := by
 obtain ⟨r0, r1, r2, r3⟩ := hrun.four
 obtain ⟨hl1, hl2, hl3⟩ := hR.sizes
 have hmost := hfx.most
 have H := hid h.restrict
 have HrbF := hid hrb
 have HRun := hid hrun
 have Hcf := hid hcf
 have HG := hid hG
 have Hfx := hid hfx
 have HR := hid hR
 have Hu := hid hu
 have Hc := hid hc
 have hcfl : Hid (∀ x ∈ cf, -65536 ≤ x ∧ x ≤ 65536) := hid fun x hx => by
  have := lits_small h.trail.wf (hc x hx)
  omega
 have Hwf := hid h.trail.wf
 clear h hrb hrun hcf hG hfx hR hu hc
 cases left with
 | zero =>
  go_enter Tryz.func68, Tryz.ntmps68
  go_wp2_with fail
  refine (scount_no HRun.o).mono ?_
  rintro r w1 ⟨rfl, rfl⟩
  go_wp2_with fail
  go_ret2
  exact ⟨⟨0, 5, rfl, S, 0, .many rfl rfl rfl, H.o.mono fun g hg => .inl hg.1, HRun.o⟩, Mod.refl _ _⟩
 | succ left =>
  go_enter Tryz.func68, Tryz.ntmps68
  go_wp2_with fail
  refine (scount_yes HRun.o (by omega)).mono ?_
  rintro r w1 ⟨rfl, h1, m1⟩
  have H := hid (H.o.mod m1 fun g _ hg e => HrbF.o (e ▸ hg.1))
  have Hcf := hid (Hcf.o.mod m1 fun g _ hg e => (HG.o g hg).2 e)
  have HRun := hid h1
  have M1 := hid (m1.mono (G := fun g => F g ∨ g = rb) fun g _ hg => .inr hg)
  obtain ⟨r0, r1, r2, r3⟩ := h1.four
  clear h1 m1
  go_wp2_with fail
  refine (slevel_any H.o.six.2.1 H.o.blocks.2.1 H.o.trail Hcf.o hcfl.o).mono ?_
  rintro r w2 ⟨rfl, b2⟩
  have H := hid (H.o.below b2)
  have Hcf := hid (Hcf.o.below b2)
  have HRun := hid (HRun.o.keep (b2.block rb HRun.o.lt))
  have M2 := hid (M1.o.trans (Mod.of_below b2))
  obtain ⟨r0, r1, r2, r3⟩ := HRun.o.four
  clear b2 M1
  by_cases ht : topLv S.T cf = 0
  ·rw [ht]
   have Hn : Hid (RupX S.E.cs []) := hid (by obtain ⟨Ls, hs⟩ := HR.o.srch; exact hs.none Hu.o Hc.o ht)
   clear ht
   go_wp2_with fail
   go_ret2
   exact ⟨⟨2, 0, rfl, S, left, .none rfl rfl Hn.o, H.o.mono fun g hg => .inl hg.1, HRun.o⟩, M2.o⟩
  ·have hok : Hid (okFor (S.T.back (topLv S.T cf).toNat) cf = true) := hid (by obtain ⟨Ls, hs⟩ := HR.o.srch; exact hs.okF Hc.o ht)
   have hts : topLv S.T cf ≤ 65536 := by have h1 := topLv_le Hwf.o Hc.o; have h2 := Hwf.o.len'; have h3 := Hwf.o.len; have h4 := Hwf.o.vars; omega
   have htn := topLv_nonneg S.T cf
   obtain ⟨tp, htp⟩ : ∃ tp, topLv S.T cf = tp := ⟨_, rfl⟩
   rw [htp] at ht hok hts htn ⊢
   have hlvl : lvl tp = tp.toNat := by unfold lvl; rw [if_neg (by omega)]
   have htF : (tp == 0) = false := by simpa using ht
   clear htp
   go_wp2_with fail
   refine (sundo_any H.o tp).mono ?_
   rintro r w3 ⟨⟨v3, rfl⟩, h3, m3⟩
   rw [hlvl] at h3
   obtain ⟨T1, hT1⟩ : ∃ T1, S.T.back tp.toNat = T1 := ⟨_, rfl⟩
   rw [hT1] at h3 hok
   have HR := hid (show Run a S.E.cs S.log T1 (left + 1) k from hT1 ▸ HR.o.move (fun G hG => hG.back _) (Tr.back_vars _ _))
   have hcfT : Hid (∀ x ∈ cf, I64 x) := hid fun x hx => by have := hcfl.o x hx; unfold I64; omega
   clear hT1 hlvl
   obtain ⟨F3, h3, hF3⟩ := h3.pack
   have s2 := M2.o.size
   have HF3 := hid (show ∀ g, F3 g → g < w3.heap.size ∧ (F g ∨ w.heap.size ≤ g) from fun g hg => ⟨(hF3 g hg).1, (hF3 g hg).2.elim (fun h => .inl h.1) fun h => .inr (by omega)⟩)
   have HrbF3 : Hid (¬ F3 rb) := hid fun e => by
    have := HRun.o.lt
    rcases (hF3 rb e).2 with h | h
    ·exact HrbF.o h.1
    ·omega
   have Hcf := hid (Hcf.o.mod m3 fun g _ hg e => (HG.o g hg).1 e.1)
   have HRun := hid (HRun.o.keep (m3.block rb HRun.o.lt fun e => HrbF.o e.1))
   have M3 := hid (M2.o.trans (m3.mono (G := fun g => (F g ∨ g = rb) ∨ w.heap.size ≤ g) fun g _ hg => .inl (.inl hg.1)))
   have H := hid h3
   obtain ⟨r0, r1, r2, r3⟩ := HRun.o.four
   obtain ⟨z0, z1, z2, z3, z4⟩ := h3.six
   clear h3 hF3 m3 M2
   go_wp2_with fail
   have Hsh : Hid (∀ v, (T1.reasonOf v).length ≤ 9) := hid (by obtain ⟨Ls, hs⟩ := HR.o.srch; exact reasons_short hs.short)
   have Hlv : Hid (∃ c0 rest Ls Zs new, RunTo a Ls Zs new S.E.cs S.log T1 (left + 1) k ∧ Learnt a.asm (a.G ++ Ls) S.E.cs T1 cf c0 rest) := hid (by
    obtain ⟨Ls, Zs, new, hr⟩ := HR.o
    obtain ⟨c0, rest, hl⟩ := hr.srch.learn Hu.o hok.o
    exact ⟨c0, rest, Ls, Zs, new, hr, hl⟩)
   obtain ⟨c0, rest, Ls, Zs, new, hrt, hl⟩ := Hlv.o
   have hvars : T1.vars ≤ 8 := by rw [hrt.vars]; exact Hfx.o.n8
   refine (learn_any H.o.trail Hcf.o hcfT.o hn (Nat.le_trans hvars (by omega)) fun m _ => Nat.le_trans (Hsh.o _) (by omega)).mono ?_
   rintro r w4 ⟨⟨R4, c4, rfl, hr4⟩, b4⟩
   have e1 : T1.ans cf = T1.learnt cf := by unfold Tr.ans; rw [if_pos hok.o]
   have e2 : T1.ansLv cf = topLv T1 rest := by unfold Tr.ansLv; rw [if_pos hok.o, hl.form]; rfl
   have e3 : lerr (okFor T1 cf) = 0 := by rw [hok.o]; rfl
   rw [e1] at hr4 ⊢
   rw [e2, e3]
   have HRT := hid (hrt.learn hl)
   have Hl := hid hl
   obtain ⟨L, hL⟩ : ∃ L, T1.learnt cf = L := ⟨_, rfl⟩
   have hkl : L.length ≤ 8 := by rw [← hL]; exact hl.len
   have hLl : Hid (∀ x ∈ L, x ≠ 0 ∧ x.natAbs ≤ a.n) := hid fun x hx => by
    have h1 := hl.lits x (by rw [hL]; exact hx)
    have h2 := litB_iff.1 h1.1
    rw [hrt.vars] at h1
    exact ⟨by omega, h1.2.2.2⟩
   have hform : L = c0 :: rest := by rw [← hL]; exact hl.form
   have hcan := hl.can
   rw [hL] at hr4 ⊢
   obtain ⟨kk, hkk⟩ : ∃ kk, L.length = kk := ⟨_, rfl⟩
   rw [hkk] at hr4 hkl ⊢
   have hkk0 : 0 < kk := by rw [← hkk, hform]; simp
   obtain ⟨lv, hlv⟩ : ∃ lv, topLv T1 rest = lv := ⟨_, rfl⟩
   have hlv0 := topLv_nonneg T1 rest
   have HRT : Hid (RunTo a (Ls ++ [(clauseB L).1]) Zs (new ++ [⟨1, (clauseB L).1, []⟩]) (S.E.cs ++ [(clauseB L).1]) (S.log ++ [⟨1, (clauseB L).1, []⟩]) ((T1.back lv.toNat).imp c0 L) left k) := hid (by
    have := HRT.o
    unfold newPb nextT at this
    rw [hL, hlv] at this
    exact this)
   rw [hlv] at hlv0 hcan ⊢
   have Hcan := hid hcan
   have Hform := hid hform
   have HL := hid hL
   have Hkk := hid hkk
   have H := hid (H.o.below b4)
   have HRun := hid (HRun.o.keep (b4.block rb HRun.o.lt))
   have M4 := hid (M3.o.trans (Mod.of_below b4))
   have s4 := b4.size
   have Hr4 := hid (hr4.mono (G := fun g => w3.heap.size ≤ g ∧ g < w4.heap.size) fun g hg hx => ⟨hx, hg⟩)
   have hncap : (kk : Int) ≤ (c4 : Int) := by
    obtain ⟨_, A2, c2, hv2, h2, _⟩ := hr4
    injection hv2 with _ _ h3
    omega
   have hlv8 : lv ≤ 65536 := by
    have := Hl.o.form
    rw [← hlv]
    have h1 : topLv T1 rest ≤ T1.starts.length := topLv_le (c := rest) H.o.trail.wf fun x hx => (Hl.o.lits x (by rw [this]; exact List.mem_cons_of_mem _ hx)).2.1
    have h2 := H.o.trail.wf.len'
    have h3 := H.o.trail.wf.len
    have h4 : T1.L.length ≤ T1.vars := h3
    have h5 : T1.starts.length ≤ T1.L.length := h2
    omega
   obtain ⟨r0, r1, r2, r3⟩ := HRun.o.four
   clear hr4 b4 hl hrt e1 e2 e3 hL hkk hform hcan hok M3 Hsh z0 z1 z2 z3 z4 Hlv Hl hlv
   go_wp2_with fail
   go_loopw [52] (fun jv W => ∃ j : Nat, j ≤ kk ∧ jv = .int .i64 j ∧ Hid (SolP W F3 sb tb eb ob pm { S with T := T1 }) ∧ Hid (Mod F3 w4 W)) (fun jv _ => kk - (intOf jv).toNat)
   case atStart => exact ⟨0, Nat.zero_le _, rfl, H, Mod.refl _ _⟩
   case round =>
    obtain ⟨j, jn, rfl, S1, N1⟩ := hrel
    obtain ⟨z0, z1, z2, z3, z4⟩ := S1.o.six
    obtain ⟨r0, r1, r2, r3⟩ := (HRun.o.keep (N1.o.block rb HRun.o.lt fun e => HrbF3.o e)).four
    rcases Nat.lt_or_ge j kk with h1 | h1
    ·have hjl : j < L.length := by have := Hkk.o; omega
     obtain ⟨g, o, rfl, hg, _, e0⟩ := (Hr4.o.mod N1.o fun g _ hg hf => by have := (HF3.o g hf).1; omega).cell.2 j (by omega)
     obtain ⟨l, hl⟩ : ∃ l, nth L j = l := ⟨_, rfl⟩
     obtain ⟨b1, b2⟩ := hLl.o l (by rw [← hl]; exact nth_mem hjl)
     have hn8 := Hfx.o.n8
     rw [hl] at e0
     have hmx := max_abs (show -65536 ≤ l ∧ l ≤ 65536 by omega)
     have hwn : IntKind.i64.wrap (-l) = -l := iw' (by omega) (by omega)
     have hjn : (j : Int) < (kk : Int) := by omega
     have hbu := s_bump S1.o (v := l.natAbs) (by omega) (by rw [Hfx.o.sv]; exact b2)
     clear hl
     have Hbu := hid hbu
     clear hbu b1 b2
     go_wp2_with fail
     refine Hbu.o.mono ?_
     rintro r w5 ⟨⟨u5, rfl⟩, h5, m5⟩
     have N5 : Hid (Mod F3 w4 w5) := N1.o.trans (m5.mono fun g _ hg => .inl hg)
     have h5 := hid h5
     clear m5
     go_wp2_with fail
     go_roundw
     case rel => exact ⟨j + 1, by omega, by go_num, h5, N5⟩
     case measure => simp [intOf]; omega
    ·have hjn : ¬ ((j : Int) < (kk : Int)) := by omega
     go_wp2_with fail
     refine (s_decay S1.o).mono ?_
     rintro r w7 ⟨⟨u7, rfl⟩, h7, m7⟩
     have N7 : Hid (Mod F3 w4 w7) := N1.o.trans (m7.mono fun g _ hg => .inl hg)
     have s7 := N7.o.size
     have Hr7 := hid (Hr4.o.mod N7.o fun g _ hg hf => by have := (HF3.o g hf).1; omega)
     have HRun := hid (HRun.o.keep (N7.o.block rb HRun.o.lt fun e => HrbF3.o e))
     have hrb7 : Hid (rb < w7.heap.size) := hid HRun.o.lt
     have M7 := hid (M4.o.trans (N7.o.mono (G := fun g => (F g ∨ g = rb) ∨ w.heap.size ≤ g) fun g _ hg => (HF3.o g hg).2.elim (fun h => .inl (.inl h)) .inr))
     have H7 := hid h7
     obtain ⟨r0, r1, r2, r3⟩ := HRun.o.four
     clear h7 m7 N1 N7 H S1 M4 z0 z1 z2 z3 z4
     go_wp2_with fail
     have hB : ∀ l ∈ L, litB l = true := fun l hl => litB_iff.2 (by have := hLl.o l hl; have := Hfx.o.n8; omega)
     have hok : (clauseB L).1.Ok := clause_ok hB (by have := Hkk.o; omega)
     have hRl : ∀ l ∈ (clauseB L).1.lits, l.natAbs ≤ a.n := fun l hl => by
      obtain ⟨x, hx, e⟩ := newPb_lits l hl
      rw [← e]
      exact (hLl.o x hx).2
     have hR8 := hok.fewn hRl
     have hn8 := Hfx.o.n8
     have hRc : (clauseB L).1.coefs.length = (clauseB L).1.lits.length := hok.len.symm
     refine (srup_any H7.o Hr7.o (fun x hx => by have := hLl.o x hx; unfold I64; omega) (by omega) ⟨by omega, by omega⟩ (by show S.log.length ≤ 900000; have := Hfx.o.ls; omega)).mono ?_
     rintro r w8 ⟨pv, F9, rfl, hpv, h8, hF9, m8⟩
     obtain ⟨R, hRR⟩ : ∃ R, clauseB L = R := ⟨_, rfl⟩
     rw [hRR] at hpv h8 hok hRl HRT
     obtain ⟨⟨A1, n1, c1, A2, n2, c2, rfl, q1, q2⟩, hb1⟩ := hpv
     have s8 := m8.size
     have HRok := hid hok
     have HRfit : Hid (S.E.fits R.1 = true) := hid (fits_of hok (by rw [Hfx.o.ev]; exact hRl))
     have HRun := hid (HRun.o.keep (m8.block rb HRun.o.lt fun e => HrbF3.o e))
     have hs0 := M7.o.size
     have HF9 := hid (show ∀ g, F9 g → g < w8.heap.size ∧ (F g ∨ w.heap.size ≤ g) ∧ (w3.heap.size ≤ g → w7.heap.size ≤ g) from fun g hg => ⟨(hF9 g hg).1, (hF9 g hg).2.elim (fun h => (HF3.o g h).2) fun h => .inr (by omega), fun h3 => (hF9 g hg).2.elim (fun h => by have := (HF3.o g h).1; omega) id⟩)
     have HrbF9 : Hid (¬ F9 rb) := hid fun e => by
      have := HRun.o.lt
      rcases (hF9 rb e).2 with h | h
      ·exact HrbF3.o h
      ·have := hrb7.o; omega
     have M8 := hid (M7.o.trans (m8.mono (G := fun g => (F g ∨ g = rb) ∨ w.heap.size ≤ g) fun g _ hg => (HF3.o g hg).2.elim (fun h => .inl (.inl h)) .inr))
     have Hr8 := hid (Hr7.o.mod m8 fun g _ hg hf => by have := (HF3.o g hf).1; omega)
     obtain ⟨Z, hZ⟩ : ∃ Z, w8.heap.size = Z := ⟨_, rfl⟩
     obtain ⟨X, hX, bX, kX, sX⟩ := alloc_step w8 (.cells #[.slice A1 n1 c1, .slice A2 n2 c2, .int .i64 R.1.bound] 41)
     have HX := hid hX
     have HPB := hid (show PbRd X (fun g => w7.heap.size ≤ g ∧ ¬ F9 g) (.agg #[.slice A1 n1 c1, .slice A2 n2 c2, .int .i64 R.1.bound]) R.1 from ⟨⟨A1, n1, c1, A2, n2, c2, rfl, q1.below bX, q2.below bX⟩, hb1⟩)
     have H10 := hid (h8.below bX)
     have HRun := hid (HRun.o.keep (bX.block rb HRun.o.lt))
     have M10 := hid (M8.o.trans (Mod.of_below bX))
     have Hr10 := hid (Hr8.o.below bX)
     rw [hZ] at kX sX
     have KX := hid kX
     obtain ⟨t0, t1, t2⟩ := box3 kX
     obtain ⟨r0, r1, r2, r3⟩ := HRun.o.four
     obtain ⟨z0, z1, z2, z3, z4⟩ := H10.o.six
     have HZ := hid hZ
     rw [← hX] at t0 t1 t2
     clear hX bX kX q1 q2 h8 hF9 m8 hok M7 Hr7 M8 Hr8 H7
     go_wp2_with fail
     try rw [HZ.o]
     rw [HX.o] at t0 t1 t2 ⊢
     refine wp_region_held_drew (S := fun w' => w'.cell? ⟨rb, 0, none⟩ = some (.pointer (some ⟨sb, 0, none⟩)) ∧ w'.cell? ⟨sb, 2, none⟩ = some (.pointer (some ⟨eb, 0, none⟩)) ∧ w'.cell? ⟨Z, 0, none⟩ = some (.slice A1 n1 c1) ∧ w'.cell? ⟨Z, 1, none⟩ = some (.slice A2 n2 c2) ∧ w'.cell? ⟨Z, 2, none⟩ = some (.int .i64 R.1.bound)) (by kernel_rfl) ⟨r0, z2, t0, t1, t2⟩ (fun hHeld => ?_)
     obtain ⟨WD, hWD⟩ : ∃ Y, X.drew = Y := ⟨_, rfl⟩
     have bD : Below X.heap.size X X.drew := Bl.drew (Below.refl _ _)
     have H10 := hid (H10.o.below bD)
     have HRun := hid (HRun.o.keep (bD.block rb HRun.o.lt))
     have M10 := hid (M10.o.trans (Mod.of_below bD))
     have Hr10 := hid (Hr10.o.below bD)
     have HPB := hid (HPB.o.below bD)
     have sD := bD.size
     have KX := hid (keep_blk KX.o bD)
     rw [hWD] at hHeld H10 HRun M10 Hr10 HPB sD KX ⊢
     clear hWD bD
     refine tk 0 ?_
     refine tk 1 ?_
     refine tk 2 ?_
     refine tk 3 ?_
     refine tk 4 ?_
     refine tk 5 ?_
     refine tk 6 ?_
     refine tk 7 ?_
     refine rd1 8 fun K hK => ?_
     go_simp
     refine (s_add (G := fun g => w7.heap.size ≤ g ∧ ¬ F9 g) (c := R.1) H10.o HPB.o HRok.o.i64 (fun g hg hf => hg.2 hf) (by have := Hfx.o.gs; show S.E.cs.length ≤ 500000; omega)).mono ?_
     rintro r w11 ⟨rfl, h11, m11⟩
     rw [if_pos HRfit.o] at h11 ⊢
     have HRun := hid (HRun.o.keep (m11.block rb HRun.o.lt fun e => HrbF9.o e))
     obtain ⟨r0, r1, r2, r3⟩ := HRun.o.four
     obtain ⟨z0, z1, z2, z3, z4⟩ := h11.six
     have KX := hid ((m11.block Z (lt_of_block KX.o) fun e => by have := (HF9.o Z e).1; have := HZ.o; omega).trans KX.o)
     obtain ⟨t0, t1, t2⟩ := box3 KX.o
     go_simp
     refine hK.out _ _ ⟨r0, z2, t0, t1, t2⟩ (fun hHeld => ?_)
     clear hK K
     have H11 := hid h11
     have HM11 := hid m11
     clear h11 m11
     refine tk 9 ?_
     refine wpAnyH_done (by kernel_rfl) ?_ _
     obtain ⟨F11, h11, hF11⟩ := H11.o.pack
     have s11 := HM11.o.size
     have M11 := hid (M10.o.trans (HM11.o.mono (G := fun g => (F g ∨ g = rb) ∨ w.heap.size ≤ g) fun g _ hg => (HF9.o g hg).2.1.elim (fun h => .inl (.inl h)) .inr))
     have Hr11 := hid (Hr10.o.mod HM11.o fun g _ hg hf => by have := (HF9.o g hf).2.2; omega)
     have HF11 := hid (show ∀ g, F11 g → g < w11.heap.size ∧ (F g ∨ w.heap.size ≤ g) ∧ (w3.heap.size ≤ g → w7.heap.size ≤ g) from fun g hg => ⟨(hF11 g hg).1, (hF11 g hg).2.elim (fun h => (HF9.o g h).2.1) fun h => .inr (by omega), fun h3 => (hF11 g hg).2.elim (fun h => (HF9.o g h).2.2 h3) fun h => by omega⟩)
     have HrbF11 : Hid (¬ F11 rb) := hid fun e => by
      have := hrb7.o
      rcases (hF11 rb e).2 with h | h
      ·exact HrbF9.o h
      ·omega
     have H11 := hid h11
     clear h11 hF11 HM11 M10 Hr10 H10 HPB
     go_wp2_with fail
     refine (sundo_any H11.o lv).mono ?_
     rintro r w12 ⟨⟨v12, rfl⟩, h12, m12⟩
     have hlvl : lvl lv = lv.toNat := by unfold lvl; rw [if_neg (by omega)]
     rw [hlvl] at h12
     obtain ⟨F12, h12, hF12⟩ := h12.pack
     have s12 := m12.size
     have M12 := hid (M11.o.trans (m12.mono (G := fun g => (F g ∨ g = rb) ∨ w.heap.size ≤ g) fun g _ hg => (HF11.o g hg).2.1.elim (fun h => .inl (.inl h)) .inr))
     have Hr12 := hid (Hr11.o.mod m12 fun g _ hg hf => by have := (HF11.o g hf).2.2; omega)
     have HRun := hid (HRun.o.keep (m12.block rb HRun.o.lt fun e => HrbF11.o e))
     have HF12 := hid (show ∀ g, F12 g → g < w12.heap.size ∧ (F g ∨ w.heap.size ≤ g) from fun g hg => ⟨(hF12 g hg).1, (hF12 g hg).2.elim (fun h => (HF11.o g h).2.1) fun h => .inr (by omega)⟩)
     have HrbF12 : Hid (¬ F12 rb) := hid fun e => by
      have := hrb7.o
      rcases (hF12 rb e).2 with h | h
      ·exact HrbF11.o h
      ·omega
     have H12 := hid h12
     obtain ⟨r0, r1, r2, r3⟩ := HRun.o.four
     obtain ⟨z0, z1, z2, z3, z4⟩ := h12.six
     obtain ⟨g0, o0, rfl, hg0, _, e0⟩ := Hr12.o.cell.2 0 (by omega)
     have hn0 : nth L 0 = c0 := by rw [Hform.o]; rfl
     rw [hn0] at e0
     have hk0 : ((kk : Int) = 0) = False := by simp; omega
     have hk1 : (0 : Int) < (kk : Int) := by omega
     have hcI : I64 c0 := by have := hLl.o c0 (by rw [Hform.o]; exact List.mem_cons_self ..); have := Hfx.o.n8; unfold I64; omega
     have hcan : (T1.back lv.toNat).can c0 L = true := by rw [Hform.o]; exact Hcan.o
     have HcI := hid hcI
     have Hcan := hid hcan
     have hnL : Hid (∀ g, w3.heap.size ≤ g ∧ g < w4.heap.size → ¬ F12 g) := hid fun g hg hf => (hF12 g hf).2.elim (fun h => by have := (HF11.o g h).2.2; omega) fun h => by omega
     have hn0 := hid hn0
     clear h12 hF12 m12 M11 Hr11 H11 hlvl hcI hcan
     go_wp2_with fail
     refine wp_region_held_drew (S := fun w' => w'.cell? ⟨rb, 0, none⟩ = some (.pointer (some ⟨sb, 0, none⟩)) ∧ w'.cell? ⟨sb, 1, none⟩ = some (.pointer (some ⟨tb, 0, none⟩)) ∧ w'.cell? ⟨g0, o0, none⟩ = some (.int .i64 c0)) (by kernel_rfl) ⟨r0, z1, e0⟩ (fun hHeld => ?_)
     obtain ⟨WE, hWD⟩ : ∃ Y, w12.drew = Y := ⟨_, rfl⟩
     have bD : Below w12.heap.size w12 w12.drew := Bl.drew (Below.refl _ _)
     have H12 := hid (H12.o.below bD)
     have HRun := hid (HRun.o.keep (bD.block rb HRun.o.lt))
     have M12 := hid (M12.o.trans (Mod.of_below bD))
     have Hr12 := hid (Hr12.o.below bD)
     have sE := bD.size
     rw [hWD] at hHeld H12 HRun M12 Hr12 sE ⊢
     clear hWD bD
     refine tk 0 ?_
     refine tk 1 ?_
     refine tk 2 ?_
     refine tk 3 ?_
     refine tk 4 ?_
     refine tk 5 ?_
     refine tk 6 ?_
     refine tk 7 ?_
     refine tk 8 ?_
     refine tk 9 ?_
     refine tk 10 ?_
     refine rd1 11 fun K hK => ?_
     go_simp
     refine (s_imply H12.o HcI.o Hr12.o (by omega) (fun x hx => by have := hLl.o x hx; have := Hfx.o.n8; unfold I64; omega)).mono ?_
     rintro r w13 ⟨rfl, h13, m13⟩
     have hca : err ((T1.back lv.toNat).can c0 L) = 0 := by rw [Hcan.o]; rfl
     rw [hca]
     have HRun := hid (HRun.o.keep (m13.block rb HRun.o.lt fun e => HrbF12.o e))
     obtain ⟨r0, r1, r2, r3⟩ := HRun.o.four
     obtain ⟨z0, z1, z2, z3, z4⟩ := h13.six
     obtain ⟨g9, o9, he9, _, _, e0⟩ := (Hr12.o.mod m13 fun g _ hg hf => hnL.o g hg hf).cell.2 0 (by omega)
     obtain ⟨rfl, rfl⟩ : g0 = g9 ∧ o0 = o9 := by simpa using he9
     rw [hn0.o] at e0
     go_simp
     refine hK.out _ _ ⟨r0, z1, e0⟩ (fun hHeld => ?_)
     clear hK K
     have H13 := hid h13
     have HM13 := hid m13
     clear h13 m13
     refine tk 12 ?_
     refine tk 13 ?_
     refine wpAnyH_done (by kernel_rfl) ?_ _
     try go_wp2_with fail
     go_ret2
     refine ⟨⟨0, 0, rfl, ⟨S.vars, (T1.back lv.toNat).imp c0 L, S.E.add R.1, S.log ++ [⟨1, R.1, []⟩]⟩, left, .on rfl ⟨Hfx.o.n8, Hfx.o.sv, Hfx.o.ev, Hfx.o.most, Hfx.o.gs, Hfx.o.ls⟩ ⟨_, _, _, HRT.o⟩, H13.o.mono fun g hg => ?_, HRun.o⟩, M12.o.trans (HM13.o.mono fun g _ hg => ?_)⟩
     ·exact hg.elim (fun h => (HF12.o g h).2) fun h => .inr (by have := M12.o.size; omega)
     ·exact (HF12.o g hg).2.elim (fun h => .inl (.inl h)) .inr
end
section
open Go.RowKit Go.Maps Go.ChangeMaps
/-! ### a map from numbers to numbers -/
def lookE (l : List MapEntry) (v : Int) : Int := match (l.findIdx? (fun x => keyNum x == v)).bind fun j => l[j]? with | some x => intOf x.val | none => 0
theorem lookE_cons (x : MapEntry) (l : List MapEntry) (v : Int) : lookE (x :: l) v = if keyNum x = v then intOf x.val else lookE l v := by
 unfold lookE
 rw [List.findIdx?_cons]
 by_cases h : keyNum x = v
 ·simp [h]
 ·have h2 : (keyNum x == v) = false := by simpa using h
  rw [if_neg h, h2]
  cases hj : l.findIdx? (fun x => keyNum x == v) with
  | none => simp
  | some j => simp
theorem lookE_push {e : MapEntry} {v : Int} (he : keyNum e = v) : ∀ (l : List MapEntry), l.findIdx? (fun x => keyNum x == v) = none → ∀ u, lookE (l ++ [e]) u = if u = v then intOf e.val else lookE l u := by
 intro l
 induction l with
 | nil =>
  intro _ u
  rw [List.nil_append, lookE_cons, he]
  by_cases h : u = v
  ·rw [if_pos h.symm, if_pos h]
  ·rw [if_neg fun e => h e.symm, if_neg h]
 | cons x l ih =>
  intro hn u
  rw [List.findIdx?_cons] at hn
  cases hx : (keyNum x == v) with
  | true => rw [hx] at hn; simp at hn
  | false =>
   rw [hx] at hn
   have hn2 : l.findIdx? (fun x => keyNum x == v) = none := by simpa using hn
   have hxv : keyNum x ≠ v := by simpa using hx
   rw [List.cons_append, lookE_cons, lookE_cons, ih hn2]
   by_cases h : keyNum x = u
   ·rw [if_pos h, if_pos h, if_neg fun e => hxv (h.trans e)]
   ·rw [if_neg h, if_neg h]
theorem lookE_modify {f : MapEntry → MapEntry} {v z : Int} (hf : ∀ x, keyNum (f x) = v ∧ intOf (f x).val = z) : ∀ (l : List MapEntry) (j : Nat), l.findIdx? (fun x => keyNum x == v) = some j → ∀ u, lookE (l.modify j f) u = if u = v then z else lookE l u := by
 intro l
 induction l with
 | nil => intro j h; simp at h
 | cons x l ih =>
  intro j hj u
  rw [List.findIdx?_cons] at hj
  cases hx : (keyNum x == v) with
  | true =>
   rw [hx] at hj
   obtain rfl : 0 = j := by simpa using hj
   have hxv : keyNum x = v := by simpa using hx
   rw [List.modify_zero_cons, lookE_cons, lookE_cons, (hf x).1, (hf x).2, hxv]
   by_cases h : u = v
   ·rw [if_pos h.symm, if_pos h]
   ·have h2 : ¬ v = u := fun e => h e.symm
    simp only [if_neg h, if_neg h2]
  | false =>
   rw [hx] at hj
   have hxv : keyNum x ≠ v := by simpa using hx
   cases hl : l.findIdx? (fun x => keyNum x == v) with
   | none => rw [hl] at hj; simp at hj
   | some i =>
    rw [hl] at hj
    obtain rfl : i + 1 = j := by simpa using hj
    rw [List.modify_succ_cons, lookE_cons, lookE_cons, ih i hl]
    by_cases h : keyNum x = u
    ·rw [if_pos h, if_pos h, if_neg fun e => hxv (h.trans e)]
    ·rw [if_neg h, if_neg h]
def MapF (w : World) (m : Nat) (f : Int → Int) : Prop := ∃ es clock, w.heap[m]? = some (.map es clock) ∧ (∀ x ∈ es.toList, ∃ v z : Int, x.key = .int .i64 v ∧ x.val = .int .i64 z) ∧ ∀ v, f v = lookE es.toList v
def putF (f : Int → Int) (v z u : Int) : Int := if u = v then z else f u
section
variable {w w' : World} {m : Nat} {f : Int → Int}
theorem MapF.keep (h : MapF w m f) (hk : w'.heap[m]? = w.heap[m]?) : MapF w' m f := by
 obtain ⟨es, clock, h1, h2, h3⟩ := h
 exact ⟨es, clock, hk.trans h1, h2, h3⟩
theorem MapF.lt (h : MapF w m f) : m < w.heap.size := by
 obtain ⟨es, clock, h1, h2⟩ := h
 exact lt_of_block h1
theorem MapF.below (h : MapF w m f) (hb : Below w.heap.size w w') : MapF w' m f := h.keep (hb.block m h.lt)
theorem MapF.made (w : World) : MapF (w.alloc (.map #[] 0)) w.heap.size fun _ => 0 := ⟨#[], 0, heap_alloc_new w _, (fun x hx => by cases hx), fun v => rfl⟩
theorem MapF.get (h : MapF w m f) (v : Int) : (Instr.lookup 28 (.map (some m)) (.int .i64 v) false).run Tryz.prog w = .ok (.int .i64 (f v)) w := by
 obtain ⟨es, clock, h1, h2, h3⟩ := h
 have hl : ∀ x ∈ es.toList, ∃ n, x.key = .int .i64 n := fun x hx => by obtain ⟨v, z, e, _⟩ := h2 x hx; exact ⟨v, e⟩
 have hr := lookup_i64 Tryz.underlying28 Tryz.underlying3 v (z := .int .i64 0) (by kernel_rfl) h1 hl false
 rw [h3 v]
 unfold lookE
 cases hj : (es.toList.findIdx? (fun x => keyNum x == v)).bind fun j => es.toList[j]? with
 | none =>
  rw [hj] at hr
  exact hr
 | some x =>
  rw [hj] at hr
  obtain ⟨j, e1, e2⟩ := Option.bind_eq_some_iff.1 hj
  obtain ⟨u, z, k1, k2⟩ := h2 x (List.mem_of_getElem? e2)
  rw [hr]
  simp [k2, intOf]
theorem MapF.put (h : MapF w m f) (v z : Int) : ∃ w', (Instr.mapUpdate 28 (.map (some m)) (.int .i64 v) (.int .i64 z)).run Tryz.prog w = .ok () w' ∧ MapF w' m (putF f v z) ∧ Mod (fun g => g = m) w w' := by
 obtain ⟨es, clock, h1, h2, h3⟩ := h
 have hl : ∀ x ∈ es.toList, ∃ n, x.key = .int .i64 n := fun x hx => by obtain ⟨v, z, e, _⟩ := h2 x hx; exact ⟨v, e⟩
 cases hj : es.toList.findIdx? (fun x => keyNum x == v) with
 | none =>
  refine ⟨_, update_i64_new Tryz.underlying28 Tryz.underlying3 v h1 hl hj _, ⟨_, _, heap_setBlock_same h1 _, fun x hx => ?_, fun u => ?_⟩, mod_setBlock h1 _⟩
  ·simp only [Array.toList_push, List.mem_append, List.mem_singleton] at hx
   rcases hx with hx | rfl
   ·exact h2 x hx
   ·exact ⟨v, z, rfl, rfl⟩
  ·rw [Array.toList_push, lookE_push (v := v) rfl _ hj, ← h3 u]
   rfl
 | some j =>
  refine ⟨_, update_i64_old Tryz.underlying28 Tryz.underlying3 v h1 hl hj _, ⟨_, _, heap_setBlock_same h1 _, fun x hx => ?_, fun u => ?_⟩, mod_setBlock h1 _⟩
  ·rw [Array.toList_modify] at hx
   obtain ⟨i, hi, e⟩ := List.getElem_of_mem hx
   rw [List.getElem_modify] at e
   split at e
   ·rw [← e]
    exact ⟨v, z, rfl, rfl⟩
   ·rw [← e]
    exact h2 _ (List.getElem_mem _)
  ·rw [Array.toList_modify, lookE_modify (v := v) (z := z) (fun x => ⟨rfl, rfl⟩) _ j hj, ← h3 u]
   rfl
end
/-! ### a queue -/
def Qu (w : World) (F : Nat → Prop) (v : Value) (qs : List Int) : Prop :=
 (∃ A, v = .slice A 0 0 ∧ qs = []) ∨ ∃ g off cap cur, v = .slice (some ⟨g, off, none⟩) qs.length cap ∧ 0 < cap ∧ F g ∧ w.heap[g]? = some (.cells cur 3 (0, 0)) ∧ cur.size = off + cap ∧ qs.length ≤ cap ∧ cap ≤ maxLen ∧ ∀ j, j < qs.length → cur[off + j]? = some (.int .i64 (nth qs j))
section
variable {w w' : World} {F G : Nat → Prop} {v u : Value} {qs : List Int} {x : Int}
theorem Qu.row (h : Qu w F v qs) {g : Nat} (hr : Go.Proofs.YtcjmpobccbnpkaaGreat.row v g) : F g ∧ g < w.heap.size ∧ ∃ cur, w.heap[g]? = some (.cells cur 3 (0, 0)) := by
 rcases h with ⟨A, rfl, _⟩ | ⟨g', off, cap, cur, rfl, hp, hF, hg, _⟩
 ·rw [row_none] at hr; exact hr.elim
 ·obtain ⟨_, rfl⟩ := hr
  exact ⟨hF, lt_of_block hg, cur, hg⟩
theorem Qu.keep (h : Qu w F v qs) (hb : ∀ g, Go.Proofs.YtcjmpobccbnpkaaGreat.row v g → w'.heap[g]? = w.heap[g]?) : Qu w' F v qs := by
 rcases h with h | ⟨g, off, cap, cur, rfl, hp, hF, hg, r⟩
 ·exact .inl h
 ·exact .inr ⟨g, off, cap, cur, rfl, hp, hF, (hb g ⟨hp, rfl⟩).trans hg, r⟩
theorem Qu.mod (h : Qu w F v qs) (hm : Mod G w w') (hG : ∀ g, Go.Proofs.YtcjmpobccbnpkaaGreat.row v g → ¬ G g) : Qu w' F v qs := h.keep fun g hr => hm.block g (h.row hr).2.1 (hG g hr)
theorem Qu.below (h : Qu w F v qs) (hb : Below w.heap.size w w') : Qu w' F v qs := h.keep fun g hr => hb.block g (h.row hr).2.1
theorem Qu.mono (h : Qu w F v qs) (hFG : ∀ g, g < w.heap.size → F g → G g) : Qu w G v qs := by
 rcases h with h | ⟨g, off, cap, cur, rfl, hp, hF, hg, r⟩
 ·exact .inl h
 ·exact .inr ⟨g, off, cap, cur, rfl, hp, hFG g (lt_of_block hg) hF, hg, r⟩
theorem Qu.one {b : Nat} (hb : w.heap[b]? = some (.cells #[.int .i64 x] 3 (0, 0))) (hF : F b) : Qu w F (.slice (some ⟨b, 0, none⟩) 1 1) [x] :=
 .inr ⟨b, 0, 1, _, rfl, by omega, hF, hb, rfl, Nat.le_refl _, by decide, fun j hj => by
  obtain rfl : j = 0 := by simpa using hj
  rfl⟩
theorem Qu.head (h : Qu w F v (x :: qs)) : ∃ g off cap, v = .slice (some ⟨g, off, none⟩) (qs.length + 1) cap ∧ qs.length + 1 ≤ cap ∧ w.cell? ⟨g, off, none⟩ = some (.int .i64 x) ∧ Qu w F (.slice (some (if cap = 1 then ⟨g, off, none⟩ else ⟨g, off + 1, none⟩)) qs.length (cap - 1)) qs := by
 rcases h with ⟨A, _, h⟩ | ⟨g, off, cap, cur, rfl, hp, hF, hg, hs, hl, hm, hc⟩
 ·cases h
 ·simp only [List.length_cons] at hl hc ⊢
  have h0 := hc 0 (by omega)
  rw [Nat.add_zero] at h0
  refine ⟨g, off, cap, rfl, hl, by rw [cell_of_row _ _ _ _ _ _ hg]; exact h0, ?_⟩
  by_cases h1 : cap = 1
  ·subst h1
   have : qs.length = 0 := by omega
   obtain rfl := List.eq_nil_of_length_eq_zero this
   exact .inl ⟨_, rfl, rfl⟩
  ·rw [if_neg h1]
   refine .inr ⟨g, off + 1, cap - 1, cur, rfl, by omega, hF, hg, by omega, by omega, by omega, fun j hj => ?_⟩
   have := hc (j + 1) (by omega)
   rw [show off + 1 + j = off + (j + 1) by omega, this]
   rfl
theorem Qu.append (h : Qu w F v qs) (hu : Rd w G 1 u 1 (ints [x])) (hn : qs.length ≤ 1000000) (ty : TypeId) :
  ∃ A c w', (Builtin.append_ #[23, 23] ty #[v, u]).run Tryz.prog w = .ok (.slice A (qs.length + 1) c) w' ∧ Qu w' (fun g => F g ∨ w.heap.size ≤ g) (.slice A (qs.length + 1) c) (qs ++ [x]) ∧ Mod (Go.Proofs.YtcjmpobccbnpkaaGreat.row v) w w' ∧ ∀ g, Go.Proofs.YtcjmpobccbnpkaaGreat.row (.slice A (qs.length + 1) c) g → Go.Proofs.YtcjmpobccbnpkaaGreat.row v g ∨ w.heap.size ≤ g := by
 obtain ⟨i0, hi, hz0, hz1, hz2⟩ := info_parts info_int
 have hge : ∀ {W : World} {v' : Value} {n : Nat} {xs : List Value}, Own W (fun g => w.heap.size ≤ g) 3 1 v' n xs → ∀ qs', xs = ints qs' → qs'.length = n → ∃ A c, v' = .slice A n c ∧ Qu W (fun g => F g ∨ w.heap.size ≤ g) (.slice A n c) qs' := by
  rintro W v' n xs ho qs' rfl hn'
  subst hn'
  rcases ho.2 with ⟨A, rfl, h0⟩ | ⟨g, cap, cur, rfl, hp, hF, hg, h1, h2, h3, h4⟩
  ·have := List.eq_nil_of_length_eq_zero h0
   subst this
   exact ⟨A, 0, rfl, .inl ⟨A, rfl, rfl⟩⟩
  ·refine ⟨_, _, rfl, .inr ⟨g, 0, cap, cur, rfl, hp, .inr hF, hg, by omega, h1, h2, fun j hj => ?_⟩⟩
   have h5 := ints_nth hj
   rw [← h4, List.getElem?_take] at h5
   split at h5
   ·rw [Nat.zero_add]; simpa using h5
   ·cases h5
 rcases h with ⟨A, rfl, rfl⟩ | ⟨g, off, cap, cur, rfl, hp, hF, hg, hs, hl, hm, hc⟩
 ·obtain ⟨v', w', hr, h2, h3, h4⟩ := run_append_rd (P := Tryz.prog) 23 ty i0 (.int .i64 0) 8 Tryz.underlying23 hi hz0 hz1 hz2 rfl (by decide) (Own.none_ w (fun g => w.heap.size ≤ g) 3 1 A) hu (ints_one _) (by unfold maxLen; omega) (by omega)
  obtain ⟨A', c, rfl, hq⟩ := hge (h2.mono fun g _ _ hg => hg.elim id id) [x] rfl rfl
  exact ⟨A', c, w', hr, hq, h3, h4⟩
 ·obtain ⟨_, B, c, rfl, hmc, _, hB⟩ := hu
  obtain ⟨g', o', rfl, _, _, hcell⟩ := hB (by omega)
  have hnews : ∀ j u, (ints [x])[j]? = some u → w.cell? ((⟨g', o', none⟩ : Addr).add j) = some u := fun j u hu => by rw [addr_add]; exact hcell j u hu
  have hcellq : ∀ j, j < qs.length → w.cell? ⟨g, off + j, none⟩ = some (.int .i64 (nth qs j)) := fun j hj => by rw [cell_of_row _ _ _ _ _ _ hg]; exact hc j hj
  by_cases hroom : qs.length + 1 ≤ cap
  ·have hcs : (w.cell? ⟨g, off + qs.length, none⟩).isSome = true := by
    rw [cell_of_row _ _ _ _ _ _ hg, Array.getElem?_eq_getElem (by omega)]
    rfl
   have hr := run_append_room_cells (P := Tryz.prog) w 23 ty 3 i0 Tryz.underlying23 hi g off qs.length cap ⟨g', o', none⟩ 1 c (ints [x]) (by rw [hz1]; rfl) hnews (ints_one _) hroom
    (fun j hj => by
     obtain rfl : j = 0 := by simpa [ints] using hj
     rw [hz1, Nat.mul_one]
     exact hcs)
    (fun j hj => frozen_of_row w g _ cur _ hg)
   rw [hz1, Nat.mul_one] at hr
   have e : w.setCells g (off + qs.length) (ints [x]) = w.setCell ⟨g, off + qs.length, none⟩ (.int .i64 x) := by rfl
   rw [e] at hr
   refine ⟨_, cap, _, hr, .inr ⟨g, off, cap, cur.setIfInBounds (off + qs.length) (.int .i64 x), by rw [List.length_append]; rfl, hp, .inl hF, heap_setCell_same w g _ cur _ _ hg, by simpa using hs, by simpa using hroom, hm, fun j hj => ?_⟩, (Mod.refl (Go.Proofs.YtcjmpobccbnpkaaGreat.row (.slice (some ⟨g, off, none⟩) qs.length cap)) w).setCell (p := ⟨g, off + qs.length, none⟩) (.inl ⟨hp, rfl⟩) _, fun k hk => .inl hk⟩
   rw [List.length_append, List.length_singleton] at hj
   rw [Array.getElem?_setIfInBounds]
   by_cases hjq : j = qs.length
   ·subst hjq
    rw [if_pos rfl, if_pos (by omega)]
    simp [nth]
   ·rw [if_neg (by omega), hc j (by omega)]
    have hj2 : j < qs.length := by omega
    simp [nth, List.getElem?_append_left hj2]
  ·obtain ⟨v', w', hr, h2, h3⟩ := run_append_arg_grows (P := Tryz.prog) w 23 ty 3 i0 (.int .i64 0) 1 8 Tryz.underlying23 hi hz0 hz1 hz2 rfl (by decide) ⟨g, off, none⟩ qs.length cap (ints qs) (by simp [ints]) (fun j u hu => by
    rw [addr_add]
    have hj : j < qs.length := by
     have := (List.getElem?_eq_some_iff.1 hu).1
     simpa [ints] using this
    rw [ints_nth hj] at hu
    rw [← hu]
    exact hcellq j hj) ⟨g', o', none⟩ 1 c (ints [x]) rfl hnews (by omega) (by unfold maxLen; omega) (by omega)
   have ho : Own w' (fun g => w.heap.size ≤ g) 3 1 v' (qs.length + 1) (ints qs ++ ints [x]) := by
    obtain ⟨hl', h4⟩ := h2
    rcases h4 with ⟨_, h4⟩ | ⟨g1, cap1, cur1, e1, e2, e3, e4, e5, e6, e7⟩
    ·omega
    ·exact ⟨hl', .inr ⟨g1, cap1, cur1, e1, by omega, e2, e3, e4, e5, e6, e7⟩⟩
   rw [← ints_append] at ho
   obtain ⟨A', c', rfl, hq⟩ := hge ho (qs ++ [x]) rfl (by simp)
   refine ⟨A', c', w', hr, hq, (Mod.of_grown h3).mono fun k _ e => (by cases e), fun k hk => .inr ?_⟩
   have := ho.row hk
   exact this.1
end
end
end Go.Proofs.YtcjmpobccbnpkaaGreat
