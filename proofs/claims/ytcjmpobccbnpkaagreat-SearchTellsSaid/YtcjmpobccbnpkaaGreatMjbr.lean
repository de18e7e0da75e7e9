/-
 Chapter 32: several texts in one (SgE SgF SgG SgH).
-/
import Derived.Test.YtcjmpobccbnpkaaGreatMjbp
import Derived.Test.YtcjmpobccbnpkaaGreatMjbq
import Derived.Test.YtcjmpobccbnpkaaGreatMjaz
namespace Go.Proofs.YtcjmpobccbnpkaaGreat
set_option maxRecDepth 100000
set_option maxHeartbeats 8000000
section
open Go.RowKit
theorem SolP.logRd {w : World} {F : Nat → Prop} {sb tb eb ob pm : Nat} {S : Sol} (h : SolP w F sb tb eb ob pm S) : ∃ A c, w.cell? ⟨sb, 5, none⟩ = some (.slice A S.log.length c) ∧ StsRd w F F A S.log.length c S.log := by
 obtain ⟨vl, ts, o, Fe, Fo, Fq, h, h1, h2, h3, h4, h5, h6⟩ := h
 obtain ⟨A, c, rfl, _⟩ := h.log.form
 obtain ⟨z0, z1, z2, z3, z4, z5⟩ := sbox6 h.blk
 exact ⟨A, c, z5, ts, h.log.rd.mono fun g _ hg => h6 g hg, h.sts.mono fun g _ hg => h5 g hg, rfl⟩
structure LogAt (w : World) (B tb : Nat) (vl : Value) (ts : List Six) (l : List Stp) (Fq : Nat → Prop) : Prop where
 blk : w.heap[tb]? = some (.cells #[.int .i64 0, .pointer none, .pointer none, .pointer none, .map none, vl] 31)
 log : Own w (row vl) 52 6 vl l.length (flat6 ts)
 sts : Sts w Fq ts l
 dq : ∀ g, Fq g → g < w.heap.size ∧ B ≤ g ∧ g ≠ tb ∧ ¬ row vl g
 rw : ∀ g, row vl g → B ≤ g ∧ g ≠ tb ∧ g < w.heap.size
 tb : B ≤ tb
theorem LogAt.below {w w' : World} {B tb : Nat} {vl : Value} {ts : List Six} {l : List Stp} {Fq : Nat → Prop} (h : LogAt w B tb vl ts l Fq) (hb : Below w.heap.size w w') : LogAt w' B tb vl ts l Fq :=
 ⟨keep_blk h.blk hb, h.log.below hb, h.sts.below hb, fun g hg => ⟨by have := (h.dq g hg).1; have := hb.size; omega, (h.dq g hg).2⟩, fun g hg => ⟨(h.rw g hg).1, (h.rw g hg).2.1, by have := (h.rw g hg).2.2; have := hb.size; omega⟩, h.tb⟩
theorem LogAt.note {w w' : World} {B tb : Nat} {vl : Value} {ts : List Six} {l : List Stp} {Fq : Nat → Prop} (h : LogAt w B tb vl ts l Fq) (hB : B ≤ w.heap.size) {s : Stp} (hn : Noted w w' (row vl) tb (.int .i64 0) (.pointer none) (.pointer none) (.pointer none) (.map none) vl l.length ts s) :
  (∃ vl' ts' Fq', LogAt w' B tb vl' ts' (l ++ [s]) Fq') ∧ Mod (fun g => B ≤ g) w w' := by
 obtain ⟨A, c, t, hb, ho, hr, hst, hm⟩ := hn
 have hs := hm.size
 have htb := lt_of_block h.blk
 refine ⟨⟨.slice A (l.length + 1) c, ts ++ [t], fun g => Fq g ∨ (w.heap.size ≤ g ∧ ¬ row (.slice A (l.length + 1) c) g ∧ g < w'.heap.size), hb, ?_, ?_, fun g hg => ?_, fun g hg => ?_, h.tb⟩, hm.mono fun g _ hg => hg.elim (fun h1 => (h.rw g h1).1) fun e => by rw [e]; exact h.tb⟩
 ·rw [List.length_append]
  exact ho.mono fun g _ h _ => h
 ·exact (((h.sts.mono fun g hg h => (⟨h, hg⟩ : Fq g ∧ g < w.heap.size)).mod hm fun g _ h1 h2 => h2.elim (h.dq g h1.1).2.2.2 (h.dq g h1.1).2.2.1).mono fun g _ h => .inl h.1).snoc (hst.mono fun g hg h => .inr ⟨h.1, h.2, hg⟩)
 ·rcases hg with hg | hg
  ·have h0 := h.dq g hg
   refine ⟨by omega, h0.2.1, h0.2.2.1, fun e => ?_⟩
   rcases hr g e with e | e
   ·exact h0.2.2.2 e
   ·omega
  ·exact ⟨hg.2.2, by omega, by omega, hg.2.1⟩
 ·have hlt : g < w'.heap.size := by
   obtain ⟨_, cur, h1⟩ := ho.row hg
   exact lt_of_block h1
  rcases hr g hg with e | e
  ·have := h.rw g e
   exact ⟨this.1, this.2.1, hlt⟩
  ·exact ⟨by omega, by omega, hlt⟩
theorem slog_any {w : World} {F : Nat → Prop} {sb tb eb ob pm : Nat} {S : Sol} (h : SolP w F sb tb eb ob pm S) (hsz : ∀ s ∈ S.log, s.c.lits.length ≤ 1000000 ∧ s.c.coefs.length ≤ 1000000 ∧ s.set.length ≤ 1000000) (hl : S.log.length ≤ 900000) :
  Calls Tryz.prog 12 #[.pointer (some ⟨sb, 0, none⟩)] w fun r w' => (∃ A c, r = .returned (.slice A S.log.length c) ∧ StsRd w' (fun g => w.heap.size ≤ g) (fun g => w.heap.size ≤ g) A S.log.length c S.log) ∧ Below w.heap.size w w' := by
 obtain ⟨A, c, z5, hrd⟩ := h.logRd
 obtain ⟨z0, z1, z2, z3, z4⟩ := h.six
 have hncap : (S.log.length : Int) ≤ (c : Int) := by
  obtain ⟨_, ⟨_, A2, c2, hv2, h2, _⟩, _⟩ := hrd
  injection hv2 with _ _ h3
  omega
 have HRw := hid (hrd.mono (F' := fun g => g < w.heap.size) (G' := fun g => g < w.heap.size) (fun g hg _ => hg) fun g hg _ => hg)
 have Hsz := hid hsz
 obtain ⟨n, hn⟩ : ∃ n, S.log.length = n := ⟨_, rfl⟩
 obtain ⟨Z, hZ⟩ : ∃ z, w.heap.size = z := ⟨_, rfl⟩
 obtain ⟨X0, hX0, bX0, kX0, sX0⟩ := alloc_step w (.cells #[.int .i64 0, .pointer none, .pointer none, .pointer none, .map none, .slice none 0 0] 31)
 have HX0 := hid hX0
 rw [hZ] at kX0 sX0
 rw [hn] at z5 hl hncap ⊢
 have L0 : Hid (LogAt X0 Z Z (.slice none 0 0) [] [] (fun _ => False)) := hid ⟨kX0, Own.nil _ _ _ _, Sts.nil _ _, fun g hg => hg.elim, (fun g hg => by rw [row_none] at hg; exact hg.elim), Nat.le_refl _⟩
 have Hn := hid hn
 have B0 := hid bX0
 have HZ := hid hZ
 clear hrd hsz h bX0 kX0 hX0
 go_enter Tryz.func12, Tryz.ntmps12
 go_wp2_with fail
 refine (snone_no z1).mono ?_
 rintro r w1 ⟨rfl, rfl⟩
 go_wp2_with fail
 rw [HX0.o]
 try rw [hZ]
 go_loopw [17] (fun iv W => ∃ j : Nat, j ≤ n ∧ iv = .int .i64 j ∧ Hid (∃ vl ts Fq, LogAt W Z Z vl ts (S.log.take j) Fq) ∧ Hid (Below Z w W)) (fun iv _ => n - (intOf iv).toNat)
 case atStart => exact ⟨0, Nat.zero_le _, rfl, hid ⟨_, _, _, L0.o⟩, hZ ▸ B0⟩
 case round =>
  obtain ⟨j, jn, rfl, hL, HB⟩ := hrel
  obtain ⟨vl, ts, Fq, hLo⟩ := hL.o
  have HL := hid hLo
  have hsz := HB.o.size
  clear hL hLo
  by_cases hlt : j < n
  ·have x1 : (j : Int) < (n : Int) := by omega
   obtain ⟨g, o, s, t, rfl, _, _, hs, hst, hce⟩ := (HRw.o.below (w' := wr) (by rw [HZ.o]; exact HB.o)).cells (i := j) (by rw [Hn.o]; exact hlt)
   obtain ⟨A1, n1, d1, B1, m1, e1, C1, f1, rfl, hpb, hset⟩ := hst
   have q0 := hce 0 _ rfl
   have q1 := hce 1 _ rfl
   have q2 := hce 2 _ rfl
   have q3 := hce 3 _ rfl
   have q4 := hce 4 _ rfl
   have q5 := hce 5 _ rfl
   rw [Nat.add_zero] at q0
   have hsm := Hsz.o s (List.mem_of_getElem? hs)
   have htk : Hid (S.log.take j ++ [s] = S.log.take (j + 1)) := hid (by rw [List.take_add_one, hs]; rfl)
   have htl : (S.log.take j).length ≤ 900000 := by rw [List.length_take]; omega
   obtain ⟨X, hX, bX, kX, sX⟩ := alloc_step wr (.cells #[.int .u8 s.kind, .slice A1 n1 d1, .slice B1 m1 e1, .int .i64 s.c.bound, .slice C1 s.set.length f1, .slice none 0 0] 52)
   have hno := note_any (G := fun g => g < w.heap.size) (t := ⟨.int .u8 s.kind, .slice A1 n1 d1, .slice B1 m1 e1, .int .i64 s.c.bound, .slice C1 s.set.length f1, .slice none 0 0⟩) (s := s) ⟨A1, n1, d1, B1, m1, e1, C1, f1, rfl, hpb.below bX, hset.below bX⟩ hsm (HL.o.below bX).blk (HL.o.below bX).log htl
   have Hno := hid hno
   have HLX := hid (HL.o.below bX)
   have BX := hid (HB.o.trans (bX.mono (by rw [← HZ.o]; exact hsz)))
   have HX := hid hX
   obtain ⟨Zx, hZx⟩ : ∃ z, wr.heap.size = z := ⟨_, rfl⟩
   rw [hZx] at kX
   obtain ⟨t0, t1, t2, t3, t4, t5⟩ := sbox6 kX
   rw [← hX] at t0 t1 t2 t3 t4 t5
   have sXs : Z ≤ X.heap.size := by rw [← HZ.o]; have := BX.o.size; exact this
   clear hno hsm hs hpb hset hce bX hX kX
   go_wp2_with fail
   try rw [hZx]
   rw [HX.o] at t0 t1 t2 t3 t4 t5 ⊢
   refine Hno.o.mono ?_
   rintro r w3 ⟨⟨v3, rfl⟩, hnd⟩
   have hln := HLX.o.note (by exact sXs) hnd
   have Hln := hid hln
   clear hnd hln
   go_wp2_with fail
   go_roundw
   case rel => exact ⟨j + 1, by omega, by go_num, hid (by rw [← htk.o]; exact Hln.o.1), hid (below_mod BX.o sXs Hln.o.2 fun g hg => hg)⟩
   case measure => simp [intOf]; omega
  ·have x1 : ¬ ((j : Int) < (n : Int)) := by omega
   have htk : S.log.take j = S.log := List.take_of_length_le (by rw [Hn.o]; omega)
   rw [htk] at HL
   obtain ⟨A9, c9, hv9, _⟩ := HL.o.log.form
   rw [Hn.o] at hv9
   subst hv9
   obtain ⟨y0, y1, y2, y3, y4, y5⟩ := sbox6 HL.o.blk
   clear htk
   go_wp2_with fail
   go_ret
   refine ⟨⟨A9, c9, rfl, ts, ?_, HL.o.sts.mono fun g _ hg => ?_, Hn.o⟩, ?_⟩
   ·have := HL.o.log.rd
    rw [Hn.o] at this
    exact this.mono fun g _ hg => (HL.o.rw g hg).1
   ·exact (HL.o.dq g hg).2.1
   ·exact HB.o
end
section
open Go.RowKit
structure Kept (n : Nat) (Bs : List Pb) (S : Sol) : Prop where
 base : Base n S
 ok : OkN n S.E.cs
 sub : ∀ p ∈ Bs, p ∈ S.E.cs
 imp : ∀ s, Hold s Bs → Hold s S.E.cs
 sz : ∀ t ∈ S.log, t.kind = 1 ∧ t.set = [] ∧ t.c.lits.length ≤ 1000000 ∧ t.c.coefs.length ≤ 1000000
theorem Kept.size {n : Nat} {Bs : List Pb} {S : Sol} (h : Kept n Bs S) : ∀ s ∈ S.log, s.c.lits.length ≤ 1000000 ∧ s.c.coefs.length ≤ 1000000 ∧ s.set.length ≤ 1000000 := fun s hs => by
 obtain ⟨_, h2, h3, h4⟩ := h.sz s hs
 exact ⟨h3, h4, by rw [h2]; exact Nat.zero_le _⟩
theorem Kept.start {n : Nat} {Bs : List Pb} {S : Sol} (hb : Base n S) (hc : S.E.cs = Bs) (hl : S.log = []) (hok : OkN n Bs) : Kept n Bs S :=
 ⟨hb, by rw [hc]; exact hok, fun p hp => by rw [hc]; exact hp, fun s hs => by rw [hc]; exact hs, fun t ht => by rw [hl] at ht; cases ht⟩
inductive Nilled (n : Nat) (Bs G : List Pb) (asm : List Int) (log0 : List Stp) (most : Nat) (new : List Stp) : Bool → List Int → List Int → Int → Prop
 | sat (X : List Int) (hX : okX X) (hn : ∀ l ∈ X, l ≠ 0 ∧ l.natAbs ≤ n) (ha : ∀ x ∈ asm, x ∈ X) (hall : ∀ y : Nat, 1 ≤ y → y ≤ n → valX X y ≠ 0) (hcal : ∀ p ∈ Bs, p.Calm X) : Nilled n Bs G asm log0 most new true (asgX n X) [] 0
 | unsat (co : List Int) (hs : List.Sublist co asm) (hno : ∀ s, Hold s Bs → ¬ ∀ x ∈ co, tr s x = true) (n0 : List Stp) (hn : new = n0 ++ [⟨1, (clauseB (co.map fun l => -l)).1, []⟩]) (hr : RupX (G ++ n0.map Stp.c) (co.map fun l => -l)) : Nilled n Bs G asm log0 most new false [] co 0
 | many (h : ∀ vs, Open ⟨asm, G, log0, n, most, [], fun _ => False⟩ vs → most < 3 ^ vs.length) : Nilled n Bs G asm log0 most new false [] [] 5
def nilLazy : Lazy := ⟨.nilFunc, fun _ => False, fun _ _ => True, fun _ s => s = none⟩
theorem nilLazy_ok (a : Ask) : LazyOk a nilLazy := ⟨fun _ _ _ => trivial, (fun h => by cases h), ⟨rfl, fun _ => rfl⟩⟩
structure NewOk (n : Nat) (G : List Pb) (new : List Stp) : Prop where
 ok : ∀ i s, new[i]? = some s → s.kind = 1 ∧ s.set = [] ∧ ∃ L, s.c = (clauseB L).1 ∧ (∀ l ∈ L, litB l = true ∧ l.natAbs ≤ n) ∧ L.length ≤ 8 ∧ RupX (G ++ (new.take i).map Stp.c) L
 len : new.length ≤ 3 ^ n
theorem ssolve_nil {w : World} {F Ga : Nat → Prop} {sb tb eb ob pm na ca most n : Nat} {Aa : Option Addr} {asm : List Int} {Bs : List Pb} {S : Sol} (h : SolP w F sb tb eb ob pm S) (hK : Kept n Bs S)
  (hasm : Rd w Ga 1 (.slice Aa na ca) na (ints asm)) (hGa : ∀ g, Ga g → ¬ F g) (hal : ∀ x ∈ asm, x ≠ 0 ∧ x.natAbs ≤ n) (hna : na ≤ 8) (hn8 : n ≤ 8) (hmost : most ≤ 65536) (hG : S.E.cs.length ≤ 400000) (hL : S.log.length ≤ 400000) :
  Calls Tryz.prog 10 #[.pointer (some ⟨sb, 0, none⟩), .slice Aa na ca, .int .i64 most, .nilFunc] w fun r w' => (∃ sat A1 n1 c1 A2 n2 c2 e, r = .returned (.tuple #[.agg #[.bool sat, .slice A1 n1 c1, .slice A2 n2 c2], .int .i64 e]) ∧ ∃ S' F' new M co, Nilled n Bs S.E.cs asm S.log most new sat M co e ∧
   Kept n Bs S' ∧ S'.log = S.log ++ new ∧ S'.E.cs = S.E.cs ++ new.map Stp.c ∧ NewOk n S.E.cs new ∧ SolP w' F' sb tb eb ob pm S' ∧ (∀ g, F' g → g < w'.heap.size ∧ (F g ∨ w.heap.size ≤ g)) ∧ Rd w' (fun g => w.heap.size ≤ g ∧ ¬ F' g) 1 (.slice A1 n1 c1) n1 (i8s M) ∧ Rd w' (fun g => w.heap.size ≤ g ∧ ¬ F' g) 1 (.slice A2 n2 c2) n2 (ints co)) ∧ Mod F w w' := by
 refine (ssolve_any (z := nilLazy) (i0 := 0) (Hs := []) (Lz := fun _ => False) h (nilLazy_ok _) trivial (fun g hg => hg.elim) hasm (fun g hg => ⟨hGa g hg, id⟩) hal hna hK.base hn8 hmost hG hL).mono ?_
 rintro r w' ⟨⟨sat, A1, n1, c1, A2, n2, c2, e, rfl, S', F', k, i', new, M, co, hso, hlf, hba, hsp, hF', hM, hco, _⟩, hm⟩
 have hokH : OkN n [] := fun p hp => by cases hp
 have hok' : OkN n S'.E.cs := hlf.okN hK.ok hokH
 have hst : ∀ i s, new[i]? = some s → s.kind = 1 ∧ s.set = [] ∧ ∃ L, s.c = (clauseB L).1 ∧ (∀ l ∈ L, litB l = true ∧ l.natAbs ≤ n) ∧ L.length ≤ 8 ∧ RupX (S.E.cs ++ (new.take i).map Stp.c) L := fun i s hs => by
  rcases hlf.grew.ok i s hs with h1 | ⟨_, h1, _⟩
  ·exact h1
  ·exact h1.elim
 have hK' : Kept n Bs S' := by
  refine ⟨hba, hok', fun p hp => by rw [hlf.cs]; exact List.mem_append_left _ (hK.sub p hp), fun s hs => hlf.hold (by show n ≤ 65536; omega) hK.ok hokH (hK.imp s hs) (fun p hp => by cases hp), fun t ht => ?_⟩
  rw [hlf.log] at ht
  rcases List.mem_append.1 ht with ht | ht
  ·exact hK.sz t ht
  ·obtain ⟨i, hi, e1⟩ := List.getElem_of_mem ht
   obtain ⟨k1, k2, L, k3, k4, k5, _⟩ := hst i t (by rw [List.getElem?_eq_getElem hi, e1])
   obtain ⟨k6, k7⟩ := clauseB_okN k4 k5
   rw [← k3] at k6 k7
   have k8 := k6.fewn k7
   have k9 := k6.len
   exact ⟨k1, k2, by omega, by omega⟩
 have hnew : NewOk n S.E.cs new := ⟨hst, by
  have := hlf.len _ (Open.all (n := n) ⟨asm, S.E.cs, S.log, n, most, [], fun _ => False⟩ rfl)
  simpa using this⟩
 refine ⟨⟨sat, A1, n1, c1, A2, n2, c2, e, rfl, S', F', new, M, co, ?_, hK', hlf.log, hlf.cs, hnew, hsp, hF', hM, hco⟩, hm.mono fun g _ hg => hg.elim id fun h => h.elim⟩
 cases hso with
 | sat hi X hX hb hn ha hall hcal hz => exact .sat X hX hn ha hall fun p hp => hcal p (hK'.sub p hp)
 | unsat hi co hs n0 hn hr =>
  refine .unsat co hs (fun s hs1 => ?_) n0 hn hr
  exact core_no hlf (by show n ≤ 65536; omega) hK.ok hokH hn hr (fun x hx => hal x (hs.subset hx)) (hK.imp s hs1) (fun p hp => by cases hp)
 | many hmany =>
  refine .many fun vs ho => ?_
  have := hmany vs ho
  simpa using this
 | arg X s hs hn => cases hs
end
section
open Go.RowKit
theorem normVars_eq {ls ks vs : List Int} (hr : vs.Pairwise (fun x y => x < y)) (h1 : ∀ v ∈ vs, 1 ≤ v ∧ v ≤ 65536 ∧ vsum ls ks ls.length v ≠ 0) (h2 : ∀ l ∈ ls, ((l.natAbs : Nat) : Int) ∈ vs ∨ vsum ls ks ls.length (l.natAbs : Nat) = 0) : normVars ls ks = vs := by
 have hn := normVars_rise ls ks
 refine List.Perm.eq_of_pairwise (le := fun x y : Int => x ≤ y) (fun a b _ _ h1 h2 => by omega) (hn.imp fun h => by omega) (hr.imp fun h => by omega) ((List.perm_ext_iff_of_nodup (hn.imp fun h => by omega) (hr.imp fun h => by omega)).2 fun v => ?_)
 rw [mem_normVars]
 refine ⟨fun ⟨q1, q2, q3⟩ => ?_, h1 v⟩
 by_cases e : ∃ l ∈ ls, ((l.natAbs : Nat) : Int) = v
 ·obtain ⟨l, hl, rfl⟩ := e
  exact (h2 l hl).elim id fun h => absurd h q3
 ·refine absurd (sum_zero _ fun i hi => ?_) q3
  have hi := List.mem_range.1 hi
  have : ¬ ((((nth ls i).natAbs : Nat) : Int) = v) := fun h => e ⟨_, nth_mem hi, h⟩
  unfold term
  rw [if_neg (by omega), if_neg (by omega)]
def candVs (cand ls ks : List Int) : List Int := cand.filter fun v => decide (vsum ls ks ls.length v ≠ 0)
def candBd (cand ls ks : List Int) (b : Int) : Int := b - nsum ls ks ls.length - ((candVs cand ls ks).map fun v => min (vsum ls ks ls.length v) 0).sum
def candCs (cand ls ks : List Int) (b : Int) : List Int := (candVs cand ls ks).map fun v => min (((vsum ls ks ls.length v).natAbs : Nat) : Int) (candBd cand ls ks b)
def normCand (cand ls ks : List Int) (b : Int) : Pb × Int :=
 if normOk ls ks b = false then (⟨[], [], 0⟩, 2)
 else if candBd cand ls ks b ≤ 0 then (⟨[], [], 0⟩, 0)
 else if (candCs cand ls ks b).sum < candBd cand ls ks b then (⟨[], [], 1⟩, 0)
 else if 16777216 < candBd cand ls ks b then (⟨[], [], 0⟩, 3)
 else (⟨(candVs cand ls ks).map fun v => sg (vsum ls ks ls.length v) v, candCs cand ls ks b, candBd cand ls ks b⟩, 0)
theorem normed_cand {cand ls ks : List Int} {b : Int} (hr : cand.Pairwise (fun x y => x < y)) (hm : ∀ v ∈ cand, 1 ≤ v ∧ v ≤ 65536) (hall : ∀ l ∈ ls, ((l.natAbs : Nat) : Int) ∈ cand) : normed ls ks b = normCand cand ls ks b := by
 have e : normVars ls ks = candVs cand ls ks := by
  refine normVars_eq (hr.sublist List.filter_sublist) (fun v hv => ?_) fun l hl => ?_
  ·obtain ⟨h1, h2⟩ := List.mem_filter.1 hv
   exact ⟨(hm v h1).1, (hm v h1).2, of_decide_eq_true h2⟩
  ·by_cases h : vsum ls ks ls.length ((l.natAbs : Nat) : Int) = 0
   ·exact .inr h
   ·exact .inl (List.mem_filter.2 ⟨hall l hl, decide_eq_true h⟩)
 have e2 : normBd ls ks b = candBd cand ls ks b := by unfold normBd candBd; rw [e]
 have e3 : normCoefs ls ks b = candCs cand ls ks b := by unfold normCoefs candCs; rw [e, e2]
 rw [normed_sg, e3, e2, e]
 rfl
theorem once_of {ls ms : List Int} (h : ms.Pairwise (fun x y => x < y)) (hm : ∀ v, v ∈ ls ↔ v ∈ ms) : once ls = ms := by
 refine List.Perm.eq_of_pairwise (le := fun x y : Int => x ≤ y) (fun a b _ _ h1 h2 => by omega) ((compactL_rise (sortL_sorted _)).imp fun h => by omega) (h.imp fun h => by omega) ((List.perm_ext_iff_of_nodup (once_nodup _) (h.imp fun h => by omega)).2 fun v => ?_)
 rw [mem_once]
 exact hm v
def c12 : Pb := ⟨[1, 2], [1, 1], 1⟩
def c1m : Pb := ⟨[1, -2], [1, 1], 1⟩
def cm2 : Pb := ⟨[-1, 2], [1, 1], 1⟩
def cmm : Pb := ⟨[-1, -2], [1, 1], 1⟩
def cm : Pb := ⟨[-1], [1], 1⟩
def c00 : Pb := ⟨[], [], 1⟩
theorem cl_12 : (clauseB [1, 2]).1 = c12 := by rw [clauseB_is, once_of (ms := [1, 2]) (by decide) (by simp), (normed_cand (cand := [1, 2, 3]) (by decide) (by decide) (by decide))]; rfl
theorem cl_1m : (clauseB [1, -2]).1 = c1m := by rw [clauseB_is, once_of (ms := [-2, 1]) (by decide) (by simp; omega), (normed_cand (cand := [1, 2, 3]) (by decide) (by decide) (by decide))]; rfl
theorem cl_m2 : (clauseB [-1, 2]).1 = cm2 := by rw [clauseB_is, once_of (ms := [-1, 2]) (by decide) (by simp), (normed_cand (cand := [1, 2, 3]) (by decide) (by decide) (by decide))]; rfl
theorem cl_mm : (clauseB [-1, -2]).1 = cmm := by rw [clauseB_is, once_of (ms := [-2, -1]) (by decide) (by simp; omega), (normed_cand (cand := [1, 2, 3]) (by decide) (by decide) (by decide))]; rfl
theorem cl_m : (clauseB [-1]).1 = cm := by rw [clauseB_is, once_of (ms := [-1]) (by decide) (by simp), (normed_cand (cand := [1, 2, 3]) (by decide) (by decide) (by decide))]; rfl
theorem cl_0 : (clauseB []).1 = c00 := by rw [clauseB_is, once_of (ms := []) (by decide) (by simp), (normed_cand (cand := [1, 2, 3]) (by decide) (by decide) (by decide))]; rfl
theorem calm_m {X : List Int} (h : cm.Calm X) : -1 ∈ X := by
 obtain ⟨h1, h2⟩ := h
 have h3 := h2 0 (by decide)
 simp [cm, Pb.slackX, Pb.total, Pb.part, nth, List.range_succ] at h1 h3
 refine valX_pos.1 ?_
 rcases valX_cases X (-1) with e | e | e
 ·omega
 ·rw [e] at h1 h3; simp at h3
 ·rw [e] at h1; simp at h1
theorem calm_12 {X : List Int} (h : c12.Calm X) (hm : -1 ∈ X) (hX : okX X) : 2 ∈ X := by
 obtain ⟨h1, h2⟩ := h
 have h3 := h2 1 (by decide)
 have hv : valX X 1 = -1 := by
  have h4 : (1 : Int) ∉ X := fun h => hX 1 h hm
  unfold valX
  rw [if_neg h4, if_pos hm]
 simp [c12, Pb.slackX, Pb.total, Pb.part, nth, List.range_succ, hv] at h1 h3
 refine valX_pos.1 ?_
 rcases valX_cases X 2 with e | e | e
 ·omega
 ·rw [e] at h1 h3; simp at h3
 ·rw [e] at h1; simp at h1
theorem hold_two (s : Int → Bool) : (Hold s [c12, cm] ↔ s 1 = false ∧ s 2 = true) ∧ ¬ Hold s [c12, c1m, cm2, cmm] := by
 unfold Hold
 cases h1 : s 1 <;> cases h2 : s 2 <;> simp [c12, cm, c1m, cm2, cmm, Pb.total, Pb.part, nth, List.range_succ, tr, h1, h2]
theorem aw1 {G : List Pb} {log0 new : List Stp} {sat : Bool} {M co : List Int} {e : Int} (hG : c12 ∈ G ∧ cm ∈ G) (h : Nilled 3 [c12, cm] G [] log0 10 new sat M co e) : e = 0 ∧ sat = true ∧ M.length = 3 ∧ nth M 0 = -1 ∧ nth M 1 = 1 := by
 cases h with
 | sat X hX hn ha hall hcal =>
  have hm := calm_m (hcal cm (by simp))
  have h2 := calm_12 (hcal c12 (by simp)) hm hX
  refine ⟨rfl, rfl, asgX_len _ _, ?_, ?_⟩
  ·rw [asgX_nth X (by omega)]
   have h4 : (1 : Int) ∉ X := fun h => hX 1 h hm
   unfold valX
   rw [if_neg (by simpa using h4), if_pos (by simpa using hm)]
  ·rw [asgX_nth X (by omega)]
   unfold valX
   rw [if_pos (by simpa using h2)]
 | unsat co hs hno n0 hn hr =>
  obtain rfl := List.sublist_nil.1 hs
  exact absurd (fun x hx => by cases hx) (hno (fun v => v == 2) ((hold_two _).1.2 (by decide)))
 | many h =>
  have := h [3] ⟨by simp, fun X hX _ hc v h1 h2 => by
   have hm := calm_m (hc cm hG.2)
   have h3 := calm_12 (hc c12 hG.1) hm hX
   have h4 : v ≤ 3 := h2
   rcases (by omega : v = 1 ∨ v = 2 ∨ v = 3) with rfl | rfl | rfl
   ·exact .inr (.inl hm)
   ·exact .inl h3
   ·exact .inr (.inr (by simp))⟩
  simp at this
theorem sub_last {co : List Int} (h : List.Sublist co [3, -2]) (hm : -2 ∈ co) : co = [-2] ∨ co = [3, -2] := by
 cases h with
 | cons _ h =>
  cases h with
  | cons _ h => cases h; cases hm
  | cons_cons _ h => cases h; exact .inl rfl
 | cons_cons _ h =>
  cases h with
  | cons _ h => cases h; simp at hm
  | cons_cons _ h => cases h; exact .inr rfl
theorem aw2 {G : List Pb} {log0 new : List Stp} {sat : Bool} {M co : List Int} {e : Int} (hG : c12 ∈ G ∧ cm ∈ G) (h : Nilled 3 [c12, cm] G [3, -2] log0 10 new sat M co e) : e = 0 ∧ sat = false ∧ (co = [-2] ∨ co = [3, -2]) := by
 cases h with
 | sat X hX hn ha hall hcal =>
  have hm := calm_m (hcal cm (by simp))
  have h2 := calm_12 (hcal c12 (by simp)) hm hX
  exact absurd (ha (-2) (by simp)) (hX 2 h2)
 | unsat co hs hno n0 hn hr =>
  refine ⟨rfl, rfl, sub_last hs (Classical.byContradiction fun hne => ?_)⟩
  refine hno (fun v => v == 2 || v == 3) ((hold_two _).1.2 (by decide)) fun x hx => ?_
  have := hs.subset hx
  simp at this
  rcases this with rfl | rfl
  ·decide
  ·exact absurd hx hne
 | many h =>
  have := h [3] ⟨by simp, fun X hX _ hc v h1 h2 => by
   have hm := calm_m (hc cm hG.2)
   have h3 := calm_12 (hc c12 hG.1) hm hX
   have h4 : v ≤ 3 := h2
   rcases (by omega : v = 1 ∨ v = 2 ∨ v = 3) with rfl | rfl | rfl
   ·exact .inr (.inl hm)
   ·exact .inl h3
   ·exact .inr (.inr (by simp))⟩
  simp at this
theorem aw3 {G : List Pb} {log0 new : List Stp} {sat : Bool} {M co : List Int} {e : Int} (h : Nilled 2 [c12, c1m, cm2, cmm] G [] log0 10 new sat M co e) : e = 0 ∧ sat = false ∧ co = [] ∧ ∃ n0, new = n0 ++ [⟨1, c00, []⟩] := by
 cases h with
 | sat X hX hn ha hall hcal =>
  have hok : OkN 2 [c12, c1m, cm2, cmm] := fun p hp => by
   simp at hp
   rcases hp with rfl | rfl | rfl | rfl <;> exact fitsB_iff.1 (by decide +kernel)
  exact absurd (sat_hold hX hn hall hok hcal).2.2 (hold_two _).2
 | unsat co hs hno n0 hn hr =>
  obtain rfl := List.sublist_nil.1 hs
  refine ⟨rfl, rfl, rfl, n0, ?_⟩
  rw [hn, List.map_nil, cl_0]
 | many h =>
  have := h [1, 2] ⟨by simp, fun X hX _ hc v h1 h2 => by
   have h4 : v ≤ 2 := h2
   exact .inr (.inr (by simp; omega))⟩
  simp at this
end
section
open Go.RowKit
theorem PbRd.any {w : World} {F : Nat → Prop} {v : Value} {c : Pb} (h : PbRd w F v c) : PbRd w (fun _ => True) v c := h.mono fun _ _ _ => trivial
theorem i64_fits {n : Nat} {p : Pb} (h : fitsB n p = true) : ∀ k ∈ p.coefs, I64 k := (fitsB_iff.1 h).1.i64
theorem ps_four {W : World} {G : Nat → Prop} {Z : Nat} {x1 y1 x2 y2 x3 y3 x4 y4 : Value} {b1 b2 b3 b4 : Int} {p1 p2 p3 p4 : Pb} (k : W.heap[Z]? = some (.cells #[x1, y1, .int .i64 b1, x2, y2, .int .i64 b2, x3, y3, .int .i64 b3, x4, y4, .int .i64 b4] 41))
  (h1 : PbRd W G (agg3 (x1, y1, .int .i64 b1)) p1) (h2 : PbRd W G (agg3 (x2, y2, .int .i64 b2)) p2) (h3 : PbRd W G (agg3 (x3, y3, .int .i64 b3)) p3) (h4 : PbRd W G (agg3 (x4, y4, .int .i64 b4)) p4) :
  PsRd W (fun g => g = Z) G (some ⟨Z, 0, none⟩) 4 4 [p1, p2, p3, p4] := by
 refine ⟨[(x1, y1, .int .i64 b1), (x2, y2, .int .i64 b2), (x3, y3, .int .i64 b3), (x4, y4, .int .i64 b4)], ⟨rfl, _, _, rfl, Nat.le_refl _, by decide, fun _ => ⟨Z, 0, rfl, rfl, lt_of_block k, fun j u hj => ?_⟩⟩, ((((Ps.nil W G).snoc h1).snoc h2).snoc h3).snoc h4, rfl⟩
 rw [Nat.zero_add, cell_of_row _ _ _ _ _ _ k]
 rw [← hj]
 simp [flat3]
theorem awake32_any {w : World} : Calls Tryz.prog 18 #[] w fun r w' => r = .returned (.bool true) ∧ Below w.heap.size w w' := by
 go_enter Tryz.func18, Tryz.ntmps18
 go_wp2_with fail
 obtain ⟨X1, hX, bX, rX, sX⟩ := lit_step w [1, 2] (by decide) (by decide)
 rw [show w.alloc (.cells #[.int .i64 1, .int .i64 2] 3) = X1 from hX]
 skip
 refine (clause32_any rX (by simp [I64]) (by decide)).mono ?_
 rintro r w1 hgv
 rw [cl_12] at hgv
 obtain ⟨⟨A1, m1, d1, B1, q1, e1, rfl, hp1⟩, bb⟩ := hgv
 have bb := bX.trans (bb.mono bX.size)
 have HB := hid (bb)
 have P1 := hid hp1.any
 clear hX bX rX sX hp1 bb
 go_wp2_with fail
 obtain ⟨X2, hX, bX, rX, sX⟩ := lit_step w1 [-1] (by decide) (by decide)
 rw [show w1.alloc (.cells #[.int .i64 (-1)] 3) = X2 from hX]
 skip
 refine (clause32_any rX (by simp [I64]) (by decide)).mono ?_
 rintro r w2 hgv
 rw [cl_m] at hgv
 obtain ⟨⟨A2, m2, d2, B2, q2, e2, rfl, hp1⟩, bb⟩ := hgv
 have bb := bX.trans (bb.mono bX.size)
 have HB := hid (HB.o.trans (bb.mono HB.o.size))
 have P1 := hid (P1.o.below bb)
 have P2 := hid hp1.any
 clear hX bX rX sX hp1 bb
 go_wp2_with fail
 obtain ⟨Y, hY, bY, kY, sY⟩ := alloc_step w2 (.cells #[.slice A1 m1 d1, .slice B1 q1 e1, .int .i64 c12.bound, .slice A2 m2 d2, .slice B2 q2 e2, .int .i64 cm.bound] 41)
 rw [hY]
 have hld := loaded32_any (n := 3) (ps_two kY (P1.o.below bY) (P2.o.below bY)) (fun p hp => by simp at hp; rcases hp with rfl | rfl <;> exact i64_fits (n := 3) (by decide +kernel)) (fun p hp => by simp at hp; rcases hp with rfl | rfl <;> decide +kernel) (by omega) (by omega)
 rw [show ((3 : Nat) : Int) = 3 from rfl] at hld
 refine hld.mono ?_
 rintro r w3 ⟨⟨sb3, rfl, tb3, eb3, ob3, pm3, S3, h1, h2, h3, h4⟩, b1⟩
 have bb := bY.trans (b1.mono bY.size)
 have hy := bY.size
 have hz := b1.size
 have hw := HB.o.size
 have hld9 := Nat.le_trans hy hz
 have HB := hid (HB.o.trans (bb.mono HB.o.size))
 have H := hid (show SolP w3 (fun g => w2.heap.size ≤ g) sb3 tb3 eb3 ob3 pm3 S3 from h1.mono fun g hg => Nat.le_trans hy hg)
 have HK := hid (show Kept 3 [c12, cm] S3 from Kept.start h2 h3 h4 fun p hp => fitsB_iff.1 (by simp at hp; rcases hp with rfl | rfl <;> decide +kernel))
 have Hcs := hid h3
 have Hlg := hid h4
 have hwz : w.heap.size ≤ w2.heap.size := hw
 clear hY bY kY sY h1 h2 h3 h4 b1 bb hld hy hz hw P1 P2
 have hwa := hwz
 clear hwz
 go_wp2_with fail
 have hsv := ssolve_nil (most := 10) (n := 3) (asm := []) H.o HK.o (Rd.empty _ (fun _ => False) none) (fun g hg => hg.elim) (fun x hx => by cases hx) (by decide) (by omega) (by omega) (by rw [Hcs.o]; decide) (by rw [Hlg.o]; decide)
 rw [show ((10 : Nat) : Int) = 10 from rfl] at hsv
 refine hsv.mono ?_
 rintro r w4 ⟨⟨sat, U1, u1, v1, U2, u2, v2, ez, rfl, T4, F4, new4, M, co, hni, hk, hlog, hcs, hnw, h1, hF, hM, hco⟩, m1⟩
 obtain ⟨rfl, rfl, hM3, hMa, hMb⟩ := aw1 (by rw [Hcs.o]; simp) hni
 have s1 := m1.size
 have HB4 := hid (below_mod HB.o HB.o.size m1 fun g hg => Nat.le_trans hwa hg)
 obtain rfl : u1 = 3 := by have := hM.1; rw [i8s_length] at this; omega
 have hca : (3 : Int) ≤ (v1 : Int) := by
  obtain ⟨_, A9, c9, hv9, h9, _⟩ := hM
  injection hv9 with _ _ h9'
  omega
 obtain ⟨gm, om, rfl, _, _, em0⟩ := hM.cell8.2 0 (by omega)
 obtain ⟨_, _, hem, hgm, hgl, em1⟩ := hM.cell8.2 1 (by omega)
 injection hem with hem; injection hem with hem hem2
 subst hem; subst hem2
 rw [hMa] at em0
 rw [hMb] at em1
 have hw3 := HB.o.size
 have hF4 := hid (show ∀ g, F4 g → g < w4.heap.size ∧ w.heap.size ≤ g from fun g hg => ⟨(hF g hg).1, (hF g hg).2.elim (fun h => Nat.le_trans hwa h) fun h => by omega⟩)
 have hln4 : Hid (T4.E.cs.length ≤ 20000 ∧ T4.log.length ≤ 20000) := hid (by rw [hcs, hlog, Hcs.o, Hlg.o, List.length_append, List.length_map]; have h27 : new4.length ≤ 27 := hnw.len; simp; omega)
 have hsub : Hid (c12 ∈ T4.E.cs ∧ cm ∈ T4.E.cs) := hid ⟨hk.sub _ (by simp), hk.sub _ (by simp)⟩
 obtain ⟨X5, hX, bX, kX, sX⟩ := alloc_step w4 (.cells #[.bool true, .slice (some ⟨gm, om, none⟩) 3 v1, .slice U2 u2 v2] 35)
 have HX5 := hid hX
 have H5 := hid (h1.below bX)
 have HK5 := hid hk
 have KR := hid kX
 have EM := hid (show X5.cell? ⟨gm, om + 0, none⟩ = some (.int .i8 (-1)) ∧ X5.cell? ⟨gm, om + 1, none⟩ = some (.int .i8 1) from ⟨(World.cell?_of_block (bX.block gm hgl)).trans em0, (World.cell?_of_block (bX.block gm hgl)).trans em1⟩)
 have hgF := hid hgm.2
 have B5 := hid (HB4.o.trans (bX.mono HB4.o.size))
 obtain ⟨zr, hzr⟩ : ∃ z, w4.heap.size = z := ⟨_, rfl⟩
 rw [hzr] at sX hgl hF4 KR
 have HF4 := hid hF4.o
 have hs4 := HB4.o.size
 have Hzr := hid hzr
 obtain ⟨t0, t1, t2⟩ := box3 KR.o
 rw [← hX] at t0 t1 t2
 clear hX bX kX h1 hk hlog hcs hnw hF hM hco m1 hni hgm em0 em1 hF4 H HK HB HB4 Hcs Hlg hsv
 go_wp2_with fail
 try rw [hzr]
 rw [HX5.o] at t0 t1 t2 ⊢
 clear t0 t1 t2
 go_wp2_with fail
 obtain ⟨X6, hX, bX, rX, sX6⟩ := lit_step X5 [3, -2] (by decide) (by decide)
 rw [show X5.alloc (.cells #[.int .i64 3, .int .i64 (-2)] 3) = X6 from hX]
 have rX : Rd X6 (fun g => g = X5.heap.size) 1 (.slice (some ⟨X5.heap.size, 0, none⟩) 2 2) 2 (ints [3, -2]) := rX
 rw [sX] at rX
 have hsv := ssolve_nil (most := 10) (n := 3) (asm := [3, -2]) (H5.o.below bX) HK5.o rX (fun g hg hf => by have := (HF4.o g hf).1; omega) (by simp) (by decide) (by omega) (by omega) (by have := hln4.o.1; omega) (by have := hln4.o.2; omega)
 rw [show ((10 : Nat) : Int) = 10 from rfl] at hsv
 refine hsv.mono ?_
 rintro r w7 ⟨⟨sat, U3, u3, v3, U4, u4, v4, ez, rfl, T7, F7, new7, M7, co, hni, hk, hlog, hcs, hnw, h1, hF, hM, hco⟩, m1⟩
 obtain ⟨rfl, rfl, hc2⟩ := aw2 hsub.o hni
 have s7 := m1.size
 have KR := hid ((m1.block zr (by omega) fun e => by have := (HF4.o zr e).1; omega).trans ((bX.block zr (by omega)).trans KR.o))
 have EM := hid (show w7.cell? ⟨gm, om + 0, none⟩ = some (.int .i8 (-1)) ∧ w7.cell? ⟨gm, om + 1, none⟩ = some (.int .i8 1) from ⟨(World.cell?_of_block (m1.block gm (by omega) fun e => hgF.o e)).trans ((World.cell?_of_block (bX.block gm (by omega))).trans EM.o.1), (World.cell?_of_block (m1.block gm (by omega) fun e => hgF.o e)).trans ((World.cell?_of_block (bX.block gm (by omega))).trans EM.o.2)⟩)
 have B7 := hid (below_mod (B5.o.trans (bX.mono B5.o.size)) (by omega) m1 fun g hg => (HF4.o g hg).2)
 obtain ⟨k4, hk4, hk1, hk2, g4, o4, rfl, hg4, e4⟩ : ∃ k4 : Nat, u4 = k4 + 1 ∧ k4 ≤ 1 ∧ (k4 : Int) + 1 ≤ (v4 : Int) ∧ ∃ g4 o4, U4 = some ⟨g4, o4, none⟩ ∧ g4 < w7.heap.size ∧ w7.cell? ⟨g4, o4 + k4, none⟩ = some (.int .i64 (-2)) := by
  have hl := hco.cell.1
  have hcp : (u4 : Int) ≤ (v4 : Int) := by
   obtain ⟨_, A9, c9, hv9, h9, _⟩ := hco
   injection hv9 with _ _ h9'
   omega
  rcases hc2 with rfl | rfl
  ·obtain ⟨g4, o4, h6, _, h7, h8⟩ := hco.cell.2 0 (by simp at hl; omega)
   exact ⟨0, by simp at hl; omega, by omega, by simp at hl; omega, g4, o4, h6, h7, h8⟩
  ·obtain ⟨g4, o4, h6, _, h7, h8⟩ := hco.cell.2 1 (by simp at hl; omega)
   exact ⟨1, by simp at hl; omega, by omega, by simp at hl; omega, g4, o4, h6, h7, h8⟩
 subst hk4
 obtain ⟨X8, hX8, bX8, kX8, sX8⟩ := alloc_step w7 (.cells #[.bool false, .slice U3 u3 v3, .slice (some ⟨g4, o4, none⟩) (k4 + 1) v4] 35)
 have HX8 := hid hX8
 obtain ⟨zq, hzq⟩ : ∃ z, w7.heap.size = z := ⟨_, rfl⟩
 have KQ := hid kX8
 rw [hzq] at KQ sX8 hg4
 have KR := hid (keep_blk KR.o bX8)
 have EM := hid (show X8.cell? ⟨gm, om + 0, none⟩ = some (.int .i8 (-1)) ∧ X8.cell? ⟨gm, om + 1, none⟩ = some (.int .i8 1) from ⟨(World.cell?_of_block (bX8.block gm (by omega))).trans EM.o.1, (World.cell?_of_block (bX8.block gm (by omega))).trans EM.o.2⟩)
 have E4 := hid ((World.cell?_of_block (bX8.block g4 (by omega))).trans e4)
 have HB := hid (B7.o.trans (bX8.mono B7.o.size))
 obtain ⟨t0, t1, t2⟩ := box3 KQ.o
 rw [← hX8] at t0 t1 t2
 have HgM := hid (And.intro (show gm < X8.heap.size by omega) (show g4 < X8.heap.size by omega))
 have HsX8 := hid sX8
 clear sX8 hX bX rX hX8 bX8 kX8 h1 hk hlog hcs hnw hF hM hco m1 hni hc2 e4 H5 HK5 B5 B7 hsv hsub hln4
 go_wp2_with fail
 try rw [hzq]
 rw [HX8.o] at t0 t1 t2 ⊢
 clear t0 t1 t2
 skip
 go_wp2_with fail
 obtain ⟨X9, hX, bX, rX, sX⟩ := lit_step X8 [1, 2] (by decide) (by decide)
 rw [show X8.alloc (.cells #[.int .i64 1, .int .i64 2] 3) = X9 from hX]
 have rX : Rd X9 (fun g => g = X8.heap.size) 1 (.slice (some ⟨X8.heap.size, 0, none⟩) 2 2) 2 (ints [1, 2]) := rX
 rw [HsX8.o] at rX
 refine (clause32_any rX (by simp [I64]) (by decide)).mono ?_
 rintro r w9 hgv
 rw [cl_12] at hgv
 obtain ⟨⟨A9, m9, d9, B9, q9, e9, rfl, hp1⟩, bb⟩ := hgv
 have bb := bX.trans (bb.mono bX.size)
 have HB := hid (HB.o.trans (bb.mono HB.o.size))
 have KR := hid (keep_blk KR.o bb)
 have KQ := hid (keep_blk KQ.o bb)
 have EM := hid (And.intro ((World.cell?_of_block (bb.block gm HgM.o.1)).trans EM.o.1) ((World.cell?_of_block (bb.block gm HgM.o.1)).trans EM.o.2))
 have E4 := hid ((World.cell?_of_block (bb.block g4 HgM.o.2)).trans E4.o)
 have HgM := hid (And.intro (Nat.lt_of_lt_of_le HgM.o.1 bb.size) (Nat.lt_of_lt_of_le HgM.o.2 bb.size))
 have P9 := hid hp1.any
 clear hX bX rX sX hp1 bb
 go_wp2_with fail
 obtain ⟨X10, hX, bX, rX, sX⟩ := lit_step w9 [1, -2] (by decide) (by decide)
 rw [show w9.alloc (.cells #[.int .i64 1, .int .i64 (-2)] 3) = X10 from hX]
 skip
 refine (clause32_any rX (by simp [I64]) (by decide)).mono ?_
 rintro r w10 hgv
 rw [cl_1m] at hgv
 obtain ⟨⟨A10, m10, d10, B10, q10, e10, rfl, hp1⟩, bb⟩ := hgv
 have bb := bX.trans (bb.mono bX.size)
 have HB := hid (HB.o.trans (bb.mono HB.o.size))
 have KR := hid (keep_blk KR.o bb)
 have KQ := hid (keep_blk KQ.o bb)
 have EM := hid (And.intro ((World.cell?_of_block (bb.block gm HgM.o.1)).trans EM.o.1) ((World.cell?_of_block (bb.block gm HgM.o.1)).trans EM.o.2))
 have E4 := hid ((World.cell?_of_block (bb.block g4 HgM.o.2)).trans E4.o)
 have HgM := hid (And.intro (Nat.lt_of_lt_of_le HgM.o.1 bb.size) (Nat.lt_of_lt_of_le HgM.o.2 bb.size))
 have P9 := hid (P9.o.below bb)
 have P10 := hid hp1.any
 clear hX bX rX sX hp1 bb
 go_wp2_with fail
 obtain ⟨X11, hX, bX, rX, sX⟩ := lit_step w10 [-1, 2] (by decide) (by decide)
 rw [show w10.alloc (.cells #[.int .i64 (-1), .int .i64 2] 3) = X11 from hX]
 skip
 refine (clause32_any rX (by simp [I64]) (by decide)).mono ?_
 rintro r w11 hgv
 rw [cl_m2] at hgv
 obtain ⟨⟨A11, m11, d11, B11, q11, e11, rfl, hp1⟩, bb⟩ := hgv
 have bb := bX.trans (bb.mono bX.size)
 have HB := hid (HB.o.trans (bb.mono HB.o.size))
 have KR := hid (keep_blk KR.o bb)
 have KQ := hid (keep_blk KQ.o bb)
 have EM := hid (And.intro ((World.cell?_of_block (bb.block gm HgM.o.1)).trans EM.o.1) ((World.cell?_of_block (bb.block gm HgM.o.1)).trans EM.o.2))
 have E4 := hid ((World.cell?_of_block (bb.block g4 HgM.o.2)).trans E4.o)
 have HgM := hid (And.intro (Nat.lt_of_lt_of_le HgM.o.1 bb.size) (Nat.lt_of_lt_of_le HgM.o.2 bb.size))
 have P9 := hid (P9.o.below bb)
 have P10 := hid (P10.o.below bb)
 have P11 := hid hp1.any
 clear hX bX rX sX hp1 bb
 go_wp2_with fail
 obtain ⟨X12, hX, bX, rX, sX⟩ := lit_step w11 [-1, -2] (by decide) (by decide)
 rw [show w11.alloc (.cells #[.int .i64 (-1), .int .i64 (-2)] 3) = X12 from hX]
 skip
 refine (clause32_any rX (by simp [I64]) (by decide)).mono ?_
 rintro r w12 hgv
 rw [cl_mm] at hgv
 obtain ⟨⟨A12, m12, d12, B12, q12, e12, rfl, hp1⟩, bb⟩ := hgv
 have bb := bX.trans (bb.mono bX.size)
 have HB := hid (HB.o.trans (bb.mono HB.o.size))
 have KR := hid (keep_blk KR.o bb)
 have KQ := hid (keep_blk KQ.o bb)
 have EM := hid (And.intro ((World.cell?_of_block (bb.block gm HgM.o.1)).trans EM.o.1) ((World.cell?_of_block (bb.block gm HgM.o.1)).trans EM.o.2))
 have E4 := hid ((World.cell?_of_block (bb.block g4 HgM.o.2)).trans E4.o)
 have HgM := hid (And.intro (Nat.lt_of_lt_of_le HgM.o.1 bb.size) (Nat.lt_of_lt_of_le HgM.o.2 bb.size))
 have P9 := hid (P9.o.below bb)
 have P10 := hid (P10.o.below bb)
 have P11 := hid (P11.o.below bb)
 have P12 := hid hp1.any
 clear hX bX rX sX hp1 bb
 have hlo := And.intro (lt_of_block KR.o) (And.intro (lt_of_block KQ.o) HgM.o)
 go_wp2_with fail
 obtain ⟨Y, hY, bY, kY, sY⟩ := alloc_step w12 (.cells #[.slice A9 m9 d9, .slice B9 q9 e9, .int .i64 c12.bound, .slice A10 m10 d10, .slice B10 q10 e10, .int .i64 c1m.bound, .slice A11 m11 d11, .slice B11 q11 e11, .int .i64 cm2.bound, .slice A12 m12 d12, .slice B12 q12 e12, .int .i64 cmm.bound] 41)
 rw [hY]
 have hld := loaded32_any (n := 2) (ps_four kY (P9.o.below bY) (P10.o.below bY) (P11.o.below bY) (P12.o.below bY)) (fun p hp => by simp at hp; rcases hp with rfl | rfl | rfl | rfl <;> exact i64_fits (n := 2) (by decide +kernel)) (fun p hp => by simp at hp; rcases hp with rfl | rfl | rfl | rfl <;> decide +kernel) (by omega) (by omega)
 rw [show ((2 : Nat) : Int) = 2 from rfl] at hld
 refine hld.mono ?_
 rintro r w13 ⟨⟨sb13, rfl, tb13, eb13, ob13, pm13, S13, h1, h2, h3, h4⟩, b1⟩
 have bb := bY.trans (b1.mono bY.size)
 have hy := bY.size
 have hz := b1.size
 have hw := HB.o.size
 have hld9 := Nat.le_trans hy hz
 have HB := hid (HB.o.trans (bb.mono HB.o.size))
 have KR := hid (keep_blk KR.o bb)
 have KQ := hid (keep_blk KQ.o bb)
 have EM := hid (And.intro ((World.cell?_of_block (bb.block gm HgM.o.1)).trans EM.o.1) ((World.cell?_of_block (bb.block gm HgM.o.1)).trans EM.o.2))
 have E4 := hid ((World.cell?_of_block (bb.block g4 HgM.o.2)).trans E4.o)
 have HgM := hid (And.intro (Nat.lt_of_lt_of_le HgM.o.1 bb.size) (Nat.lt_of_lt_of_le HgM.o.2 bb.size))
 have H := hid (show SolP w13 (fun g => w12.heap.size ≤ g) sb13 tb13 eb13 ob13 pm13 S13 from h1.mono fun g hg => Nat.le_trans hy hg)
 have HK := hid (show Kept 2 [c12, c1m, cm2, cmm] S13 from Kept.start h2 h3 h4 fun p hp => fitsB_iff.1 (by simp at hp; rcases hp with rfl | rfl | rfl | rfl <;> decide +kernel))
 have Hcs := hid h3
 have Hlg := hid h4
 have hwz : w.heap.size ≤ w12.heap.size := hw
 clear hY bY kY sY h1 h2 h3 h4 b1 bb hld hy hz hw P9 P10 P11 P12
 go_wp2_with fail
 have hsv := ssolve_nil (most := 10) (n := 2) (asm := []) H.o HK.o (Rd.empty _ (fun _ => False) none) (fun g hg => hg.elim) (fun x hx => by cases hx) (by decide) (by omega) (by omega) (by rw [Hcs.o]; decide) (by rw [Hlg.o]; decide)
 rw [show ((10 : Nat) : Int) = 10 from rfl] at hsv
 refine hsv.mono ?_
 rintro r wa ⟨⟨sat, U5, u5, v5, U6, u6, v6, ez, rfl, Ta, Fa, newa, Ma, co, hni, hk, hlog, hcs, hnw, h1, hF, hM, hco⟩, m1⟩
 obtain ⟨rfl, rfl, rfl, n0, hnew⟩ := aw3 hni
 obtain rfl : u6 = 0 := by have := hco.cell.1; simpa using this.symm
 have sa := m1.size
 have hlt := HB.o.size
 have hbl : ∀ q, q < w12.heap.size → wa.heap[q]? = w13.heap[q]? := fun q hq => m1.block q (Nat.lt_of_lt_of_le hq hld9) fun e => by
  have e : w12.heap.size ≤ q := e
  omega
 have KR := hid ((hbl zr hlo.1).trans KR.o)
 have KQ := hid ((hbl zq hlo.2.1).trans KQ.o)
 have EM := hid (And.intro ((World.cell?_of_block (hbl gm hlo.2.2.1)).trans EM.o.1) ((World.cell?_of_block (hbl gm hlo.2.2.1)).trans EM.o.2))
 have E4 := hid ((World.cell?_of_block (hbl g4 hlo.2.2.2)).trans E4.o)
 have HB := hid (below_mod HB.o HB.o.size m1 fun g hg => Nat.le_trans hwz hg)
 have hla : Ta.log = n0 ++ [⟨1, c00, []⟩] := by rw [hlog, Hlg.o, hnew]; rfl
 have hln : Ta.log.length = n0.length + 1 := by rw [hla]; simp
 have hn9 : newa.length ≤ 9 := hnw.len
 have hn8 : n0.length ≤ 8 := by rw [hnew] at hn9; simp at hn9; omega
 obtain ⟨Xb, hX, bX, kX, sX⟩ := alloc_step wa (.cells #[.bool false, .slice U5 u5 v5, .slice U6 0 v6] 35)
 have HXb := hid hX
 obtain ⟨zx, hzx⟩ : ∃ z, wa.heap.size = z := ⟨_, rfl⟩
 have KX := hid kX
 rw [hzx] at KX
 have KR := hid (keep_blk KR.o bX)
 have KQ := hid (keep_blk KQ.o bX)
 have hgw := And.intro (Nat.lt_of_lt_of_le hlo.2.2.1 (Nat.le_trans hld9 sa)) (Nat.lt_of_lt_of_le hlo.2.2.2 (Nat.le_trans hld9 sa))
 have EM := hid (And.intro ((World.cell?_of_block (bX.block gm hgw.1)).trans EM.o.1) ((World.cell?_of_block (bX.block gm hgw.1)).trans EM.o.2))
 have E4 := hid ((World.cell?_of_block (bX.block g4 hgw.2)).trans E4.o)
 have HB := hid (HB.o.trans (bX.mono HB.o.size))
 have H := hid (h1.below bX)
 have HKb := hid hk
 have Hla := hid hla
 have Hln := hid hln
 obtain ⟨t0, t1, t2⟩ := box3 KX.o
 rw [← hX] at t0 t1 t2
 have hgm9 := And.intro (Nat.lt_of_lt_of_le hgw.1 bX.size) (Nat.lt_of_lt_of_le hgw.2 bX.size)
 clear sX hX bX kX h1 hk hlog hcs hnw hF hM hco m1 hni hla hln hn9 hnew hsv HK Hcs Hlg hbl
 go_wp2_with fail
 try rw [hzx]
 rw [HXb.o] at t0 t1 t2 ⊢
 clear t0 t1 t2
 go_wp2_with fail
 refine (slog_any H.o HKb.o.size (by rw [Hln.o]; omega)).mono ?_
 rintro r wb ⟨⟨A9, c9, rfl, hst⟩, b9⟩
 have hcp : ((n0.length + 1 : Nat) : Int) ≤ (c9 : Int) := by
  obtain ⟨_, ⟨_, A8, c8, hv8, h8, _⟩, _⟩ := hst
  injection hv8 with _ hq8 h8'
  have := Hln.o
  omega
 rw [Hln.o] at hst ⊢
 obtain ⟨g9, o9, s9, t9, rfl, _, _, hs9, hst9, hce⟩ := hst.cells (i := n0.length) (by omega)
 have hs9' : s9 = ⟨1, c00, []⟩ := by
  rw [Hla.o, List.getElem?_append_right (Nat.le_refl _)] at hs9
  simpa using hs9.symm
 subst hs9'
 obtain ⟨A1, n1, d1, B1, m1, e1, C1, f1, rfl, hpb, hset⟩ := hst9
 have l0 := hce 0 _ rfl
 have l1 := hce 1 _ rfl
 have l2 := hce 2 _ rfl
 have l3 := hce 3 _ rfl
 rw [Nat.add_zero] at l0
 have KR := keep_blk KR.o b9
 have KQ := keep_blk KQ.o b9
 have KX := keep_blk KX.o b9
 have em0 := (World.cell?_of_block (b9.block gm hgm9.1)).trans EM.o.1
 have em1 := (World.cell?_of_block (b9.block gm hgm9.1)).trans EM.o.2
 have e4 := (World.cell?_of_block (b9.block g4 hgm9.2)).trans E4.o
 rw [Nat.add_zero] at em0
 obtain ⟨t0, t1, t2⟩ := box3 KR
 obtain ⟨y0, y1, y2⟩ := box3 KQ
 obtain ⟨x0, x1, x2⟩ := box3 KX
 have HPB := hid hpb
 have B9 := hid (HB.o.trans (b9.mono HB.o.size))
 have hbd : (Stp.mk 1 c00 []).c.bound = 1 := rfl
 rw [hbd] at l3
 clear hst hce hpb hset b9 KR KQ KX EM E4 H HKb HB hs9 Hla
 go_wp2_with fail
 have hpd : PbRd wb (fun _ => True) (.agg #[.slice none 0 0, .slice none 0 0, .int .i64 1]) c00 := ⟨⟨none, 0, 0, none, 0, 0, rfl, Rd.empty _ _ _, Rd.empty _ _ _⟩, by unfold I64 c00; decide⟩
 refine (equal_any HPB.o hpd).mono ?_
 rintro r wc ⟨rfl, bc⟩
 have B := hid (B9.o.trans (bc.mono B9.o.size))
 rw [show Pb.same c00 c00 = true from by decide]
 go_wp2_with fail
 go_ret
 exact ⟨rfl, B.o⟩
end
end Go.Proofs.YtcjmpobccbnpkaaGreat
