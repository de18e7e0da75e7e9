/-
 Chapter 32: several texts in one (SfA).
-/
import Derived.Test.YtcjmpobccbnpkaaGreatMjbn
import Derived.Test.YtcjmpobccbnpkaaGreatMjai
import Derived.Test.YtcjmpobccbnpkaaGreatTk
import Derived.Test.YtcjmpobccbnpkaaGreatTkU
namespace Go.Proofs.YtcjmpobccbnpkaaGreat
set_option maxRecDepth 100000
set_option maxHeartbeats 8000000
section
open Go.RowKit
theorem i8s_one (xs : List Int) : ∀ u ∈ i8s xs, u.oneCell' = true := by
 intro u hu
 obtain ⟨x, _, rfl⟩ := List.mem_map.1 hu
 rfl
set_option maxHeartbeats 400000 in
theorem clone8_any {w : World} {F : Nat → Prop} {v : Value} {n : Nat} {xs : List Int} (hv : Rd w F 1 v n (i8s xs)) (hn : n ≤ 17592186044416) :
  Calls Tryz.prog 40 #[v] w fun r w' => (∃ A c, r = .returned (.slice A n c) ∧ Own w' (fun b => w.heap.size ≤ b) 70 1 (.slice A n c) n (i8s xs)) ∧ Below w.heap.size w w' := by
 have hv0 := hv
 obtain ⟨hl, A, c, rfl, hc, hm, hA⟩ := hv
 cases A with
 | none =>
  have hn0 : n = 0 := by
   rcases Nat.eq_zero_or_pos n with h | h
   ·exact h
   ·obtain ⟨_, _, h, _⟩ := hA h; cases h
  subst hn0
  have hx : i8s xs = [] := List.eq_nil_of_length_eq_zero (by simpa using hl)
  rw [hx]
  clear hA hl hx hv0
  go_enter Tryz.func40, Tryz.ntmps40
  go_wp2
  go_ret
  exact ⟨⟨_, _, rfl, Own.nil _ _ _ _⟩, Below.refl _ _⟩
 | some a =>
  clear hA
  have Hv := hid hv0
  have Hl := hid hl
  clear hv0 hl
  go_enter Tryz.func40, Tryz.ntmps40
  go_wp2_with (at_builtin; refine wpList_append_i8s rfl _ _ rfl (Own.none_ _ (fun _ => False) _ _ _) (Hv.o.below ((Below.refl _ _).alloc (Nat.le_refl _) _)) rfl rfl (i8s_one xs) (by omega) ?_; intro A1 c1 w1 ho1 hm1 hr1)
  go_ret
  rw [row_none] at hm1
  simp only [Nat.zero_add, List.nil_append] at ho1 ⊢
  exact ⟨⟨_, _, rfl, ho1.mono fun g _ _ h => by
   rcases h with h | h
   ·exact h.elim
   ·simp at h; omega⟩, ((Below.refl _ _).alloc (Nat.le_refl _) _).trans (hm1.below.mono (by simp))⟩
theorem luby_le {n : Nat} (h1 : 1 ≤ n) (h2 : n < 9223372036854775808) : 1 ≤ luby n ∧ luby n ≤ n := by
 induction n using Nat.strongRecOn with
 | _ n ih =>
  obtain ⟨t1, t2, _, _⟩ := top_spec h1 h2
  by_cases e : n + 1 = 2 * top n
  ·rw [luby_eq h1 h2 e]
   omega
  ·rw [luby_next h1 h2 e]
   have := ih (n + 1 - top n) (by omega) (by omega) (by omega)
   omega
structure Base (n : Nat) (S : Sol) : Prop where
 sv : S.vars = n
 ev : S.E.vars = n
 tv : S.T.vars = n
 srch : ∃ asm G, Srch asm G S.E.cs S.T
structure Left (a : Ask) (k : Nat) (new : List Stp) (S : Sol) : Prop where
 log : S.log = a.log ++ new
 cs : S.E.cs = a.G ++ new.map Stp.c
 grew : Grew a k new
 len : ∀ vs, Open a vs → new.length ≤ 3 ^ vs.length + a.Hs.length
 most : new.length ≤ a.most + 1
inductive Solved (a : Ask) (z : Lazy) (i0 : Nat) (S : Sol) (k i : Nat) (new : List Stp) : Bool → List Int → List Int → Int → Prop
 | sat (hi : i = i0 + k) (X : List Int) (hX : okX X) (hb : smX X) (hn : ∀ l ∈ X, l ≠ 0 ∧ l.natAbs ≤ a.n) (ha : ∀ x ∈ a.asm, x ∈ X) (hall : ∀ y : Nat, 1 ≤ y → y ≤ a.n → valX X y ≠ 0) (hcal : ∀ p ∈ S.E.cs, p.Calm X) (hz : z.R X none) : Solved a z i0 S k i new true (asgX a.n X) [] 0
 | unsat (hi : i = i0 + k) (co : List Int) (hs : List.Sublist co a.asm) (n0 : List Stp) (hn : new = n0 ++ [⟨1, (clauseB (co.map fun l => -l)).1, []⟩]) (hr : RupX (a.G ++ n0.map Stp.c) (co.map fun l => -l)) : Solved a z i0 S k i new false [] co 0
 | many (h : ∀ vs, Open a vs → a.most < 3 ^ vs.length + a.Hs.length) : Solved a z i0 S k i new false [] [] 5
 | arg (X : List Int) (s : Stp) (hs : z.R X (some s)) (hn : fitsB a.n s.c = false) : Solved a z i0 S k i new false [] [] 2
theorem Run.left {a : Ask} {S : Sol} {l k : Nat} (h : Run a S.E.cs S.log S.T l k) : ∃ new, Left a k new S := by
 obtain ⟨Ls, Zs, new, h⟩ := h
 refine ⟨new, h.llog, h.lcs, h.grew, fun vs ho => ?_, ?_⟩
 ·have h0 := Run.few_l (a := a) (cs := S.E.cs) (log := S.log) (T := S.T) (left := l) (k := k) ⟨Ls, Zs, new, h⟩ ho
  have h1 := h.len
  have h2 := h.count
  omega
 ·have h1 := h.len
  have h2 := h.count
  omega
theorem Run.base {a : Ask} {S : Sol} {l k : Nat} (h : Run a S.E.cs S.log S.T l k) (hf : Fixed a S) : Base a.n S := by
 obtain ⟨Ls, hs⟩ := h.srch
 exact ⟨hf.sv, hf.ev, h.vars, _, _, hs⟩
theorem back_zero (T : Tr) : (T.back 0).starts = [] := by
 have := back_depth (T := T) (K := 0) (Nat.zero_le _)
 exact List.eq_nil_of_length_eq_zero this
theorem back_back (T : Tr) : (T.back 0).back 0 = T.back 0 := by
 have h := back_zero T
 generalize T.back 0 = T' at h
 unfold Tr.back
 rw [if_neg (by rw [h]; simp)]
theorem Run.shut {a : Ask} {S : Sol} {l k : Nat} (h : Run a S.E.cs S.log S.T l k) (hf : Fixed a S) {ls : List Int} (hl : ∀ x ∈ ls, litB x = true ∧ x.natAbs ≤ a.n) (hn : ls.length ≤ 8) (hr : RupX S.E.cs ls) :
  ∃ n0, S.E.cs = a.G ++ n0.map Stp.c ∧ Left a k (n0 ++ [⟨1, (clauseB ls).1, []⟩]) ⟨S.vars, S.T.back 0, S.E.add (clauseB ls).1, S.log ++ [⟨1, (clauseB ls).1, []⟩]⟩ ∧ Base a.n ⟨S.vars, S.T.back 0, S.E.add (clauseB ls).1, S.log ++ [⟨1, (clauseB ls).1, []⟩]⟩ := by
 have hok : (clauseB ls).1.Ok := clause_ok (fun x hx => (hl x hx).1) hn
 have hlit : ∀ l ∈ (clauseB ls).1.lits, l.natAbs ≤ a.n := fun l hl' => by
  obtain ⟨x, hx, e⟩ := newPb_lits l hl'
  rw [← e]
  exact (hl x hx).2
 obtain ⟨Ls, Zs, new, h0⟩ := h
 refine ⟨new, h0.lcs, ⟨by show S.log ++ _ = _; rw [h0.llog, List.append_assoc], by show S.E.cs ++ [_] = _; rw [List.map_append, ← List.append_assoc, ← h0.lcs]; rfl, ?_, fun vs ho => ?_, ?_⟩, hf.sv, hf.ev, (Tr.back_vars _ _).trans h0.vars, a.asm, a.G ++ Ls, ?_⟩
 ·have hg := h0.grew.snoc (s := ⟨1, (clauseB ls).1, []⟩) (.inl ⟨rfl, rfl, ls, rfl, hl, hn, by rw [← h0.lcs]; exact hr⟩)
  rw [if_neg (by show ¬ (1 : Nat) = 3; omega), Nat.add_zero] at hg
  exact hg
 ·have h1 := Run.few_l (a := a) (cs := S.E.cs) (log := S.log) (T := S.T) (left := l) (k := k) ⟨Ls, Zs, new, h0⟩ ho
  have h2 := h0.len
  have h3 := h0.count
  rw [List.length_append, List.length_singleton]
  omega
 ·have h2 := h0.len
  have h3 := h0.count
  rw [List.length_append, List.length_singleton]
  omega
 ·exact (h0.srch.back 0).add hok (by rw [Tr.back_vars, h0.vars]; exact hlit)
theorem fin_run {a : Ask} {S : Sol} {l k : Nat} (h : Run a S.E.cs S.log S.T l k) (hf : Fixed a S) : ∃ new, Left a k new ⟨S.vars, S.T.back 0, S.E, S.log⟩ ∧ Base a.n ⟨S.vars, S.T.back 0, S.E, S.log⟩ := by
 have h2 : Run a S.E.cs S.log (S.T.back 0) l k := h.move (fun G hG => hG.back 0) (Tr.back_vars _ _)
 obtain ⟨new, hl⟩ := Run.left (S := ⟨S.vars, S.T.back 0, S.E, S.log⟩) h2
 exact ⟨new, hl, Run.base (S := ⟨S.vars, S.T.back 0, S.E, S.log⟩) h2 ⟨hf.n8, hf.sv, hf.ev, hf.most, hf.gs, hf.ls⟩⟩
theorem sfit2_any {w : World} {sb vars zb : Nat} {l : Int} (cz : w.cell? ⟨zb, 0, none⟩ = some (.pointer (some ⟨sb, 0, none⟩))) (c0 : w.cell? ⟨sb, 0, none⟩ = some (.int .i64 vars)) (hv : vars ≤ 65536) :
  Calls Tryz.prog 35 #[.int .i64 l, .pointer (some ⟨zb, 0, none⟩)] w fun r w' => r = .returned (.bool (!(decide (l ≠ 0) && decide (l.natAbs ≤ vars)))) ∧ Below w.heap.size w w' := by
 go_enter Tryz.func35, Tryz.ntmps35
 go_wp2_with fail
 refine (sliteral_any c0 hv).mono ?_
 rintro r w1 ⟨rfl, b1⟩
 obtain ⟨q, hq⟩ : ∃ q, (decide (l ≠ 0) && decide (l.natAbs ≤ vars)) = q := ⟨_, rfl⟩
 rw [hq]
 go_wp2_with fail
 go_ret
 exact ⟨by rw [hq]; rfl, b1⟩
theorem wpList_build_run {w : World} {ops : Array Oper} {rest : List Oper} {o : Oper} {a : Act} {Q : Exit → Act → World → Prop} (hgd : o.guard = none) (p0 p1 p2 p3 : Operand) (ho : o.op = .build 79 #[(0, p0), (1, p1), (2, p2), (3, p3)])
  {ad : Addr} {A : Option Addr} {n c : Nat} {m : Int} {v : Value} (h0 : a.eval p0 = .pointer (some ad)) (h1 : a.eval p1 = .slice A n c) (h2 : a.eval p2 = .int .i64 m) (h3 : a.eval p3 = v) (hv : v = .nilFunc ∨ ∃ f x y, v = .func f x y)
  (hK : wpList Tryz.prog ops Q rest (a.put o.dst (.agg #[.pointer (some ad), .slice A n c, .int .i64 m, v])) w) : wpList Tryz.prog ops Q (o :: rest) a w := by
 refine wpList_plain hgd fun _ hK' => ?_
 have hr : (Instr.build 79 #[(0, .pointer (some ad)), (1, .slice A n c), (2, .int .i64 m), (3, v)]).run Tryz.prog w = .ok (.agg #[.pointer (some ad), .slice A n c, .int .i64 m, v]) w := by
  rcases hv with rfl | ⟨f, x, y, rfl⟩
  ·kernel_rfl
  ·kernel_rfl
 unfold Oper.wp execOp
 simp only [ho, Sem.run_bind, Sem.run_pure, Result.andThen_ok, List.map_toArray, List.map_cons, List.map_nil, h0, h1, h2, h3, hr]
 exact hK' _ _ hK
structure SolveW (B : Nat) (F P : Nat → Prop) (a : Ask) (z : Lazy) (i0 rb sb tb eb ob pm qb qr : Nat) (va : Value) (W0 W : World) (l : Nat) (F' : Nat → Prop) (S : Sol) (i k : Nat) : Prop where
 s : SolP W F' sb tb eb ob pm S
 f : ∀ g, F' g → g < W.heap.size ∧ (F g ∨ B ≤ g)
 r : RunAt W rb sb va z.v l
 sv : S.vars = a.n
 ev : S.E.vars = a.n
 run : Run a S.E.cs S.log (S.T.back 0) l k
 zi : z.I W i
 ik : i = i0 + k
 m : Mod (fun g => F g ∨ P g) W0 W
 bx : W.heap[qb]? = some (.cells #[.pointer (some ⟨sb, 0, none⟩)] 24)
 rs : W.heap[qr]? = some (.cells #[.bool false, .slice none 0 0, .slice none 0 0] 35)
 fn : ∀ g, F' g → g ≠ qb ∧ g ≠ qr ∧ g ≠ rb
theorem ssolve_any {w : World} {F Ga : Nat → Prop} {sb tb eb ob pm na ca most i0 n : Nat} {Aa : Option Addr} {asm : List Int} {Hs : List Pb} {Lz : Stp → Prop} {z : Lazy} {S : Sol} (h : SolP w F sb tb eb ob pm S)
  (hz : LazyOk ⟨asm, S.E.cs, S.log, n, most, Hs, Lz⟩ z) (hI : z.I w i0) (hP : ∀ g, z.P g → g < w.heap.size ∧ ¬ F g) (hasm : Rd w Ga 1 (.slice Aa na ca) na (ints asm)) (hGa : ∀ g, Ga g → ¬ F g ∧ ¬ z.P g) (hal : ∀ x ∈ asm, x ≠ 0 ∧ x.natAbs ≤ n) (hna : na ≤ 8)
  (hB : Base n S) (hn8 : n ≤ 8) (hmost : most ≤ 65536) (hG : S.E.cs.length ≤ 400000) (hL : S.log.length ≤ 400000) :
  Calls Tryz.prog 10 #[.pointer (some ⟨sb, 0, none⟩), .slice Aa na ca, .int .i64 most, z.v] w fun r w' => (∃ sat A1 n1 c1 A2 n2 c2 e, r = .returned (.tuple #[.agg #[.bool sat, .slice A1 n1 c1, .slice A2 n2 c2], .int .i64 e]) ∧ ∃ S' F' k i' new M co, Solved ⟨asm, S.E.cs, S.log, n, most, Hs, Lz⟩ z i0 S' k i' new sat M co e ∧
   Left ⟨asm, S.E.cs, S.log, n, most, Hs, Lz⟩ k new S' ∧ Base n S' ∧ SolP w' F' sb tb eb ob pm S' ∧ (∀ g, F' g → g < w'.heap.size ∧ (F g ∨ w.heap.size ≤ g)) ∧ Rd w' (fun g => w.heap.size ≤ g ∧ ¬ F' g) 1 (.slice A1 n1 c1) n1 (i8s M) ∧ Rd w' (fun g => w.heap.size ≤ g ∧ ¬ F' g) 1 (.slice A2 n2 c2) n2 (ints co) ∧ z.I w' i') ∧ Mod (fun g => F g ∨ z.P g) w w' := by
 obtain ⟨a, ha⟩ : ∃ a : Ask, a = ⟨asm, S.E.cs, S.log, n, most, Hs, Lz⟩ := ⟨_, rfl⟩
 rw [← ha] at hz ⊢
 have hae : a.asm = asm ∧ a.G = S.E.cs ∧ a.log = S.log ∧ a.n = n ∧ a.most = most := by rw [ha]; exact ⟨rfl, rfl, rfl, rfl, rfl⟩
 have hln : asm.length = na := by have := hasm.1; simpa [ints_length] using this
 obtain ⟨q0, hq0⟩ : ∃ q, w.heap.size = q := ⟨_, rfl⟩
 obtain ⟨X0, hX0, bX0, kX0, sX0⟩ := alloc_step w (.cells #[.pointer (some ⟨sb, 0, none⟩)] 24)
 obtain ⟨X1, hX1, bX1, kX1, sX1⟩ := alloc_step X0 (.cells #[.bool false, .slice none 0 0, .slice none 0 0] 35)
 have HX0 := hid hX0
 have HX1 := hid hX1
 have B1 := hid (bX0.trans (bX1.mono bX0.size))
 rw [hq0] at kX0 sX0
 rw [sX0] at kX1 sX1
 have kX0' := keep_blk kX0 bX1
 have K0 := hid kX0'
 have K1 := hid kX1
 have H := hid (h.restrict.below B1.o)
 have HF := hid h.blocks
 have Hwf := hid h.trail.wf
 have HI := hid (hz.keep hI (Mod.of_below (F := fun _ => False) B1.o) fun g _ _ h => h)
 have Hz := hid hz
 have HP := hid hP
 have HasmW := hid (hasm.mono (G := fun g => Ga g ∧ g < w.heap.size) fun g hg h => ⟨h, hg⟩)
 have Hasm := hid ((hasm.mono (G := fun g => Ga g ∧ g < w.heap.size) fun g hg h => ⟨h, hg⟩).below B1.o)
 have HGa := hid hGa
 have Hal := hid hal
 have HB := hid hB
 have Hae := hid hae
 have Hln := hid hln
 obtain ⟨z0, z1, z2, z3, z4⟩ := H.o.six
 have b0 : X1.cell? ⟨q0, 0, none⟩ = some (.pointer (some ⟨sb, 0, none⟩)) := by rw [cell_of_row _ _ _ _ _ _ kX0']; rfl
 have Hha := hid ha
 clear h hz hI hP hasm hGa hal hB hae hln bX0 bX1 kX0 kX0' kX1 ha hX0 hX1
 go_enter Tryz.func10, Tryz.ntmps10
 go_wp2_with fail
 rw [HX0.o]
 try rw [hq0]
 rw [HX1.o]
 go_wp2_with fail
 refine (snone_no z1).mono ?_
 rintro r w2 ⟨rfl, rfl⟩
 have hm1 : ¬ ((most : Int) < 0) := by omega
 have hm2 : ¬ ((most : Int) > 65536) := by omega
 go_wp2_with fail
 have hsv : S.vars ≤ 65536 := by rw [HB.o.sv]; omega
 have hsx := H.o.blocks.2.1
 refine (containsfunc_any Hasm.o (f := 35) (first := #[]) (captured := #[.pointer (some ⟨q0, 0, none⟩)]) (p := fun l => !(decide (l ≠ 0) && decide (l.natAbs ≤ S.vars))) (enters_of Tryz.func35 (by kernel_rfl) rfl) fun W x hW _ => ?_).mono ?_
 ·exact sfit2_any (w := W) (zb := q0) ((World.cell?_of_block (hW.block q0 (lt_of_block K0.o))).trans b0) ((World.cell?_of_block (hW.block sb hsx)).trans z0) hsv
 rintro r w3 ⟨rfl, b3⟩
 have hany : (asm.any fun l => !(decide (l ≠ 0) && decide (l.natAbs ≤ S.vars))) = false := by
  rw [List.any_eq_false]
  intro x hx
  obtain ⟨h1, h2⟩ := Hal.o x hx
  rw [HB.o.sv]
  simp [h1, h2]
 rw [hany]
 have H := hid (H.o.below b3)
 have HI := hid (Hz.o.keep HI.o (Mod.of_below (F := fun _ => False) b3) fun g _ _ h => h)
 have Hasm := hid (Hasm.o.below b3)
 have K0 := hid (keep_blk K0.o b3)
 have K1 := hid (keep_blk K1.o b3)
 have B3 := hid (B1.o.trans (b3.mono B1.o.size))
 have b0 : w3.cell? ⟨q0, 0, none⟩ = some (.pointer (some ⟨sb, 0, none⟩)) := by rw [cell_of_row _ _ _ _ _ _ K0.o]; rfl
 have s3 := b3.size
 clear b3 hany
 have hzv : z.v = .nilFunc ∨ ∃ f x y, z.v = .func f x y := .inl Hz.o.call.1
 obtain ⟨rb, hrb⟩ : ∃ r, w3.heap.size = r := ⟨_, rfl⟩
 obtain ⟨X4, hX4, bX4, kX4, sX4⟩ := alloc_step w3 (.cells #[.pointer (some ⟨sb, 0, none⟩), .slice Aa na ca, .int .i64 most, z.v] 79)
 have HX4 := hid hX4
 rw [hrb] at kX4 sX4
 have hrq : q0 + 1 < rb := by omega
 have Hst : Hid (SolveW w.heap.size F z.P a z i0 rb sb tb eb ob pm q0 (q0 + 1) (.slice Aa na ca) w X4 most (fun g => F g ∧ g < w.heap.size) S i0 0) := hid {
  s := H.o.below bX4
  f := fun g hg => ⟨by omega, .inl hg.1⟩
  r := kX4
  sv := by rw [Hae.o.2.2.2.1]; exact HB.o.sv
  ev := by rw [Hae.o.2.2.2.1]; exact HB.o.ev
  run := by
   obtain ⟨asm0, G0, hs⟩ := HB.o.srch
   have h1 := Run.start (a := a) (T := S.T.back 0) (asm0 := asm0) (G0 := G0) (by rw [Hae.o.2.1]; exact hs.back 0) (by rw [Tr.back_vars, Hae.o.2.2.2.1]; exact HB.o.tv) (back_zero _)
   rw [Hae.o.2.1, Hae.o.2.2.1, Hae.o.2.2.2.2] at h1
   exact h1
  zi := Hz.o.keep HI.o (Mod.of_below (F := fun _ => False) bX4) fun g _ _ h => h
  ik := rfl
  m := Mod.of_below (B3.o.trans (bX4.mono B3.o.size))
  bx := keep_blk K0.o bX4
  rs := keep_blk K1.o bX4
  fn := fun g hg => by omega }
 have Hasm := hid (Hasm.o.below bX4)
 have hnl := hna
 have HX4s := hid (show Mod (fun _ => False) w X4 from Mod.of_below (B3.o.trans (bX4.mono B3.o.size)))
 clear H HI K0 K1 B1 B3
 clear bX4 kX4 z0 z1 z2 z3 z4 hX4
 go_wp2_with (refine wpList_build_run rfl _ _ _ _ rfl rfl rfl rfl rfl hzv ?_)
 try rw [hrb]
 rw [HX4.o]
 clear b0
 go_loopg [12] most (fun q iv W => ∃ (i l : Nat) (F' : Nat → Prop) (S' : Sol) (iz k : Nat), iv = .int .i64 i ∧ 1 ≤ i ∧ i + l ≤ most + 1 ∧ Hid (l = q) ∧ Hid (SolveW w.heap.size F z.P a z i0 rb sb tb eb ob pm q0 (q0 + 1) (.slice Aa na ca) w W l F' S' iz k))
 case atStart => exact ⟨1, most, _, S, i0, 0, rfl, Nat.le_refl _, by omega, rfl, Hst⟩
 case round =>
  clear Hst
  obtain ⟨i, l, F1, S1, iz, k, rfl, i1, i2, Hq, C⟩ := hrel
  have b0 : wr.cell? ⟨q0, 0, none⟩ = some (.pointer (some ⟨sb, 0, none⟩)) := by rw [cell_of_row _ _ _ _ _ _ C.o.bx]; rfl
  go_wp2_with fail
  refine (sundo_any C.o.s 0).mono ?_
  rintro r w5 ⟨⟨v5, rfl⟩, h5, m5⟩
  have hl0 : lvl 0 = 0 := rfl
  rw [hl0] at h5
  obtain ⟨F2, h5, hF2⟩ := h5.pack
  have s5 := m5.size
  have hsW := C.o.m.size
  have hF2' : ∀ g, F2 g → g < w5.heap.size ∧ (F g ∨ w.heap.size ≤ g) := fun g hg => ⟨(hF2 g hg).1, (hF2 g hg).2.elim (fun h => (C.o.f g h).2) fun h => .inr (by omega)⟩
  have hq1 := lt_of_block C.o.bx
  have hq2 := lt_of_block C.o.rs
  have hq3 := C.o.r.lt
  have hbx := C.o.fn
  have C2 : Hid (SolveW w.heap.size F z.P a z i0 rb sb tb eb ob pm q0 (q0 + 1) (.slice Aa na ca) w w5 l F2 ⟨S1.vars, S1.T.back 0, S1.E, S1.log⟩ iz k) := hid {
   s := h5
   f := hF2'
   r := C.o.r.keep (m5.block rb hq3 fun e => (hbx rb e).2.2 rfl)
   sv := C.o.sv
   ev := C.o.ev
   run := by
    show Run a S1.E.cs S1.log ((S1.T.back 0).back 0) l k
    rw [back_back]
    exact C.o.run
   zi := Hz.o.keep C.o.zi m5 fun g _ hp hf => by
    have := HP.o g hp
    rcases (C.o.f g hf).2 with h | h
    ·exact this.2 h
    ·omega
   ik := C.o.ik
   m := C.o.m.trans (m5.mono fun g _ h => (C.o.f g h).2.imp .inl id)
   bx := (m5.block q0 hq1 fun e => (hbx q0 e).1 rfl).trans C.o.bx
   rs := (m5.block _ hq2 fun e => (hbx _ e).2.1 rfl).trans C.o.rs
   fn := fun g hg => (hF2 g hg).2.elim (hbx g) fun h => by omega }
  have HR5 : Hid (Run a S1.E.cs S1.log (S1.T.back 0) l k) := hid C.o.run
  have hli : I64 (i : Int) := by unfold I64; omega
  obtain ⟨u1, u2⟩ := luby_le i1 (by omega)
  have hlu : lubyI (i : Int) = (luby i : Nat) := by unfold lubyI; rw [Int.toNat_natCast]
  obtain ⟨L, hL⟩ : ∃ L, luby i = L := ⟨_, rfl⟩
  rw [hL] at hlu u1 u2
  have hwm : IntKind.i64.wrap (16 * (L : Int)) = 16 * (L : Int) := iw' (by omega) (by omega)
  have hcf := enters_of (P := Tryz.prog) Tryz.func37 (by kernel_rfl) rfl
  have Hlu := hid hlu
  clear C hF2 hF2' m5 h5 hbx hlu hL b0 s5
  go_wp2_with fail
  refine (luby_any hli).mono ?_
  rintro r w6 ⟨rfl, rfl⟩
  rw [Hlu.o]
  go_wp2_with fail
  have hfx6 : Fixed a ⟨S1.vars, S1.T.back 0, S1.E, S1.log⟩ := ⟨by rw [Hae.o.2.2.2.1]; exact hn8, C2.o.sv, C2.o.ev, by rw [Hae.o.2.2.2.2]; exact hmost, by rw [Hae.o.2.1]; exact hG, by rw [Hae.o.2.2.1]; exact hL⟩
  have hs6 := C2.o.m.size
  have hrb6 := C2.o.r.lt
  have hP6 : ∀ g, z.P g → g < w6.heap.size ∧ ¬ F2 g ∧ g ≠ rb := fun g hg => by
   have h1 := HP.o g hg
   refine ⟨by omega, fun hf => ?_, by omega⟩
   rcases (C2.o.f g hf).2 with h | h
   ·exact h1.2 h
   ·omega
  have hA6 : Rd w6 (fun g => Ga g ∧ g < w.heap.size) 1 (.slice Aa na ca) na (ints a.asm) := by
   rw [Hae.o.1]
   exact HasmW.o.mod C2.o.m fun g _ hg hf => hf.elim (HGa.o g hg.1).1 (HGa.o g hg.1).2
  have hG6 : ∀ g, Ga g ∧ g < w.heap.size → ¬ F2 g ∧ g ≠ rb ∧ ¬ z.P g := fun g hg => by
   refine ⟨fun hf => ?_, by omega, (HGa.o g hg.1).2⟩
   rcases (C2.o.f g hf).2 with h | h
   ·exact (HGa.o g hg.1).1 h
   ·omega
  refine (spart_any (a := a) (z := z) (i0 := i0) (k := k) C2.o.s C2.o.r (fun e => (C2.o.fn rb e).2.2 rfl) Hz.o (C2.o.ik ▸ C2.o.zi) hP6 hA6 hG6 (by rw [Hae.o.1, Hae.o.2.2.2.1]; exact Hal.o) (by omega) hfx6 HR5.o (by omega) (by omega)).mono ?_
  rintro r w7 ⟨⟨st, A5, n5, c5, e5, rfl, S5, F5, co, l5, k5, i5, hpt, hfx5, h5, hF5, hco, hr5, hi5⟩, m7⟩
  have s7 := m7.size
  have hne : ∀ q, w.heap.size ≤ q → q ≠ rb → ¬ F2 q → ¬ (F2 q ∨ q = rb ∨ z.P q) := fun q h1 h2 h3 h => h.elim h3 fun h => h.elim h2 fun h => by have := (HP.o q h).1; omega
  have HF5 := hid (show ∀ g, F5 g → g < w7.heap.size ∧ (F g ∨ w.heap.size ≤ g) from fun g hg => ⟨(hF5 g hg).1, (hF5 g hg).2.elim (fun h => (C2.o.f g h).2) fun h => .inr (by omega)⟩)
  have HB7 := hid ((m7.block q0 (lt_of_block C2.o.bx) (hne q0 (by omega) (by omega) fun e => (C2.o.fn q0 e).1 rfl)).trans C2.o.bx)
  have HR7 := hid ((m7.block _ (lt_of_block C2.o.rs) (hne (q0 + 1) (by omega) (by omega) fun e => (C2.o.fn _ e).2.1 rfl)).trans C2.o.rs)
  have HM7 := hid (C2.o.m.trans (m7.mono (G := fun g => (F g ∨ z.P g) ∨ w.heap.size ≤ g) fun g _ h => h.elim (fun h => (C2.o.f g h).2.imp .inl id) fun h => h.elim (fun h => .inr (by omega)) fun h => .inl (.inr h)))
  have HN5 := hid (show ∀ g, F5 g → g ≠ q0 ∧ g ≠ q0 + 1 ∧ g ≠ rb from fun g hg => (hF5 g hg).2.elim (C2.o.fn g) fun h => by omega)
  have H5 := hid h5
  have Hco := hid (hco.mono (G := fun g => (w6.heap.size ≤ g ∧ ¬ F5 g) ∧ g < w7.heap.size) fun g hg h => ⟨h, hg⟩)
  have Hr5 := hid hr5
  have HI5 := hid hi5
  have Hfx5 := hid hfx5
  have b0 : w7.cell? ⟨q0, 0, none⟩ = some (.pointer (some ⟨sb, 0, none⟩)) := by rw [cell_of_row _ _ _ _ _ _ HB7.o]; rfl
  obtain ⟨z0, z1, z2, z3, z4⟩ := H5.o.six
  clear h5 hco hr5 hi5 hfx5 hF5 m7 hfx6 hP6 hA6 hG6 hne C2 hq1 hq2 hq3 hsW
  cases hpt with
  | again hik hr hl =>
   go_wp2_with fail
   go_roundg l5
   case measure => rw [← Hq.o]; exact hl
   case rel => exact ⟨i + 1, l5, F5, S5, i5, k5, by go_num, by omega, by omega, rfl, ⟨H5.o, HF5.o, Hr5.o, Hfx5.o.sv, Hfx5.o.ev, hr.move (fun G hG => hG.back 0) (Tr.back_vars _ _), HI5.o, hik, HM7.o, HB7.o, HR7.o, HN5.o⟩⟩
  | sat hik hr ha hall hcal hz' =>
   obtain ⟨new, hlf⟩ := hr.left
   have hbs := hr.base Hfx5.o
   have hTv := hr.vars
   have hwf := H5.o.trail.wf
   have hsol : Solved a z i0 S5 k5 i5 new true (asgX a.n S5.T.lits) [] 0 := .sat hik S5.T.lits hwf.okX (lits_sm hwf) (fun l hl => by
    obtain ⟨e, he, rfl⟩ := List.mem_map.1 hl
    have := hwf.lit e he
    rw [hTv] at this
    exact this) ha (fun y y1 y2 => by rw [← Tr.value_is]; exact hall y y1 y2) hcal hz'
   have Hsol := hid hsol
   have Hlf := hid hlf
   have Hbs := hid hbs
   have HTv := hid hTv
   have hn8' : a.n ≤ 8 := by rw [Hae.o.2.2.2.1]; exact hn8
   clear hr hlf hbs hwf hsol ha hall hcal hz' hTv
   go_wp2_with fail
   refine (assign_any H5.o.trail).mono ?_
   rintro r w8 ⟨⟨u8, rfl, hu8⟩, b8⟩
   have s8 := b8.size
   have HB8 := hid (keep_blk HB7.o b8)
   have HR8 := hid (keep_blk HR7.o b8)
   have H8 := hid (H5.o.below b8)
   have HI8 := hid (Hz.o.keep HI5.o (Mod.of_below (F := fun _ => False) b8) fun g _ _ h => h)
   have HM8 := hid (HM7.o.trans (Mod.of_below b8))
   have Hu8 := hid hu8.rd
   clear b8 hu8
   go_wp2_with fail
   refine (clone8_any Hu8.o (by rw [HTv.o]; omega)).mono ?_
   rintro r w9 ⟨⟨A9, c9, rfl, hu9⟩, b9⟩
   have s9 := b9.size
   have HR9 := hid (keep_blk HR8.o b9)
   have H9 := hid (H8.o.below b9)
   have HI9 := hid (Hz.o.keep HI8.o (Mod.of_below (F := fun _ => False) b9) fun g _ _ h => h)
   have HM9 := hid (HM8.o.trans (Mod.of_below b9))
   have hu9' : Rd w9 (fun g => w8.heap.size ≤ g) 1 (.slice A9 a.n c9) a.n (i8s (asgX a.n S5.T.lits)) := by
    have := hu9.rd
    rw [assign_asgX, HTv.o] at this
    exact this
   have Hu9 := hid hu9'
   obtain ⟨t0, t1, t2⟩ := box3 HR9.o
   obtain ⟨f0, f1, f2⟩ := froz3 HR9.o
   rw [show S5.T.vars = a.n from HTv.o]
   clear b9 hu9 hu9'
   go_wp2_with fail
   obtain ⟨u0, u1, u2, m9⟩ := set3 t0 t1 t2 (.bool true) (.slice A9 a.n c9) (.slice none 0 0)
   refine bodyPost_ret (v := .tuple #[.agg #[.bool true, .slice A9 a.n c9, .slice none 0 0], .int .i64 0]) (by simp [results, Tryz.f10, go_sem, u0, u1, u2]) rfl ⟨⟨true, A9, a.n, c9, none, 0, 0, 0, rfl, S5, F5, k5, i5, new, _, [], Hsol.o, Hlf.o, Hae.o.2.2.2.1 ▸ Hbs.o, H9.o.mod m9 fun g _ hf e => (HN5.o g hf).2.1 e, fun g hg => ⟨?_, (HF5.o g hg).2⟩, (Hu9.o.mod m9 fun g _ hg e => by omega).mono fun g _ hg => ⟨by omega, fun hf => by have := (HF5.o g hf).1; omega⟩, Rd.empty _ _ _, Hz.o.keep HI9.o m9 fun g _ hp e => ?_⟩, HM9.o.trans (m9.mono fun g _ e => .inr (by omega))⟩
   ·have := (HF5.o g hg).1
    have := m9.size
    omega
   ·have := (HP.o g hp).1
    omega
  | unsat hik lx hr hs hn =>
   have hcol : co.length = n5 := by have := Hco.o.1; simpa [ints_length] using this
   have hco8 : n5 ≤ 8 := by
    have := hs.length_le
    rw [Hae.o.1] at this
    have := Hln.o
    omega
   have hcob : Hid (∀ x ∈ co, x ≠ 0 ∧ x.natAbs ≤ a.n) := hid fun x hx => by
    have := Hal.o x (by rw [← Hae.o.1]; exact hs.subset hx)
    rw [Hae.o.2.2.2.1]
    exact this
   have hn8' : a.n ≤ 8 := by rw [Hae.o.2.2.2.1]; exact hn8
   have hsizes := hr.sizes
   have hg4 : a.G.length ≤ 400000 := Hfx5.o.gs
   have hg5 : a.log.length ≤ 400000 := Hfx5.o.ls
   have hg6 : a.most ≤ 65536 := Hfx5.o.most
   have hlog5 : S5.log.length ≤ 900000 := by omega
   have hcs5 : S5.E.cs.length ≤ 500000 := by omega
   have hncap : (n5 : Int) ≤ (c5 : Int) := by
    obtain ⟨_, A2, c2, hv2, h2, _⟩ := Hco.o
    injection hv2 with _ _ h3
    omega
   obtain ⟨ls, hls⟩ : ∃ ls, (co.map fun l => -l) = ls := ⟨_, rfl⟩
   have hlsb : ∀ x ∈ ls, litB x = true ∧ x.natAbs ≤ a.n := fun x hx => by
    rw [← hls] at hx
    obtain ⟨y, hy, rfl⟩ := List.mem_map.1 hx
    have := hcob.o y hy
    exact ⟨litB_iff.2 ⟨by omega, by omega, by omega⟩, by omega⟩
   have hlsn : ls.length = n5 := by rw [← hls, List.length_map]; exact hcol
   rw [hls] at hn
   obtain ⟨n0, hn0, hlf, hbs⟩ := hr.shut Hfx5.o hlsb (by omega) hn
   have Hsol : Hid (∀ S', Solved a z i0 S' k5 i5 (n0 ++ [⟨1, (clauseB ls).1, []⟩]) false [] co 0) := hid fun S' => .unsat hik co hs n0 (by rw [hls]) (by rw [hls, ← hn0]; exact hn)
   have hRok : (clauseB ls).1.Ok := clause_ok (fun x hx => (hlsb x hx).1) (by omega)
   have hRl : ∀ l ∈ (clauseB ls).1.lits, l.natAbs ≤ a.n := fun l hl' => by
    obtain ⟨x, hx, e⟩ := newPb_lits l hl'
    rw [← e]
    exact (hlsb x hx).2
   have hR8 := hRok.fewn hRl
   have hRc : (clauseB ls).1.coefs.length = (clauseB ls).1.lits.length := hRok.len.symm
   have HRok := hid hRok
   have HRfit : Hid (S5.E.fits (clauseB ls).1 = true) := hid (fits_of hRok (by rw [Hfx5.o.ev]; exact hRl))
   have hlsi : Hid (∀ x ∈ ls, I64 x) := hid fun x hx => by have := hlsb x hx; unfold I64; omega
   have Hlf := hid hlf
   have Hbs := hid hbs
   have Hls := hid hls
   have Hcol := hid hcol
   have Hlsn := hid hlsn
   clear hr hn hn0 hlf hbs hs hik hls hlsb hRok hRl hcol hsizes hlsn
   go_wp2_with fail
   go_loopw [16, 79] (fun lv jv W => ∃ (j : Nat) (A : Option Addr) (c : Nat) (xs : List Int), j ≤ n5 ∧ jv = .int .i64 j ∧ lv = .slice A xs.length c ∧ Hid (xs = (co.take j).map fun l => -l) ∧ Hid (Own W (fun g => w7.heap.size ≤ g) 3 1 (.slice A xs.length c) xs.length (ints xs)) ∧ Hid (Below w7.heap.size w7 W)) (fun _ jv _ => n5 - (intOf jv).toNat)
   case atStart => exact ⟨0, none, 0, [], Nat.zero_le _, rfl, rfl, rfl, Own.nil _ _ _ _, Below.refl _ _⟩
   case round =>
    obtain ⟨j, A, c, xs, jn, rfl, rfl, Hxs, Ho, B8⟩ := hrel
    have hs8 := B8.o.size
    rcases Nat.lt_or_ge j n5 with h1 | h1
    ·have hjl : j < co.length := by rw [Hcol.o]; exact h1
     obtain ⟨g, o, rfl, hg, _, e0⟩ := (Hco.o.below B8.o).cell.2 j h1
     obtain ⟨l', hl'⟩ : ∃ l, nth co j = l := ⟨_, rfl⟩
     have hlb := hcob.o l' (by rw [← hl']; exact nth_mem hjl)
     have htk : Hid (xs ++ [-l'] = (co.take (j + 1)).map fun l => -l) := hid (by rw [take_nth hjl, hl', List.map_append, ← Hxs.o]; rfl)
     rw [hl'] at e0
     have hjn : (j : Int) < (n5 : Int) := by omega
     have hwn : IntKind.i64.wrap (-l') = -l' := iw' (by omega) (by omega)
     have hxl : xs.length ≤ n5 := by rw [Hxs.o, List.length_map, List.length_take]; omega
     clear hl'
     go_wp2_with (at_builtin; refine wpList_append_ints rfl _ _ rfl (Ho.o.below ((Below.refl _ _).alloc (Nat.le_refl _) _)) (own_one wr (.int .i64 (-l'))).rd rfl rfl (by simp [Value.oneCell']) (by omega) ?_; intro Av cv w9 ho9 hm9 hr9)
     go_roundw
     case rel =>
      refine ⟨j + 1, Av, cv, xs ++ [-l'], by omega, by go_num, by simp, htk, ?_, ?_⟩
      ·rw [ints_append, List.length_append]
       exact ho9.mono fun g _ _ hg => hg.elim id fun hg => by simp at hg; omega
      ·exact below_mod (B8.o.alloc hs8 _) (by simp; omega) hm9 fun g hg => (Ho.o.row hg).1
     case measure => simp [intOf]; omega
    ·have hjn : ¬ ((j : Int) < (n5 : Int)) := by omega
     have hxe : xs = ls := by rw [Hxs.o, List.take_of_length_le (by rw [Hcol.o]; exact h1), Hls.o]
     subst hxe
     have HB8 := hid (keep_blk HB7.o B8.o)
     have HR8 := hid (keep_blk HR7.o B8.o)
     have H8 := hid (H5.o.below B8.o)
     have HI8 := hid (Hz.o.keep HI5.o (Mod.of_below (F := fun _ => False) B8.o) fun g _ _ h => h)
     have HM8 := hid (HM7.o.trans (Mod.of_below B8.o))
     have Hco8 := hid (Hco.o.below B8.o)
     have Ho8 := hid (Ho.o.rd.mono (G := fun g => w7.heap.size ≤ g ∧ g < wr.heap.size) fun g hg h => ⟨h, hg⟩)
     obtain ⟨zz, hzz⟩ : ∃ q, wr.heap.size = q := ⟨_, rfl⟩
     rw [hzz] at Ho8 hs8
     have b0 : wr.cell? ⟨q0, 0, none⟩ = some (.pointer (some ⟨sb, 0, none⟩)) := by rw [cell_of_row _ _ _ _ _ _ HB8.o]; rfl
     clear B8 Ho Hxs
     go_wp2_with fail
     refine (sundo_any H8.o 0).mono ?_
     rintro r w9 ⟨⟨v9, rfl⟩, h9, m9⟩
     rw [hl0] at h9
     rw [hzz] at h9
     have s9 := m9.size
     rw [hzz] at s9
     obtain ⟨F9, h9, hF9⟩ : ∃ F9, SolP w9 F9 sb tb eb ob pm ⟨S5.vars, S5.T.back 0, S5.E, S5.log⟩ ∧ ∀ g, F9 g → g < w9.heap.size ∧ (F5 g ∨ zz ≤ g) := ⟨_, h9.restrict, fun g hg => ⟨hg.2, hg.1⟩⟩
     have HF9 := hid (show ∀ g, F9 g → g < w9.heap.size ∧ (F g ∨ w.heap.size ≤ g) ∧ (g ≠ q0 ∧ g ≠ q0 + 1) ∧ (F5 g ∨ zz ≤ g) from fun g hg => ⟨(hF9 g hg).1, (hF9 g hg).2.elim (fun h => (HF5.o g h).2) fun h => .inr (by omega), (hF9 g hg).2.elim (fun h => ⟨(HN5.o g h).1, (HN5.o g h).2.1⟩) (fun h => by omega), (hF9 g hg).2⟩)
     have HB9 := hid ((m9.block _ (lt_of_block HB8.o) fun e => (HN5.o _ e).1 rfl).trans HB8.o)
     have HR9 := hid ((m9.block _ (lt_of_block HR8.o) fun e => (HN5.o _ e).2.1 rfl).trans HR8.o)
     have HM9 := hid (HM8.o.trans (m9.mono (G := fun g => (F g ∨ z.P g) ∨ w.heap.size ≤ g) fun g _ h => (HF5.o g h).2.imp .inl id))
     have HI9 := hid (Hz.o.keep HI8.o m9 fun g _ hp hf => by
      have := HP.o g hp
      rcases (HF5.o g hf).2 with h | h
      ·exact this.2 h
      ·omega)
     have Hco9 := hid (Hco8.o.mod m9 fun g _ hg hf => hg.1.2 hf)
     have Ho9 := hid (Ho8.o.mod m9 fun g _ hg hf => by have := (HF5.o g hf).1; omega)
     have H9 := hid h9
     have b0 : w9.cell? ⟨q0, 0, none⟩ = some (.pointer (some ⟨sb, 0, none⟩)) := by rw [cell_of_row _ _ _ _ _ _ HB9.o]; rfl
     obtain ⟨z0, z1, z2, z3, z4⟩ := h9.six
     clear h9 hF9 m9 hzz
     go_wp2_with fail
     refine wp_region_held_drew (S := fun w' => w'.cell? ⟨q0, 0, none⟩ = some (.pointer (some ⟨sb, 0, none⟩)) ∧ w'.cell? ⟨sb, 2, none⟩ = some (.pointer (some ⟨eb, 0, none⟩))) (by kernel_rfl) ⟨b0, z2⟩ (fun hHeld => ?_)
     obtain ⟨WD, hWD⟩ : ∃ Y, w9.drew = Y := ⟨_, rfl⟩
     have bD : Below w9.heap.size w9 w9.drew := Bl.drew (Below.refl _ _)
     have H9 := hid (H9.o.below bD)
     have HB9 := hid (keep_blk HB9.o bD)
     have HR9 := hid (keep_blk HR9.o bD)
     have HM9 := hid (HM9.o.trans (Mod.of_below bD))
     have HI9 := hid (Hz.o.keep HI9.o (Mod.of_below (F := fun _ => False) bD) fun g _ _ h => h)
     have Hco9 := hid (Hco9.o.below bD)
     have Ho9 := hid (Ho9.o.below bD)
     have sD := bD.size
     rw [hWD] at hHeld H9 HB9 HR9 HM9 HI9 Hco9 Ho9 sD ⊢
     clear hWD bD
     refine tk 0 ?_
     refine tk 1 ?_
     refine tk 2 ?_
     refine tk 3 ?_
     refine tk 4 ?_
     refine tk 5 ?_
     refine tk 6 ?_
     refine tk 7 ?_
     refine rd1 8 fun K hK => ?_
     go_simp
     refine (srup_any H9.o Ho9.o hlsi.o (by have := Hlsn.o; omega) ⟨by omega, by omega⟩ hlog5).mono ?_
     rintro r w10 ⟨pv, F10, rfl, hpv, h10, hF10, m10⟩
     have s10 := m10.size
     have HB10 := hid ((m10.block _ (lt_of_block HB9.o) fun e => (HF9.o _ e).2.2.1.1 rfl).trans HB9.o)
     have HR10 := hid ((m10.block _ (lt_of_block HR9.o) fun e => (HF9.o _ e).2.2.1.2 rfl).trans HR9.o)
     obtain ⟨z0, z1, z2, z3, z4⟩ := h10.six
     have b0 : w10.cell? ⟨q0, 0, none⟩ = some (.pointer (some ⟨sb, 0, none⟩)) := by rw [cell_of_row _ _ _ _ _ _ HB10.o]; rfl
     go_simp
     refine hK.out _ _ ⟨b0, z2⟩ (fun hHeld => ?_)
     clear hK K
     have H10 := hid h10
     have HPB := hid hpv
     have HF10 := hid (show ∀ g, F10 g → g < w10.heap.size ∧ (F g ∨ w.heap.size ≤ g) ∧ (g ≠ q0 ∧ g ≠ q0 + 1) ∧ (F9 g ∨ w9.heap.size ≤ g) from fun g hg => ⟨(hF10 g hg).1, (hF10 g hg).2.elim (fun h => (HF9.o g h).2.1) (fun h => .inr (by omega)), (hF10 g hg).2.elim (fun h => (HF9.o g h).2.2.1) (fun h => by omega), (hF10 g hg).2.imp id fun h => by omega⟩)
     have HM10 := hid (HM9.o.trans (m10.mono (G := fun g => (F g ∨ z.P g) ∨ w.heap.size ≤ g) fun g _ h => (HF9.o g h).2.1.imp .inl id))
     have HI10 := hid (Hz.o.keep HI9.o m10 fun g _ hp hf => by have := HP.o g hp; rcases (HF9.o g hf).2.1 with h | h <;> first | exact this.2 h | omega)
     have Hco10 := hid (Hco9.o.mod m10 fun g _ hg hf => (HF9.o g hf).2.2.2.elim hg.1.2 fun h => by omega)
     clear h10 hpv hF10 m10
     refine rd1 9 fun K hK => ?_
     go_simp
     refine (s_add (G := fun g => WD.heap.size ≤ g ∧ ¬ F10 g) H10.o HPB.o HRok.o.i64 (fun g hg hf => hg.2 hf) hcs5).mono ?_
     rintro r w11 ⟨rfl, h11, m11⟩
     rw [if_pos HRfit.o] at h11 ⊢
     have s11 := m11.size
     have HB11 := hid ((m11.block _ (lt_of_block HB10.o) fun e => (HF10.o _ e).2.2.1.1 rfl).trans HB10.o)
     have HR11 := hid ((m11.block _ (lt_of_block HR10.o) fun e => (HF10.o _ e).2.2.1.2 rfl).trans HR10.o)
     obtain ⟨z0, z1, z2, z3, z4⟩ := h11.six
     have b0 : w11.cell? ⟨q0, 0, none⟩ = some (.pointer (some ⟨sb, 0, none⟩)) := by rw [cell_of_row _ _ _ _ _ _ HB11.o]; rfl
     go_simp
     refine hK.out _ _ ⟨b0, z2⟩ (fun hHeld => ?_)
     clear hK K
     obtain ⟨F11, h11, hF11⟩ := h11.pack
     have H11 := hid h11
     have HF11 := hid (show ∀ g, F11 g → g < w11.heap.size ∧ (F g ∨ w.heap.size ≤ g) ∧ (g ≠ q0 ∧ g ≠ q0 + 1) ∧ (F9 g ∨ w9.heap.size ≤ g) from fun g hg => ⟨(hF11 g hg).1, (hF11 g hg).2.elim (fun h => (HF10.o g h).2.1) (fun h => .inr (by omega)), (hF11 g hg).2.elim (fun h => (HF10.o g h).2.2.1) (fun h => by omega), (hF11 g hg).2.elim (fun h => (HF10.o g h).2.2.2) fun h => .inr (by omega)⟩)
     have HM11 := hid (HM10.o.trans (m11.mono (G := fun g => (F g ∨ z.P g) ∨ w.heap.size ≤ g) fun g _ h => (HF10.o g h).2.1.imp .inl id))
     have HI11 := hid (Hz.o.keep HI10.o m11 fun g _ hp hf => by have := HP.o g hp; rcases (HF10.o g hf).2.1 with h | h <;> first | exact this.2 h | omega)
     have Hco11 := hid (Hco10.o.mod m11 fun g _ hg hf => (HF10.o g hf).2.2.2.elim (fun h => (HF9.o g h).2.2.2.elim hg.1.2 fun h => by omega) fun h => by omega)
     clear h11 hF11 m11
     refine rd1 10 fun K hK => ?_
     obtain ⟨t0, t1, t2⟩ := box3 HR11.o
     obtain ⟨f0, f1, f2⟩ := froz3 HR11.o
     obtain ⟨u0, u1, u2, m12⟩ := set3 t0 t1 t2 (.bool false) (.slice none 0 0) (.slice A5 n5 c5)
     go_simp
     refine hK.out _ _ ⟨(World.cell?_of_block (m12.block q0 (lt_of_block HB11.o) (by omega))).trans b0, (World.cell?_of_block (m12.block sb H11.o.blocks.2.1 fun e => (HF11.o sb H11.o.blocks.1).2.2.1.2 e)).trans z2⟩ (fun hHeld => ?_)
     clear hK K
     refine tk 11 ?_
     refine wpAnyH_done (by kernel_rfl) ?_ _
     try go_wp2_with fail
     refine bodyPost_ret (v := .tuple #[.agg #[.bool false, .slice none 0 0, .slice A5 n5 c5], .int .i64 0]) (by simp [results, Tryz.f10, go_sem, u0, u1, u2]) rfl ⟨.inl ⟨none, 0, 0, A5, n5, c5, 0, rfl, _, F11, k5, i5, _, [], co, Hsol.o _, Hlf.o, Hae.o.2.2.2.1 ▸ Hbs.o, H11.o.mod m12 fun g _ hf e => (HF11.o g hf).2.2.1.2 e, fun g hg => ⟨?_, by rw [← hq0]; exact (HF11.o g hg).2.1⟩, Rd.empty _ _ _, (Hco11.o.mod m12 fun g _ hg e => by omega).mono fun g _ hg => ⟨by omega, fun hf => ?_⟩, Hz.o.keep HI11.o m12 fun g _ hp e => ?_⟩, HM11.o.trans (m12.mono fun g _ e => .inr (by omega))⟩
     ·have := (HF11.o g hg).1
      have := m12.size
      omega
     ·exact (HF11.o g hf).2.2.2.elim (fun h => (HF9.o g h).2.2.2.elim hg.1.2 fun h => by omega) fun h => by omega
     ·have := (HP.o g hp).1
      omega
  | many hr =>
   obtain ⟨new, hlf, hbs⟩ := fin_run hr Hfx5.o
   have hmany : ∀ vs, Open a vs → a.most < 3 ^ vs.length + a.Hs.length := fun vs ho => by have := hr.few_l ho; omega
   have Hlf := hid hlf
   have Hbs := hid hbs
   have Hmany := hid hmany
   clear hr hlf hbs hmany
   go_wp2_with fail
   refine (sundo_any H5.o 0).mono ?_
   rintro r w8 ⟨⟨v8, rfl⟩, h8, m8⟩
   rw [hl0] at h8
   obtain ⟨F8, h8, hF8⟩ := h8.pack
   have s8 := m8.size
   have KR := (m8.block _ (lt_of_block HR7.o) fun e => (HN5.o _ e).2.1 rfl).trans HR7.o
   have HM8 := hid (HM7.o.trans (m8.mono (G := fun g => (F g ∨ z.P g) ∨ w.heap.size ≤ g) fun g _ h => (HF5.o g h).2.imp .inl id))
   have H8 := hid h8
   have HF8 := hid (show ∀ g, F8 g → g < w8.heap.size ∧ (F g ∨ w.heap.size ≤ g) ∧ g ≠ q0 + 1 from fun g hg => ⟨(hF8 g hg).1, (hF8 g hg).2.elim (fun h => (HF5.o g h).2) fun h => .inr (by omega), (hF8 g hg).2.elim (fun h => (HN5.o g h).2.1) fun h => by omega⟩)
   have HI8 := hid (Hz.o.keep HI5.o m8 fun g _ hp hf => by
    have := HP.o g hp
    rcases (HF5.o g hf).2 with h | h
    ·exact this.2 h
    ·omega)
   obtain ⟨t0, t1, t2⟩ := box3 KR
   obtain ⟨f0, f1, f2⟩ := froz3 KR
   clear h8 hF8 m8
   go_wp2_with fail
   obtain ⟨u0, u1, u2, m9⟩ := set3 t0 t1 t2 (.bool false) (.slice none 0 0) (.slice none 0 0)
   refine bodyPost_ret (v := .tuple #[.agg #[.bool false, .slice none 0 0, .slice none 0 0], .int .i64 5]) (by simp [results, Tryz.f10, go_sem, u0, u1, u2]) rfl ⟨⟨false, none, 0, 0, none, 0, 0, 5, rfl, _, F8, k5, i5, new, [], [], .many Hmany.o, Hlf.o, Hae.o.2.2.2.1 ▸ Hbs.o, H8.o.mod m9 fun g _ hf e => (HF8.o g hf).2.2 e, fun g hg => ⟨?_, (HF8.o g hg).2.1⟩, Rd.empty _ _ _, Rd.empty _ _ _, Hz.o.keep HI8.o m9 fun g _ hp e => ?_⟩, HM8.o.trans (m9.mono fun g _ e => .inr (by omega))⟩
   ·have := (HF8.o g hg).1
    have := m9.size
    omega
   ·have := (HP.o g hp).1
    omega
  | arg lx hr X s hs hn =>
   obtain ⟨new, hlf, hbs⟩ := fin_run hr Hfx5.o
   have Hlf := hid hlf
   have Hbs := hid hbs
   have Hs2 := hid hs
   have Hn2 := hid hn
   clear hr hlf hbs hs hn
   go_wp2_with fail
   refine (sundo_any H5.o 0).mono ?_
   rintro r w8 ⟨⟨v8, rfl⟩, h8, m8⟩
   rw [hl0] at h8
   obtain ⟨F8, h8, hF8⟩ := h8.pack
   have s8 := m8.size
   have KR := (m8.block _ (lt_of_block HR7.o) fun e => (HN5.o _ e).2.1 rfl).trans HR7.o
   have HM8 := hid (HM7.o.trans (m8.mono (G := fun g => (F g ∨ z.P g) ∨ w.heap.size ≤ g) fun g _ h => (HF5.o g h).2.imp .inl id))
   have H8 := hid h8
   have HF8 := hid (show ∀ g, F8 g → g < w8.heap.size ∧ (F g ∨ w.heap.size ≤ g) ∧ g ≠ q0 + 1 from fun g hg => ⟨(hF8 g hg).1, (hF8 g hg).2.elim (fun h => (HF5.o g h).2) fun h => .inr (by omega), (hF8 g hg).2.elim (fun h => (HN5.o g h).2.1) fun h => by omega⟩)
   have HI8 := hid (Hz.o.keep HI5.o m8 fun g _ hp hf => by
    have := HP.o g hp
    rcases (HF5.o g hf).2 with h | h
    ·exact this.2 h
    ·omega)
   obtain ⟨t0, t1, t2⟩ := box3 KR
   obtain ⟨f0, f1, f2⟩ := froz3 KR
   clear h8 hF8 m8
   go_wp2_with fail
   obtain ⟨u0, u1, u2, m9⟩ := set3 t0 t1 t2 (.bool false) (.slice none 0 0) (.slice none 0 0)
   refine bodyPost_ret (v := .tuple #[.agg #[.bool false, .slice none 0 0, .slice none 0 0], .int .i64 2]) (by simp [results, Tryz.f10, go_sem, u0, u1, u2]) rfl ⟨⟨false, none, 0, 0, none, 0, 0, 2, rfl, _, F8, k5, i5, new, [], [], .arg X s Hs2.o Hn2.o, Hlf.o, Hae.o.2.2.2.1 ▸ Hbs.o, H8.o.mod m9 fun g _ hf e => (HF8.o g hf).2.2 e, fun g hg => ⟨?_, (HF8.o g hg).2.1⟩, Rd.empty _ _ _, Rd.empty _ _ _, Hz.o.keep HI8.o m9 fun g _ hp e => ?_⟩, HM8.o.trans (m9.mono fun g _ e => .inr (by omega))⟩
   ·have := (HF8.o g hg).1
    have := m9.size
    omega
   ·have := (HP.o g hp).1
    omega
end
end Go.Proofs.YtcjmpobccbnpkaaGreat
