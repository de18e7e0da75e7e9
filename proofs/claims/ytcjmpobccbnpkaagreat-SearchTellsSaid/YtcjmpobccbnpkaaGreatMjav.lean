/-
 Chapter 32: several texts in one (PbL PlB PlC PbW).
-/
import Derived.Test.YtcjmpobccbnpkaaGreatMjas
import Derived.Test.YtcjmpobccbnpkaaGreatMjau
import Derived.Test.YtcjmpobccbnpkaaGreatMjaq
import Derived.Laws.BitsAllLaws
namespace Go.Proofs.YtcjmpobccbnpkaaGreat
section
open Go.RowKit Go.Maps
attribute [local go_sem] Oper.semAt_some
def Pb.negB (c : Pb) : Pb × Int := if c.ok = true then normed (c.lits.map fun l => -l) c.coefs (c.coefs.sum - c.bound + 1) else (⟨[], [], 0⟩, 2)
end
def Pb.av (c : Pb) (j : Nat) : Int := (((nth c.lits j).natAbs : Nat) : Int)
theorem Pb.Ok.pair {c : Pb} (h : c.Ok) {i j : Nat} (hij : i < j) (hj : j < c.lits.length) : c.av i < c.av j := by
 induction j with
 | zero => omega
 | succ j ih =>
  have h1 := h.rise (j + 1) hj
  have h2 : c.last (j + 1) = c.av j := by unfold Pb.last Pb.av; rw [if_neg (by omega)]; rfl
  rw [h2] at h1
  rcases Nat.lt_or_ge i j with e | e
  ·have := ih e (by omega)
   unfold Pb.av at *
   omega
  ·have : i = j := by omega
   subst this
   exact h1
theorem Pb.Ok.differ {c : Pb} (h : c.Ok) {i j : Nat} (hij : i ≠ j) (hi : i < c.lits.length) (hj : j < c.lits.length) : c.av i ≠ c.av j := by
 rcases Nat.lt_or_ge i j with e | e
 ·have := h.pair e hj; omega
 ·have := h.pair (by omega : j < i) hi; omega
theorem tr_neg (s : Int → Bool) {l : Int} (h : l ≠ 0) : tr s (-l) = !(tr s l) := by
 unfold tr
 by_cases e : 0 < l
 ·rw [if_neg (by omega), if_pos e, Int.neg_neg]
 ·rw [if_pos (by omega), if_neg e, Bool.not_not]
theorem Pb.Ok.total_le {c : Pb} (h : c.Ok) {p q : Int → Bool} (hpq : ∀ j, j < c.lits.length → p (nth c.lits j) = true → q (nth c.lits j) = true) : c.total p ≤ c.total q := by
 unfold Pb.total Pb.part
 refine Go.Proofs.YtcjmpobccbnpkaaGreat.sum_le _ fun j hj => ?_
 have hj := List.mem_range.1 hj
 have h1 := h.coef j hj
 have h2 := hpq j hj
 cases e1 : p (nth c.lits j) with
 | false => simp; split <;> omega
 | true => rw [h2 e1]; simp
theorem Pb.total_cong {c : Pb} {p q : Int → Bool} (hpq : ∀ j, j < c.lits.length → p (nth c.lits j) = q (nth c.lits j)) : c.total p = c.total q := by
 unfold Pb.total Pb.part
 refine sum_cong _ fun j hj => ?_
 rw [hpq j (List.mem_range.1 hj)]
theorem mem_pick {c : Pb} {q : Int → Int → Bool} {l : Int} : l ∈ c.pick q (List.range c.lits.length) ↔ ∃ j, j < c.lits.length ∧ q (nth c.lits j) (nth c.coefs j) = true ∧ nth c.lits j = l := by
 unfold Pb.pick
 rw [List.mem_map]
 constructor
 ·rintro ⟨j, hj, e⟩
  have := List.mem_filter.1 hj
  exact ⟨j, List.mem_range.1 this.1, this.2, e⟩
 ·rintro ⟨j, hj, h1, e⟩
  exact ⟨j, List.mem_filter.2 ⟨List.mem_range.2 hj, h1⟩, e⟩
theorem valB_zero {a : List Int} {l : Int} : valB a l = 0 ↔ nth a (l.natAbs - 1) = 0 := by
 unfold valB
 by_cases e : nth a (l.natAbs - 1) = 0
 ·rw [if_pos e]; exact ⟨fun _ => e, fun _ => rfl⟩
 ·rw [if_neg e]
  constructor
  ·split <;> intro h <;> cases h
  ·intro h; exact absurd h e
def sOf (b : List Int) (v : Int) : Bool := decide (0 < nth b (v.natAbs - 1))
theorem tr_val {b : List Int} {l : Int} (h : nth b (l.natAbs - 1) ≠ 0) (_h0 : l ≠ 0) : decide (0 < valB b l) = tr (sOf b) l := by
 unfold valB tr sOf
 rw [if_neg h, Int.natAbs_neg]
 by_cases e : 0 < l
 ·rw [if_pos e]
  by_cases e2 : 0 < nth b (l.natAbs - 1)
  ·rw [if_pos (by constructor <;> intro _ <;> omega)]; simp [e2]
  ·rw [if_neg (by intro h; exact e2 (h.2 e))]; simp [e2]
 ·rw [if_neg e]
  by_cases e2 : 0 < nth b (l.natAbs - 1)
  ·rw [if_neg (by intro h; exact e (h.1 e2))]; simp [e2]
  ·rw [if_pos (by constructor <;> intro _ <;> omega)]; simp [e2]
theorem tr_cong {s t : Int → Bool} {l : Int} (_h0 : l ≠ 0) (h : s (l.natAbs : Nat) = t (l.natAbs : Nat)) : tr s l = tr t l := by
 unfold tr
 by_cases e : 0 < l
 ·rw [if_pos e, if_pos e]; rw [show ((l.natAbs : Nat) : Int) = l by omega] at h; exact h
 ·rw [if_neg e, if_neg e]; rw [show ((l.natAbs : Nat) : Int) = -l by omega] at h; rw [h]
theorem holds_tr {c : Pb} (h : c.Ok) {b : List Int} (hb : ∀ j, j < c.lits.length → nth b ((nth c.lits j).natAbs - 1) ≠ 0) : c.holdsB b = decide (c.bound ≤ c.total (tr (sOf b))) := by
 unfold Pb.holdsB
 rw [(Pb.ok_iff c).2 h, Bool.true_and, Pb.total_cong fun j hj => tr_val (hb j hj) (h.lit j hj).1]
def ExtS (a : List Int) (s : Int → Bool) : Prop := ∀ v : Int, 1 ≤ v → nth a (v.natAbs - 1) ≠ 0 → s v = decide (0 < nth a (v.natAbs - 1))
theorem val_tr {a : List Int} {s : Int → Bool} (h : ExtS a s) {l : Int} (h0 : l ≠ 0) (hv : nth a (l.natAbs - 1) ≠ 0) : tr s l = decide (0 < valB a l) := by
 rw [tr_val hv h0]
 refine tr_cong h0 ?_
 rw [h _ (by omega) (by rw [Int.natAbs_natCast]; exact hv)]
 rfl
theorem val_cases (a : List Int) (l : Int) : valB a l = 0 ∨ valB a l = 1 ∨ valB a l = -1 := by
 unfold valB
 split
 ·exact .inl rfl
 ·split
  ·exact .inr (.inl rfl)
  ·exact .inr (.inr rfl)
theorem ext_le {c : Pb} (h : c.Ok) {a : List Int} {s : Int → Bool} (hs : ExtS a s) : c.total (tr s) ≤ c.total fun l => decide (0 ≤ valB a l) :=
 h.total_le fun j hj h1 => by
  rw [decide_eq_true_eq]
  by_cases e : nth a ((nth c.lits j).natAbs - 1) = 0
  ·rw [valB_zero.2 e]; exact Int.le_refl _
  ·rw [val_tr hs (h.lit j hj).1 e, decide_eq_true_eq] at h1
   omega
def best (c : Pb) (a : List Int) (l : Int) (v : Int) : Bool :=
 if nth a (v.natAbs - 1) ≠ 0 then decide (0 < nth a (v.natAbs - 1)) else if v = ((l.natAbs : Nat) : Int) then decide (l < 0) else decide (v ∈ c.lits)
theorem best_ext (c : Pb) (a : List Int) (l : Int) : ExtS a (best c a l) := fun v _ h => by unfold best; rw [if_pos h]
theorem Pb.Ok.neg_out {c : Pb} (h : c.Ok) {j : Nat} (hj : j < c.lits.length) (hl : nth c.lits j < 0) : ¬ -(nth c.lits j) ∈ c.lits := by
 intro hm
 obtain ⟨i, hi, e⟩ := List.getElem_of_mem hm
 rw [← nth_eq hi] at e
 by_cases hij : i = j
 ·subst hij; omega
 ·have := h.differ hij hi hj
  unfold Pb.av at this
  omega
theorem best_tr {c : Pb} (h : c.Ok) (a : List Int) {l : Int} {j : Nat} (hj : j < c.lits.length) : tr (best c a l) (nth c.lits j) = if nth c.lits j = l ∧ nth a (l.natAbs - 1) = 0 then false else if nth a ((nth c.lits j).natAbs - 1) = 0 ∧ (nth c.lits j).natAbs = l.natAbs then decide (nth c.lits j = -l) else decide (0 ≤ valB a (nth c.lits j)) := by
 have h0 := (h.lit j hj).1
 by_cases e : nth a ((nth c.lits j).natAbs - 1) = 0
 ·have hv := valB_zero.2 e
  rw [hv]
  by_cases e1 : nth c.lits j = l
  ·subst e1
   rw [if_pos ⟨rfl, e⟩]
   unfold tr best
   by_cases e2 : 0 < nth c.lits j
   ·rw [if_pos e2, if_neg (by simp [e]), if_pos (by omega), decide_eq_false (by omega)]
   ·rw [if_neg e2, Int.natAbs_neg, if_neg (by simp [e]), if_pos (by omega), decide_eq_true (by omega)]; rfl
  ·rw [if_neg (by intro h; exact e1 h.1)]
   by_cases e3 : (nth c.lits j).natAbs = l.natAbs
   ·rw [if_pos ⟨e, e3⟩, decide_eq_true (by omega)]
    unfold tr best
    by_cases e2 : 0 < nth c.lits j
    ·rw [if_pos e2, if_neg (by simp [e]), if_pos (by omega), decide_eq_true (by omega)]
    ·rw [if_neg e2, Int.natAbs_neg, if_neg (by simp [e]), if_pos (by omega), decide_eq_false (by omega)]; rfl
   ·rw [if_neg (by intro h; exact e3 h.2), decide_eq_true (Int.le_refl 0)]
    unfold tr best
    by_cases e2 : 0 < nth c.lits j
    ·rw [if_pos e2, if_neg (by simp [e]), if_neg (by omega), decide_eq_true (nth_mem hj)]
    ·rw [if_neg e2, Int.natAbs_neg, if_neg (by simp [e]), if_neg (by omega), decide_eq_false (h.neg_out hj (by omega))]; rfl
 ·rw [val_tr (best_ext c a l) h0 e]
  rw [if_neg (by rintro ⟨h1, h2⟩; rw [h1] at e; exact e h2), if_neg (by intro h; exact e h.1)]
  rcases val_cases a (nth c.lits j) with h1 | h1 | h1
  ·exact absurd (valB_zero.1 h1) e
  ·rw [h1]; rfl
  ·rw [h1]; rfl
theorem slack_some {c : Pb} (h : c.Ok) (a : List Int) : 0 ≤ c.slackB a ↔ ∃ s, ExtS a s ∧ c.bound ≤ c.total (tr s) := by
 unfold Pb.slackB
 rw [if_pos ((Pb.ok_iff c).2 h)]
 constructor
 ·intro hs
  refine ⟨best c a 0, best_ext c a 0, ?_⟩
  rw [Pb.total_cong (q := fun l => decide (0 ≤ valB a l)) fun j hj => by
   rw [best_tr h a hj, if_neg (by intro h2; exact (h.lit j hj).1 h2.1), if_neg (by intro h2; have := (h.lit j hj).1; omega)]]
  omega
 ·rintro ⟨s, h1, h2⟩
  have := ext_le h h1
  omega
section
open Go.RowKit
theorem wp_append_i8s {o : Oper} {a : Act} {w : World} {K : Act → World → Prop} {Q : Exit → Act → World → Prop} (s x : Operand)
  (ho : o.op = .call { callee := .builtin .append, args := #[s, x], argTypes := #[33, 33] }) {F G : Nat → Prop} {v u : Value} {n m : Nat} {xs ys : List Value}
  (hv : Own w F 70 1 v n xs) (hu : Rd w G 1 u m ys) (hs : a.eval s = v) (hx : a.eval x = u) (h1 : ∀ u ∈ ys, u.oneCell' = true) (hb : n + m ≤ 17592186044416)
  (hK : ∀ A c w', Own w' (fun b => F b ∨ w.heap.size ≤ b) 70 1 (.slice A (n + m) c) (n + m) (xs ++ ys) → Mod (row v) w w' → (∀ b, row (.slice A (n + m) c) b → row v b ∨ w.heap.size ≤ b) → K (a.put o.dst (.slice A (n + m) c)) w') : o.wp Tryz.prog a w K Q := by
 obtain ⟨i0, hi, hz0, hz1, hz2⟩ := info_parts info_i8
 obtain ⟨v', w', hr, h2, h3, h4⟩ := run_append_rd (P := Tryz.prog) 33 o.type i0 (.int .i8 0) 1 Tryz.underlying33 hi hz0 hz1 hz2 rfl (by decide) hv hu h1 (by unfold maxLen; omega) (by omega)
 unfold Oper.wp execOp
 simp only [ho, resolve, invoke, builtin, Sem.run_bind, Sem.run_pure, Result.andThen_ok, List.map_toArray, List.map_cons, List.map_nil, hs, hx, hr]
 obtain ⟨A, c, rfl, _⟩ := h2.form
 exact hK A c w' h2 h3 h4
theorem wpList_append_i8s {ops : Array Oper} {rest : List Oper} {o : Oper} {a : Act} {w : World} {Q : Exit → Act → World → Prop} (hgd : o.guard = none) (s x : Operand)
  (ho : o.op = .call { callee := .builtin .append, args := #[s, x], argTypes := #[33, 33] }) {F G : Nat → Prop} {v u : Value} {n m : Nat} {xs ys : List Value}
  (hv : Own w F 70 1 v n xs) (hu : Rd w G 1 u m ys) (hs : a.eval s = v) (hx : a.eval x = u) (h1 : ∀ u ∈ ys, u.oneCell' = true) (hb : n + m ≤ 17592186044416)
  (hK : ∀ A c w', Own w' (fun b => F b ∨ w.heap.size ≤ b) 70 1 (.slice A (n + m) c) (n + m) (xs ++ ys) → Mod (row v) w w' → (∀ b, row (.slice A (n + m) c) b → row v b ∨ w.heap.size ≤ b) → wpList Tryz.prog ops Q rest (a.put o.dst (.slice A (n + m) c)) w') :
  wpList Tryz.prog ops Q (o :: rest) a w :=
 wpList_plain hgd fun _ hK' => wp_append_i8s s x ho hv hu hs hx h1 hb fun A c w' h2 h3 h4 => hK' _ _ (hK A c w' h2 h3 h4)
theorem PbRd.mono {w : World} {F G : Nat → Prop} {v : Value} {c : Pb} (h : PbRd w F v c) (hFG : ∀ g, g < w.heap.size → F g → G g) : PbRd w G v c := by
 obtain ⟨A, n, cn, B, m, cm, e, h1, h2⟩ := h.form
 exact ⟨⟨A, n, cn, B, m, cm, e, h1.mono hFG, h2.mono hFG⟩, h.bnd⟩
theorem PbRd.mod {w w' : World} {F G : Nat → Prop} {v : Value} {c : Pb} (h : PbRd w F v c) (hm : Mod G w w') (hFG : ∀ g, g < w.heap.size → F g → ¬ G g) : PbRd w' F v c := by
 obtain ⟨A, n, cn, B, m, cm, e, h1, h2⟩ := h.form
 exact ⟨⟨A, n, cn, B, m, cm, e, h1.mod hm hFG, h2.mod hm hFG⟩, h.bnd⟩
theorem PbRd.lits {w : World} {F : Nat → Prop} {A B : Option Addr} {n c m d : Nat} {z : Int} {N : Pb} (h : PbRd w F (.agg #[.slice A n c, .slice B m d, .int .i64 z]) N) : Rd w F 1 (.slice A n c) n (ints N.lits) := by
 obtain ⟨A', n', cn', B', m', cm', e, h1, h2⟩ := h.form
 simp only [Value.agg.injEq, Array.mk.injEq, List.cons.injEq, Value.slice.injEq] at e
 obtain ⟨⟨rfl, rfl, rfl⟩, _⟩ := e
 exact h1
theorem PbRd.cos {w : World} {F : Nat → Prop} {A B : Option Addr} {n c m d : Nat} {z : Int} {N : Pb} (h : PbRd w F (.agg #[.slice A n c, .slice B m d, .int .i64 z]) N) : Rd w F 1 (.slice B m d) m (ints N.coefs) := by
 obtain ⟨A', n', cn', B', m', cm', e, h1, h2⟩ := h.form
 simp only [Value.agg.injEq, Array.mk.injEq, List.cons.injEq, Value.slice.injEq] at e
 obtain ⟨_, ⟨rfl, rfl, rfl⟩, _⟩ := e
 exact h2
theorem run_max (a b : Int) (w : World) : (Builtin.max_ #[3, 3] 3 #[.int .i64 a, .int .i64 b]).run Tryz.prog w = .ok (.int .i64 (max a b)) w := by
 unfold Builtin.max_
 simp only [go_sem, List.foldlM, Builtin.max2]
 by_cases h : a < b
 ·have e : max a b = b := by omega
  rw [e]
  simp [h, go_sem]
 ·have e : max a b = a := by omega
  rw [e]
  simp [h, go_sem]
end
end Go.Proofs.YtcjmpobccbnpkaaGreat
