/-
  Chapter 24, the reference: the plain lists of its Norm.
-/
import Derived.Test.YtofobmgmgipomaaRfC
namespace Go.Proofs.Ytofobmgmgipomaa
open Go.RowKit

def insStep (v : Int) (s : List Int × Bool) (x : Int) : List Int × Bool :=
  ((s.1 ++ if (decide (v ≤ x) && !s.2) = true then [v] else []) ++ (if (x != v) = true then [x] else []), s.2 || (decide (v ≤ x) && !s.2))
def insFold (v : Int) (xs : List Int) : List Int × Bool := xs.foldl (insStep v) ([], false)
def insR (v : Int) (xs : List Int) : List Int := if (insFold v xs).2 = true then (insFold v xs).1 else (insFold v xs).1 ++ [v]
theorem insFold_snoc (v : Int) (xs : List Int) (x : Int) : insFold v (xs ++ [x]) = insStep v (insFold v xs) x := by simp [insFold, List.foldl_append]
theorem insFold_len (v : Int) (xs : List Int) : (insFold v xs).1.length ≤ 2 * xs.length := by
  have h : ∀ n (xs : List Int), xs.length = n → (insFold v xs).1.length ≤ 2 * xs.length := by
    intro n
    induction n with
    | zero => intro xs h; rw [List.length_eq_zero_iff.1 h]; simp [insFold]
    | succ n ih =>
      intro xs h
      obtain ⟨ys, y, rfl⟩ : ∃ ys y, xs = ys ++ [y] := ⟨xs.dropLast, xs.getLast (by intro e; subst e; cases h), (List.dropLast_concat_getLast _).symm⟩
      have h1 := ih ys (by simp at h; omega)
      rw [insFold_snoc]
      unfold insStep
      simp only [List.length_append, List.length_singleton]
      split <;> split <;> simp <;> omega
  exact h _ xs rfl
theorem insFold_is (v : Int) (xs : List Int) : xs.Pairwise (fun x y => x < y) → insFold v xs = (xs.filter (fun x => decide (x < v)) ++ if xs.any (fun x => decide (v ≤ x)) = true then v :: xs.filter (fun x => decide (v < x)) else [], xs.any fun x => decide (v ≤ x)) := by
  have h : ∀ n (xs : List Int), xs.length = n → xs.Pairwise (fun x y => x < y) → insFold v xs = (xs.filter (fun x => decide (x < v)) ++ if xs.any (fun x => decide (v ≤ x)) = true then v :: xs.filter (fun x => decide (v < x)) else [], xs.any fun x => decide (v ≤ x)) := by
    intro n
    induction n with
    | zero => intro xs h _; rw [List.length_eq_zero_iff.1 h]; simp [insFold]
    | succ n ih =>
      intro xs h hp
      obtain ⟨ys, y, rfl⟩ : ∃ ys y, xs = ys ++ [y] := ⟨xs.dropLast, xs.getLast (by intro e; subst e; cases h), (List.dropLast_concat_getLast _).symm⟩
      obtain ⟨hp1, _, hp2⟩ := List.pairwise_append.1 hp
      have hlt : ∀ x ∈ ys, x < y := fun x hx => hp2 x hx y (by simp)
      rw [insFold_snoc, ih ys (by simp at h; omega) hp1]
      unfold insStep
      rw [List.any_append, List.filter_append, List.filter_append]
      by_cases hv : v ≤ y
      · by_cases ha : ys.any (fun x => decide (v ≤ x)) = true
        · obtain ⟨x, hx, hvx⟩ := List.any_eq_true.1 ha
          have h1 := hlt x hx
          have h2 : v ≤ x := of_decide_eq_true hvx
          rw [ha]
          have e1 : (y != v) = true := by simp; omega
          simp [e1, show ¬ y < v by omega, show v < y by omega]
        · have ha : ys.any (fun x => decide (v ≤ x)) = false := by simpa using ha
          have hf : ys.filter (fun x => decide (v < x)) = [] := by
            rw [List.filter_eq_nil_iff]
            intro x hx
            have := List.any_eq_false.1 ha x hx
            simp at this ⊢
            omega
          rw [ha, hf]
          by_cases hvy : y = v
          · subst hvy; simp
          · simp [hv, hvy, show ¬ y < v by omega, show v < y by omega]
      · have ha : ys.any (fun x => decide (v ≤ x)) = false := by
          rw [List.any_eq_false]
          intro x hx
          have := hlt x hx
          simp; omega
        rw [ha]
        simp [hv, show y < v by omega, show y ≠ v by omega]
  exact h _ xs rfl
theorem insR_is {v : Int} {xs : List Int} (h : xs.Pairwise (fun x y => x < y)) : insR v xs = xs.filter (fun x => decide (x < v)) ++ v :: xs.filter (fun x => decide (v < x)) := by
  unfold insR
  rw [insFold_is v xs h]
  by_cases ha : xs.any (fun x => decide (v ≤ x)) = true
  · rw [if_pos ha, if_pos ha]
  · have hf : xs.filter (fun x => decide (v < x)) = [] := by
      rw [List.filter_eq_nil_iff]
      intro x hx
      have := List.any_eq_false.1 (by simpa using ha : xs.any (fun x => decide (v ≤ x)) = false) x hx
      simp at this ⊢
      omega
    rw [if_neg ha, if_neg ha, hf]
    simp
theorem insR_rise {v : Int} {xs : List Int} (h : xs.Pairwise (fun x y => x < y)) : (insR v xs).Pairwise (fun x y => x < y) := by
  rw [insR_is h, List.pairwise_append]
  refine ⟨h.filter _, List.pairwise_cons.2 ⟨fun x hx => of_decide_eq_true (List.mem_filter.1 hx).2, h.filter _⟩, fun a ha b hb => ?_⟩
  have h1 : a < v := of_decide_eq_true (List.mem_filter.1 ha).2
  rcases List.mem_cons.1 hb with rfl | hb
  · exact h1
  · have : v < b := of_decide_eq_true (List.mem_filter.1 hb).2
    omega
theorem insR_mem {v x : Int} {xs : List Int} (h : xs.Pairwise (fun x y => x < y)) : x ∈ insR v xs ↔ x = v ∨ x ∈ xs := by
  rw [insR_is h, List.mem_append, List.mem_cons, List.mem_filter, List.mem_filter]
  simp only [decide_eq_true_eq]
  constructor
  · rintro (h1 | h1 | h1)
    · exact .inr h1.1
    · exact .inl h1
    · exact .inr h1.1
  · rintro (h1 | h1)
    · exact .inr (.inl h1)
    · rcases Int.lt_trichotomy x v with h2 | h2 | h2
      · exact .inl ⟨h1, h2⟩
      · exact .inr (.inl h2)
      · exact .inr (.inr ⟨h1, h2⟩)
theorem insR_len {v : Int} {xs : List Int} (h : xs.Pairwise (fun x y => x < y)) : (insR v xs).length ≤ xs.length + 1 := by
  rw [insR_is h, List.length_append, List.length_cons]
  have h1 : (xs.filter fun x => decide (x < v)).length + (xs.filter fun x => !decide (x < v)).length = xs.length := by
    induction xs with
    | nil => rfl
    | cons x xs ih =>
      have := ih (List.pairwise_cons.1 h).2
      by_cases e : x < v
      · rw [List.filter_cons_of_pos (by simpa using e), List.filter_cons_of_neg (by simpa using e), List.length_cons, List.length_cons]; omega
      · rw [List.filter_cons_of_neg (by simpa using e), List.filter_cons_of_pos (by simpa using e), List.length_cons, List.length_cons]; omega
  have h2 : (xs.filter fun x => decide (v < x)).length ≤ (xs.filter fun x => !decide (x < v)).length := by
    rw [show (xs.filter fun x => decide (v < x)) = (xs.filter fun x => !decide (x < v)).filter (fun x => decide (v < x)) by
      rw [List.filter_filter]
      refine List.filter_congr fun x _ => ?_
      by_cases e : v < x <;> simp [e]
      omega]
    exact List.length_filter_le _ _
  omega
/-- The variables of the first j literals, in increasing order. -/
def vsR (ls : List Int) : Nat → List Int
  | 0 => []
  | j + 1 => insR ((nth ls j).natAbs : Nat) (vsR ls j)
theorem vsR_rise (ls : List Int) : ∀ j, (vsR ls j).Pairwise (fun x y => x < y)
  | 0 => List.Pairwise.nil
  | j + 1 => insR_rise (vsR_rise ls j)
theorem vsR_mem (ls : List Int) (x : Int) : ∀ j, x ∈ vsR ls j ↔ ∃ i, i < j ∧ x = ((nth ls i).natAbs : Nat)
  | 0 => by simp [vsR]
  | j + 1 => by
    rw [vsR, insR_mem (vsR_rise ls j), vsR_mem ls x j]
    constructor
    · rintro (h | ⟨i, hi, h⟩)
      · exact ⟨j, by omega, h⟩
      · exact ⟨i, by omega, h⟩
    · rintro ⟨i, hi, h⟩
      by_cases e : i = j
      · subst e; exact .inl h
      · exact .inr ⟨i, by omega, h⟩
theorem vsR_len (ls : List Int) : ∀ j, (vsR ls j).length ≤ j
  | 0 => Nat.le_refl _
  | j + 1 => Nat.le_trans (insR_len (vsR_rise ls j)) (by have := vsR_len ls j; omega)

/-- The sum of the coefficients of -v in the first j terms. -/
def nvs (ls ks : List Int) (j : Nat) (v : Int) : Int := ((List.range j).map fun i => if nth ls i = -v then nth ks i else 0).sum
theorem nvs_succ (ls ks : List Int) (j : Nat) (v : Int) : nvs ls ks (j + 1) v = nvs ls ks j v + (if nth ls j = -v then nth ks j else 0) := by simp [nvs, List.range_succ]
theorem nvs_bounds {ls ks : List Int} (v : Int) : ∀ j, (∀ i, i < j → inB ls ks i = true) → -(j * 16777216 : Int) ≤ nvs ls ks j v ∧ nvs ls ks j v ≤ j * 16777216 := by
  intro j
  induction j with
  | zero => intro _; simp [nvs]
  | succ j ih =>
    intro h
    obtain ⟨h1, h2⟩ := ih fun i hi => h i (by omega)
    obtain ⟨h3, h4⟩ := inB_k (h j (by omega))
    rw [nvs_succ]
    split <;> omega
theorem nvs_sum {ls ks V : List Int} (hV : V.Nodup) (h1 : ∀ v ∈ V, 1 ≤ v) : ∀ j, (∀ i, i < j → (((nth ls i).natAbs : Nat) : Int) ∈ V) → (V.map (nvs ls ks j)).sum = nsum ls ks j := by
  intro j
  induction j with
  | zero =>
    intro _
    rw [sum_zero V fun v _ => by simp [nvs]]
    simp [nsum]
  | succ j ih =>
    intro h
    rw [show V.map (nvs ls ks (j + 1)) = V.map (fun v => nvs ls ks j v + if nth ls j = -v then nth ks j else 0) from List.map_congr_left fun v _ => nvs_succ ls ks j v, sum_add, ih (fun i hi => h i (by omega)), nsum_succ]
    congr 1
    have hm := h j (by omega)
    by_cases e : nth ls j < 0
    · rw [if_pos e, pick_sum (x := -(nth ls j)) V hV (by rw [show -(nth ls j) = ((nth ls j).natAbs : Nat) by omega]; exact hm) fun v _ hne => if_neg fun h => hne (by omega), if_pos (by omega)]
    · rw [if_neg e, sum_zero V fun v hv => if_neg fun h => by have := h1 v hv; omega]
/-- The bound after i variables. -/
def bdR (ls ks : List Int) (b : Int) (V : List Int) : Int := b - (V.map fun v => nvs ls ks ls.length v + min (vsum ls ks ls.length v) 0).sum
theorem bdR_snoc (ls ks : List Int) (b : Int) (V : List Int) (v : Int) : bdR ls ks b (V ++ [v]) = bdR ls ks b V - nvs ls ks ls.length v - min (vsum ls ks ls.length v) 0 := by
  unfold bdR
  simp
  omega
theorem bdR_bounds {ls ks : List Int} {b : Int} (h : ∀ i, i < ls.length → inB ls ks i = true) (hl : ls.length ≤ 65536) (h1 : -1099511627776 ≤ b) (h2 : b ≤ 1099511627776) : ∀ V : List Int, -1099511627776 - V.length * 2199023255552 ≤ bdR ls ks b V ∧ bdR ls ks b V ≤ 1099511627776 + V.length * 2199023255552 := by
  have hk : ∀ n (V : List Int), V.length = n → -1099511627776 - V.length * 2199023255552 ≤ bdR ls ks b V ∧ bdR ls ks b V ≤ 1099511627776 + V.length * 2199023255552 := by
    intro n
    induction n with
    | zero => intro V e; rw [List.length_eq_zero_iff.1 e]; unfold bdR; simp; omega
    | succ n ih =>
      intro V e
      obtain ⟨ys, y, rfl⟩ : ∃ ys y, V = ys ++ [y] := ⟨V.dropLast, V.getLast (by intro h; subst h; cases e), (List.dropLast_concat_getLast _).symm⟩
      have := ih ys (by simp at e; omega)
      have h3 := nvs_bounds (ls := ls) (ks := ks) y ls.length h
      have h4 := vsum_bounds (ls := ls) (ks := ks) y ls.length h
      rw [bdR_snoc, List.length_append, List.length_singleton]
      omega
  exact fun V => hk _ V rfl
def nzR (ls ks V : List Int) : List Int := V.filter fun v => decide (vsum ls ks ls.length v ≠ 0)
theorem nzR_snoc (ls ks V : List Int) (v : Int) : nzR ls ks (V ++ [v]) = nzR ls ks V ++ if vsum ls ks ls.length v ≠ 0 then [v] else [] := by
  unfold nzR
  rw [List.filter_append]
  congr 1
  by_cases e : vsum ls ks ls.length v = 0 <;> simp [e]
section
variable {ls ks : List Int} {b : Int} (h : ∀ i, i < ls.length → inB ls ks i = true)
include h
theorem nzR_all : nzR ls ks (vsR ls ls.length) = normVars ls ks := by
  have hl : ∀ i, i < ls.length → nth ls i ≠ 0 ∧ -65536 ≤ nth ls i ∧ nth ls i ≤ 65536 := fun i hi => litB_iff.1 (inB_lit (h i hi))
  refine (normVars_eq ((vsR_rise ls _).filter _) (fun v hv => ?_) fun l hlm => ?_).symm
  · obtain ⟨h1, h2⟩ := List.mem_filter.1 hv
    obtain ⟨i, hi, e⟩ := (vsR_mem ls v _).1 h1
    have := hl i hi
    exact ⟨by omega, by omega, of_decide_eq_true h2⟩
  · by_cases e : vsum ls ks ls.length (l.natAbs : Nat) = 0
    · exact .inr e
    · obtain ⟨i, hi, e2⟩ := List.getElem_of_mem hlm
      exact .inl (List.mem_filter.2 ⟨(vsR_mem ls _ _).2 ⟨i, hi, by rw [nth_eq hi, e2]⟩, decide_eq_true e⟩)
theorem bdR_all : bdR ls ks b (vsR ls ls.length) = normBd ls ks b := by
  have hl : ∀ i, i < ls.length → nth ls i ≠ 0 ∧ -65536 ≤ nth ls i ∧ nth ls i ≤ 65536 := fun i hi => litB_iff.1 (inB_lit (h i hi))
  unfold bdR normBd
  rw [sum_add, nvs_sum ((vsR_rise ls _).imp fun h => by omega) (fun v hv => by
    obtain ⟨i, hi, e⟩ := (vsR_mem ls v _).1 hv
    have := hl i hi
    omega) _ (fun i hi => by exact (vsR_mem ls _ _).2 ⟨i, hi, rfl⟩)]
  rw [← nzR_all h]
  unfold nzR
  rw [sum_filter _ fun v _ e => by
    have : vsum ls ks ls.length v = 0 := by simpa using e
    rw [this]; rfl]
  omega
end
/-- What a growing slice is. -/
def Grw (B : Nat) (W0 W : World) (v : Value) (n : Nat) (xs : List Int) : Prop := Own W (fun g => B ≤ g) 3 1 v n (ints xs) ∧ Below B W0 W ∧ B ≤ W.heap.size
section
variable {B : Nat} {W0 W W' : World} {v : Value} {n : Nat} {xs : List Int}
theorem Grw.start (w : World) : Grw w.heap.size w w (.slice none 0 0) 0 [] := ⟨Own.nil _ _ _ _, Below.refl _ _, Nat.le_refl _⟩
theorem Grw.below (h : Grw B W0 W v n xs) (hb : Below W.heap.size W W') : Grw B W0 W' v n xs := ⟨h.1.below hb, h.2.1.trans (hb.mono h.2.2), Nat.le_trans h.2.2 hb.size⟩
theorem Grw.alloc (h : Grw B W0 W v n xs) (o : Obj) : Grw B W0 (W.alloc o) v n xs := h.below ((Below.refl _ _).alloc (Nat.le_refl _) _)
theorem Grw.push {u : Value} {n' : Nat} {ys : List Int} (h : Grw B W0 W v n xs) (ho : Own W' (fun b => B ≤ b ∨ W.heap.size ≤ b) 3 1 u n' (ints ys)) (hm : Mod (row v) W W') : Grw B W0 W' u n' ys :=
  ⟨ho.mono fun _ _ _ hF => hF.elim id fun hF => Nat.le_trans h.2.2 hF, below_mod h.2.1 h.2.2 hm fun _ hg => (h.1.row hg).1, Nat.le_trans h.2.2 hm.size⟩
theorem Grw.len (h : Grw B W0 W v n xs) : xs.length = n := by have := h.1.rd.1; simpa [ints_length] using this
end
end Go.Proofs.Ytofobmgmgipomaa
