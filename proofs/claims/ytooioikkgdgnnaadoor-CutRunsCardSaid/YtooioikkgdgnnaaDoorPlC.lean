/-
  Chapter 24: the plain laws of slack and units.
-/
import Derived.Test.YtooioikkgdgnnaaDoorPlB
namespace Go.Proofs.YtooioikkgdgnnaaDoor

theorem Pb.Ok.total_le {c : Pb} (h : c.Ok) {p q : Int → Bool} (hpq : ∀ j, j < c.lits.length → p (nth c.lits j) = true → q (nth c.lits j) = true) : c.total p ≤ c.total q := by
  unfold Pb.total Pb.part
  refine Go.Proofs.YtooioikkgdgnnaaDoor.sum_le _ fun j hj => ?_
  have hj := List.mem_range.1 hj
  have h1 := h.coef j hj
  have h2 := hpq j hj
  cases e1 : p (nth c.lits j) with
  | false => simp; split <;> omega
  | true => rw [h2 e1]; simp
theorem Pb.total_cong {c : Pb} {p q : Int → Bool} (hpq : ∀ j, j < c.lits.length → p (nth c.lits j) = q (nth c.lits j)) : c.total p = c.total q := by
  unfold Pb.total Pb.part
  refine sum_cong _ fun j hj => ?_
  rw [hpq j (List.mem_range.1 hj)]
/-- b is a where a is not 0. -/
def ExtA (a b : List Int) : Prop := ∀ i, nth a i ≠ 0 → nth b i = nth a i
theorem valB_ext {a b : List Int} (h : ExtA a b) {l : Int} (hv : valB a l ≠ 0) : valB b l = valB a l := by
  unfold valB at *
  by_cases e : nth a (l.natAbs - 1) = 0
  · rw [if_pos e] at hv; exact absurd rfl hv
  · rw [h _ e]
theorem slack_grow {c : Pb} {a b : List Int} (h : ExtA a b) : c.slackB b ≤ c.slackB a := by
  unfold Pb.slackB
  by_cases hc : c.ok = true
  · rw [if_pos hc, if_pos hc]
    have := ((Pb.ok_iff c).1 hc).total_le (p := fun l => decide (0 ≤ valB b l)) (q := fun l => decide (0 ≤ valB a l)) fun j _ h1 => by
      rw [decide_eq_true_eq] at *
      by_cases e : valB a (nth c.lits j) = 0
      · omega
      · rw [valB_ext h e] at h1; exact h1
    omega
  · rw [if_neg hc, if_neg hc]; exact Int.le_refl _
theorem holds_grow {c : Pb} {a b : List Int} (h : ExtA a b) (hh : c.holdsB a = true) : c.holdsB b = true := by
  unfold Pb.holdsB at *
  simp only [Bool.and_eq_true, decide_eq_true_eq] at *
  refine ⟨hh.1, ?_⟩
  have := ((Pb.ok_iff c).1 hh.1).total_le (p := fun l => decide (0 < valB a l)) (q := fun l => decide (0 < valB b l)) fun j _ h1 => by
    rw [decide_eq_true_eq] at *
    rw [valB_ext h (by omega)]; exact h1
  omega
theorem holds_slack {c : Pb} {a : List Int} (hh : c.holdsB a = true) : 0 ≤ c.slackB a := by
  unfold Pb.holdsB at hh
  simp only [Bool.and_eq_true, decide_eq_true_eq] at hh
  unfold Pb.slackB
  rw [if_pos hh.1]
  have := ((Pb.ok_iff c).1 hh.1).total_le (p := fun l => decide (0 < valB a l)) (q := fun l => decide (0 ≤ valB a l)) fun j _ h1 => by
    rw [decide_eq_true_eq] at *
    omega
  omega
theorem mem_pick {c : Pb} {q : Int → Int → Bool} {l : Int} : l ∈ c.pick q (List.range c.lits.length) ↔ ∃ j, j < c.lits.length ∧ q (nth c.lits j) (nth c.coefs j) = true ∧ nth c.lits j = l := by
  unfold Pb.pick
  rw [List.mem_map]
  constructor
  · rintro ⟨j, hj, e⟩
    have := List.mem_filter.1 hj
    exact ⟨j, List.mem_range.1 this.1, this.2, e⟩
  · rintro ⟨j, hj, h1, e⟩
    exact ⟨j, List.mem_filter.2 ⟨List.mem_range.2 hj, h1⟩, e⟩
theorem mem_units {c : Pb} {a : List Int} {l : Int} : l ∈ c.unitsB a ↔ (c.ok = true ∧ 0 ≤ c.slackB a) ∧ ∃ j, j < c.lits.length ∧ (valB a (nth c.lits j) = 0 ∧ c.slackB a < nth c.coefs j) ∧ nth c.lits j = l := by
  unfold Pb.unitsB
  by_cases e : c.ok = true ∧ 0 ≤ c.slackB a
  · rw [if_pos e, mem_pick]
    simp only [Bool.and_eq_true, decide_eq_true_eq]
    exact ⟨fun h => ⟨e, h⟩, fun h => h.2⟩
  · rw [if_neg e]
    constructor
    · intro h; cases h
    · intro h; exact absurd h.1 e
theorem valB_zero {a : List Int} {l : Int} : valB a l = 0 ↔ nth a (l.natAbs - 1) = 0 := by
  unfold valB
  by_cases e : nth a (l.natAbs - 1) = 0
  · rw [if_pos e]; exact ⟨fun _ => e, fun _ => rfl⟩
  · rw [if_neg e]
    constructor
    · split <;> intro h <;> cases h
    · intro h; exact absurd h e
theorem units_grow {c : Pb} {a b : List Int} (h : ExtA a b) {l : Int} (hl : l ∈ c.unitsB a) (hs : 0 ≤ c.slackB b) (hb : nth b (l.natAbs - 1) = 0) : l ∈ c.unitsB b := by
  obtain ⟨⟨h1, _⟩, j, hj, ⟨_, h3⟩, e⟩ := mem_units.1 hl
  have h4 := slack_grow (c := c) h
  refine mem_units.2 ⟨⟨h1, hs⟩, j, hj, ⟨valB_zero.2 (by rw [e]; exact hb), by omega⟩, e⟩

/-- The assignment that a list is. -/
def sOf (b : List Int) (v : Int) : Bool := decide (0 < nth b (v.natAbs - 1))
theorem tr_val {b : List Int} {l : Int} (h : nth b (l.natAbs - 1) ≠ 0) (_h0 : l ≠ 0) : decide (0 < valB b l) = tr (sOf b) l := by
  unfold valB tr sOf
  rw [if_neg h, Int.natAbs_neg]
  by_cases e : 0 < l
  · rw [if_pos e]
    by_cases e2 : 0 < nth b (l.natAbs - 1)
    · rw [if_pos (by constructor <;> intro _ <;> omega)]; simp [e2]
    · rw [if_neg (by intro h; exact e2 (h.2 e))]; simp [e2]
  · rw [if_neg e]
    by_cases e2 : 0 < nth b (l.natAbs - 1)
    · rw [if_neg (by intro h; exact e (h.1 e2))]; simp [e2]
    · rw [if_pos (by constructor <;> intro _ <;> omega)]; simp [e2]
theorem tr_cong {s t : Int → Bool} {l : Int} (_h0 : l ≠ 0) (h : s (l.natAbs : Nat) = t (l.natAbs : Nat)) : tr s l = tr t l := by
  unfold tr
  by_cases e : 0 < l
  · rw [if_pos e, if_pos e]; rw [show ((l.natAbs : Nat) : Int) = l by omega] at h; exact h
  · rw [if_neg e, if_neg e]; rw [show ((l.natAbs : Nat) : Int) = -l by omega] at h; rw [h]
theorem holds_tr {c : Pb} (h : c.Ok) {b : List Int} (hb : ∀ j, j < c.lits.length → nth b ((nth c.lits j).natAbs - 1) ≠ 0) : c.holdsB b = decide (c.bound ≤ c.total (tr (sOf b))) := by
  unfold Pb.holdsB
  rw [(Pb.ok_iff c).2 h, Bool.true_and, Pb.total_cong fun j hj => tr_val (hb j hj) (h.lit j hj).1]

/-- s is a total assignment that extends a. -/
def ExtS (a : List Int) (s : Int → Bool) : Prop := ∀ v : Int, 1 ≤ v → nth a (v.natAbs - 1) ≠ 0 → s v = decide (0 < nth a (v.natAbs - 1))
theorem val_tr {a : List Int} {s : Int → Bool} (h : ExtS a s) {l : Int} (h0 : l ≠ 0) (hv : nth a (l.natAbs - 1) ≠ 0) : tr s l = decide (0 < valB a l) := by
  rw [tr_val hv h0]
  refine tr_cong h0 ?_
  rw [h _ (by omega) (by rw [Int.natAbs_natCast]; exact hv)]
  rfl
theorem val_cases (a : List Int) (l : Int) : valB a l = 0 ∨ valB a l = 1 ∨ valB a l = -1 := by
  unfold valB
  split
  · exact .inl rfl
  · split
    · exact .inr (.inl rfl)
    · exact .inr (.inr rfl)
theorem ext_le {c : Pb} (h : c.Ok) {a : List Int} {s : Int → Bool} (hs : ExtS a s) : c.total (tr s) ≤ c.total fun l => decide (0 ≤ valB a l) :=
  h.total_le fun j hj h1 => by
    rw [decide_eq_true_eq]
    by_cases e : nth a ((nth c.lits j).natAbs - 1) = 0
    · rw [valB_zero.2 e]; exact Int.le_refl _
    · rw [val_tr hs (h.lit j hj).1 e, decide_eq_true_eq] at h1
      omega
/-- The best extension, with the variable of l turned against it. -/
def best (c : Pb) (a : List Int) (l : Int) (v : Int) : Bool :=
  if nth a (v.natAbs - 1) ≠ 0 then decide (0 < nth a (v.natAbs - 1)) else if v = ((l.natAbs : Nat) : Int) then decide (l < 0) else decide (v ∈ c.lits)
theorem best_ext (c : Pb) (a : List Int) (l : Int) : ExtS a (best c a l) := fun v _ h => by unfold best; rw [if_pos h]
theorem Pb.Ok.neg_out {c : Pb} (h : c.Ok) {j : Nat} (hj : j < c.lits.length) (hl : nth c.lits j < 0) : ¬ -(nth c.lits j) ∈ c.lits := by
  intro hm
  obtain ⟨i, hi, e⟩ := List.getElem_of_mem hm
  rw [← nth_eq hi] at e
  by_cases hij : i = j
  · subst hij; omega
  · have := h.differ hij hi hj
    unfold Pb.av at this
    omega
theorem best_tr {c : Pb} (h : c.Ok) (a : List Int) {l : Int} {j : Nat} (hj : j < c.lits.length) : tr (best c a l) (nth c.lits j) = if nth c.lits j = l ∧ nth a (l.natAbs - 1) = 0 then false else if nth a ((nth c.lits j).natAbs - 1) = 0 ∧ (nth c.lits j).natAbs = l.natAbs then decide (nth c.lits j = -l) else decide (0 ≤ valB a (nth c.lits j)) := by
  have h0 := (h.lit j hj).1
  by_cases e : nth a ((nth c.lits j).natAbs - 1) = 0
  · have hv := valB_zero.2 e
    rw [hv]
    by_cases e1 : nth c.lits j = l
    · subst e1
      rw [if_pos ⟨rfl, e⟩]
      unfold tr best
      by_cases e2 : 0 < nth c.lits j
      · rw [if_pos e2, if_neg (by simp [e]), if_pos (by omega), decide_eq_false (by omega)]
      · rw [if_neg e2, Int.natAbs_neg, if_neg (by simp [e]), if_pos (by omega), decide_eq_true (by omega)]; rfl
    · rw [if_neg (by intro h; exact e1 h.1)]
      by_cases e3 : (nth c.lits j).natAbs = l.natAbs
      · rw [if_pos ⟨e, e3⟩, decide_eq_true (by omega)]
        unfold tr best
        by_cases e2 : 0 < nth c.lits j
        · rw [if_pos e2, if_neg (by simp [e]), if_pos (by omega), decide_eq_true (by omega)]
        · rw [if_neg e2, Int.natAbs_neg, if_neg (by simp [e]), if_pos (by omega), decide_eq_false (by omega)]; rfl
      · rw [if_neg (by intro h; exact e3 h.2), decide_eq_true (Int.le_refl 0)]
        unfold tr best
        by_cases e2 : 0 < nth c.lits j
        · rw [if_pos e2, if_neg (by simp [e]), if_neg (by omega), decide_eq_true (nth_mem hj)]
        · rw [if_neg e2, Int.natAbs_neg, if_neg (by simp [e]), if_neg (by omega), decide_eq_false (h.neg_out hj (by omega))]; rfl
  · rw [val_tr (best_ext c a l) h0 e]
    rw [if_neg (by rintro ⟨h1, h2⟩; rw [h1] at e; exact e h2), if_neg (by intro h; exact e h.1)]
    rcases val_cases a (nth c.lits j) with h1 | h1 | h1
    · exact absurd (valB_zero.1 h1) e
    · rw [h1]; rfl
    · rw [h1]; rfl
/-- The slack is not negative exactly if an extension satisfies the constraint. -/
theorem slack_some {c : Pb} (h : c.Ok) (a : List Int) : 0 ≤ c.slackB a ↔ ∃ s, ExtS a s ∧ c.bound ≤ c.total (tr s) := by
  unfold Pb.slackB
  rw [if_pos ((Pb.ok_iff c).2 h)]
  constructor
  · intro hs
    refine ⟨best c a 0, best_ext c a 0, ?_⟩
    rw [Pb.total_cong (q := fun l => decide (0 ≤ valB a l)) fun j hj => by
      rw [best_tr h a hj, if_neg (by intro h2; exact (h.lit j hj).1 h2.1), if_neg (by intro h2; have := (h.lit j hj).1; omega)]]
    omega
  · rintro ⟨s, h1, h2⟩
    have := ext_le h h1
    omega
/-- A literal is a unit exactly if it is unknown and true in every extension that satisfies the constraint. -/
theorem units_are {c : Pb} (h : c.Ok) (a : List Int) (hs : 0 ≤ c.slackB a) {i : Nat} (hi : i < c.lits.length) :
    nth c.lits i ∈ c.unitsB a ↔ nth a ((nth c.lits i).natAbs - 1) = 0 ∧ ∀ s, ExtS a s → c.bound ≤ c.total (tr s) → tr s (nth c.lits i) = true := by
  have hk : ∀ j, j < c.lits.length → nth c.lits j = nth c.lits i → j = i := fun j hj e => by
    by_cases e2 : j = i
    · exact e2
    · have := h.differ e2 hj hi
      unfold Pb.av at this
      rw [e] at this
      exact absurd rfl this
  rw [mem_units]
  constructor
  · rintro ⟨_, j, hj, ⟨h1, h2⟩, e⟩
    have := hk j hj e
    subst this
    refine ⟨valB_zero.1 h1, fun s hs2 hb => ?_⟩
    cases ht : tr s (nth c.lits j) with
    | true => rfl
    | false =>
      exfalso
      have h3 : c.total (tr s) + nth c.coefs j ≤ c.total fun l => decide (0 ≤ valB a l) := by
        unfold Pb.total Pb.part
        have e4 : nth c.coefs j = ((List.range c.lits.length).map fun q => if q = j then nth c.coefs q else 0).sum := by
          rw [pick_sum (x := j) _ List.nodup_range (List.mem_range.2 hj) fun q _ hne => if_neg hne, if_pos rfl]
        rw [e4, ← sum_add]
        refine Go.Proofs.YtooioikkgdgnnaaDoor.sum_le _ fun q hq => ?_
        have hq := List.mem_range.1 hq
        have hc := h.coef q hq
        by_cases e5 : q = j
        · subst e5
          rw [ht, if_neg (by decide), if_pos rfl]
          simp [h1]
        · rw [if_neg e5]
          cases hq2 : tr s (nth c.lits q) with
          | false => simp; split <;> omega
          | true =>
            have h6 : 0 ≤ valB a (nth c.lits q) := by
              by_cases e6 : nth a ((nth c.lits q).natAbs - 1) = 0
              · rw [valB_zero.2 e6]; exact Int.le_refl _
              · rw [val_tr hs2 (h.lit q hq).1 e6, decide_eq_true_eq] at hq2
                omega
            simp [h6]
      unfold Pb.slackB at h2
      rw [if_pos ((Pb.ok_iff c).2 h)] at h2
      omega
  · rintro ⟨h1, h2⟩
    refine ⟨⟨(Pb.ok_iff c).2 h, hs⟩, i, hi, ⟨valB_zero.2 h1, ?_⟩, rfl⟩
    have h3 := h2 (best c a (nth c.lits i)) (best_ext _ _ _)
    have h4 : c.total (tr (best c a (nth c.lits i))) + nth c.coefs i = c.total fun l => decide (0 ≤ valB a l) := by
      unfold Pb.total Pb.part
      have e4 : nth c.coefs i = ((List.range c.lits.length).map fun q => if q = i then nth c.coefs q else 0).sum := by
        rw [pick_sum (x := i) _ List.nodup_range (List.mem_range.2 hi) fun q _ hne => if_neg hne, if_pos rfl]
      rw [e4, ← sum_add]
      refine sum_cong _ fun q hq => ?_
      have hq := List.mem_range.1 hq
      rw [best_tr h a hq]
      by_cases e5 : q = i
      · subst e5
        rw [if_pos (show nth c.lits q = nth c.lits q ∧ _ from ⟨rfl, h1⟩), if_neg (by decide), if_pos rfl]
        simp [valB_zero.2 h1]
      · have h6 := h.differ e5 hq hi
        unfold Pb.av at h6
        have g1 : ¬ (nth c.lits q = nth c.lits i ∧ nth a ((nth c.lits i).natAbs - 1) = 0) := fun h7 => e5 (hk q hq h7.1)
        have g2 : ¬ (nth a ((nth c.lits q).natAbs - 1) = 0 ∧ (nth c.lits q).natAbs = (nth c.lits i).natAbs) := fun h7 => by omega
        rw [if_neg g1, if_neg g2, if_neg e5]
        simp
    rw [best_tr h a hi, if_pos ⟨rfl, h1⟩] at h3
    have h5 : ¬ c.bound ≤ c.total (tr (best c a (nth c.lits i))) := fun h6 => by cases h3 h6
    unfold Pb.slackB
    rw [if_pos ((Pb.ok_iff c).2 h)]
    omega
/-- No literal is a unit twice, none beside its negation. -/
theorem units_nodup {c : Pb} (h : c.Ok) (a : List Int) : (c.unitsB a).Nodup := by
  unfold Pb.unitsB
  split
  · unfold Pb.pick
    unfold List.Nodup
    rw [List.pairwise_map]
    refine (List.nodup_range.filter _).imp_of_mem fun {x y} hx hy hne e => ?_
    have hx := List.mem_range.1 (List.mem_filter.1 hx).1
    have hy := List.mem_range.1 (List.mem_filter.1 hy).1
    have := h.differ hne hx hy
    unfold Pb.av at this
    rw [e] at this
    exact absurd rfl this
  · exact List.nodup_nil
end Go.Proofs.YtooioikkgdgnnaaDoor
