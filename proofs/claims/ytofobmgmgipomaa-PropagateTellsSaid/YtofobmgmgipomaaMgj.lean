/-
  Chapter 29: several texts in one (PbL PlB PlC PbW).
-/
import Derived.Test.YtofobmgmgipomaaMgg
import Derived.Test.YtofobmgmgipomaaMgi
import Derived.Test.YtofobmgmgipomaaMge
import Derived.Laws.BitsAllLaws
namespace Go.Proofs.Ytofobmgmgipomaa
section
open Go.RowKit Go.Maps
attribute [local go_sem] Oper.semAt_some

/-- The literals at the places js, negated. -/
def Pb.flip (c : Pb) (js : List Nat) : List Int := js.map fun j => -(nth c.lits j)
theorem Pb.flip_snoc (c : Pb) (js : List Nat) (j : Nat) : c.flip (js ++ [j]) = c.flip js ++ [-(nth c.lits j)] := by simp [Pb.flip]
theorem Pb.flip_len (c : Pb) (js : List Nat) : (c.flip js).length = js.length := by simp [Pb.flip]
theorem Pb.flip_all (c : Pb) : c.flip (List.range c.lits.length) = c.lits.map fun l => -l := by
  apply List.ext_getElem
  · simp [Pb.flip]
  · intro i h1 h2
    simp only [Pb.flip, List.getElem_map, List.getElem_range]
    rw [nth_eq (by simpa using h2)]
theorem Pb.part_all (c : Pb) (hl : c.lits.length = c.coefs.length) : c.part (fun _ => true) (List.range c.lits.length) = c.coefs.sum := by
  unfold Pb.part
  congr 1
  apply List.ext_getElem
  · simp [hl]
  · intro i h1 h2
    simp only [List.getElem_map, List.getElem_range, if_true]
    rw [nth_eq h2]
def Pb.negB (c : Pb) : Pb × Int := if c.ok = true then normed (c.lits.map fun l => -l) c.coefs (c.coefs.sum - c.bound + 1) else (⟨[], [], 0⟩, 2)
end

theorem nth_range (xs : List Int) : (List.range xs.length).map (nth xs) = xs := by
  apply List.ext_getElem (by simp)
  intro i h1 h2
  simp only [List.getElem_map, List.getElem_range]
  rw [nth_eq h2]
def Pb.av (c : Pb) (j : Nat) : Int := (((nth c.lits j).natAbs : Nat) : Int)
theorem Pb.Ok.pair {c : Pb} (h : c.Ok) {i j : Nat} (hij : i < j) (hj : j < c.lits.length) : c.av i < c.av j := by
  induction j with
  | zero => omega
  | succ j ih =>
    have h1 := h.rise (j + 1) hj
    have h2 : c.last (j + 1) = c.av j := by unfold Pb.last Pb.av; rw [if_neg (by omega)]; rfl
    rw [h2] at h1
    rcases Nat.lt_or_ge i j with e | e
    · have := ih e (by omega)
      unfold Pb.av at *
      omega
    · have : i = j := by omega
      subst this
      exact h1
theorem Pb.Ok.differ {c : Pb} (h : c.Ok) {i j : Nat} (hij : i ≠ j) (hi : i < c.lits.length) (hj : j < c.lits.length) : c.av i ≠ c.av j := by
  rcases Nat.lt_or_ge i j with e | e
  · have := h.pair e hj; omega
  · have := h.pair (by omega : j < i) hi; omega
theorem Pb.Ok.vsum {c : Pb} (h : c.Ok) {i : Nat} (hi : i < c.lits.length) : vsum c.lits c.coefs c.lits.length (c.av i) = if nth c.lits i < 0 then -(nth c.coefs i) else nth c.coefs i := by
  unfold Go.Proofs.Ytofobmgmgipomaa.vsum
  rw [pick_sum (x := i) (List.range c.lits.length) List.nodup_range (List.mem_range.2 hi) fun j hj hne => by
    have hj := List.mem_range.1 hj
    have h1 := h.differ hne hj hi
    have h2 := h.lit j hj
    unfold Pb.av at h1 ⊢
    unfold term
    rw [if_neg (by omega), if_neg (by omega)]]
  have h2 := h.lit i hi
  unfold Pb.av term
  by_cases e : nth c.lits i < 0
  · rw [if_neg (by omega), if_pos (by omega), if_pos e]
  · rw [if_pos (by omega), if_neg e]
theorem Pb.Ok.vsum0 {c : Pb} (h : c.Ok) {v : Int} (hv : ∀ i, i < c.lits.length → c.av i ≠ v) (h1 : 1 ≤ v) : Go.Proofs.Ytofobmgmgipomaa.vsum c.lits c.coefs c.lits.length v = 0 := by
  unfold Go.Proofs.Ytofobmgmgipomaa.vsum
  refine sum_zero _ fun j hj => ?_
  have hj := List.mem_range.1 hj
  have h2 := hv j hj
  have h3 := h.lit j hj
  unfold Pb.av at h2
  unfold term
  rw [if_neg (by omega), if_neg (by omega)]
theorem Pb.Ok.vars {c : Pb} (h : c.Ok) : normVars c.lits c.coefs = (List.range c.lits.length).map c.av := by
  have hr := normVars_rise c.lits c.coefs
  have hp : ((List.range c.lits.length).map c.av).Pairwise (fun x y => x < y) := by
    rw [List.pairwise_map]
    refine List.pairwise_iff_getElem.2 fun i j hi hj hij => ?_
    rw [List.getElem_range, List.getElem_range]
    exact h.pair hij (by simpa using hj)
  have hperm : (normVars c.lits c.coefs).Perm ((List.range c.lits.length).map c.av) := by
    refine (List.perm_ext_iff_of_nodup (hr.imp fun h => by omega) (hp.imp fun h => by omega)).2 fun v => ?_
    rw [mem_normVars, List.mem_map]
    constructor
    · rintro ⟨h1, h2, h3⟩
      by_cases e : ∃ i, i < c.lits.length ∧ c.av i = v
      · obtain ⟨i, hi, e⟩ := e
        exact ⟨i, List.mem_range.2 hi, e⟩
      · exact absurd (h.vsum0 (fun i hi e2 => e ⟨i, hi, e2⟩) h1) h3
    · rintro ⟨i, hi, rfl⟩
      have hi := List.mem_range.1 hi
      have h1 := h.lit i hi
      have h2 := h.coef i hi
      rw [h.vsum hi]
      unfold Pb.av
      refine ⟨by omega, by omega, ?_⟩
      split <;> omega
  exact List.Perm.eq_of_pairwise (le := fun x y : Int => x ≤ y) (fun a b _ _ h1 h2 => by omega) (hr.imp fun h => by omega) (hp.imp fun h => by omega) hperm
theorem Pb.Ok.bd {c : Pb} (h : c.Ok) : normBd c.lits c.coefs c.bound = c.bound := by
  unfold normBd
  rw [h.vars, List.map_map]
  have e : ((List.range c.lits.length).map ((fun v => min (Go.Proofs.Ytofobmgmgipomaa.vsum c.lits c.coefs c.lits.length v) 0) ∘ c.av)).sum + nsum c.lits c.coefs c.lits.length = 0 := by
    unfold nsum
    rw [← sum_add]
    refine sum_zero _ fun j hj => ?_
    have hj := List.mem_range.1 hj
    have h2 := h.coef j hj
    show min (Go.Proofs.Ytofobmgmgipomaa.vsum c.lits c.coefs c.lits.length (c.av j)) 0 + _ = 0
    rw [h.vsum hj]
    split <;> omega
  omega
theorem Pb.Ok.cs {c : Pb} (h : c.Ok) : normCoefs c.lits c.coefs c.bound = c.coefs := by
  unfold normCoefs
  rw [h.vars, List.map_map, h.bd]
  have : (List.range c.lits.length).map ((fun v => min (((Go.Proofs.Ytofobmgmgipomaa.vsum c.lits c.coefs c.lits.length v).natAbs : Nat) : Int) c.bound) ∘ c.av) = (List.range c.coefs.length).map (nth c.coefs) := by
    rw [← h.len]
    refine List.map_congr_left fun j hj => ?_
    have hj := List.mem_range.1 hj
    have h2 := h.coef j hj
    show min (((Go.Proofs.Ytofobmgmgipomaa.vsum c.lits c.coefs c.lits.length (c.av j)).natAbs : Nat) : Int) c.bound = _
    rw [h.vsum hj]
    split <;> omega
  rw [this, nth_range]
theorem Pb.Ok.ls {c : Pb} (h : c.Ok) : ((normVars c.lits c.coefs).map fun v => sg (Go.Proofs.Ytofobmgmgipomaa.vsum c.lits c.coefs c.lits.length v) v) = c.lits := by
  rw [h.vars, List.map_map]
  have : (List.range c.lits.length).map ((fun v => sg (Go.Proofs.Ytofobmgmgipomaa.vsum c.lits c.coefs c.lits.length v) v) ∘ c.av) = (List.range c.lits.length).map (nth c.lits) := by
    refine List.map_congr_left fun j hj => ?_
    have hj := List.mem_range.1 hj
    have h2 := h.coef j hj
    show sg (Go.Proofs.Ytofobmgmgipomaa.vsum c.lits c.coefs c.lits.length (c.av j)) (c.av j) = _
    rw [h.vsum hj]
    unfold sg Pb.av
    by_cases e : nth c.lits j < 0
    · rw [if_pos e, if_pos (by omega)]; omega
    · rw [if_neg e, if_neg (by omega)]; omega
  rw [this, nth_range]
theorem Pb.Ok.inn {c : Pb} (h : c.Ok) : normOk c.lits c.coefs c.bound = true := by
  have h1 := h.low
  have h2 := h.high
  refine normOk_iff.2 ⟨h.len, h.few, by omega, by omega, fun i hi => ?_⟩
  have h3 := h.lit i hi
  have h4 := h.coef i hi
  unfold inB litB
  simp only [Bool.and_eq_true, decide_eq_true_eq]
  exact ⟨⟨h3, by omega⟩, by omega⟩
/-- A normal form is its own normal form. -/
theorem Pb.Ok.again {c : Pb} (h : c.Ok) : normed c.lits c.coefs c.bound = (c, 0) := by
  rw [normed_sg, if_neg (by rw [h.inn]; decide), h.bd, h.cs, h.ls]
  have h1 := h.low
  have h2 := h.high
  have h3 := h.sums
  unfold Pb.sum at h3
  rw [List.take_of_length_le (by rw [h.len]; exact Nat.le_refl _)] at h3
  obtain ⟨ls, ks, b⟩ := c
  by_cases e1 : b ≤ 0
  · have hn : ls.length = 0 := by
      rcases Nat.eq_zero_or_pos ls.length with e | e
      · exact e
      · have := h.coef 0 e
        dsimp only at this
        omega
    have hk : ks.length = 0 := by have := h.len; dsimp only at this; omega
    have e3 := List.length_eq_zero_iff.1 hn
    have e4 := List.length_eq_zero_iff.1 hk
    dsimp only at h1
    have e5 : b = 0 := by omega
    subst e3 e4 e5
    rfl
  · dsimp only at *
    rw [if_neg e1]
    by_cases e2 : ks.sum < b
    · rcases h3 with h3 | ⟨h3, h4⟩
      · omega
      · have hk : ks.length = 0 := by have := h.len; dsimp only at this; omega
        have e3 := List.length_eq_zero_iff.1 h3
        have e4 := List.length_eq_zero_iff.1 hk
        subst e3 e4 h4
        rfl
    · rw [if_neg e2, if_neg (by omega)]

/-- The negation. -/
theorem tr_neg (s : Int → Bool) {l : Int} (h : l ≠ 0) : tr s (-l) = !(tr s l) := by
  unfold tr
  by_cases e : 0 < l
  · rw [if_neg (by omega), if_pos e, Int.neg_neg]
  · rw [if_pos (by omega), if_neg e, Bool.not_not]
theorem Pb.Ok.got_neg {c : Pb} (h : c.Ok) (s : Int → Bool) : got s (c.lits.map fun l => -l) c.coefs c.lits.length + c.total (tr s) = c.coefs.sum := by
  have e : c.coefs.sum = ((List.range c.lits.length).map (nth c.coefs)).sum := by rw [h.len, nth_range]
  rw [total_got, e]
  unfold got
  rw [← sum_add]
  refine sum_cong _ fun j hj => ?_
  have hj := List.mem_range.1 hj
  rw [nth_map hj, tr_neg s (h.lit j hj).1]
  cases tr s (nth c.lits j) <;> simp
theorem Pb.Ok.sum_le {c : Pb} (h : c.Ok) {K : Int} (hK : c.bound ≤ K) : 0 ≤ c.coefs.sum ∧ c.coefs.sum ≤ c.lits.length * K := by
  rw [h.len]
  refine sums_bounds _ fun x hx => ?_
  obtain ⟨i, hi, e⟩ := List.getElem_of_mem hx
  have := h.coef i (by rw [h.len]; exact hi)
  rw [nth_eq hi, e] at this
  omega
theorem Pb.Ok.neg_in {c : Pb} (h : c.Ok) {K : Int} (hK : c.bound ≤ K) (hK1 : 0 ≤ K) (h8 : c.lits.length ≤ 8) (hK2 : K ≤ 65536) : normOk (c.lits.map fun l => -l) c.coefs (c.coefs.sum - c.bound + 1) = true ∧ (c.negB).2 = 0 := by
  obtain ⟨h1, h2⟩ := h.sum_le hK
  have h3 := h.low
  have h4 : (c.lits.length : Int) * K ≤ 8 * K := Int.mul_le_mul_of_nonneg_right (by omega) hK1
  have hin : normOk (c.lits.map fun l => -l) c.coefs (c.coefs.sum - c.bound + 1) = true := by
    refine normOk_iff.2 ⟨by rw [List.length_map]; exact h.len, by rw [List.length_map]; exact h.few, by omega, by omega, fun i hi => ?_⟩
    have hi : i < c.lits.length := by simpa using hi
    have h5 := h.lit i hi
    have h6 := h.coef i hi
    unfold inB litB
    rw [nth_map hi]
    simp only [Bool.and_eq_true, decide_eq_true_eq]
    exact ⟨⟨by omega, by omega⟩, by omega⟩
  refine ⟨hin, ?_⟩
  unfold Pb.negB
  rw [if_pos ((Pb.ok_iff c).2 h)]
  refine norm_fits hin ?_
  have h7 := normBd_le (ls := c.lits.map fun l => -l) (ks := c.coefs) (b := c.coefs.sum - c.bound + 1) (K := K) fun i hi => by
    have hi : i < c.lits.length := by simpa using hi
    have h5 := h.lit i hi
    have h6 := h.coef i hi
    rw [nth_map hi]
    exact ⟨litB_iff.2 (by omega), by omega, by omega⟩
  rw [List.length_map] at h7
  omega
theorem Pb.Ok.neg_holds {c : Pb} (h : c.Ok) {K : Int} (hK : c.bound ≤ K) (hK1 : 0 ≤ K) (h8 : c.lits.length ≤ 8) (hK2 : K ≤ 65536) (s : Int → Bool) :
    c.negB.1.bound ≤ c.negB.1.total (tr s) ↔ ¬ (c.bound ≤ c.total (tr s)) := by
  obtain ⟨h1, h2⟩ := h.neg_in hK hK1 h8 hK2
  have h3 := h.got_neg s
  unfold Pb.negB at h2 ⊢
  rw [if_pos ((Pb.ok_iff c).2 h)] at h2 ⊢
  rw [norm_holds s h1 h2, List.length_map]
  omega

theorem Pb.Ok.total_le {c : Pb} (h : c.Ok) {p q : Int → Bool} (hpq : ∀ j, j < c.lits.length → p (nth c.lits j) = true → q (nth c.lits j) = true) : c.total p ≤ c.total q := by
  unfold Pb.total Pb.part
  refine Go.Proofs.Ytofobmgmgipomaa.sum_le _ fun j hj => ?_
  have hj := List.mem_range.1 hj
  have h1 := h.coef j hj
  have h2 := hpq j hj
  cases e1 : p (nth c.lits j) with
  | false => simp; split <;> omega
  | true => rw [h2 e1]; simp
theorem Pb.total_cong {c : Pb} {p q : Int → Bool} (hpq : ∀ j, j < c.lits.length → p (nth c.lits j) = q (nth c.lits j)) : c.total p = c.total q := by
  unfold Pb.total Pb.part
  refine sum_cong _ fun j hj => ?_
  rw [hpq j (List.mem_range.1 hj)]
/-- b is a where a is not 0. -/
def ExtA (a b : List Int) : Prop := ∀ i, nth a i ≠ 0 → nth b i = nth a i
theorem valB_ext {a b : List Int} (h : ExtA a b) {l : Int} (hv : valB a l ≠ 0) : valB b l = valB a l := by
  unfold valB at *
  by_cases e : nth a (l.natAbs - 1) = 0
  · rw [if_pos e] at hv; exact absurd rfl hv
  · rw [h _ e]
theorem slack_grow {c : Pb} {a b : List Int} (h : ExtA a b) : c.slackB b ≤ c.slackB a := by
  unfold Pb.slackB
  by_cases hc : c.ok = true
  · rw [if_pos hc, if_pos hc]
    have := ((Pb.ok_iff c).1 hc).total_le (p := fun l => decide (0 ≤ valB b l)) (q := fun l => decide (0 ≤ valB a l)) fun j _ h1 => by
      rw [decide_eq_true_eq] at *
      by_cases e : valB a (nth c.lits j) = 0
      · omega
      · rw [valB_ext h e] at h1; exact h1
    omega
  · rw [if_neg hc, if_neg hc]; exact Int.le_refl _
theorem holds_grow {c : Pb} {a b : List Int} (h : ExtA a b) (hh : c.holdsB a = true) : c.holdsB b = true := by
  unfold Pb.holdsB at *
  simp only [Bool.and_eq_true, decide_eq_true_eq] at *
  refine ⟨hh.1, ?_⟩
  have := ((Pb.ok_iff c).1 hh.1).total_le (p := fun l => decide (0 < valB a l)) (q := fun l => decide (0 < valB b l)) fun j _ h1 => by
    rw [decide_eq_true_eq] at *
    rw [valB_ext h (by omega)]; exact h1
  omega
theorem holds_slack {c : Pb} {a : List Int} (hh : c.holdsB a = true) : 0 ≤ c.slackB a := by
  unfold Pb.holdsB at hh
  simp only [Bool.and_eq_true, decide_eq_true_eq] at hh
  unfold Pb.slackB
  rw [if_pos hh.1]
  have := ((Pb.ok_iff c).1 hh.1).total_le (p := fun l => decide (0 < valB a l)) (q := fun l => decide (0 ≤ valB a l)) fun j _ h1 => by
    rw [decide_eq_true_eq] at *
    omega
  omega
theorem mem_pick {c : Pb} {q : Int → Int → Bool} {l : Int} : l ∈ c.pick q (List.range c.lits.length) ↔ ∃ j, j < c.lits.length ∧ q (nth c.lits j) (nth c.coefs j) = true ∧ nth c.lits j = l := by
  unfold Pb.pick
  rw [List.mem_map]
  constructor
  · rintro ⟨j, hj, e⟩
    have := List.mem_filter.1 hj
    exact ⟨j, List.mem_range.1 this.1, this.2, e⟩
  · rintro ⟨j, hj, h1, e⟩
    exact ⟨j, List.mem_filter.2 ⟨List.mem_range.2 hj, h1⟩, e⟩
theorem mem_units {c : Pb} {a : List Int} {l : Int} : l ∈ c.unitsB a ↔ (c.ok = true ∧ 0 ≤ c.slackB a) ∧ ∃ j, j < c.lits.length ∧ (valB a (nth c.lits j) = 0 ∧ c.slackB a < nth c.coefs j) ∧ nth c.lits j = l := by
  unfold Pb.unitsB
  by_cases e : c.ok = true ∧ 0 ≤ c.slackB a
  · rw [if_pos e, mem_pick]
    simp only [Bool.and_eq_true, decide_eq_true_eq]
    exact ⟨fun h => ⟨e, h⟩, fun h => h.2⟩
  · rw [if_neg e]
    constructor
    · intro h; cases h
    · intro h; exact absurd h.1 e
theorem valB_zero {a : List Int} {l : Int} : valB a l = 0 ↔ nth a (l.natAbs - 1) = 0 := by
  unfold valB
  by_cases e : nth a (l.natAbs - 1) = 0
  · rw [if_pos e]; exact ⟨fun _ => e, fun _ => rfl⟩
  · rw [if_neg e]
    constructor
    · split <;> intro h <;> cases h
    · intro h; exact absurd h e
theorem units_grow {c : Pb} {a b : List Int} (h : ExtA a b) {l : Int} (hl : l ∈ c.unitsB a) (hs : 0 ≤ c.slackB b) (hb : nth b (l.natAbs - 1) = 0) : l ∈ c.unitsB b := by
  obtain ⟨⟨h1, _⟩, j, hj, ⟨_, h3⟩, e⟩ := mem_units.1 hl
  have h4 := slack_grow (c := c) h
  refine mem_units.2 ⟨⟨h1, hs⟩, j, hj, ⟨valB_zero.2 (by rw [e]; exact hb), by omega⟩, e⟩

/-- The assignment that a list is. -/
def sOf (b : List Int) (v : Int) : Bool := decide (0 < nth b (v.natAbs - 1))
theorem tr_val {b : List Int} {l : Int} (h : nth b (l.natAbs - 1) ≠ 0) (_h0 : l ≠ 0) : decide (0 < valB b l) = tr (sOf b) l := by
  unfold valB tr sOf
  rw [if_neg h, Int.natAbs_neg]
  by_cases e : 0 < l
  · rw [if_pos e]
    by_cases e2 : 0 < nth b (l.natAbs - 1)
    · rw [if_pos (by constructor <;> intro _ <;> omega)]; simp [e2]
    · rw [if_neg (by intro h; exact e2 (h.2 e))]; simp [e2]
  · rw [if_neg e]
    by_cases e2 : 0 < nth b (l.natAbs - 1)
    · rw [if_neg (by intro h; exact e (h.1 e2))]; simp [e2]
    · rw [if_pos (by constructor <;> intro _ <;> omega)]; simp [e2]
theorem tr_cong {s t : Int → Bool} {l : Int} (_h0 : l ≠ 0) (h : s (l.natAbs : Nat) = t (l.natAbs : Nat)) : tr s l = tr t l := by
  unfold tr
  by_cases e : 0 < l
  · rw [if_pos e, if_pos e]; rw [show ((l.natAbs : Nat) : Int) = l by omega] at h; exact h
  · rw [if_neg e, if_neg e]; rw [show ((l.natAbs : Nat) : Int) = -l by omega] at h; rw [h]
theorem holds_tr {c : Pb} (h : c.Ok) {b : List Int} (hb : ∀ j, j < c.lits.length → nth b ((nth c.lits j).natAbs - 1) ≠ 0) : c.holdsB b = decide (c.bound ≤ c.total (tr (sOf b))) := by
  unfold Pb.holdsB
  rw [(Pb.ok_iff c).2 h, Bool.true_and, Pb.total_cong fun j hj => tr_val (hb j hj) (h.lit j hj).1]

/-- s is a total assignment that extends a. -/
def ExtS (a : List Int) (s : Int → Bool) : Prop := ∀ v : Int, 1 ≤ v → nth a (v.natAbs - 1) ≠ 0 → s v = decide (0 < nth a (v.natAbs - 1))
theorem val_tr {a : List Int} {s : Int → Bool} (h : ExtS a s) {l : Int} (h0 : l ≠ 0) (hv : nth a (l.natAbs - 1) ≠ 0) : tr s l = decide (0 < valB a l) := by
  rw [tr_val hv h0]
  refine tr_cong h0 ?_
  rw [h _ (by omega) (by rw [Int.natAbs_natCast]; exact hv)]
  rfl
theorem val_cases (a : List Int) (l : Int) : valB a l = 0 ∨ valB a l = 1 ∨ valB a l = -1 := by
  unfold valB
  split
  · exact .inl rfl
  · split
    · exact .inr (.inl rfl)
    · exact .inr (.inr rfl)
theorem ext_le {c : Pb} (h : c.Ok) {a : List Int} {s : Int → Bool} (hs : ExtS a s) : c.total (tr s) ≤ c.total fun l => decide (0 ≤ valB a l) :=
  h.total_le fun j hj h1 => by
    rw [decide_eq_true_eq]
    by_cases e : nth a ((nth c.lits j).natAbs - 1) = 0
    · rw [valB_zero.2 e]; exact Int.le_refl _
    · rw [val_tr hs (h.lit j hj).1 e, decide_eq_true_eq] at h1
      omega
/-- The best extension, with the variable of l turned against it. -/
def best (c : Pb) (a : List Int) (l : Int) (v : Int) : Bool :=
  if nth a (v.natAbs - 1) ≠ 0 then decide (0 < nth a (v.natAbs - 1)) else if v = ((l.natAbs : Nat) : Int) then decide (l < 0) else decide (v ∈ c.lits)
theorem best_ext (c : Pb) (a : List Int) (l : Int) : ExtS a (best c a l) := fun v _ h => by unfold best; rw [if_pos h]
theorem Pb.Ok.neg_out {c : Pb} (h : c.Ok) {j : Nat} (hj : j < c.lits.length) (hl : nth c.lits j < 0) : ¬ -(nth c.lits j) ∈ c.lits := by
  intro hm
  obtain ⟨i, hi, e⟩ := List.getElem_of_mem hm
  rw [← nth_eq hi] at e
  by_cases hij : i = j
  · subst hij; omega
  · have := h.differ hij hi hj
    unfold Pb.av at this
    omega
theorem best_tr {c : Pb} (h : c.Ok) (a : List Int) {l : Int} {j : Nat} (hj : j < c.lits.length) : tr (best c a l) (nth c.lits j) = if nth c.lits j = l ∧ nth a (l.natAbs - 1) = 0 then false else if nth a ((nth c.lits j).natAbs - 1) = 0 ∧ (nth c.lits j).natAbs = l.natAbs then decide (nth c.lits j = -l) else decide (0 ≤ valB a (nth c.lits j)) := by
  have h0 := (h.lit j hj).1
  by_cases e : nth a ((nth c.lits j).natAbs - 1) = 0
  · have hv := valB_zero.2 e
    rw [hv]
    by_cases e1 : nth c.lits j = l
    · subst e1
      rw [if_pos ⟨rfl, e⟩]
      unfold tr best
      by_cases e2 : 0 < nth c.lits j
      · rw [if_pos e2, if_neg (by simp [e]), if_pos (by omega), decide_eq_false (by omega)]
      · rw [if_neg e2, Int.natAbs_neg, if_neg (by simp [e]), if_pos (by omega), decide_eq_true (by omega)]; rfl
    · rw [if_neg (by intro h; exact e1 h.1)]
      by_cases e3 : (nth c.lits j).natAbs = l.natAbs
      · rw [if_pos ⟨e, e3⟩, decide_eq_true (by omega)]
        unfold tr best
        by_cases e2 : 0 < nth c.lits j
        · rw [if_pos e2, if_neg (by simp [e]), if_pos (by omega), decide_eq_true (by omega)]
        · rw [if_neg e2, Int.natAbs_neg, if_neg (by simp [e]), if_pos (by omega), decide_eq_false (by omega)]; rfl
      · rw [if_neg (by intro h; exact e3 h.2), decide_eq_true (Int.le_refl 0)]
        unfold tr best
        by_cases e2 : 0 < nth c.lits j
        · rw [if_pos e2, if_neg (by simp [e]), if_neg (by omega), decide_eq_true (nth_mem hj)]
        · rw [if_neg e2, Int.natAbs_neg, if_neg (by simp [e]), if_neg (by omega), decide_eq_false (h.neg_out hj (by omega))]; rfl
  · rw [val_tr (best_ext c a l) h0 e]
    rw [if_neg (by rintro ⟨h1, h2⟩; rw [h1] at e; exact e h2), if_neg (by intro h; exact e h.1)]
    rcases val_cases a (nth c.lits j) with h1 | h1 | h1
    · exact absurd (valB_zero.1 h1) e
    · rw [h1]; rfl
    · rw [h1]; rfl
/-- The slack is not negative exactly if an extension satisfies the constraint. -/
theorem slack_some {c : Pb} (h : c.Ok) (a : List Int) : 0 ≤ c.slackB a ↔ ∃ s, ExtS a s ∧ c.bound ≤ c.total (tr s) := by
  unfold Pb.slackB
  rw [if_pos ((Pb.ok_iff c).2 h)]
  constructor
  · intro hs
    refine ⟨best c a 0, best_ext c a 0, ?_⟩
    rw [Pb.total_cong (q := fun l => decide (0 ≤ valB a l)) fun j hj => by
      rw [best_tr h a hj, if_neg (by intro h2; exact (h.lit j hj).1 h2.1), if_neg (by intro h2; have := (h.lit j hj).1; omega)]]
    omega
  · rintro ⟨s, h1, h2⟩
    have := ext_le h h1
    omega
/-- A literal is a unit exactly if it is unknown and true in every extension that satisfies the constraint. -/
theorem units_are {c : Pb} (h : c.Ok) (a : List Int) (hs : 0 ≤ c.slackB a) {i : Nat} (hi : i < c.lits.length) :
    nth c.lits i ∈ c.unitsB a ↔ nth a ((nth c.lits i).natAbs - 1) = 0 ∧ ∀ s, ExtS a s → c.bound ≤ c.total (tr s) → tr s (nth c.lits i) = true := by
  have hk : ∀ j, j < c.lits.length → nth c.lits j = nth c.lits i → j = i := fun j hj e => by
    by_cases e2 : j = i
    · exact e2
    · have := h.differ e2 hj hi
      unfold Pb.av at this
      rw [e] at this
      exact absurd rfl this
  rw [mem_units]
  constructor
  · rintro ⟨_, j, hj, ⟨h1, h2⟩, e⟩
    have := hk j hj e
    subst this
    refine ⟨valB_zero.1 h1, fun s hs2 hb => ?_⟩
    cases ht : tr s (nth c.lits j) with
    | true => rfl
    | false =>
      exfalso
      have h3 : c.total (tr s) + nth c.coefs j ≤ c.total fun l => decide (0 ≤ valB a l) := by
        unfold Pb.total Pb.part
        have e4 : nth c.coefs j = ((List.range c.lits.length).map fun q => if q = j then nth c.coefs q else 0).sum := by
          rw [pick_sum (x := j) _ List.nodup_range (List.mem_range.2 hj) fun q _ hne => if_neg hne, if_pos rfl]
        rw [e4, ← sum_add]
        refine Go.Proofs.Ytofobmgmgipomaa.sum_le _ fun q hq => ?_
        have hq := List.mem_range.1 hq
        have hc := h.coef q hq
        by_cases e5 : q = j
        · subst e5
          rw [ht, if_neg (by decide), if_pos rfl]
          simp [h1]
        · rw [if_neg e5]
          cases hq2 : tr s (nth c.lits q) with
          | false => simp; split <;> omega
          | true =>
            have h6 : 0 ≤ valB a (nth c.lits q) := by
              by_cases e6 : nth a ((nth c.lits q).natAbs - 1) = 0
              · rw [valB_zero.2 e6]; exact Int.le_refl _
              · rw [val_tr hs2 (h.lit q hq).1 e6, decide_eq_true_eq] at hq2
                omega
            simp [h6]
      unfold Pb.slackB at h2
      rw [if_pos ((Pb.ok_iff c).2 h)] at h2
      omega
  · rintro ⟨h1, h2⟩
    refine ⟨⟨(Pb.ok_iff c).2 h, hs⟩, i, hi, ⟨valB_zero.2 h1, ?_⟩, rfl⟩
    have h3 := h2 (best c a (nth c.lits i)) (best_ext _ _ _)
    have h4 : c.total (tr (best c a (nth c.lits i))) + nth c.coefs i = c.total fun l => decide (0 ≤ valB a l) := by
      unfold Pb.total Pb.part
      have e4 : nth c.coefs i = ((List.range c.lits.length).map fun q => if q = i then nth c.coefs q else 0).sum := by
        rw [pick_sum (x := i) _ List.nodup_range (List.mem_range.2 hi) fun q _ hne => if_neg hne, if_pos rfl]
      rw [e4, ← sum_add]
      refine sum_cong _ fun q hq => ?_
      have hq := List.mem_range.1 hq
      rw [best_tr h a hq]
      by_cases e5 : q = i
      · subst e5
        rw [if_pos (show nth c.lits q = nth c.lits q ∧ _ from ⟨rfl, h1⟩), if_neg (by decide), if_pos rfl]
        simp [valB_zero.2 h1]
      · have h6 := h.differ e5 hq hi
        unfold Pb.av at h6
        have g1 : ¬ (nth c.lits q = nth c.lits i ∧ nth a ((nth c.lits i).natAbs - 1) = 0) := fun h7 => e5 (hk q hq h7.1)
        have g2 : ¬ (nth a ((nth c.lits q).natAbs - 1) = 0 ∧ (nth c.lits q).natAbs = (nth c.lits i).natAbs) := fun h7 => by omega
        rw [if_neg g1, if_neg g2, if_neg e5]
        simp
    rw [best_tr h a hi, if_pos ⟨rfl, h1⟩] at h3
    have h5 : ¬ c.bound ≤ c.total (tr (best c a (nth c.lits i))) := fun h6 => by cases h3 h6
    unfold Pb.slackB
    rw [if_pos ((Pb.ok_iff c).2 h)]
    omega
/-- No literal is a unit twice, none beside its negation. -/
theorem units_nodup {c : Pb} (h : c.Ok) (a : List Int) : (c.unitsB a).Nodup := by
  unfold Pb.unitsB
  split
  · unfold Pb.pick
    unfold List.Nodup
    rw [List.pairwise_map]
    refine (List.nodup_range.filter _).imp_of_mem fun {x y} hx hy hne e => ?_
    have hx := List.mem_range.1 (List.mem_filter.1 hx).1
    have hy := List.mem_range.1 (List.mem_filter.1 hy).1
    have := h.differ hne hx hy
    unfold Pb.av at this
    rw [e] at this
    exact absurd rfl this
  · exact List.nodup_nil

section
open Go.RowKit

/-- append onto a slice of int8s of the call's own. -/
theorem wp_append_i8s {o : Oper} {a : Act} {w : World} {K : Act → World → Prop} {Q : Exit → Act → World → Prop} (s x : Operand)
    (ho : o.op = .call { callee := .builtin .append, args := #[s, x], argTypes := #[56, 56] }) {F G : Nat → Prop} {v u : Value} {n m : Nat} {xs ys : List Value}
    (hv : Own w F 58 1 v n xs) (hu : Rd w G 1 u m ys) (hs : a.eval s = v) (hx : a.eval x = u) (h1 : ∀ u ∈ ys, u.oneCell' = true) (hb : n + m ≤ 17592186044416)
    (hK : ∀ A c w', Own w' (fun b => F b ∨ w.heap.size ≤ b) 58 1 (.slice A (n + m) c) (n + m) (xs ++ ys) → Mod (row v) w w' → (∀ b, row (.slice A (n + m) c) b → row v b ∨ w.heap.size ≤ b) → K (a.put o.dst (.slice A (n + m) c)) w') : o.wp Try.prog a w K Q := by
  obtain ⟨i0, hi, hz0, hz1, hz2⟩ := info_parts info_i8
  obtain ⟨v', w', hr, h2, h3, h4⟩ := run_append_rd (P := Try.prog) 56 o.type i0 (.int .i8 0) 1 Try.underlying56 hi hz0 hz1 hz2 rfl (by decide) hv hu h1 (by unfold maxLen; omega) (by omega)
  unfold Oper.wp execOp
  simp only [ho, resolve, invoke, builtin, Sem.run_bind, Sem.run_pure, Result.andThen_ok, List.map_toArray, List.map_cons, List.map_nil, hs, hx, hr]
  obtain ⟨A, c, rfl, _⟩ := h2.form
  exact hK A c w' h2 h3 h4
theorem wpList_append_i8s {ops : Array Oper} {rest : List Oper} {o : Oper} {a : Act} {w : World} {Q : Exit → Act → World → Prop} (hgd : o.guard = none) (s x : Operand)
    (ho : o.op = .call { callee := .builtin .append, args := #[s, x], argTypes := #[56, 56] }) {F G : Nat → Prop} {v u : Value} {n m : Nat} {xs ys : List Value}
    (hv : Own w F 58 1 v n xs) (hu : Rd w G 1 u m ys) (hs : a.eval s = v) (hx : a.eval x = u) (h1 : ∀ u ∈ ys, u.oneCell' = true) (hb : n + m ≤ 17592186044416)
    (hK : ∀ A c w', Own w' (fun b => F b ∨ w.heap.size ≤ b) 58 1 (.slice A (n + m) c) (n + m) (xs ++ ys) → Mod (row v) w w' → (∀ b, row (.slice A (n + m) c) b → row v b ∨ w.heap.size ≤ b) → wpList Try.prog ops Q rest (a.put o.dst (.slice A (n + m) c)) w') :
    wpList Try.prog ops Q (o :: rest) a w :=
  wpList_plain hgd fun _ hK' => wp_append_i8s s x ho hv hu hs hx h1 hb fun A c w' h2 h3 h4 => hK' _ _ (hK A c w' h2 h3 h4)
theorem PbRd.mono {w : World} {F G : Nat → Prop} {v : Value} {c : Pb} (h : PbRd w F v c) (hFG : ∀ g, g < w.heap.size → F g → G g) : PbRd w G v c := by
  obtain ⟨A, n, cn, B, m, cm, e, h1, h2⟩ := h.form
  exact ⟨⟨A, n, cn, B, m, cm, e, h1.mono hFG, h2.mono hFG⟩, h.bnd⟩
theorem PbRd.mod {w w' : World} {F G : Nat → Prop} {v : Value} {c : Pb} (h : PbRd w F v c) (hm : Mod G w w') (hFG : ∀ g, g < w.heap.size → F g → ¬ G g) : PbRd w' F v c := by
  obtain ⟨A, n, cn, B, m, cm, e, h1, h2⟩ := h.form
  exact ⟨⟨A, n, cn, B, m, cm, e, h1.mod hm hFG, h2.mod hm hFG⟩, h.bnd⟩
theorem PbRd.lits {w : World} {F : Nat → Prop} {A B : Option Addr} {n c m d : Nat} {z : Int} {N : Pb} (h : PbRd w F (.agg #[.slice A n c, .slice B m d, .int .i64 z]) N) : Rd w F 1 (.slice A n c) n (ints N.lits) := by
  obtain ⟨A', n', cn', B', m', cm', e, h1, h2⟩ := h.form
  simp only [Value.agg.injEq, Array.mk.injEq, List.cons.injEq, Value.slice.injEq] at e
  obtain ⟨⟨rfl, rfl, rfl⟩, _⟩ := e
  exact h1
theorem PbRd.cos {w : World} {F : Nat → Prop} {A B : Option Addr} {n c m d : Nat} {z : Int} {N : Pb} (h : PbRd w F (.agg #[.slice A n c, .slice B m d, .int .i64 z]) N) : Rd w F 1 (.slice B m d) m (ints N.coefs) := by
  obtain ⟨A', n', cn', B', m', cm', e, h1, h2⟩ := h.form
  simp only [Value.agg.injEq, Array.mk.injEq, List.cons.injEq, Value.slice.injEq] at e
  obtain ⟨_, ⟨rfl, rfl, rfl⟩, _⟩ := e
  exact h2
theorem Below.mod_lt {w w' : World} {G : Nat → Prop} {b : Nat} {o : Obj} (k : w.heap[b]? = some o) (hm : Mod G w w') (hG : ¬ G b) : w'.heap[b]? = some o := (hm.block b (lt_of_block k) hG).trans k
theorem i8s_one (xs : List Int) : ∀ u ∈ i8s xs, u.oneCell' = true := by
  intro u hu
  obtain ⟨x, _, rfl⟩ := List.mem_map.1 hu
  rfl

theorem own_cell8 {w : World} {F : Nat → Prop} {n c g k : Nat} {xs : List Int} (h : Own w F 58 1 (.slice (some ⟨g, 0, none⟩) n c) n (i8s xs)) (hk : k < n) : w.cell? ⟨g, k, none⟩ = some (.int .i8 (nth xs k)) ∧ w.frozen? ⟨g, k, none⟩ = false ∧ F g ∧ g < w.heap.size := by
  have hl : xs.length = n := by have := h.rd.1; simpa [i8s_length] using this
  obtain ⟨g', e1, hF, hg, hc, hf⟩ := h.cell (j := k) (by omega)
  injection e1 with e1
  injection e1 with e1
  subst e1
  rw [i8s_nth (by omega)] at hc
  exact ⟨hc, hf, hF, hg⟩
theorem own_at {w : World} {F : Nat → Prop} {e : TypeId} {A : Option Addr} {n c : Nat} {xs : List Value} (h : Own w F e 1 (.slice A n c) n xs) (hn : 0 < n) : ∃ g, A = some ⟨g, 0, none⟩ := by
  obtain ⟨g, e1, _⟩ := h.cell (j := 0) (by omega)
  exact ⟨g, e1⟩
theorem Own.one {w : World} {F : Nat → Prop} {e : TypeId} {k n cap g : Nat} {xs : List Value} (h : Own w F e k (.slice (some ⟨g, 0, none⟩) n cap) n xs) : Own w (fun b => b = g) e k (.slice (some ⟨g, 0, none⟩) n cap) n xs :=
  h.mono fun _ _ hr _ => hr.2.symm
theorem run_max (a b : Int) (w : World) : (Builtin.max_ #[3, 3] 3 #[.int .i64 a, .int .i64 b]).run Try.prog w = .ok (.int .i64 (max a b)) w := by
  unfold Builtin.max_
  simp only [go_sem, List.foldlM, Builtin.max2]
  by_cases h : a < b
  · have e : max a b = b := by omega
    rw [e]
    simp [h, go_sem]
  · have e : max a b = a := by omega
    rw [e]
    simp [h, go_sem]
theorem run_max_pos (p : Nat) {nx : Int} (h : nx = -((p : Int) + 1)) (w : World) : (Builtin.max_ #[3, 3] 3 #[.int .i64 ((p : Int) + 1), .int .i64 nx]).run Try.prog w = .ok (.int .i64 ((p : Int) + 1)) w := by
  rw [run_max]
  congr 2
  omega
theorem run_max_neg (p : Nat) {x : Int} (h : x < 0) (w : World) : (Builtin.max_ #[3, 3] 3 #[.int .i64 x, .int .i64 ((p : Int) + 1)]).run Try.prog w = .ok (.int .i64 ((p : Int) + 1)) w := by
  rw [run_max]
  congr 2
  omega
theorem and_mod {x : Int} (h1 : 0 ≤ x) (h2 : x ≤ 255) : bits BinOp.and IntKind.u8 x 1 = ((x.toNat % 2 : Nat) : Int) := by
  rw [u8_and x 1 h1 (by omega) (by omega) (by omega), show (1 : Int).toNat = 1 from rfl, Nat.and_one_is_mod]
theorem and_one {x : Int} (h1 : 0 ≤ x) (h2 : x ≤ 255) : (bits BinOp.and IntKind.u8 x 1 == 0) = !(bits BinOp.and IntKind.u8 x 1 == 1) := by
  rw [and_mod h1 h2]
  rcases Nat.mod_two_eq_zero_or_one x.toNat with e | e <;> rw [e] <;> rfl
theorem shr_in {x : Int} (h1 : 0 ≤ x) (h2 : x ≤ 255) (i : Nat) : 0 ≤ x / 2 ^ i ∧ x / 2 ^ i ≤ 255 := by
  have hp : (0 : Int) < 2 ^ i := Int.pow_pos (by decide)
  refine ⟨Int.ediv_nonneg h1 (Int.le_of_lt hp), Int.le_trans (Int.ediv_le_self _ h1) h2⟩
theorem bitOf_test {x : Int} (h1 : 0 ≤ x) (h2 : x ≤ 255) (i : Nat) : bitOf x i = x.toNat.testBit i := by
  obtain ⟨n, rfl⟩ := Int.eq_ofNat_of_zero_le h1
  have h3 := shr_in h1 h2 i
  unfold bitOf
  rw [and_mod h3.1 h3.2, Nat.testBit_eq_decide_div_mod_eq]
  have e : ((n : Int) / 2 ^ i).toNat = n / 2 ^ i := by
    have : ((n : Int) / 2 ^ i) = ((n / 2 ^ i : Nat) : Int) := by simp
    rw [this, Int.toNat_natCast]
  rw [e, Int.toNat_natCast]
  rcases Nat.mod_two_eq_zero_or_one (n / 2 ^ i) with e2 | e2 <;> rw [e2] <;> rfl
/-- The assignment, of which the places outside the mask are unknown; the first j places are done. -/
def maskUp (m b : Int) (j : Nat) : List Int := (List.range 6).map fun i => if i < j ∧ bitOf m i = false then 0 else if bitOf b i = true then 1 else -1
theorem maskUp_len (m b : Int) (j : Nat) : (maskUp m b j).length = 6 := by simp [maskUp]
theorem maskUp_nth (m b : Int) (j : Nat) {i : Nat} (hi : i < 6) : nth (maskUp m b j) i = if i < j ∧ bitOf m i = false then 0 else if bitOf b i = true then 1 else -1 := by
  rw [nth_eq (by rw [maskUp_len]; exact hi)]
  simp [maskUp]
theorem maskUp_none (m b : Int) : maskUp m b 0 = totUp b 6 := by
  apply List.ext_getElem (by simp [maskUp_len, totUp_len])
  intro k h1 h2
  rw [maskUp_len] at h1
  rw [← nth_eq (by rw [maskUp_len]; exact h1), ← nth_eq h2, maskUp_nth m b 0 h1, totUp_nth b 6 h1]
  simp [h1]
theorem maskUp_set (m b : Int) {i : Nat} : (bitOf m i = false → (maskUp m b i).set i 0 = maskUp m b (i + 1)) ∧ (bitOf m i = true → maskUp m b i = maskUp m b (i + 1)) := by
  constructor
  · intro hm
    apply List.ext_getElem (by simp [maskUp_len])
    intro k h1 h2
    rw [maskUp_len] at h2
    rw [← nth_eq h1, ← nth_eq (by rw [maskUp_len]; exact h2), nth_set _ _ _ _ (by rw [maskUp_len]; exact h2), maskUp_nth m b i h2, maskUp_nth m b (i + 1) h2]
    by_cases e : i = k
    · subst e
      rw [if_pos rfl, if_pos (show i < i + 1 ∧ bitOf m i = false from ⟨by omega, hm⟩)]
    · rw [if_neg e]
      by_cases e2 : k < i ∧ bitOf m k = false
      · rw [if_pos e2, if_pos (show k < i + 1 ∧ bitOf m k = false from ⟨by omega, e2.2⟩)]
      · rw [if_neg e2, if_neg (show ¬ (k < i + 1 ∧ bitOf m k = false) from fun h => e2 ⟨by omega, h.2⟩)]
  · intro hm
    apply List.ext_getElem (by simp [maskUp_len])
    intro k h1 h2
    rw [maskUp_len] at h2
    rw [← nth_eq h1, ← nth_eq (by rw [maskUp_len]; exact h2), maskUp_nth m b i h2, maskUp_nth m b (i + 1) h2]
    by_cases e2 : k < i ∧ bitOf m k = false
    · rw [if_pos e2, if_pos (show k < i + 1 ∧ bitOf m k = false from ⟨by omega, e2.2⟩)]
    · rw [if_neg e2, if_neg (show ¬ (k < i + 1 ∧ bitOf m k = false) from fun h => e2 ⟨by
        have : k ≠ i := fun e => by subst e; rw [hm] at h; cases h.2
        omega, h.2⟩)]
def maskL (m b : Int) : List Int := maskUp m b 6
theorem maskL_nth (m b : Int) {i : Nat} (hi : i < 6) : nth (maskL m b) i = if bitOf m i = true then (if bitOf b i = true then 1 else -1) else 0 := by
  unfold maskL
  rw [maskUp_nth m b 6 hi]
  cases bitOf m i <;> simp [hi]
end
end Go.Proofs.Ytofobmgmgipomaa
