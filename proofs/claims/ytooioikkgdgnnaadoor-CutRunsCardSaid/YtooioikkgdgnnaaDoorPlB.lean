/-
  Chapter 24: the plain laws of a valid constraint: its normal form, its negation, its slack and units.
-/
import Derived.Test.YtooioikkgdgnnaaDoorPlA
import Derived.Test.YtooioikkgdgnnaaDoorPbH
import Derived.Test.YtooioikkgdgnnaaDoorPbL
namespace Go.Proofs.YtooioikkgdgnnaaDoor

theorem nth_range (xs : List Int) : (List.range xs.length).map (nth xs) = xs := by
  apply List.ext_getElem (by simp)
  intro i h1 h2
  simp only [List.getElem_map, List.getElem_range]
  rw [nth_eq h2]
def Pb.av (c : Pb) (j : Nat) : Int := (((nth c.lits j).natAbs : Nat) : Int)
theorem Pb.Ok.pair {c : Pb} (h : c.Ok) {i j : Nat} (hij : i < j) (hj : j < c.lits.length) : c.av i < c.av j := by
  induction j with
  | zero => omega
  | succ j ih =>
    have h1 := h.rise (j + 1) hj
    have h2 : c.last (j + 1) = c.av j := by unfold Pb.last Pb.av; rw [if_neg (by omega)]; rfl
    rw [h2] at h1
    rcases Nat.lt_or_ge i j with e | e
    · have := ih e (by omega)
      unfold Pb.av at *
      omega
    · have : i = j := by omega
      subst this
      exact h1
theorem Pb.Ok.differ {c : Pb} (h : c.Ok) {i j : Nat} (hij : i ≠ j) (hi : i < c.lits.length) (hj : j < c.lits.length) : c.av i ≠ c.av j := by
  rcases Nat.lt_or_ge i j with e | e
  · have := h.pair e hj; omega
  · have := h.pair (by omega : j < i) hi; omega
theorem Pb.Ok.vsum {c : Pb} (h : c.Ok) {i : Nat} (hi : i < c.lits.length) : vsum c.lits c.coefs c.lits.length (c.av i) = if nth c.lits i < 0 then -(nth c.coefs i) else nth c.coefs i := by
  unfold Go.Proofs.YtooioikkgdgnnaaDoor.vsum
  rw [pick_sum (x := i) (List.range c.lits.length) List.nodup_range (List.mem_range.2 hi) fun j hj hne => by
    have hj := List.mem_range.1 hj
    have h1 := h.differ hne hj hi
    have h2 := h.lit j hj
    unfold Pb.av at h1 ⊢
    unfold term
    rw [if_neg (by omega), if_neg (by omega)]]
  have h2 := h.lit i hi
  unfold Pb.av term
  by_cases e : nth c.lits i < 0
  · rw [if_neg (by omega), if_pos (by omega), if_pos e]
  · rw [if_pos (by omega), if_neg e]
theorem Pb.Ok.vsum0 {c : Pb} (h : c.Ok) {v : Int} (hv : ∀ i, i < c.lits.length → c.av i ≠ v) (h1 : 1 ≤ v) : Go.Proofs.YtooioikkgdgnnaaDoor.vsum c.lits c.coefs c.lits.length v = 0 := by
  unfold Go.Proofs.YtooioikkgdgnnaaDoor.vsum
  refine sum_zero _ fun j hj => ?_
  have hj := List.mem_range.1 hj
  have h2 := hv j hj
  have h3 := h.lit j hj
  unfold Pb.av at h2
  unfold term
  rw [if_neg (by omega), if_neg (by omega)]
theorem Pb.Ok.vars {c : Pb} (h : c.Ok) : normVars c.lits c.coefs = (List.range c.lits.length).map c.av := by
  have hr := normVars_rise c.lits c.coefs
  have hp : ((List.range c.lits.length).map c.av).Pairwise (fun x y => x < y) := by
    rw [List.pairwise_map]
    refine List.pairwise_iff_getElem.2 fun i j hi hj hij => ?_
    rw [List.getElem_range, List.getElem_range]
    exact h.pair hij (by simpa using hj)
  have hperm : (normVars c.lits c.coefs).Perm ((List.range c.lits.length).map c.av) := by
    refine (List.perm_ext_iff_of_nodup (hr.imp fun h => by omega) (hp.imp fun h => by omega)).2 fun v => ?_
    rw [mem_normVars, List.mem_map]
    constructor
    · rintro ⟨h1, h2, h3⟩
      by_cases e : ∃ i, i < c.lits.length ∧ c.av i = v
      · obtain ⟨i, hi, e⟩ := e
        exact ⟨i, List.mem_range.2 hi, e⟩
      · exact absurd (h.vsum0 (fun i hi e2 => e ⟨i, hi, e2⟩) h1) h3
    · rintro ⟨i, hi, rfl⟩
      have hi := List.mem_range.1 hi
      have h1 := h.lit i hi
      have h2 := h.coef i hi
      rw [h.vsum hi]
      unfold Pb.av
      refine ⟨by omega, by omega, ?_⟩
      split <;> omega
  exact List.Perm.eq_of_pairwise (le := fun x y : Int => x ≤ y) (fun a b _ _ h1 h2 => by omega) (hr.imp fun h => by omega) (hp.imp fun h => by omega) hperm
theorem Pb.Ok.bd {c : Pb} (h : c.Ok) : normBd c.lits c.coefs c.bound = c.bound := by
  unfold normBd
  rw [h.vars, List.map_map]
  have e : ((List.range c.lits.length).map ((fun v => min (Go.Proofs.YtooioikkgdgnnaaDoor.vsum c.lits c.coefs c.lits.length v) 0) ∘ c.av)).sum + nsum c.lits c.coefs c.lits.length = 0 := by
    unfold nsum
    rw [← sum_add]
    refine sum_zero _ fun j hj => ?_
    have hj := List.mem_range.1 hj
    have h2 := h.coef j hj
    show min (Go.Proofs.YtooioikkgdgnnaaDoor.vsum c.lits c.coefs c.lits.length (c.av j)) 0 + _ = 0
    rw [h.vsum hj]
    split <;> omega
  omega
theorem Pb.Ok.cs {c : Pb} (h : c.Ok) : normCoefs c.lits c.coefs c.bound = c.coefs := by
  unfold normCoefs
  rw [h.vars, List.map_map, h.bd]
  have : (List.range c.lits.length).map ((fun v => min (((Go.Proofs.YtooioikkgdgnnaaDoor.vsum c.lits c.coefs c.lits.length v).natAbs : Nat) : Int) c.bound) ∘ c.av) = (List.range c.coefs.length).map (nth c.coefs) := by
    rw [← h.len]
    refine List.map_congr_left fun j hj => ?_
    have hj := List.mem_range.1 hj
    have h2 := h.coef j hj
    show min (((Go.Proofs.YtooioikkgdgnnaaDoor.vsum c.lits c.coefs c.lits.length (c.av j)).natAbs : Nat) : Int) c.bound = _
    rw [h.vsum hj]
    split <;> omega
  rw [this, nth_range]
theorem Pb.Ok.ls {c : Pb} (h : c.Ok) : ((normVars c.lits c.coefs).map fun v => sg (Go.Proofs.YtooioikkgdgnnaaDoor.vsum c.lits c.coefs c.lits.length v) v) = c.lits := by
  rw [h.vars, List.map_map]
  have : (List.range c.lits.length).map ((fun v => sg (Go.Proofs.YtooioikkgdgnnaaDoor.vsum c.lits c.coefs c.lits.length v) v) ∘ c.av) = (List.range c.lits.length).map (nth c.lits) := by
    refine List.map_congr_left fun j hj => ?_
    have hj := List.mem_range.1 hj
    have h2 := h.coef j hj
    show sg (Go.Proofs.YtooioikkgdgnnaaDoor.vsum c.lits c.coefs c.lits.length (c.av j)) (c.av j) = _
    rw [h.vsum hj]
    unfold sg Pb.av
    by_cases e : nth c.lits j < 0
    · rw [if_pos e, if_pos (by omega)]; omega
    · rw [if_neg e, if_neg (by omega)]; omega
  rw [this, nth_range]
theorem Pb.Ok.inn {c : Pb} (h : c.Ok) : normOk c.lits c.coefs c.bound = true := by
  have h1 := h.low
  have h2 := h.high
  refine normOk_iff.2 ⟨h.len, h.few, by omega, by omega, fun i hi => ?_⟩
  have h3 := h.lit i hi
  have h4 := h.coef i hi
  unfold inB litB
  simp only [Bool.and_eq_true, decide_eq_true_eq]
  exact ⟨⟨h3, by omega⟩, by omega⟩
/-- A normal form is its own normal form. -/
theorem Pb.Ok.again {c : Pb} (h : c.Ok) : normed c.lits c.coefs c.bound = (c, 0) := by
  rw [normed_sg, if_neg (by rw [h.inn]; decide), h.bd, h.cs, h.ls]
  have h1 := h.low
  have h2 := h.high
  have h3 := h.sums
  unfold Pb.sum at h3
  rw [List.take_of_length_le (by rw [h.len]; exact Nat.le_refl _)] at h3
  obtain ⟨ls, ks, b⟩ := c
  by_cases e1 : b ≤ 0
  · have hn : ls.length = 0 := by
      rcases Nat.eq_zero_or_pos ls.length with e | e
      · exact e
      · have := h.coef 0 e
        dsimp only at this
        omega
    have hk : ks.length = 0 := by have := h.len; dsimp only at this; omega
    have e3 := List.length_eq_zero_iff.1 hn
    have e4 := List.length_eq_zero_iff.1 hk
    dsimp only at h1
    have e5 : b = 0 := by omega
    subst e3 e4 e5
    rfl
  · dsimp only at *
    rw [if_neg e1]
    by_cases e2 : ks.sum < b
    · rcases h3 with h3 | ⟨h3, h4⟩
      · omega
      · have hk : ks.length = 0 := by have := h.len; dsimp only at this; omega
        have e3 := List.length_eq_zero_iff.1 h3
        have e4 := List.length_eq_zero_iff.1 hk
        subst e3 e4 h4
        rfl
    · rw [if_neg e2, if_neg (by omega)]

/-- The negation. -/
theorem tr_neg (s : Int → Bool) {l : Int} (h : l ≠ 0) : tr s (-l) = !(tr s l) := by
  unfold tr
  by_cases e : 0 < l
  · rw [if_neg (by omega), if_pos e, Int.neg_neg]
  · rw [if_pos (by omega), if_neg e, Bool.not_not]
theorem Pb.Ok.got_neg {c : Pb} (h : c.Ok) (s : Int → Bool) : got s (c.lits.map fun l => -l) c.coefs c.lits.length + c.total (tr s) = c.coefs.sum := by
  have e : c.coefs.sum = ((List.range c.lits.length).map (nth c.coefs)).sum := by rw [h.len, nth_range]
  rw [total_got, e]
  unfold got
  rw [← sum_add]
  refine sum_cong _ fun j hj => ?_
  have hj := List.mem_range.1 hj
  rw [nth_map hj, tr_neg s (h.lit j hj).1]
  cases tr s (nth c.lits j) <;> simp
theorem Pb.Ok.sum_le {c : Pb} (h : c.Ok) {K : Int} (hK : c.bound ≤ K) : 0 ≤ c.coefs.sum ∧ c.coefs.sum ≤ c.lits.length * K := by
  rw [h.len]
  refine sums_bounds _ fun x hx => ?_
  obtain ⟨i, hi, e⟩ := List.getElem_of_mem hx
  have := h.coef i (by rw [h.len]; exact hi)
  rw [nth_eq hi, e] at this
  omega
theorem Pb.Ok.neg_in {c : Pb} (h : c.Ok) {K : Int} (hK : c.bound ≤ K) (hK1 : 0 ≤ K) (h8 : c.lits.length ≤ 8) (hK2 : K ≤ 65536) : normOk (c.lits.map fun l => -l) c.coefs (c.coefs.sum - c.bound + 1) = true ∧ (c.negB).2 = 0 := by
  obtain ⟨h1, h2⟩ := h.sum_le hK
  have h3 := h.low
  have h4 : (c.lits.length : Int) * K ≤ 8 * K := Int.mul_le_mul_of_nonneg_right (by omega) hK1
  have hin : normOk (c.lits.map fun l => -l) c.coefs (c.coefs.sum - c.bound + 1) = true := by
    refine normOk_iff.2 ⟨by rw [List.length_map]; exact h.len, by rw [List.length_map]; exact h.few, by omega, by omega, fun i hi => ?_⟩
    have hi : i < c.lits.length := by simpa using hi
    have h5 := h.lit i hi
    have h6 := h.coef i hi
    unfold inB litB
    rw [nth_map hi]
    simp only [Bool.and_eq_true, decide_eq_true_eq]
    exact ⟨⟨by omega, by omega⟩, by omega⟩
  refine ⟨hin, ?_⟩
  unfold Pb.negB
  rw [if_pos ((Pb.ok_iff c).2 h)]
  refine norm_fits hin ?_
  have h7 := normBd_le (ls := c.lits.map fun l => -l) (ks := c.coefs) (b := c.coefs.sum - c.bound + 1) (K := K) fun i hi => by
    have hi : i < c.lits.length := by simpa using hi
    have h5 := h.lit i hi
    have h6 := h.coef i hi
    rw [nth_map hi]
    exact ⟨litB_iff.2 (by omega), by omega, by omega⟩
  rw [List.length_map] at h7
  omega
theorem Pb.Ok.neg_holds {c : Pb} (h : c.Ok) {K : Int} (hK : c.bound ≤ K) (hK1 : 0 ≤ K) (h8 : c.lits.length ≤ 8) (hK2 : K ≤ 65536) (s : Int → Bool) :
    c.negB.1.bound ≤ c.negB.1.total (tr s) ↔ ¬ (c.bound ≤ c.total (tr s)) := by
  obtain ⟨h1, h2⟩ := h.neg_in hK hK1 h8 hK2
  have h3 := h.got_neg s
  unfold Pb.negB at h2 ⊢
  rw [if_pos ((Pb.ok_iff c).2 h)] at h2 ⊢
  rw [norm_holds s h1 h2, List.length_map]
  omega
end Go.Proofs.YtooioikkgdgnnaaDoor
