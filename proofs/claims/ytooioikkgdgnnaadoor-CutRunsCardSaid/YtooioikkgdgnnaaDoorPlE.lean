/-
  Chapter 24: the plain facts of the statements' small inequalities.
-/
import Derived.Test.YtooioikkgdgnnaaDoorPlC
import Derived.Test.YtooioikkgdgnnaaDoorPbV
namespace Go.Proofs.YtooioikkgdgnnaaDoor

structure Sm (L C : List Int) : Prop where
  len : L.length = C.length
  few : L.length ≤ 8
  lit : ∀ l ∈ L, l ≠ 0 ∧ -6 ≤ l ∧ l ≤ 6
  co : ∀ k ∈ C, -8 ≤ k ∧ k ≤ 8
theorem tmod_in (x : Int) {m : Int} (hm : 0 < m) : -(m - 1) ≤ Int.tmod x m ∧ Int.tmod x m ≤ m - 1 := by
  have h1 := Int.tmod_lt_of_pos x hm
  have h2 := Int.tmod_lt_of_pos (-x) hm
  rw [Int.neg_tmod] at h2
  omega
theorem sm_is (ls ks : List Int) : Sm (smL ls ks) (smC ls ks) := by
  have hmem : ∀ p ∈ smalls ls ks (min ls.length 8), p.1 ≠ 0 ∧ ∃ i, p = smallAt ls ks i := fun p hp => by
    unfold smalls at hp
    obtain ⟨h1, h2⟩ := List.mem_filter.1 hp
    obtain ⟨i, _, rfl⟩ := List.mem_map.1 h1
    exact ⟨of_decide_eq_true h2, i, rfl⟩
  refine ⟨by simp [smL, smC], ?_, fun l hl => ?_, fun k hk => ?_⟩
  · have := smalls_len ls ks (min ls.length 8)
    unfold smL
    rw [List.length_map]
    omega
  · obtain ⟨p, hp, rfl⟩ := List.mem_map.1 hl
    obtain ⟨h1, i, rfl⟩ := hmem p hp
    have := tmod_in (nth ls i) (m := 7) (by decide)
    refine ⟨h1, ?_⟩
    show -6 ≤ Int.tmod (nth ls i) 7 ∧ Int.tmod (nth ls i) 7 ≤ 6
    omega
  · obtain ⟨p, hp, rfl⟩ := List.mem_map.1 hk
    obtain ⟨h1, i, rfl⟩ := hmem p hp
    have := tmod_in (nth ks i) (m := 9) (by decide)
    show -8 ≤ (if i < ks.length then Int.tmod (nth ks i) 9 else 0) ∧ (if i < ks.length then Int.tmod (nth ks i) 9 else 0) ≤ 8
    split <;> omega
section
variable {L C : List Int} {b : Int}
theorem Sm.at (h : Sm L C) {i : Nat} (hi : i < L.length) : (nth L i ≠ 0 ∧ -6 ≤ nth L i ∧ nth L i ≤ 6) ∧ -8 ≤ nth C i ∧ nth C i ≤ 8 :=
  ⟨h.lit _ (nth_mem hi), h.co _ (nth_mem (by rw [← h.len]; exact hi))⟩
theorem Sm.inn (h : Sm L C) (h1 : -100 ≤ b) (h2 : b ≤ 100) : normOk L C b = true := by
  have hf := h.few
  refine normOk_iff.2 ⟨h.len, by omega, by omega, by omega, fun i hi => ?_⟩
  obtain ⟨h3, h4, h5⟩ := h.at hi
  unfold inB litB
  simp only [Bool.and_eq_true, decide_eq_true_eq]
  exact ⟨⟨⟨h3.1, by omega, by omega⟩, by omega⟩, by omega⟩
theorem Sm.bd (h : Sm L C) (h2 : b ≤ 100) : normBd L C b ≤ 228 := by
  have hf := h.few
  have := normBd_le (ls := L) (ks := C) (b := b) (K := 8) fun i hi => by
    obtain ⟨h3, h4, h5⟩ := h.at hi
    exact ⟨litB_iff.2 ⟨h3.1, by omega, by omega⟩, h4, h5⟩
  omega
theorem Sm.err (h : Sm L C) (h1 : -100 ≤ b) (h2 : b ≤ 100) : (normed L C b).2 = 0 := norm_fits (h.inn h1 h2) (by have := h.bd h2; omega)
theorem Sm.ok (h : Sm L C) (h1 : -100 ≤ b) (h2 : b ≤ 100) : (normed L C b).1.Ok := (Pb.ok_iff _).1 (norm_valid (h.inn h1 h2) (h.err h1 h2))
theorem Sm.low (h : Sm L C) (h2 : b ≤ 100) : (normed L C b).1.bound ≤ 228 := by
  have := h.bd h2
  rw [normed_sg]
  split
  · decide
  · split
    · decide
    · split
      · decide
      · split
        · decide
        · exact this
theorem Sm.six (h : Sm L C) (h1 : -100 ≤ b) (h2 : b ≤ 100) {j : Nat} (hj : j < (normed L C b).1.lits.length) : 1 ≤ (nth (normed L C b).1.lits j).natAbs ∧ (nth (normed L C b).1.lits j).natAbs ≤ 6 := by
  have h3 := (h.ok h1 h2).lit j hj
  obtain ⟨x, hx, e⟩ := norm_lits (nth_mem hj)
  have := h.lit x hx
  omega
theorem Pb.Ok.few6 {c : Pb} (h : c.Ok) (h6 : ∀ j, j < c.lits.length → (nth c.lits j).natAbs ≤ 6) : c.lits.length ≤ 6 := by
  have hk : ∀ k, k < c.lits.length → (k : Int) < c.av k := by
    intro k
    induction k with
    | zero => intro hk; have := h.lit 0 hk; unfold Pb.av; omega
    | succ k ih =>
      intro hk
      have h1 := ih (by omega)
      have h2 := h.pair (show k < k + 1 by omega) hk
      omega
  rcases Nat.eq_zero_or_pos c.lits.length with e | e
  · omega
  · have h1 := hk (c.lits.length - 1) (by omega)
    have h2 := h6 (c.lits.length - 1) (by omega)
    unfold Pb.av at h1
    omega
theorem Pb.Ok.i64 {c : Pb} (h : c.Ok) : ∀ k ∈ c.coefs, I64 k := fun k hk => by
  obtain ⟨i, hi, e⟩ := List.getElem_of_mem hk
  have h1 := h.coef i (by rw [h.len]; exact hi)
  have h2 := h.high
  rw [nth_eq hi, e] at h1
  unfold I64
  omega
theorem Pb.Ok.i64l {c : Pb} (h : c.Ok) : ∀ l ∈ c.lits, I64 l := fun l hl => by
  obtain ⟨i, hi, e⟩ := List.getElem_of_mem hl
  have h1 := h.lit i hi
  rw [nth_eq hi, e] at h1
  unfold I64
  omega
/-- A total assignment. -/
def Tot (av : List Int) : Prop := ∀ i, i < 6 → nth av i ≠ 0
theorem litT_tr {av : List Int} (hv : Tot av) {l : Int} (h : l ≠ 0 ∧ -6 ≤ l ∧ l ≤ 6) : litT av l = tr (sOf av) l := by
  have := hv (l.natAbs - 1) (by omega)
  unfold litT tr sOf
  rw [Int.natAbs_neg]
  by_cases e : 0 < l
  · rw [if_pos e]
    by_cases e2 : 0 < nth av (l.natAbs - 1)
    · simp [e, e2]
    · simp [e, e2]; intro h; omega
  · rw [if_neg e]
    by_cases e2 : 0 < nth av (l.natAbs - 1)
    · simp [e, e2]; intro h; omega
    · simp [e, e2]; omega
theorem Sm.got (h : Sm L C) {av : List Int} (hv : Tot av) : ∀ j, j ≤ L.length → gotT av L C j = Go.Proofs.YtooioikkgdgnnaaDoor.got (sOf av) L C j := by
  intro j
  induction j with
  | zero => intro _; rfl
  | succ j ih =>
    intro hj
    rw [gotT_succ, got_succ, ih (by omega), litT_tr hv (h.at hj).1]
theorem Sm.holds (h : Sm L C) (h1 : -100 ≤ b) (h2 : b ≤ 100) {av : List Int} (hv : Tot av) : (normed L C b).1.holdsB av = decide (b ≤ gotT av L C L.length) := by
  rw [holds_tr (h.ok h1 h2) fun j hj => hv _ (by have := h.six h1 h2 hj; omega), h.got hv _ (Nat.le_refl _)]
  exact decide_eq_decide.2 (norm_holds _ (h.inn h1 h2) (h.err h1 h2))
theorem tot_holds {c : Pb} (h : c.Ok) (h6 : ∀ j, j < c.lits.length → (nth c.lits j).natAbs ≤ 6) {av : List Int} (hv : Tot av) : c.holdsB av = decide (c.bound ≤ c.total (tr (sOf av))) :=
  holds_tr h fun j hj => hv _ (by have := h6 j hj; have := h.lit j hj; omega)
/-- The negation is satisfied by the other total assignments. -/
theorem neg_total {c : Pb} (h : c.Ok) (hb : c.bound ≤ 228) (h6 : ∀ j, j < c.lits.length → (nth c.lits j).natAbs ≤ 6) {av : List Int} (hv : Tot av) : c.negB.1.holdsB av = !(c.holdsB av) := by
  have hf := h.few6 h6
  have h1 := h.neg_in hb (by decide) (by omega) (by decide)
  have h2 := h.neg_holds hb (by decide) (by omega) (by decide) (sOf av)
  have hnb : c.negB = normed (c.lits.map fun l => -l) c.coefs (c.coefs.sum - c.bound + 1) := by unfold Pb.negB; rw [if_pos ((Pb.ok_iff _).2 h)]
  have h3 : c.negB.1.Ok := (Pb.ok_iff _).1 (by rw [hnb]; exact norm_valid h1.1 (by rw [← hnb]; exact h1.2))
  have h7 : ∀ j, j < c.negB.1.lits.length → (nth c.negB.1.lits j).natAbs ≤ 6 := fun j hj => by
    have h8 := nth_mem hj
    rw [hnb] at h8 ⊢
    obtain ⟨x, hx, e⟩ := norm_lits h8
    obtain ⟨l, hl, rfl⟩ := List.mem_map.1 hx
    obtain ⟨i, hi, e2⟩ := List.getElem_of_mem hl
    have := h6 i hi
    rw [nth_eq hi, e2] at this
    rw [Int.natAbs_neg] at e
    omega
  rw [tot_holds h h6 hv, tot_holds h3 h7 hv, decide_eq_decide.2 h2, decide_not]
theorem tot_total (x : Int) : Tot (totUp x 6) := fun i hi => by
  rw [totUp_nth x 6 hi, if_pos hi]
  split <;> decide
end
end Go.Proofs.YtooioikkgdgnnaaDoor
