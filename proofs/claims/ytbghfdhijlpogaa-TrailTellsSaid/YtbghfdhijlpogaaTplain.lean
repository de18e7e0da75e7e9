/-
  The plain trail keeps its form: decide, imply, undo.
-/
import Derived.Test.YtbghfdhijlpogaaTbase
namespace Go.Proofs.Ytbghfdhijlpogaa

theorem Tr.value_zero {T : Tr} {l : Int} (h : T.value l = 0) : l ∉ T.lits ∧ -l ∉ T.lits := by
  unfold Tr.value at h
  split at h
  · cases h
  · split at h
    · cases h
    · exact ⟨‹_›, ‹_›⟩
theorem Tr.free_v {T : Tr} {l : Int} (h : T.free l) : ∀ e ∈ T.L, e.v ≠ l.natAbs := by
  intro e he hv
  obtain ⟨h1, h2⟩ := Tr.value_zero h.2.2
  have hm : e.lit ∈ T.lits := List.mem_map.2 ⟨e, he, rfl⟩
  unfold Ent.v at hv
  rcases Int.natAbs_eq_natAbs_iff.1 hv with h3 | h3
  · exact h1 (h3 ▸ hm)
  · exact h2 (h3 ▸ hm)
theorem nodup_snoc {l : List Nat} {x : Nat} (h : l.Nodup) (hx : x ∉ l) : (l ++ [x]).Nodup := by
  rw [List.nodup_append]
  refine ⟨h, by simp, fun a ha b hb => ?_⟩
  rw [List.mem_singleton] at hb
  subst hb
  exact fun e => hx (e ▸ ha)
theorem Tr.WF.imply {T : Tr} (h : T.WF) {l : Int} {r : List Int} (hf : T.free l) (hl : l ∈ r) (hr : ∀ x ∈ r, x = l ∨ -x ∈ T.lits) : (T.imply l r).WF where
  vars := h.vars
  lit := fun e he => by
    rcases List.mem_append.1 he with he | he
    · exact h.lit e he
    · rw [List.mem_singleton.1 he]; exact ⟨hf.1, hf.2.1⟩
  nodup := by
    simp only [Tr.imply, List.map_append, List.map_cons, List.map_nil]
    refine nodup_snoc h.nodup fun hm => ?_
    obtain ⟨e, he, hv⟩ := List.mem_map.1 hm
    exact Tr.free_v hf e he hv
  starts := h.starts
  below := fun s hs => by have := h.below s hs; simp [Tr.imply]; omega
  level := fun i e he => by
    simp only [Tr.imply] at he ⊢
    rw [List.getElem?_append] at he
    split at he
    · exact h.level i e he
    · rw [List.getElem?_singleton] at he
      split at he
      · obtain rfl := Option.some.inj he
        rw [List.filter_eq_self.2]
        intro s hs
        have := h.below s hs
        simp; omega
      · cases he
  reason := fun i e he => by
    simp only [Tr.imply] at he ⊢
    rw [List.getElem?_append] at he
    split at he
    · rename_i hi
      have := h.reason i e he
      refine ⟨this.1, fun hs => ?_⟩
      have this := this.2 hs
      refine ⟨this.1, fun x hx => ?_⟩
      rcases this.2 x hx with h1 | ⟨j, hj, f, hf', hfx⟩
      · exact .inl h1
      · exact .inr ⟨j, hj, f, by rw [List.getElem?_append, if_pos (by omega)]; exact hf', hfx⟩
    · rename_i hi
      rw [List.getElem?_singleton] at he
      split at he
      · obtain rfl := Option.some.inj he
        refine ⟨fun hs => by have := h.below i hs; omega, fun _ => ⟨hl, fun x hx => ?_⟩⟩
        rcases hr x hx with h1 | h1
        · exact .inl h1
        · obtain ⟨f, hf', hfx⟩ := List.mem_map.1 h1
          obtain ⟨j, hj, hjf⟩ := List.mem_iff_getElem.1 hf'
          exact .inr ⟨j, by omega, f, by rw [List.getElem?_append, if_pos hj]; simp [hj, hjf], hfx⟩
      · cases he
theorem Tr.WF.decide {T : Tr} (h : T.WF) {l : Int} (hf : T.free l) : (T.decide l).WF where
  vars := h.vars
  lit := fun e he => by
    rcases List.mem_append.1 he with he | he
    · exact h.lit e he
    · rw [List.mem_singleton.1 he]; exact ⟨hf.1, hf.2.1⟩
  nodup := by
    simp only [Tr.decide, List.map_append, List.map_cons, List.map_nil]
    refine nodup_snoc h.nodup fun hm => ?_
    obtain ⟨e, he, hv⟩ := List.mem_map.1 hm
    exact Tr.free_v hf e he hv
  starts := by
    simp only [Tr.decide, List.pairwise_append]
    refine ⟨h.starts, by simp, fun a ha b hb => ?_⟩
    rw [List.mem_singleton.1 hb]
    exact h.below a ha
  below := fun s hs => by
    simp only [Tr.decide, List.length_append, List.length_singleton] at hs ⊢
    rcases List.mem_append.1 hs with hs | hs
    · have := h.below s hs; omega
    · rw [List.mem_singleton.1 hs]; omega
  level := fun i e he => by
    simp only [Tr.decide] at he ⊢
    rw [List.getElem?_append] at he
    rw [List.filter_append, List.length_append]
    split at he
    · rename_i hi
      have := h.level i e he
      simp only [this, List.filter_cons, List.filter_nil]
      rw [if_neg (by simp; omega)]
      simp
    · rename_i hi
      rw [List.getElem?_singleton] at he
      split at he
      · obtain rfl := Option.some.inj he
        rw [List.filter_eq_self.2]
        · simp only [List.filter_cons, List.filter_nil]
          rw [if_pos (by simp; omega)]
          simp
        · intro s hs
          have := h.below s hs
          simp; omega
      · cases he
  reason := fun i e he => by
    simp only [Tr.decide] at he ⊢
    rw [List.getElem?_append] at he
    split at he
    · rename_i hi
      have hmem : i ∈ T.starts ++ [T.L.length] ↔ i ∈ T.starts := by
        simp; omega
      have := h.reason i e he
      refine ⟨fun hs => this.1 (hmem.1 hs), fun hs => ?_⟩
      have this := this.2 (fun h => hs (hmem.2 h))
      refine ⟨this.1, fun x hx => ?_⟩
      rcases this.2 x hx with h1 | ⟨j, hj, f, hf', hfx⟩
      · exact .inl h1
      · exact .inr ⟨j, hj, f, by rw [List.getElem?_append, if_pos (by omega)]; exact hf', hfx⟩
    · rename_i hi
      rw [List.getElem?_singleton] at he
      split at he
      · obtain rfl := Option.some.inj he
        exact ⟨fun _ => rfl, fun hs => absurd (by simp; omega) hs⟩
      · cases he
theorem Tr.undo_at {T : Tr} {k : Nat} (hk : k < T.starts.length) : T.undo k = { T with L := T.L.take T.starts[k], starts := T.starts.take k } := by
  simp [Tr.undo, hk]
theorem pairwise_get {l : List Nat} (h : l.Pairwise (· < ·)) {i j : Nat} (hij : i < j) (hj : j < l.length) : l[i] < l[j] :=
  List.pairwise_iff_getElem.1 h i j (by omega) hj hij
theorem Tr.WF.undo {T : Tr} (h : T.WF) {k : Nat} (hk : k < T.starts.length) : (T.undo k).WF := by
  have hs : T.starts[k] < T.L.length := h.below _ (List.getElem_mem hk)
  have hin : ∀ s, s ∈ T.starts.take k ↔ s ∈ T.starts ∧ s < T.starts[k] := fun s => by
    constructor
    · intro hm
      obtain ⟨i, hi, rfl⟩ := List.mem_take_iff_getElem.1 hm
      exact ⟨List.getElem_mem _, pairwise_get h.starts (by omega) hk⟩
    · rintro ⟨hm, hlt⟩
      obtain ⟨i, hi, rfl⟩ := List.mem_iff_getElem.1 hm
      refine List.mem_take_iff_getElem.2 ⟨i, ?_, rfl⟩
      rcases Nat.lt_or_ge i k with h1 | h1
      · omega
      · rcases Nat.eq_or_lt_of_le h1 with h2 | h2
        · subst h2; omega
        · have := pairwise_get h.starts h2 hi; omega
  rw [Tr.undo_at hk]
  exact {
    vars := h.vars
    lit := fun e he => h.lit e (List.mem_of_mem_take he)
    nodup := by
      simp only [List.map_take]
      exact h.nodup.sublist (List.take_sublist _ _)
    starts := h.starts.sublist (List.take_sublist _ _)
    below := fun s hs' => by
      have := ((hin s).1 hs').2
      simp only [List.length_take]
      omega
    level := fun i e he => by
      simp only [List.getElem?_take] at he
      split at he
      · rename_i hi
        rw [h.level i e he]
        have e1 : T.starts = T.starts.take k ++ T.starts.drop k := (List.take_append_drop k T.starts).symm
        have e2 : (T.starts.drop k).filter (· ≤ i) = [] := by
          rw [List.filter_eq_nil_iff]
          intro s hs'
          obtain ⟨j, hj, rfl⟩ := List.mem_drop_iff_getElem.1 hs'
          rcases Nat.eq_zero_or_pos j with h0 | h0
          · subst h0; simp; omega
          · have := pairwise_get h.starts (show k < k + j by omega) (show k + j < T.starts.length by omega)
            simp; omega
        calc (T.starts.filter (· ≤ i)).length = ((T.starts.take k ++ T.starts.drop k).filter (· ≤ i)).length := by rw [← e1]
          _ = _ := by rw [List.filter_append, e2, List.append_nil]
      · cases he
    reason := fun i e he => by
      simp only [List.getElem?_take] at he
      split at he
      · rename_i hi
        have := h.reason i e he
        refine ⟨fun hm => this.1 ((hin i).1 hm).1, fun hm => ?_⟩
        have this := this.2 (fun hm' => hm ((hin i).2 ⟨hm', hi⟩))
        refine ⟨this.1, fun x hx => ?_⟩
        rcases this.2 x hx with h1 | ⟨j, hj, f, hf', hfx⟩
        · exact .inl h1
        · exact .inr ⟨j, hj, f, by simp only [List.getElem?_take]; rw [if_pos (by omega)]; exact hf', hfx⟩
      · cases he }

end Go.Proofs.Ytbghfdhijlpogaa
