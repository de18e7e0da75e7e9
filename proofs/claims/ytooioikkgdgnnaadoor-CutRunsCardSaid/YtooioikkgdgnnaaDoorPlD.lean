/-
  Chapter 24: the plain laws of a clause.
-/
import Derived.Test.YtooioikkgdgnnaaDoorPlC
import Derived.Test.YtooioikkgdgnnaaDoorPbN
namespace Go.Proofs.YtooioikkgdgnnaaDoor

theorem arr_nth (xs : List Int) (j : Nat) : (xs.toArray)[j]! = nth xs j := by
  unfold nth
  rcases Nat.lt_or_ge j xs.length with h | h
  · rw [getElem!_pos xs.toArray j (by simpa using h), List.getElem?_eq_getElem h]; simp
  · rw [getElem!_neg xs.toArray j (by simpa using h), List.getElem?_eq_none h]; rfl
theorem mem_compactL {xs : List Int} {x : Int} : x ∈ compactL xs ↔ ∃ j, j < xs.length ∧ (j = 0 ∨ nth xs j ≠ nth xs (j - 1)) ∧ nth xs j = x := by
  unfold compactL Lib.compact Lib.compactUpTo
  rw [List.mem_map]
  constructor
  · rintro ⟨j, hj, e⟩
    have hj := List.mem_filter.1 hj
    have h1 : Lib.keeps xs.toArray j = true := hj.2
    unfold Lib.keeps at h1
    rw [decide_eq_true_eq, arr_nth, arr_nth] at h1
    rw [arr_nth] at e
    exact ⟨j, List.mem_range.1 hj.1, h1, e⟩
  · rintro ⟨j, hj, h1, e⟩
    refine ⟨j, List.mem_filter.2 ⟨List.mem_range.2 hj, ?_⟩, by rw [arr_nth]; exact e⟩
    unfold Lib.keeps
    rw [decide_eq_true_eq, arr_nth, arr_nth]
    exact h1
theorem compactL_same {xs : List Int} {x : Int} : x ∈ compactL xs ↔ x ∈ xs := by
  rw [mem_compactL]
  constructor
  · rintro ⟨j, hj, _, rfl⟩; exact nth_mem hj
  · intro h
    obtain ⟨j, hj, e⟩ := List.getElem_of_mem h
    rw [← nth_eq hj] at e
    induction j with
    | zero => exact ⟨0, hj, .inl rfl, e⟩
    | succ j ih =>
      by_cases e2 : nth xs (j + 1) = nth xs j
      · exact ih (by omega) (e2 ▸ e)
      · exact ⟨j + 1, hj, .inr e2, e⟩
theorem nth_mono {xs : List Int} (h : xs.Pairwise fun x y => x ≤ y) {i j : Nat} (hij : i ≤ j) (hj : j < xs.length) : nth xs i ≤ nth xs j := by
  rcases Nat.lt_or_ge i j with e | e
  · rw [nth_eq hj, nth_eq (by omega)]
    exact List.pairwise_iff_getElem.1 h i j (by omega) hj e
  · rw [show i = j by omega]; exact Int.le_refl _
theorem compactL_rise {xs : List Int} (h : xs.Pairwise fun x y => x ≤ y) : (compactL xs).Pairwise fun x y => x < y := by
  unfold compactL Lib.compact Lib.compactUpTo
  rw [List.pairwise_map]
  refine (List.pairwise_lt_range.filter _).imp_of_mem fun {i j} _ hj hij => ?_
  have hj := List.mem_filter.1 hj
  have h2 := List.mem_range.1 hj.1
  have h1 : Lib.keeps xs.toArray j = true := hj.2
  unfold Lib.keeps at h1
  rw [decide_eq_true_eq, arr_nth, arr_nth] at h1
  rw [arr_nth, arr_nth]
  have h3 := nth_mono h (show i ≤ j - 1 by omega) (by omega)
  have h4 := nth_mono h (show j - 1 ≤ j by omega) h2
  rcases h1 with h1 | h1
  · omega
  · omega
/-- The literals of a clause, each once. -/
def once (ls : List Int) : List Int := compactL (sortL ls)
theorem mem_once {ls : List Int} {x : Int} : x ∈ once ls ↔ x ∈ ls := compactL_same.trans (sortL_perm ls).mem_iff
theorem once_nodup (ls : List Int) : (once ls).Nodup := (compactL_rise (sortL_sorted ls)).imp fun h => by omega
theorem once_len (ls : List Int) : (once ls).length ≤ ls.length := by
  have := List.Nodup.length_le_of_subset (once_nodup ls) (fun x hx => mem_once.1 hx)
  exact this
theorem clauseB_is (ls : List Int) : clauseB ls = normed (once ls) (List.replicate (once ls).length 1) 1 := rfl
theorem nth_ones {n i : Nat} (h : i < n) : nth (List.replicate n 1) i = 1 := by
  unfold nth
  rw [List.getElem?_replicate, if_pos h]; rfl
theorem once_in {ls : List Int} (h : ∀ l ∈ ls, litB l = true) (hn : ls.length ≤ 65536) : normOk (once ls) (List.replicate (once ls).length 1) 1 = true := by
  have h1 := once_len ls
  refine normOk_iff.2 ⟨by simp, by omega, by decide, by decide, fun i hi => ?_⟩
  unfold inB
  rw [nth_ones hi, h _ (mem_once.1 (nth_mem hi))]
  decide
theorem once_small {ls : List Int} (h : ∀ l ∈ ls, litB l = true) (hn : ls.length ≤ 8) : (clauseB ls).2 = 0 := by
  have h1 := once_len ls
  rw [clauseB_is]
  refine norm_fits (once_in h (by omega)) ?_
  have := normBd_le (ls := once ls) (ks := List.replicate (once ls).length 1) (b := 1) (K := 1) fun i hi => ⟨h _ (mem_once.1 (nth_mem hi)), by rw [nth_ones hi]; decide, by rw [nth_ones hi]; decide⟩
  omega
theorem got_ones (s : Int → Bool) (ls : List Int) : 1 ≤ got s ls (List.replicate ls.length 1) ls.length ↔ ls.any (tr s) = true := by
  have e : got s ls (List.replicate ls.length 1) ls.length = ((List.range ls.length).map fun i => if tr s (nth ls i) = true then (1 : Int) else 0).sum := by
    unfold got
    refine sum_cong _ fun i hi => ?_
    rw [nth_ones (List.mem_range.1 hi)]
  rw [e, List.any_eq_true]
  constructor
  · intro h
    by_cases e2 : ∃ x ∈ ls, tr s x = true
    · exact e2
    · rw [sum_zero _ fun i hi => by rw [if_neg fun h => e2 ⟨_, nth_mem (List.mem_range.1 hi), h⟩]] at h
      omega
  · rintro ⟨x, hx, h⟩
    obtain ⟨j, hj, e2⟩ := List.getElem_of_mem hx
    rw [← nth_eq hj] at e2
    refine le_sum _ (fun y hy => ?_) (List.mem_map.2 ⟨j, List.mem_range.2 hj, by rw [e2, if_pos h]⟩)
    obtain ⟨i, _, rfl⟩ := List.mem_map.1 hy
    split <;> omega
/-- A clause is satisfied exactly if one of its literals is true. -/
theorem clause_holds (s : Int → Bool) {ls : List Int} (h : ∀ l ∈ ls, litB l = true) (hn : ls.length ≤ 8) : (clauseB ls).1.bound ≤ (clauseB ls).1.total (tr s) ↔ ls.any (tr s) = true := by
  have h1 := once_len ls
  have h2 := once_small h hn
  rw [clauseB_is] at h2 ⊢
  rw [norm_holds s (once_in h (by omega)) h2, got_ones, List.any_eq_true, List.any_eq_true]
  exact ⟨fun ⟨x, hx, e⟩ => ⟨x, mem_once.1 hx, e⟩, fun ⟨x, hx, e⟩ => ⟨x, mem_once.2 hx, e⟩⟩
/-- A literal stands beside its negation. -/
def clash (ls : List Int) : Bool := ls.any fun x => decide (-x ∈ ls)
theorem clash_iff {ls : List Int} : clash ls = true ↔ ∃ x ∈ ls, -x ∈ ls := by
  unfold clash
  rw [List.any_eq_true]
  constructor
  · rintro ⟨x, hx, h⟩; exact ⟨x, hx, of_decide_eq_true h⟩
  · rintro ⟨x, hx, h⟩; exact ⟨x, hx, decide_eq_true h⟩
theorem clause_both {ls : List Int} (h : ∀ l ∈ ls, litB l = true) (hn : ls.length ≤ 8) (hc : clash ls = true) : (clauseB ls).1.bound = 0 := by
  obtain ⟨x, hx, hx2⟩ := clash_iff.1 hc
  have h1 := once_len ls
  have hl : ∀ i, i < (once ls).length → litB (nth (once ls) i) = true := fun i hi => h _ (mem_once.1 (nth_mem hi))
  have h3 := ups_is (fun v => decide (vsum (once ls) (List.replicate (once ls).length 1) (once ls).length v < 0)) (ks := List.replicate (once ls).length 1) (b := 1) hl
  have h4 : ups (fun v => decide (vsum (once ls) (List.replicate (once ls).length 1) (once ls).length v < 0)) (once ls) (List.replicate (once ls).length 1) = 0 := by
    unfold ups
    refine sum_zero _ fun v hv => ?_
    have h5 := mem_normVars.1 hv
    rw [tr_sg _ _ h5.1]
    by_cases e : vsum (once ls) (List.replicate (once ls).length 1) (once ls).length v < 0
    · rw [if_pos e]; simp [e]
    · rw [if_neg e]; simp [e]
  have h6 : normBd (once ls) (List.replicate (once ls).length 1) 1 ≤ 0 := by
    rw [h4] at h3
    refine h3.2 ((got_ones _ _).2 (List.any_eq_true.2 ?_))
    have hx0 := litB_iff.1 (h x hx)
    cases e : tr (fun v => decide (vsum (once ls) (List.replicate (once ls).length 1) (once ls).length v < 0)) x with
    | true => exact ⟨x, mem_once.2 hx, e⟩
    | false => exact ⟨-x, mem_once.2 hx2, by rw [tr_neg _ hx0.1, e]; rfl⟩
  rw [clauseB_is, normed_sg, if_neg (by rw [once_in h (by omega)]; decide), if_pos h6]
theorem clash_none {ls : List Int} (h : ∀ l ∈ ls, litB l = true) (hc : clash ls = false) {i j : Nat} (hij : i ≠ j) (hi : i < (once ls).length) (hj : j < (once ls).length) : (nth (once ls) i).natAbs ≠ (nth (once ls) j).natAbs := by
  intro e
  have h1 := nth_mem hi
  have h2 := nth_mem hj
  have h3 := litB_iff.1 (h _ (mem_once.1 h1))
  by_cases e2 : nth (once ls) i = nth (once ls) j
  · rw [nth_eq hi, nth_eq hj] at e2
    exact hij ((List.getElem_inj (once_nodup ls)).1 e2)
  · have e3 : nth (once ls) j = -(nth (once ls) i) := by omega
    have : clash ls = true := clash_iff.2 ⟨_, mem_once.1 h1, e3 ▸ mem_once.1 h2⟩
    rw [hc] at this
    cases this
theorem once_vsum {ls : List Int} (h : ∀ l ∈ ls, litB l = true) (hc : clash ls = false) : ∀ j, j ≤ (once ls).length →
    (∀ v : Int, (∀ i, i < j → (((nth (once ls) i).natAbs : Nat) : Int) ≠ v) → 1 ≤ v → vsum (once ls) (List.replicate (once ls).length 1) j v = 0) ∧
    (V6.map fun v => min (vsum (once ls) (List.replicate (once ls).length 1) j v) 0).sum + nsum (once ls) (List.replicate (once ls).length 1) j = 0 := by
  intro j
  induction j with
  | zero =>
    intro _
    refine ⟨fun v _ _ => by simp [vsum], ?_⟩
    rw [sum_zero V6 fun v _ => by simp [vsum]]
    simp [nsum]
  | succ j ih =>
    intro hj
    obtain ⟨h1, h2⟩ := ih (by omega)
    have hl := litB_iff.1 (h _ (mem_once.1 (nth_mem (show j < (once ls).length by omega))))
    refine ⟨fun v hv hv1 => ?_, ?_⟩
    · rw [vsum_succ, h1 v (fun i hi => hv i (by omega)) hv1]
      have := hv j (by omega)
      unfold term
      rw [if_neg (by omega), if_neg (by omega)]; rfl
    · have h3 := h1 (((nth (once ls) j).natAbs : Nat) : Int) (fun i hi => by
        have := clash_none h hc (show i ≠ j by omega) (by omega) (by omega)
        omega) (by omega)
      have e : (V6.map fun v => min (vsum (once ls) (List.replicate (once ls).length 1) (j + 1) v) 0).sum = (V6.map fun v => min (vsum (once ls) (List.replicate (once ls).length 1) j v) 0).sum + (V6.map fun v => if v = ((nth (once ls) j).natAbs : Int) then (if nth (once ls) j < 0 then (-1 : Int) else 0) else 0).sum := by
        rw [← sum_add]
        refine sum_cong V6 fun v hv => ?_
        have hv := mem_V6.1 hv
        rw [vsum_succ, nth_ones (by omega)]
        unfold term
        by_cases e2 : v = ((nth (once ls) j).natAbs : Int)
        · subst e2
          rw [if_pos rfl, h3]
          by_cases e3 : nth (once ls) j < 0
          · rw [if_neg (by omega), if_pos (by omega), if_pos e3]; decide
          · rw [if_pos (by omega), if_neg e3]; decide
        · rw [if_neg e2, if_neg (by omega), if_neg (by omega)]; omega
      rw [e, pick_sum (x := ((nth (once ls) j).natAbs : Int)) V6 V6_nodup (mem_V6.2 (by omega)) fun v _ hne => if_neg hne, if_pos rfl, nsum_succ, nth_ones (by omega)]
      split <;> omega
theorem once_at {ls : List Int} (h : ∀ l ∈ ls, litB l = true) (hc : clash ls = false) {i : Nat} (hi : i < (once ls).length) : vsum (once ls) (List.replicate (once ls).length 1) (once ls).length (((nth (once ls) i).natAbs : Nat) : Int) = if nth (once ls) i < 0 then -1 else 1 := by
  unfold vsum
  have hl := litB_iff.1 (h _ (mem_once.1 (nth_mem hi)))
  rw [pick_sum (x := i) (List.range (once ls).length) List.nodup_range (List.mem_range.2 hi) fun j hj hne => by
    have hj := List.mem_range.1 hj
    have h1 := clash_none h hc hne hj hi
    have h2 := litB_iff.1 (h _ (mem_once.1 (nth_mem hj)))
    unfold term
    rw [if_neg (by omega), if_neg (by omega)]]
  rw [nth_ones hi]
  unfold term
  by_cases e : nth (once ls) i < 0
  · rw [if_neg (by omega), if_pos (by omega), if_pos e]
  · rw [if_pos (by omega), if_neg e]
theorem once_bd {ls : List Int} (h : ∀ l ∈ ls, litB l = true) (hc : clash ls = false) : normBd (once ls) (List.replicate (once ls).length 1) 1 = 1 := by
  obtain ⟨_, h1⟩ := once_vsum h hc (once ls).length (Nat.le_refl _)
  unfold normBd
  rw [normVars_V6, sum_filter V6 fun v _ hv => by
    have : vsum (once ls) (List.replicate (once ls).length 1) (once ls).length v = 0 := by simpa using hv
    rw [this]; rfl]
  omega
theorem once_vars {ls : List Int} (h : ∀ l ∈ ls, litB l = true) (hc : clash ls = false) : (normVars (once ls) (List.replicate (once ls).length 1)).length = (once ls).length := by
  have hp : (normVars (once ls) (List.replicate (once ls).length 1)).Perm ((List.range (once ls).length).map fun i => (((nth (once ls) i).natAbs : Nat) : Int)) := by
    refine (List.perm_ext_iff_of_nodup ((normVars_rise _ _).imp fun h => by omega) ?_).2 fun v => ?_
    · unfold List.Nodup
      rw [List.pairwise_map]
      refine List.nodup_range.imp_of_mem fun {i j} hi hj hne e => ?_
      have := clash_none h hc hne (List.mem_range.1 hi) (List.mem_range.1 hj)
      omega
    · rw [mem_normVars, List.mem_map]
      constructor
      · rintro ⟨h1, h2, h3⟩
        by_cases e : ∃ i, i < (once ls).length ∧ (((nth (once ls) i).natAbs : Nat) : Int) = v
        · obtain ⟨i, hi, e⟩ := e
          exact ⟨i, List.mem_range.2 hi, e⟩
        · exact absurd ((once_vsum h hc _ (Nat.le_refl _)).1 v (fun i hi e2 => e ⟨i, hi, e2⟩) h1) h3
      · rintro ⟨i, hi, rfl⟩
        have hi := List.mem_range.1 hi
        have hl := litB_iff.1 (h _ (mem_once.1 (nth_mem hi)))
        refine ⟨by omega, by omega, ?_⟩
        rw [once_at h hc hi]
        split <;> decide
  have := hp.length_eq
  simpa using this
theorem clause_one {ls : List Int} (h : ∀ l ∈ ls, litB l = true) (hn : ls.length ≤ 8) (hc : clash ls = false) : (clauseB ls).1.bound = 1 ∧ (clauseB ls).1.lits.length = (once ls).length := by
  have h1 := once_len ls
  have h2 := once_bd h hc
  have h3 := once_vars h hc
  rw [clauseB_is, normed_sg, if_neg (by rw [once_in h (by omega)]; decide), h2, if_neg (by decide)]
  have h4 : (normCoefs (once ls) (List.replicate (once ls).length 1) 1).sum = (once ls).length := by
    unfold normCoefs
    rw [h2]
    have : ((normVars (once ls) (List.replicate (once ls).length 1)).map fun v => min (((vsum (once ls) (List.replicate (once ls).length 1) (once ls).length v).natAbs : Nat) : Int) 1).sum = ((normVars (once ls) (List.replicate (once ls).length 1)).map fun _ => (1 : Int)).sum := by
      refine sum_cong _ fun v hv => ?_
      have := (mem_normVars.1 hv).2.2
      omega
    rw [this, List.map_const', h3]
    simp
  by_cases e : (once ls).length = 0
  · rw [if_pos (by omega)]
    exact ⟨rfl, by rw [e]; rfl⟩
  · rw [if_neg (by omega), if_neg (by decide)]
    refine ⟨rfl, ?_⟩
    rw [List.length_map]
    exact h3
end Go.Proofs.YtooioikkgdgnnaaDoor
