/-
  Chapter 29: several texts in one (PlD EnS EnJ).
-/
import Derived.Test.YtofobmgmgipomaaMgj
import Derived.Test.YtofobmgmgipomaaMgp
import Derived.Test.YtofobmgmgipomaaMgo
import Derived.Test.YtofobmgmgipomaaMgi
import Derived.Test.YtofobmgmgipomaaMgm
import Derived.Test.YtofobmgmgipomaaMgk
import Derived.Test.YtofobmgmgipomaaMgl
namespace Go.Proofs.Ytofobmgmgipomaa
theorem arr_nth (xs : List Int) (j : Nat) : (xs.toArray)[j]! = nth xs j := by
  unfold nth
  rcases Nat.lt_or_ge j xs.length with h | h
  · rw [getElem!_pos xs.toArray j (by simpa using h), List.getElem?_eq_getElem h]; simp
  · rw [getElem!_neg xs.toArray j (by simpa using h), List.getElem?_eq_none h]; rfl
theorem mem_compactL {xs : List Int} {x : Int} : x ∈ compactL xs ↔ ∃ j, j < xs.length ∧ (j = 0 ∨ nth xs j ≠ nth xs (j - 1)) ∧ nth xs j = x := by
  unfold compactL Lib.compact Lib.compactUpTo
  rw [List.mem_map]
  constructor
  · rintro ⟨j, hj, e⟩
    have hj := List.mem_filter.1 hj
    have h1 : Lib.keeps xs.toArray j = true := hj.2
    unfold Lib.keeps at h1
    rw [decide_eq_true_eq, arr_nth, arr_nth] at h1
    rw [arr_nth] at e
    exact ⟨j, List.mem_range.1 hj.1, h1, e⟩
  · rintro ⟨j, hj, h1, e⟩
    refine ⟨j, List.mem_filter.2 ⟨List.mem_range.2 hj, ?_⟩, by rw [arr_nth]; exact e⟩
    unfold Lib.keeps
    rw [decide_eq_true_eq, arr_nth, arr_nth]
    exact h1
theorem compactL_same {xs : List Int} {x : Int} : x ∈ compactL xs ↔ x ∈ xs := by
  rw [mem_compactL]
  constructor
  · rintro ⟨j, hj, _, rfl⟩; exact nth_mem hj
  · intro h
    obtain ⟨j, hj, e⟩ := List.getElem_of_mem h
    rw [← nth_eq hj] at e
    induction j with
    | zero => exact ⟨0, hj, .inl rfl, e⟩
    | succ j ih =>
      by_cases e2 : nth xs (j + 1) = nth xs j
      · exact ih (by omega) (e2 ▸ e)
      · exact ⟨j + 1, hj, .inr e2, e⟩
theorem nth_mono {xs : List Int} (h : xs.Pairwise fun x y => x ≤ y) {i j : Nat} (hij : i ≤ j) (hj : j < xs.length) : nth xs i ≤ nth xs j := by
  rcases Nat.lt_or_ge i j with e | e
  · rw [nth_eq hj, nth_eq (by omega)]
    exact List.pairwise_iff_getElem.1 h i j (by omega) hj e
  · rw [show i = j by omega]; exact Int.le_refl _
theorem compactL_rise {xs : List Int} (h : xs.Pairwise fun x y => x ≤ y) : (compactL xs).Pairwise fun x y => x < y := by
  unfold compactL Lib.compact Lib.compactUpTo
  rw [List.pairwise_map]
  refine (List.pairwise_lt_range.filter _).imp_of_mem fun {i j} _ hj hij => ?_
  have hj := List.mem_filter.1 hj
  have h2 := List.mem_range.1 hj.1
  have h1 : Lib.keeps xs.toArray j = true := hj.2
  unfold Lib.keeps at h1
  rw [decide_eq_true_eq, arr_nth, arr_nth] at h1
  rw [arr_nth, arr_nth]
  have h3 := nth_mono h (show i ≤ j - 1 by omega) (by omega)
  have h4 := nth_mono h (show j - 1 ≤ j by omega) h2
  rcases h1 with h1 | h1
  · omega
  · omega
/-- The literals of a clause, each once. -/
def once (ls : List Int) : List Int := compactL (sortL ls)
theorem mem_once {ls : List Int} {x : Int} : x ∈ once ls ↔ x ∈ ls := compactL_same.trans (sortL_perm ls).mem_iff
theorem once_nodup (ls : List Int) : (once ls).Nodup := (compactL_rise (sortL_sorted ls)).imp fun h => by omega
theorem once_len (ls : List Int) : (once ls).length ≤ ls.length := by
  have := List.Nodup.length_le_of_subset (once_nodup ls) (fun x hx => mem_once.1 hx)
  exact this
theorem clauseB_is (ls : List Int) : clauseB ls = normed (once ls) (List.replicate (once ls).length 1) 1 := rfl
theorem nth_ones {n i : Nat} (h : i < n) : nth (List.replicate n 1) i = 1 := by
  unfold nth
  rw [List.getElem?_replicate, if_pos h]; rfl
theorem once_in {ls : List Int} (h : ∀ l ∈ ls, litB l = true) (hn : ls.length ≤ 65536) : normOk (once ls) (List.replicate (once ls).length 1) 1 = true := by
  have h1 := once_len ls
  refine normOk_iff.2 ⟨by simp, by omega, by decide, by decide, fun i hi => ?_⟩
  unfold inB
  rw [nth_ones hi, h _ (mem_once.1 (nth_mem hi))]
  decide
theorem once_small {ls : List Int} (h : ∀ l ∈ ls, litB l = true) (hn : ls.length ≤ 8) : (clauseB ls).2 = 0 := by
  have h1 := once_len ls
  rw [clauseB_is]
  refine norm_fits (once_in h (by omega)) ?_
  have := normBd_le (ls := once ls) (ks := List.replicate (once ls).length 1) (b := 1) (K := 1) fun i hi => ⟨h _ (mem_once.1 (nth_mem hi)), by rw [nth_ones hi]; decide, by rw [nth_ones hi]; decide⟩
  omega
theorem got_ones (s : Int → Bool) (ls : List Int) : 1 ≤ got s ls (List.replicate ls.length 1) ls.length ↔ ls.any (tr s) = true := by
  have e : got s ls (List.replicate ls.length 1) ls.length = ((List.range ls.length).map fun i => if tr s (nth ls i) = true then (1 : Int) else 0).sum := by
    unfold got
    refine sum_cong _ fun i hi => ?_
    rw [nth_ones (List.mem_range.1 hi)]
  rw [e, List.any_eq_true]
  constructor
  · intro h
    by_cases e2 : ∃ x ∈ ls, tr s x = true
    · exact e2
    · rw [sum_zero _ fun i hi => by rw [if_neg fun h => e2 ⟨_, nth_mem (List.mem_range.1 hi), h⟩]] at h
      omega
  · rintro ⟨x, hx, h⟩
    obtain ⟨j, hj, e2⟩ := List.getElem_of_mem hx
    rw [← nth_eq hj] at e2
    refine le_sum _ (fun y hy => ?_) (List.mem_map.2 ⟨j, List.mem_range.2 hj, by rw [e2, if_pos h]⟩)
    obtain ⟨i, _, rfl⟩ := List.mem_map.1 hy
    split <;> omega
/-- A clause is satisfied exactly if one of its literals is true. -/
theorem clause_holds (s : Int → Bool) {ls : List Int} (h : ∀ l ∈ ls, litB l = true) (hn : ls.length ≤ 8) : (clauseB ls).1.bound ≤ (clauseB ls).1.total (tr s) ↔ ls.any (tr s) = true := by
  have h1 := once_len ls
  have h2 := once_small h hn
  rw [clauseB_is] at h2 ⊢
  rw [norm_holds s (once_in h (by omega)) h2, got_ones, List.any_eq_true, List.any_eq_true]
  exact ⟨fun ⟨x, hx, e⟩ => ⟨x, mem_once.1 hx, e⟩, fun ⟨x, hx, e⟩ => ⟨x, mem_once.2 hx, e⟩⟩
/-- A literal stands beside its negation. -/
def clash (ls : List Int) : Bool := ls.any fun x => decide (-x ∈ ls)
theorem clash_iff {ls : List Int} : clash ls = true ↔ ∃ x ∈ ls, -x ∈ ls := by
  unfold clash
  rw [List.any_eq_true]
  constructor
  · rintro ⟨x, hx, h⟩; exact ⟨x, hx, of_decide_eq_true h⟩
  · rintro ⟨x, hx, h⟩; exact ⟨x, hx, decide_eq_true h⟩
theorem clause_both {ls : List Int} (h : ∀ l ∈ ls, litB l = true) (hn : ls.length ≤ 8) (hc : clash ls = true) : (clauseB ls).1.bound = 0 := by
  obtain ⟨x, hx, hx2⟩ := clash_iff.1 hc
  have h1 := once_len ls
  have hl : ∀ i, i < (once ls).length → litB (nth (once ls) i) = true := fun i hi => h _ (mem_once.1 (nth_mem hi))
  have h3 := ups_is (fun v => decide (vsum (once ls) (List.replicate (once ls).length 1) (once ls).length v < 0)) (ks := List.replicate (once ls).length 1) (b := 1) hl
  have h4 : ups (fun v => decide (vsum (once ls) (List.replicate (once ls).length 1) (once ls).length v < 0)) (once ls) (List.replicate (once ls).length 1) = 0 := by
    unfold ups
    refine sum_zero _ fun v hv => ?_
    have h5 := mem_normVars.1 hv
    rw [tr_sg _ _ h5.1]
    by_cases e : vsum (once ls) (List.replicate (once ls).length 1) (once ls).length v < 0
    · rw [if_pos e]; simp [e]
    · rw [if_neg e]; simp [e]
  have h6 : normBd (once ls) (List.replicate (once ls).length 1) 1 ≤ 0 := by
    rw [h4] at h3
    refine h3.2 ((got_ones _ _).2 (List.any_eq_true.2 ?_))
    have hx0 := litB_iff.1 (h x hx)
    cases e : tr (fun v => decide (vsum (once ls) (List.replicate (once ls).length 1) (once ls).length v < 0)) x with
    | true => exact ⟨x, mem_once.2 hx, e⟩
    | false => exact ⟨-x, mem_once.2 hx2, by rw [tr_neg _ hx0.1, e]; rfl⟩
  rw [clauseB_is, normed_sg, if_neg (by rw [once_in h (by omega)]; decide), if_pos h6]
theorem clash_none {ls : List Int} (h : ∀ l ∈ ls, litB l = true) (hc : clash ls = false) {i j : Nat} (hij : i ≠ j) (hi : i < (once ls).length) (hj : j < (once ls).length) : (nth (once ls) i).natAbs ≠ (nth (once ls) j).natAbs := by
  intro e
  have h1 := nth_mem hi
  have h2 := nth_mem hj
  have h3 := litB_iff.1 (h _ (mem_once.1 h1))
  by_cases e2 : nth (once ls) i = nth (once ls) j
  · rw [nth_eq hi, nth_eq hj] at e2
    exact hij ((List.getElem_inj (once_nodup ls)).1 e2)
  · have e3 : nth (once ls) j = -(nth (once ls) i) := by omega
    have : clash ls = true := clash_iff.2 ⟨_, mem_once.1 h1, e3 ▸ mem_once.1 h2⟩
    rw [hc] at this
    cases this
theorem once_vsum {ls : List Int} (h : ∀ l ∈ ls, litB l = true) (hc : clash ls = false) : ∀ j, j ≤ (once ls).length →
    (∀ v : Int, (∀ i, i < j → (((nth (once ls) i).natAbs : Nat) : Int) ≠ v) → 1 ≤ v → vsum (once ls) (List.replicate (once ls).length 1) j v = 0) ∧
    (V6.map fun v => min (vsum (once ls) (List.replicate (once ls).length 1) j v) 0).sum + nsum (once ls) (List.replicate (once ls).length 1) j = 0 := by
  intro j
  induction j with
  | zero =>
    intro _
    refine ⟨fun v _ _ => by simp [vsum], ?_⟩
    rw [sum_zero V6 fun v _ => by simp [vsum]]
    simp [nsum]
  | succ j ih =>
    intro hj
    obtain ⟨h1, h2⟩ := ih (by omega)
    have hl := litB_iff.1 (h _ (mem_once.1 (nth_mem (show j < (once ls).length by omega))))
    refine ⟨fun v hv hv1 => ?_, ?_⟩
    · rw [vsum_succ, h1 v (fun i hi => hv i (by omega)) hv1]
      have := hv j (by omega)
      unfold term
      rw [if_neg (by omega), if_neg (by omega)]; rfl
    · have h3 := h1 (((nth (once ls) j).natAbs : Nat) : Int) (fun i hi => by
        have := clash_none h hc (show i ≠ j by omega) (by omega) (by omega)
        omega) (by omega)
      have e : (V6.map fun v => min (vsum (once ls) (List.replicate (once ls).length 1) (j + 1) v) 0).sum = (V6.map fun v => min (vsum (once ls) (List.replicate (once ls).length 1) j v) 0).sum + (V6.map fun v => if v = ((nth (once ls) j).natAbs : Int) then (if nth (once ls) j < 0 then (-1 : Int) else 0) else 0).sum := by
        rw [← sum_add]
        refine sum_cong V6 fun v hv => ?_
        have hv := mem_V6.1 hv
        rw [vsum_succ, nth_ones (by omega)]
        unfold term
        by_cases e2 : v = ((nth (once ls) j).natAbs : Int)
        · subst e2
          rw [if_pos rfl, h3]
          by_cases e3 : nth (once ls) j < 0
          · rw [if_neg (by omega), if_pos (by omega), if_pos e3]; decide
          · rw [if_pos (by omega), if_neg e3]; decide
        · rw [if_neg e2, if_neg (by omega), if_neg (by omega)]; omega
      rw [e, pick_sum (x := ((nth (once ls) j).natAbs : Int)) V6 V6_nodup (mem_V6.2 (by omega)) fun v _ hne => if_neg hne, if_pos rfl, nsum_succ, nth_ones (by omega)]
      split <;> omega
theorem once_at {ls : List Int} (h : ∀ l ∈ ls, litB l = true) (hc : clash ls = false) {i : Nat} (hi : i < (once ls).length) : vsum (once ls) (List.replicate (once ls).length 1) (once ls).length (((nth (once ls) i).natAbs : Nat) : Int) = if nth (once ls) i < 0 then -1 else 1 := by
  unfold vsum
  have hl := litB_iff.1 (h _ (mem_once.1 (nth_mem hi)))
  rw [pick_sum (x := i) (List.range (once ls).length) List.nodup_range (List.mem_range.2 hi) fun j hj hne => by
    have hj := List.mem_range.1 hj
    have h1 := clash_none h hc hne hj hi
    have h2 := litB_iff.1 (h _ (mem_once.1 (nth_mem hj)))
    unfold term
    rw [if_neg (by omega), if_neg (by omega)]]
  rw [nth_ones hi]
  unfold term
  by_cases e : nth (once ls) i < 0
  · rw [if_neg (by omega), if_pos (by omega), if_pos e]
  · rw [if_pos (by omega), if_neg e]
theorem once_bd {ls : List Int} (h : ∀ l ∈ ls, litB l = true) (hc : clash ls = false) : normBd (once ls) (List.replicate (once ls).length 1) 1 = 1 := by
  obtain ⟨_, h1⟩ := once_vsum h hc (once ls).length (Nat.le_refl _)
  unfold normBd
  rw [normVars_V6, sum_filter V6 fun v _ hv => by
    have : vsum (once ls) (List.replicate (once ls).length 1) (once ls).length v = 0 := by simpa using hv
    rw [this]; rfl]
  omega
theorem once_vars {ls : List Int} (h : ∀ l ∈ ls, litB l = true) (hc : clash ls = false) : (normVars (once ls) (List.replicate (once ls).length 1)).length = (once ls).length := by
  have hp : (normVars (once ls) (List.replicate (once ls).length 1)).Perm ((List.range (once ls).length).map fun i => (((nth (once ls) i).natAbs : Nat) : Int)) := by
    refine (List.perm_ext_iff_of_nodup ((normVars_rise _ _).imp fun h => by omega) ?_).2 fun v => ?_
    · unfold List.Nodup
      rw [List.pairwise_map]
      refine List.nodup_range.imp_of_mem fun {i j} hi hj hne e => ?_
      have := clash_none h hc hne (List.mem_range.1 hi) (List.mem_range.1 hj)
      omega
    · rw [mem_normVars, List.mem_map]
      constructor
      · rintro ⟨h1, h2, h3⟩
        by_cases e : ∃ i, i < (once ls).length ∧ (((nth (once ls) i).natAbs : Nat) : Int) = v
        · obtain ⟨i, hi, e⟩ := e
          exact ⟨i, List.mem_range.2 hi, e⟩
        · exact absurd ((once_vsum h hc _ (Nat.le_refl _)).1 v (fun i hi e2 => e ⟨i, hi, e2⟩) h1) h3
      · rintro ⟨i, hi, rfl⟩
        have hi := List.mem_range.1 hi
        have hl := litB_iff.1 (h _ (mem_once.1 (nth_mem hi)))
        refine ⟨by omega, by omega, ?_⟩
        rw [once_at h hc hi]
        split <;> decide
  have := hp.length_eq
  simpa using this
theorem clause_one {ls : List Int} (h : ∀ l ∈ ls, litB l = true) (hn : ls.length ≤ 8) (hc : clash ls = false) : (clauseB ls).1.bound = 1 ∧ (clauseB ls).1.lits.length = (once ls).length := by
  have h1 := once_len ls
  have h2 := once_bd h hc
  have h3 := once_vars h hc
  rw [clauseB_is, normed_sg, if_neg (by rw [once_in h (by omega)]; decide), h2, if_neg (by decide)]
  have h4 : (normCoefs (once ls) (List.replicate (once ls).length 1) 1).sum = (once ls).length := by
    unfold normCoefs
    rw [h2]
    have : ((normVars (once ls) (List.replicate (once ls).length 1)).map fun v => min (((vsum (once ls) (List.replicate (once ls).length 1) (once ls).length v).natAbs : Nat) : Int) 1).sum = ((normVars (once ls) (List.replicate (once ls).length 1)).map fun _ => (1 : Int)).sum := by
      refine sum_cong _ fun v hv => ?_
      have := (mem_normVars.1 hv).2.2
      omega
    rw [this, List.map_const', h3]
    simp
  by_cases e : (once ls).length = 0
  · rw [if_pos (by omega)]
    exact ⟨rfl, by rw [e]; rfl⟩
  · rw [if_neg (by omega), if_neg (by decide)]
    refine ⟨rfl, ?_⟩
    rw [List.length_map]
    exact h3

section
open Go.RowKit

def at7 (ls ks : List Int) (i : Nat) : Int × Int := (Int.tmod (nth ls i) 8, if i < ks.length then Int.tmod (nth ks i) 6 else 1)
def row7 (ls ks : List Int) (j : Nat) : List (Int × Int) := ((List.range j).map (at7 ls ks)).filter fun p => decide (p.1 ≠ 0)
theorem row7_succ (ls ks : List Int) (j : Nat) : row7 ls ks (j + 1) = row7 ls ks j ++ (if (at7 ls ks j).1 ≠ 0 then [at7 ls ks j] else []) := by
  unfold row7
  rw [List.range_succ, List.map_append, List.filter_append]
  congr 1
  by_cases e : (at7 ls ks j).1 = 0
  · simp [e]
  · simp [e]
theorem row7_len (ls ks : List Int) (j : Nat) : (row7 ls ks j).length ≤ j := by
  unfold row7
  have := List.length_filter_le (fun p : Int × Int => decide (p.1 ≠ 0)) ((List.range j).map (at7 ls ks))
  simpa using this
def lisAt (lls : List (List Int)) (i : Nat) : List Int := (lls[i]?).getD []
theorem lisAt_get {lls : List (List Int)} {i : Nat} {l : List Int} (h : lls[i]? = some l) : lisAt lls i = l := by simp [lisAt, h]
theorem lisAt_none {lls : List (List Int)} {i : Nat} (h : lls.length ≤ i) : lisAt lls i = [] := by simp [lisAt, h]
def rw7 (lls kks : List (List Int)) (i : Nat) : List (Int × Int) := row7 (lisAt lls i) (lisAt kks i) (min (lisAt lls i).length 8)
def bd7 (bs : List Int) (i : Nat) : Int := if i < bs.length then Int.tmod (nth bs i) 12 else 1
def sm7 (lls kks : List (List Int)) (bs : List Int) (i : Nat) : Pb × Int := normed ((rw7 lls kks i).map Prod.fst) ((rw7 lls kks i).map Prod.snd) (bd7 bs i)
/-- What Small makes of the first k lists. -/
def small7 (lls kks : List (List Int)) (bs : List Int) (k : Nat) : List Pb := (((List.range k).map (sm7 lls kks bs)).filter fun p => decide (p.2 = 0)).map Prod.fst
theorem small7_succ (lls kks : List (List Int)) (bs : List Int) (k : Nat) : small7 lls kks bs (k + 1) = small7 lls kks bs k ++ (if (sm7 lls kks bs k).2 = 0 then [(sm7 lls kks bs k).1] else []) := by
  unfold small7
  rw [List.range_succ, List.map_append, List.filter_append, List.map_append]
  congr 1
  by_cases e : (sm7 lls kks bs k).2 = 0
  · simp [e]
  · simp [e]
theorem small7_len (lls kks : List (List Int)) (bs : List Int) (k : Nat) : (small7 lls kks bs k).length ≤ k := by
  unfold small7
  have := List.length_filter_le (fun p : Pb × Int => decide (p.2 = 0)) ((List.range k).map (sm7 lls kks bs))
  simpa using this
theorem tmod_lim (x : Int) {m : Int} (hm : 0 < m) : -(m - 1) ≤ Int.tmod x m ∧ Int.tmod x m ≤ m - 1 := by
  have h1 := Int.tmod_lt_of_pos x hm
  have h2 := Int.tmod_lt_of_pos (-x) hm
  rw [Int.neg_tmod] at h2
  omega
theorem row7_mem {ls ks : List Int} {j : Nat} {p : Int × Int} (h : p ∈ row7 ls ks j) : p.1 ≠ 0 ∧ -7 ≤ p.1 ∧ p.1 ≤ 7 ∧ -5 ≤ p.2 ∧ p.2 ≤ 5 := by
  unfold row7 at h
  obtain ⟨h1, h2⟩ := List.mem_filter.1 h
  obtain ⟨i, _, rfl⟩ := List.mem_map.1 h1
  have h3 := tmod_lim (nth ls i) (m := 8) (by decide)
  have h4 := tmod_lim (nth ks i) (m := 6) (by decide)
  refine ⟨by simpa using h2, ?_, ?_, ?_, ?_⟩
  · show -7 ≤ Int.tmod (nth ls i) 8; omega
  · show Int.tmod (nth ls i) 8 ≤ 7; omega
  · show -5 ≤ (if i < ks.length then Int.tmod (nth ks i) 6 else 1); split <;> omega
  · show (if i < ks.length then Int.tmod (nth ks i) 6 else 1) ≤ 5; split <;> omega
/-- A constraint that Small makes. -/
theorem small7_mem {lls kks : List (List Int)} {bs : List Int} {k : Nat} {p : Pb} (h : p ∈ small7 lls kks bs k) : p.Ok ∧ ∀ l ∈ p.lits, l.natAbs ≤ 7 := by
  unfold small7 at h
  obtain ⟨q, h1, rfl⟩ := List.mem_map.1 h
  obtain ⟨h1, h2⟩ := List.mem_filter.1 h1
  obtain ⟨i, _, rfl⟩ := List.mem_map.1 h1
  have h2 : (sm7 lls kks bs i).2 = 0 := by simpa using h2
  unfold sm7 at h2 ⊢
  have hok : normOk ((rw7 lls kks i).map Prod.fst) ((rw7 lls kks i).map Prod.snd) (bd7 bs i) = true := by
    rw [← Bool.not_eq_false]
    intro hf
    unfold normed at h2
    rw [if_pos hf] at h2
    exact absurd h2 (by decide)
  refine ⟨(Pb.ok_iff _).1 (norm_valid hok h2), fun l hl => ?_⟩
  obtain ⟨x, hx, e⟩ := norm_lits hl
  obtain ⟨p, hp, rfl⟩ := List.mem_map.1 hx
  have := row7_mem hp
  omega
theorem small7_fits {lls kks : List (List Int)} {bs : List Int} {k : Nat} : ∀ p ∈ small7 lls kks bs k, Eng.fits ⟨7, [], [], 0⟩ p = true := by
  intro p hp
  obtain ⟨h1, h2⟩ := small7_mem hp
  unfold Eng.fits
  rw [(Pb.ok_iff p).2 h1, Bool.true_and, List.all_eq_true]
  intro l hl
  exact decide_eq_true (h2 l hl)
theorem Pb.Ok.i64 {p : Pb} (h : p.Ok) : ∀ k ∈ p.coefs, I64 k := by
  intro k hk
  obtain ⟨j, hj, e⟩ := List.getElem_of_mem hk
  have h1 := h.coef j (by rw [h.len]; exact hj)
  rw [nth_eq hj, e] at h1
  have := h.high
  unfold I64
  omega
theorem small7_i64 {lls kks : List (List Int)} {bs : List Int} {k : Nat} : ∀ p ∈ small7 lls kks bs k, ∀ z ∈ p.coefs, I64 z := fun _ hp => (small7_mem hp).1.i64

/-- A slice of constraints that grows: its row is the call's own (from w0 on); G: where its constraints lie. -/
structure Dbg (w0 : Nat) (G : Nat → Prop) (W : World) (A : Option Addr) (n c : Nat) (ts : List (Value × Value × Value)) (s : List Pb) : Prop where
  len : s.length = n
  own : Own W (fun g => w0 ≤ g) 36 3 (.slice A n c) n (flat3 ts)
  ps : Ps W (fun g => G g ∧ ¬ row (.slice A n c) g) ts s
section
variable {w0 : Nat} {G : Nat → Prop} {W W' : World} {A : Option Addr} {n c : Nat} {ts : List (Value × Value × Value)} {s : List Pb}
theorem Dbg.nil (w0 : Nat) (G : Nat → Prop) (W : World) : Dbg w0 G W none 0 0 [] [] := ⟨rfl, Own.nil _ _ _ _, Ps.nil _ _⟩
theorem Dbg.below (h : Dbg w0 G W A n c ts s) (b : Below W.heap.size W W') : Dbg w0 G W' A n c ts s := ⟨h.len, h.own.below b, h.ps.below b⟩
theorem Dbg.rd (h : Dbg w0 G W A n c ts s) : PsRd W (fun g => w0 ≤ g) (fun g => G g) A n c s := ⟨ts, h.own.rd, h.ps.mono fun _ _ h => h.1, h.len⟩
theorem Dbg.row (h : Dbg w0 G W A n c ts s) {g : Nat} (hr : Go.Proofs.Ytofobmgmgipomaa.row (.slice A n c) g) : w0 ≤ g ∧ g < W.heap.size := by
  obtain ⟨h1, cur, h2⟩ := h.own.row hr
  exact ⟨h1, lt_of_block h2⟩
theorem Dbg.push (h : Dbg w0 G W A n c ts s) (hw : w0 ≤ W.heap.size) {A' : Option Addr} {c' : Nat} {t : Value × Value × Value} {p : Pb} (ho : Own W' (fun b => w0 ≤ b ∨ W.heap.size ≤ b) 36 3 (.slice A' (n + 1) c') (n + 1) (flat3 ts ++ [t.1, t.2.1, t.2.2]))
    (hm : Mod (Go.Proofs.Ytofobmgmgipomaa.row (.slice A n c)) W W') (hr : ∀ b, Go.Proofs.Ytofobmgmgipomaa.row (.slice A' (n + 1) c') b → Go.Proofs.Ytofobmgmgipomaa.row (.slice A n c) b ∨ W.heap.size ≤ b) (hp : PbRd W (fun g => G g ∧ ¬ Go.Proofs.Ytofobmgmgipomaa.row (.slice A n c) g) (agg3 t) p) :
    Dbg w0 G W' A' (n + 1) c' (ts ++ [t]) (s ++ [p]) ∧ Below w0 W W' := by
  refine ⟨⟨by simp [h.len], ?_, ?_⟩, below_mod (Below.refl _ _) hw hm fun g hg => (h.row hg).1⟩
  · rw [flat3_append]
    exact ho.mono fun g _ _ hg => hg.elim id fun e => by omega
  · exact (((h.ps.snoc hp).mono (G := fun g => (G g ∧ ¬ Go.Proofs.Ytofobmgmgipomaa.row (.slice A' (n + 1) c') g) ∧ ¬ Go.Proofs.Ytofobmgmgipomaa.row (.slice A n c) g) fun g hg h2 => ⟨⟨h2.1, fun e => (hr g e).elim h2.2 fun e2 => by omega⟩, h2.2⟩).mod hm fun g _ h2 => h2.2).mono fun g _ h2 => h2.1
end
/-- A slice of constraints of the call's own. -/
def GivesPs (w w' : World) (r : Ending) (ps : List Pb) : Prop := (∃ A n c ts, r = .returned (.slice A n c) ∧ Dbg w.heap.size (fun g => w.heap.size ≤ g) w' A n c ts ps) ∧ Below w.heap.size w w'
theorem below_on {w0 : Nat} {w W W' : World} (h : Below w0 w W) (hs : w0 ≤ w.heap.size) (b : Below W.heap.size W W') : Below w0 w W' := h.trans (b.mono (Nat.le_trans hs h.size))
theorem slices_to {A : Option Addr} {n c i : Nat} (hA : 0 < n → ∃ g o, A = some ⟨g, o, none⟩) (hi : i ≤ n) (hc : n ≤ c) :
    ∃ A', (0 < n → A' = A) ∧ ∀ W : World, (Instr.slice 22 (.slice A n c) none (some (.int .i64 (i : Int))) none).run Try.prog W = .ok (.slice A' i c) W := by
  have h1 : (0 : Int) ≤ (i : Int) ∧ (i : Int) ≤ (c : Int) := by omega
  refine ⟨if c = 0 then A else A.map (·.add (0 * 1)), fun hp => ?_, fun W => by simp [Instr.slice, Instr.sliceBounds, Instr.sliceBound, run_underlying Try.underlying22, asIntOf, h1, Try.sizeOf23]; exact fun h => absurd h (by omega)⟩
  obtain ⟨g, o, rfl⟩ := hA hp
  rw [if_neg (by omega)]
  simp [addr_add]
theorem rd_spot {w : World} {F : Nat → Prop} {k : Nat} {A : Option Addr} {n c : Nat} {xs : List Value} (h : Rd w F k (.slice A n c) n xs) : n ≤ c ∧ c ≤ maxLen ∧ (0 < n → ∃ g o, A = some ⟨g, o, none⟩) := by
  obtain ⟨_, A', c', hv, hc, hm, hA⟩ := h
  injection hv with h1 _ h3
  subst h1 h3
  refine ⟨hc, hm, fun hp => ?_⟩
  obtain ⟨g, o, e, _⟩ := hA hp
  exact ⟨g, o, e⟩
theorem LsRd.to {w : World} {F : Nat → Prop} {A A' : Option Addr} {n c i : Nat} {lls : List (List Int)} (h : LsRd w F A n c lls) (hi : i ≤ n) (hA : 0 < n → A' = A) : LsRd w F A' i c (lls.take i) := by
  obtain ⟨rows, h1, h2, h3⟩ := h
  refine ⟨rows.take i, rd_to h1 hi hA, by simp; omega, fun j l hl => ?_⟩
  rw [List.getElem?_take] at hl
  split at hl
  · rename_i hj
    obtain ⟨R, d, h4, h5⟩ := h3 j l hl
    exact ⟨R, d, by rw [List.getElem?_take, if_pos hj]; exact h4, h5⟩
  · cases hl
theorem LsRd.spot {w : World} {F : Nat → Prop} {A : Option Addr} {n c : Nat} {lls : List (List Int)} (h : LsRd w F A n c lls) : n ≤ c ∧ c ≤ maxLen ∧ (0 < n → ∃ g o, A = some ⟨g, o, none⟩) := by
  obtain ⟨rows, h1, _⟩ := h
  exact rd_spot h1
end

section
open Go.RowKit

def GivesPb (w w' : World) (r : Ending) (c : Pb) : Prop := (∃ A n d B m e, r = .returned (.agg #[.slice A n d, .slice B m e, .int .i64 c.bound]) ∧ PbRd w' (fun g => w.heap.size ≤ g) (.agg #[.slice A n d, .slice B m e, .int .i64 c.bound]) c) ∧ Below w.heap.size w w'
theorem run_min (a b : Int) (w : World) : (Builtin.min_ #[3, 3] 3 #[.int .i64 a, .int .i64 b]).run Try.prog w = .ok (.int .i64 (min a b)) w := by
  unfold Builtin.min_
  simp only [go_sem, List.foldlM, Builtin.min2]
  by_cases h : b < a
  · have e : min a b = b := by omega
    rw [e]
    simp [h, go_sem]
  · have e : min a b = a := by omega
    rw [e]
    simp [h, go_sem]
set_option maxRecDepth 100000 in
set_option maxHeartbeats 1000000 in
theorem clause29_any {w : World} {F : Nat → Prop} {A : Option Addr} {n cA : Nat} {ls : List Int} (hl : Rd w F 1 (.slice A n cA) n (ints ls)) (hi : ∀ x ∈ ls, I64 x) (hn : n ≤ 1000000) :
    Calls Try.prog 20 #[.slice A n cA] w fun r w' => GivesPb w w' r (clauseB ls).1 := by
  obtain ⟨R, hR⟩ : ∃ R, clauseB ls = R := ⟨_, rfl⟩
  rw [hR]
  have HR := hid hR
  obtain ⟨X0, hX0, bX0, k0, s0⟩ := alloc_step w (.cells #[.slice none 0 0, .slice none 0 0, .int .i64 0] 36)
  have HX0 := hid hX0
  have hl0 := hid (hl.below bX0)
  have KO := hid k0
  have B0 := hid bX0
  clear hX0 bX0 k0 hR hl
  go_enter Try.func20, Try.ntmps20
  go_wp2_with fail
  rw [HX0.out]
  have hll : ls.length = n := by have := hl0.out.1; simpa [ints_length] using this
  refine (clause_any hl0.out hi hn (by rw [← hll]; exact once_len ls) fun x hx => mem_once.1 hx).mono ?_
  rintro r w1 ⟨⟨pv, rfl, hpv⟩, b1⟩
  rw [HR.out] at hpv ⊢
  obtain ⟨⟨A1, n1, c1, A2, n2, c2, rfl, r1, r2⟩, hb1⟩ := hpv
  have KO1 := hid (keep_blk KO.out b1)
  have B1 := hid (B0.out.trans (b1.mono B0.out.size))
  have s1 := b1.size
  obtain ⟨X2, hX2, bX2, k2, s2⟩ := alloc_step w1 (.cells #[.slice A1 n1 c1, .slice A2 n2 c2, .int .i64 R.1.bound] 36)
  have HX2 := hid hX2
  have R1 := hid (r1.below bX2)
  have R2 := hid (r2.below bX2)
  have KO2 := hid (keep_blk KO1.out bX2)
  have B2 := hid (B1.out.trans (bX2.mono B1.out.size))
  have hlt := lt_of_block KO2.out
  obtain ⟨t0, t1, t2⟩ := box3 KO2.out
  obtain ⟨f0, f1, f2⟩ := froz3 KO2.out
  rw [← hX2] at t0 t1 t2 f0 f1 f2
  clear hX2 bX2 k2 r1 r2 b1 HR hi hn hll
  go_wp2_with fail
  rw [HX2.out] at t0 t1 t2 ⊢
  obtain ⟨u0, u1, u2, m3⟩ := set3 t0 t1 t2 (.slice A1 n1 c1) (.slice A2 n2 c2) (.int .i64 R.1.bound)
  refine bodyPost_ret (v := .agg #[.slice A1 n1 c1, .slice A2 n2 c2, .int .i64 R.1.bound]) (by simp [results, Try.f20, go_sem, u0, u1, u2]) rfl ⟨⟨_, _, _, _, _, _, rfl, ⟨A1, n1, c1, A2, n2, c2, rfl, ?_, ?_⟩, hb1⟩, below_mod B2.out B2.out.size m3 fun g hg => by omega⟩
  · exact (R1.out.mod m3 fun g _ hf e => by omega).mono fun g _ hf => by omega
  · exact (R2.out.mod m3 fun g _ hf e => by omega).mono fun g _ hf => by omega
theorem tmod_in8 (x : Int) {m : Int} (hm : 0 < m) : -(m - 1) ≤ Int.tmod x m ∧ Int.tmod x m ≤ m - 1 := by
  have h1 := Int.tmod_lt_of_pos x hm
  have h2 := Int.tmod_lt_of_pos (-x) hm
  rw [Int.neg_tmod] at h2
  omega
/-- What the law's decided leaves. -/
def Tr.decs (T : Tr) (ls : List Int) : Tr := ls.foldl (fun T x => T.dec (Int.tmod x 8)) T
theorem Tr.decs_snoc (T : Tr) (ls : List Int) (x : Int) : T.decs (ls ++ [x]) = (T.decs ls).dec (Int.tmod x 8) := by simp [Tr.decs, List.foldl_append]
theorem Tr.decs_next (T : Tr) {ls : List Int} {k : Nat} (h : k < ls.length) : T.decs (ls.take (k + 1)) = (T.decs (ls.take k)).dec (Int.tmod (nth ls k) 8) := by
  rw [← Tr.decs_snoc, take_nth h]
set_option maxRecDepth 100000 in
set_option maxHeartbeats 1000000 in
theorem decided_any {w : World} {F G : Nat → Prop} {b : Nat} {T : Tr} (ht : Trail w F b T) {A : Option Addr} {n c : Nat} {ls : List Int} (hl : Rd w G 1 (.slice A n c) n (ints ls)) (hi : ∀ x ∈ ls, I64 x) (hGF : ∀ g, G g → ¬ F g) :
    Calls Try.prog 11 #[.pointer (some ⟨b, 0, none⟩), .slice A n c] w fun r w' => (∃ v, r = .returned v) ∧ Trail w' (fun g => F g ∨ w.heap.size ≤ g) b (T.decs (ls.take 7)) ∧ Mod F w w' := by
  obtain ⟨q, hq⟩ : ∃ q, min n 7 = q := ⟨_, rfl⟩
  have hmin : ∀ w, (Builtin.min_ #[3, 3] 3 #[.int .i64 (n : Int), .int .i64 7]).run Try.prog w = .ok (.int .i64 (q : Int)) w := fun w => by rw [run_min]; congr 2; omega
  have hll : ls.length = n := hl.cell.1
  have hcap : n ≤ c := by obtain ⟨_, _, _, hv, hc, _⟩ := hl; injection hv with _ _ h3; omega
  obtain ⟨A2, hA2, hsl⟩ := ints_to (A := A) (n := n) (c := c) (i := q) (fun hp => by obtain ⟨g, o, e, _⟩ := hl.cell.2 0 hp; exact ⟨g, o, e⟩) (by omega) hcap
  have HU := hid (rd_to hl (show q ≤ n by omega) hA2)
  rw [← ints_take] at HU
  have Hi := hid hi
  have HT := hid ht
  have Hq : Hid (ls.take 7 = ls.take q) := hid (by
    rcases Nat.lt_or_ge n 7 with h | h
    · rw [List.take_of_length_le (by omega), List.take_of_length_le (by omega)]
    · rw [show q = 7 by omega])
  have hqn : q ≤ ls.length := by omega
  have hq7 : q ≤ 7 := by omega
  have HGF := hid hGF
  clear hl hi ht hq hA2 hll hGF
  go_enter Try.func11, Try.ntmps11
  go_wp2_with fail
  go_loopw [12] (fun iv W => ∃ k : Nat, k ≤ q ∧ iv = .int .i64 k ∧ Hid (Trail W (fun g => F g ∨ w.heap.size ≤ g) b (T.decs (ls.take k))) ∧ Hid (Mod F w W)) (fun iv _ => q - (intOf iv).toNat)
  case atStart => exact ⟨0, Nat.zero_le _, rfl, hid (HT.out.mono fun g h => .inl h), hid (Mod.refl _ _)⟩
  case round =>
    obtain ⟨k, hk, rfl, HTk, HMk⟩ := hrel
    by_cases hlt : k < q
    · have x1 : (k : Int) < (q : Int) := by omega
      have HUk := hid (HU.out.mod HMk.out fun g _ hg hf => HGF.out g hg hf)
      obtain ⟨gL, oL, rfl, _, hgL, eL⟩ := HUk.out.cell.2 k hlt
      have hnt : nth (ls.take q) k = nth ls k := by simp [nth, hlt]
      rw [hnt] at eL
      obtain ⟨li, hli⟩ : ∃ z, nth ls k = z := ⟨_, rfl⟩
      have hi64 : I64 li := hli ▸ Hi.out _ (nth_mem (by omega))
      have Hli := hid hli
      rw [hli] at eL
      have htm : -7 ≤ Int.tmod li 8 ∧ Int.tmod li 8 ≤ 7 := by have := tmod_in8 li (m := 8) (by decide); omega
      have hm64 := hid (show I64 (Int.tmod li 8) by unfold I64; omega)
      have hwr : IntKind.i64.wrap (Int.tmod li 8) = Int.tmod li 8 := iw' (by omega) (by omega)
      clear hli hnt
      go_wp2_with (refine (decide_e HTk.out hm64.out).mono ?_; rintro r w4 ⟨rfl, ht4, hm4⟩; have HT4 := hid ht4; have HM4 := hid hm4; clear ht4 hm4)
      go_roundw
      case rel => exact ⟨k + 1, by omega, by go_num, hid (by rw [Tr.decs_next _ (by omega), Hli.out]; exact HT4.out.mono fun g h => h.elim id fun h => .inr (Nat.le_trans HMk.out.size h)), hid (HMk.out.trans HM4.out)⟩
      case measure => simp [intOf]; omega
    · have x1 : ¬ ((k : Int) < (q : Int)) := by omega
      have hkq := hid (show k = q by omega)
      go_wp2_with fail
      refine bodyPost_end (results_none rfl _ _ _) rfl ⟨⟨_, rfl⟩, by rw [Hq.out, ← hkq.out]; exact HTk.out, HMk.out⟩
end
end Go.Proofs.Ytofobmgmgipomaa
