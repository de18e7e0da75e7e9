/-
  The reference of chapter 29 as plain data: assignments of literals, clauses that one constraint implies.
-/
import Derived.Test.YtofobmgmgipomaaPrE
namespace Go.Proofs.Ytofobmgmgipomaa
open Go.RowKit

/-- The assignment of n variables in which the literals X are true. -/
def asgX (n : Nat) (X : List Int) : List Int := (List.range n).map fun (i : Nat) => valX X ((i : Int) + 1)
theorem assign_asgX (T : Tr) : T.assign = asgX T.vars T.lits := rfl
theorem asgX_len (n : Nat) (X : List Int) : (asgX n X).length = n := by simp [asgX]
theorem asgX_nth {n i : Nat} (X : List Int) (h : i < n) : nth (asgX n X) i = valX X ((i : Int) + 1) := by
  unfold asgX
  rw [nth_eq (by simpa using h)]
  simp
theorem valB_asgX {n : Nat} {X : List Int} (hok : okX X) {l : Int} (h0 : l ≠ 0) (hv : l.natAbs ≤ n) : valB (asgX n X) l = valX X l := by
  have e : nth (asgX n X) (l.natAbs - 1) = valX X (l.natAbs : Nat) := by
    rw [asgX_nth _ (by omega)]
    congr 1
    omega
  unfold valB
  rw [e]
  rcases Int.lt_or_gt_of_ne h0 with hn | hp
  · have hl : ((l.natAbs : Nat) : Int) = -l := by omega
    rw [hl]
    unfold valX
    rw [Int.neg_neg]
    by_cases h1 : -l ∈ X
    · have h2 : l ∉ X := fun h => hok l h h1
      rw [if_pos h1, if_neg h2, if_neg (by decide), if_neg (by simp; omega), if_pos h1]
    · by_cases h2 : l ∈ X
      · rw [if_neg h1, if_pos h2, if_neg (by decide), if_pos (by simp; omega), if_pos h2]
      · rw [if_neg h1, if_neg h2, if_neg h2, if_neg h1, if_pos rfl]
  · have hl : ((l.natAbs : Nat) : Int) = l := by omega
    rw [hl]
    unfold valX
    by_cases h1 : l ∈ X
    · rw [if_pos h1, if_neg (by decide), if_pos (by simp; omega)]
    · by_cases h2 : -l ∈ X
      · rw [if_neg h1, if_pos h2, if_neg (by decide), if_neg (by simp; omega)]
      · rw [if_neg h1, if_neg h2, if_pos rfl]
section
variable {n : Nat} {X : List Int} {c : Pb}
theorem slackB_asgX (hok : okX X) (hc : c.Ok) (hv : ∀ l ∈ c.lits, l.natAbs ≤ n) : c.slackB (asgX n X) = c.slackX X := by
  unfold Pb.slackB Pb.slackX
  rw [if_pos ((Pb.ok_iff c).2 hc)]
  congr 1
  refine Pb.total_cong fun j hj => ?_
  rw [valB_asgX hok (hc.lit j hj).1 (hv _ (nth_mem hj))]
theorem unitsB_asgX (hok : okX X) (hc : c.Ok) (hv : ∀ l ∈ c.lits, l.natAbs ≤ n) (h0 : 0 ≤ c.slackX X) : c.unitsB (asgX n X) = c.newX X := by
  have e := slackB_asgX hok hc hv
  unfold Pb.unitsB Pb.newX Pb.pick
  rw [if_pos ⟨(Pb.ok_iff c).2 hc, by rw [e]; exact h0⟩, e]
  congr 1
  refine List.filter_congr fun j hj => ?_
  have hj := List.mem_range.1 hj
  show (decide (valB (asgX n X) (nth c.lits j) = 0) && decide (c.slackX X < nth c.coefs j)) = (decide (c.slackX X < nth c.coefs j) && decide (valX X (nth c.lits j) = 0))
  rw [valB_asgX hok (hc.lit j hj).1 (hv _ (nth_mem hj)), Bool.and_comm]
end
/-- One more literal made true. -/
theorem asgX_set {n : Nat} {X : List Int} {l : Int} (hv : valX X l = 0) (h0 : l ≠ 0) : (asgX n X).set (l.natAbs - 1) (if 0 < l then 1 else -1) = asgX n (X ++ [l]) := by
  obtain ⟨h1, h2⟩ := valX_zero.1 hv
  apply List.ext_getElem (by simp [asgX_len])
  intro i g1 g2
  rw [asgX_len] at g2
  rw [← nth_eq g1, ← nth_eq (by rw [asgX_len]; exact g2), nth_set _ _ _ _ (by rw [asgX_len]; exact g2), asgX_nth _ g2, asgX_nth _ g2]
  have m : ∀ x : Int, x ∈ X ++ [l] ↔ x ∈ X ∨ x = l := fun x => by simp
  by_cases e : l.natAbs - 1 = i
  · rw [if_pos e]
    unfold valX
    by_cases hp : 0 < l
    · have el : ((i : Int) + 1) = l := by omega
      rw [if_pos hp, el, if_pos ((m l).2 (.inr rfl))]
    · have el : ((i : Int) + 1) = -l := by omega
      rw [if_neg hp, el, Int.neg_neg, if_neg (fun h => ((m _).1 h).elim h2 fun h => by omega), if_pos ((m l).2 (.inr rfl))]
  · rw [if_neg e]
    unfold valX
    have a1 : ((i : Int) + 1) ∈ X ++ [l] ↔ ((i : Int) + 1) ∈ X := by rw [m]; exact ⟨fun h => h.elim id fun h => by omega, .inl⟩
    have a2 : -((i : Int) + 1) ∈ X ++ [l] ↔ -((i : Int) + 1) ∈ X := by rw [m]; exact ⟨fun h => h.elim id fun h => by omega, .inl⟩
    simp only [a1, a2]
/-- How many variables are unknown. -/
def zerX (n : Nat) (X : List Int) : Nat := ((List.range n).filter fun (i : Nat) => decide (valX X ((i : Int) + 1) = 0)).length
theorem filter_le {α : Type} {p q : α → Bool} (h : ∀ x, p x = true → q x = true) : ∀ xs : List α, (xs.filter p).length ≤ (xs.filter q).length := by
  intro xs
  induction xs with
  | nil => simp
  | cons x xs ih =>
    rw [List.filter_cons, List.filter_cons]
    cases hp : p x with
    | true => rw [h x hp]; simpa using ih
    | false => cases q x <;> simp <;> omega
theorem filter_lt {α : Type} {p q : α → Bool} (h : ∀ x, p x = true → q x = true) {y : α} (hq : q y = true) (hp : p y = false) : ∀ xs : List α, y ∈ xs → (xs.filter p).length < (xs.filter q).length := by
  intro xs
  induction xs with
  | nil => intro hy; cases hy
  | cons x xs ih =>
    intro hy
    rw [List.filter_cons, List.filter_cons]
    have hle := filter_le h xs
    rcases List.mem_cons.1 hy with rfl | hy
    · rw [hp, hq]
      simp only [Bool.false_eq_true, if_false, if_true, List.length_cons]
      omega
    · have := ih hy
      cases hpx : p x with
      | true => rw [h x hpx]; simpa using this
      | false => cases q x <;> simp <;> omega
theorem zerX_lt {n : Nat} {X : List Int} {N : List Int} {l : Int} (hl : l ∈ N) (hv : valX X l = 0) (h0 : l ≠ 0) (hn : l.natAbs ≤ n) : zerX n (X ++ N) < zerX n X := by
  obtain ⟨h1, h2⟩ := valX_zero.1 hv
  refine filter_lt (y := l.natAbs - 1) (fun i hi => ?_) ?_ ?_ _ (List.mem_range.2 (by omega))
  · rw [decide_eq_true_eq, valX_zero] at hi ⊢
    exact ⟨fun h => hi.1 (List.mem_append_left _ h), fun h => hi.2 (List.mem_append_left _ h)⟩
  · rw [decide_eq_true_eq, valX_zero]
    rcases Int.lt_or_gt_of_ne h0 with hn | hp
    · rw [show ((l.natAbs - 1 : Nat) : Int) + 1 = -l by omega, Int.neg_neg]; exact ⟨h2, h1⟩
    · rw [show ((l.natAbs - 1 : Nat) : Int) + 1 = l by omega]; exact ⟨h1, h2⟩
  · rw [decide_eq_false_iff_not, valX_zero]
    rintro ⟨g1, g2⟩
    rcases Int.lt_or_gt_of_ne h0 with hn | hp
    · exact g2 (List.mem_append_right _ (by rw [show ((l.natAbs - 1 : Nat) : Int) + 1 = -l by omega, Int.neg_neg]; exact hl))
    · exact g1 (List.mem_append_right _ (by rw [show ((l.natAbs - 1 : Nat) : Int) + 1 = l by omega]; exact hl))
/-- A constraint of which nothing is new is calm. -/
theorem calm_none {c : Pb} {X : List Int} (h0 : 0 ≤ c.slackX X) (hn : c.newX X = []) : c.Calm X := by
  refine ⟨h0, fun j hj hlt hv => ?_⟩
  have : nth c.lits j ∈ c.newX X := mem_newX.2 ⟨j, hj, hlt, hv, rfl⟩
  rw [hn] at this
  cases this
theorem newX_nodup {c : Pb} {X : List Int} (hc : c.Ok) : (c.newX X).Nodup := by
  unfold Pb.newX Pb.pick
  unfold List.Nodup
  rw [List.pairwise_map]
  exact List.Pairwise.imp_of_mem (fun hi hj hne e => hne (hc.inj (List.mem_range.1 (List.mem_filter.1 hi).1) (List.mem_range.1 (List.mem_filter.1 hj).1) (by rw [e]))) (List.nodup_range.filter _)
theorem newX_next {c : Pb} {X : List Int} (hc : c.Ok) {k : Nat} (hk : k < (c.newX X).length) : valX (X ++ (c.newX X).take k) (nth (c.newX X) k) = 0 ∧ nth (c.newX X) k ∈ c.lits := by
  have hm := nth_mem hk
  obtain ⟨j, hj, _, h3, h4⟩ := mem_newX.1 hm
  rw [h4] at h3
  obtain ⟨g1, g2⟩ := valX_zero.1 h3
  have hlit : nth (c.newX X) k ∈ c.lits := by rw [← h4]; exact nth_mem hj
  refine ⟨valX_zero.2 ⟨fun h => ?_, fun h => ?_⟩, hlit⟩
  · rcases List.mem_append.1 h with h | h
    · exact g1 h
    · obtain ⟨i, hi, e⟩ := List.mem_take_iff_getElem.1 h
      have hnd := newX_nodup (X := X) hc
      exact List.pairwise_iff_getElem.1 hnd i k (by omega) hk (by omega) (by rw [e, nth_eq hk])
  · rcases List.mem_append.1 h with h | h
    · exact g2 h
    · have h5 := List.mem_of_mem_take h
      obtain ⟨i, hi, _, _, e⟩ := mem_newX.1 h5
      exact hc.no_neg hlit (by rw [← e]; exact nth_mem hi)
/-- Does one constraint imply the clause of literals of it? -/
def impC (c : Pb) (ls : List Int) : Bool := ls.all (fun l => decide (l ∈ c.lits)) && decide ((c.total fun l => !decide (l ∈ ls)) < c.bound)
theorem impC_off {c : Pb} {X : List Int} (hs : c.slackX X < 0) : impC c (c.offX X) = true := by
  unfold impC
  rw [Bool.and_eq_true, List.all_eq_true]
  refine ⟨fun l hl => decide_eq_true (mem_offX.1 hl).1, decide_eq_true ?_⟩
  unfold Pb.slackX at hs
  rw [Pb.total_cong (q := fun l => decide (0 ≤ valX X l)) fun j hj => ?_]
  · omega
  · have hm := nth_mem hj
    by_cases e : valX X (nth c.lits j) < 0
    · rw [decide_eq_false (by omega : ¬ 0 ≤ valX X (nth c.lits j)), decide_eq_true (mem_offX.2 ⟨hm, valX_neg.1 e⟩)]; rfl
    · rw [decide_eq_true (by omega : 0 ≤ valX X (nth c.lits j)), decide_eq_false (fun h => e (valX_neg.2 (mem_offX.1 h).2))]; rfl
theorem impC_new {c : Pb} {X : List Int} (hc : c.Ok) {l : Int} (hl : l ∈ c.newX X) : impC c (l :: c.offX X) = true := by
  obtain ⟨j, hj, h2, h3, rfl⟩ := mem_newX.1 hl
  unfold impC
  rw [Bool.and_eq_true, List.all_eq_true]
  refine ⟨fun l hl => decide_eq_true ((List.mem_cons.1 hl).elim (fun e => e ▸ nth_mem hj) fun h => (mem_offX.1 h).1), decide_eq_true ?_⟩
  have h8 := total_drop hc (p := fun l => decide (0 ≤ valX X l)) (q := fun l => !decide (l ∈ nth c.lits j :: c.offX X)) hj (by simp [h3]) (by simp) fun i hi hq => by
    simp only [Bool.not_eq_true', decide_eq_false_iff_not, decide_eq_true_eq] at hq ⊢
    refine Int.not_lt.1 fun hn => hq (List.mem_cons_of_mem _ (mem_offX.2 ⟨nth_mem hi, valX_neg.1 hn⟩))
  unfold Pb.slackX at h2
  omega
end Go.Proofs.Ytofobmgmgipomaa
