/-
  Chapter 24: the walk of PbWrong.
-/
import Derived.Test.YtbibjlaepmfoeaaDoorPlE
import Derived.Test.YtbibjlaepmfoeaaDoorPbS
namespace Go.Proofs.YtbibjlaepmfoeaaDoor
open Go.RowKit

theorem small_one (ls ks : List Int) : 1 ≤ (smL (1 :: ls) (1 :: ks)).length := by
  have h : (1, 1) ∈ smalls (1 :: ls) (1 :: ks) (min (1 :: ls).length 8) := by
    unfold smalls
    refine List.mem_filter.2 ⟨List.mem_map.2 ⟨0, List.mem_range.2 (by simp; omega), ?_⟩, by decide⟩
    unfold smallAt nth
    rw [if_pos (by simp)]
    rfl
  unfold smL
  rw [List.length_map]
  exact List.length_pos_of_mem h
theorem normed_not {ls ks : List Int} {b : Int} (h : normOk ls ks b = false) : normed ls ks b = (⟨[], [], 0⟩, 2) := by
  rw [normed_sg, if_pos h]
theorem not_ok {ls ks : List Int} {b : Int} {i : Nat} (hi : i < ls.length) (h : inB ls ks i = false) : normOk ls ks b = false := by
  cases e : normOk ls ks b with
  | false => rfl
  | true =>
    have := (normOk_iff.1 e).2.2.2.2 i hi
    rw [h] at this
    cases this

theorem ints_set' (xs : List Int) (k : Nat) (x : Int) : ints (xs.set k x) = ([] ++ ints xs).set k (.int .i64 x) := ints_set xs k x
theorem i64_set {xs : List Int} (h : ∀ y ∈ xs, I64 y) {k : Nat} {x : Int} (hx : I64 x) : ∀ y ∈ xs.set k x, I64 y := fun y hy => by
  rcases List.mem_or_eq_of_mem_set hy with e | e
  · exact h y e
  · rw [e]; exact hx
theorem ex7 : normed [1, 2] [16777216, 16777216] 16777217 = (⟨[], [], 0⟩, 3) := by
  have e : normVars [1, 2] [16777216, 16777216] = [1, 2] := normVars_eq (by decide) (by decide) (by decide)
  have e2 : normBd [1, 2] [16777216, 16777216] 16777217 = 16777217 := by unfold normBd; rw [e]; decide
  have e3 : normCoefs [1, 2] [16777216, 16777216] 16777217 = [16777216, 16777216] := by unfold normCoefs; rw [e, e2]; decide
  rw [normed_sg, if_neg (by decide), e2, e3, if_neg (by decide), if_neg (by decide), if_pos (by decide)]
theorem ex8 : normed [1, 2] [16777216, 16777216] 33554433 = (⟨[], [], 1⟩, 0) := by
  have e : normVars [1, 2] [16777216, 16777216] = [1, 2] := normVars_eq (by decide) (by decide) (by decide)
  have e2 : normBd [1, 2] [16777216, 16777216] 33554433 = 33554433 := by unfold normBd; rw [e]; decide
  have e3 : normCoefs [1, 2] [16777216, 16777216] 33554433 = [16777216, 16777216] := by unfold normCoefs; rw [e, e2]; decide
  rw [normed_sg, if_neg (by decide), e2, e3, if_neg (by decide), if_pos (by decide)]
theorem bad_ok : (⟨[2, 1], [1, 1], 1⟩ : Pb).ok = false := by decide
theorem bad_neg : (⟨[2, 1], [1, 1], 1⟩ : Pb).negB = (⟨[], [], 0⟩, 2) := by unfold Pb.negB; rw [if_neg (by decide)]
theorem bad_slack : (⟨[2, 1], [1, 1], 1⟩ : Pb).slackB [] = 0 := by decide
theorem bad_units : (⟨[2, 1], [1, 1], 1⟩ : Pb).unitsB [] = [] := by decide
theorem bad_holds : (⟨[2, 1], [1, 1], 1⟩ : Pb).holdsB [1, 1] = false := by decide
theorem bad_text : (⟨[2, 1], [1, 1], 1⟩ : Pb).text = [] := by unfold Pb.text; rw [if_neg (by decide)]
theorem lim_not (L C : List Int) : normOk L C 1099511627777 = false := by
  cases e : normOk L C 1099511627777 with
  | false => rfl
  | true => have := (normOk_iff.1 e).2.2.2.1; omega
theorem tail_not {L C : List Int} {b : Int} (h : L.length = C.length) (h1 : 1 ≤ C.length) : normOk L C.tail b = false := by
  cases e : normOk L C.tail b with
  | false => rfl
  | true => have := (normOk_iff.1 e).1; rw [List.length_tail] at this; omega
theorem rd_tail {w : World} {F : Nat → Prop} {g n c : Nat} {xs : List Int} (h : Rd w F 1 (.slice (some ⟨g, 0, none⟩) n c) n ([] ++ ints xs)) (hn : 1 ≤ n) : Rd w F 1 (.slice (some ⟨g, 1, none⟩) (n - 1) (c - 1)) (n - 1) (ints xs.tail) := by
  have hl : xs.length = n := by have := h.1; simpa [ints_length] using this
  obtain ⟨A, cap, e, h1, h2, h3⟩ := h.2
  injection e with e1 _ e2
  subst e1 e2
  obtain ⟨g', o, e, hF, hg, hc⟩ := h3 (by omega)
  injection e with e
  injection e with e5 e6
  subst e5 e6
  refine ⟨by rw [ints_length, List.length_tail]; omega, _, _, rfl, by omega, by omega, fun _ => ⟨g, 1, rfl, hF, hg, fun j u hu => ?_⟩⟩
  have hj : (ints xs)[j + 1]? = some u := by
    rw [← hu]
    unfold ints
    rw [List.getElem?_map, List.getElem?_map, List.getElem?_tail]
  have := hc (j + 1) u (by rw [List.nil_append]; exact hj)
  rw [show 0 + (j + 1) = 1 + j by omega] at this
  exact this
theorem rd_tail1 {w : World} {F : Nat → Prop} {g n c : Nat} {xs : List Int} (h : Rd w F 1 (.slice (some ⟨g, 0, none⟩) n c) n ([] ++ ints xs)) (hn : 1 ≤ n) (hc : c = 1) : Rd w F 1 (.slice (some ⟨g, 0, none⟩) (n - 1) 0) (n - 1) (ints xs.tail) := by
  have hl : xs.length = n := by have := h.1; simpa [ints_length] using this
  obtain ⟨A, cap, e, h1, h2, h3⟩ := h.2
  injection e with e1 _ e2
  refine ⟨by rw [ints_length, List.length_tail]; omega, _, _, rfl, by omega, Nat.zero_le _, fun h => absurd h (by omega)⟩
theorem own_cell {w : World} {F : Nat → Prop} {n c g k : Nat} {xs : List Int} (h : Own w F 3 1 (.slice (some ⟨g, 0, none⟩) n c) n ([] ++ ints xs)) (hk : k < n) : w.cell? ⟨g, k, none⟩ = some (.int .i64 (nth xs k)) ∧ w.frozen? ⟨g, k, none⟩ = false ∧ F g ∧ g < w.heap.size := by
  have hl : xs.length = n := by have := h.rd.1; simpa [ints_length] using this
  obtain ⟨g', e1, hF, hg, hc, hf⟩ := h.cell (j := k) (by omega)
  injection e1 with e1
  injection e1 with e1
  subst e1
  rw [List.nil_append, ints_nth (by omega)] at hc
  exact ⟨hc, hf, hF, hg⟩

end Go.Proofs.YtbibjlaepmfoeaaDoor
