/-
  Chapter 24: the chapter's examples (awake).
-/
import Derived.Test.YtooioikkgdgnnaaDoorPbQ
import Derived.Test.YtooioikkgdgnnaaDoorPbO
import Derived.Test.YtooioikkgdgnnaaDoorPlD
namespace Go.Proofs.YtooioikkgdgnnaaDoor
open Go.RowKit

theorem itoa_to (w : World) : ItoaTo w 99 := fun i h1 h2 W _ => by
  obtain ⟨k, rfl⟩ : ∃ k : Nat, i = k := ⟨i.toNat, by omega⟩
  refine (sh_strconv_Itoa_small k (by omega) W).mono ?_
  rintro r w' ⟨rfl, rfl⟩
  exact ⟨by rw [Lib.itoa_nonneg], Below.refl _ _⟩
theorem own_lit (w : World) (xs : List Int) (h0 : 0 < xs.length) (hn : xs.length ≤ 1000000) : Own (w.alloc (.cells (ints xs).toArray 3)) (fun g => g = w.heap.size) 3 1 (.slice (some ⟨w.heap.size, 0, none⟩) xs.length xs.length) xs.length (ints xs) :=
  own_new w _ 3 1 xs.length _ xs.length _ (by simp [ints]) (by omega) (Nat.le_refl _) (by unfold maxLen; omega) (by simp [ints]) (by rw [List.toList_toArray, Nat.mul_one]; exact List.take_of_length_le (by simp [ints])) rfl
theorem own_lit8 (w : World) (xs : List Int) (h0 : 0 < xs.length) (hn : xs.length ≤ 1000000) : Own (w.alloc (.cells (i8s xs).toArray 107)) (fun g => g = w.heap.size) 107 1 (.slice (some ⟨w.heap.size, 0, none⟩) xs.length xs.length) xs.length (i8s xs) :=
  own_new w _ 107 1 xs.length _ xs.length _ (by simp [i8s]) (by omega) (Nat.le_refl _) (by unfold maxLen; omega) (by simp [i8s]) (by rw [List.toList_toArray, Nat.mul_one]; exact List.take_of_length_le (by simp [i8s])) rfl
/-- A normal form, computed. -/
theorem normVars_eq {ls ks vs : List Int} (hr : vs.Pairwise (fun x y => x < y)) (h1 : ∀ v ∈ vs, 1 ≤ v ∧ v ≤ 65536 ∧ vsum ls ks ls.length v ≠ 0) (h2 : ∀ l ∈ ls, ((l.natAbs : Nat) : Int) ∈ vs ∨ vsum ls ks ls.length (l.natAbs : Nat) = 0) : normVars ls ks = vs := by
  have hn := normVars_rise ls ks
  refine List.Perm.eq_of_pairwise (le := fun x y : Int => x ≤ y) (fun a b _ _ h1 h2 => by omega) (hn.imp fun h => by omega) (hr.imp fun h => by omega) ((List.perm_ext_iff_of_nodup (hn.imp fun h => by omega) (hr.imp fun h => by omega)).2 fun v => ?_)
  rw [mem_normVars]
  refine ⟨fun ⟨q1, q2, q3⟩ => ?_, h1 v⟩
  by_cases e : ∃ l ∈ ls, ((l.natAbs : Nat) : Int) = v
  · obtain ⟨l, hl, rfl⟩ := e
    exact (h2 l hl).elim id fun h => absurd h q3
  · refine absurd (sum_zero _ fun i hi => ?_) q3
    have hi := List.mem_range.1 hi
    have : ¬ ((((nth ls i).natAbs : Nat) : Int) = v) := fun h => e ⟨_, nth_mem hi, h⟩
    unfold term
    rw [if_neg (by omega), if_neg (by omega)]
theorem ex1 : normed [1, 2, 3] [2, 1, 1] 2 = (⟨[1, 2, 3], [2, 1, 1], 2⟩, 0) := Pb.Ok.again (c := ⟨[1, 2, 3], [2, 1, 1], 2⟩) ((Pb.ok_iff _).1 (by decide))
theorem ex2 : Pb.negB ⟨[1, 2, 3], [2, 1, 1], 2⟩ = (⟨[-1, -2, -3], [2, 1, 1], 3⟩, 0) := by
  unfold Pb.negB
  rw [if_pos (by decide)]
  exact Pb.Ok.again (c := ⟨[-1, -2, -3], [2, 1, 1], 3⟩) ((Pb.ok_iff _).1 (by decide))
theorem ex3 : clauseB [3, -1, 3] = (⟨[-1, 3], [1, 1], 1⟩, 0) := by
  have e : once [3, -1, 3] = [-1, 3] := by
    refine List.Perm.eq_of_pairwise (le := fun x y : Int => x ≤ y) (fun a b _ _ h1 h2 => by omega) ((compactL_rise (sortL_sorted _)).imp fun h => by omega) (by decide) ((List.perm_ext_iff_of_nodup (once_nodup _) (by decide)).2 fun v => ?_)
    rw [mem_once]
    simp
    omega
  rw [clauseB_is, e]
  exact Pb.Ok.again (c := ⟨[-1, 3], [1, 1], 1⟩) ((Pb.ok_iff _).1 (by decide))
theorem ex4 : normed [1, 2, 1] [3, -2, 2] 4 = (⟨[1, -2], [5, 2], 6⟩, 0) := by
  have e : normVars [1, 2, 1] [3, -2, 2] = [1, 2] := normVars_eq (by decide) (by decide) (by decide)
  have e2 : normBd [1, 2, 1] [3, -2, 2] 4 = 6 := by unfold normBd; rw [e]; decide
  have e3 : normCoefs [1, 2, 1] [3, -2, 2] 4 = [5, 2] := by unfold normCoefs; rw [e, e2]; decide
  rw [normed_sg, if_neg (by decide), e2, e3, e, if_neg (by decide), if_neg (by decide), if_neg (by decide)]
  rfl
theorem ex5 : normed [1, -1] [1, 1] 1 = (⟨[], [], 0⟩, 0) := by
  have e : normVars [1, -1] [1, 1] = [] := normVars_eq (by decide) (by decide) (by decide)
  have e2 : normBd [1, -1] [1, 1] 1 = 0 := by unfold normBd; rw [e]; decide
  rw [normed_sg, if_neg (by decide), e2, if_pos (by decide)]
theorem ex6 : normed [1, 2] [1, 1] 3 = (⟨[], [], 1⟩, 0) := by
  have e : normVars [1, 2] [1, 1] = [1, 2] := normVars_eq (by decide) (by decide) (by decide)
  have e2 : normBd [1, 2] [1, 1] 3 = 3 := by unfold normBd; rw [e]; decide
  have e3 : normCoefs [1, 2] [1, 1] 3 = [1, 1] := by unfold normCoefs; rw [e, e2]; decide
  rw [normed_sg, if_neg (by decide), e2, e3, if_neg (by decide), if_pos (by decide)]
theorem itoa_one {k : Nat} (h : k < 10) : Lib.itoa k = [UInt8.ofNat (48 + k)] := by rw [Lib.itoa_nonneg, Lib.decDigits_one h]
theorem i0 : Lib.itoa 0 = [48] := itoa_one (k := 0) (by decide)
theorem i1 : Lib.itoa 1 = [49] := itoa_one (k := 1) (by decide)
theorem i2 : Lib.itoa 2 = [50] := itoa_one (k := 2) (by decide)
theorem i3 : Lib.itoa 3 = [51] := itoa_one (k := 3) (by decide)
theorem i5 : Lib.itoa 5 = [53] := itoa_one (k := 5) (by decide)
theorem i6 : Lib.itoa 6 = [54] := itoa_one (k := 6) (by decide)
theorem tx4 : (⟨[1, -2], [5, 2], 6⟩ : Pb).text = [53, 32, 120, 49, 32, 50, 32, 126, 120, 50, 32, 62, 61, 32, 54] := by
  unfold Pb.text
  rw [if_pos (by decide)]
  simp [Pb.words, Pb.word, nth, List.range_succ, i1, i2, i5, i6]
theorem tx5 : (⟨[], [], 0⟩ : Pb).text = [62, 61, 32, 48] := by
  unfold Pb.text
  rw [if_pos (by decide)]
  simp [Pb.words, i0]
theorem tx6 : (⟨[], [], 1⟩ : Pb).text = [62, 61, 32, 49] := by
  unfold Pb.text
  rw [if_pos (by decide)]
  simp [Pb.words, i1]
theorem tx2 : (⟨[-1, -2, -3], [2, 1, 1], 3⟩ : Pb).text = [50, 32, 126, 120, 49, 32, 49, 32, 126, 120, 50, 32, 49, 32, 126, 120, 51, 32, 62, 61, 32, 51] := by
  unfold Pb.text
  rw [if_pos (by decide)]
  simp [Pb.words, Pb.word, nth, List.range_succ, i1, i2, i3]
theorem tx3 : (⟨[-1, 3], [1, 1], 1⟩ : Pb).text = [49, 32, 126, 120, 49, 32, 49, 32, 120, 51, 32, 62, 61, 32, 49] := by
  unfold Pb.text
  rw [if_pos (by decide)]
  simp [Pb.words, Pb.word, nth, List.range_succ, i1, i3]
theorem sl1 : (⟨[1, 2, 3], [2, 1, 1], 2⟩ : Pb).slackB [-1] = 0 := by decide
theorem un1 : (⟨[1, 2, 3], [2, 1, 1], 2⟩ : Pb).unitsB [-1] = [2, 3] := by decide

/-- Two literals. -/
theorem lits_two {w : World} (xs ys : List Int) (h0 : 0 < xs.length) (h1 : 0 < ys.length) (hn : xs.length ≤ 1000000) (hm : ys.length ≤ 1000000) : ∃ W, (w.alloc (.cells (ints xs).toArray 3)).alloc (.cells (ints ys).toArray 3) = W ∧ Below w.heap.size w W ∧
    Rd W (fun g => g = w.heap.size) 1 (.slice (some ⟨w.heap.size, 0, none⟩) xs.length xs.length) xs.length (ints xs) ∧
    Rd W (fun g => g = w.heap.size + 1) 1 (.slice (some ⟨w.heap.size + 1, 0, none⟩) ys.length ys.length) ys.length (ints ys) := by
  have o1 := (own_lit w xs h0 hn).rd
  have o2 := (own_lit (w.alloc (.cells (ints xs).toArray 3)) ys h1 hm).rd
  rw [World.size_alloc] at o2
  exact ⟨_, rfl, ((Below.refl _ _).alloc (Nat.le_refl _) _).alloc (by rw [World.size_alloc]; omega) _, o1.below ((Below.refl _ _).alloc (Nat.le_refl _) _), o2⟩
theorem alloc_step (W : World) (o : Obj) : ∃ X, W.alloc o = X ∧ Below W.heap.size W X ∧ X.heap[W.heap.size]? = some o ∧ X.heap.size = W.heap.size + 1 :=
  ⟨_, rfl, (Below.refl _ _).alloc (Nat.le_refl _) _, heap_alloc_new _ _, World.size_alloc _ _⟩
theorem box3 {W : World} {b : Nat} {x y z : Value} {t : TypeId} {fz : Nat × Nat} (k : W.heap[b]? = some (.cells #[x, y, z] t fz)) : W.cell? ⟨b, 0, none⟩ = some x ∧ W.cell? ⟨b, 1, none⟩ = some y ∧ W.cell? ⟨b, 2, none⟩ = some z :=
  ⟨by rw [cell_of_row _ _ _ _ _ _ k]; rfl, by rw [cell_of_row _ _ _ _ _ _ k]; rfl, by rw [cell_of_row _ _ _ _ _ _ k]; rfl⟩
theorem keep_blk {W X : World} {b : Nat} {o : Obj} (k : W.heap[b]? = some o) (h : Below W.heap.size W X) : X.heap[b]? = some o := (h.block b (lt_of_block k)).trans k
theorem i64s {xs : List Int} (h : xs.all fun x => decide (-9223372036854775808 ≤ x) && decide (x ≤ 9223372036854775807)) : ∀ x ∈ xs, I64 x := fun x hx => by
  have := List.all_eq_true.1 h x hx
  rw [Bool.and_eq_true, decide_eq_true_eq, decide_eq_true_eq] at this
  exact this
end Go.Proofs.YtooioikkgdgnnaaDoor
