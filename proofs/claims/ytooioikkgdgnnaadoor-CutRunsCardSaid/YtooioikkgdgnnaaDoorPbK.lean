/-
  Chapter 24: slices.Sort on integers; what Norm's map ends in.
-/
import Derived.Test.YtooioikkgdgnnaaDoorPbShelf
import Derived.Shelf.GgSortFunc.Compose
namespace Go.Proofs.YtooioikkgdgnnaaDoor
open Go.RowKit Go.Maps

def sortL (xs : List Int) : List Int := xs.mergeSort fun x y => decide (x ≤ y)
theorem sortL_perm (xs : List Int) : (sortL xs).Perm xs := List.mergeSort_perm _ _
theorem sortL_sorted (xs : List Int) : (sortL xs).Pairwise (fun x y => x ≤ y) := by
  have := List.pairwise_mergeSort (le := fun x y : Int => decide (x ≤ y)) (by intro a b c h1 h2; simp at *; omega) (by intro a b; simp; omega) xs
  exact this.imp fun h => by simpa using h
theorem sort_mod {α : Type} [Inhabited α] (enc : α → Value) (w : World) (blk off n : Nat) (d : Array α) (os : Array Obj) : Mod (fun g => g = blk) w (sortWorld enc w blk off n d os) := by
  refine ⟨rfl, rfl, rfl, ?_, fun k hk hne => ?_⟩
  · unfold sortWorld
    rw [Go.Sort.size_grow]
    simp [Go.Sort.putRow, Go.Sort.mapBlock, Go.Sort.ahead]
  · unfold sortWorld
    rw [Go.Sort.heap_grow_old _ _ (by simp [Go.Sort.putRow, Go.Sort.mapBlock, Go.Sort.ahead]; omega)]
    unfold Go.Sort.putRow Go.Sort.mapBlock Go.Sort.ahead
    simp only
    rw [Array.getElem?_modify, if_neg (fun e => hne e.symm)]
theorem Rd.empty' (w : World) (F : Nat → Prop) (R : Option Addr) (c : Nat) (hc : c ≤ maxLen) : Rd w F 1 (.slice R 0 c) 0 (ints []) := ⟨rfl, R, c, rfl, Nat.zero_le _, hc, fun h => absurd h (by omega)⟩
theorem sort_any {w : World} {F : Nat → Prop} {R : Option Addr} {n c : Nat} {xs : List Int} (ho : Own w F 3 1 (.slice R n c) n (ints xs)) (hn : n ≤ 1000000) :
    Calls Tryd.prog 64 #[.slice R n c] w fun r w' => r = .returned (.tuple #[]) ∧ Rd w' F 1 (.slice R n c) n (ints (sortL xs)) ∧ Mod (row (.slice R n c)) w w' := by
  have hl : xs.length = n := by have := ho.1; simpa [ints_length] using this
  rcases Nat.eq_zero_or_pos n with e | e
  · subst e
    refine (sh_slices_Sort_int_none R c w).mono ?_
    rintro r w' ⟨rfl, rfl⟩
    have hx : xs = [] := List.length_eq_zero_iff.1 hl
    have hcm : c ≤ maxLen := by
      obtain ⟨_, _, hv, _, h, _⟩ := ho.form
      injection hv with _ _ h3
      omega
    exact ⟨rfl, by rw [hx, show sortL [] = [] by simp [sortL]]; exact Rd.empty' w' F R c hcm, Mod.refl _ _⟩
  · obtain ⟨R', c', hv, hle, hmx, hg⟩ := ho.form
    injection hv with hv1 _ hv3
    subst hv1 hv3
    obtain ⟨g, rfl, hgF, hgl⟩ := hg (by omega)
    have hH : Go.Sort.Holds (Value.int .i64) w g 0 xs.toArray := by
      intro j hj
      have hj' : j < xs.length := by simpa using hj
      obtain ⟨g', e1, _, _, hc, hf⟩ := ho.cell (j := j) (by omega)
      injection e1 with e1
      injection e1 with e1
      subst e1
      rw [Nat.zero_add]
      refine ⟨?_, hf⟩
      rw [hc, ints_nth hj', nth_eq hj', getElem!_pos xs.toArray j hj]
      rfl
    have hsi := sh_slices_Sort_int g 0 c xs w hH hgl (by omega)
    rw [hl] at hsi
    refine hsi.mono ?_
    rintro r w' ⟨rfl, m, os, rfl⟩
    have hlen : (sortL xs).length = n := by rw [(sortL_perm xs).length_eq, hl]
    have hH2 := holds_sortWorld (Value.int .i64) w g 0 m xs.toArray (sortL xs).toArray os hgl hH (by simp [hlen, hl])
    have hm := sort_mod (Value.int .i64) w g 0 m (sortL xs).toArray os
    refine ⟨rfl, ⟨by rw [ints_length]; omega, _, c, rfl, hle, hmx, fun _ => ⟨g, 0, rfl, hgF, Nat.lt_of_lt_of_le hgl hm.size, fun j u hu => ?_⟩⟩, hm.mono fun k _ hk => ⟨by omega, hk.symm⟩⟩
    have hj : j < (sortL xs).length := by
      have := (List.getElem?_eq_some_iff.1 hu).1
      simpa [ints_length] using this
    rw [ints_nth hj, nth_eq hj] at hu
    injection hu with hu
    have h3 := (hH2 j (by simpa using hj)).1
    rw [getElem!_pos (sortL xs).toArray j (by simpa using hj)] at h3
    rw [← hu]
    exact h3

theorem minus_perm {f : Int → Int} {xs ys : List Int} (h : xs.Perm ys) : minus f xs = minus f ys := by
  induction h with
  | nil => rfl
  | cons x _ ih => unfold minus at *; simp only [List.map_cons, List.sum_cons]; rw [ih]
  | swap x y l => unfold minus; simp only [List.map_cons, List.sum_cons]; omega
  | trans _ _ h1 h2 => exact h1.trans h2
theorem normVars_rise (ls ks : List Int) : (normVars ls ks).Pairwise (fun x y => x < y) := by
  unfold normVars
  refine List.Pairwise.filter _ ?_
  rw [List.pairwise_map]
  exact List.pairwise_lt_range.imp fun h => by omega
theorem mem_normVars {ls ks : List Int} {v : Int} : v ∈ normVars ls ks ↔ 1 ≤ v ∧ v ≤ 65536 ∧ vsum ls ks ls.length v ≠ 0 := by
  unfold normVars
  rw [List.mem_filter, List.mem_map, decide_eq_true_eq]
  constructor
  · rintro ⟨⟨i, hi, rfl⟩, h⟩
    have := List.mem_range.1 hi
    exact ⟨by omega, by omega, h⟩
  · rintro ⟨h1, h2, h3⟩
    exact ⟨⟨(v - 1).toNat, List.mem_range.2 (by omega), by omega⟩, h3⟩
theorem vars_perm {ls ks : List Int} {f : Int → Int} (hf : vsum ls ks ls.length = f) {xs : List Int} (hn : xs.Nodup) (h1 : ∀ x ∈ xs, 1 ≤ x ∧ x ≤ 65536 ∧ f x ≠ 0) (h2 : ∀ v, 1 ≤ v → v ≤ 65536 → f v ≠ 0 → v ∈ xs) :
    sortL xs = normVars ls ks ∧ minus f xs = minus f (normVars ls ks) := by
  have hr := normVars_rise ls ks
  have hnn : (normVars ls ks).Nodup := hr.imp fun h => by omega
  have hp : xs.Perm (normVars ls ks) := (List.perm_ext_iff_of_nodup hn hnn).2 fun v => by
    rw [mem_normVars, hf]
    exact ⟨h1 v, fun h => h2 v h.1 h.2.1 h.2.2⟩
  refine ⟨?_, minus_perm hp⟩
  have hp2 := (sortL_perm xs).trans hp
  exact List.Perm.eq_of_pairwise (le := fun x y : Int => x ≤ y) (fun a b _ _ h1 h2 => by omega) (sortL_sorted xs) (hr.imp fun h => by omega) hp2
/-- Norm's answer where all is well. -/
theorem normed_ok {ls ks : List Int} {b : Int} (h1 : ls.length = ks.length) (h2 : ls.length ≤ 65536) (h3 : -1099511627776 ≤ b) (h4 : b ≤ 1099511627776) (h5 : ∀ i, i < ls.length → inB ls ks i = true) : normOk ls ks b = true := by
  unfold normOk
  simp only [Bool.and_eq_true, decide_eq_true_eq, List.all_eq_true, List.mem_range]
  exact ⟨⟨⟨⟨h1, h2⟩, h3⟩, h4⟩, h5⟩
theorem sums_bounds {B : Int} : ∀ xs : List Int, (∀ x ∈ xs, 0 ≤ x ∧ x ≤ B) → 0 ≤ xs.sum ∧ xs.sum ≤ xs.length * B := by
  intro xs
  induction xs with
  | nil => intro _; simp
  | cons x xs ih =>
    intro h
    obtain ⟨h1, h2⟩ := ih fun y hy => h y (by simp [hy])
    obtain ⟨h3, h4⟩ := h x (by simp)
    have e2 : ((x :: xs).length : Int) * B = xs.length * B + B := by rw [List.length_cons, Int.natCast_add, Int.add_mul]; simp
    rw [List.sum_cons, e2]
    omega
theorem nth_map {xs : List Int} {g : Int → Int} {i : Nat} (hi : i < xs.length) : nth (xs.map g) i = g (nth xs i) := by
  unfold nth
  rw [List.getElem?_map, List.getElem?_eq_getElem hi]
  rfl
theorem cnt_owns_block {w w' : World} {b n : Nat} {D : DataW Unit} (h : w.ownsMap Tryd.prog 3 (plainElem Tryd.prog 3) b n D) (hb : w'.heap[b]? = w.heap[b]?) : w'.ownsMap Tryd.prog 3 (plainElem Tryd.prog 3) b n D := by
  obtain ⟨es, clock, hm, r⟩ := h
  exact ⟨es, clock, hb.trans hm, r⟩
end Go.Proofs.YtooioikkgdgnnaaDoor
