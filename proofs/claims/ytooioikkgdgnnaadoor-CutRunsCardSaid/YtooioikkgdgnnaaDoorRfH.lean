/-
  Chapter 24, the reference: the box of Norm beside its two slices, once more.
-/
import Derived.Test.YtooioikkgdgnnaaDoorRfE
import Derived.Test.YtooioikkgdgnnaaDoorPbJ
namespace Go.Proofs.YtooioikkgdgnnaaDoor
open Go.RowKit

section
variable {B : Nat} {W0 W W' : World} {x y z vL vC : Value} {n m : Nat} {xs ys : List Value}
theorem Two.belowW (h : Two B W0 W x y z vL vC n m xs ys) (hb : Below W.heap.size W W') : Two B W0 W' x y z vL vC n m xs ys :=
  ⟨keep_blk h.1 hb, h.2.1.below hb, h.2.2.1.below hb, h.2.2.2.1, h.2.2.2.2.then_below hb⟩
theorem Two.old {p : Addr} {u : Value} (h : Two B W0 W x y z vL vC n m xs ys) (hp : W0.cell? p = some u) (hlt : p.block < B) : W.cell? p = some u :=
  (World.cell?_of_block (h.2.2.2.2.block _ (World.block_lt_of_cell? W0 _ hp) (by omega))).trans hp
theorem Two.oldBlk {b : Nat} {o : Obj} (h : Two B W0 W x y z vL vC n m xs ys) (hp : W0.heap[b]? = some o) (hlt : b < B) : W.heap[b]? = some o :=
  (h.2.2.2.2.block _ (lt_of_block hp) (by omega)).trans hp
theorem Two.oldRd {v : Value} {k : Nat} {F : Nat → Prop} {us : List Value} (h : Two B W0 W x y z vL vC n m xs ys) (hp : Rd W0 F 1 v k us) (hlt : ∀ g, F g → g < B) : Rd W F 1 v k us :=
  hp.mod h.2.2.2.2 fun g _ hf hg => by have := hlt g hf; omega
theorem Two.f2 (h : Two B W0 W x y z vL vC n m xs ys) : W.frozen? ⟨B, 2, none⟩ = false := by simp [World.frozen?, h.1]
theorem Two.made (w : World) (z : Value) : Two w.heap.size (w.alloc (.cells #[.slice none 0 0, .slice none 0 0, z] 24)) (w.alloc (.cells #[.slice none 0 0, .slice none 0 0, z] 24)) (.slice none 0 0) (.slice none 0 0) z (.slice none 0 0) (.slice none 0 0) 0 0 (ints []) (ints []) :=
  ⟨heap_alloc_new _ _, Own.nil _ _ _ _, Own.nil _ _ _ _, fun g hg => by simp [row] at hg, Mod.refl _ _⟩
theorem Two.put2 (h : Two B W0 W x y z vL vC n m xs ys) (u : Value) : Two B W0 (W.setCell ⟨B, 2, none⟩ u) x y u vL vC n m xs ys := by
  have M : Mod (fun g => g = B) W (W.setCell ⟨B, 2, none⟩ u) := (Mod.refl (fun g => g = B) W).setCell (p := ⟨B, 2, none⟩) (.inl rfl) _
  exact ⟨heap_setCell_same W B 2 _ _ u h.1, h.2.1.mod M (fun g _ _ hg e => by omega), h.2.2.1.mod M (fun g _ _ hg e => by omega), h.2.2.2.1, h.2.2.2.2.trans (M.mono fun g _ e => .inl (by omega))⟩
/-- A store into the second slice. -/
theorem Two.setC {g c i : Nat} (h : Two B W0 W x y z vL (.slice (some ⟨g, 0, none⟩) m c) n m xs ys) (hi : i < m) (u : Value) : Two B W0 (W.setCell ⟨g, i, none⟩ u) x y z vL (.slice (some ⟨g, 0, none⟩) m c) n m xs (ys.set i u) := by
  obtain ⟨A, c', hv, hc, _, _⟩ := h.2.2.1.form
  injection hv with _ _ hc'
  have hrow : row (.slice (some ⟨g, 0, none⟩) m c) g := ⟨by omega, rfl⟩
  have hgB := (h.2.2.1.row hrow).1
  have M : Mod (fun b => b = g) W (W.setCell ⟨g, i, none⟩ u) := (Mod.refl (fun b => b = g) W).setCell (p := ⟨g, i, none⟩) (.inl rfl) _
  exact ⟨(M.block _ h.lt (by omega)).trans h.1, h.2.1.mod M (fun b _ hr _ e => h.2.2.2.1 b hr (by rw [e]; exact hrow)), h.2.2.1.stored u, h.2.2.2.1, h.2.2.2.2.trans (M.mono fun b _ e => .inl (by rw [e]; omega))⟩
end
/-- The list, the first i numbers of which are at most b. -/
def clampL (ys : List Int) (b : Int) (i : Nat) : List Int := (ys.take i).map (fun y => min y b) ++ ys.drop i
theorem clampL_len (ys : List Int) (b : Int) (i : Nat) : (clampL ys b i).length = ys.length := by simp [clampL]; omega
theorem clampL_zero (ys : List Int) (b : Int) : clampL ys b 0 = ys := by simp [clampL]
theorem clampL_all (ys : List Int) (b : Int) : clampL ys b ys.length = ys.map fun y => min y b := by simp [clampL]
theorem clampL_nth (ys : List Int) (b : Int) {i : Nat} (hi : i < ys.length) : nth (clampL ys b i) i = nth ys i := by
  unfold nth clampL
  rw [List.getElem?_append_right (by simp; omega)]
  simp
  rw [Nat.min_eq_left (by omega), Nat.sub_self, Nat.add_zero]
theorem clampL_step (ys : List Int) (b : Int) {i : Nat} (hi : i < ys.length) : (clampL ys b i).set i (min (nth ys i) b) = clampL ys b (i + 1) := by
  unfold clampL
  rw [List.set_append_right _ _ (by simp; omega), take_nth hi, List.map_append, List.append_assoc]
  congr 1
  rw [List.length_map, List.length_take, Nat.min_eq_left (by omega), Nat.sub_self, show ys.drop i = ys[i] :: ys.drop (i + 1) from List.drop_eq_getElem_cons hi]
  rfl
theorem clampL_same (ys : List Int) (b : Int) {i : Nat} (hi : i < ys.length) (h : nth ys i ≤ b) : clampL ys b i = clampL ys b (i + 1) := by
  rw [← clampL_step ys b hi, Int.min_eq_left h]
  have h2 := clampL_nth ys b hi
  apply List.ext_getElem (by simp)
  intro k h3 h4
  rw [List.getElem_set]
  split
  · rename_i e
    subst e
    rw [nth_eq h3] at h2
    rw [h2]
  · rfl
theorem clamp_sum (ys : List Int) (b : Int) {i : Nat} (hi : i < ys.length) : ((ys.take (i + 1)).map fun y => min y b).sum = ((ys.take i).map fun y => min y b).sum + min (nth ys i) b := by
  rw [take_nth hi, List.map_append, List.sum_append]
  simp
end Go.Proofs.YtooioikkgdgnnaaDoor
