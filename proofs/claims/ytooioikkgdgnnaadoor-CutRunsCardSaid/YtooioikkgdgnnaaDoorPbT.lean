/-
  Chapter 24: a box of a constraint beside the two slices that grow in its name.
-/
import Derived.Test.YtooioikkgdgnnaaDoorPbK
import Derived.Test.YtooioikkgdgnnaaDoorRegU
namespace Go.Proofs.YtooioikkgdgnnaaDoor
open Go.RowKit Go.Maps

def Two (B : Nat) (W0 W : World) (x y z vL vC : Value) (n m : Nat) (xs ys : List Value) : Prop :=
  W.heap[B]? = some (.cells #[x, y, z] 24 (0, 0)) ∧ Own W (fun g => B < g) 3 1 vL n xs ∧ Own W (fun g => B < g) 3 1 vC m ys ∧ (∀ g, row vL g → ¬ row vC g) ∧ Mod (fun g => B ≤ g) W0 W

section
variable {B : Nat} {W0 W W' : World} {x y z vL vC : Value} {n m : Nat} {xs ys : List Value}
theorem Two.drew (h : Two B W0 W x y z vL vC n m xs ys) : Two B W0 W.drew x y z vL vC n m xs ys := ⟨h.1, h.2.1, h.2.2.1, h.2.2.2.1, h.2.2.2.2.drew⟩
theorem Two.swap (h : Two B W0 W x y z vL vC n m xs ys) : Two B W0 W x y z vC vL m n ys xs := ⟨h.1, h.2.2.1, h.2.1, fun g a b => h.2.2.2.1 g b a, h.2.2.2.2⟩
theorem Two.lt (h : Two B W0 W x y z vL vC n m xs ys) : B < W.heap.size := lt_of_block h.1
theorem Two.c0 (h : Two B W0 W x y z vL vC n m xs ys) : W.cell? ⟨B, 0, none⟩ = some x := by rw [cell_of_row _ _ _ _ _ _ h.1]; rfl
theorem Two.c1 (h : Two B W0 W x y z vL vC n m xs ys) : W.cell? ⟨B, 1, none⟩ = some y := by rw [cell_of_row _ _ _ _ _ _ h.1]; rfl
theorem Two.c2 (h : Two B W0 W x y z vL vC n m xs ys) : W.cell? ⟨B, 2, none⟩ = some z := by rw [cell_of_row _ _ _ _ _ _ h.1]; rfl
theorem Two.f0 (h : Two B W0 W x y z vL vC n m xs ys) : W.frozen? ⟨B, 0, none⟩ = false := by simp [World.frozen?, h.1]
theorem Two.f1 (h : Two B W0 W x y z vL vC n m xs ys) : W.frozen? ⟨B, 1, none⟩ = false := by simp [World.frozen?, h.1]
theorem Two.alloc (h : Two B W0 W x y z vL vC n m xs ys) (o : Obj) : Two B W0 (W.alloc o) x y z vL vC n m xs ys := by
  have b : Below W.heap.size W (W.alloc o) := (Below.refl _ _).alloc (Nat.le_refl _) _
  exact ⟨(b.block _ h.lt).trans h.1, h.2.1.below b, h.2.2.1.below b, h.2.2.2.1, h.2.2.2.2.alloc _⟩
theorem Two.push {u : Value} {n' : Nat} {xs' : List Value} (h : Two B W0 W x y z vL vC n m xs ys) (ho : Own W' (fun b => B < b ∨ W.heap.size ≤ b) 3 1 u n' xs') (hm : Mod (row vL) W W') (hr : ∀ b, row u b → row vL b ∨ W.heap.size ≤ b) :
    Two B W0 W' x y z u vC n' m xs' ys := by
  have hlt := h.lt
  have hrow : ∀ g, row vL g → B < g := fun g hg => (h.2.1.row hg).1
  have hrowC : ∀ g, row vC g → g < W.heap.size := fun g hg => by
    obtain ⟨_, cur, hc⟩ := h.2.2.1.row hg
    exact lt_of_block hc
  refine ⟨(hm.block _ hlt (fun hg => by have := hrow _ hg; omega)).trans h.1, ho.mono (fun g _ _ hF => hF.elim id fun hF => Nat.lt_of_lt_of_le hlt hF), h.2.2.1.mod hm (fun g _ hrC _ hrL => h.2.2.2.1 g hrL hrC), fun g hg hC => ?_, h.2.2.2.2.trans (hm.mono fun g _ hg => .inl (Nat.le_of_lt (hrow g hg)))⟩
  rcases hr g hg with h1 | h1
  · exact h.2.2.2.1 g h1 hC
  · have := hrowC g hC; omega
theorem Two.rows (h : Two B W0 W x y z vL vC n m xs ys) : ∀ g, row vL g → g < W.heap.size := fun g hg => by
  obtain ⟨_, cur, hc⟩ := h.2.1.row hg
  exact lt_of_block hc
theorem Two.put0 (h : Two B W0 W x y z vL vC n m xs ys) (u : Value) : Two B W0 (W.setCell ⟨B, 0, none⟩ u) u y z vL vC n m xs ys := by
  have M : Mod (fun g => g = B) W (W.setCell ⟨B, 0, none⟩ u) := (Mod.refl (fun g => g = B) W).setCell (p := ⟨B, 0, none⟩) (.inl rfl) _
  exact ⟨heap_setCell_same W B 0 _ _ u h.1, h.2.1.mod M (fun g _ _ hg e => by omega), h.2.2.1.mod M (fun g _ _ hg e => by omega), h.2.2.2.1, h.2.2.2.2.trans (M.mono fun g _ e => .inl (by omega))⟩
theorem Two.put1 (h : Two B W0 W x y z vL vC n m xs ys) (u : Value) : Two B W0 (W.setCell ⟨B, 1, none⟩ u) x u z vL vC n m xs ys := by
  have M : Mod (fun g => g = B) W (W.setCell ⟨B, 1, none⟩ u) := (Mod.refl (fun g => g = B) W).setCell (p := ⟨B, 1, none⟩) (.inl rfl) _
  exact ⟨heap_setCell_same W B 1 _ _ u h.1, h.2.1.mod M (fun g _ _ hg e => by omega), h.2.2.1.mod M (fun g _ _ hg e => by omega), h.2.2.2.1, h.2.2.2.2.trans (M.mono fun g _ e => .inl (by omega))⟩
end
end Go.Proofs.YtooioikkgdgnnaaDoor
