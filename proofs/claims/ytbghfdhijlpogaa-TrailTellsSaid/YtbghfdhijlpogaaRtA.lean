/-
  The reference of layer 28: append onto entries; what the walks of Decide, Imply and Undo share.
-/
import Derived.Test.YtbghfdhijlpogaaRefA
import Derived.Test.YtbghfdhijlpogaaLevels
import Derived.Test.YtbghfdhijlpogaaTkU
namespace Go.Proofs.Ytbghfdhijlpogaa
open Go.RowKit

/-! ### append onto entries -/
theorem wp_append_ents {o : Oper} {a : Act} {w : World} {K : Act → World → Prop} {Q : Exit → Act → World → Prop} (s x : Operand)
    (ho : o.op = .call { callee := .builtin .append, args := #[s, x], argTypes := #[46, 46] }) {F G : Nat → Prop} {v u : Value} {n m : Nat} {xs ys : List Value}
    (hv : Own w F 74 3 v n xs) (hu : Rd w G 3 u m ys) (hs : a.eval s = v) (hx : a.eval x = u) (h1 : ∀ u ∈ ys, u.oneCell' = true) (hb : n + m ≤ 1000000000)
    (hK : ∀ A c w', Own w' (fun b => F b ∨ w.heap.size ≤ b) 74 3 (.slice A (n + m) c) (n + m) (xs ++ ys) → Mod (row v) w w' → (∀ b, row (.slice A (n + m) c) b → row v b ∨ w.heap.size ≤ b) → K (a.put o.dst (.slice A (n + m) c)) w') : o.wp Try.prog a w K Q := by
  obtain ⟨i0, hi, hz0, hz1, hz2⟩ := info_parts info_ent
  obtain ⟨v', w', hr, h2, h3, h4⟩ := run_append_rd (P := Try.prog) 46 o.type i0 (.agg #[.int .i64 0, .int .i64 0, .slice none 0 0]) 40 Try.underlying46 hi hz0 hz1 hz2 rfl (by decide) hv hu h1 (by unfold maxLen; omega) (by omega)
  unfold Oper.wp execOp
  simp only [ho, resolve, invoke, builtin, Sem.run_bind, Sem.run_pure, Result.andThen_ok, List.map_toArray, List.map_cons, List.map_nil, hs, hx, hr]
  obtain ⟨A, c, rfl, _⟩ := h2.form
  exact hK A c w' h2 h3 h4
theorem wpList_append_ents {ops : Array Oper} {rest : List Oper} {o : Oper} {a : Act} {w : World} {Q : Exit → Act → World → Prop} (hgd : o.guard = none) (s x : Operand)
    (ho : o.op = .call { callee := .builtin .append, args := #[s, x], argTypes := #[46, 46] }) {F G : Nat → Prop} {v u : Value} {n m : Nat} {xs ys : List Value}
    (hv : Own w F 74 3 v n xs) (hu : Rd w G 3 u m ys) (hs : a.eval s = v) (hx : a.eval x = u) (h1 : ∀ u ∈ ys, u.oneCell' = true) (hb : n + m ≤ 1000000000)
    (hK : ∀ A c w', Own w' (fun b => F b ∨ w.heap.size ≤ b) 74 3 (.slice A (n + m) c) (n + m) (xs ++ ys) → Mod (row v) w w' → (∀ b, row (.slice A (n + m) c) b → row v b ∨ w.heap.size ≤ b) → wpList Try.prog ops Q rest (a.put o.dst (.slice A (n + m) c)) w') :
    wpList Try.prog ops Q (o :: rest) a w :=
  wpList_plain hgd fun _ hK' => wp_append_ents s x ho hv hu hs hx h1 hb fun A c w' h2 h3 h4 => hK' _ _ (hK A c w' h2 h3 h4)
theorem step_append_ents {ops : Array Oper} {o : Oper} {a : Act} {w : World} {K : Act → World → Prop} {Q : Exit → Act → World → Prop} {E : Prop} (hgd : o.guard = none) (s x : Operand)
    (ho : o.op = .call { callee := .builtin .append, args := #[s, x], argTypes := #[46, 46] }) {F G : Nat → Prop} {v u : Value} {n m : Nat} {xs ys : List Value}
    (hs : a.eval s = v) (hx : a.eval x = u) (hv : Own w F 74 3 v n xs) (hu : Rd w G 3 u m ys) (h1 : ∀ u ∈ ys, u.oneCell' = true) (hb : n + m ≤ 1000000000)
    (hK : ∀ A c w', Own w' (fun b => F b ∨ w.heap.size ≤ b) 74 3 (.slice A (n + m) c) (n + m) (xs ++ ys) → Mod (row v) w w' → (∀ b, row (.slice A (n + m) c) b → row v b ∨ w.heap.size ≤ b) → K (a.put o.dst (.slice A (n + m) c)) w') :
    if Region.wanted o (yielded ops a.tmps) = true then Oper.wp Try.prog o a w K Q else E := by
  have hw : Region.wanted o (yielded ops a.tmps) = true := by simp [Region.wanted, hgd]
  rw [if_pos hw]
  exact wp_append_ents s x ho hv hu hs hx h1 hb hK

theorem set3 {W : World} {b : Nat} {x y z : Value} (t0 : W.cell? ⟨b, 0, none⟩ = some x) (t1 : W.cell? ⟨b, 1, none⟩ = some y) (t2 : W.cell? ⟨b, 2, none⟩ = some z) (x' y' z' : Value) :
    (((W.setCell ⟨b, 0, none⟩ x').setCell ⟨b, 1, none⟩ y').setCell ⟨b, 2, none⟩ z').cell? ⟨b, 0, none⟩ = some x' ∧ (((W.setCell ⟨b, 0, none⟩ x').setCell ⟨b, 1, none⟩ y').setCell ⟨b, 2, none⟩ z').cell? ⟨b, 1, none⟩ = some y' ∧
      (((W.setCell ⟨b, 0, none⟩ x').setCell ⟨b, 1, none⟩ y').setCell ⟨b, 2, none⟩ z').cell? ⟨b, 2, none⟩ = some z' ∧ Mod (fun g => g = b) W (((W.setCell ⟨b, 0, none⟩ x').setCell ⟨b, 1, none⟩ y').setCell ⟨b, 2, none⟩ z') := by
  have a0 : (W.setCell ⟨b, 0, none⟩ x').cell? ⟨b, 0, none⟩ = some x' := World.cell?_setCell_same' _ _ _ (by rw [t0]; rfl)
  have a1 : (W.setCell ⟨b, 0, none⟩ x').cell? ⟨b, 1, none⟩ = some y := (World.cell?_setCell_other _ _ _ _ (by simp)).trans t1
  have a2 : (W.setCell ⟨b, 0, none⟩ x').cell? ⟨b, 2, none⟩ = some z := (World.cell?_setCell_other _ _ _ _ (by simp)).trans t2
  have c0 := (World.cell?_setCell_other (W.setCell ⟨b, 0, none⟩ x') ⟨b, 1, none⟩ ⟨b, 0, none⟩ y' (by simp)).trans a0
  have c1 : ((W.setCell ⟨b, 0, none⟩ x').setCell ⟨b, 1, none⟩ y').cell? ⟨b, 1, none⟩ = some y' := World.cell?_setCell_same' _ _ _ (by rw [a1]; rfl)
  have c2 := (World.cell?_setCell_other (W.setCell ⟨b, 0, none⟩ x') ⟨b, 1, none⟩ ⟨b, 2, none⟩ y' (by simp)).trans a2
  exact ⟨(World.cell?_setCell_other _ _ _ _ (by simp)).trans c0, (World.cell?_setCell_other _ _ _ _ (by simp)).trans c1, World.cell?_setCell_same' _ _ _ (by rw [c2]; rfl),
    (((Mod.refl (fun g => g = b) W).setCell (p := ⟨b, 0, none⟩) (.inl rfl) _).setCell (p := ⟨b, 1, none⟩) (.inl rfl) _).setCell (p := ⟨b, 2, none⟩) (.inl rfl) _⟩
theorem alloc_step (W : World) (o : Obj) : ∃ X, W.alloc o = X ∧ Below W.heap.size W X ∧ X.heap[W.heap.size]? = some o ∧ X.heap.size = W.heap.size + 1 :=
  ⟨_, rfl, (Below.refl _ _).alloc (Nat.le_refl _) _, heap_alloc_new _ _, World.size_alloc _ _⟩
theorem box3 {W : World} {b : Nat} {x y z : Value} {t : TypeId} {fz : Nat × Nat} (k : W.heap[b]? = some (.cells #[x, y, z] t fz)) : W.cell? ⟨b, 0, none⟩ = some x ∧ W.cell? ⟨b, 1, none⟩ = some y ∧ W.cell? ⟨b, 2, none⟩ = some z :=
  ⟨by rw [cell_of_row _ _ _ _ _ _ k]; rfl, by rw [cell_of_row _ _ _ _ _ _ k]; rfl, by rw [cell_of_row _ _ _ _ _ _ k]; rfl⟩
theorem keep_blk {W X : World} {b : Nat} {o : Obj} (k : W.heap[b]? = some o) (h : Below W.heap.size W X) : X.heap[b]? = some o := (h.block b (lt_of_block k)).trans k
theorem froz3 {W : World} {b : Nat} {x y z : Value} {t : TypeId} (k : W.heap[b]? = some (.cells #[x, y, z] t (0, 0))) : W.frozen? ⟨b, 0, none⟩ = false ∧ W.frozen? ⟨b, 1, none⟩ = false ∧ W.frozen? ⟨b, 2, none⟩ = false :=
  ⟨by simp [World.frozen?, k], by simp [World.frozen?, k], by simp [World.frozen?, k]⟩
theorem keep_cell {w w' : World} {p : Addr} {v : Value} (h : w.cell? p = some v) (b : Below w.heap.size w w') : w'.cell? p = some v := (b.cell (World.block_lt_of_cell? w _ h)).trans h
theorem below_mod {B : Nat} {G : Nat → Prop} {w W X : World} (h : Below B w W) (hB : B ≤ W.heap.size) (m : Mod G W X) (hG : ∀ g, G g → B ≤ g) : Below B w X :=
  ⟨m.os.trans h.os, m.tape.trans h.tape, m.output.trans h.output, Nat.le_trans h.size m.size, fun k hk => (m.block k (by omega) (fun hg => by have := hG k hg; omega)).trans (h.block k hk)⟩
theorem Bl.drew {w W : World} (h : Below w.heap.size w W) : Below w.heap.size w W.drew := ⟨h.os, h.tape, h.output, h.size, h.block⟩
/-- One element, newly made. -/
theorem rd_ent {w : World} {Z : Nat} {x y z : Value} (k : w.heap[Z]? = some (.cells #[x, y, z] 74)) : Rd w (fun g => g = Z) 3 (.slice (some ⟨Z, 0, none⟩) 1 1) 1 [x, y, z] := by
  obtain ⟨c0, c1, c2⟩ := box3 k
  refine ⟨rfl, _, _, rfl, Nat.le_refl _, by decide, fun _ => ⟨Z, 0, rfl, rfl, lt_of_block k, fun j u hj => ?_⟩⟩
  match j, hj with
  | 0, hj => rw [← hj]; exact c0
  | 1, hj => rw [← hj]; exact c1
  | 2, hj => rw [← hj]; exact c2
  | j + 3, hj => simp at hj
end Go.Proofs.Ytbghfdhijlpogaa
