/-
  Chapter 24: Equal, Ints.
-/
import Derived.Test.YtooioikkgdgnnaaDoorPbC
import Derived.Test.YtooioikkgdgnnaaDoorPbK
namespace Go.Proofs.YtooioikkgdgnnaaDoor
open Go.RowKit Go.Maps

theorem drewN_below (w : World) (q : Nat) : Below w.heap.size w (w.drewN q) := by
  induction q with
  | zero => exact Below.refl _ _
  | succ q ih => exact ⟨ih.os, ih.tape, ih.output, ih.size, ih.block⟩

theorem equal_ints {w : World} {F G : Nat → Prop} {A B : Option Addr} {n c m d : Nat} {xs ys : List Int} (hx : Rd w F 1 (.slice A n c) n (ints xs)) (hy : Rd w G 1 (.slice B m d) m (ints ys)) :
    Calls Tryd.prog 53 #[.slice A n c, .slice B m d] w fun r w' => r = .returned (.bool (decide (xs = ys))) ∧ Below w.heap.size w w' := by
  have hxl : xs.length = n := by have := hx.1; simpa [ints_length] using this
  have hyl : ys.length = m := by have := hy.1; simpa [ints_length] using this
  have hnb : n ≤ 9223372036854775807 := by have := hx.len; unfold maxLen at this; omega
  have hmb : m ≤ 9223372036854775807 := by have := hy.len; unfold maxLen at this; omega
  by_cases e : n = m
  · subst e
    rcases Nat.eq_zero_or_pos n with e0 | e0
    · subst e0
      refine (sh_slices_Equal_int_empty A B c 0 d w hmb).mono ?_
      rintro r w' ⟨rfl, rfl⟩
      rw [List.length_eq_zero_iff.1 hxl, List.length_eq_zero_iff.1 hyl]
      exact ⟨rfl, Below.refl _ _⟩
    · obtain ⟨g, o, rfl, _, _, _⟩ := hx.cell.2 0 e0
      obtain ⟨g2, o2, rfl, _, _, _⟩ := hy.cell.2 0 e0
      have h1 : ∀ j, j < xs.length → w.cell? ⟨g, o + j, none⟩ = some (.int .i64 (xs.getD j 0)) := fun j hj => by
        obtain ⟨g', o', e1, _, _, ec⟩ := hx.cell.2 j (by omega)
        injection e1 with e1
        injection e1 with e1 e2
        subst e1 e2
        rw [ec, nth_eq hj, List.getD_eq_getElem?_getD, List.getElem?_eq_getElem hj]
        rfl
      have h2 : ∀ j, j < ys.length → w.cell? ⟨g2, o2 + j, none⟩ = some (.int .i64 (ys.getD j 0)) := fun j hj => by
        obtain ⟨g', o', e1, _, _, ec⟩ := hy.cell.2 j (by omega)
        injection e1 with e1
        injection e1 with e1 e2
        subst e1 e2
        rw [ec, nth_eq hj, List.getD_eq_getElem?_getD, List.getElem?_eq_getElem hj]
        rfl
      refine (sh_slices_Equal_int g o n c g2 o2 n d xs ys w (by omega) (by omega) hnb hmb h1 h2).mono ?_
      rintro r w' ⟨rfl, q, rfl⟩
      refine ⟨?_, drewN_below w q⟩
      rw [List.take_of_length_le (by omega), List.take_of_length_le (by omega)]
      congr 2
      rw [Bool.eq_iff_iff]
      simp
  · refine (sh_slices_Equal_int_lens A B n c m d w e).mono ?_
    rintro r w' ⟨rfl, rfl⟩
    have hne : ¬ xs = ys := fun h => e (by rw [← hxl, ← hyl, h])
    exact ⟨by rw [decide_eq_false hne], Below.refl _ _⟩

def Pb.same (c d : Pb) : Bool := decide (c.bound = d.bound) && decide (c.lits = d.lits) && decide (c.coefs = d.coefs)

set_option maxRecDepth 100000 in
theorem equal_any {w : World} {F G : Nat → Prop} {v u : Value} {c d : Pb} (hc : PbRd w F v c) (hd : PbRd w G u d) :
    Calls Tryd.prog 26 #[v, u] w fun r w' => r = .returned (.bool (c.same d)) ∧ Below w.heap.size w w' := by
  obtain ⟨⟨L, n, cn, K, m, cm, rfl, hx, hk⟩, hb⟩ := hc
  obtain ⟨⟨L2, n2, cn2, K2, m2, cm2, rfl, hx2, hk2⟩, hb2⟩ := hd
  obtain ⟨bd, hbd⟩ : ∃ b, c.bound = b := ⟨_, rfl⟩
  obtain ⟨bd2, hbd2⟩ : ∃ b, d.bound = b := ⟨_, rfl⟩
  have hs : c.same d = (decide (bd = bd2) && decide (c.lits = d.lits) && decide (c.coefs = d.coefs)) := by unfold Pb.same; rw [hbd, hbd2]
  rw [hs]
  rw [hbd, hbd2]
  clear hb hb2 hbd hbd2 hs
  by_cases e : bd = bd2
  · subst e
    obtain ⟨z1, z2, z3⟩ := allocs_get w [.cells #[.slice L n cn, .slice K m cm, .int .i64 bd] 24, .cells #[.slice L2 n2 cn2, .slice K2 m2 cm2, .int .i64 bd] 24]
    go_enter Tryd.func26, Tryd.ntmps26
    go_wp2_with fail
    obtain ⟨W0, hW0⟩ : ∃ W0, allocs w [.cells #[.slice L n cn, .slice K m cm, .int .i64 bd] 24, .cells #[.slice L2 n2 cn2, .slice K2 m2 cm2, .int .i64 bd] 24] = W0 := ⟨_, rfl⟩
    rw [hW0] at z1 z2 z3
    unfold allocs at hW0
    simp only [List.foldl_cons, List.foldl_nil] at hW0
    simp only [List.length_cons, List.length_nil, Nat.zero_add, Nat.reduceAdd] at z1
    have j0 := z3 0 _ rfl
    have j1 := z3 1 _ rfl
    rw [Nat.add_zero] at j0
    rw [hW0]
    refine (equal_ints (hx.below z2) (hx2.below z2)).mono ?_
    rintro r w1 ⟨rfl, b1⟩
    have k0 := (b1.block _ (by omega)).trans j0
    have k1 := (b1.block _ (by omega)).trans j1
    have d1 : w1.cell? ⟨w.heap.size, 1, none⟩ = some (.slice K m cm) := by rw [cell_of_row _ _ _ _ _ _ k0]; rfl
    have d2 : w1.cell? ⟨w.heap.size + 1, 1, none⟩ = some (.slice K2 m2 cm2) := by rw [cell_of_row _ _ _ _ _ _ k1]; rfl
    have B1 : Below w.heap.size w w1 := z2.trans (b1.mono (by omega))
    have Hk := hid (hk.below B1)
    have Hk2 := hid (hk2.below B1)
    have HB1 := hid B1
    clear hW0 z2 z3 b1 k0 k1 j0 j1 hx hx2 hk hk2 B1
    by_cases e1 : c.lits = d.lits
    · rw [decide_eq_true e1]
      go_wp2_with fail
      refine (equal_ints Hk.out Hk2.out).mono ?_
      rintro r w2 ⟨rfl, b2⟩
      have HB2 := hid (HB1.out.trans (b2.mono HB1.out.size))
      clear b2
      by_cases e2 : c.coefs = d.coefs
      · rw [decide_eq_true e2]
        go_wp2_with fail
        go_ret
        exact ⟨by simp [e1, e2], HB2.out⟩
      · rw [decide_eq_false e2]
        go_wp2_with fail
        go_ret
        exact ⟨by simp [e1, e2], HB2.out⟩
    · rw [decide_eq_false e1]
      go_wp2_with fail
      go_ret
      exact ⟨by simp [e1], HB1.out⟩
  · have e2 : (bd == bd2) = false := by simpa using e
    have e3 : (bd = bd2) = False := by simpa using e
    go_enter Tryd.func26, Tryd.ntmps26
    go_wp2_with fail
    go_ret
    exact ⟨by simp [e], ((Below.refl _ _).alloc (Nat.le_refl _) _).alloc (by simp) _⟩

end Go.Proofs.YtooioikkgdgnnaaDoor
