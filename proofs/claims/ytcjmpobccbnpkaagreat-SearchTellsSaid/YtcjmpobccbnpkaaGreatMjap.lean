/-
 Chapter 32: several texts in one (PbB PbC).
-/
import Derived.Test.YtcjmpobccbnpkaaGreatMjao
import Derived.RangeFuncBound
import Derived.RangeFuncCalls
import Derived.RangeFuncLeaves
import Derived.RangeFuncFrom
import Derived.RangeFuncBox
import Derived.Shelf.Abstract
import Derived.WalkKit
import Derived.OwnWalkIn
import Derived.TacticsInMore
import Derived.LoopNIn
import Derived.LoopIn
namespace Go.Proofs.YtcjmpobccbnpkaaGreat
set_option maxRecDepth 100000
set_option maxHeartbeats 2000000
section
open Go.RowKit Go.Shelf
attribute [local go_sem] Oper.semAt_some
def litB (l : Int) : Bool := decide (l ≠ 0 ∧ -65536 ≤ l ∧ l ≤ 65536)
theorem abs_any {w : World} {l : Int} (h1 : -9223372036854775807 ≤ l) (h2 : l ≤ 9223372036854775807) :
  Calls Tryz.prog 56 #[.int .i64 l] w fun r w' => r = .returned (.int .i64 (l.natAbs : Nat)) ∧ w = w' := by
 have hwn : IntKind.i64.wrap (-l) = -l := iw' (by omega) (by omega)
 go_enter Tryz.func56, Tryz.ntmps56
 go_wp2_with fail
 all_goals go_ret
 ·exact ⟨by show Ending.returned (Value.int IntKind.i64 _) = _; congr 2; omega, rfl⟩
 ·exact ⟨by show Ending.returned (Value.int IntKind.i64 _) = _; congr 2; omega, rfl⟩
theorem literal_any {w : World} {l : Int} :
  Calls Tryz.prog 55 #[.int .i64 l] w fun r w' => r = .returned (.bool (litB l)) ∧ w = w' := by
 have e : litB l = (l != 0 && decide (-65536 ≤ l) && decide (l ≤ 65536)) := by
  unfold litB
  by_cases h1 : l = 0 <;> by_cases h2 : -65536 ≤ l <;> by_cases h3 : l ≤ 65536 <;> simp [h1, h2, h3]
 rw [e]
 clear e
 by_cases h1 : l = 0
 ·subst h1
  go_enter Tryz.func55, Tryz.ntmps55
  go_wp2_with fail
  go_ret
  exact ⟨by simp, rfl⟩
 ·have q1 : (l != 0) = true := by simpa using h1
  by_cases h2 : -65536 ≤ l
  ·by_cases h3 : l ≤ 65536
   ·have q2 : decide (-65536 ≤ l) = true := by simpa using h2
    have q3 : decide (l ≤ 65536) = true := by simpa using h3
    go_enter Tryz.func55, Tryz.ntmps55
    go_wp2_with fail
    go_ret
    exact ⟨by simp [h1, h2, h3], rfl⟩
   ·have q2 : decide (-65536 ≤ l) = true := by simpa using h2
    have q3 : decide (l ≤ 65536) = false := by simpa using h3
    go_enter Tryz.func55, Tryz.ntmps55
    go_wp2_with fail
    go_ret
    exact ⟨by simp, rfl⟩
  ·have q2 : decide (-65536 ≤ l) = false := by simpa using h2
   go_enter Tryz.func55, Tryz.ntmps55
   go_wp2_with fail
   go_ret
   exact ⟨by simp, rfl⟩
end
section
open Go.RowKit Go.Shelf
attribute [local go_sem] Oper.semAt_some
structure Pb where
 lits : List Int
 coefs : List Int
 bound : Int
structure PbRd (w : World) (F : Nat → Prop) (v : Value) (c : Pb) : Prop where
 form : ∃ A n cn B m cm, v = .agg #[.slice A n cn, .slice B m cm, .int .i64 c.bound] ∧ Rd w F 1 (.slice A n cn) n (ints c.lits) ∧ Rd w F 1 (.slice B m cm) m (ints c.coefs)
 bnd : I64 c.bound
theorem PbRd.below {w w' : World} {F : Nat → Prop} {v : Value} {c : Pb} (h : PbRd w F v c) (hb : Below w.heap.size w w') : PbRd w' F v c := by
 obtain ⟨A, n, cn, B, m, cm, e, h1, h2⟩ := h.form
 exact ⟨⟨A, n, cn, B, m, cm, e, h1.below hb, h2.below hb⟩, h.bnd⟩
def uptoN {α : Type} (f : Nat → α) (k : Nat) : List α := (List.range k).map f
theorem uptoN_succ {α : Type} (f : Nat → α) (k : Nat) : uptoN f (k + 1) = uptoN f k ++ [f k] := by simp [uptoN, List.range_succ]
theorem uptoN_length {α : Type} (f : Nat → α) (k : Nat) : (uptoN f k).length = k := by simp [uptoN]
def place (n : Nat) (h : 0 < n) (k : Nat) : Fin n := if e : k < n then ⟨k, e⟩ else ⟨0, h⟩
theorem place_val {n : Nat} (h : 0 < n) {k : Nat} (e : k < n) : (place n h k).val = k := by unfold place; rw [dif_pos e]
def KpB (n₀ Bn : Nat) (W W' : World) : Prop := Below n₀ W W' ∧ W'.heap[Bn]? = W.heap[Bn]?
theorem KpB.refl (n₀ Bn : Nat) (W : World) : KpB n₀ Bn W W := ⟨Below.refl _ _, rfl⟩
theorem KpB.trans {n₀ Bn : Nat} {A B C : World} (h : KpB n₀ Bn A B) (k : KpB n₀ Bn B C) : KpB n₀ Bn A C := ⟨h.1.trans k.1, k.2.trans h.2⟩
theorem parts1_in (N l Bn n₀ : Nat) (hN : 1 ≤ N) {n cn m cm : Nat} {A B : Option Addr} {xs ks : List Int} {F : Nat → Prop} (hn : 0 < n) (hnm : n = m) (hF : ∀ g, F g → g < n₀) (J Jx : List (Fin n) → World → Prop)
  (hY : ∀ pre x W, J pre W → pre.length < n → YieldAt Fence.wide (N - 1) Tryz.prog l #[.int .i64 (nth xs x.val), .int .i64 (nth ks x.val)] W fun e W' =>
   (e = .returned (.bool true) ∧ J (pre ++ [x]) W' ∧ KpB n₀ Bn W W') ∨ (e = .returned (.bool false) ∧ Jx (pre ++ [x]) W'))
  (W : World) (c0 : W.cell? ⟨Bn, 0, none⟩ = some (.slice A n cn)) (c1 : W.cell? ⟨Bn, 1, none⟩ = some (.slice B m cm)) (hx : Rd W F 1 (.slice A n cn) n (ints xs)) (hk : Rd W F 1 (.slice B m cm) m (ints ks)) (h0 : J [] W) :
  CallsIn Fence.wide N Tryz.prog 80 #[.func (.yield l) #[] #[], .pointer (some ⟨Bn, 0, none⟩)] W fun e W' => (∃ v, e = .returned v) ∧
   ((∃ ys, ys = uptoN (place n hn) n ∧ J ys W') ∨ (∃ pre, (∃ k, k ≤ n ∧ pre = uptoN (place n hn) k) ∧ Jx pre W')) := by
 subst hnm
 have hnb : n ≤ 9223372036854775807 := by
  have := hx.len
  unfold maxLen at this
  omega
 have hxl : xs.length = n := by have := hx.1; simpa [ints_length] using this
 have hkl : ks.length = n := by have := hk.1; simpa [ints_length] using this
 refine callsIn_of_wp Tryz.func80 rfl trivial ?_ rfl
 simp only [Tryz.ntmps80, List.size_toArray, List.length_cons, List.length_nil, Nat.reduceAdd, Nat.reduceSub, Array.replicate_succ, Array.replicate_zero, List.push_toArray, List.append_toArray, List.nil_append, List.cons_append]
 gi_wp2
 gi_loopw [8] (fun i wr => ∃ k : Nat, k ≤ n ∧ i = .int .i64 k ∧ J (uptoN (place n hn) k) wr ∧ KpB n₀ Bn W wr)
  (fun i _ => n - (intOf i).toNat)
 case atStart => exact ⟨0, Nat.zero_le _, rfl, h0, KpB.refl _ _ _⟩
 case round =>
  obtain ⟨k, hk', rfl, hJs, hnx⟩ := hrel
  by_cases hlt : k < n
  ·obtain ⟨g, o, rfl, hgF, hg, e0⟩ := hx.cell.2 k hlt
   obtain ⟨g2, o2, rfl, hgF2, hg2, e2⟩ := hk.cell.2 k hlt
   have d0 := (hnx.1.cell (p := ⟨g, o + k, none⟩) (hF g hgF)).trans e0
   have d2 := (hnx.1.cell (p := ⟨g2, o2 + k, none⟩) (hF g2 hgF2)).trans e2
   have d3 := (World.cell?_of_block (a := ⟨Bn, 1, none⟩) hnx.2).trans c1
   obtain ⟨fn, tmps, assign, body, hy, hR⟩ := hY _ (place n hn k) wr hJs (by rw [uptoN_length]; exact hlt)
   rw [place_val hn hlt] at hy
   have hik : (k : Int) < (n : Int) := by omega
   gi_wp2
   refine hR.mono ?_
   rintro e W3 (⟨rfl, hJ3, hk3⟩ | ⟨rfl, hJx3⟩)
   ·gi_wp2
    go_roundw
    case rel => exact ⟨k + 1, by omega, by simp, by rw [uptoN_succ]; exact hJ3, hnx.trans hk3⟩
    case measure => simp [intOf]; omega
   ·gi_wp2
    refine bodyPost_ret (results_none rfl _ _ _) rfl ?_
    exact ⟨⟨_, rfl⟩, .inr ⟨_, ⟨k + 1, by omega, (uptoN_succ _ _).symm⟩, hJx3⟩⟩
  ·obtain rfl : k = n := by omega
   gi_wp2
   go_end0
   exact ⟨⟨_, rfl⟩, .inl ⟨_, rfl, hJs⟩⟩
def SomeOf (n k : Nat) (pre : List (Fin n)) : Prop := pre.map Fin.val = List.range k
theorem uptoN_some {n : Nat} (h : 0 < n) {k : Nat} (hk : k ≤ n) : SomeOf n k (uptoN (place n h) k) := by
 unfold SomeOf uptoN
 rw [List.map_map]
 conv => rhs; rw [← List.map_id (List.range k)]
 refine List.map_congr_left fun j hj => ?_
 have := List.mem_range.1 hj
 exact place_val h (by omega)
theorem parts1_none {N l Bn cn : Nat} {A : Option Addr} (J : World → Prop) (W : World) (c0 : W.cell? ⟨Bn, 0, none⟩ = some (.slice A 0 cn)) (h0 : J W) :
  CallsIn Fence.wide N Tryz.prog 80 #[.func (.yield l) #[] #[], .pointer (some ⟨Bn, 0, none⟩)] W fun e W' => (∃ v, e = .returned v) ∧ J W' := by
 refine callsIn_of_wp Tryz.func80 rfl trivial ?_ rfl
 simp only [Tryz.ntmps80, List.size_toArray, List.length_cons, List.length_nil, Nat.reduceAdd, Nat.reduceSub, Array.replicate_succ, Array.replicate_zero, List.push_toArray, List.append_toArray, List.nil_append, List.cons_append]
 gi_wp2
 gi_loopw [8] (fun i wr => i = .int .i64 0 ∧ J wr) (fun _ _ => 0)
 case atStart => exact ⟨rfl, h0⟩
 case round =>
  obtain ⟨rfl, hJs⟩ := hrel
  gi_wp2
  go_end0
  exact ⟨⟨_, rfl⟩, hJs⟩
theorem parts_stops (N Bn n₀ : Nat) (hN : 1 ≤ N) {n cn cm : Nat} {A B : Option Addr} {xs ks : List Int} {F : Nat → Prop} (hF : ∀ g, F g → g < n₀) (w : World)
  (c0 : w.cell? ⟨Bn, 0, none⟩ = some (.slice A n cn)) (c1 : w.cell? ⟨Bn, 1, none⟩ = some (.slice B n cm)) (hx : Rd w F 1 (.slice A n cn) n (ints xs)) (hk : Rd w F 1 (.slice B n cm) n (ints ks)) :
  SeqStopsK Fence.wide N Tryz.prog 80 #[.pointer (some ⟨Bn, 0, none⟩)] (fun x : Fin n => #[.int .i64 (nth xs x.val), .int .i64 (nth ks x.val)]) (KpB n₀ Bn) (SomeOf n n) (fun pre => ∃ k, k ≤ n ∧ SomeOf n k pre) n w := by
 intro l J Jx W hW _ _ hY h0
 have d0 := (hW.cell (World.block_lt_of_cell? w _ c0)).trans c0
 have d1 := (hW.cell (World.block_lt_of_cell? w _ c1)).trans c1
 rcases Nat.eq_zero_or_pos n with e | e
 ·subst e
  refine (parts1_none (N := N) (J []) W d0 h0).mono ?_
  rintro e W' ⟨h1, h2⟩
  exact ⟨h1, .inl ⟨[], rfl, h2⟩⟩
 ·refine (parts1_in N l Bn n₀ hN e rfl hF J Jx hY W d0 d1 (hx.below hW) (hk.below hW) h0).mono ?_
  rintro e' W' ⟨h1, h2⟩
  refine ⟨h1, ?_⟩
  rcases h2 with ⟨ys, rfl, h3⟩ | ⟨pre, ⟨k, hk, rfl⟩, h3⟩
  ·exact .inl ⟨_, uptoN_some e (Nat.le_refl _), h3⟩
  ·exact .inr ⟨_, ⟨k, hk, uptoN_some e hk⟩, h3⟩
theorem parts_in (N : Nat) (x y z : Value) (w : World) :
  CallsIn Fence.wide N Tryz.prog 51 #[.agg #[x, y, z]] w fun e w' => e = .returned (.func (.func 80) #[] #[.pointer (some ⟨w.heap.size, 0, none⟩)]) ∧ w' = w.alloc (.cells #[x, y, z] 41) := by
 refine callsIn_of_wp Tryz.func51 rfl trivial ?_ rfl
 simp only [Tryz.ntmps51, List.size_toArray, List.length_cons, List.length_nil, Nat.reduceAdd, Nat.reduceSub, Array.replicate_succ, Array.replicate_zero, List.push_toArray, List.append_toArray, List.nil_append, List.cons_append]
 gi_wp2
 go_ret
 exact ⟨rfl, rfl⟩
theorem KpB.drew {n₀ Bn : Nat} {A W : World} (h : KpB n₀ Bn A W) : KpB n₀ Bn A W.drew := ⟨⟨h.1.os, h.1.tape, h.1.output, h.1.size, h.1.block⟩, h.2⟩
theorem KpB.set {n₀ Bn : Nat} {A W : World} (h : KpB n₀ Bn A W) {g o : Nat} (hg : n₀ ≤ g) (hb : Bn ≠ g) (u : Value) : KpB n₀ Bn A (W.setCell ⟨g, o, none⟩ u) :=
 ⟨h.1.setCell (p := ⟨g, o, none⟩) hg u, (Below.heap_setCell _ _ _ _ hb).trans h.2⟩
theorem kpb_b {n₀ Bn : Nat} {w : World} (hn : n₀ ≤ w.heap.size) (hB : Bn < w.heap.size) (W : World) (l : Nat) (o o' : Obj) (hl : w.heap.size ≤ l) (h : W.heap[l]? = some o) (h1 : o.isCells = false) (h2 : o.isWalk = false) : KpB n₀ Bn W (W.putObj l o') :=
 ⟨belowK_b hn W l o o' hl h h1 h2, World.putObj_heap_other (by omega)⟩
/-! ### Several blocks made one after the other -/
def allocs (w : World) (os : List Obj) : World := os.foldl World.alloc w
theorem allocs_snoc (w : World) (os : List Obj) (o : Obj) : allocs w (os ++ [o]) = (allocs w os).alloc o := by simp [allocs, List.foldl_append]
theorem allocs_get (w : World) : ∀ os : List Obj, (allocs w os).heap.size = w.heap.size + os.length ∧ Below w.heap.size w (allocs w os) ∧ ∀ (i : Nat) (o : Obj), os[i]? = some o → (allocs w os).heap[w.heap.size + i]? = some o := by
 intro os
 have : ∀ (n : Nat) (os : List Obj), os.length = n → (allocs w os).heap.size = w.heap.size + os.length ∧ Below w.heap.size w (allocs w os) ∧ ∀ (i : Nat) (o : Obj), os[i]? = some o → (allocs w os).heap[w.heap.size + i]? = some o := by
  intro n
  induction n with
  | zero => intro os h; rw [List.length_eq_zero_iff.1 h]; exact ⟨rfl, Below.refl _ _, fun i o h => by simp at h⟩
  | succ n ih =>
   intro os h
   have hne : os ≠ [] := fun e => by rw [e] at h; cases h
   rw [← List.dropLast_concat_getLast hne, allocs_snoc]
   obtain ⟨h1, h2, h3⟩ := ih os.dropLast (by simp [h])
   refine ⟨by simp [World.size_alloc, h1]; omega, h2.alloc h2.size _, fun i o hi => ?_⟩
   rcases Nat.lt_or_ge i os.dropLast.length with e | e
   ·rw [List.getElem?_append_left e] at hi
    rw [World.heap_alloc_ne _ _ _ (by omega)]
    exact h3 i o hi
   ·have hie : i = os.dropLast.length := by
     have := (List.getElem?_eq_some_iff.1 hi).1
     simp only [List.length_append, List.length_singleton] at this
     omega
    subst hie
    rw [List.getElem?_append_right (Nat.le_refl _)] at hi
    have hi : os.getLast hne = o := by simpa using hi
    rw [← h1, hi]
    exact heap_alloc_new _ _
 exact this _ os rfl
def Bx (W : World) (b : Nat) (v : Value) : Prop := W.cell? ⟨b, 0, none⟩ = some v ∧ W.frozen? ⟨b, 0, none⟩ = false
theorem Bx.of_block {W : World} {b : Nat} {v : Value} {t : TypeId} (h : W.heap[b]? = some (.cells #[v] t (0, 0))) : Bx W b v :=
 ⟨by rw [cell_of_row W b 0 _ _ _ h]; rfl, by simp [World.frozen?, h]⟩
theorem Bx.kept {W W' : World} {row : Option Nat} {b : Nat} {v : Value} (h : Bx W b v) (hg : W.grownBy W' row) (hr : ∀ r, row = some r → ∃ o : Obj, W.heap[r]? = some o ∧ o.isCells = false) : Bx W' b v :=
 ⟨cell_kept h.1 hg hr, (frozen_kept h.1 hg hr).trans h.2⟩
theorem Bx.put {W : World} {b : Nat} {v : Value} (h : Bx W b v) (u : Value) : Bx (W.setCell ⟨b, 0, none⟩ u) b u :=
 ⟨World.cell?_setCell_same' _ _ _ (by rw [h.1]; rfl), by rw [World.frozen?_setCell]; exact h.2⟩
theorem Bx.far {W : World} {b g : Nat} {v : Value} (h : Bx W b v) (hb : g ≠ b) (u : Value) : Bx (W.setCell ⟨g, 0, none⟩ u) b v :=
 ⟨by rw [World.cell?_setCell_far _ _ _ _ (by simpa using hb)]; exact h.1, by rw [World.frozen?_setCell]; exact h.2⟩
theorem cell_set_far {W : World} {g b i : Nat} {v : Value} (h : W.cell? ⟨b, i, none⟩ = some v) (hb : b ≠ g) (u : Value) : (W.setCell ⟨g, 0, none⟩ u).cell? ⟨b, i, none⟩ = some v :=
 (World.cell?_of_block (a := ⟨b, i, none⟩) (Below.heap_setCell _ _ _ _ hb)).trans h
end
end Go.Proofs.YtcjmpobccbnpkaaGreat
