/-
  Chapter 29: several texts in one (PbC PbE PbR PbI PbShelf).
-/
import Derived.Test.YtofobmgmgipomaaMgd
import Derived.Test.YtofobmgmgipomaaMga
import Derived.Deep.OwnRows
import Derived.Maps.RangeWalk
import Derived.Shelf.Strconv.Itoa3
import Derived.Shelf.Sort.Plain
import Derived.Shelf.Slices.Equal
import Derived.Ground.Names2Prog
import Derived.Shelf.Slices.CompactI
import Derived.Shelf.Slices.In.SortNone
import Derived.Shelf.Slices.Empties2
namespace Go.Proofs.Ytofobmgmgipomaa
section
open Go.RowKit Go.Shelf

attribute [local go_sem] Oper.semAt_some

/-- A constraint. -/
structure Pb where
  lits : List Int
  coefs : List Int
  bound : Int
/-- v is a constraint: its two slices lie in blocks of F. -/
structure PbRd (w : World) (F : Nat → Prop) (v : Value) (c : Pb) : Prop where
  form : ∃ A n cn B m cm, v = .agg #[.slice A n cn, .slice B m cm, .int .i64 c.bound] ∧ Rd w F 1 (.slice A n cn) n (ints c.lits) ∧ Rd w F 1 (.slice B m cm) m (ints c.coefs)
  bnd : I64 c.bound
theorem PbRd.below {w w' : World} {F : Nat → Prop} {v : Value} {c : Pb} (h : PbRd w F v c) (hb : Below w.heap.size w w') : PbRd w' F v c := by
  obtain ⟨A, n, cn, B, m, cm, e, h1, h2⟩ := h.form
  exact ⟨⟨A, n, cn, B, m, cm, e, h1.below hb, h2.below hb⟩, h.bnd⟩

def uptoN {α : Type} (f : Nat → α) (k : Nat) : List α := (List.range k).map f
theorem uptoN_succ {α : Type} (f : Nat → α) (k : Nat) : uptoN f (k + 1) = uptoN f k ++ [f k] := by simp [uptoN, List.range_succ]
theorem uptoN_length {α : Type} (f : Nat → α) (k : Nat) : (uptoN f k).length = k := by simp [uptoN]

/-- A place among n, or 0 where there is none. -/
def place (n : Nat) (h : 0 < n) (k : Nat) : Fin n := if e : k < n then ⟨k, e⟩ else ⟨0, h⟩
theorem place_val {n : Nat} (h : 0 < n) {k : Nat} (e : k < n) : (place n h k).val = k := by unfold place; rw [dif_pos e]

/-- A round keeps what lay below n₀, and the block Bn. -/
def KpB (n₀ Bn : Nat) (W W' : World) : Prop := Below n₀ W W' ∧ W'.heap[Bn]? = W.heap[Bn]?
theorem KpB.refl (n₀ Bn : Nat) (W : World) : KpB n₀ Bn W W := ⟨Below.refl _ _, rfl⟩
theorem KpB.trans {n₀ Bn : Nat} {A B C : World} (h : KpB n₀ Bn A B) (k : KpB n₀ Bn B C) : KpB n₀ Bn A C := ⟨h.1.trans k.1, k.2.trans h.2⟩
set_option maxRecDepth 100000 in
set_option maxHeartbeats 2000000 in
/-- parts' closure. -/
theorem parts1_in (N l Bn n₀ : Nat) (hN : 1 ≤ N) {n cn m cm : Nat} {A B : Option Addr} {xs ks : List Int} {F : Nat → Prop} (hn : 0 < n) (hnm : n = m) (hF : ∀ g, F g → g < n₀) (J Jx : List (Fin n) → World → Prop)
    (hY : ∀ pre x W, J pre W → pre.length < n → YieldAt Fence.wide (N - 1) Try.prog l #[.int .i64 (nth xs x.val), .int .i64 (nth ks x.val)] W fun e W' =>
      (e = .returned (.bool true) ∧ J (pre ++ [x]) W' ∧ KpB n₀ Bn W W') ∨ (e = .returned (.bool false) ∧ Jx (pre ++ [x]) W'))
    (W : World) (c0 : W.cell? ⟨Bn, 0, none⟩ = some (.slice A n cn)) (c1 : W.cell? ⟨Bn, 1, none⟩ = some (.slice B m cm)) (hx : Rd W F 1 (.slice A n cn) n (ints xs)) (hk : Rd W F 1 (.slice B m cm) m (ints ks)) (h0 : J [] W) :
    CallsIn Fence.wide N Try.prog 69 #[.func (.yield l) #[] #[], .pointer (some ⟨Bn, 0, none⟩)] W fun e W' => (∃ v, e = .returned v) ∧
      ((∃ ys, ys = uptoN (place n hn) n ∧ J ys W') ∨ (∃ pre, (∃ k, k ≤ n ∧ pre = uptoN (place n hn) k) ∧ Jx pre W')) := by
  subst hnm
  have hnb : n ≤ 9223372036854775807 := by
    have := hx.len
    unfold maxLen at this
    omega
  have hxl : xs.length = n := by have := hx.1; simpa [ints_length] using this
  have hkl : ks.length = n := by have := hk.1; simpa [ints_length] using this
  refine callsIn_of_wp Try.func69 rfl trivial ?_ rfl
  simp only [Try.ntmps69, List.size_toArray, List.length_cons, List.length_nil, Nat.reduceAdd, Nat.reduceSub, Array.replicate_succ, Array.replicate_zero, List.push_toArray, List.append_toArray, List.nil_append, List.cons_append]
  gi_wp2
  gi_loopw [8] (fun i wr => ∃ k : Nat, k ≤ n ∧ i = .int .i64 k ∧ J (uptoN (place n hn) k) wr ∧ KpB n₀ Bn W wr)
    (fun i _ => n - (intOf i).toNat)
  case atStart => exact ⟨0, Nat.zero_le _, rfl, h0, KpB.refl _ _ _⟩
  case round =>
    obtain ⟨k, hk', rfl, hJs, hnx⟩ := hrel
    by_cases hlt : k < n
    · obtain ⟨g, o, rfl, hgF, hg, e0⟩ := hx.cell.2 k hlt
      obtain ⟨g2, o2, rfl, hgF2, hg2, e2⟩ := hk.cell.2 k hlt
      have d0 := (hnx.1.cell (p := ⟨g, o + k, none⟩) (hF g hgF)).trans e0
      have d2 := (hnx.1.cell (p := ⟨g2, o2 + k, none⟩) (hF g2 hgF2)).trans e2
      have d3 := (World.cell?_of_block (a := ⟨Bn, 1, none⟩) hnx.2).trans c1
      obtain ⟨fn, tmps, assign, body, hy, hR⟩ := hY _ (place n hn k) wr hJs (by rw [uptoN_length]; exact hlt)
      rw [place_val hn hlt] at hy
      have hik : (k : Int) < (n : Int) := by omega
      gi_wp2
      refine hR.mono ?_
      rintro e W3 (⟨rfl, hJ3, hk3⟩ | ⟨rfl, hJx3⟩)
      · gi_wp2
        go_roundw
        case rel => exact ⟨k + 1, by omega, by simp, by rw [uptoN_succ]; exact hJ3, hnx.trans hk3⟩
        case measure => simp [intOf]; omega
      · gi_wp2
        refine bodyPost_ret (results_none rfl _ _ _) rfl ?_
        exact ⟨⟨_, rfl⟩, .inr ⟨_, ⟨k + 1, by omega, (uptoN_succ _ _).symm⟩, hJx3⟩⟩
    · obtain rfl : k = n := by omega
      gi_wp2
      go_end0
      exact ⟨⟨_, rfl⟩, .inl ⟨_, rfl, hJs⟩⟩

/-- What has come when k rounds are over. -/
def SomeOf (n k : Nat) (pre : List (Fin n)) : Prop := pre.map Fin.val = List.range k
theorem uptoN_some {n : Nat} (h : 0 < n) {k : Nat} (hk : k ≤ n) : SomeOf n k (uptoN (place n h) k) := by
  unfold SomeOf uptoN
  rw [List.map_map]
  conv => rhs; rw [← List.map_id (List.range k)]
  refine List.map_congr_left fun j hj => ?_
  have := List.mem_range.1 hj
  exact place_val h (by omega)
set_option maxRecDepth 100000 in
set_option maxHeartbeats 1000000 in
/-- parts' closure over no literal. -/
theorem parts1_none {N l Bn cn : Nat} {A : Option Addr} (J : World → Prop) (W : World) (c0 : W.cell? ⟨Bn, 0, none⟩ = some (.slice A 0 cn)) (h0 : J W) :
    CallsIn Fence.wide N Try.prog 69 #[.func (.yield l) #[] #[], .pointer (some ⟨Bn, 0, none⟩)] W fun e W' => (∃ v, e = .returned v) ∧ J W' := by
  refine callsIn_of_wp Try.func69 rfl trivial ?_ rfl
  simp only [Try.ntmps69, List.size_toArray, List.length_cons, List.length_nil, Nat.reduceAdd, Nat.reduceSub, Array.replicate_succ, Array.replicate_zero, List.push_toArray, List.append_toArray, List.nil_append, List.cons_append]
  gi_wp2
  gi_loopw [8] (fun i wr => i = .int .i64 0 ∧ J wr) (fun _ _ => 0)
  case atStart => exact ⟨rfl, h0⟩
  case round =>
    obtain ⟨rfl, hJs⟩ := hrel
    gi_wp2
    go_end0
    exact ⟨⟨_, rfl⟩, hJs⟩
/-- parts' value, as a loop meets it: its box lies at Bn. -/
theorem parts_stops (N Bn n₀ : Nat) (hN : 1 ≤ N) {n cn cm : Nat} {A B : Option Addr} {xs ks : List Int} {F : Nat → Prop} (hF : ∀ g, F g → g < n₀) (w : World)
    (c0 : w.cell? ⟨Bn, 0, none⟩ = some (.slice A n cn)) (c1 : w.cell? ⟨Bn, 1, none⟩ = some (.slice B n cm)) (hx : Rd w F 1 (.slice A n cn) n (ints xs)) (hk : Rd w F 1 (.slice B n cm) n (ints ks)) :
    SeqStopsK Fence.wide N Try.prog 69 #[.pointer (some ⟨Bn, 0, none⟩)] (fun x : Fin n => #[.int .i64 (nth xs x.val), .int .i64 (nth ks x.val)]) (KpB n₀ Bn) (SomeOf n n) (fun pre => ∃ k, k ≤ n ∧ SomeOf n k pre) n w := by
  intro l J Jx W hW _ _ hY h0
  have d0 := (hW.cell (World.block_lt_of_cell? w _ c0)).trans c0
  have d1 := (hW.cell (World.block_lt_of_cell? w _ c1)).trans c1
  rcases Nat.eq_zero_or_pos n with e | e
  · subst e
    refine (parts1_none (N := N) (J []) W d0 h0).mono ?_
    rintro e W' ⟨h1, h2⟩
    exact ⟨h1, .inl ⟨[], rfl, h2⟩⟩
  · refine (parts1_in N l Bn n₀ hN e rfl hF J Jx hY W d0 d1 (hx.below hW) (hk.below hW) h0).mono ?_
    rintro e' W' ⟨h1, h2⟩
    refine ⟨h1, ?_⟩
    rcases h2 with ⟨ys, rfl, h3⟩ | ⟨pre, ⟨k, hk, rfl⟩, h3⟩
    · exact .inl ⟨_, uptoN_some e (Nat.le_refl _), h3⟩
    · exact .inr ⟨_, ⟨k, hk, uptoN_some e hk⟩, h3⟩
set_option maxRecDepth 100000 in
set_option maxHeartbeats 1000000 in
/-- parts(c): the constraint is boxed; the function value captures the box. -/
theorem parts_in (N : Nat) (x y z : Value) (w : World) :
    CallsIn Fence.wide N Try.prog 53 #[.agg #[x, y, z]] w fun e w' => e = .returned (.func (.func 69) #[] #[.pointer (some ⟨w.heap.size, 0, none⟩)]) ∧ w' = w.alloc (.cells #[x, y, z] 36) := by
  refine callsIn_of_wp Try.func53 rfl trivial ?_ rfl
  simp only [Try.ntmps53, List.size_toArray, List.length_cons, List.length_nil, Nat.reduceAdd, Nat.reduceSub, Array.replicate_succ, Array.replicate_zero, List.push_toArray, List.append_toArray, List.nil_append, List.cons_append]
  gi_wp2
  go_ret
  exact ⟨rfl, rfl⟩

theorem KpB.drew {n₀ Bn : Nat} {A W : World} (h : KpB n₀ Bn A W) : KpB n₀ Bn A W.drew := ⟨⟨h.1.os, h.1.tape, h.1.output, h.1.size, h.1.block⟩, h.2⟩
theorem KpB.set {n₀ Bn : Nat} {A W : World} (h : KpB n₀ Bn A W) {g o : Nat} (hg : n₀ ≤ g) (hb : Bn ≠ g) (u : Value) : KpB n₀ Bn A (W.setCell ⟨g, o, none⟩ u) :=
  ⟨h.1.setCell (p := ⟨g, o, none⟩) hg u, (Below.heap_setCell _ _ _ _ hb).trans h.2⟩
theorem kpb_b {n₀ Bn : Nat} {w : World} (hn : n₀ ≤ w.heap.size) (hB : Bn < w.heap.size) (W : World) (l : Nat) (o o' : Obj) (hl : w.heap.size ≤ l) (h : W.heap[l]? = some o) (h1 : o.isCells = false) (h2 : o.isWalk = false) : KpB n₀ Bn W (W.putObj l o') :=
  ⟨belowK_b hn W l o o' hl h h1 h2, World.putObj_heap_other (by omega)⟩

/-! ### Several blocks made one after the other -/
def allocs (w : World) (os : List Obj) : World := os.foldl World.alloc w
theorem allocs_snoc (w : World) (os : List Obj) (o : Obj) : allocs w (os ++ [o]) = (allocs w os).alloc o := by simp [allocs, List.foldl_append]
theorem allocs_get (w : World) : ∀ os : List Obj, (allocs w os).heap.size = w.heap.size + os.length ∧ Below w.heap.size w (allocs w os) ∧ ∀ (i : Nat) (o : Obj), os[i]? = some o → (allocs w os).heap[w.heap.size + i]? = some o := by
  intro os
  have : ∀ (n : Nat) (os : List Obj), os.length = n → (allocs w os).heap.size = w.heap.size + os.length ∧ Below w.heap.size w (allocs w os) ∧ ∀ (i : Nat) (o : Obj), os[i]? = some o → (allocs w os).heap[w.heap.size + i]? = some o := by
    intro n
    induction n with
    | zero => intro os h; rw [List.length_eq_zero_iff.1 h]; exact ⟨rfl, Below.refl _ _, fun i o h => by simp at h⟩
    | succ n ih =>
      intro os h
      have hne : os ≠ [] := fun e => by rw [e] at h; cases h
      rw [← List.dropLast_concat_getLast hne, allocs_snoc]
      obtain ⟨h1, h2, h3⟩ := ih os.dropLast (by simp [h])
      refine ⟨by simp [World.size_alloc, h1]; omega, h2.alloc h2.size _, fun i o hi => ?_⟩
      rcases Nat.lt_or_ge i os.dropLast.length with e | e
      · rw [List.getElem?_append_left e] at hi
        rw [World.heap_alloc_ne _ _ _ (by omega)]
        exact h3 i o hi
      · have hie : i = os.dropLast.length := by
          have := (List.getElem?_eq_some_iff.1 hi).1
          simp only [List.length_append, List.length_singleton] at this
          omega
        subst hie
        rw [List.getElem?_append_right (Nat.le_refl _)] at hi
        have hi : os.getLast hne = o := by simpa using hi
        rw [← h1, hi]
        exact heap_alloc_new _ _
  exact this _ os rfl
/-- A box of one's own: block b holds v and may be written. -/
def Bx (W : World) (b : Nat) (v : Value) : Prop := W.cell? ⟨b, 0, none⟩ = some v ∧ W.frozen? ⟨b, 0, none⟩ = false
theorem Bx.of_block {W : World} {b : Nat} {v : Value} {t : TypeId} (h : W.heap[b]? = some (.cells #[v] t (0, 0))) : Bx W b v :=
  ⟨by rw [cell_of_row W b 0 _ _ _ h]; rfl, by simp [World.frozen?, h]⟩
theorem Bx.kept {W W' : World} {row : Option Nat} {b : Nat} {v : Value} (h : Bx W b v) (hg : W.grownBy W' row) (hr : ∀ r, row = some r → ∃ o : Obj, W.heap[r]? = some o ∧ o.isCells = false) : Bx W' b v :=
  ⟨cell_kept h.1 hg hr, (frozen_kept h.1 hg hr).trans h.2⟩
theorem Bx.put {W : World} {b : Nat} {v : Value} (h : Bx W b v) (u : Value) : Bx (W.setCell ⟨b, 0, none⟩ u) b u :=
  ⟨World.cell?_setCell_same' _ _ _ (by rw [h.1]; rfl), by rw [World.frozen?_setCell]; exact h.2⟩
theorem Bx.far {W : World} {b g : Nat} {v : Value} (h : Bx W b v) (hb : g ≠ b) (u : Value) : Bx (W.setCell ⟨g, 0, none⟩ u) b v :=
  ⟨by rw [World.cell?_setCell_far _ _ _ _ (by simpa using hb)]; exact h.1, by rw [World.frozen?_setCell]; exact h.2⟩
theorem cell_set_far {W : World} {g b i : Nat} {v : Value} (h : W.cell? ⟨b, i, none⟩ = some v) (hb : b ≠ g) (u : Value) : (W.setCell ⟨g, 0, none⟩ u).cell? ⟨b, i, none⟩ = some v :=
  (World.cell?_of_block (a := ⟨b, i, none⟩) (Below.heap_setCell _ _ _ _ hb)).trans h
end

section
open Go.RowKit Go.Shelf

theorem i8s_length (xs : List Int) : (i8s xs).length = xs.length := by simp [i8s]
theorem i8s_nth {xs : List Int} {k : Nat} (h : k < xs.length) : (i8s xs)[k]? = some (.int .i8 (nth xs k)) := by
  unfold i8s
  rw [List.getElem?_map, nth_get h]
  rfl
theorem nth_out {xs : List Int} {k : Nat} (h : xs.length ≤ k) : nth xs k = 0 := by
  unfold nth
  rw [List.getElem?_eq_none h]
  rfl
theorem Rd.cell8 {w : World} {F : Nat → Prop} {A : Option Addr} {n c : Nat} {xs : List Int} (h : Rd w F 1 (.slice A n c) n (i8s xs)) : xs.length = n ∧
    ∀ k, k < n → ∃ g o, A = some ⟨g, o, none⟩ ∧ F g ∧ g < w.heap.size ∧ w.cell? ⟨g, o + k, none⟩ = some (.int .i8 (nth xs k)) := by
  obtain ⟨hl, A', c', hv, hc, hm, hA⟩ := h
  injection hv with h1 _ _
  subst h1
  have hln : xs.length = n := by simpa [i8s_length] using hl
  refine ⟨hln, fun k hk => ?_⟩
  obtain ⟨g, o, h1, h2, h3, h4⟩ := hA (by omega)
  exact ⟨g, o, h1, h2, h3, h4 k _ (i8s_nth (by omega))⟩
/-- The value of a literal: 1, -1, 0. -/
def valB (av : List Int) (l : Int) : Int := if nth av (l.natAbs - 1) = 0 then 0 else if (0 < nth av (l.natAbs - 1) ↔ 0 < l) then 1 else -1

set_option maxHeartbeats 1000000 in
theorem pval_any {w : World} {F : Nat → Prop} {A : Option Addr} {n c : Nat} {av : List Int} {l : Int} (ha : Rd w F 1 (.slice A n c) n (i8s av)) (h0 : l ≠ 0) (h1 : -65536 ≤ l) (h2 : l ≤ 65536) :
    Calls Try.prog 54 #[.slice A n c, .int .i64 l] w fun r w' => r = .returned (.int .i64 (valB av l)) ∧ w = w' := by
  obtain ⟨v, hv⟩ : ∃ v, l.natAbs = v := ⟨_, rfl⟩
  have hv1 : 1 ≤ v ∧ v ≤ 65536 := by omega
  obtain ⟨p, hp⟩ : ∃ p, v = p + 1 := ⟨v - 1, by omega⟩
  have hwp : IntKind.i64.wrap ((v : Int) - 1) = (p : Int) := by rw [iw' (by omega) (by omega)]; omega
  have hvv : valB av l = if nth av p = 0 then 0 else if (0 < nth av p ↔ 0 < l) then 1 else -1 := by unfold valB; rw [hv, hp]; rfl
  have hal := ha.cell8.1
  by_cases hn : v ≤ n
  · obtain ⟨g, o, rfl, _, hg, e0⟩ := ha.cell8.2 p (by omega)
    obtain ⟨x, hx⟩ : ∃ x, nth av p = x := ⟨_, rfl⟩
    rw [hx] at e0 hvv
    have q1 : ((n : Int) < (v : Int)) = False := by simp; omega
    have q2 : (p : Int) < (n : Int) := by omega
    have q3 : (n < v) = False := by simp; omega
    have Hv := hid hv
    have Hvv := hid hvv
    clear hv hvv hp hx ha hal
    by_cases x0 : x = 0
    · subst x0
      have hval : valB av l = 0 := by rw [Hvv.out]; simp
      rw [hval]
      clear hval Hvv
      go_enter Try.func54, Try.ntmps54
      go_wp2_with fail
      refine (abs_any (by omega) (by omega)).mono ?_
      rw [Hv.out]
      rintro r w1 ⟨rfl, rfl⟩
      go_wp2_with fail
      go_ret
      exact ⟨rfl, rfl⟩
    · have r1 : (x = 0) = False := by simpa using x0
      have r2 : (x == 0) = false := by simpa using x0
      by_cases xp : 0 < x
      · by_cases lp : 0 < l
        · have r3 : decide (0 < x) = true := by simpa using xp
          have r4 : decide (0 < l) = true := by simpa using lp
          have hval : valB av l = 1 := by rw [Hvv.out]; simp [x0, xp, lp]
          rw [hval]
          clear hval Hvv
          go_enter Try.func54, Try.ntmps54
          go_wp2_with fail
          refine (abs_any (by omega) (by omega)).mono ?_
          rw [Hv.out]
          rintro r w1 ⟨rfl, rfl⟩
          go_wp2_with fail
          go_ret
          exact ⟨rfl, rfl⟩
        · have r3 : decide (0 < x) = true := by simpa using xp
          have r4 : decide (0 < l) = false := by simpa using lp
          have hval : valB av l = -1 := by rw [Hvv.out]; simp [x0, xp, lp]
          rw [hval]
          clear hval Hvv
          go_enter Try.func54, Try.ntmps54
          go_wp2_with fail
          refine (abs_any (by omega) (by omega)).mono ?_
          rw [Hv.out]
          rintro r w1 ⟨rfl, rfl⟩
          go_wp2_with fail
          go_ret
          exact ⟨rfl, rfl⟩
      · by_cases lp : 0 < l
        · have r3 : decide (0 < x) = false := by simpa using xp
          have r4 : decide (0 < l) = true := by simpa using lp
          have hval : valB av l = -1 := by rw [Hvv.out]; simp [x0, xp, lp]
          rw [hval]
          clear hval Hvv
          go_enter Try.func54, Try.ntmps54
          go_wp2_with fail
          refine (abs_any (by omega) (by omega)).mono ?_
          rw [Hv.out]
          rintro r w1 ⟨rfl, rfl⟩
          go_wp2_with fail
          go_ret
          exact ⟨rfl, rfl⟩
        · have r3 : decide (0 < x) = false := by simpa using xp
          have r4 : decide (0 < l) = false := by simpa using lp
          have hval : valB av l = 1 := by rw [Hvv.out]; simp [x0, xp, lp]
          rw [hval]
          clear hval Hvv
          go_enter Try.func54, Try.ntmps54
          go_wp2_with fail
          refine (abs_any (by omega) (by omega)).mono ?_
          rw [Hv.out]
          rintro r w1 ⟨rfl, rfl⟩
          go_wp2_with fail
          go_ret
          exact ⟨rfl, rfl⟩
  · have e : valB av l = 0 := by rw [hvv, nth_out (by omega), if_pos rfl]
    rw [e]
    have q1 : (n : Int) < (v : Int) := by omega
    have q3 : n < v := by omega
    have Hv := hid hv
    clear hv hvv hp ha hal e
    go_enter Try.func54, Try.ntmps54
    go_wp2_with fail
    refine (abs_any (by omega) (by omega)).mono ?_
    rw [Hv.out]
    rintro r w1 ⟨rfl, rfl⟩
    go_wp2_with fail
    go_ret
    exact ⟨rfl, rfl⟩
end

section
open Go.RowKit

theorem mk_i8s (W : World) : (Instr.makeSlice 56 (.int .i64 6) (.int .i64 6)).run Try.prog W = .ok (.slice (some ⟨W.heap.size, 0, none⟩) 6 6) (W.alloc (.cells (madeCells #[.int .i8 0] 6) 58)) :=
  run_make_row' (P := Try.prog) 56 58 (.int .i8 0) 1 Try.underlying56 info_i8 rfl .i64 .i64 6 (by omega) (by omega) W
def bitOf (b : Int) (i : Nat) : Bool := bits BinOp.and IntKind.u8 (b / 2 ^ i) 1 == 1
/-- The total assignment, of which the first j entries are set. -/
def totUp (b : Int) (j : Nat) : List Int := (List.range 6).map fun i => if i < j then (if bitOf b i = true then 1 else -1) else 0
theorem totUp_len (b : Int) (j : Nat) : (totUp b j).length = 6 := by simp [totUp]
theorem totUp_none (b : Int) : totUp b 0 = List.replicate 6 0 := by simp [totUp, List.range_succ]
theorem totUp_nth (b : Int) (j : Nat) {i : Nat} (hi : i < 6) : nth (totUp b j) i = if i < j then (if bitOf b i = true then 1 else -1) else 0 := by
  rw [nth_eq (by rw [totUp_len]; exact hi)]
  simp [totUp]
theorem totUp_set (b : Int) {i : Nat} (_hi : i < 6) : (totUp b i).set i (if bitOf b i = true then 1 else -1) = totUp b (i + 1) := by
  apply List.ext_getElem (by simp [totUp_len])
  intro k h1 h2
  rw [totUp_len] at h2
  rw [← nth_eq h1, ← nth_eq (by rw [totUp_len]; exact h2), nth_set _ _ _ _ (by rw [totUp_len]; exact h2), totUp_nth b i h2, totUp_nth b (i + 1) h2]
  by_cases e : i = k
  · subst e; rw [if_pos rfl, if_pos (show i < i + 1 by omega)]
  · rw [if_neg e]
    by_cases e2 : k < i
    · rw [if_pos e2, if_pos (show k < i + 1 by omega)]
    · rw [if_neg e2, if_neg (show ¬ k < i + 1 by omega)]
theorem own_i8s (w : World) : Own (w.alloc (.cells (madeCells #[.int .i8 0] 6) 58)) (fun g => g = w.heap.size) 58 1 (.slice (some ⟨w.heap.size, 0, none⟩) 6 6) 6 (i8s (List.replicate 6 0)) := by
  have e : i8s (List.replicate 6 0) = List.replicate 6 (Value.int .i8 0) := by simp [i8s]
  rw [e]
  exact own_new w _ 58 1 6 _ 6 _ (by simp) (by omega) (Nat.le_refl _) (by unfold maxLen; omega) (by simp [size_madeCells]) (by rw [toList_madeCells_one, Nat.mul_one, List.take_replicate, Nat.min_self]) rfl
end

section
open Go.RowKit Go.Maps

/-- What a term k * l adds to the coefficient of the variable v. -/
def term (l k v : Int) : Int := if l = v then k else if l = -v then -k else 0
/-- The coefficient of the variable v in the first j terms. -/
def vsum (ls ks : List Int) (j : Nat) (v : Int) : Int := ((List.range j).map fun i => term (nth ls i) (nth ks i) v).sum
/-- The sum of the coefficients of negative literals. -/
def nsum (ls ks : List Int) (j : Nat) : Int := ((List.range j).map fun i => if nth ls i < 0 then nth ks i else 0).sum
theorem vsum_succ (ls ks : List Int) (j : Nat) (v : Int) : vsum ls ks (j + 1) v = vsum ls ks j v + term (nth ls j) (nth ks j) v := by simp [vsum, List.range_succ]
theorem nsum_succ (ls ks : List Int) (j : Nat) : nsum ls ks (j + 1) = nsum ls ks j + (if nth ls j < 0 then nth ks j else 0) := by simp [nsum, List.range_succ]
/-- The term is one that Norm takes. -/
def inB (ls ks : List Int) (i : Nat) : Bool := litB (nth ls i) && decide (-16777216 ≤ nth ks i) && decide (nth ks i ≤ 16777216)
theorem inB_k {ls ks : List Int} {i : Nat} (h : inB ls ks i = true) : -16777216 ≤ nth ks i ∧ nth ks i ≤ 16777216 := by
  unfold inB at h
  simp only [Bool.and_eq_true, decide_eq_true_eq] at h
  exact ⟨h.1.2, h.2⟩
theorem vsum_bounds {ls ks : List Int} (v : Int) : ∀ j, (∀ i, i < j → inB ls ks i = true) → -(j * 16777216 : Int) ≤ vsum ls ks j v ∧ vsum ls ks j v ≤ j * 16777216 := by
  intro j
  induction j with
  | zero => intro _; simp [vsum]
  | succ j ih =>
    intro h
    obtain ⟨h1, h2⟩ := ih fun i hi => h i (by omega)
    obtain ⟨h3, h4⟩ := inB_k (h j (by omega))
    rw [vsum_succ]
    unfold term
    split
    · omega
    · split <;> omega
theorem nsum_bounds {ls ks : List Int} : ∀ j, (∀ i, i < j → inB ls ks i = true) → -(j * 16777216 : Int) ≤ nsum ls ks j ∧ nsum ls ks j ≤ j * 16777216 := by
  intro j
  induction j with
  | zero => intro _; simp [nsum]
  | succ j ih =>
    intro h
    obtain ⟨h1, h2⟩ := ih fun i hi => h i (by omega)
    obtain ⟨h3, h4⟩ := inB_k (h j (by omega))
    rw [nsum_succ]
    split <;> omega
def normVars (ls ks : List Int) : List Int := ((List.range 65536).map fun (i : Nat) => (i : Int) + 1).filter fun v => decide (vsum ls ks ls.length v ≠ 0)
def normBd (ls ks : List Int) (b : Int) : Int := b - nsum ls ks ls.length - ((normVars ls ks).map fun v => min (vsum ls ks ls.length v) 0).sum
def normOk (ls ks : List Int) (b : Int) : Bool := decide (ls.length = ks.length) && decide (ls.length ≤ 65536) && decide (-1099511627776 ≤ b) && decide (b ≤ 1099511627776) && (List.range ls.length).all (inB ls ks)
def normCoefs (ls ks : List Int) (b : Int) : List Int := (normVars ls ks).map fun v => min ((vsum ls ks ls.length v).natAbs : Nat) (normBd ls ks b)
/-- Norm's answer. -/
def normed (ls ks : List Int) (b : Int) : Pb × Int :=
  if normOk ls ks b = false then (⟨[], [], 0⟩, 2)
  else if normBd ls ks b ≤ 0 then (⟨[], [], 0⟩, 0)
  else if (normCoefs ls ks b).sum < normBd ls ks b then (⟨[], [], 1⟩, 0)
  else if 16777216 < normBd ls ks b then (⟨[], [], 0⟩, 3)
  else (⟨(normVars ls ks).map fun v => if vsum ls ks ls.length v < 0 then -v else v, normCoefs ls ks b, normBd ls ks b⟩, 0)

theorem keyed_int : Keyed Try.prog 3 := int_keyed Try.underlying3
theorem zero_num (w : World) : (zeroValue 3).run Try.prog w = .ok (.int .i64 0) w := by kernel_rfl
theorem i64_wf {x : Int} (h : I64 x) : (Lit.int .i64 x).wf = true := by
  unfold I64 at h
  simp [Lit.wf, IntKind.min, IntKind.max, IntKind.signed, IntKind.bits]
  omega
theorem key_num {x : Int} (h : I64 x) : keyOf Try.prog 3 (.int .i64 x) = some (.int .i64 x) := keyOf_int_mk Try.underlying3 (i64_wf h)
theorem num_key {x : Int} (h : I64 x) : WideAt.IsKeyLit (.int .i64 x) := keyed_int.key (key_num h)
theorem num_ne {x y : Int} (h : x ≠ y) : (Lit.int .i64 x) ≠ .int .i64 y := fun e => h (by injection e)
theorem normed_bad {ls ks : List Int} {b : Int} {j : Nat} (hj : j < ls.length) (h : inB ls ks j = false) : normed ls ks b = (⟨[], [], 0⟩, 2) := by
  have : normOk ls ks b = false := by
    unfold normOk
    have hall : (List.range ls.length).all (inB ls ks) = false := by
      rw [List.all_eq_false]
      exact ⟨j, List.mem_range.2 hj, by rw [h]; simp⟩
    rw [hall]
    simp
  unfold normed
  rw [if_pos this]
/-- A map from variables to numbers. -/
structure CntD (D : DataW Unit) (f : Int → Int) : Prop where
  val : ∀ v : Int, 1 ≤ v → v ≤ 65536 → D.atKey (.int .i64 v) (.lit (.int .i64 0)) = .lit (.int .i64 (f v))
  key : ∀ kl, Maps.has D kl = true → ∃ v : Int, kl = .int .i64 v ∧ 1 ≤ v ∧ v ≤ 65536
def CntIs (w : World) (b n : Nat) (f : Int → Int) : Prop := ∃ D : DataW Unit, w.ownsMap Try.prog 3 (plainElem Try.prog 3) b n D ∧ CntD D f
theorem CntIs.put {w w' : World} {b n : Nat} {f g : Int → Int} {D : DataW Unit} {v x : Int} (h : w.ownsMap Try.prog 3 (plainElem Try.prog 3) b n D) (hD : CntD D f) (hv : 1 ≤ v) (hv2 : v ≤ 65536)
    (h' : w'.ownsMap Try.prog 3 (plainElem Try.prog 3) b (n + 1) (D.put (.int .i64 v) (.lit (.int .i64 x)))) (h1 : g v = x) (h2 : ∀ u, 1 ≤ u → u ≠ v → g u = f u) : CntIs w' b (n + 1) g := by
  have hk : WideAt.IsKeyLit (.int .i64 v) := num_key (by unfold I64; omega)
  refine ⟨_, h', ⟨fun u hu hu2 => ?_, fun kl hkl => ?_⟩⟩
  · by_cases e : u = v
    · subst e
      rw [atKey_put_same h.isMap hk, h1]
    · rw [atKey_put_other (num_ne e), hD.val u hu hu2, h2 u hu e]
  · by_cases e : kl = .int .i64 v
    · exact ⟨v, e, hv, hv2⟩
    · rw [has_put_other e] at hkl
      exact hD.key kl hkl
theorem CntIs.made (w : World) (f : Int → Int) (hf : ∀ v, 1 ≤ v → f v = 0) : CntIs (w.alloc (.map #[] 0)) w.heap.size 0 f :=
  ⟨_, World.ownsMap_made _ _ _ _, ⟨fun v hv _ => by rw [hf v hv]; rfl, fun kl h => by simp [Maps.has] at h⟩⟩
theorem CntIs.of_block {w w' : World} {b n : Nat} {f : Int → Int} (h : CntIs w b n f) (hb : w'.heap[b]? = w.heap[b]?) : CntIs w' b n f := by
  obtain ⟨D, ⟨es, clock, hm, r⟩, hD⟩ := h
  exact ⟨D, ⟨es, clock, hb.trans hm, r⟩, hD⟩
theorem cnt_ranges_of {w w' : World} {b r n cnt : Nat} {D : DataW Unit} {left : Lit → Bool} (h : w.ranges Try.prog 3 (plainElem Try.prog 3) b r n D left cnt) (h1 : w'.heap[b]? = w.heap[b]?) (h2 : w'.heap[r]? = w.heap[r]?) : w'.ranges Try.prog 3 (plainElem Try.prog 3) b r n D left cnt := by
  obtain ⟨es, clock, since, seen, c0, hb, F, hs, hD, hr, rest⟩ := h
  exact ⟨es, clock, since, seen, c0, h1.trans hb, F, hs, hD, h2.trans hr, rest⟩
theorem cnt_ranges_le {w : World} {b r n cnt : Nat} {D : DataW Unit} {left : Lit → Bool} (h : w.ranges Try.prog 3 (plainElem Try.prog 3) b r n D left cnt) : cnt ≤ n := by
  obtain ⟨es, clock, since, seen, c0, hb, F, hs, hD, hr, h1, h2, _⟩ := h
  rw [← h2]
  unfold leftOf
  exact Nat.le_trans Array.size_filter_le hs
theorem same_int (x y : Int) : (Lit.int .i64 x).sameKey (.int .i64 y) = decide (x = y) := by
  by_cases e : x = y
  · subst e
    cases hs : (Lit.int IntKind.i64 x).sameKey (.int .i64 x)
    · simp [Lit.sameKey] at hs
    · simp
  · rw [sameKey_ne (num_ne e)]
    simp [e]
/-- The sum of what is below 0. -/
def minus (f : Int → Int) (xs : List Int) : Int := (xs.map fun v => min (f v) 0).sum
theorem minus_snoc (f : Int → Int) (xs : List Int) (x : Int) : minus f (xs ++ [x]) = minus f xs + min (f x) 0 := by simp [minus]
theorem minus_bounds {f : Int → Int} {B : Int} (hf : ∀ v, -B ≤ f v) (hB : 0 ≤ B) : ∀ xs : List Int, -(xs.length * B) ≤ minus f xs ∧ minus f xs ≤ 0 := by
  intro xs
  induction xs with
  | nil => simp [minus]
  | cons x xs ih =>
    have e : minus f (x :: xs) = min (f x) 0 + minus f xs := by simp [minus]
    have := hf x
    have e2 : ((x :: xs).length : Int) * B = xs.length * B + B := by rw [List.length_cons, Int.natCast_add, Int.add_mul]; simp
    rw [e, e2]
    omega
end

section
open Go.Shelf Go.Proofs Go.RowKit

def sh_lays189_ren : Go.Shelf.Ren := ⟨fun | 189 => 56 | 125 => 71 | 257 => 70 | 128 => 86 | 129 => 87 | 294 => 77 | 295 => 78 | 296 => 79 | 297 => 80 | 298 => 81 | 299 => 82 | 216 => 83 | 300 => 84 | 301 => 85 | 328 => 89 | 329 => 90 | 330 => 91 | 331 => 92 | 332 => 93 | 215 => 94 | 343 => 95 | n => n, fun | 28 => 23 | 3 => 3 | 46 => 107 | 0 => 0 | 51 => 118 | 53 => 120 | 4 => 4 | 183 => 111 | 182 => 110 | 131 => 115 | 5 => 5 | 9 => 9 | 218 => 122 | 222 => 126 | 228 => 128 | 229 => 129 | n => n, fun | n => n⟩
theorem sh_lays189 : Go.Proofs.Lays.n189 Try.prog sh_lays189_ren := {
  mixed := by kernel_rfl
  f125 := Try.func71.trans (congrArg some (by kernel_rfl))
  f128 := Try.func86.trans (congrArg some (by kernel_rfl))
  f129 := Try.func87.trans (congrArg some (by kernel_rfl))
  f189 := Try.func56.trans (congrArg some (by kernel_rfl))
  f215 := Try.func94.trans (congrArg some (by kernel_rfl))
  f216 := Try.func83.trans (congrArg some (by kernel_rfl))
  f257 := Try.func70.trans (congrArg some (by kernel_rfl))
  f294 := Try.func77.trans (congrArg some (by kernel_rfl))
  f295 := Try.func78.trans (congrArg some (by kernel_rfl))
  f296 := Try.func79.trans (congrArg some (by kernel_rfl))
  f297 := Try.func80.trans (congrArg some (by kernel_rfl))
  f298 := Try.func81.trans (congrArg some (by kernel_rfl))
  f299 := Try.func82.trans (congrArg some (by kernel_rfl))
  f300 := Try.func84.trans (congrArg some (by kernel_rfl))
  f301 := Try.func85.trans (congrArg some (by kernel_rfl))
  f328 := Try.func89.trans (congrArg some (by kernel_rfl))
  f329 := Try.func90.trans (congrArg some (by kernel_rfl))
  f330 := Try.func91.trans (congrArg some (by kernel_rfl))
  f331 := Try.func92.trans (congrArg some (by kernel_rfl))
  f332 := Try.func93.trans (congrArg some (by kernel_rfl))
  f343 := Try.func95.trans (congrArg some (by kernel_rfl))
  t0 := Try.underlying0
  a0 := Try.isAgg0
  z0 := Try.sizeOf0
  v0 := Try.zeroValue0
  t3 := Try.underlying3
  a3 := Try.isAgg3
  z3 := Try.sizeOf3
  v3 := Try.zeroValue3
  t4 := Try.underlying4
  a4 := Try.isAgg4
  z4 := Try.sizeOf4
  v4 := Try.zeroValue4
  t5 := Try.underlying5
  a5 := Try.isAgg5
  z5 := Try.sizeOf5
  v5 := Try.zeroValue5
  t9 := Try.underlying9
  a9 := Try.isAgg9
  z9 := Try.sizeOf9
  v9 := Try.zeroValue9
  t28 := Try.underlying23
  a28 := Try.isAgg23
  z28 := Try.sizeOf23
  v28 := Try.zeroValue23
  t46 := Try.underlying107
  a46 := Try.isAgg107
  z46 := Try.sizeOf107
  v46 := Try.zeroValue107
  t51 := Try.underlying118
  a51 := Try.isAgg118
  z51 := Try.sizeOf118
  v51 := Try.zeroValue118
  t53 := Try.underlying120
  a53 := Try.isAgg120
  z53 := Try.sizeOf120
  v53 := Try.zeroValue120
  t131 := Try.underlying115
  a131 := Try.isAgg115
  z131 := Try.sizeOf115
  v131 := Try.zeroValue115
  t182 := Try.underlying110
  a182 := Try.isAgg110
  z182 := Try.sizeOf110
  v182 := Try.zeroValue110
  t183 := Try.underlying111
  a183 := Try.isAgg111
  z183 := Try.sizeOf111
  v183 := Try.zeroValue111
  t218 := Try.underlying122
  a218 := Try.isAgg122
  z218 := Try.sizeOf122
  v218 := Try.zeroValue122
  t222 := Try.underlying126
  a222 := Try.isAgg126
  z222 := Try.sizeOf126
  v222 := Try.zeroValue126
  t228 := Try.underlying128
  a228 := Try.isAgg128
  z228 := Try.sizeOf128
  v228 := Try.zeroValue128
  t229 := Try.underlying129
  a229 := Try.isAgg129
  z229 := Try.sizeOf129
  v229 := Try.zeroValue129 }
open Go.Sort Go.RowKit in
theorem sh_slices_Sort_int (blk off cap : Nat) (zs : List Int) (w : World) (hH : Holds (Value.int .i64) w blk off zs.toArray) (hblk : blk < w.heap.size) (hsz : zs.length < 4611686018427387904) :
    Calls Try.prog 56 #[.slice (some ⟨blk, off, none⟩) zs.length cap] w fun e w' =>
      e = .returned (.tuple #[]) ∧ ∃ n os, w' = grow (putRow (Value.int .i64) (Sort.ahead w n) blk off (zs.mergeSort fun x y => decide (x ≤ y)).toArray) os := Any.slices_Sort_int sh_lays189 blk off cap zs w hH hblk hsz
def sh_lays111_ren : Go.Shelf.Ren := ⟨fun | 111 => 58 | n => n, fun | 28 => 23 | 3 => 3 | 4 => 4 | 0 => 0 | n => n, fun | n => n⟩
theorem sh_lays111 : Go.Proofs.Lays.n111 Try.prog sh_lays111_ren := {
  mixed := by kernel_rfl
  f111 := Try.func58.trans (congrArg some (by kernel_rfl))
  t0 := Try.underlying0
  a0 := Try.isAgg0
  z0 := Try.sizeOf0
  v0 := Try.zeroValue0
  t3 := Try.underlying3
  a3 := Try.isAgg3
  z3 := Try.sizeOf3
  v3 := Try.zeroValue3
  t4 := Try.underlying4
  a4 := Try.isAgg4
  z4 := Try.sizeOf4
  v4 := Try.zeroValue4
  t28 := Try.underlying23
  a28 := Try.isAgg23
  z28 := Try.sizeOf23
  v28 := Try.zeroValue23 }
open Go.RowKit Go.Lib in
/-- slices.Equal at []int: "Equal reports whether two slices are equal: the same length and all elements equal. If the lengths are different, Equal returns false. Otherwise, the elements are compared in increasing index order, and the comparison stops at the first unequal pair. Empty and nil slices are considered equal.": IT RETURNS WHETHER THE TWO LISTS OF ELEMENTS ARE ONE; the world is as it was but for the count of draws (the test 's1[i] != s2[i]' has two reads, whose order the model draws, once a round). 'xs', 'ys': what the cells behind the two addresses hold (the spare capacity too, if you have it); 'xs.take n', 'ys.take m': the elements. THE TWO SLICES MAY OVERLAP. (LAID: no walk: one application.) -/
theorem sh_slices_Equal_int (b1 o1 n c b2 o2 m d : Nat) (xs ys : List Int) (w : World) (hx : n ≤ xs.length) (hy : m ≤ ys.length) (hbig : n ≤ 9223372036854775807) (hbig2 : m ≤ 9223372036854775807) (hc1 : ∀ j, j < xs.length → w.cell? ⟨b1, o1 + j, none⟩ = some (.int .i64 (xs.getD j 0))) (hc2 : ∀ j, j < ys.length → w.cell? ⟨b2, o2 + j, none⟩ = some (.int .i64 (ys.getD j 0))) :
    Calls Try.prog 58 #[.slice (some ⟨b1, o1, none⟩) n c, .slice (some ⟨b2, o2, none⟩) m d] w fun e w' => e = .returned (.bool (xs.take n == ys.take m)) ∧ ∃ q, w' = w.drewN q := Any.slices_Equal_int sh_lays111 b1 o1 n c b2 o2 m d xs ys w hx hy hbig hbig2 hc1 hc2
open Go.RowKit Go.Lib in
/-- The same where the first is of length 0 (a nil one too): no cell is asked for. (LAID: no walk: one application.) -/
theorem sh_slices_Equal_int_empty (a1 a2 : Option Addr) (c m d : Nat) (w : World) (hbig2 : m ≤ 9223372036854775807) :
    Calls Try.prog 58 #[.slice a1 0 c, .slice a2 m d] w fun e w' => e = .returned (.bool (decide (m = 0))) ∧ w' = w := Any.slices_Equal_int_empty sh_lays111 a1 a2 c m d w hbig2
def sh_laysNm220_ren : Go.Shelf.Ren := ⟨fun | 20 => 63 | n => n, fun | 22 => 23 | 3 => 3 | 4 => 4 | 0 => 0 | n => n, fun | n => n⟩
theorem sh_laysNm220 : Go.Proofs.Lays2.n20 Try.prog sh_laysNm220_ren := {
  mixed := by kernel_rfl
  f20 := Try.func63.trans (congrArg some (by kernel_rfl))
  t0 := Try.underlying0
  a0 := Try.isAgg0
  z0 := Try.sizeOf0
  v0 := Try.zeroValue0
  t3 := Try.underlying3
  a3 := Try.isAgg3
  z3 := Try.sizeOf3
  v3 := Try.zeroValue3
  t4 := Try.underlying4
  a4 := Try.isAgg4
  z4 := Try.sizeOf4
  v4 := Try.zeroValue4
  t22 := Try.underlying23
  a22 := Try.isAgg23
  z22 := Try.sizeOf23
  v22 := Try.zeroValue23
  i3 := by kernel_rfl }
open Go.RowKit Go.Lib Go.Sort in
/-- slices.Compact at []int: "Compact replaces consecutive runs of equal elements with a single copy. This is like the uniq command found on Unix. Compact modifies the contents of the slice s and returns the modified slice, which may have a smaller length. Compact zeroes the elements between the new length and the original length. The result preserves the nilness of s.": IT RETURNS THE SLICE CUT TO 'Lib.compact zs'; ITS CELLS HOLD 'Lib.compact zs', THEN ZERO VALUES up to the old length; all else is as it was, but for the count of draws. IN THE WORDS OF slices.Sort's CONTRACT ('Holds', 'putRow'): so the everyday 'slices.Sort(xs); xs = slices.Compact(xs)' goes from the one contract to the other. It asks 'zs.length ≤ cap' (every slice's: the reslicing 's[:k]' looks at it). Length 0, nil: '.._empty'. (LAID: no walk: one application.) -/
theorem sh_slices_Compact_int (blk off cap : Nat) (zs : List Int) (w : World) (hH : Holds (Value.int .i64) w blk off zs.toArray) (hsz : zs.length ≤ 9223372036854775807) (hcap : zs.length ≤ cap) :
    Calls Try.prog 63 #[.slice (some ⟨blk, off, none⟩) zs.length cap] w fun e w' => e = .returned (.slice (some ⟨blk, off, none⟩) (Lib.compact zs).length cap) ∧ ∃ q, w' = putRow (Value.int .i64) (Sort.ahead w q) blk off (Lib.compact zs ++ List.replicate (zs.length - (Lib.compact zs).length) 0).toArray := Any.slices_Compact_int sh_laysNm220 blk off cap zs w hH hsz hcap
open Go.RowKit Go.Lib Go.Sort in
/-- The same at a slice of length 0, a nil one too: it comes back as it is. (LAID: no walk: one application.) -/
theorem sh_slices_Compact_int_empty (a : Option Addr) (cap : Nat) (w : World) :
    Calls Try.prog 63 #[.slice a 0 cap] w fun e w' => e = .returned (.slice a 0 cap) ∧ w' = w := Any.slices_Compact_int_empty sh_laysNm220 a cap w
open Go.RowKit Go.Sort in
/-- .. and plain. (LAID: no walk: one application.) -/
theorem sh_slices_Sort_int_none (p : Option Addr) (cap : Nat) (w : World) :
    Calls Try.prog 56 #[.slice p 0 cap] w fun e w' => e = .returned (.tuple #[]) ∧ w' = w := Any.slices_Sort_int_none sh_lays189 p cap w
open Go.RowKit Go.Lib in
theorem sh_slices_Equal_int_lens (a1 a2 : Option Addr) (n c m d : Nat) (w : World) (hnm : n ≠ m) :
    Calls Try.prog 58 #[.slice a1 n c, .slice a2 m d] w fun e w' => e = .returned (.bool false) ∧ w' = w := Any.slices_Equal_int_lens sh_lays111 a1 a2 n c m d w hnm
end
end Go.Proofs.Ytofobmgmgipomaa
