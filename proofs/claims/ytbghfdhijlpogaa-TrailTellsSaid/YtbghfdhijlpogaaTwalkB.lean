/-
  Walks: slices.Clone, Index, Contains, Reverse; the trail's New.
-/
import Derived.Test.YtbghfdhijlpogaaTwalkA
namespace Go.Proofs.Ytbghfdhijlpogaa
open Go.RowKit

theorem zero_int (w : World) : (zeroValue 3).run Try.prog w = .ok (.int .i64 0) w := by kernel_rfl
theorem info_int : (Try.prog.info? 3).map (fun i => (i.zero, i.size, i.bytes)) = some (some (.int .i64 0), 1, 8) := by kernel_rfl
theorem eql_ints_nil (w : World) (a : Option Addr) (n c : Nat) : (binOp .eql 26 (.slice a n c) (.slice none 0 0)).run Try.prog w = .ok (.bool a.isNone) w := Lib.run_eql_slice_nil w _ _ a n c 0 0 Try.underlying26
attribute [go_sem] eql_ints_nil

/-- append onto a slice of ints of the call's own. -/
theorem wp_append_ints {o : Oper} {a : Act} {w : World} {K : Act → World → Prop} {Q : Exit → Act → World → Prop} (s x : Operand)
    (ho : o.op = .call { callee := .builtin .append, args := #[s, x], argTypes := #[26, 26] }) {F G : Nat → Prop} {v u : Value} {n m : Nat} {xs ys : List Value}
    (hv : Own w F 3 1 v n xs) (hu : Rd w G 1 u m ys) (hs : a.eval s = v) (hx : a.eval x = u) (h1 : ∀ u ∈ ys, u.oneCell' = true) (hb : n + m ≤ 17592186044416)
    (hK : ∀ A c w', Own w' (fun b => F b ∨ w.heap.size ≤ b) 3 1 (.slice A (n + m) c) (n + m) (xs ++ ys) → Mod (row v) w w' → (∀ b, row (.slice A (n + m) c) b → row v b ∨ w.heap.size ≤ b) → K (a.put o.dst (.slice A (n + m) c)) w') : o.wp Try.prog a w K Q := by
  obtain ⟨i0, hi, hz0, hz1, hz2⟩ := info_parts info_int
  obtain ⟨v', w', hr, h2, h3, h4⟩ := run_append_rd (P := Try.prog) 26 o.type i0 (.int .i64 0) 8 Try.underlying26 hi hz0 hz1 hz2 rfl (by decide) hv hu h1 (by unfold maxLen; omega) (by omega)
  unfold Oper.wp execOp
  simp only [ho, resolve, invoke, builtin, Sem.run_bind, Sem.run_pure, Result.andThen_ok, List.map_toArray, List.map_cons, List.map_nil, hs, hx, hr]
  obtain ⟨A, c, rfl, _⟩ := h2.form
  exact hK A c w' h2 h3 h4
theorem wpList_append_ints {ops : Array Oper} {rest : List Oper} {o : Oper} {a : Act} {w : World} {Q : Exit → Act → World → Prop} (hgd : o.guard = none) (s x : Operand)
    (ho : o.op = .call { callee := .builtin .append, args := #[s, x], argTypes := #[26, 26] }) {F G : Nat → Prop} {v u : Value} {n m : Nat} {xs ys : List Value}
    (hv : Own w F 3 1 v n xs) (hu : Rd w G 1 u m ys) (hs : a.eval s = v) (hx : a.eval x = u) (h1 : ∀ u ∈ ys, u.oneCell' = true) (hb : n + m ≤ 17592186044416)
    (hK : ∀ A c w', Own w' (fun b => F b ∨ w.heap.size ≤ b) 3 1 (.slice A (n + m) c) (n + m) (xs ++ ys) → Mod (row v) w w' → (∀ b, row (.slice A (n + m) c) b → row v b ∨ w.heap.size ≤ b) → wpList Try.prog ops Q rest (a.put o.dst (.slice A (n + m) c)) w') :
    wpList Try.prog ops Q (o :: rest) a w :=
  wpList_plain hgd fun _ hK' => wp_append_ints s x ho hv hu hs hx h1 hb fun A c w' h2 h3 h4 => hK' _ _ (hK A c w' h2 h3 h4)
/-- .. in a region that draws. -/
theorem step_append_ints {ops : Array Oper} {o : Oper} {a : Act} {w : World} {K : Act → World → Prop} {Q : Exit → Act → World → Prop} {E : Prop} (hgd : o.guard = none) (s x : Operand)
    (ho : o.op = .call { callee := .builtin .append, args := #[s, x], argTypes := #[26, 26] }) {F G : Nat → Prop} {v u : Value} {n m : Nat} {xs ys : List Value}
    (hv : Own w F 3 1 v n xs) (hu : Rd w G 1 u m ys) (hs : a.eval s = v) (hx : a.eval x = u) (h1 : ∀ u ∈ ys, u.oneCell' = true) (hb : n + m ≤ 17592186044416)
    (hK : ∀ A c w', Own w' (fun b => F b ∨ w.heap.size ≤ b) 3 1 (.slice A (n + m) c) (n + m) (xs ++ ys) → Mod (row v) w w' → (∀ b, row (.slice A (n + m) c) b → row v b ∨ w.heap.size ≤ b) → K (a.put o.dst (.slice A (n + m) c)) w') :
    if Region.wanted o (yielded ops a.tmps) = true then Oper.wp Try.prog o a w K Q else E := by
  have hw : Region.wanted o (yielded ops a.tmps) = true := by simp [Region.wanted, hgd]
  rw [if_pos hw]
  exact wp_append_ints s x ho hv hu hs hx h1 hb hK

set_option maxHeartbeats 400000 in
/-- slices.Clone: a copy in new memory. -/
theorem clone_any {w : World} {F : Nat → Prop} {v : Value} {n : Nat} {xs : List Int} (hv : Rd w F 1 v n (ints xs)) (hn : n ≤ 17592186044416) :
    Calls Try.prog 31 #[v] w fun r w' => (∃ u, r = .returned u ∧ Own w' (fun b => w.heap.size ≤ b) 3 1 u n (ints xs)) ∧ Below w.heap.size w w' := by
  have hv0 := hv
  obtain ⟨hl, A, c, rfl, hc, hm, hA⟩ := hv
  cases A with
  | none =>
    have hn0 : n = 0 := by
      rcases Nat.eq_zero_or_pos n with h | h
      · exact h
      · obtain ⟨_, _, h, _⟩ := hA h; cases h
    subst hn0
    have hx : ints xs = [] := List.eq_nil_of_length_eq_zero (by simpa using hl)
    rw [hx]
    clear hA hl hx hv0
    go_enter Try.func31, Try.ntmps31
    go_wp2
    go_ret
    exact ⟨⟨_, rfl, Own.nil _ _ _ _⟩, Below.refl _ _⟩
  | some a =>
    clear hA
    have Hv := hid hv0
    have Hl := hid hl
    clear hv0 hl
    go_enter Try.func31, Try.ntmps31
    go_wp2_with (at_builtin; refine wpList_append_ints rfl _ _ rfl (Own.none_ _ (fun _ => False) _ _ _) (Hv.out.below ((Below.refl _ _).alloc (Nat.le_refl _) _)) rfl rfl (ints_one xs) (by omega) ?_; intro A1 c1 w1 ho1 hm1 hr1)
    go_ret
    rw [row_none] at hm1
    simp only [Nat.zero_add, List.nil_append] at ho1
    exact ⟨⟨_, rfl, ho1.mono fun g _ _ h => by
      rcases h with h | h
      · exact h.elim
      · simp at h; omega⟩, ((Below.refl _ _).alloc (Nat.le_refl _) _).trans (hm1.below.mono (by simp))⟩

theorem Rd.cell {w : World} {F : Nat → Prop} {A : Option Addr} {n c : Nat} {xs : List Int} (h : Rd w F 1 (.slice A n c) n (ints xs)) : xs.length = n ∧
    ∀ k, k < n → ∃ g o, A = some ⟨g, o, none⟩ ∧ F g ∧ g < w.heap.size ∧ w.cell? ⟨g, o + k, none⟩ = some (.int .i64 (nth xs k)) := by
  obtain ⟨hl, A', c', hv, hc, hm, hA⟩ := h
  injection hv with h1 _ _
  subst h1
  have hln : xs.length = n := by simpa [ints_length] using hl
  refine ⟨hln, fun k hk => ?_⟩
  obtain ⟨g, o, h1, h2, h3, h4⟩ := hA (by omega)
  exact ⟨g, o, h1, h2, h3, h4 k _ (ints_nth (by omega))⟩

set_option maxHeartbeats 400000 in
/-- slices.Index: the first place of x, or -1. -/
theorem index_slice {w : World} {F : Nat → Prop} {v : Value} {n : Nat} {xs : List Int} {x : Int} (hv : Rd w F 1 v n (ints xs)) :
    Calls Try.prog 42 #[v, .int .i64 x] w fun r w' => r = .returned (.int .i64 (posB (x == ·) xs)) ∧ w = w' := by
  have hv0 := hv
  obtain ⟨hl, A, c, rfl, hc, hm, hA⟩ := hv
  obtain ⟨rfl, hcell⟩ := hv0.cell
  have hn : xs.length ≤ 9223372036854775807 := by unfold maxLen at hm; omega
  clear hl hm hA hv0
  go_enter Try.func42, Try.ntmps42
  go_wp2
  go_loop [8, 5] (fun i _ => ∃ k : Nat, k ≤ xs.length ∧ i = .int .i64 k ∧ ∀ y ∈ xs.take k, (x == y) = false) (fun i _ => xs.length - (intOf i).toNat)
  case atStart => exact ⟨0, Nat.zero_le _, rfl, by simp⟩
  case round =>
    obtain ⟨k, hk, rfl, hno⟩ := hrel
    have Hno := hid hno
    clear hno
    by_cases hlt : k < xs.length
    · obtain ⟨g, o, rfl, _, _, hcl⟩ := hcell k hlt
      clear hcell
      cases hq : (x == nth xs k)
      · go_wp2
        go_round
        case rel => exact ⟨k + 1, by omega, by go_num, fun y hy => by
          rw [take_nth hlt] at hy
          rcases List.mem_append.1 hy with hy | hy
          · exact Hno.out y hy
          · rw [List.mem_singleton.1 hy]; exact hq⟩
        case measure => simp [intOf]; omega
      · go_wp2
        go_ret
        rw [posB_at hlt Hno.out hq]
        exact ⟨rfl, rfl⟩
    · clear hcell
      have hall : xs.take k = xs := List.take_of_length_le (by omega)
      have H := Hno.out
      rw [hall] at H
      have Hn := hid (posB_none H)
      clear H hall
      go_wp2
      go_ret
      rw [Hn.out]
      exact ⟨rfl, rfl⟩
set_option maxHeartbeats 400000 in
/-- slices.Contains. -/
theorem contains_any {w : World} {F : Nat → Prop} {v : Value} {n : Nat} {xs : List Int} {x : Int} (hv : Rd w F 1 v n (ints xs)) :
    Calls Try.prog 36 #[v, .int .i64 x] w fun r w' => r = .returned (.bool (xs.any (x == ·))) ∧ w = w' := by
  have He : Hid (decide (0 ≤ posB (x == ·) xs) = xs.any (x == ·)) := hid posB_ge
  have Hv := hid hv
  clear hv
  go_enter Try.func36, Try.ntmps36
  go_wp2_with (go_at_call 42; refine (index_slice Hv.out).mono ?_; rintro r w1 ⟨rfl, rfl⟩)
  go_ret
  rw [← He.out]
  exact ⟨rfl, rfl⟩
end Go.Proofs.Ytbghfdhijlpogaa
