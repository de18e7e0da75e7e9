/-
  Chapter 24: slices.Values, AppendSeq, Collect, Sorted on integers.
-/
import Derived.Test.YtooioikkgdgnnaaDoorPbH
import Derived.Test.YtooioikkgdgnnaaDoorPbK
import Derived.Sort.OwnSortedInts
namespace Go.Proofs.YtooioikkgdgnnaaDoor
open Go.RowKit Go.Shelf
attribute [local go_sem] Oper.semAt_some

set_option maxRecDepth 100000 in
set_option maxHeartbeats 2000000 in
/-- Values' closure. -/
theorem values1_in (N l Bn n₀ : Nat) (hN : 1 ≤ N) {n cn : Nat} {A : Option Addr} {xs : List Int} {F : Nat → Prop} (hn : 0 < n) (hF : ∀ g, F g → g < n₀) (J Jx : List (Fin n) → World → Prop)
    (hY : ∀ pre x W, J pre W → pre.length < n → YieldAt Fence.wide (N - 1) Tryd.prog l #[.int .i64 (nth xs x.val)] W fun e W' =>
      (e = .returned (.bool true) ∧ J (pre ++ [x]) W' ∧ KpB n₀ Bn W W') ∨ (e = .returned (.bool false) ∧ Jx (pre ++ [x]) W'))
    (W : World) (c0 : W.cell? ⟨Bn, 0, none⟩ = some (.slice A n cn)) (hx : Rd W F 1 (.slice A n cn) n (ints xs)) (h0 : J [] W) :
    CallsIn Fence.wide N Tryd.prog 84 #[.func (.yield l) #[] #[], .pointer (some ⟨Bn, 0, none⟩)] W fun e W' => (∃ v, e = .returned v) ∧
      ((∃ ys, ys = uptoN (place n hn) n ∧ J ys W') ∨ (∃ pre, (∃ k, k ≤ n ∧ pre = uptoN (place n hn) k) ∧ Jx pre W')) := by
  have hnb : n ≤ 9223372036854775807 := by
    have := hx.len
    unfold maxLen at this
    omega
  have hxl : xs.length = n := by have := hx.1; simpa [ints_length] using this
  refine callsIn_of_wp Tryd.func84 rfl trivial ?_ rfl
  simp only [Tryd.ntmps84, List.size_toArray, List.length_cons, List.length_nil, Nat.reduceAdd, Nat.reduceSub, Array.replicate_succ, Array.replicate_zero, List.push_toArray, List.append_toArray, List.nil_append, List.cons_append]
  gi_wp2
  gi_loopw [7] (fun i wr => ∃ k : Nat, k ≤ n ∧ i = .int .i64 k ∧ J (uptoN (place n hn) k) wr ∧ KpB n₀ Bn W wr)
    (fun i _ => n - (intOf i).toNat)
  case atStart => exact ⟨0, Nat.zero_le _, rfl, h0, KpB.refl _ _ _⟩
  case round =>
    obtain ⟨k, hk', rfl, hJs, hnx⟩ := hrel
    by_cases hlt : k < n
    · obtain ⟨g, o, rfl, hgF, hg, e0⟩ := hx.cell.2 k hlt
      have d0 := (hnx.1.cell (p := ⟨g, o + k, none⟩) (hF g hgF)).trans e0
      obtain ⟨fn, tmps, assign, body, hy, hR⟩ := hY _ (place n hn k) wr hJs (by rw [uptoN_length]; exact hlt)
      rw [place_val hn hlt] at hy
      have hik : (k : Int) < (n : Int) := by omega
      gi_wp2
      refine hR.mono ?_
      rintro e W3 (⟨rfl, hJ3, hk3⟩ | ⟨rfl, hJx3⟩)
      · gi_wp2
        go_roundw
        case rel => exact ⟨k + 1, by omega, by simp, by rw [uptoN_succ]; exact hJ3, hnx.trans hk3⟩
        case measure => simp [intOf]; omega
      · gi_wp2
        refine bodyPost_ret (results_none rfl _ _ _) rfl ?_
        exact ⟨⟨_, rfl⟩, .inr ⟨_, ⟨k + 1, by omega, (uptoN_succ _ _).symm⟩, hJx3⟩⟩
    · obtain rfl : k = n := by omega
      gi_wp2
      go_end0
      exact ⟨⟨_, rfl⟩, .inl ⟨_, rfl, hJs⟩⟩
set_option maxRecDepth 100000 in
set_option maxHeartbeats 1000000 in
theorem values1_none {N l Bn cn : Nat} {A : Option Addr} (J : World → Prop) (W : World) (c0 : W.cell? ⟨Bn, 0, none⟩ = some (.slice A 0 cn)) (h0 : J W) :
    CallsIn Fence.wide N Tryd.prog 84 #[.func (.yield l) #[] #[], .pointer (some ⟨Bn, 0, none⟩)] W fun e W' => (∃ v, e = .returned v) ∧ J W' := by
  refine callsIn_of_wp Tryd.func84 rfl trivial ?_ rfl
  simp only [Tryd.ntmps84, List.size_toArray, List.length_cons, List.length_nil, Nat.reduceAdd, Nat.reduceSub, Array.replicate_succ, Array.replicate_zero, List.push_toArray, List.append_toArray, List.nil_append, List.cons_append]
  gi_wp2
  gi_loopw [7] (fun i wr => i = .int .i64 0 ∧ J wr) (fun _ _ => 0)
  case atStart => exact ⟨rfl, h0⟩
  case round =>
    obtain ⟨rfl, hJs⟩ := hrel
    gi_wp2
    go_end0
    exact ⟨⟨_, rfl⟩, hJs⟩
theorem values_stops (N Bn n₀ : Nat) (hN : 1 ≤ N) {n cn : Nat} {A : Option Addr} {xs : List Int} {F : Nat → Prop} (hF : ∀ g, F g → g < n₀) (w : World)
    (c0 : w.cell? ⟨Bn, 0, none⟩ = some (.slice A n cn)) (hx : Rd w F 1 (.slice A n cn) n (ints xs)) :
    SeqStopsK Fence.wide N Tryd.prog 84 #[.pointer (some ⟨Bn, 0, none⟩)] (fun x : Fin n => #[.int .i64 (nth xs x.val)]) (KpB n₀ Bn) (SomeOf n n) (fun pre => ∃ k, k ≤ n ∧ SomeOf n k pre) n w := by
  intro l J Jx W hW _ _ hY h0
  have d0 := (hW.cell (World.block_lt_of_cell? w _ c0)).trans c0
  rcases Nat.eq_zero_or_pos n with e | e
  · subst e
    refine (values1_none (N := N) (J []) W d0 h0).mono ?_
    rintro e W' ⟨h1, h2⟩
    exact ⟨h1, .inl ⟨[], rfl, h2⟩⟩
  · refine (values1_in N l Bn n₀ hN e hF J Jx hY W d0 (hx.below hW) h0).mono ?_
    rintro e' W' ⟨h1, h2⟩
    refine ⟨h1, ?_⟩
    rcases h2 with ⟨ys, rfl, h3⟩ | ⟨pre, ⟨k, hk, rfl⟩, h3⟩
    · exact .inl ⟨_, uptoN_some e (Nat.le_refl _), h3⟩
    · exact .inr ⟨_, ⟨k, hk, uptoN_some e hk⟩, h3⟩
set_option maxRecDepth 100000 in
set_option maxHeartbeats 1000000 in
theorem values_in (N : Nat) (A : Option Addr) (n c : Nat) (w : World) :
    CallsIn Fence.wide N Tryd.prog 77 #[.slice A n c] w fun e w' => e = .returned (.func (.func 84) #[] #[.pointer (some ⟨w.heap.size, 0, none⟩)]) ∧ w' = w.alloc (.cells #[.slice A n c] 22) := by
  refine callsIn_of_wp Tryd.func77 rfl trivial ?_ rfl
  simp only [Tryd.ntmps77, List.size_toArray, List.length_cons, List.length_nil, Nat.reduceAdd, Nat.reduceSub, Array.replicate_succ, Array.replicate_zero, List.push_toArray, List.append_toArray, List.nil_append, List.cons_append]
  gi_wp2
  go_ret
  exact ⟨rfl, rfl⟩

/-- The elements at the places js. -/
def atAll (xs : List Int) (js : List Nat) : List Int := js.map (nth xs)
theorem atAll_snoc (xs : List Int) (js : List Nat) (j : Nat) : atAll xs (js ++ [j]) = atAll xs js ++ [nth xs j] := by simp [atAll]
theorem atAll_len (xs : List Int) (js : List Nat) : (atAll xs js).length = js.length := by simp [atAll]
theorem atAll_range (xs : List Int) : atAll xs (List.range xs.length) = xs := by
  apply List.ext_getElem
  · simp [atAll]
  · intro i h1 h2
    simp only [atAll, List.getElem_map, List.getElem_range]
    exact nth_eq h2

set_option maxRecDepth 100000 in
set_option maxHeartbeats 2000000 in
/-- AppendSeq(nil, Values(s)): a copy. -/
theorem appendSeq_any {w : World} {F : Nat → Prop} {A : Option Addr} {n cn Bn : Nat} {xs : List Int} (c0 : w.cell? ⟨Bn, 0, none⟩ = some (.slice A n cn)) (hx : Rd w F 1 (.slice A n cn) n (ints xs)) (hn : n ≤ 1000000) :
    Calls Tryd.prog 98 #[.slice none 0 0, .func (.func 84) #[] #[.pointer (some ⟨Bn, 0, none⟩)]] w fun r w' => (∃ R cc, r = .returned (.slice R n cc) ∧ Own w' (fun g => w.heap.size ≤ g) 3 1 (.slice R n cc) n (ints xs)) ∧ Below w.heap.size w w' := by
  have hxl : xs.length = n := by have := hx.1; simpa [ints_length] using this
  have hBn : Bn < w.heap.size := World.block_lt_of_cell? w _ c0
  refine callsIn_wide (n := 5).1 ?_
  refine callsIn_of_wp_marks Tryd.func98 rfl trivial ?_ rfl
  simp only [Tryd.ntmps98, List.size_toArray, List.length_cons, List.length_nil, Nat.reduceAdd, Nat.reduceSub, Array.replicate_succ, Array.replicate_zero, List.push_toArray, List.append_toArray, List.nil_append, List.cons_append]
  gi_wp2_with fail
  obtain ⟨Ob, hOb⟩ : ∃ b, w.heap.size = b := ⟨_, rfl⟩
  have bA : Below w.heap.size w (w.alloc (.cells #[.slice none 0 0] 22)) := (Below.refl _ _).alloc (Nat.le_refl _) _
  obtain ⟨W3, hW3⟩ : ∃ W, w.alloc (.cells #[.slice none 0 0] 22) = W := ⟨_, rfl⟩
  have h6 : Bx W3 w.heap.size (.slice none 0 0) := by rw [← hW3]; exact Bx.of_block (heap_alloc_new _ _)
  have y1 : W3.heap.size = w.heap.size + 1 := by rw [← hW3, World.size_alloc]
  have d0 := keep_cell c0 (hW3 ▸ bA : Below w.heap.size w W3)
  have hx3 := (hx.mono (G := fun g => g < w.heap.size) fun g hg _ => hg).below (hW3 ▸ bA : Below w.heap.size w W3)
  rw [hW3] at bA ⊢
  rw [hOb] at h6 y1 hBn hx3 ⊢
  clear hW3
  refine' wpIn_rangeFunc_ownF (α := Fin n) rfl (by omega) (gf := 84) (lb := #[.pointer (some ⟨Bn, 0, none⟩)]) rfl trivial (enters_of Tryd.func84 (by kernel_rfl) rfl)
    (values_stops 4 Bn Ob (by omega) (F := fun g => g < Ob) (fun g hg => hg) W3 d0 hx3) (fun h k => h.trans k) (kpb_b (by omega) (by omega)) (Below.refl _ _) (fun _ => rfl)
    (fun pre W => ((∃ R cc, Bx W Ob (.slice R (atAll xs (pre.map Fin.val)).length cc) ∧ Own W (fun g => Ob < g) 3 1 (.slice R (atAll xs (pre.map Fin.val)).length cc) (atAll xs (pre.map Fin.val)).length (ints (atAll xs (pre.map Fin.val)))) ∧ Ob < W.heap.size) ∧ Below Ob w W)
    (fun _ _ _ => False)
    (OwnFrom.and (Own.from (fun s A B row hs hg hr => ⟨by obtain ⟨R, cc, x1, x2⟩ := hs.1; exact ⟨R, cc, x1.kept hg hr, x2.kept hg hr⟩, Nat.lt_of_lt_of_le hs.2 hg.size⟩) _) (ownFrom_below (by omega) (by omega)))
    (fun _ _ _ _ _ hs _ _ => hs)
    ⟨⟨⟨none, 0, h6, Own.nil _ _ _ _⟩, by omega⟩, (hOb ▸ bA : Below Ob w W3)⟩ _ ?assign ?body ?done ?stop
  case assign =>
    intro l x W K hK
    gi_wp2
    exact hK
  case body =>
    rintro l pre x W ⟨⟨⟨R, cc, e6, hown⟩, hBW⟩, hB⟩ hpre
    have hps := atAll_snoc xs (pre.map Fin.val) x.val
    have hmp : (pre ++ [x]).map Fin.val = pre.map Fin.val ++ [x.val] := by simp
    rw [← hmp] at hps
    have hlen := Nat.le_of_eq (atAll_len xs (pre.map Fin.val))
    rw [List.length_map] at hlen
    obtain ⟨us, hus⟩ : ∃ us, atAll xs (pre.map Fin.val) = us := ⟨_, rfl⟩
    obtain ⟨li, hli⟩ : ∃ l, nth xs x.val = l := ⟨_, rfl⟩
    rw [hus] at e6 hown hps hlen
    rw [hli] at hps ⊢
    have Hps := hid hps
    have HB := hid hB
    have e6c := e6.1
    have Hown := hid hown
    clear hps hmp hus hli hB hown
    gi_wp2_with (gi_at_builtin; refine wpListIn_append_ints rfl _ _ rfl (Hown.out.below ((Below.refl _ _).alloc (Nat.le_refl _) _)) (own_one W (.int .i64 li)).rd rfl rfl (by simp [Value.oneCell']) (by omega) ?_; intro Av cv w5 ho5 hm5 hr5; have bx5 : Bx w5 Ob _ := (e6.alloc _).mod hm5 (fun hr => by have := (Hown.out.row hr).1; omega); have bx5c := bx5.1; have bx5f := bx5.2)
    have hnr : ∀ g, row (.slice R us.length cc) g → Ob < g := fun g hg => (Hown.out.row hg).1
    have m6 := (Mod.refl (fun k => k = Ob) w5).setCell (p := ⟨Ob, 0, none⟩) (.inl rfl) (.slice Av (us.length + 1) cv)
    have hs5 := hm5.size
    rw [World.size_alloc] at hs5
    have hs6 := m6.size
    refine ⟨((KeepsOthers.alloc W _).trans (keeps_append (Hown.out.below ((Below.refl _ _).alloc (Nat.le_refl _) _)) hm5)).trans (KeepsOthers.setCell _ _ _),
      (((KpB.refl _ _ _).alloc _ (by omega) (by omega)).mod hm5 (by rw [World.size_alloc]; omega) (by rw [World.size_alloc]; omega) (fun g hg => by have := hnr g hg; omega) (fun hg => by have := hnr _ hg; omega)).set (by omega) (by omega) _,
      ⟨⟨Av, cv, ?_, ?_⟩, by omega⟩,
      (below_mod (HB.out.alloc (by omega) _) (by rw [World.size_alloc]; omega) hm5 fun g hg => by have := hnr g hg; omega).setCell (p := ⟨Ob, 0, none⟩) (Nat.le_refl _) _⟩
    · rw [Hps.out, List.length_append]
      exact Bx.put bx5 _
    · rw [Hps.out, ints_append, List.length_append]
      exact (ho5.mono fun g _ _ hg => hg.elim id fun h => by rw [World.size_alloc] at h; omega).mod m6 fun g _ _ hF e => by omega
  case done =>
    rintro D ys W hD hys ⟨⟨⟨R, cc, e6, hown⟩, hBW⟩, hB⟩ hK
    unfold SomeOf at hys
    rw [hys, ← hxl, atAll_range] at e6 hown
    rw [hxl] at e6 hown
    have e6c := e6.1
    have Hown := hid hown
    clear hown
    gi_wp2
    refine ⟨by simp, .inl ⟨_, _, rfl, run_takeDeferred hK, ?_⟩⟩
    exact ⟨_, results_tmp rfl _ _ _, ⟨R, cc, rfl, (Hown.out.kept (grownBy_putObj' W D _) fun r e => by cases e; exact ⟨_, hK, rfl⟩).mono fun g _ _ hg => by omega⟩, by (try rw [hOb]); exact hB.trans (belowK_b (w := w) (by omega) W D _ _ (by omega) hK rfl rfl)⟩
  case stop =>
    rintro D co pre W _ _ h _
    exact h.elim

theorem Own.sorted {w : World} {F : Nat → Prop} {n c m : Nat} {xs : List Value} {g : Nat} (ho : Own w F 3 1 (.slice (some ⟨g, 0, none⟩) n c) n xs) (ts : List Int) (hl : ts.length = n) (os : Array Obj) :
    Own (Go.Sort.grow (Go.Sort.putRow (Value.int .i64) (Go.Sort.ahead w m) g 0 ts.toArray) os) F 3 1 (.slice (some ⟨g, 0, none⟩) n c) n (ints ts) := by
  obtain ⟨h1, h2⟩ := ho
  refine ⟨by rw [ints_length, hl]; omega, ?_⟩
  rcases h2 with ⟨A, hv, rfl⟩ | ⟨g', cap, cur, hv, hp, hF, hg, hn, hm, hs, ht⟩
  · exact .inl ⟨A, hv, rfl⟩
  · injection hv with e1 _ e3
    injection e1 with e1
    injection e1 with e1
    subst e1 e3
    refine .inr ⟨g, c, _, rfl, hp, hF, heap_sortedI _ hg, hn, hm, by simpa [Go.Sort.putCells] using hs, ?_⟩
    have := take_putCellsI cur ts (by omega)
    rw [hl] at this
    rw [Nat.mul_one, this]
    rfl
theorem holds_own {w : World} {F : Nat → Prop} {n c g : Nat} {xs : List Int} (ho : Own w F 3 1 (.slice (some ⟨g, 0, none⟩) n c) n (ints xs)) : Go.Sort.Holds (Value.int .i64) w g 0 xs.toArray := by
  have hl : xs.length = n := by have := ho.1; simpa [ints_length] using this
  intro j hj
  have hj' : j < xs.length := by simpa using hj
  obtain ⟨g', e1, _, _, hc, hf⟩ := ho.cell (j := j) (by omega)
  injection e1 with e1
  injection e1 with e1
  subst e1
  rw [Nat.zero_add]
  refine ⟨?_, hf⟩
  rw [hc, ints_nth hj', nth_eq hj', getElem!_pos xs.toArray j hj]
  rfl
theorem sort_own {w : World} {F : Nat → Prop} {R : Option Addr} {n c : Nat} {xs : List Int} (ho : Own w F 3 1 (.slice R n c) n (ints xs)) (hn : n ≤ 1000000) :
    Calls Tryd.prog 64 #[.slice R n c] w fun r w' => r = .returned (.tuple #[]) ∧ Own w' F 3 1 (.slice R n c) n (ints (sortL xs)) ∧ Mod (row (.slice R n c)) w w' := by
  have hl : xs.length = n := by have := ho.1; simpa [ints_length] using this
  rcases Nat.eq_zero_or_pos n with e | e
  · subst e
    refine (sh_slices_Sort_int_none R c w).mono ?_
    rintro r w' ⟨rfl, rfl⟩
    have hx : xs = [] := List.length_eq_zero_iff.1 hl
    subst hx
    exact ⟨rfl, by rw [show sortL [] = [] by simp [sortL]]; exact ho, Mod.refl _ _⟩
  · obtain ⟨R', c', hv, hle, hmx, hg⟩ := ho.form
    injection hv with hv1 _ hv3
    subst hv1 hv3
    obtain ⟨g, rfl, hgF, hgl⟩ := hg (by omega)
    have hsi := sh_slices_Sort_int g 0 c xs w (holds_own ho) hgl (by omega)
    rw [hl] at hsi
    refine hsi.mono ?_
    rintro r w' ⟨rfl, m, os, rfl⟩
    have hlen : (sortL xs).length = n := by rw [(sortL_perm xs).length_eq, hl]
    have hm := sort_mod (Value.int .i64) w g 0 m (sortL xs).toArray os
    exact ⟨rfl, ho.sorted (sortL xs) hlen os, hm.mono fun k _ hk => ⟨by omega, hk.symm⟩⟩
def compactL (xs : List Int) : List Int := Lib.compact xs
theorem compact_any {w : World} {F : Nat → Prop} {R : Option Addr} {n c : Nat} {xs : List Int} (ho : Own w F 3 1 (.slice R n c) n (ints xs)) (hn : n ≤ 1000000) (hcl : (compactL xs).length ≤ n) :
    Calls Tryd.prog 75 #[.slice R n c] w fun r w' => r = .returned (.slice R (compactL xs).length c) ∧ Own w' F 3 1 (.slice R (compactL xs).length c) (compactL xs).length (ints (compactL xs)) ∧ Mod (row (.slice R n c)) w w' := by
  have hl : xs.length = n := by have := ho.1; simpa [ints_length] using this
  rcases Nat.eq_zero_or_pos n with e | e
  · subst e
    refine (sh_slices_Compact_int_empty R c w).mono ?_
    rintro r w' ⟨rfl, rfl⟩
    have hx : compactL xs = [] := List.length_eq_zero_iff.1 (by omega)
    have hx0 : xs = [] := List.length_eq_zero_iff.1 hl
    rw [hx]
    rw [hx0] at ho
    exact ⟨rfl, ho, Mod.refl _ _⟩
  · obtain ⟨R', c', hv, hle, hmx, hg⟩ := ho.form
    injection hv with hv1 _ hv3
    subst hv1 hv3
    obtain ⟨g, rfl, hgF, hgl⟩ := hg (by omega)
    have hsi := sh_slices_Compact_int g 0 c xs w (holds_own ho) (by omega) (by omega)
    rw [hl] at hsi
    refine hsi.mono ?_
    rintro r w' ⟨rfl, m, rfl⟩
    have hm := sort_mod (Value.int .i64) w g 0 m (compactL xs ++ List.replicate (n - (compactL xs).length) 0).toArray #[]
    have ho2 := ho.sorted (m := m) (compactL xs ++ List.replicate (n - (compactL xs).length) 0) (by rw [List.length_append, List.length_replicate]; omega) #[]
    have ho3 := ho2.take hcl
    rw [Nat.mul_one, ints_append, List.take_append_of_le_length (by rw [ints_length]; omega), List.take_of_length_le (by rw [ints_length]; omega)] at ho3
    have hgr : ∀ W : World, Go.Sort.grow W #[] = W := fun W => by simp [Go.Sort.grow]
    rw [hgr] at ho3
    unfold sortWorld at hm
    rw [hgr] at hm
    exact ⟨rfl, ho3, hm.mono fun k _ hk => ⟨by omega, hk.symm⟩⟩

set_option maxRecDepth 100000 in
/-- Sorted(Values(s)): a new slice, sorted. -/
theorem sorted_any {w : World} {F : Nat → Prop} {A : Option Addr} {n cn Bn : Nat} {xs : List Int} (c0 : w.cell? ⟨Bn, 0, none⟩ = some (.slice A n cn)) (hx : Rd w F 1 (.slice A n cn) n (ints xs)) (hn : n ≤ 1000000) :
    Calls Tryd.prog 76 #[.func (.func 84) #[] #[.pointer (some ⟨Bn, 0, none⟩)]] w fun r w' => (∃ R cc, r = .returned (.slice R n cc) ∧ Own w' (fun g => w.heap.size ≤ g) 3 1 (.slice R n cc) n (ints (sortL xs))) ∧ Below w.heap.size w w' := by
  have hcol : Calls Tryd.prog 83 #[.func (.func 84) #[] #[.pointer (some ⟨Bn, 0, none⟩)]] w fun r w' => (∃ R cc, r = .returned (.slice R n cc) ∧ Own w' (fun g => w.heap.size ≤ g) 3 1 (.slice R n cc) n (ints xs)) ∧ Below w.heap.size w w' := by
    go_enter Tryd.func83, Tryd.ntmps83
    go_wp2_with fail
    refine (appendSeq_any c0 hx hn).mono ?_
    rintro r w' ⟨⟨R, cc, rfl, ho⟩, hb⟩
    go_wp2_with fail
    go_ret
    exact ⟨⟨R, cc, rfl, ho⟩, hb⟩
  go_enter Tryd.func76, Tryd.ntmps76
  go_wp2_with fail
  refine hcol.mono ?_
  rintro r w2 ⟨⟨R, cc, rfl, ho⟩, hb⟩
  have Ho := hid ho
  have Hb := hid hb
  clear ho hb hcol
  go_wp2_with fail
  refine (sort_own Ho.out hn).mono ?_
  rintro r w3 ⟨rfl, ho3, hm3⟩
  have Ho3 := hid ho3
  have Hm3 := hid hm3
  clear ho3 hm3
  go_wp2_with fail
  go_ret
  exact ⟨⟨R, cc, rfl, Ho3.out⟩, below_mod Hb.out Hb.out.size Hm3.out fun g hg => (Ho.out.row hg).1⟩
end Go.Proofs.YtooioikkgdgnnaaDoor
