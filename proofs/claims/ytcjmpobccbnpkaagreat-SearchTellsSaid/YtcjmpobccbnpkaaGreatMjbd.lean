/-
 Chapter 32: several texts in one (PbM PbN PbU PbOpen PbOpen3).
-/
import Derived.Test.YtcjmpobccbnpkaaGreatMjas
import Derived.Test.YtcjmpobccbnpkaaGreatMjar
import Derived.Sort.OwnSortedInts
import Derived.Test.YtcjmpobccbnpkaaGreatMjau
import Derived.Deep.OwnRows
import Derived.Test.YtcjmpobccbnpkaaGreatMjaq
import Derived.Test.YtcjmpobccbnpkaaGreatMjao
import Derived.Deep.Strs
import Derived.ChangeSame
import Derived.ProofKit
import Derived.SizedLaws
import Derived.Deep.Matrix
namespace Go.Proofs.YtcjmpobccbnpkaaGreat
set_option maxRecDepth 100000
set_option maxHeartbeats 2000000
section
open Go.RowKit Go.Shelf
attribute [local go_sem] Oper.semAt_some
theorem values1_in (N l Bn n₀ : Nat) (hN : 1 ≤ N) {n cn : Nat} {A : Option Addr} {xs : List Int} {F : Nat → Prop} (hn : 0 < n) (hF : ∀ g, F g → g < n₀) (J Jx : List (Fin n) → World → Prop)
  (hY : ∀ pre x W, J pre W → pre.length < n → YieldAt Fence.wide (N - 1) Tryz.prog l #[.int .i64 (nth xs x.val)] W fun e W' =>
   (e = .returned (.bool true) ∧ J (pre ++ [x]) W' ∧ KpB n₀ Bn W W') ∨ (e = .returned (.bool false) ∧ Jx (pre ++ [x]) W'))
  (W : World) (c0 : W.cell? ⟨Bn, 0, none⟩ = some (.slice A n cn)) (hx : Rd W F 1 (.slice A n cn) n (ints xs)) (h0 : J [] W) :
  CallsIn Fence.wide N Tryz.prog 106 #[.func (.yield l) #[] #[], .pointer (some ⟨Bn, 0, none⟩)] W fun e W' => (∃ v, e = .returned v) ∧
   ((∃ ys, ys = uptoN (place n hn) n ∧ J ys W') ∨ (∃ pre, (∃ k, k ≤ n ∧ pre = uptoN (place n hn) k) ∧ Jx pre W')) := by
 have hnb : n ≤ 9223372036854775807 := by
  have := hx.len
  unfold maxLen at this
  omega
 have hxl : xs.length = n := by have := hx.1; simpa [ints_length] using this
 refine callsIn_of_wp Tryz.func106 rfl trivial ?_ rfl
 simp only [Tryz.ntmps106, List.size_toArray, List.length_cons, List.length_nil, Nat.reduceAdd, Nat.reduceSub, Array.replicate_succ, Array.replicate_zero, List.push_toArray, List.append_toArray, List.nil_append, List.cons_append]
 gi_wp2
 gi_loopw [7] (fun i wr => ∃ k : Nat, k ≤ n ∧ i = .int .i64 k ∧ J (uptoN (place n hn) k) wr ∧ KpB n₀ Bn W wr)
  (fun i _ => n - (intOf i).toNat)
 case atStart => exact ⟨0, Nat.zero_le _, rfl, h0, KpB.refl _ _ _⟩
 case round =>
  obtain ⟨k, hk', rfl, hJs, hnx⟩ := hrel
  by_cases hlt : k < n
  ·obtain ⟨g, o, rfl, hgF, hg, e0⟩ := hx.cell.2 k hlt
   have d0 := (hnx.1.cell (p := ⟨g, o + k, none⟩) (hF g hgF)).trans e0
   obtain ⟨fn, tmps, assign, body, hy, hR⟩ := hY _ (place n hn k) wr hJs (by rw [uptoN_length]; exact hlt)
   rw [place_val hn hlt] at hy
   have hik : (k : Int) < (n : Int) := by omega
   gi_wp2
   refine hR.mono ?_
   rintro e W3 (⟨rfl, hJ3, hk3⟩ | ⟨rfl, hJx3⟩)
   ·gi_wp2
    go_roundw
    case rel => exact ⟨k + 1, by omega, by simp, by rw [uptoN_succ]; exact hJ3, hnx.trans hk3⟩
    case measure => simp [intOf]; omega
   ·gi_wp2
    refine bodyPost_ret (results_none rfl _ _ _) rfl ?_
    exact ⟨⟨_, rfl⟩, .inr ⟨_, ⟨k + 1, by omega, (uptoN_succ _ _).symm⟩, hJx3⟩⟩
  ·obtain rfl : k = n := by omega
   gi_wp2
   go_end0
   exact ⟨⟨_, rfl⟩, .inl ⟨_, rfl, hJs⟩⟩
theorem values1_none {N l Bn cn : Nat} {A : Option Addr} (J : World → Prop) (W : World) (c0 : W.cell? ⟨Bn, 0, none⟩ = some (.slice A 0 cn)) (h0 : J W) :
  CallsIn Fence.wide N Tryz.prog 106 #[.func (.yield l) #[] #[], .pointer (some ⟨Bn, 0, none⟩)] W fun e W' => (∃ v, e = .returned v) ∧ J W' := by
 refine callsIn_of_wp Tryz.func106 rfl trivial ?_ rfl
 simp only [Tryz.ntmps106, List.size_toArray, List.length_cons, List.length_nil, Nat.reduceAdd, Nat.reduceSub, Array.replicate_succ, Array.replicate_zero, List.push_toArray, List.append_toArray, List.nil_append, List.cons_append]
 gi_wp2
 gi_loopw [7] (fun i wr => i = .int .i64 0 ∧ J wr) (fun _ _ => 0)
 case atStart => exact ⟨rfl, h0⟩
 case round =>
  obtain ⟨rfl, hJs⟩ := hrel
  gi_wp2
  go_end0
  exact ⟨⟨_, rfl⟩, hJs⟩
theorem values_stops (N Bn n₀ : Nat) (hN : 1 ≤ N) {n cn : Nat} {A : Option Addr} {xs : List Int} {F : Nat → Prop} (hF : ∀ g, F g → g < n₀) (w : World)
  (c0 : w.cell? ⟨Bn, 0, none⟩ = some (.slice A n cn)) (hx : Rd w F 1 (.slice A n cn) n (ints xs)) :
  SeqStopsK Fence.wide N Tryz.prog 106 #[.pointer (some ⟨Bn, 0, none⟩)] (fun x : Fin n => #[.int .i64 (nth xs x.val)]) (KpB n₀ Bn) (SomeOf n n) (fun pre => ∃ k, k ≤ n ∧ SomeOf n k pre) n w := by
 intro l J Jx W hW _ _ hY h0
 have d0 := (hW.cell (World.block_lt_of_cell? w _ c0)).trans c0
 rcases Nat.eq_zero_or_pos n with e | e
 ·subst e
  refine (values1_none (N := N) (J []) W d0 h0).mono ?_
  rintro e W' ⟨h1, h2⟩
  exact ⟨h1, .inl ⟨[], rfl, h2⟩⟩
 ·refine (values1_in N l Bn n₀ hN e hF J Jx hY W d0 (hx.below hW) h0).mono ?_
  rintro e' W' ⟨h1, h2⟩
  refine ⟨h1, ?_⟩
  rcases h2 with ⟨ys, rfl, h3⟩ | ⟨pre, ⟨k, hk, rfl⟩, h3⟩
  ·exact .inl ⟨_, uptoN_some e (Nat.le_refl _), h3⟩
  ·exact .inr ⟨_, ⟨k, hk, uptoN_some e hk⟩, h3⟩
theorem values_in (N : Nat) (A : Option Addr) (n c : Nat) (w : World) :
  CallsIn Fence.wide N Tryz.prog 87 #[.slice A n c] w fun e w' => e = .returned (.func (.func 106) #[] #[.pointer (some ⟨w.heap.size, 0, none⟩)]) ∧ w' = w.alloc (.cells #[.slice A n c] 23) := by
 refine callsIn_of_wp Tryz.func87 rfl trivial ?_ rfl
 simp only [Tryz.ntmps87, List.size_toArray, List.length_cons, List.length_nil, Nat.reduceAdd, Nat.reduceSub, Array.replicate_succ, Array.replicate_zero, List.push_toArray, List.append_toArray, List.nil_append, List.cons_append]
 gi_wp2
 go_ret
 exact ⟨rfl, rfl⟩
def atAll (xs : List Int) (js : List Nat) : List Int := js.map (nth xs)
theorem atAll_snoc (xs : List Int) (js : List Nat) (j : Nat) : atAll xs (js ++ [j]) = atAll xs js ++ [nth xs j] := by simp [atAll]
theorem atAll_len (xs : List Int) (js : List Nat) : (atAll xs js).length = js.length := by simp [atAll]
theorem atAll_range (xs : List Int) : atAll xs (List.range xs.length) = xs := by
 apply List.ext_getElem
 ·simp [atAll]
 ·intro i h1 h2
  simp only [atAll, List.getElem_map, List.getElem_range]
  exact nth_eq h2
theorem appendSeq_any {w : World} {F : Nat → Prop} {A : Option Addr} {n cn Bn : Nat} {xs : List Int} (c0 : w.cell? ⟨Bn, 0, none⟩ = some (.slice A n cn)) (hx : Rd w F 1 (.slice A n cn) n (ints xs)) (hn : n ≤ 1000000) :
  Calls Tryz.prog 137 #[.slice none 0 0, .func (.func 106) #[] #[.pointer (some ⟨Bn, 0, none⟩)]] w fun r w' => (∃ R cc, r = .returned (.slice R n cc) ∧ Own w' (fun g => w.heap.size ≤ g) 3 1 (.slice R n cc) n (ints xs)) ∧ Below w.heap.size w w' := by
 have hxl : xs.length = n := by have := hx.1; simpa [ints_length] using this
 have hBn : Bn < w.heap.size := World.block_lt_of_cell? w _ c0
 refine callsIn_wide (n := 5).1 ?_
 refine callsIn_of_wp_marks Tryz.func137 rfl trivial ?_ rfl
 simp only [Tryz.ntmps137, List.size_toArray, List.length_cons, List.length_nil, Nat.reduceAdd, Nat.reduceSub, Array.replicate_succ, Array.replicate_zero, List.push_toArray, List.append_toArray, List.nil_append, List.cons_append]
 gi_wp2_with fail
 obtain ⟨Ob, hOb⟩ : ∃ b, w.heap.size = b := ⟨_, rfl⟩
 have bA : Below w.heap.size w (w.alloc (.cells #[.slice none 0 0] 23)) := (Below.refl _ _).alloc (Nat.le_refl _) _
 obtain ⟨W3, hW3⟩ : ∃ W, w.alloc (.cells #[.slice none 0 0] 23) = W := ⟨_, rfl⟩
 have h6 : Bx W3 w.heap.size (.slice none 0 0) := by rw [← hW3]; exact Bx.of_block (heap_alloc_new _ _)
 have y1 : W3.heap.size = w.heap.size + 1 := by rw [← hW3, World.size_alloc]
 have d0 := keep_cell c0 (hW3 ▸ bA : Below w.heap.size w W3)
 have hx3 := (hx.mono (G := fun g => g < w.heap.size) fun g hg _ => hg).below (hW3 ▸ bA : Below w.heap.size w W3)
 rw [hW3] at bA ⊢
 rw [hOb] at h6 y1 hBn hx3 ⊢
 clear hW3
 refine' wpIn_rangeFunc_ownF (α := Fin n) rfl (by omega) (gf := 106) (lb := #[.pointer (some ⟨Bn, 0, none⟩)]) rfl trivial (enters_of Tryz.func106 (by kernel_rfl) rfl)
  (values_stops 4 Bn Ob (by omega) (F := fun g => g < Ob) (fun g hg => hg) W3 d0 hx3) (fun h k => h.trans k) (kpb_b (by omega) (by omega)) (Below.refl _ _) (fun _ => rfl)
  (fun pre W => ((∃ R cc, Bx W Ob (.slice R (atAll xs (pre.map Fin.val)).length cc) ∧ Own W (fun g => Ob < g) 3 1 (.slice R (atAll xs (pre.map Fin.val)).length cc) (atAll xs (pre.map Fin.val)).length (ints (atAll xs (pre.map Fin.val)))) ∧ Ob < W.heap.size) ∧ Below Ob w W)
  (fun _ _ _ => False)
  (OwnFrom.and (Own.from (fun s A B row hs hg hr => ⟨by obtain ⟨R, cc, x1, x2⟩ := hs.1; exact ⟨R, cc, x1.kept hg hr, x2.kept hg hr⟩, Nat.lt_of_lt_of_le hs.2 hg.size⟩) _) (ownFrom_below (by omega) (by omega)))
  (fun _ _ _ _ _ hs _ _ => hs)
  ⟨⟨⟨none, 0, h6, Own.nil _ _ _ _⟩, by omega⟩, (hOb ▸ bA : Below Ob w W3)⟩ _ ?assign ?body ?done ?stop
 case assign =>
  intro l x W K hK
  gi_wp2
  exact hK
 case body =>
  rintro l pre x W ⟨⟨⟨R, cc, e6, hown⟩, hBW⟩, hB⟩ hpre
  have hps := atAll_snoc xs (pre.map Fin.val) x.val
  have hmp : (pre ++ [x]).map Fin.val = pre.map Fin.val ++ [x.val] := by simp
  rw [← hmp] at hps
  have hlen := Nat.le_of_eq (atAll_len xs (pre.map Fin.val))
  rw [List.length_map] at hlen
  obtain ⟨us, hus⟩ : ∃ us, atAll xs (pre.map Fin.val) = us := ⟨_, rfl⟩
  obtain ⟨li, hli⟩ : ∃ l, nth xs x.val = l := ⟨_, rfl⟩
  rw [hus] at e6 hown hps hlen
  rw [hli] at hps ⊢
  have Hps := hid hps
  have HB := hid hB
  have e6c := e6.1
  have Hown := hid hown
  clear hps hmp hus hli hB hown
  gi_wp2_with (gi_at_builtin; refine wpListIn_append_ints rfl _ _ rfl (Hown.o.below ((Below.refl _ _).alloc (Nat.le_refl _) _)) (own_one W (.int .i64 li)).rd rfl rfl (by simp [Value.oneCell']) (by omega) ?_; intro Av cv w5 ho5 hm5 hr5; have bx5 : Bx w5 Ob _ := (e6.alloc _).mod hm5 (fun hr => by have := (Hown.o.row hr).1; omega); have bx5c := bx5.1; have bx5f := bx5.2)
  have hnr : ∀ g, row (.slice R us.length cc) g → Ob < g := fun g hg => (Hown.o.row hg).1
  have m6 := (Mod.refl (fun k => k = Ob) w5).setCell (p := ⟨Ob, 0, none⟩) (.inl rfl) (.slice Av (us.length + 1) cv)
  have hs5 := hm5.size
  rw [World.size_alloc] at hs5
  have hs6 := m6.size
  refine ⟨((KeepsOthers.alloc W _).trans (keeps_append (Hown.o.below ((Below.refl _ _).alloc (Nat.le_refl _) _)) hm5)).trans (KeepsOthers.setCell _ _ _),
   (((KpB.refl _ _ _).alloc _ (by omega) (by omega)).mod hm5 (by rw [World.size_alloc]; omega) (by rw [World.size_alloc]; omega) (fun g hg => by have := hnr g hg; omega) (fun hg => by have := hnr _ hg; omega)).set (by omega) (by omega) _,
   ⟨⟨Av, cv, ?_, ?_⟩, by omega⟩,
   (below_mod (HB.o.alloc (by omega) _) (by rw [World.size_alloc]; omega) hm5 fun g hg => by have := hnr g hg; omega).setCell (p := ⟨Ob, 0, none⟩) (Nat.le_refl _) _⟩
  ·rw [Hps.o, List.length_append]
   exact Bx.put bx5 _
  ·rw [Hps.o, ints_append, List.length_append]
   exact (ho5.mono fun g _ _ hg => hg.elim id fun h => by rw [World.size_alloc] at h; omega).mod m6 fun g _ _ hF e => by omega
 case done =>
  rintro D ys W hD hys ⟨⟨⟨R, cc, e6, hown⟩, hBW⟩, hB⟩ hK
  unfold SomeOf at hys
  rw [hys, ← hxl, atAll_range] at e6 hown
  rw [hxl] at e6 hown
  have e6c := e6.1
  have Hown := hid hown
  clear hown
  gi_wp2
  refine ⟨by simp, .inl ⟨_, _, rfl, run_takeDeferred hK, ?_⟩⟩
  exact ⟨_, results_tmp rfl _ _ _, ⟨R, cc, rfl, (Hown.o.kept (grownBy_putObj' W D _) fun r e => by cases e; exact ⟨_, hK, rfl⟩).mono fun g _ _ hg => by omega⟩, by (try rw [hOb]); exact hB.trans (belowK_b (w := w) (by omega) W D _ _ (by omega) hK rfl rfl)⟩
 case stop =>
  rintro D co pre W _ _ h _
  exact h.elim
theorem Own.sorted {w : World} {F : Nat → Prop} {n c m : Nat} {xs : List Value} {g : Nat} (ho : Own w F 3 1 (.slice (some ⟨g, 0, none⟩) n c) n xs) (ts : List Int) (hl : ts.length = n) (os : Array Obj) :
  Own (Go.Sort.grow (Go.Sort.putRow (Value.int .i64) (Go.Sort.ahead w m) g 0 ts.toArray) os) F 3 1 (.slice (some ⟨g, 0, none⟩) n c) n (ints ts) := by
 obtain ⟨h1, h2⟩ := ho
 refine ⟨by rw [ints_length, hl]; omega, ?_⟩
 rcases h2 with ⟨A, hv, rfl⟩ | ⟨g', cap, cur, hv, hp, hF, hg, hn, hm, hs, ht⟩
 ·exact .inl ⟨A, hv, rfl⟩
 ·injection hv with e1 _ e3
  injection e1 with e1
  injection e1 with e1
  subst e1 e3
  refine .inr ⟨g, c, _, rfl, hp, hF, heap_sortedI _ hg, hn, hm, by simpa [Go.Sort.putCells] using hs, ?_⟩
  have := take_putCellsI cur ts (by omega)
  rw [hl] at this
  rw [Nat.mul_one, this]
  rfl
theorem holds_own {w : World} {F : Nat → Prop} {n c g : Nat} {xs : List Int} (ho : Own w F 3 1 (.slice (some ⟨g, 0, none⟩) n c) n (ints xs)) : Go.Sort.Holds (Value.int .i64) w g 0 xs.toArray := by
 have hl : xs.length = n := by have := ho.1; simpa [ints_length] using this
 intro j hj
 have hj' : j < xs.length := by simpa using hj
 obtain ⟨g', e1, _, _, hc, hf⟩ := ho.cell (j := j) (by omega)
 injection e1 with e1
 injection e1 with e1
 subst e1
 rw [Nat.zero_add]
 refine ⟨?_, hf⟩
 rw [hc, ints_nth hj', nth_eq hj', getElem!_pos xs.toArray j hj]
 rfl
theorem sort_own {w : World} {F : Nat → Prop} {R : Option Addr} {n c : Nat} {xs : List Int} (ho : Own w F 3 1 (.slice R n c) n (ints xs)) (hn : n ≤ 1000000) :
  Calls Tryz.prog 79 #[.slice R n c] w fun r w' => r = .returned (.tuple #[]) ∧ Own w' F 3 1 (.slice R n c) n (ints (sortL xs)) ∧ Mod (row (.slice R n c)) w w' := by
 have hl : xs.length = n := by have := ho.1; simpa [ints_length] using this
 rcases Nat.eq_zero_or_pos n with e | e
 ·subst e
  refine (sh_slices_Sort_int_none R c w).mono ?_
  rintro r w' ⟨rfl, rfl⟩
  have hx : xs = [] := List.length_eq_zero_iff.1 hl
  subst hx
  exact ⟨rfl, by rw [show sortL [] = [] by simp [sortL]]; exact ho, Mod.refl _ _⟩
 ·obtain ⟨R', c', hv, hle, hmx, hg⟩ := ho.form
  injection hv with hv1 _ hv3
  subst hv1 hv3
  obtain ⟨g, rfl, hgF, hgl⟩ := hg (by omega)
  have hsi := sh_slices_Sort_int g 0 c xs w (holds_own ho) hgl (by omega)
  rw [hl] at hsi
  refine hsi.mono ?_
  rintro r w' ⟨rfl, m, os, rfl⟩
  have hlen : (sortL xs).length = n := by rw [(sortL_perm xs).length_eq, hl]
  have hm := sort_mod (Value.int .i64) w g 0 m (sortL xs).toArray os
  exact ⟨rfl, ho.sorted (sortL xs) hlen os, hm.mono fun k _ hk => ⟨by omega, hk.symm⟩⟩
def compactL (xs : List Int) : List Int := Lib.compact xs
theorem compact_any {w : World} {F : Nat → Prop} {R : Option Addr} {n c : Nat} {xs : List Int} (ho : Own w F 3 1 (.slice R n c) n (ints xs)) (hn : n ≤ 1000000) (hcl : (compactL xs).length ≤ n) :
  Calls Tryz.prog 85 #[.slice R n c] w fun r w' => r = .returned (.slice R (compactL xs).length c) ∧ Own w' F 3 1 (.slice R (compactL xs).length c) (compactL xs).length (ints (compactL xs)) ∧ Mod (row (.slice R n c)) w w' := by
 have hl : xs.length = n := by have := ho.1; simpa [ints_length] using this
 rcases Nat.eq_zero_or_pos n with e | e
 ·subst e
  refine (sh_slices_Compact_int_empty R c w).mono ?_
  rintro r w' ⟨rfl, rfl⟩
  have hx : compactL xs = [] := List.length_eq_zero_iff.1 (by omega)
  have hx0 : xs = [] := List.length_eq_zero_iff.1 hl
  rw [hx]
  rw [hx0] at ho
  exact ⟨rfl, ho, Mod.refl _ _⟩
 ·obtain ⟨R', c', hv, hle, hmx, hg⟩ := ho.form
  injection hv with hv1 _ hv3
  subst hv1 hv3
  obtain ⟨g, rfl, hgF, hgl⟩ := hg (by omega)
  have hsi := sh_slices_Compact_int g 0 c xs w (holds_own ho) (by omega) (by omega)
  rw [hl] at hsi
  refine hsi.mono ?_
  rintro r w' ⟨rfl, m, rfl⟩
  have hm := sort_mod (Value.int .i64) w g 0 m (compactL xs ++ List.replicate (n - (compactL xs).length) 0).toArray #[]
  have ho2 := ho.sorted (m := m) (compactL xs ++ List.replicate (n - (compactL xs).length) 0) (by rw [List.length_append, List.length_replicate]; omega) #[]
  have ho3 := ho2.take hcl
  rw [Nat.mul_one, ints_append, List.take_append_of_le_length (by rw [ints_length]; omega), List.take_of_length_le (by rw [ints_length]; omega)] at ho3
  have hgr : ∀ W : World, Go.Sort.grow W #[] = W := fun W => by simp [Go.Sort.grow]
  rw [hgr] at ho3
  unfold sortWorld at hm
  rw [hgr] at hm
  exact ⟨rfl, ho3, hm.mono fun k _ hk => ⟨by omega, hk.symm⟩⟩
theorem sorted_any {w : World} {F : Nat → Prop} {A : Option Addr} {n cn Bn : Nat} {xs : List Int} (c0 : w.cell? ⟨Bn, 0, none⟩ = some (.slice A n cn)) (hx : Rd w F 1 (.slice A n cn) n (ints xs)) (hn : n ≤ 1000000) :
  Calls Tryz.prog 86 #[.func (.func 106) #[] #[.pointer (some ⟨Bn, 0, none⟩)]] w fun r w' => (∃ R cc, r = .returned (.slice R n cc) ∧ Own w' (fun g => w.heap.size ≤ g) 3 1 (.slice R n cc) n (ints (sortL xs))) ∧ Below w.heap.size w w' := by
 have hcol : Calls Tryz.prog 105 #[.func (.func 106) #[] #[.pointer (some ⟨Bn, 0, none⟩)]] w fun r w' => (∃ R cc, r = .returned (.slice R n cc) ∧ Own w' (fun g => w.heap.size ≤ g) 3 1 (.slice R n cc) n (ints xs)) ∧ Below w.heap.size w w' := by
  go_enter Tryz.func105, Tryz.ntmps105
  go_wp2_with fail
  refine (appendSeq_any c0 hx hn).mono ?_
  rintro r w' ⟨⟨R, cc, rfl, ho⟩, hb⟩
  go_wp2_with fail
  go_ret
  exact ⟨⟨R, cc, rfl, ho⟩, hb⟩
 go_enter Tryz.func86, Tryz.ntmps86
 go_wp2_with fail
 refine hcol.mono ?_
 rintro r w2 ⟨⟨R, cc, rfl, ho⟩, hb⟩
 have Ho := hid ho
 have Hb := hid hb
 clear ho hb hcol
 go_wp2_with fail
 refine (sort_own Ho.o hn).mono ?_
 rintro r w3 ⟨rfl, ho3, hm3⟩
 have Ho3 := hid ho3
 have Hm3 := hid hm3
 clear ho3 hm3
 go_wp2_with fail
 go_ret
 exact ⟨⟨R, cc, rfl, Ho3.o⟩, below_mod Hb.o Hb.o.size Hm3.o fun g hg => (Ho.o.row hg).1⟩
end
section
open Go.RowKit Go.Maps
def clauseB (ls : List Int) : Pb × Int := normed (compactL (sortL ls)) (List.replicate (compactL (sortL ls)).length 1) 1
theorem mk_ints (W : World) {n : Nat} (hn : n ≤ 1000000) : (Instr.makeSlice 23 (.int .i64 n) (.int .i64 n)).run Tryz.prog W = .ok (.slice (some ⟨W.heap.size, 0, none⟩) n n) (W.alloc (.cells (madeCells #[.int .i64 0] n) 3)) :=
 run_make_row' (P := Tryz.prog) 23 3 (.int .i64 0) 8 Tryz.underlying23 info_int rfl .i64 .i64 n (by omega) (by omega) W
theorem own_made (w : World) (n : Nat) (hn : n ≤ 1000000) : Own (w.alloc (.cells (madeCells #[.int .i64 0] n) 3)) (fun g => g = w.heap.size) 3 1 (.slice (some ⟨w.heap.size, 0, none⟩) n n) n (ints (List.replicate n 0)) := by
 have e : ints (List.replicate n 0) = List.replicate n (Value.int .i64 0) := by simp [ints]
 rw [e]
 by_cases h0 : n = 0
 ·subst h0
  exact ⟨by simp, .inl ⟨_, rfl, rfl⟩⟩
 ·exact own_new w _ 3 1 n _ n _ (by simp) (by omega) (Nat.le_refl _) (by unfold maxLen; omega) (by simp [size_madeCells]) (by rw [toList_madeCells_one, Nat.mul_one, List.take_replicate, Nat.min_self]) rfl
def onesUp (k i : Nat) : List Int := List.replicate i 1 ++ List.replicate (k - i) 0
theorem onesUp_set {k i : Nat} (hi : i < k) : (onesUp k i).set i 1 = onesUp k (i + 1) := by
 unfold onesUp
 rw [List.set_append_right _ _ (by simp), List.length_replicate, Nat.sub_self, show k - i = (k - (i + 1)) + 1 by omega, List.replicate_succ, List.set_cons_zero, List.replicate_succ', List.append_assoc]
 rfl
theorem onesUp_all (k : Nat) : onesUp k k = List.replicate k 1 := by simp [onesUp]
theorem onesUp_none (k : Nat) : onesUp k 0 = List.replicate k 0 := by simp [onesUp]
theorem clause_any {w : World} {F : Nat → Prop} {A : Option Addr} {n cA : Nat} {ls : List Int} (hl : Rd w F 1 (.slice A n cA) n (ints ls)) (hi : ∀ x ∈ ls, I64 x) (hn : n ≤ 1000000) (hcl : (compactL (sortL ls)).length ≤ n) (hcm : ∀ x ∈ compactL (sortL ls), x ∈ ls) :
  Calls Tryz.prog 65 #[.slice A n cA] w fun r w' => (∃ pv, r = .returned (.tuple #[pv, .int .i64 (clauseB ls).2]) ∧ PbRd w' (fun g => w.heap.size ≤ g) pv (clauseB ls).1) ∧ Below w.heap.size w w' := by
 go_enter Tryz.func65, Tryz.ntmps65
 go_wp2_with fail
 obtain ⟨W0, hW0⟩ : ∃ W, w.alloc (.cells #[.slice none 0 0, .slice none 0 0, .int .i64 0] 41) = W := ⟨_, rfl⟩
 have b0 : Below w.heap.size w W0 := by rw [← hW0]; exact (Below.refl _ _).alloc (Nat.le_refl _) _
 have j0 : W0.heap[w.heap.size]? = some (.cells #[.slice none 0 0, .slice none 0 0, .int .i64 0] 41) := by rw [← hW0]; exact heap_alloc_new _ _
 have s0 : W0.heap.size = w.heap.size + 1 := by rw [← hW0, World.size_alloc]
 have hmk := fun W => mk_ints W (Nat.le_trans hcl hn)
 rw [hW0]
 clear hW0
 refine (callsIn_wide.1 (values_in 5 A n cA W0)).mono ?_
 rintro r w1 ⟨rfl, rfl⟩
 have b1 : Below W0.heap.size W0 (W0.alloc (.cells #[.slice A n cA] 23)) := (Below.refl _ _).alloc (Nat.le_refl _) _
 obtain ⟨W1, hW1⟩ : ∃ W, W0.alloc (.cells #[.slice A n cA] 23) = W := ⟨_, rfl⟩
 have c1 : W1.cell? ⟨W0.heap.size, 0, none⟩ = some (.slice A n cA) := by rw [← hW1, cell_of_row _ _ _ _ _ _ (heap_alloc_new _ _)]; rfl
 rw [hW1] at b1 ⊢
 clear hW1
 rw [s0] at c1
 have s1 := b1.size
 have B1 : Below w.heap.size w W1 := b0.trans (b1.mono (by omega))
 have hl1 := hl.below B1
 go_wp2_with fail
 refine (sorted_any c1 hl1 hn).mono ?_
 rintro r w2 ⟨⟨R, cc, rfl, ho2⟩, b2⟩
 have s2 := b2.size
 have B2 : Below w.heap.size w w2 := B1.trans (b2.mono (by omega))
 have Ho2 := hid ho2
 have B2' := hid B2
 have J2 := hid ((b2.block _ (by omega)).trans ((b1.block _ (by omega)).trans j0))
 clear ho2 B2 b2 b1 b0 j0 c1 hl1 B1
 go_wp2_with fail
 refine (compact_any Ho2.o hn hcl).mono ?_
 rintro r w3 ⟨rfl, ho3, m3⟩
 have s3 := m3.size
 have Ho3 := hid ho3
 have hro : ∀ g, row (.slice R n cc) g → W1.heap.size ≤ g := fun g hg => (Ho2.o.row hg).1
 have B3 := hid (below_mod B2'.o (by omega) m3 fun g hg => by have := hro g hg; omega)
 have J3 := hid ((m3.block _ (by omega) (fun hg => by have := hro _ hg; omega)).trans J2.o)
 obtain ⟨k, hk⟩ : ∃ k, (compactL (sortL ls)).length = k := ⟨_, rfl⟩
 have hCb : clauseB ls = normed (compactL (sortL ls)) (List.replicate k 1) 1 := by rw [← hk]; rfl
 obtain ⟨ds, hds⟩ : ∃ ds, compactL (sortL ls) = ds := ⟨_, rfl⟩
 rw [hds] at hk hCb hcm Ho3
 rw [hds, hk] at hmk
 rw [hds] at hcl
 rw [hds]
 rw [hk] at Ho3 hcl ⊢
 have HCb := hid hCb
 have Hds := hid hds
 have Hk := hid hk
 clear ho3 m3 J2 hCb hds hk B2' Ho2
 go_wp2_with fail
 obtain ⟨Z, hZ⟩ : ∃ z, w3.heap.size = z := ⟨_, rfl⟩
 have hoZ := own_made w3 k (by omega)
 have b4 : Below w3.heap.size w3 (w3.alloc (.cells (madeCells #[.int .i64 0] k) 3)) := (Below.refl _ _).alloc (Nat.le_refl _) _
 have s4 := World.size_alloc w3 (.cells (madeCells #[.int .i64 0] k) 3)
 obtain ⟨W4, hW4⟩ : ∃ W, w3.alloc (.cells (madeCells #[.int .i64 0] k) 3) = W := ⟨_, rfl⟩
 rw [hW4, hZ] at hoZ b4 s4
 rw [hW4, hZ]
 have J4 := hid ((b4.block _ (by omega)).trans J3.o)
 have Hw4 := hid ((Ho3.o.rd.mono (G := fun g => g < Z) fun g hg _ => by omega).below (hZ ▸ b4 : Below w3.heap.size w3 W4))
 have B4 := hid (B3.o.trans (b4.mono (by omega)))
 have HoZ := hid hoZ
 clear hW4 hoZ b4 J3 B3 Ho3
 go_loopw [15] (fun iv W => ∃ i : Nat, i ≤ k ∧ iv = .int .i64 i ∧ Hid (Own W (fun g => g = Z) 3 1 (.slice (some ⟨Z, 0, none⟩) k k) k (ints (onesUp k i))) ∧ Hid (Mod (fun g => g = Z) W4 W)) (fun iv _ => k - (intOf iv).toNat)
 case atStart => exact ⟨0, by omega, rfl, by rw [onesUp_none]; exact HoZ, Mod.refl _ _⟩
 case round =>
  obtain ⟨i, hi', rfl, Ho, M⟩ := hrel
  have s5 := M.o.size
  by_cases hlt : i < k
  ·have x1 : (i : Int) < (k : Int) := by omega
   obtain ⟨g', e1, _, hg, hc, hf⟩ := Ho.o.cell (j := i) (by omega)
   injection e1 with e1
   injection e1 with e1
   subst e1
   rw [ints_nth (by simp [onesUp]; omega)] at hc
   go_wp2_with fail
   go_roundw
   case rel =>
    refine ⟨i + 1, by omega, by go_num, ?_, hid (M.o.setCell (p := ⟨Z, i, none⟩) (.inl rfl) _)⟩
    rw [← onesUp_set hlt, ints_set]
    exact hid (Ho.o.stored _)
   case measure => simp [intOf]; omega
  ·obtain rfl : i = k := by omega
   have hr1 := hid Ho.o.rd
   rw [onesUp_all] at hr1
   have hr0 := hid (Hw4.o.mod M.o fun g _ hg e => by omega)
   have B5 := hid (below_mod B4.o (by omega) M.o fun g e => by omega)
   have J5 := (M.o.block _ (by omega) (by omega)).trans J4.o
   have hI1 : ∀ x ∈ ds, I64 x := fun x hx => hi x (hcm x hx)
   have hI2 : ∀ x ∈ List.replicate i (1 : Int), I64 x := fun x hx => by rw [List.eq_of_mem_replicate hx]; unfold I64; omega
   have HI1 := hid hI1
   have HI2 := hid hI2
   have HJ5 := hid J5
   clear hI1 hI2 J5 hi hcm
   go_wp2_with fail
   refine (norm_any hr0.o hr1.o HI1.o HI2.o (by unfold I64; omega)).mono ?_
   rintro r w6 ⟨⟨pv, rfl, hpv⟩, b6⟩
   rw [← HCb.o] at hpv ⊢
   obtain ⟨⟨A1, n1, c1', A2, n2, c2', rfl, r1, r2⟩, hb'⟩ := hpv
   have s6 := b6.size
   have j6 := (b6.block _ (by omega)).trans HJ5.o
   have t0 : w6.cell? ⟨w.heap.size, 0, none⟩ = some (.slice none 0 0) := by rw [cell_of_row _ _ _ _ _ _ j6]; rfl
   have t1 : w6.cell? ⟨w.heap.size, 1, none⟩ = some (.slice none 0 0) := by rw [cell_of_row _ _ _ _ _ _ j6]; rfl
   have t2 : w6.cell? ⟨w.heap.size, 2, none⟩ = some (.int .i64 0) := by rw [cell_of_row _ _ _ _ _ _ j6]; rfl
   have f0 : w6.frozen? ⟨w.heap.size, 0, none⟩ = false := by simp [World.frozen?, j6]
   have f1 : w6.frozen? ⟨w.heap.size, 1, none⟩ = false := by simp [World.frozen?, j6]
   have f2 : w6.frozen? ⟨w.heap.size, 2, none⟩ = false := by simp [World.frozen?, j6]
   have B6 := hid (B5.o.trans (b6.mono (by omega)))
   have R1 := hid r1
   have R2 := hid r2
   clear j6 b6 r1 r2
   go_wp2_with fail
   obtain ⟨u0, u1, u2, m3⟩ := set3 t0 t1 t2 (.slice A1 n1 c1') (.slice A2 n2 c2') (.int .i64 (clauseB ls).1.bound)
   refine bodyPost_ret (v := .tuple #[.agg #[.slice A1 n1 c1', .slice A2 n2 c2', .int .i64 (clauseB ls).1.bound], .int .i64 (clauseB ls).2]) (by simp [results, Tryz.f65, go_sem, u0, u1, u2]) rfl ⟨⟨_, rfl, ⟨A1, n1, c1', A2, n2, c2', rfl, ?_, ?_⟩, hb'⟩, below_mod B6.o (by omega) m3 fun g hg => by omega⟩
   ·exact (R1.o.mod m3 fun g _ hf e => by omega).mono fun g _ hf => by omega
   ·exact (R2.o.mod m3 fun g _ hf e => by omega).mono fun g _ hf => by omega
end
section
open Go.RowKit
def Pr (B : Nat) (W0 W : World) (vL vC : Value) (n m : Nat) (xs ys : List Value) : Prop :=
 Own W (fun g => B ≤ g) 3 1 vL n xs ∧ Own W (fun g => B ≤ g) 3 1 vC m ys ∧ (∀ g, row vL g → ¬ row vC g) ∧ Below B W0 W ∧ B ≤ W.heap.size
section
variable {B : Nat} {W0 W W' : World} {vL vC : Value} {n m : Nat} {xs ys : List Value}
theorem Pr.start (w : World) : Pr w.heap.size w w (.slice none 0 0) (.slice none 0 0) 0 0 (ints []) (ints []) := ⟨Own.nil _ _ _ _, Own.nil _ _ _ _, fun g hg => by simp [row] at hg, Below.refl _ _, Nat.le_refl _⟩
theorem Pr.swap (h : Pr B W0 W vL vC n m xs ys) : Pr B W0 W vC vL m n ys xs := ⟨h.2.1, h.1, fun g a b => h.2.2.1 g b a, h.2.2.2⟩
theorem Pr.alloc (h : Pr B W0 W vL vC n m xs ys) (o : Obj) : Pr B W0 (W.alloc o) vL vC n m xs ys := by
 have b : Below W.heap.size W (W.alloc o) := (Below.refl _ _).alloc (Nat.le_refl _) _
 exact ⟨h.1.below b, h.2.1.below b, h.2.2.1, h.2.2.2.1.alloc h.2.2.2.2 _, by rw [World.size_alloc]; have := h.2.2.2.2; omega⟩
theorem Pr.rows (h : Pr B W0 W vL vC n m xs ys) : ∀ g, row vL g → g < W.heap.size := fun g hg => by
 obtain ⟨_, cur, hc⟩ := h.1.row hg
 exact lt_of_block hc
theorem Pr.push {u : Value} {n' : Nat} {xs' : List Value} (h : Pr B W0 W vL vC n m xs ys) (ho : Own W' (fun b => B ≤ b ∨ W.heap.size ≤ b) 3 1 u n' xs') (hm : Mod (row vL) W W') (hr : ∀ b, row u b → row vL b ∨ W.heap.size ≤ b) :
  Pr B W0 W' u vC n' m xs' ys := by
 have hB := h.2.2.2.2
 have hrow : ∀ g, row vL g → B ≤ g := fun g hg => (h.1.row hg).1
 have hrowC := h.swap.rows
 refine ⟨ho.mono (fun g _ _ hF => hF.elim id fun hF => by omega), h.2.1.mod hm (fun g _ hrC _ hrL => h.2.2.1 g hrL hrC), fun g hg hC => ?_, below_mod h.2.2.2.1 hB hm hrow, Nat.le_trans hB hm.size⟩
 rcases hr g hg with h1 | h1
 ·exact h.2.2.1 g h1 hC
 ·have := hrowC g hC; omega
end
end
section
open Go.RowKit Go.ChangeShapes Go.WideShapes
section
variable {H : Type} {enc : TypeId × Value → H} {w : World}
theorem lwf_i64 {n : Int} (h : (Lit.int .i64 n).wf = true) : I64 n := by
 unfold I64
 simp [Lit.wf, IntKind.min, IntKind.max, IntKind.signed, IntKind.bits] at h
 omega
theorem open_src {fuel : Nat} {v : Value} {x : DataW H × List MemPlace} (h : DataW.trod enc Tryz.prog w 0 (fun _ => true) true fuel 23 [v] = some x) :
  ∃ R n c xs, v = .slice R n c ∧ Rd w (fun _ => True) 1 (.slice R n c) n (ints xs) ∧ xs.length = n ∧ ∀ y ∈ xs, I64 y := by
 rcases open_ints Tryz.underlying23 Tryz.underlying3 (by kernel_rfl) h with ⟨hcs, _⟩ | ⟨a, l, c, zs, hcs, _, hl, hm, hz, _, hcell, hwz⟩
 ·simp only [List.cons.injEq, and_true] at hcs
  subst hcs
  exact ⟨none, 0, 0, [], rfl, (Own.nil w _ 0 1).rd, rfl, by simp⟩
 ·simp only [List.cons.injEq, and_true] at hcs
  subst hcs
  have hz' : zs.length = c := by simpa using hz
  refine ⟨some a, l, c, zs.take l, rfl, ⟨by simp [ints_length]; omega, _, _, rfl, hl, hm, fun hp => ?_⟩, by simp; omega, fun y hy => lwf_i64 (hwz y (List.mem_of_mem_take hy))⟩
  have h0 := hcell 0 (by omega)
  obtain ⟨g, o, s⟩ := a
  have hs : s = none := by simpa [Addr.add] using World.cell?_spot h0
  subst hs
  refine ⟨g, o, rfl, trivial, World.block_lt_of_cell? w _ (by simpa [addr_add] using h0), fun j u hu => ?_⟩
  rw [ints_get, List.getElem?_take] at hu
  split at hu
  ·rename_i hj
   have hcj := hcell j (by omega)
   rw [addr_add] at hcj
   rw [hcj]
   rw [List.getElem?_eq_getElem (by omega)] at hu
   simp only [Option.map_some, Option.some.injEq] at hu
   rw [← hu]
   simp [List.getD, show j < zs.length by omega]
  ·cases hu
theorem open_list {v : Value} {d : DataW H} {ps : List MemPlace} (h : DataW.Trod enc Tryz.prog w 0 (fun _ => true) true 23 v d ps) {A : Option Addr} {n c : Nat} (hv : v = .slice A n c) :
  ∃ xs, Rd w (fun _ => True) 1 v xs.length (ints xs) ∧ (∀ y ∈ xs, I64 y) ∧ v = .slice A xs.length c := by
 subst hv
 obtain ⟨fuel, hf⟩ := h
 obtain ⟨R, n', c', xs, hv, hr, hl, hy⟩ := open_src (v := .slice A n c) hf
 injection hv with h1 h2 h3
 subst h1 h2 h3
 exact ⟨xs, by rw [hl]; exact hr, hy, by rw [hl]⟩
end
end
section
open Go.RowKit Go.ChangeShapes Go.WideShapes Go.Deep
def LsRd (w : World) (F : Nat → Prop) (A : Option Addr) (n c : Nat) (lls : List (List Int)) : Prop := ∃ rows, Rd w F 1 (.slice A n c) n rows ∧ lls.length = n ∧ ∀ (i : Nat) (l : List Int), lls[i]? = some l → ∃ R d, rows[i]? = some (.slice R l.length d) ∧ Rd w F 1 (.slice R l.length d) l.length (ints l)
theorem LsRd.below {w w' : World} {F : Nat → Prop} {A : Option Addr} {n c : Nat} {lls : List (List Int)} (h : LsRd w F A n c lls) (b : Below w.heap.size w w') : LsRd w' F A n c lls := by
 obtain ⟨rows, h1, h2, h3⟩ := h
 refine ⟨rows, h1.below b, h2, fun i l hl => ?_⟩
 obtain ⟨R, d, h4, h5⟩ := h3 i l hl
 exact ⟨R, d, h4, h5.below b⟩
theorem LsRd.cells {w : World} {F : Nat → Prop} {A : Option Addr} {n c : Nat} {lls : List (List Int)} (h : LsRd w F A n c lls) {i : Nat} (hi : i < n) : ∃ g o l R d, A = some ⟨g, o, none⟩ ∧ g < w.heap.size ∧ lls[i]? = some l ∧ w.cell? ⟨g, o + i, none⟩ = some (.slice R l.length d) ∧ Rd w F 1 (.slice R l.length d) l.length (ints l) := by
 obtain ⟨rows, ⟨_, A', c', hv, _, _, hA⟩, h2, h3⟩ := h
 injection hv with h1 _ _
 subst h1
 obtain ⟨g, o, rfl, _, hg, hc⟩ := hA (by omega)
 have hl : lls[i]? = some (lls[i]'(by omega)) := List.getElem?_eq_getElem (by omega)
 obtain ⟨R, d, h4, h5⟩ := h3 i _ hl
 exact ⟨g, o, _, R, d, rfl, hg, hl, hc _ _ h4, h5⟩
section
variable {H : Type} {enc : TypeId × Value → H} {w : World}
theorem open_lists {v : Value} {d : DataW H} {ps : List MemPlace} (h : DataW.Trod enc Tryz.prog w 0 (fun _ => true) true 22 v d ps) {A : Option Addr} {n c : Nat} (hv : v = .slice A n c) :
  ∃ lls, LsRd w (fun _ => True) A n c lls ∧ v = .slice A n c := by
 subst hv
 obtain ⟨fuel, hf⟩ := h
 rcases open_int_rows Tryz.underlying22 Tryz.underlying23 Tryz.underlying3 (by kernel_rfl) (by kernel_rfl) hf with ⟨hcs, _⟩ | ⟨a, len, cap, B, L, C, Z, hcs, _, hl, hm, _, hrow⟩
 ·simp only [Value.cells, List.cons.injEq, and_true] at hcs
  injection hcs with h1 h2 h3
  subst h1 h2 h3
  exact ⟨[], ⟨[], (Own.nil w _ 0 1).rd, rfl, fun i l hl => by simp at hl⟩, rfl⟩
 ·simp only [Value.cells, List.cons.injEq, and_true] at hcs
  injection hcs with h1 h2 h3
  subst h1 h2 h3
  refine ⟨(List.range n).map fun r => (Z r).take (L r), ⟨(List.range n).map fun r => .slice (B r) (L r) (C r), ?_, by simp, fun i l hi => ?_⟩, rfl⟩
  ·refine ⟨by simp, _, _, rfl, hl, hm, fun hp => ?_⟩
   have h0 := (hrow 0 (by omega)).1
   obtain ⟨g, o, s⟩ := a
   have hs : s = none := by simpa [Addr.add] using World.cell?_spot h0
   subst hs
   refine ⟨g, o, rfl, trivial, World.block_lt_of_cell? w _ (by simpa [addr_add] using h0), fun j u hu => ?_⟩
   rw [List.getElem?_map] at hu
   have hj : j < n := by
    rcases Nat.lt_or_ge j n with e | e
    ·exact e
    ·rw [List.getElem?_eq_none (by simp; omega)] at hu; cases hu
   rw [List.getElem?_range hj] at hu
   simp only [Option.map_some, Option.some.injEq] at hu
   have hcj := (hrow j (by omega)).1
   rw [addr_add] at hcj
   rw [hcj, hu]
  ·have hin : i < n := by
    have := (List.getElem?_eq_some_iff.1 hi).1
    simpa using this
   rw [List.getElem?_map, List.getElem?_range hin] at hi
   simp only [Option.map_some, Option.some.injEq] at hi
   subst hi
   obtain ⟨_, r1, r2, r3, r4, r5, r6⟩ := hrow i (by omega)
   have hlen : ((Z i).take (L i)).length = L i := by simp; omega
   refine ⟨B i, C i, ?_, ?_⟩
   ·rw [List.getElem?_map, List.getElem?_range hin, hlen]; rfl
   ·rw [hlen]
    refine ⟨by rw [ints_length, hlen]; omega, _, _, rfl, r1, r2, fun hp => ?_⟩
    cases hB : B i with
    | none => have := r5 hB; omega
    | some a' =>
     obtain ⟨_, hcell⟩ := r6 a' hB
     have h0 := hcell 0 (by omega)
     obtain ⟨g, o, s⟩ := a'
     have hs : s = none := by simpa [Addr.add] using World.cell?_spot h0
     subst hs
     refine ⟨g, o, rfl, trivial, World.block_lt_of_cell? w _ (by simpa [addr_add] using h0), fun j u hu => ?_⟩
     rw [ints_get, List.getElem?_take] at hu
     split at hu
     ·rename_i hj
      have hcj := hcell j (by omega)
      rw [addr_add] at hcj
      rw [hcj]
      rw [List.getElem?_eq_getElem (by omega)] at hu
      simp only [Option.map_some, Option.some.injEq] at hu
      rw [← hu]
      simp [List.getD, show j < (Z i).length by omega]
     ·cases hu
end
end
end Go.Proofs.YtcjmpobccbnpkaaGreat
