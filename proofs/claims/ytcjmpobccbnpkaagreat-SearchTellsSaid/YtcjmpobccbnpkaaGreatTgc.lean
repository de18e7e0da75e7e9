/-
 Chapter 32: several texts in one (RfF RfH TeY RfG).
-/
import Derived.Test.YtcjmpobccbnpkaaGreatTga
import Derived.Test.YtcjmpobccbnpkaaGreatMjau
import Derived.BigRegion
import Derived.Test.YtcjmpobccbnpkaaGreatTkU
namespace Go.Proofs.YtcjmpobccbnpkaaGreat
section
open Go.RowKit
set_option maxRecDepth 100000 in
set_option maxHeartbeats 4000000 in
theorem ins_any {w : World} {F : Nat → Prop} {A : Option Addr} {n c : Nat} {xs : List Int} {v : Int} (hu : Rd w F 1 (.slice A n c) n (ints xs)) (hn : n ≤ 1000000) :
  Calls Tryz.prog 84 #[.slice A n c, .int .i64 v] w fun r w' => (∃ R cc, r = .returned (.slice R (insR v xs).length cc) ∧ Own w' (fun g => w.heap.size ≤ g) 3 1 (.slice R (insR v xs).length cc) (insR v xs).length (ints (insR v xs))) ∧ Below w.heap.size w w' := by
 have Hu := hid hu
 have Hxl := hid hu.cell.1
 clear hu
 go_enter Tryz.func84, Tryz.ntmps84
 go_wp2_with fail
 go_loopw [5, 6, 7] (fun ov pv iv W => ∃ (j : Nat) (P : List Int) (pl : Bool) (A1 : Option Addr) (c1 : Nat), j ≤ n ∧ iv = .int .i64 j ∧ pv = .bool pl ∧ ov = .slice A1 P.length c1 ∧ Hid (insFold v (xs.take j) = (P, pl)) ∧ Hid (Grw w.heap.size w W (.slice A1 P.length c1) P.length P)) (fun _ _ iv _ => n - (intOf iv).toNat)
 case atStart => exact ⟨0, [], false, none, 0, by omega, rfl, rfl, rfl, hid rfl, hid (Grw.start w)⟩
 case round =>
  obtain ⟨j, P, pl, A1, c1, hj, rfl, rfl, rfl, HP, HG⟩ := hrel
  have hpl := insFold_len v (xs.take j)
  rw [HP.o, List.length_take] at hpl
  have hpl : P.length ≤ 2 * j := by have : P.length ≤ 2 * min j xs.length := hpl; omega
  by_cases hlt : j < n
  ·have x1 : (j : Int) < (n : Int) := by omega
   obtain ⟨g, o, rfl, _, hg, hcw⟩ := Hu.o.cell.2 j hlt
   have hst := insFold_snoc v (xs.take j) (nth xs j)
   rw [← take_nth (by rw [Hxl.o]; exact hlt), HP.o] at hst
   obtain ⟨x, hx⟩ : ∃ x, nth xs j = x := ⟨_, rfl⟩
   rw [hx] at hcw hst
   have hcx := (HG.o.2.1.cell (p := ⟨g, o + j, none⟩) hg).trans hcw
   unfold insStep at hst
   have Hst0 := hid hst
   clear hst hx
   by_cases hvx : v ≤ x
   ·have d1 : decide (v ≤ x) = true := by simpa using hvx
    cases pl
    ·by_cases hxv : x = v
     ·subst hxv
      have Hst := hid (show insFold x (xs.take (j + 1)) = (P ++ [x], true) by rw [Hst0.o]; simp)
      have d2 : (x != x) = false := by simp
      go_wp2_with (first
       | (at_builtin; refine wpList_append_ints rfl _ _ rfl (HG.o.alloc (.cells #[.int .i64 x] 3)).1 (own_one wr (.int .i64 x)).rd rfl rfl (by simp [Value.oneCell']) (by first | omega | (simp only [List.length_append, List.length_singleton]; omega)) ?_; intro Av3 cv3 W3 ho3 hm3 hr3; have T3 := hid ((HG.o.alloc (.cells #[.int .i64 x] 3)).push (ys := P ++ [x]) (by rw [ints_append]; exact ho3) hm3); clear ho3 hm3 hr3; have e3 := (T3.o.2.1.cell (p := ⟨g, o + j, none⟩) hg).trans hcw))
      go_roundw
      case rel => exact ⟨j + 1, P ++ [x], true, Av3, cv3, by omega, by go_num, rfl, by simp, Hst, by simpa using T3⟩
      case measure => simp [intOf]; omega
     ·have d2 : (x != v) = true := by simpa using hxv
      have Hst := hid (show insFold v (xs.take (j + 1)) = (P ++ [v] ++ [x], true) by rw [Hst0.o]; simp [d1, d2])
      go_wp2_with (first
       | (at_builtin; refine wpList_append_ints rfl _ _ rfl (HG.o.alloc (.cells #[.int .i64 v] 3)).1 (own_one wr (.int .i64 v)).rd rfl rfl (by simp [Value.oneCell']) (by first | omega | (simp only [List.length_append, List.length_singleton]; omega)) ?_; intro Av3 cv3 W3 ho3 hm3 hr3; have T3 := hid ((HG.o.alloc (.cells #[.int .i64 v] 3)).push (ys := P ++ [v]) (by rw [ints_append]; exact ho3) hm3); clear ho3 hm3 hr3; have e3 := (T3.o.2.1.cell (p := ⟨g, o + j, none⟩) hg).trans hcw)
       | (at_builtin; refine wpList_append_ints rfl _ _ rfl (T3.o.alloc (.cells #[.int .i64 x] 3)).1 (own_one W3 (.int .i64 x)).rd rfl rfl (by simp [Value.oneCell']) (by first | omega | (simp only [List.length_append, List.length_singleton]; omega)) ?_; intro Av4 cv4 W4 ho4 hm4 hr4; have T4 := hid ((T3.o.alloc (.cells #[.int .i64 x] 3)).push (ys := (P ++ [v]) ++ [x]) (by rw [ints_append]; exact ho4) hm4); clear ho4 hm4 hr4))
      go_roundw
      case rel => exact ⟨j + 1, P ++ [v] ++ [x], true, Av4, cv4, by omega, by go_num, rfl, by simp, Hst, by simpa using T4⟩
      case measure => simp [intOf]; omega
    ·by_cases hxv : x = v
     ·subst hxv
      have Hst := hid (show insFold x (xs.take (j + 1)) = (P, true) by rw [Hst0.o]; simp)
      have d2 : (x != x) = false := by simp
      go_wp2_with fail
      go_roundw
      case rel => exact ⟨j + 1, P, true, A1, c1, by omega, by go_num, rfl, rfl, Hst, HG⟩
      case measure => simp [intOf]; omega
     ·have d2 : (x != v) = true := by simpa using hxv
      have Hst := hid (show insFold v (xs.take (j + 1)) = (P ++ [x], true) by rw [Hst0.o]; simp [d1, d2])
      go_wp2_with (first
       | (at_builtin; refine wpList_append_ints rfl _ _ rfl (HG.o.alloc (.cells #[.int .i64 x] 3)).1 (own_one wr (.int .i64 x)).rd rfl rfl (by simp [Value.oneCell']) (by first | omega | (simp only [List.length_append, List.length_singleton]; omega)) ?_; intro Av4 cv4 W4 ho4 hm4 hr4; have T4 := hid ((HG.o.alloc (.cells #[.int .i64 x] 3)).push (ys := P ++ [x]) (by rw [ints_append]; exact ho4) hm4); clear ho4 hm4 hr4))
      go_roundw
      case rel => exact ⟨j + 1, P ++ [x], true, Av4, cv4, by omega, by go_num, rfl, by simp, Hst, by simpa using T4⟩
      case measure => simp [intOf]; omega
   ·have d1 : decide (v ≤ x) = false := by simpa using hvx
    have d2 : (x != v) = true := by simp; omega
    have Hst := hid (show insFold v (xs.take (j + 1)) = (P ++ [x], pl) by rw [Hst0.o, d1, d2]; simp)
    clear hvx
    go_wp2_with (first
     | (at_builtin; refine wpList_append_ints rfl _ _ rfl (HG.o.alloc (.cells #[.int .i64 x] 3)).1 (own_one wr (.int .i64 x)).rd rfl rfl (by simp [Value.oneCell']) (by first | omega | (simp only [List.length_append, List.length_singleton]; omega)) ?_; intro Av4 cv4 W4 ho4 hm4 hr4; have T4 := hid ((HG.o.alloc (.cells #[.int .i64 x] 3)).push (ys := P ++ [x]) (by rw [ints_append]; exact ho4) hm4); clear ho4 hm4 hr4))
    go_roundw
    case rel => exact ⟨j + 1, P ++ [x], pl, Av4, cv4, by omega, by go_num, rfl, by simp, Hst, by simpa using T4⟩
    case measure => simp [intOf]; omega
  ·have hjn : j = n := by omega
   have HP2 := hid (show insFold v xs = (P, pl) by have := HP.o; rwa [List.take_of_length_le (by rw [Hxl.o]; omega)] at this)
   clear hjn
   cases pl
   ·have Hr := hid (show insR v xs = P ++ [v] by unfold insR; rw [HP2.o]; simp)
    go_wp2_with (first
     | (at_builtin; refine wpList_append_ints rfl _ _ rfl (HG.o.alloc (.cells #[.int .i64 v] 3)).1 (own_one wr (.int .i64 v)).rd rfl rfl (by simp [Value.oneCell']) (by first | omega | (simp only [List.length_append, List.length_singleton]; omega)) ?_; intro Av3 cv3 W3 ho3 hm3 hr3; have T3 := hid ((HG.o.alloc (.cells #[.int .i64 v] 3)).push (ys := P ++ [v]) (by rw [ints_append]; exact ho3) hm3); clear ho3 hm3 hr3))
    go_ret
    have T4 : Grw w.heap.size w W3 (.slice Av3 (P ++ [v]).length cv3) (P ++ [v]).length (P ++ [v]) := by have := T3.o; simpa using this
    exact ⟨⟨Av3, cv3, by rw [Hr.o]; show Ending.returned (Value.slice _ _ _) = _; simp, by rw [Hr.o]; exact T4.1⟩, T4.2.1⟩
   ·have Hr := hid (show insR v xs = P by unfold insR; rw [HP2.o]; simp)
    go_wp2_with fail
    go_ret
    exact ⟨⟨A1, c1, by rw [Hr.o]; rfl, by rw [Hr.o]; exact HG.o.1⟩, HG.o.2.1⟩
end
section
open Go.RowKit
section
variable {B : Nat} {W0 W W' : World} {x y z vL vC : Value} {n m : Nat} {xs ys : List Value}
theorem Two.belowW (h : Two B W0 W x y z vL vC n m xs ys) (hb : Below W.heap.size W W') : Two B W0 W' x y z vL vC n m xs ys :=
 ⟨keep_blk h.1 hb, h.2.1.below hb, h.2.2.1.below hb, h.2.2.2.1, h.2.2.2.2.then_below hb⟩
theorem Two.old {p : Addr} {u : Value} (h : Two B W0 W x y z vL vC n m xs ys) (hp : W0.cell? p = some u) (hlt : p.block < B) : W.cell? p = some u :=
 (World.cell?_of_block (h.2.2.2.2.block _ (World.block_lt_of_cell? W0 _ hp) (by omega))).trans hp
theorem Two.oldBlk {b : Nat} {o : Obj} (h : Two B W0 W x y z vL vC n m xs ys) (hp : W0.heap[b]? = some o) (hlt : b < B) : W.heap[b]? = some o :=
 (h.2.2.2.2.block _ (lt_of_block hp) (by omega)).trans hp
theorem Two.oldRd {v : Value} {k : Nat} {F : Nat → Prop} {us : List Value} (h : Two B W0 W x y z vL vC n m xs ys) (hp : Rd W0 F 1 v k us) (hlt : ∀ g, F g → g < B) : Rd W F 1 v k us :=
 hp.mod h.2.2.2.2 fun g _ hf hg => by have := hlt g hf; omega
theorem Two.f2 (h : Two B W0 W x y z vL vC n m xs ys) : W.frozen? ⟨B, 2, none⟩ = false := by simp [World.frozen?, h.1]
theorem Two.made (w : World) (z : Value) : Two w.heap.size (w.alloc (.cells #[.slice none 0 0, .slice none 0 0, z] 41)) (w.alloc (.cells #[.slice none 0 0, .slice none 0 0, z] 41)) (.slice none 0 0) (.slice none 0 0) z (.slice none 0 0) (.slice none 0 0) 0 0 (ints []) (ints []) :=
 ⟨heap_alloc_new _ _, Own.nil _ _ _ _, Own.nil _ _ _ _, fun g hg => by simp [row] at hg, Mod.refl _ _⟩
theorem Two.put2 (h : Two B W0 W x y z vL vC n m xs ys) (u : Value) : Two B W0 (W.setCell ⟨B, 2, none⟩ u) x y u vL vC n m xs ys := by
 have M : Mod (fun g => g = B) W (W.setCell ⟨B, 2, none⟩ u) := (Mod.refl (fun g => g = B) W).setCell (p := ⟨B, 2, none⟩) (.inl rfl) _
 exact ⟨heap_setCell_same W B 2 _ _ u h.1, h.2.1.mod M (fun g _ _ hg e => by omega), h.2.2.1.mod M (fun g _ _ hg e => by omega), h.2.2.2.1, h.2.2.2.2.trans (M.mono fun g _ e => .inl (by omega))⟩
theorem Two.setC {g c i : Nat} (h : Two B W0 W x y z vL (.slice (some ⟨g, 0, none⟩) m c) n m xs ys) (hi : i < m) (u : Value) : Two B W0 (W.setCell ⟨g, i, none⟩ u) x y z vL (.slice (some ⟨g, 0, none⟩) m c) n m xs (ys.set i u) := by
 obtain ⟨A, c', hv, hc, _, _⟩ := h.2.2.1.form
 injection hv with _ _ hc'
 have hrow : row (.slice (some ⟨g, 0, none⟩) m c) g := ⟨by omega, rfl⟩
 have hgB := (h.2.2.1.row hrow).1
 have M : Mod (fun b => b = g) W (W.setCell ⟨g, i, none⟩ u) := (Mod.refl (fun b => b = g) W).setCell (p := ⟨g, i, none⟩) (.inl rfl) _
 exact ⟨(M.block _ h.lt (by omega)).trans h.1, h.2.1.mod M (fun b _ hr _ e => h.2.2.2.1 b hr (by rw [e]; exact hrow)), h.2.2.1.stored u, h.2.2.2.1, h.2.2.2.2.trans (M.mono fun b _ e => .inl (by rw [e]; omega))⟩
end
def clampL (ys : List Int) (b : Int) (i : Nat) : List Int := (ys.take i).map (fun y => min y b) ++ ys.drop i
theorem clampL_len (ys : List Int) (b : Int) (i : Nat) : (clampL ys b i).length = ys.length := by simp [clampL]; omega
theorem clampL_zero (ys : List Int) (b : Int) : clampL ys b 0 = ys := by simp [clampL]
theorem clampL_all (ys : List Int) (b : Int) : clampL ys b ys.length = ys.map fun y => min y b := by simp [clampL]
theorem clampL_nth (ys : List Int) (b : Int) {i : Nat} (hi : i < ys.length) : nth (clampL ys b i) i = nth ys i := by
 unfold nth clampL
 rw [List.getElem?_append_right (by simp; omega)]
 simp
 rw [Nat.min_eq_left (by omega), Nat.sub_self, Nat.add_zero]
theorem clampL_step (ys : List Int) (b : Int) {i : Nat} (hi : i < ys.length) : (clampL ys b i).set i (min (nth ys i) b) = clampL ys b (i + 1) := by
 unfold clampL
 rw [List.set_append_right _ _ (by simp; omega), take_nth hi, List.map_append, List.append_assoc]
 congr 1
 rw [List.length_map, List.length_take, Nat.min_eq_left (by omega), Nat.sub_self, show ys.drop i = ys[i] :: ys.drop (i + 1) from List.drop_eq_getElem_cons hi]
 rfl
theorem clampL_same (ys : List Int) (b : Int) {i : Nat} (hi : i < ys.length) (h : nth ys i ≤ b) : clampL ys b i = clampL ys b (i + 1) := by
 rw [← clampL_step ys b hi, Int.min_eq_left h]
 have h2 := clampL_nth ys b hi
 apply List.ext_getElem (by simp)
 intro k h3 h4
 rw [List.getElem_set]
 split
 ·rename_i e
  subst e
  rw [nth_eq h3] at h2
  rw [h2]
 ·rfl
theorem clamp_sum (ys : List Int) (b : Int) {i : Nat} (hi : i < ys.length) : ((ys.take (i + 1)).map fun y => min y b).sum = ((ys.take i).map fun y => min y b).sum + min (nth ys i) b := by
 rw [take_nth hi, List.map_append, List.sum_append]
 simp
end
section
open Go.RowKit
theorem own_at {w : World} {F : Nat → Prop} {e : TypeId} {A : Option Addr} {n c : Nat} {xs : List Value} (h : Own w F e 1 (.slice A n c) n xs) (hn : 0 < n) : ∃ g, A = some ⟨g, 0, none⟩ := by
 obtain ⟨g, e1, _⟩ := h.cell (j := 0) (by omega)
 exact ⟨g, e1⟩
end
section
open Go.RowKit
theorem rnorm_ends {W : World} {R : Ending → World → Prop} {b : Nat} {x y : Value} {z e : Int} {a : Act} (c0 : W.cell? ⟨b, 0, none⟩ = some x) (c1 : W.cell? ⟨b, 1, none⟩ = some y) (c2 : W.cell? ⟨b, 2, none⟩ = some (.int .i64 z))
  (h6 : a.tmps[6]? = some (.pointer (some ⟨b, 0, none⟩))) (h7 : a.tmps[7]? = some (.int .i64 e)) (hd : a.defers = []) (hR : R (.returned (.tuple #[.agg #[x, y, .int .i64 z], .int .i64 e])) W) : bodyPost Tryz.prog Tryz.f64 R .ret a W := by
 refine bodyPost_ret (v := .tuple #[.agg #[x, y, .int .i64 z], .int .i64 e]) ?_ hd hR
 simp [results, Tryz.f64, go_sem, c0, c1, c2, h6, h7]
set_option maxRecDepth 100000 in
set_option maxHeartbeats 16000000 in
theorem rnorm_any {w : World} {F G : Nat → Prop} {A B : Option Addr} {n cA m cB : Nat} {ls ks : List Int} {b : Int} (hl : Rd w F 1 (.slice A n cA) n (ints ls)) (hk : Rd w G 1 (.slice B m cB) m (ints ks)) (hi : ∀ x ∈ ls, I64 x) (hik : ∀ x ∈ ks, I64 x) (hb : I64 b) :
  Calls Tryz.prog 64 #[.slice A n cA, .slice B m cB, .int .i64 b] w fun r w' => (∃ pv, r = .returned (.tuple #[pv, .int .i64 (normed ls ks b).2]) ∧ PbRd w' (fun g => w.heap.size ≤ g) pv (normed ls ks b).1) ∧ Below w.heap.size w w' := by
 have hll : ls.length = n := by have := hl.1; simpa [ints_length] using this
 have hkl : ks.length = m := by have := hk.1; simpa [ints_length] using this
 unfold I64 at hb
 have Hll := hid hll
 have Hkl := hid hkl
 have Hi := hid hi
 have Hik := hid hik
 have hok0 : ∀ W : World, Below w.heap.size w W → ∀ e : Int, Go.Proofs.YtcjmpobccbnpkaaGreat.normed ls ks b = (⟨[], [], 0⟩, e) → W.cell? ⟨w.heap.size, 0, none⟩ = some (.slice none 0 0) → W.cell? ⟨w.heap.size, 1, none⟩ = some (.slice none 0 0) → W.cell? ⟨w.heap.size, 2, none⟩ = some (.int .i64 0) → ∀ a : Act, a.tmps[6]? = some (.pointer (some ⟨w.heap.size, 0, none⟩)) → a.tmps[7]? = some (.int .i64 e) → a.defers = [] →
   bodyPost Tryz.prog Tryz.f64 (fun r w' => (∃ pv, r = .returned (.tuple #[pv, .int .i64 (normed ls ks b).2]) ∧ PbRd w' (fun g => w.heap.size ≤ g) pv (normed ls ks b).1) ∧ Below w.heap.size w w') .ret a W := by
  intro W hB e he c0 c1 c2 a h6 h7 hd
  refine rnorm_ends c0 c1 c2 h6 h7 hd ⟨⟨_, by rw [he], ?_⟩, hB⟩
  rw [he]
  exact ⟨⟨none, 0, 0, none, 0, 0, rfl, ⟨rfl, none, 0, rfl, Nat.le_refl _, Nat.zero_le _, fun h => absurd h (by omega)⟩, ⟨rfl, none, 0, rfl, Nat.le_refl _, Nat.zero_le _, fun h => absurd h (by omega)⟩⟩, by show I64 0; unfold I64; omega⟩
 have Hok0 := hid hok0
 have hbad : normOk ls ks b = false → ∀ a : Act, a.tmps[6]? = some (.pointer (some ⟨w.heap.size, 0, none⟩)) → a.tmps[7]? = some (.int .i64 2) → a.defers = [] →
   bodyPost Tryz.prog Tryz.f64 (fun r w' => (∃ pv, r = .returned (.tuple #[pv, .int .i64 (normed ls ks b).2]) ∧ PbRd w' (fun g => w.heap.size ≤ g) pv (normed ls ks b).1) ∧ Below w.heap.size w w') .ret a (w.alloc (.cells #[.slice none 0 0, .slice none 0 0, .int .i64 0] 41)) := fun hb =>
  hok0 _ ((Below.refl _ _).alloc (Nat.le_refl _) _) 2 (by unfold Go.Proofs.YtcjmpobccbnpkaaGreat.normed; rw [if_pos hb]) (by rw [cell_of_row _ _ _ _ _ _ (heap_alloc_new _ _)]; rfl) (by rw [cell_of_row _ _ _ _ _ _ (heap_alloc_new _ _)]; rfl) (by rw [cell_of_row _ _ _ _ _ _ (heap_alloc_new _ _)]; rfl)
 have Hbad := hid hbad
 clear hok0 hbad hll hkl hi hik
 by_cases g1 : n = m
 ·subst g1
  by_cases g2 : n ≤ 65536
  ·by_cases g3 : -1099511627776 ≤ b
   ·by_cases g4 : b ≤ 1099511627776
    ·have q1 : ((65536 : Int) < (n : Int)) = False := by simp; omega
     have q1' : (65536 < n) = False := by simp; omega
     have q2 : decide (65536 < n) = false := by simp; omega
     have q3 : (b < -1099511627776) = False := by simp; omega
     have q4 : decide (b < -1099511627776) = false := by simp; omega
     have q5 : (1099511627776 < b) = False := by simp; omega
     have q6 : decide (1099511627776 < b) = false := by simp; omega
     obtain ⟨W1, hW1, b1, kR, sW1⟩ := alloc_step w (.cells #[.slice none 0 0, .slice none 0 0, .int .i64 0] 41)
     have Hl1 := hid ((hl.mono (G := fun g => g < w.heap.size) fun g hg _ => hg).below b1)
     have Hk1 := hid ((hk.mono (G := fun g => g < w.heap.size) fun g hg _ => hg).below b1)
     have KR := hid kR
     have B1 := hid b1
     have HW1 := hid hW1
     clear hl hk kR b1 hW1
     obtain ⟨t0, t1, t2⟩ := box3 KR.o
     have f0 : W1.frozen? ⟨w.heap.size, 0, none⟩ = false := by simp [World.frozen?, KR.o]
     have f1 : W1.frozen? ⟨w.heap.size, 1, none⟩ = false := by simp [World.frozen?, KR.o]
     have f2 : W1.frozen? ⟨w.heap.size, 2, none⟩ = false := by simp [World.frozen?, KR.o]
     go_enter Tryz.func64, Tryz.ntmps64
     go_wp2_with fail
     rw [HW1.o]
     go_loop [8] (fun iv => ∃ j : Nat, j ≤ n ∧ iv = .int .i64 j ∧ Hid (∀ i, i < j → inB ls ks i = true)) (fun iv => n - (intOf iv).toNat)
     case atStart => exact ⟨0, by omega, rfl, hid fun i hi => by omega⟩
     case round =>
      obtain ⟨j, hj, rfl, Hin⟩ := hrel
      by_cases hlt : j < n
      ·have x1 : (j : Int) < (n : Int) := by omega
       obtain ⟨g, o, rfl, _, hg, e0⟩ := Hl1.o.cell.2 j hlt
       obtain ⟨g', o', rfl, _, hg', e2⟩ := Hk1.o.cell.2 j hlt
       obtain ⟨li, hli⟩ : ∃ l, nth ls j = l := ⟨_, rfl⟩
       obtain ⟨ki, hki⟩ : ∃ l, nth ks j = l := ⟨_, rfl⟩
       rw [hli] at e0
       rw [hki] at e2
       have hin : inB ls ks j = (litB li && decide (-16777216 ≤ ki) && decide (ki ≤ 16777216)) := by unfold inB; rw [hli, hki]
       have Hin2 := hid hin
       clear hli hki hin
       have Hnb := hid (fun (h : inB ls ks j = false) => normed_bad (b := b) (by have := Hll.o; omega) h)
       go_wp2_with fail
       refine rlit_any.mono ?_
       rintro r w3 ⟨rfl, rfl⟩
       by_cases h1 : litB li = true
       ·rw [h1]
        by_cases h2 : -16777216 ≤ ki
        ·have r2 : decide (ki < -16777216) = false := by simp; omega
         by_cases h3 : ki ≤ 16777216
         ·have r4 : decide (16777216 < ki) = false := by simp; omega
          have hgood : inB ls ks j = true := by rw [Hin2.o, h1]; simp [h2, h3]
          have hin' : Hid (∀ i, i < j + 1 → inB ls ks i = true) := hid fun i hi => by
           by_cases e : i = j
           ·rw [e]; exact hgood
           ·exact Hin.o i (by omega)
          clear hgood h1
          go_wp2_with fail
          go_round
          case rel => exact ⟨j + 1, by omega, by go_num, hin'⟩
          case measure => simp [intOf]; omega
         ·have r4 : decide (16777216 < ki) = true := by simp; omega
          have hbad : inB ls ks j = false := by rw [Hin2.o]; simp [h3]
          go_wp2_with fail
          obtain ⟨u0, u1, u2, m3⟩ := set3 t0 t1 t2 (.slice none 0 0) (.slice none 0 0) (.int .i64 0)
          exact Hok0.o _ (below_mod B1.o (by omega) m3 fun g hg => by omega) 2 (Hnb.o hbad) u0 u1 u2 _ rfl rfl rfl
        ·have r2 : decide (ki < -16777216) = true := by simp; omega
         have hbad : inB ls ks j = false := by rw [Hin2.o]; simp [h2]
         go_wp2_with fail
         obtain ⟨u0, u1, u2, m3⟩ := set3 t0 t1 t2 (.slice none 0 0) (.slice none 0 0) (.int .i64 0)
         exact Hok0.o _ (below_mod B1.o (by omega) m3 fun g hg => by omega) 2 (Hnb.o hbad) u0 u1 u2 _ rfl rfl rfl
       ·have h1' : litB li = false := by simpa using h1
        have hbad : inB ls ks j = false := by rw [Hin2.o, h1']; rfl
        rw [h1']
        go_wp2_with fail
        obtain ⟨u0, u1, u2, m3⟩ := set3 t0 t1 t2 (.slice none 0 0) (.slice none 0 0) (.int .i64 0)
        exact Hok0.o _ (below_mod B1.o (by omega) m3 fun g hg => by omega) 2 (Hnb.o hbad) u0 u1 u2 _ rfl rfl rfl
      ·have hjn : j = n := by omega
       have Hall := hid (show ∀ i, i < ls.length → inB ls ks i = true by rw [Hll.o, ← hjn]; exact Hin.o)
       clear hjn Hin t0 t1 t2 f0 f1 f2
       go_wp2_with fail
       go_loopw [9, 10] (fun ov iv W => ∃ (j : Nat) (A1 : Option Addr) (nv c1 : Nat), j ≤ n ∧ iv = .int .i64 j ∧ ov = .slice A1 nv c1 ∧ nv ≤ j ∧ Hid (Rd W (fun g => W1.heap.size ≤ g) 1 (.slice A1 nv c1) nv (ints (vsR ls j))) ∧ Hid (Below W1.heap.size W1 W)) (fun _ iv _ => n - (intOf iv).toNat)
       case atStart => exact ⟨0, none, 0, 0, by omega, rfl, rfl, by omega, hid (Rd.empty _ _ _), hid (Below.refl _ _)⟩
       case round =>
        obtain ⟨j, A1, nv, c1, hj, rfl, rfl, hnv, HV, HB⟩ := hrel
        by_cases hlt : j < n
        ·have x1 : (j : Int) < (n : Int) := by omega
         obtain ⟨g, o, rfl, _, hg, e0⟩ := (Hl1.o.below HB.o).cell.2 j hlt
         have hlb := litB_iff.1 (inB_lit (Hall.o j (by rw [Hll.o]; exact hlt)))
         have hlen := vsR_len ls (j + 1)
         have hvs : vsR ls (j + 1) = insR ((nth ls j).natAbs : Nat) (vsR ls j) := rfl
         obtain ⟨li, hli⟩ : ∃ l, nth ls j = l := ⟨_, rfl⟩
         rw [hli] at e0 hlb hvs
         have Hvs := hid hvs
         clear hli hvs
         go_wp2_with fail
         refine (rvar_any (by omega) (by omega)).mono ?_
         rintro r w3 ⟨rfl, rfl⟩
         go_wp2_with fail
         refine (ins_any HV.o (by omega)).mono ?_
         rintro r w4 ⟨⟨R, cr, rfl, ho⟩, b4⟩
         rw [← Hvs.o] at ho ⊢
         have hs := HB.o.size
         have HO := hid (ho.rd.mono (G := fun g => W1.heap.size ≤ g) fun g _ h => Nat.le_trans hs h)
         have HB4 := hid (HB.o.trans (b4.mono hs))
         clear ho b4
         go_wp2_with fail
         go_roundw
         case rel => exact ⟨j + 1, R, _, cr, by omega, by go_num, rfl, hlen, HO, HB4⟩
         case measure => simp [intOf]; omega
        ·have hjn : j = n := by omega
         rw [hjn] at HV
         obtain ⟨V, hV⟩ : ∃ V, vsR ls n = V := ⟨_, rfl⟩
         rw [hV] at HV
         have Hn1 := hid (show nzR ls ks V = normVars ls ks by rw [← hV, ← Hll.o]; exact nzR_all Hall.o)
         have Hn2 := hid (show bdR ls ks b V = normBd ls ks b by rw [← hV, ← Hll.o]; exact bdR_all Hall.o)
         have Hvb := hid (show ∀ v ∈ V, 1 ≤ v ∧ v ≤ 65536 by
          intro v hv
          rw [← hV] at hv
          obtain ⟨i, hi, e⟩ := (vsR_mem ls v _).1 hv
          have := litB_iff.1 (inB_lit (Hall.o i (by rw [Hll.o]; exact hi)))
          omega)
         have hVl : V.length = nv := by have := HV.o.1; simpa [ints_length] using this
         have HVl := hid hVl
         have hnv6 : nv ≤ 65536 := by omega
         have Hok := hid (normed_ok (by rw [Hll.o, Hkl.o]) (by rw [Hll.o]; exact g2) g3 g4 Hall.o)
         clear hjn hV hVl hnv
         have Hl2 := hid (Hl1.o.below HB.o)
         have Hk2 := hid (Hk1.o.below HB.o)
         have KR2 := hid (keep_blk KR.o HB.o)
         have HBw := hid (B1.o.trans (HB.o.mono B1.o.size))
         have hsz := HB.o.size
         clear HB KR B1 Hl1 Hk1
         go_wp2_with fail
         have hTm := Two.made wr (.int .i64 0)
         obtain ⟨X3, hX, bX, _, sX⟩ := alloc_step wr (.cells #[.slice none 0 0, .slice none 0 0, .int .i64 0] 41)
         obtain ⟨Ob, hOb⟩ : ∃ z, wr.heap.size = z := ⟨_, rfl⟩
         rw [hX, hOb] at hTm
         rw [hX, hOb]
         have hOw : w.heap.size < Ob := by rw [← hOb]; have := lt_of_block KR2.o; exact this
         have Tm := hid hTm
         have Hl3 := hid (Hl2.o.below bX)
         have Hk3 := hid (Hk2.o.below bX)
         have HV3 := hid ((HV.o.mono (G := fun g => g < Ob) fun g hg _ => by omega).below bX)
         have KR3 := hid (keep_blk KR2.o bX)
         have HB3 := hid (HBw.o.trans (bX.mono HBw.o.size))
         clear hTm hX bX hOb sX Hl2 Hk2 HV KR2 HBw
         go_loopw [2, 12] (fun bv iv W => ∃ (i pn : Nat) (A1 : Option Addr) (c1 : Nat) (A2 : Option Addr) (c2 : Nat), i ≤ nv ∧ iv = .int .i64 i ∧ bv = .int .i64 (bdR ls ks b (V.take i)) ∧ pn ≤ i ∧ Hid ((nzR ls ks (V.take i)).length = pn) ∧
          Hid (Two Ob X3 W (.slice A1 pn c1) (.slice A2 pn c2) (.int .i64 0) (.slice A1 pn c1) (.slice A2 pn c2) pn pn (ints ((nzR ls ks (V.take i)).map fun v => if vsum ls ks ls.length v < 0 then -v else v)) (ints ((nzR ls ks (V.take i)).map fun v => (((vsum ls ks ls.length v).natAbs : Nat) : Int))))) (fun _ iv _ => nv - (intOf iv).toNat)
         case atStart => exact ⟨0, 0, none, 0, none, 0, by omega, rfl, by simp [bdR], by omega, hid rfl, Tm⟩
         case round =>
          obtain ⟨i, pn, A1, c1, A2, c2, hin, rfl, rfl, hpi, Hpn, Tr0⟩ := hrel
          have hbb := bdR_bounds (b := b) Hall.o (by rw [Hll.o]; exact g2) g3 g4 (V.take i)
          have hti : (V.take i).length = i := by rw [List.length_take, HVl.o]; omega
          rw [hti] at hbb
          by_cases hli : i < nv
          ·have x2 : (i : Int) < (nv : Int) := by omega
           obtain ⟨gV, oV, rfl, hVlt, hgV, hV0⟩ := HV3.o.cell.2 i hli
           have hvb := Hvb.o _ (nth_mem (show i < V.length by rw [HVl.o]; exact hli))
           have htk := take_nth (show i < V.length by rw [HVl.o]; exact hli)
           obtain ⟨v, hv⟩ : ∃ v, nth V i = v := ⟨_, rfl⟩
           rw [hv] at hV0 hvb htk
           have hbd := bdR_snoc ls ks b (V.take i) v
           have hnz := nzR_snoc ls ks (V.take i) v
           rw [← htk] at hbd hnz
           have hcb := vsum_bounds (ls := ls) (ks := ks) v ls.length Hall.o
           have hnb := nvs_bounds (ls := ls) (ks := ks) v ls.length Hall.o
           rw [Hll.o] at hcb hnb
           have Hcb := hid (fun k (hk : k ≤ n) => vsum_bounds (ls := ls) (ks := ks) v k (fun i hi => Hall.o i (by rw [Hll.o]; omega)))
           have Hnb := hid (fun k (hk : k ≤ n) => nvs_bounds (ls := ls) (ks := ks) v k (fun i hi => Hall.o i (by rw [Hll.o]; omega)))
           obtain ⟨bi, hbi⟩ : ∃ x, bdR ls ks b (V.take i) = x := ⟨_, rfl⟩
           rw [hbi] at hbb hbd ⊢
           have Hbd0 := hid hbd
           have Hnz0 := hid hnz
           have Hwv := hid (show IntKind.i64.wrap (-v) = -v from iw' (by omega) (by omega))
           obtain ⟨Wo, rfl⟩ : ∃ W : World, W = wr := ⟨_, rfl⟩
           have Hl4 := hid (Tr0.o.oldRd Hl3.o fun g hg => by omega)
           have Hk4 := hid (Tr0.o.oldRd Hk3.o fun g hg => by omega)
           have e9 := Tr0.o.old hV0 hVlt
           have E9 := hid e9
           clear htk hbd hnz hv hti e9 hbi
           go_wp2_with fail
           go_loopw [2, 13, 14] (fun bv cv kv W => ∃ k : Nat, k ≤ n ∧ kv = .int .i64 k ∧ cv = .int .i64 (vsum ls ks k v) ∧ bv = .int .i64 (bi - nvs ls ks k v) ∧ Hid (Below Wo.heap.size Wo W)) (fun _ _ kv _ => n - (intOf kv).toNat)
           case atStart => exact ⟨0, by omega, rfl, by simp [vsum], by simp [nvs], hid (Below.refl _ _)⟩
           case round =>
            obtain ⟨k, hkn, rfl, rfl, rfl, HBi⟩ := hrel
            have hck := Hcb.o k hkn
            have hnk := Hnb.o k hkn
            by_cases hlk : k < n
            ·have x3 : (k : Int) < (n : Int) := by omega
             obtain ⟨g, o, rfl, _, hg, e0⟩ := (Hl4.o.below HBi.o).cell.2 k hlk
             obtain ⟨g', o', rfl, _, hg', e2⟩ := (Hk4.o.below HBi.o).cell.2 k hlk
             have e3 := keep_cell E9.o HBi.o
             have hkk := inB_k (Hall.o k (by rw [Hll.o]; exact hlk))
             have hll6 := litB_iff.1 (inB_lit (Hall.o k (by rw [Hll.o]; exact hlk)))
             have hvs := vsum_succ ls ks k v
             have hns := nvs_succ ls ks k v
             obtain ⟨lk, hlk2⟩ : ∃ l, nth ls k = l := ⟨_, rfl⟩
             obtain ⟨kk, hkk2⟩ : ∃ l, nth ks k = l := ⟨_, rfl⟩
             obtain ⟨ck, hck2⟩ : ∃ x, vsum ls ks k v = x := ⟨_, rfl⟩
             obtain ⟨nk, hnk2⟩ : ∃ x, nvs ls ks k v = x := ⟨_, rfl⟩
             rw [hlk2] at e0 hll6 hvs hns
             rw [hkk2] at e2 hkk hvs hns
             rw [hck2] at hck hvs ⊢
             rw [hnk2] at hnk hns ⊢
             unfold term at hvs
             have Hvs := hid hvs
             have Hns := hid hns
             have hwv := Hwv.o
             clear hlk2 hkk2 hck2 hnk2 hvs hns
             by_cases h1 : lk = v
             ·subst h1
              have h2 : (lk == -lk) = false := by simp; omega
              have Hv2 := hid (show vsum ls ks (k + 1) lk = ck + kk by rw [Hvs.o, if_pos rfl])
              have Hn2 := hid (show nvs ls ks (k + 1) lk = nk by rw [Hns.o, if_neg (by omega)]; omega)
              clear Hvs Hns
              go_wp2_with fail
              go_quiet (fail)
              go_wp2_with fail
              go_quiet (fail)
              go_wp2_with fail
              go_roundw
              case rel => exact ⟨k + 1, by omega, by go_num, by rw [Hv2.o], by rw [Hn2.o], hid (Bl.drewN HBi.o _)⟩
              case measure => simp [intOf]; omega
             ·have h1b : (lk == v) = false := by simpa using h1
              by_cases h2 : lk = -v
              ·have h2b : (lk == -v) = true := by simpa using h2
               have Hv2 := hid (show vsum ls ks (k + 1) v = ck - kk by rw [Hvs.o, if_neg h1, if_pos h2]; omega)
               have Hn2 := hid (show nvs ls ks (k + 1) v = nk + kk by rw [Hns.o, if_pos h2])
               clear Hvs Hns h2
               go_wp2_with fail
               go_quiet (fail)
               go_wp2_with fail
               go_quiet (fail)
               go_wp2_with fail
               go_roundw
               case rel => exact ⟨k + 1, by omega, by go_num, by rw [Hv2.o], by rw [Hn2.o, show bi - (nk + kk) = bi - nk - kk by omega], hid (Bl.drewN HBi.o _)⟩
               case measure => simp [intOf]; omega
              ·have h2b : (lk == -v) = false := by simpa using h2
               have Hv2 := hid (show vsum ls ks (k + 1) v = ck by rw [Hvs.o, if_neg h1, if_neg h2]; omega)
               have Hn2 := hid (show nvs ls ks (k + 1) v = nk by rw [Hns.o, if_neg h2]; omega)
               clear Hvs Hns
               go_wp2_with fail
               go_quiet (fail)
               go_wp2_with fail
               go_quiet (fail)
               go_wp2_with fail
               go_roundw
               case rel => exact ⟨k + 1, by omega, by go_num, by rw [Hv2.o], by rw [Hn2.o], hid (Bl.drewN HBi.o _)⟩
               case measure => simp [intOf]; omega
            ·have hkn2 : k = n := by omega
             have Tr := hid (Tr0.o.belowW HBi.o)
             have hc0 : vsum ls ks k v = vsum ls ks ls.length v := by rw [hkn2, Hll.o]
             have hn0 : nvs ls ks k v = nvs ls ks ls.length v := by rw [hkn2, Hll.o]
             rw [hc0] at hck ⊢
             rw [hn0] at hnk ⊢
             obtain ⟨c, hc⟩ : ∃ x, vsum ls ks ls.length v = x := ⟨_, rfl⟩
             obtain ⟨nn, hnn⟩ : ∃ x, nvs ls ks ls.length v = x := ⟨_, rfl⟩
             have Hbd1 := hid (show bdR ls ks b (V.take (i + 1)) = bi - nn - min c 0 by rw [Hbd0.o, hc, hnn])
             have Hnz1 := hid (show nzR ls ks (V.take (i + 1)) = nzR ls ks (V.take i) ++ if c ≠ 0 then [v] else [] by rw [Hnz0.o, hc])
             rw [hc] at hck ⊢
             rw [hnn] at hnk ⊢
             have Hc := hid hc
             obtain ⟨W5, rfl⟩ : ∃ W : World, W = wr := ⟨_, rfl⟩
             have hwv := Hwv.o
             clear hkn2 hc0 hn0 hc hnn Tr0 HBi E9 Hl4 Hk4 Hbd0 Hnz0 Hcb Hnb hcb hnb
             by_cases hcp : 0 < c
             ·have Hbd := hid (show bdR ls ks b (V.take (i + 1)) = bi - nn by rw [Hbd1.o]; omega)
              have Hnz := hid (show nzR ls ks (V.take (i + 1)) = nzR ls ks (V.take i) ++ [v] by rw [Hnz1.o, if_pos (by omega)])
              have Hsg := hid (show (if vsum ls ks ls.length v < 0 then -v else v) = v by rw [Hc.o, if_neg (by omega)])
              have Hna := hid (show (((vsum ls ks ls.length v).natAbs : Nat) : Int) = c by rw [Hc.o]; omega)
              have hcn : ¬ c < 0 := by omega
              clear Hbd1 Hnz1
              go_wp2_with fail
              have T0 := hid Tr.o.drew
              refine wp_region_upto (S := fun w' => w'.cell? ⟨Ob, 0, none⟩ = some (.slice A1 pn c1) ∧ w'.cell? ⟨Ob, 1, none⟩ = some (.slice A2 pn c2) ∧ w'.cell? ⟨gV, oV + i, none⟩ = some (.int .i64 v)) 14 (by kernel_rfl) ⟨T0.o.c0, T0.o.c1, T0.o.old hV0 hVlt⟩ (fun hHeld => ?_)
              obtain ⟨W0, hW0⟩ : ∃ W, W5.drew = W := ⟨_, rfl⟩
              rw [hW0] at T0 hHeld ⊢
              clear hW0
              refine tu 0 ?_
              refine tv [14,7] 1 ?_
              refine tu 2 ?_
              refine tu 3 ?_
              refine tu 4 ?_
              refine tv [14,7,6] 5 ?_
              refine tu 8 ?_
              refine tv [14,12] 9 ?_
              refine tu 10 ?_
              refine ru [6,11] ?_
              refine cu (fun K hK => ?_) (cu (fun K hK => ?_) AllReadyU.nil)
              focus
               go_simp
               have R6 := hid (own_one W0 (.int .i64 v)).rd
               have Ta6 := hid (T0.o.alloc (.cells #[(.int .i64 v)] 3))
               have l6 := T0.o.rows
               have m6 := T0.o.swap.rows
               obtain ⟨Z6, hZ6⟩ : ∃ z, W0.heap.size = z := ⟨_, rfl⟩
               obtain ⟨W6, hW6⟩ : ∃ W, W0.alloc (.cells #[(.int .i64 v)] 3) = W := ⟨_, rfl⟩
               rw [hW6] at Ta6 R6 ⊢
               rw [hZ6] at R6 l6 m6 ⊢
               clear hW6 hZ6
               refine hK.out _ _ ⟨Ta6.o.c0, Ta6.o.c1, Ta6.o.old hV0 hVlt⟩ (fun hHeld => ?_)
               clear hK K
               refine ru [7,11] ?_
               refine cu (fun K hK => ?_) (cu (fun K hK => ?_) AllReadyU.nil)
               focus
                refine step_append_ints (m := 1) rfl _ _ rfl Ta6.o.2.1 R6.o rfl rfl (by simp [Value.oneCell']) (by omega) ?_
                intro Av7 cv7 W7 ho7 hm7 hr7
                have Tt7 := hid (Ta6.o.push ho7 hm7 hr7)
                have Tt7 := hid Tt7.o
                clear ho7 hm7 hr7
                refine hK.out _ _ ⟨Tt7.o.c0, Tt7.o.c1, Tt7.o.old hV0 hVlt⟩ (fun hHeld => ?_)
                clear hK K
                refine tu 13 ?_
                refine r1 11 fun K hK => ?_
                go_simp
                have R11 := hid (own_one W7 (.int .i64 c)).rd
                have Ta11 := hid (Tt7.o.alloc (.cells #[(.int .i64 c)] 3))
                have l11 := Tt7.o.rows
                have m11 := Tt7.o.swap.rows
                obtain ⟨Z11, hZ11⟩ : ∃ z, W7.heap.size = z := ⟨_, rfl⟩
                obtain ⟨W11, hW11⟩ : ∃ W, W7.alloc (.cells #[(.int .i64 c)] 3) = W := ⟨_, rfl⟩
                rw [hW11] at Ta11 R11 ⊢
                rw [hZ11] at R11 l11 m11 ⊢
                clear hW11 hZ11
                refine hK.out _ _ ⟨Ta11.o.c0, Ta11.o.c1, Ta11.o.old hV0 hVlt⟩ (fun hHeld => ?_)
                clear hK K
                refine r1 12 fun K hK => ?_
                refine step_append_ints (m := 1) rfl _ _ rfl Ta11.o.swap.2.1 R11.o rfl rfl (by simp [Value.oneCell']) (by omega) ?_
                intro Av12 cv12 W12 ho12 hm12 hr12
                have Tt12 := hid (Ta11.o.swap.push ho12 hm12 hr12)
               rotate_left
               focus
                have b3 : Below W6.heap.size W6 (W6.alloc (.cells #[(.int .i64 c)] 3)) := (Below.refl _ _).alloc (Nat.le_refl _) _
                have R6 := hid (R6.o.below b3)
                clear b3
                go_simp
                have R11 := hid (own_one W6 (.int .i64 c)).rd
                have Ta11 := hid (Ta6.o.alloc (.cells #[(.int .i64 c)] 3))
                have l11 := Ta6.o.rows
                have m11 := Ta6.o.swap.rows
                obtain ⟨Z11, hZ11⟩ : ∃ z, W6.heap.size = z := ⟨_, rfl⟩
                obtain ⟨W11, hW11⟩ : ∃ W, W6.alloc (.cells #[(.int .i64 c)] 3) = W := ⟨_, rfl⟩
                rw [hW11] at Ta11 R11 R6 ⊢
                rw [hZ11] at R11 l11 m11 ⊢
                clear hW11 hZ11
                refine hK.out _ _ ⟨Ta11.o.c0, Ta11.o.c1, Ta11.o.old hV0 hVlt⟩ (fun hHeld => ?_)
                clear hK K
                refine r1 7 fun K hK => ?_
                refine step_append_ints (m := 1) rfl _ _ rfl Ta11.o.2.1 R6.o rfl rfl (by simp [Value.oneCell']) (by omega) ?_
                intro Av7 cv7 W7 ho7 hm7 hr7
                have Tt7 := hid (Ta11.o.push ho7 hm7 hr7)
                have Tt7 := hid Tt7.o
                have R11 := hid (R11.o.mod hm7 (fun g _ hg hrow => by have := l11 g hrow; omega))
                clear ho7 hm7 hr7
                refine hK.out _ _ ⟨Tt7.o.c0, Tt7.o.c1, Tt7.o.old hV0 hVlt⟩ (fun hHeld => ?_)
                clear hK K
                refine tu 13 ?_
                refine r1 12 fun K hK => ?_
                refine step_append_ints (m := 1) rfl _ _ rfl Tt7.o.swap.2.1 R11.o rfl rfl (by simp [Value.oneCell']) (by omega) ?_
                intro Av12 cv12 W12 ho12 hm12 hr12
                have Tt12 := hid (Tt7.o.swap.push ho12 hm12 hr12)
              rotate_left 2
              focus
               go_simp
               have R11 := hid (own_one W0 (.int .i64 c)).rd
               have Ta11 := hid (T0.o.alloc (.cells #[(.int .i64 c)] 3))
               have l11 := T0.o.rows
               have m11 := T0.o.swap.rows
               obtain ⟨Z11, hZ11⟩ : ∃ z, W0.heap.size = z := ⟨_, rfl⟩
               obtain ⟨W11, hW11⟩ : ∃ W, W0.alloc (.cells #[(.int .i64 c)] 3) = W := ⟨_, rfl⟩
               rw [hW11] at Ta11 R11 ⊢
               rw [hZ11] at R11 l11 m11 ⊢
               clear hW11 hZ11
               refine hK.out _ _ ⟨Ta11.o.c0, Ta11.o.c1, Ta11.o.old hV0 hVlt⟩ (fun hHeld => ?_)
               clear hK K
               refine r1 6 fun K hK => ?_
               have b8 : Below W11.heap.size W11 (W11.alloc (.cells #[(.int .i64 v)] 3)) := (Below.refl _ _).alloc (Nat.le_refl _) _
               have R11 := hid (R11.o.below b8)
               clear b8
               go_simp
               have R6 := hid (own_one W11 (.int .i64 v)).rd
               have Ta6 := hid (Ta11.o.alloc (.cells #[(.int .i64 v)] 3))
               have l6 := Ta11.o.rows
               have m6 := Ta11.o.swap.rows
               obtain ⟨Z6, hZ6⟩ : ∃ z, W11.heap.size = z := ⟨_, rfl⟩
               obtain ⟨W6, hW6⟩ : ∃ W, W11.alloc (.cells #[(.int .i64 v)] 3) = W := ⟨_, rfl⟩
               rw [hW6] at Ta6 R6 R11 ⊢
               rw [hZ6] at R6 l6 m6 ⊢
               clear hW6 hZ6
               refine hK.out _ _ ⟨Ta6.o.c0, Ta6.o.c1, Ta6.o.old hV0 hVlt⟩ (fun hHeld => ?_)
               clear hK K
               refine r1 7 fun K hK => ?_
               refine step_append_ints (m := 1) rfl _ _ rfl Ta6.o.2.1 R6.o rfl rfl (by simp [Value.oneCell']) (by omega) ?_
               intro Av7 cv7 W7 ho7 hm7 hr7
               have Tt7 := hid (Ta6.o.push ho7 hm7 hr7)
               have Tt7 := hid Tt7.o
               have R11 := hid (R11.o.mod hm7 (fun g _ hg hrow => by have := l11 g hrow; omega))
               clear ho7 hm7 hr7
               refine hK.out _ _ ⟨Tt7.o.c0, Tt7.o.c1, Tt7.o.old hV0 hVlt⟩ (fun hHeld => ?_)
               clear hK K
               refine tu 13 ?_
               refine r1 12 fun K hK => ?_
               refine step_append_ints (m := 1) rfl _ _ rfl Tt7.o.swap.2.1 R11.o rfl rfl (by simp [Value.oneCell']) (by omega) ?_
               intro Av12 cv12 W12 ho12 hm12 hr12
               have Tt12 := hid (Tt7.o.swap.push ho12 hm12 hr12)
              all_goals
               have Tt12 := hid Tt12.o.swap
               clear ho12 hm12 hr12
               refine hK.out _ _ ⟨Tt12.o.c0, Tt12.o.c1, Tt12.o.old hV0 hVlt⟩ (fun hHeld => ?_)
               clear hK K
               refine l1 14 fun K hK => ?_
               have g0 := Tt12.o.c0
               have q0 := Tt12.o.f0
               go_simp
               refine hK.out _ _ ?_
               clear hK K g0 q0
               refine l1 15 fun K hK => ?_
               go_simp
               refine hK.out _ _ ?_
               clear hK K
               refine l1 16 fun K hK => ?_
               have Tp := hid (Tt12.o.put0 (.slice Av7 (pn + 1) cv7))
               have g1 := Tp.o.c1
               have q1 := Tp.o.f1
               go_simp
               refine hK.out _ _ ?_
               clear hK K g1 q1
               have Tz := Tp.o.put1 (.slice Av12 (pn + 1) cv12)
               refine wpAnyU_done (by kernel_rfl) ?_ _
               go_wp2_with fail
               go_roundw
               case rel => exact ⟨i + 1, pn + 1, Av7, cv7, Av12, cv12, by omega, by go_num, by rw [Hbd.o], by omega, hid (by rw [Hnz.o, List.length_append, Hpn.o]; rfl), hid (by rw [Hnz.o, List.map_append, List.map_append, ints_append, ints_append]; have h := Tz; simp only [List.map_cons, List.map_nil]; rw [Hsg.o, Hna.o]; exact h)⟩
               case measure => simp [intOf]; omega
             ·by_cases hcn : c < 0
              ·have Hbd := hid (show bdR ls ks b (V.take (i + 1)) = bi - nn - c by rw [Hbd1.o]; omega)
               have Hnz := hid (show nzR ls ks (V.take (i + 1)) = nzR ls ks (V.take i) ++ [v] by rw [Hnz1.o, if_pos (by omega)])
               have Hsg := hid (show (if vsum ls ks ls.length v < 0 then -v else v) = -v by rw [Hc.o, if_pos hcn])
               have Hna := hid (show (((vsum ls ks ls.length v).natAbs : Nat) : Int) = -c by rw [Hc.o]; omega)
               have hwc : IntKind.i64.wrap (-c) = -c := iw' (by omega) (by omega)
               clear Hbd1 Hnz1
               go_wp2_with fail
               have T0 := hid Tr.o.drew
               refine wp_region_upto (S := fun w' => w'.cell? ⟨Ob, 0, none⟩ = some (.slice A1 pn c1) ∧ w'.cell? ⟨Ob, 1, none⟩ = some (.slice A2 pn c2) ∧ w'.cell? ⟨gV, oV + i, none⟩ = some (.int .i64 v)) 16 (by kernel_rfl) ⟨T0.o.c0, T0.o.c1, T0.o.old hV0 hVlt⟩ (fun hHeld => ?_)
               obtain ⟨W0, hW0⟩ : ∃ W, W5.drew = W := ⟨_, rfl⟩
               rw [hW0] at T0 hHeld ⊢
               clear hW0
               refine tu 0 ?_
               refine tv [16,8] 1 ?_
               refine tu 2 ?_
               refine tu 3 ?_
               refine tu 4 ?_
               refine tv [16,8,7,6] 5 ?_
               refine tu 6 ?_
               refine tu 9 ?_
               refine tv [16,14] 10 ?_
               refine tu 11 ?_
               refine tu 12 ?_
               refine ru [7,13] ?_
               refine cu (fun K hK => ?_) (cu (fun K hK => ?_) AllReadyU.nil)
               focus
                go_simp
                have R7 := hid (own_one W0 (.int .i64 (-v))).rd
                have Ta7 := hid (T0.o.alloc (.cells #[(.int .i64 (-v))] 3))
                have l7 := T0.o.rows
                have m7 := T0.o.swap.rows
                obtain ⟨Z7, hZ7⟩ : ∃ z, W0.heap.size = z := ⟨_, rfl⟩
                obtain ⟨W7, hW7⟩ : ∃ W, W0.alloc (.cells #[(.int .i64 (-v))] 3) = W := ⟨_, rfl⟩
                rw [hW7] at Ta7 R7 ⊢
                rw [hZ7] at R7 l7 m7 ⊢
                clear hW7 hZ7
                refine hK.out _ _ ⟨Ta7.o.c0, Ta7.o.c1, Ta7.o.old hV0 hVlt⟩ (fun hHeld => ?_)
                clear hK K
                refine ru [8,13] ?_
                refine cu (fun K hK => ?_) (cu (fun K hK => ?_) AllReadyU.nil)
                focus
                 refine step_append_ints (m := 1) rfl _ _ rfl Ta7.o.2.1 R7.o rfl rfl (by simp [Value.oneCell']) (by omega) ?_
                 intro Av8 cv8 W8 ho8 hm8 hr8
                 have Tt8 := hid (Ta7.o.push ho8 hm8 hr8)
                 have Tt8 := hid Tt8.o
                 clear ho8 hm8 hr8
                 refine hK.out _ _ ⟨Tt8.o.c0, Tt8.o.c1, Tt8.o.old hV0 hVlt⟩ (fun hHeld => ?_)
                 clear hK K
                 refine tu 15 ?_
                 refine r1 13 fun K hK => ?_
                 go_simp
                 have R13 := hid (own_one W8 (.int .i64 (-c))).rd
                 have Ta13 := hid (Tt8.o.alloc (.cells #[(.int .i64 (-c))] 3))
                 have l13 := Tt8.o.rows
                 have m13 := Tt8.o.swap.rows
                 obtain ⟨Z13, hZ13⟩ : ∃ z, W8.heap.size = z := ⟨_, rfl⟩
                 obtain ⟨W13, hW13⟩ : ∃ W, W8.alloc (.cells #[(.int .i64 (-c))] 3) = W := ⟨_, rfl⟩
                 rw [hW13] at Ta13 R13 ⊢
                 rw [hZ13] at R13 l13 m13 ⊢
                 clear hW13 hZ13
                 refine hK.out _ _ ⟨Ta13.o.c0, Ta13.o.c1, Ta13.o.old hV0 hVlt⟩ (fun hHeld => ?_)
                 clear hK K
                 refine r1 14 fun K hK => ?_
                 refine step_append_ints (m := 1) rfl _ _ rfl Ta13.o.swap.2.1 R13.o rfl rfl (by simp [Value.oneCell']) (by omega) ?_
                 intro Av14 cv14 W14 ho14 hm14 hr14
                 have Tt14 := hid (Ta13.o.swap.push ho14 hm14 hr14)
                rotate_left
                focus
                 have b3 : Below W7.heap.size W7 (W7.alloc (.cells #[(.int .i64 (-c))] 3)) := (Below.refl _ _).alloc (Nat.le_refl _) _
                 have R7 := hid (R7.o.below b3)
                 clear b3
                 go_simp
                 have R13 := hid (own_one W7 (.int .i64 (-c))).rd
                 have Ta13 := hid (Ta7.o.alloc (.cells #[(.int .i64 (-c))] 3))
                 have l13 := Ta7.o.rows
                 have m13 := Ta7.o.swap.rows
                 obtain ⟨Z13, hZ13⟩ : ∃ z, W7.heap.size = z := ⟨_, rfl⟩
                 obtain ⟨W13, hW13⟩ : ∃ W, W7.alloc (.cells #[(.int .i64 (-c))] 3) = W := ⟨_, rfl⟩
                 rw [hW13] at Ta13 R13 R7 ⊢
                 rw [hZ13] at R13 l13 m13 ⊢
                 clear hW13 hZ13
                 refine hK.out _ _ ⟨Ta13.o.c0, Ta13.o.c1, Ta13.o.old hV0 hVlt⟩ (fun hHeld => ?_)
                 clear hK K
                 refine r1 8 fun K hK => ?_
                 refine step_append_ints (m := 1) rfl _ _ rfl Ta13.o.2.1 R7.o rfl rfl (by simp [Value.oneCell']) (by omega) ?_
                 intro Av8 cv8 W8 ho8 hm8 hr8
                 have Tt8 := hid (Ta13.o.push ho8 hm8 hr8)
                 have Tt8 := hid Tt8.o
                 have R13 := hid (R13.o.mod hm8 (fun g _ hg hrow => by have := l13 g hrow; omega))
                 clear ho8 hm8 hr8
                 refine hK.out _ _ ⟨Tt8.o.c0, Tt8.o.c1, Tt8.o.old hV0 hVlt⟩ (fun hHeld => ?_)
                 clear hK K
                 refine tu 15 ?_
                 refine r1 14 fun K hK => ?_
                 refine step_append_ints (m := 1) rfl _ _ rfl Tt8.o.swap.2.1 R13.o rfl rfl (by simp [Value.oneCell']) (by omega) ?_
                 intro Av14 cv14 W14 ho14 hm14 hr14
                 have Tt14 := hid (Tt8.o.swap.push ho14 hm14 hr14)
               rotate_left 2
               focus
                go_simp
                have R13 := hid (own_one W0 (.int .i64 (-c))).rd
                have Ta13 := hid (T0.o.alloc (.cells #[(.int .i64 (-c))] 3))
                have l13 := T0.o.rows
                have m13 := T0.o.swap.rows
                obtain ⟨Z13, hZ13⟩ : ∃ z, W0.heap.size = z := ⟨_, rfl⟩
                obtain ⟨W13, hW13⟩ : ∃ W, W0.alloc (.cells #[(.int .i64 (-c))] 3) = W := ⟨_, rfl⟩
                rw [hW13] at Ta13 R13 ⊢
                rw [hZ13] at R13 l13 m13 ⊢
                clear hW13 hZ13
                refine hK.out _ _ ⟨Ta13.o.c0, Ta13.o.c1, Ta13.o.old hV0 hVlt⟩ (fun hHeld => ?_)
                clear hK K
                refine r1 7 fun K hK => ?_
                have b8 : Below W13.heap.size W13 (W13.alloc (.cells #[(.int .i64 (-v))] 3)) := (Below.refl _ _).alloc (Nat.le_refl _) _
                have R13 := hid (R13.o.below b8)
                clear b8
                go_simp
                have R7 := hid (own_one W13 (.int .i64 (-v))).rd
                have Ta7 := hid (Ta13.o.alloc (.cells #[(.int .i64 (-v))] 3))
                have l7 := Ta13.o.rows
                have m7 := Ta13.o.swap.rows
                obtain ⟨Z7, hZ7⟩ : ∃ z, W13.heap.size = z := ⟨_, rfl⟩
                obtain ⟨W7, hW7⟩ : ∃ W, W13.alloc (.cells #[(.int .i64 (-v))] 3) = W := ⟨_, rfl⟩
                rw [hW7] at Ta7 R7 R13 ⊢
                rw [hZ7] at R7 l7 m7 ⊢
                clear hW7 hZ7
                refine hK.out _ _ ⟨Ta7.o.c0, Ta7.o.c1, Ta7.o.old hV0 hVlt⟩ (fun hHeld => ?_)
                clear hK K
                refine r1 8 fun K hK => ?_
                refine step_append_ints (m := 1) rfl _ _ rfl Ta7.o.2.1 R7.o rfl rfl (by simp [Value.oneCell']) (by omega) ?_
                intro Av8 cv8 W8 ho8 hm8 hr8
                have Tt8 := hid (Ta7.o.push ho8 hm8 hr8)
                have Tt8 := hid Tt8.o
                have R13 := hid (R13.o.mod hm8 (fun g _ hg hrow => by have := l13 g hrow; omega))
                clear ho8 hm8 hr8
                refine hK.out _ _ ⟨Tt8.o.c0, Tt8.o.c1, Tt8.o.old hV0 hVlt⟩ (fun hHeld => ?_)
                clear hK K
                refine tu 15 ?_
                refine r1 14 fun K hK => ?_
                refine step_append_ints (m := 1) rfl _ _ rfl Tt8.o.swap.2.1 R13.o rfl rfl (by simp [Value.oneCell']) (by omega) ?_
                intro Av14 cv14 W14 ho14 hm14 hr14
                have Tt14 := hid (Tt8.o.swap.push ho14 hm14 hr14)
               all_goals
                have Tt14 := hid Tt14.o.swap
                clear ho14 hm14 hr14
                refine hK.out _ _ ⟨Tt14.o.c0, Tt14.o.c1, Tt14.o.old hV0 hVlt⟩ (fun hHeld => ?_)
                clear hK K
                refine l1 16 fun K hK => ?_
                have g0 := Tt14.o.c0
                have q0 := Tt14.o.f0
                go_simp
                refine hK.out _ _ ?_
                clear hK K g0 q0
                refine l1 17 fun K hK => ?_
                go_simp
                refine hK.out _ _ ?_
                clear hK K
                refine l1 18 fun K hK => ?_
                have Tp := hid (Tt14.o.put0 (.slice Av8 (pn + 1) cv8))
                have g1 := Tp.o.c1
                have q1 := Tp.o.f1
                go_simp
                refine hK.out _ _ ?_
                clear hK K g1 q1
                have Tz := Tp.o.put1 (.slice Av14 (pn + 1) cv14)
                refine wpAnyU_done (by kernel_rfl) ?_ _
                go_wp2_with fail
                go_roundw
                case rel => exact ⟨i + 1, pn + 1, Av8, cv8, Av14, cv14, by omega, by go_num, by rw [Hbd.o], by omega, hid (by rw [Hnz.o, List.length_append, Hpn.o]; rfl), hid (by rw [Hnz.o, List.map_append, List.map_append, ints_append, ints_append]; have h := Tz; simp only [List.map_cons, List.map_nil]; rw [Hsg.o, Hna.o]; exact h)⟩
                case measure => simp [intOf]; omega
              ·have Hbd := hid (show bdR ls ks b (V.take (i + 1)) = bi - nn by rw [Hbd1.o]; omega)
               have Hnz := hid (show nzR ls ks (V.take (i + 1)) = nzR ls ks (V.take i) by rw [Hnz1.o, if_neg (by omega)]; simp)
               clear Hbd1 Hnz1
               go_wp2_with fail
               go_roundw
               case rel => exact ⟨i + 1, pn, A1, c1, A2, c2, by omega, by go_num, by rw [Hbd.o], by omega, hid (by rw [Hnz.o]; exact Hpn.o), hid (by rw [Hnz.o]; exact Tr.o)⟩
               case measure => simp [intOf]; omega
          ·have hie : i = nv := by omega
           have htV : V.take i = V := List.take_of_length_le (by rw [HVl.o]; omega)
           rw [htV, Hn1.o] at Hpn Tr0
           rw [htV, Hn2.o] at hbb
           rw [htV, Hn2.o]
           have hpn6 : pn ≤ 65536 := by omega
           have hcE : normCoefs ls ks b = ((normVars ls ks).map fun v => (((vsum ls ks ls.length v).natAbs : Nat) : Int)).map fun y => min y (normBd ls ks b) := by unfold normCoefs; rw [List.map_map]; rfl
           have hcB : ∀ x ∈ (normVars ls ks).map (fun v => (((vsum ls ks ls.length v).natAbs : Nat) : Int)), 0 ≤ x ∧ x ≤ 1099511627776 := fun x hx => by
            obtain ⟨v, _, rfl⟩ := List.mem_map.1 hx
            have := vsum_bounds (ls := ls) (ks := ks) v ls.length Hall.o
            rw [Hll.o] at this ⊢
            omega
           obtain ⟨NL, hNL⟩ : ∃ l, ((normVars ls ks).map fun v => if vsum ls ks ls.length v < 0 then -v else v) = l := ⟨_, rfl⟩
           obtain ⟨NC, hNC⟩ : ∃ l, ((normVars ls ks).map fun v => (((vsum ls ks ls.length v).natAbs : Nat) : Int)) = l := ⟨_, rfl⟩
           have hncl : NC.length = pn := by rw [← hNC, List.length_map]; exact Hpn.o
           obtain ⟨bd, hbd⟩ : ∃ x, normBd ls ks b = x := ⟨_, rfl⟩
           rw [hNL, hNC] at Tr0
           rw [hNC] at hcE hcB
           rw [hbd] at hcE hbb ⊢
           have HnL := hid hNL
           have HnC := hid hcE
           have HcB := hid hcB
           have HnB := hid hbd
           have Hncl := hid hncl
           have Bw := hid (below_mod HB3.o HB3.o.size Tr0.o.2.2.2.2 (fun g e => by omega))
           have KR4 := hid (Tr0.o.oldBlk KR3.o hOw)
           obtain ⟨t0, t1, t2⟩ := box3 KR4.o
           have f0 : wr.frozen? ⟨w.heap.size, 0, none⟩ = false := by simp [World.frozen?, KR4.o]
           have f1 : wr.frozen? ⟨w.heap.size, 1, none⟩ = false := by simp [World.frozen?, KR4.o]
           have f2 : wr.frozen? ⟨w.heap.size, 2, none⟩ = false := by simp [World.frozen?, KR4.o]
           clear htV hie hNL hNC hcE hcB hbd hncl hin
           by_cases hb0 : bd ≤ 0
           ·go_wp2_with fail
            obtain ⟨u0, u1, u2, m3⟩ := set3 t0 t1 t2 (.slice none 0 0) (.slice none 0 0) (.int .i64 0)
            exact Hok0.o _ (below_mod Bw.o Bw.o.size m3 fun g hg => by omega) 0 (by unfold Go.Proofs.YtcjmpobccbnpkaaGreat.normed; rw [if_neg (by rw [Hok.o]; simp), if_pos (by rw [HnB.o]; exact hb0)]) u0 u1 u2 _ rfl rfl rfl
           ·have hb1 : 0 < bd := by omega
            have HnB0 := hid (show ¬ normBd ls ks b ≤ 0 by rw [HnB.o]; exact hb0)
            have Hsb := hid (show ∀ k, k ≤ pn → 0 ≤ ((NC.take k).map fun y => min y bd).sum ∧ ((NC.take k).map fun y => min y bd).sum ≤ k * 1099511627776 by
             intro k
             induction k with
             | zero => intro _; simp
             | succ k ih =>
              intro hk
              have h1 := ih (by omega)
              have h2 := HcB.o _ (nth_mem (show k < NC.length by rw [Hncl.o]; omega))
              rw [clamp_sum NC bd (by rw [Hncl.o]; omega)]
              omega)
            rw [show ints NC = ints (clampL NC bd 0) by rw [clampL_zero]] at Tr0
            clear hb0 t0 t1 t2 f0 f1 f2
            go_wp2_with fail
            go_loopw [15, 16] (fun sv kv W => ∃ k : Nat, k ≤ pn ∧ kv = .int .i64 k ∧ sv = .int .i64 ((NC.take k).map fun y => min y bd).sum ∧ Hid (Two Ob X3 W (.slice A1 pn c1) (.slice A2 pn c2) (.int .i64 0) (.slice A1 pn c1) (.slice A2 pn c2) pn pn (ints NL) (ints (clampL NC bd k)))) (fun _ kv _ => pn - (intOf kv).toNat)
            case atStart => exact ⟨0, by omega, rfl, rfl, Tr0⟩
            case round =>
             obtain ⟨k, hk, rfl, rfl, Tk⟩ := hrel
             have c1' := Tk.o.c1
             have hsk := Hsb.o k hk
             by_cases hlk : k < pn
             ·have x3 : (k : Int) < (pn : Int) := by omega
              obtain ⟨gC, rfl⟩ := own_at Tk.o.2.2.1 (by omega)
              have hkN : k < NC.length := by rw [Hncl.o]; exact hlk
              obtain ⟨g', e5, hgF, hgl, hcc, hff⟩ := Tk.o.2.2.1.cell (j := k) (by omega)
              injection e5 with e5
              injection e5 with e5
              subst e5
              rw [ints_nth (by rw [clampL_len]; exact hkN), clampL_nth NC bd hkN] at hcc
              have hcs := clamp_sum NC bd hkN
              have hcp := clampL_step NC bd hkN
              have hcq := clampL_same NC bd hkN
              have hxb := HcB.o _ (nth_mem hkN)
              obtain ⟨x, hx⟩ : ∃ x, nth NC k = x := ⟨_, rfl⟩
              rw [hx] at hcc hcs hcp hcq hxb
              obtain ⟨s, hs⟩ : ∃ s, ((NC.take k).map fun y => min y bd).sum = s := ⟨_, rfl⟩
              rw [hs] at hcs hsk ⊢
              have hgO : Ob ≠ gC := by omega
              by_cases hbx : bd < x
              ·have Hs2 := hid (show ((NC.take (k + 1)).map fun y => min y bd).sum = s + bd by rw [hcs, Int.min_eq_right (by omega)])
               have Hcp := hid (show (clampL NC bd k).set k bd = clampL NC bd (k + 1) by rw [← hcp, Int.min_eq_right (by omega)])
               have Ts := hid (Tk.o.setC hlk (.int .i64 bd))
               have c1'' := Ts.o.c1
               clear hx hs hcs hcp hcq
               go_wp2_with fail
               go_roundw
               case rel => exact ⟨k + 1, by omega, by go_num, by rw [Hs2.o], hid (by rw [← Hcp.o, ints_set]; exact Ts.o)⟩
               case measure => simp [intOf]; omega
              ·have Hs2 := hid (show ((NC.take (k + 1)).map fun y => min y bd).sum = s + x by rw [hcs, Int.min_eq_left (by omega)])
               have Hcq := hid (hcq (by omega))
               clear hx hs hcs hcp hcq
               go_wp2_with fail
               go_roundw
               case rel => exact ⟨k + 1, by omega, by go_num, by rw [Hs2.o], hid (by rw [← Hcq.o]; exact Tk.o)⟩
               case measure => simp [intOf]; omega
             ·have hke : k = pn := by omega
              have htk : NC.take k = NC := List.take_of_length_le (by rw [Hncl.o]; omega)
              rw [show clampL NC bd k = normCoefs ls ks b by rw [HnC.o, hke, ← Hncl.o, clampL_all]] at Tk
              rw [htk] at hsk ⊢
              rw [← HnC.o] at hsk ⊢
              have Bk := hid (below_mod HB3.o HB3.o.size Tk.o.2.2.2.2 (fun g e => by omega))
              have KR5 := hid (Tk.o.oldBlk KR3.o hOw)
              obtain ⟨t0, t1, t2⟩ := box3 KR5.o
              have f0 : wr.frozen? ⟨w.heap.size, 0, none⟩ = false := by simp [World.frozen?, KR5.o]
              have f1 : wr.frozen? ⟨w.heap.size, 1, none⟩ = false := by simp [World.frozen?, KR5.o]
              have f2 : wr.frozen? ⟨w.heap.size, 2, none⟩ = false := by simp [World.frozen?, KR5.o]
              obtain ⟨s, hs⟩ : ∃ s, (normCoefs ls ks b).sum = s := ⟨_, rfl⟩
              rw [hs] at hsk ⊢
              have Hs := hid hs
              clear htk hke hs
              by_cases z1 : s < bd
              ·go_wp2_with fail
               obtain ⟨u0, u1, u2, m3⟩ := set3 t0 t1 t2 (.slice none 0 0) (.slice none 0 0) (.int .i64 1)
               have he : normed ls ks b = (⟨[], [], 1⟩, 0) := by
                unfold Go.Proofs.YtcjmpobccbnpkaaGreat.normed
                rw [if_neg (by rw [Hok.o]; simp), if_neg (by have := HnB0.o; omega), if_pos (by rw [Hs.o, HnB.o]; omega)]
               refine rnorm_ends u0 u1 u2 rfl rfl rfl ⟨⟨_, by rw [he], ?_⟩, below_mod Bk.o Bk.o.size m3 fun g hg => by omega⟩
               rw [he]
               exact ⟨⟨none, 0, 0, none, 0, 0, rfl, Rd.empty _ _ _, Rd.empty _ _ _⟩, by show I64 1; unfold I64; omega⟩
              ·by_cases z2 : 16777216 < bd
               ·go_wp2_with fail
                obtain ⟨u0, u1, u2, m3⟩ := set3 t0 t1 t2 (.slice none 0 0) (.slice none 0 0) (.int .i64 0)
                exact Hok0.o _ (below_mod Bk.o Bk.o.size m3 fun g hg => by omega) 3 (by
                 unfold Go.Proofs.YtcjmpobccbnpkaaGreat.normed
                 rw [if_neg (by rw [Hok.o]; simp), if_neg (by have := HnB0.o; omega), if_neg (by rw [Hs.o, HnB.o]; omega), if_pos (by rw [HnB.o]; omega)]) u0 u1 u2 _ rfl rfl rfl
               ·have c0' := Tk.o.c0
                have c2' := Tk.o.c2
                have g2' := Tk.o.f2
                have hOn : Ob ≠ w.heap.size := by omega
                have T6 := Tk.o.put2 (.int .i64 bd)
                obtain ⟨v0, v1, v2⟩ := box3 (T6.oldBlk KR3.o hOw)
                have d0 := T6.c0
                have d1 := T6.c1
                have d2 := T6.c2
                go_wp2_with fail
                obtain ⟨u0, u1, u2, m3⟩ := set3 v0 v1 v2 (.slice A1 pn c1) (.slice A2 pn c2) (.int .i64 bd)
                have he : normed ls ks b = (⟨NL, normCoefs ls ks b, bd⟩, 0) := by
                 unfold Go.Proofs.YtcjmpobccbnpkaaGreat.normed
                 rw [if_neg (by rw [Hok.o]; simp), if_neg (by have := HnB0.o; omega), if_neg (by rw [Hs.o, HnB.o]; omega), if_neg (by rw [HnB.o]; omega), HnL.o, HnB.o]
                refine rnorm_ends u0 u1 u2 rfl rfl rfl ⟨⟨_, by rw [he], ?_⟩, below_mod (below_mod HB3.o HB3.o.size T6.2.2.2.2 (fun g e => by omega)) (Nat.le_trans HB3.o.size T6.2.2.2.2.size) m3 fun g hg => by omega⟩
                rw [he]
                exact ⟨⟨_, _, _, _, _, _, rfl, (T6.2.1.rd.mod m3 fun g _ h1 h2 => by omega).mono fun g _ h => by omega, (T6.2.2.1.rd.mod m3 fun g _ h1 h2 => by omega).mono fun g _ h => by omega⟩, by show I64 bd; unfold I64; omega⟩
    ·have q1 : decide (65536 < n) = false := by simp; omega
     have q1a : ((65536 : Int) < (n : Int)) = False := by simp; omega
     have q3 : decide (b < -1099511627776) = false := by simp; omega
     have q3a : (b < -1099511627776) = False := by simp; omega
     have q6 : decide (1099511627776 < b) = true := by simp; omega
     have q6a : 1099511627776 < b := by omega
     go_enter Tryz.func64, Tryz.ntmps64
     go_wp2_with fail
     exact Hbad.o (by unfold normOk; simp; omega) _ rfl rfl rfl
   ·have q1 : decide (65536 < n) = false := by simp; omega
    have q1a : ((65536 : Int) < (n : Int)) = False := by simp; omega
    have q3 : decide (b < -1099511627776) = true := by simp; omega
    have q3a : b < -1099511627776 := by omega
    go_enter Tryz.func64, Tryz.ntmps64
    go_wp2_with fail
    exact Hbad.o (by unfold normOk; simp; omega) _ rfl rfl rfl
  ·have q1 : decide (65536 < n) = true := by simp; omega
   have q1a : (65536 : Int) < (n : Int) := by omega
   go_enter Tryz.func64, Tryz.ntmps64
   go_wp2_with fail
   exact Hbad.o (by unfold normOk; simp [Hll.o]; omega) _ rfl rfl rfl
 ·have q1 : ((n : Int) = (m : Int)) = False := by simp; omega
  have q2 : (n = m) = False := by simpa using g1
  have q3 : ((n : Int) != (m : Int)) = true := by simp; omega
  have q4 : (n != m) = true := by simpa using g1
  go_enter Tryz.func64, Tryz.ntmps64
  go_wp2_with fail
  exact Hbad.o (by unfold normOk; simp [Hll.o, Hkl.o, g1]) _ rfl rfl rfl
end
end Go.Proofs.YtcjmpobccbnpkaaGreat
