/-
  The reference of layer 31, on plain slices.
-/
import Derived.Test.YtdkbchpogmiohaaHeapW
import Derived.Deep.OwnRows
namespace Go.Proofs.Ytdkbchpogmiohaa
open Go.RowKit

/-- The reference's order as a value. -/
def RefAt (w : World) (F : Nat → Prop) (v : Value) (n : Nat) (xs : List Int) (inc : Int) : Prop :=
  ∃ A cap, v = .agg #[.slice A n cap, .int .i64 inc] ∧ Own w F 3 1 (.slice A n cap) n (ints xs)
theorem RefAt.below {w w' : World} {F : Nat → Prop} {v : Value} {n : Nat} {xs : List Int} {inc : Int} (e : RefAt w F v n xs inc) (hb : Below w.heap.size w w') : RefAt w' F v n xs inc := by
  obtain ⟨A, cap, rfl, h⟩ := e
  exact ⟨A, cap, rfl, h.below hb⟩
theorem zero_ref (w : World) : (zeroValue 52).run Try.prog w = .ok (.agg #[.slice none 0 0, .int .i64 0]) w := by kernel_rfl
theorem mk_ints (W : World) {n : Nat} (hn : n ≤ 65536) : (Instr.makeSlice 37 (.int .i64 n) (.int .i64 n)).run Try.prog W = .ok (.slice (some ⟨W.heap.size, 0, none⟩) n n) (W.alloc (.cells (madeCells #[.int .i64 0] n) 3)) :=
  run_make_row' (P := Try.prog) 37 3 (.int .i64 0) 8 Try.underlying37 info_int rfl .i64 .i64 n (by omega) (by omega) W

theorem zeros_nthX (n k : Nat) : nth (List.replicate n (0 : Int)) k = 0 := by
  unfold nth
  rw [List.getElem?_replicate]
  split <;> rfl
theorem heap_up_alloc {w : World} {b : Nat} {o o' : Obj} (h : w.heap[b]? = some o) : (w.alloc o').heap[b]? = some o := (Below.heap_alloc w o' b (lt_of_block h)).trans h

set_option maxRecDepth 100000 in
set_option maxHeartbeats 4000000 in
theorem rnew_ord {w : World} {n : Nat} (hn : n ≤ 65536) :
    Calls Try.prog 25 #[.int .i64 n] w fun r w' => (∃ v, r = .returned v ∧ RefAt w' (fun g => w.heap.size ≤ g) v n (List.replicate n 0) 1) ∧ Below w.heap.size w w' := by
  have hmk := fun W => mk_ints W hn
  have hz := zero_ref
  go_enter Try.func25, Try.ntmps25
  go_wp2_with fail
  refine bodyPost_ret (v := .agg #[.slice (some ⟨w.heap.size + 1, 0, none⟩) n n, .int .i64 1]) (by simp [results, Try.results25, go_sem]) rfl ⟨⟨_, rfl, _, _, rfl, ?_⟩, ((Below.refl _ _).alloc (Nat.le_refl _) _).alloc (by simp) _⟩
  have o := own_made (w.alloc (.cells #[.slice (some ⟨w.heap.size + 1, 0, none⟩) n n, .int .i64 1] 52)) n (by omega)
  simp at o
  exact o.mono fun g _ _ hg => by omega
set_option maxRecDepth 100000 in
set_option maxHeartbeats 4000000 in
theorem rrescale_ord {w : World} {F : Nat → Prop} {v : Value} {n : Nat} {xs : List Int} {inc : Int} (hv : RefAt w F v n xs inc) (hn : n ≤ 65536) (hx : ∀ j, 0 ≤ nth xs j ∧ nth xs j ≤ 2305843009213693952) (hi : 0 ≤ inc ∧ inc ≤ 2305843009213693952) :
    Calls Try.prog 52 #[v] w fun r w' => (∃ v, r = .returned v ∧ RefAt w' (fun g => w.heap.size ≤ g) v n (xs.map low) (one_or (low inc))) ∧ Below w.heap.size w w' := by
  have hmk := fun W => mk_ints W hn
  have hz := zero_ref
  obtain ⟨A, cap, rfl, O0⟩ := hv
  go_enter Try.func52, Try.ntmps52
  go_wp2_with fail
  have hxl : xs.length = n := by have := O0.1; simpa [ints_length] using this
  have b3 : Below w.heap.size w (((w.alloc (.cells #[.slice A n cap, .int .i64 inc] 52)).alloc (.cells #[.slice none 0 0, .int .i64 0] 52)).alloc (.cells (madeCells #[.int .i64 0] n) 3)) := (((Below.refl _ _).alloc (Nat.le_refl _) _).alloc (by simp) _).alloc (by simp; omega) _
  have o3 := own_made ((w.alloc (.cells #[.slice A n cap, .int .i64 inc] 52)).alloc (.cells #[.slice none 0 0, .int .i64 0] 52)) n (by omega)
  have g3 : (((w.alloc (.cells #[.slice A n cap, .int .i64 inc] 52)).alloc (.cells #[.slice none 0 0, .int .i64 0] 52)).alloc (.cells (madeCells #[.int .i64 0] n) 3)).heap[w.heap.size]? = some (.cells #[.slice A n cap, .int .i64 inc] 52 (0, 0)) := heap_up_alloc (heap_alloc2_old w _ _)
  have h3 : (((w.alloc (.cells #[.slice A n cap, .int .i64 inc] 52)).alloc (.cells #[.slice none 0 0, .int .i64 0] 52)).alloc (.cells (madeCells #[.int .i64 0] n) 3)).heap[w.heap.size + 1]? = some (.cells #[.slice none 0 0, .int .i64 0] 52 (0, 0)) := heap_up_alloc (heap_alloc2_new w _ _)
  simp at o3
  generalize (((w.alloc (.cells #[.slice A n cap, .int .i64 inc] 52)).alloc (.cells #[.slice none 0 0, .int .i64 0] 52)).alloc (.cells (madeCells #[.int .i64 0] n) 3)) = w3 at *
  obtain ⟨b, hb⟩ : ∃ b, w.heap.size = b := ⟨_, rfl⟩
  have Ob := hid (O0.below b3)
  rw [hb] at o3 g3 h3 b3 ⊢
  have s3 := lt_of_block h3
  have O3 := hid o3
  have B3 := hid b3
  have G3 := hid g3
  have H3 := hid h3
  have Hx := hid hx
  have Hl := hid hxl
  have Hi := hid hi
  have O0h := hid O0
  clear o3 b3 g3 h3 hxl hx hmk hz O0 hi
  go_loopw [4] (fun iv W => ∃ (i : Nat) (ys : List Int), i ≤ n ∧ iv = .int .i64 i ∧ Hid (Own W (fun k => k = b + 1 + 1) 3 1 (.slice (some ⟨b + 1 + 1, 0, none⟩) n n) n (ints ys)) ∧ Hid (∀ k, k < n → nth ys k = if k < i then low (nth xs k) else 0) ∧ Hid (Below (b + 2) w3 W)) (fun iv _ => n - (intOf iv).toNat)
  case atStart => exact ⟨0, List.replicate n 0, by omega, rfl, O3, hid fun k _ => (zeros_nthX n k).trans (by simp), Below.refl _ _⟩
  case round =>
    obtain ⟨i, ys, hin, rfl, O, E, B⟩ := hrel
    have sz := B.out.size
    have G4 : wr.heap[b]? = some (.cells #[.slice A n cap, .int .i64 inc] 52 (0, 0)) := (B.out.block b (by omega)).trans G3.out
    have H4 : wr.heap[b + 1]? = some (.cells #[.slice none 0 0, .int .i64 0] 52 (0, 0)) := (B.out.block (b + 1) (by omega)).trans H3.out
    have c0 := (cell_of_row wr b 0 _ _ _ G4).trans rfl
    have c1 := (cell_of_row wr b 1 _ _ _ G4).trans rfl
    have d0 := (cell_of_row wr (b + 1) 0 _ _ _ H4).trans rfl
    have d1 := (cell_of_row wr (b + 1) 1 _ _ _ H4).trans rfl
    have f0 := frozen_of_row wr (b + 1) 0 _ _ H4
    have f1 := frozen_of_row wr (b + 1) 1 _ _ H4
    have HG4 := hid G4
    have HH4 := hid H4
    clear G4 H4
    have lys : ys.length = n := by have := O.out.1; simpa [ints_length] using this
    by_cases hlt : i < n
    · have x1 : (i : Int) < (n : Int) := by omega
      obtain ⟨ga, rfl, _, hga, e1, _⟩ := O0h.out.cell (j := i) (by omega)
      rw [ints_nth (by have := Hl.out; omega)] at e1
      have e1 : wr.cell? ⟨ga, i, none⟩ = some (.int .i64 (nth xs i)) := ((B.out.cell (p := ⟨ga, i, none⟩) (by show ga < b + 2; omega)).trans (B3.out.cell (p := ⟨ga, i, none⟩) (by show ga < b; omega))).trans e1
      obtain ⟨_, he, _, _, e2, f2⟩ := O.out.cell (j := i) (by omega)
      injection he with he; injection he with he _ _; subst he
      rw [ints_nth (by omega)] at e2
      obtain ⟨x, hx⟩ : ∃ x, nth xs i = x := ⟨_, rfl⟩
      rw [hx] at e1
      have hxb : 0 ≤ x ∧ x ≤ 2305843009213693952 := by rw [← hx]; exact Hx.out i
      obtain ⟨q, hq⟩ : ∃ q, low x = q := ⟨_, rfl⟩
      have hq1 : x.tdiv 1073741824 = q := by rw [Int.tdiv_eq_ediv_of_nonneg hxb.1]; exact hq
      have hqb : 0 ≤ q ∧ q ≤ 2305843009213693952 := by unfold low at hq; omega
      have hq2 : IntKind.i64.wrap q = q := iw (by omega) (by omega)
      have Hxx := hid hx
      have Hq := hid hq
      clear hx hq hxb
      go_wp2_with fail
      go_roundw
      case rel =>
        refine ⟨i + 1, ys.set i q, by omega, by go_num, ?_, hid fun k hk => ?_, ?_⟩
        · rw [ints_set]; exact O.out.stored _
        · rw [nth_set _ _ _ _ (by omega), E.out k hk]
          by_cases a : i = k
          · subst a; rw [if_pos rfl, if_pos (by omega), Hxx.out, Hq.out]
          · rw [if_neg a]
            by_cases a2 : k < i
            · rw [if_pos a2, if_pos (by omega)]
            · rw [if_neg a2, if_neg (by omega)]
        · have m : Mod (fun k => k = b + 1 + 1) wr (wr.setCell ⟨b + 1 + 1, i, none⟩ (.int .i64 q)) := (Mod.refl (fun k => k = b + 1 + 1) _).setCell (p := ⟨b + 1 + 1, i, none⟩) (.inl rfl) _
          exact B.out.trans ((m.mono (G := fun k => b + 2 ≤ k) fun k _ hk => by omega).base (by omega))
      case measure => simp [intOf]; omega
    · have x1 : (n : Int) ≤ (i : Int) := by omega
      have lst : Hid (ys = xs.map low) := nth_ext (by rw [List.length_map, Hl.out, lys]) fun k hk => by
        rw [nth_map (by have := Hl.out; omega), E.out k (by omega), if_pos (by omega)]
      have hib := Hi.out
      obtain ⟨q, hq⟩ : ∃ q, low inc = q := ⟨_, rfl⟩
      have hq1 : inc.tdiv 1073741824 = q := by rw [Int.tdiv_eq_ediv_of_nonneg hib.1]; exact hq
      have hqb : 0 ≤ q ∧ q ≤ 2305843009213693952 := by unfold low at hq; omega
      have hq2 : IntKind.i64.wrap q = q := iw (by omega) (by omega)
      have Hq := hid hq
      clear hq hib lys
      have hone : Hid (one_or (low inc) = max 1 q) := by rw [Hq.out]; refine hid ?_; unfold one_or; split <;> omega
      go_wp2_with fail
      have m : Mod (fun k => k = b + 1) wr ((wr.setCell ⟨b + 1, 0, none⟩ (.slice (some ⟨b + 1 + 1, 0, none⟩) n n)).setCell ⟨b + 1, 1, none⟩ (.int .i64 (max 1 q))) := ((Mod.refl (fun k => k = b + 1) _).setCell (p := ⟨b + 1, 0, none⟩) (.inl rfl) _).setCell (p := ⟨b + 1, 1, none⟩) (.inl rfl) _
      refine bodyPost_ret (v := .agg #[.slice (some ⟨b + 1 + 1, 0, none⟩) n n, .int .i64 (max 1 q)]) (by simp [results, Try.results52, go_sem, d0, d1]) rfl ⟨⟨_, rfl, _, _, by rw [hone.out], ?_⟩, ?_⟩
      · rw [← lst.out]
        exact (O.out.mod m fun g _ _ h1 h2 => by omega).mono fun g _ _ h1 => by omega
      · rw [hb]; exact (B3.out.trans (B.out.mono (by omega))).trans ((m.mono (G := fun k => b ≤ k) fun k _ hk => by omega).base (by omega))
end Go.Proofs.Ytdkbchpogmiohaa
