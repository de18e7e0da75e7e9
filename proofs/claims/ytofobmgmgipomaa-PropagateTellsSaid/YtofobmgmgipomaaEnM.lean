/-
  Walks of the law of chapter 29: total.
-/
import Derived.Test.YtofobmgmgipomaaEnL
import Derived.Test.YtofobmgmgipomaaMge
namespace Go.Proofs.Ytofobmgmgipomaa
open Go.RowKit

theorem mk_i8s7 (W : World) : (Instr.makeSlice 56 (.int .i64 7) (.int .i64 7)).run Try.prog W = .ok (.slice (some ⟨W.heap.size, 0, none⟩) 7 7) (W.alloc (.cells (madeCells #[.int .i8 0] 7) 58)) :=
  run_make_row' (P := Try.prog) 56 58 (.int .i8 0) 1 Try.underlying56 info_i8 rfl .i64 .i64 7 (by omega) (by omega) W
theorem own_i8s7 (w : World) : Own (w.alloc (.cells (madeCells #[.int .i8 0] 7) 58)) (fun g => g = w.heap.size) 58 1 (.slice (some ⟨w.heap.size, 0, none⟩) 7 7) 7 (i8s (List.replicate 7 0)) := by
  have e : i8s (List.replicate 7 0) = List.replicate 7 (Value.int .i8 0) := by simp [i8s]
  rw [e]
  exact own_new w _ 58 1 7 _ 7 _ (by simp) (by omega) (Nat.le_refl _) (by unfold maxLen; omega) (by simp [size_madeCells]) (by rw [toList_madeCells_one, Nat.mul_one, List.take_replicate, Nat.min_self]) rfl
/-- What total stores at an index. -/
def bit7 (b : Int) (i : Nat) : Int := IntKind.i8.wrap (IntKind.i8.wrap (IntKind.i8.wrap (bits BinOp.and IntKind.i64 (b / 2 ^ i) 1) * 2) - 1)
def totUp7 (b : Int) (j : Nat) : List Int := (List.range 7).map fun i => if i < j then bit7 b i else 0
theorem totUp7_len (b : Int) (j : Nat) : (totUp7 b j).length = 7 := by simp [totUp7]
theorem totUp7_nth (b : Int) (j : Nat) {i : Nat} (hi : i < 7) : nth (totUp7 b j) i = if i < j then bit7 b i else 0 := by
  rw [nth_eq (by rw [totUp7_len]; exact hi)]
  simp [totUp7]
theorem totUp7_set (b : Int) {i : Nat} : (totUp7 b i).set i (bit7 b i) = totUp7 b (i + 1) := by
  apply List.ext_getElem (by simp [totUp7_len])
  intro k h1 h2
  rw [totUp7_len] at h2
  rw [← nth_eq h1, ← nth_eq (by rw [totUp7_len]; exact h2), nth_set _ _ _ _ (by rw [totUp7_len]; exact h2), totUp7_nth b i h2, totUp7_nth b (i + 1) h2]
  by_cases e : i = k
  · subst e; rw [if_pos rfl, if_pos (show i < i + 1 by omega)]
  · rw [if_neg e]
    by_cases e2 : k < i
    · rw [if_pos e2, if_pos (show k < i + 1 by omega)]
    · rw [if_neg e2, if_neg (show ¬ k < i + 1 by omega)]
set_option maxRecDepth 100000 in
set_option maxHeartbeats 1000000 in
theorem total7_any {w : World} {b : Int} :
    Calls Try.prog 24 #[.int .i64 b] w fun r w' => ∃ Z, w.heap.size ≤ Z ∧ r = .returned (.slice (some ⟨Z, 0, none⟩) 7 7) ∧ Own w' (fun g => g = Z) 58 1 (.slice (some ⟨Z, 0, none⟩) 7 7) 7 (i8s (totUp7 b 7)) ∧ Below w.heap.size w w' := by
  have hmk := fun W => mk_i8s7 W
  go_enter Try.func24, Try.ntmps24
  go_wp2_with fail
  obtain ⟨Z, hZ⟩ : ∃ z, w.heap.size = z := ⟨_, rfl⟩
  have hoZ := own_i8s7 w
  have b4 : Below w.heap.size w (w.alloc (.cells (madeCells #[.int .i8 0] 7) 58)) := (Below.refl _ _).alloc (Nat.le_refl _) _
  obtain ⟨W4, hW4⟩ : ∃ W, w.alloc (.cells (madeCells #[.int .i8 0] 7) 58) = W := ⟨_, rfl⟩
  rw [hW4, hZ] at hoZ b4
  rw [hW4, hZ]
  have HoZ := hid hoZ
  have B4 := hid b4
  clear hW4 hoZ b4
  go_loopw [8] (fun iv W => ∃ i : Nat, i ≤ 7 ∧ iv = .int .i64 i ∧ Hid (Own W (fun g => g = Z) 58 1 (.slice (some ⟨Z, 0, none⟩) 7 7) 7 (i8s (totUp7 b i))) ∧ Hid (Below Z w W)) (fun iv _ => 7 - (intOf iv).toNat)
  case atStart => exact ⟨0, by omega, rfl, by rw [show totUp7 b 0 = List.replicate 7 0 by simp [totUp7, List.range_succ]]; exact HoZ, B4⟩
  case round =>
    obtain ⟨i, hi', rfl, Ho, Bz⟩ := hrel
    by_cases hlt : i < 7
    · have x1 : (i : Int) < 7 := by omega
      obtain ⟨g', e1, _, hg, hc, hf⟩ := Ho.out.cell (j := i) (by omega)
      injection e1 with e1
      injection e1 with e1
      subst e1
      rw [i8s_nth (by rw [totUp7_len]; omega)] at hc
      go_wp2_with fail
      go_roundw
      case rel =>
        refine ⟨i + 1, by omega, by go_num, ?_, hid (Bz.out.setCell (p := ⟨Z, i, none⟩) (Nat.le_refl _) _)⟩
        rw [← totUp7_set, i8s_set]
        exact hid (Ho.out.stored _)
      case measure => simp [intOf]; omega
    · obtain rfl : i = 7 := by omega
      go_wp2_with fail
      go_ret
      exact ⟨Z, by omega, rfl, Ho.out, hZ ▸ Bz.out⟩
end Go.Proofs.Ytofobmgmgipomaa
