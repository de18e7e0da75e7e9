/-
  Chapter 24: the statements' own lists: Small, Total, holds.
-/
import Derived.Test.YtooioikkgdgnnaaDoorPbE
import Derived.Test.YtooioikkgdgnnaaDoorMaps
import Derived.Deep.OwnRows
namespace Go.Proofs.YtooioikkgdgnnaaDoor
open Go.RowKit

theorem info_i8 : (Tryd.prog.info? 107).map (fun i => (i.zero, i.size, i.bytes)) = some (some (.int .i8 0), 1, 1) := by kernel_rfl
theorem mk_i8s (W : World) : (Instr.makeSlice 79 (.int .i64 6) (.int .i64 6)).run Tryd.prog W = .ok (.slice (some ⟨W.heap.size, 0, none⟩) 6 6) (W.alloc (.cells (madeCells #[.int .i8 0] 6) 107)) :=
  run_make_row' (P := Tryd.prog) 79 107 (.int .i8 0) 1 Tryd.underlying79 info_i8 rfl .i64 .i64 6 (by omega) (by omega) W
def bitOf (b : Int) (i : Nat) : Bool := bits BinOp.and IntKind.u8 (b / 2 ^ i) 1 == 1
/-- The total assignment, of which the first j entries are set. -/
def totUp (b : Int) (j : Nat) : List Int := (List.range 6).map fun i => if i < j then (if bitOf b i = true then 1 else -1) else 0
theorem totUp_len (b : Int) (j : Nat) : (totUp b j).length = 6 := by simp [totUp]
theorem totUp_none (b : Int) : totUp b 0 = List.replicate 6 0 := by simp [totUp, List.range_succ]
theorem totUp_nth (b : Int) (j : Nat) {i : Nat} (hi : i < 6) : nth (totUp b j) i = if i < j then (if bitOf b i = true then 1 else -1) else 0 := by
  rw [nth_eq (by rw [totUp_len]; exact hi)]
  simp [totUp]
theorem totUp_set (b : Int) {i : Nat} (_hi : i < 6) : (totUp b i).set i (if bitOf b i = true then 1 else -1) = totUp b (i + 1) := by
  apply List.ext_getElem (by simp [totUp_len])
  intro k h1 h2
  rw [totUp_len] at h2
  rw [← nth_eq h1, ← nth_eq (by rw [totUp_len]; exact h2), nth_set _ _ _ _ (by rw [totUp_len]; exact h2), totUp_nth b i h2, totUp_nth b (i + 1) h2]
  by_cases e : i = k
  · subst e; rw [if_pos rfl, if_pos (show i < i + 1 by omega)]
  · rw [if_neg e]
    by_cases e2 : k < i
    · rw [if_pos e2, if_pos (show k < i + 1 by omega)]
    · rw [if_neg e2, if_neg (show ¬ k < i + 1 by omega)]
theorem i8s_set (xs : List Int) (k : Nat) (x : Int) : i8s (xs.set k x) = (i8s xs).set k (.int .i8 x) := by simp [i8s, List.map_set]
theorem own_i8s (w : World) : Own (w.alloc (.cells (madeCells #[.int .i8 0] 6) 107)) (fun g => g = w.heap.size) 107 1 (.slice (some ⟨w.heap.size, 0, none⟩) 6 6) 6 (i8s (List.replicate 6 0)) := by
  have e : i8s (List.replicate 6 0) = List.replicate 6 (Value.int .i8 0) := by simp [i8s]
  rw [e]
  exact own_new w _ 107 1 6 _ 6 _ (by simp) (by omega) (Nat.le_refl _) (by unfold maxLen; omega) (by simp [size_madeCells]) (by rw [toList_madeCells_one, Nat.mul_one, List.take_replicate, Nat.min_self]) rfl

set_option maxRecDepth 100000 in
set_option maxHeartbeats 1000000 in
theorem total_any {w : World} {b : Int} :
    Calls Tryd.prog 54 #[.int .u8 b] w fun r w' => ∃ Z, w.heap.size ≤ Z ∧ r = .returned (.slice (some ⟨Z, 0, none⟩) 6 6) ∧ Own w' (fun g => g = Z) 107 1 (.slice (some ⟨Z, 0, none⟩) 6 6) 6 (i8s (totUp b 6)) ∧ Below w.heap.size w w' := by
  have hmk := fun W => mk_i8s W
  go_enter Tryd.func54, Tryd.ntmps54
  go_wp2_with fail
  obtain ⟨Z, hZ⟩ : ∃ z, w.heap.size = z := ⟨_, rfl⟩
  have hoZ := own_i8s w
  have b4 : Below w.heap.size w (w.alloc (.cells (madeCells #[.int .i8 0] 6) 107)) := (Below.refl _ _).alloc (Nat.le_refl _) _
  obtain ⟨W4, hW4⟩ : ∃ W, w.alloc (.cells (madeCells #[.int .i8 0] 6) 107) = W := ⟨_, rfl⟩
  rw [hW4, hZ] at hoZ b4
  rw [hW4, hZ]
  have HoZ := hid hoZ
  have B4 := hid b4
  clear hW4 hoZ b4
  go_loopw [8] (fun iv W => ∃ i : Nat, i ≤ 6 ∧ iv = .int .i64 i ∧ Hid (Own W (fun g => g = Z) 107 1 (.slice (some ⟨Z, 0, none⟩) 6 6) 6 (i8s (totUp b i))) ∧ Hid (Below Z w W)) (fun iv _ => 6 - (intOf iv).toNat)
  case atStart => exact ⟨0, by omega, rfl, by rw [totUp_none]; exact HoZ, B4⟩
  case round =>
    obtain ⟨i, hi', rfl, Ho, Bz⟩ := hrel
    by_cases hlt : i < 6
    · have x1 : (i : Int) < 6 := by omega
      obtain ⟨g', e1, _, hg, hc, hf⟩ := Ho.out.cell (j := i) (by omega)
      injection e1 with e1
      injection e1 with e1
      subst e1
      rw [i8s_nth (by rw [totUp_len]; omega)] at hc
      have hts := totUp_set b hlt
      unfold bitOf at hts
      cases hbit : (bits BinOp.and IntKind.u8 (b / 2 ^ i) 1 == 1)
      · rw [hbit] at hts
        have Hts := hid hts
        clear hts
        go_wp2_with fail
        go_roundw
        case rel =>
          refine ⟨i + 1, by omega, by go_num, ?_, hid (Bz.out.setCell (p := ⟨Z, i, none⟩) (Nat.le_refl _) _)⟩
          rw [← Hts.out, i8s_set]
          exact hid (Ho.out.stored _)
        case measure => simp [intOf]; omega
      · rw [hbit] at hts
        have Hts := hid hts
        clear hts
        go_wp2_with fail
        go_roundw
        case rel =>
          refine ⟨i + 1, by omega, by go_num, ?_, hid ((Bz.out.setCell (p := ⟨Z, i, none⟩) (Nat.le_refl _) _).setCell (p := ⟨Z, i, none⟩) (Nat.le_refl _) _)⟩
          rw [← Hts.out, i8s_set]
          have := (Ho.out.stored (j := i) (.int .i8 (-1))).stored (j := i) (.int .i8 1)
          rw [List.set_set] at this
          exact hid this
        case measure => simp [intOf]; omega
    · obtain rfl : i = 6 := by omega
      go_wp2_with fail
      go_ret
      exact ⟨Z, by omega, rfl, Ho.out, hZ ▸ Bz.out⟩
end Go.Proofs.YtooioikkgdgnnaaDoor
