/-
  Chapter 25: lemmas of CutWrong.
-/
import Derived.Test.YtooioikkgdgnnaaDoorCuE
import Derived.Test.YtooioikkgdgnnaaDoorPbW
import Derived.BigRegion
namespace Go.Proofs.YtooioikkgdgnnaaDoor
open Go.RowKit

theorem run_min (a b : Int) (w : World) : (Builtin.min_ #[3, 3] 3 #[.int .i64 a, .int .i64 b]).run Tryd.prog w = .ok (.int .i64 (min a b)) w := by
  unfold Builtin.min_
  simp only [go_sem, List.foldlM, Builtin.min2]
  by_cases h : b < a
  · have e : min a b = b := by omega
    rw [e]
    simp [h, go_sem]
  · have e : min a b = a := by omega
    rw [e]
    simp [h, go_sem]
theorem Rd.empty2 (w : World) (F : Nat → Prop) (R : Option Addr) : Rd w F 2 (.slice R 0 0) 0 (ocells []) := ⟨rfl, R, 0, rfl, Nat.le_refl _, Nat.zero_le _, fun h => absurd h (by omega)⟩
theorem lt_heap_refl (w : World) : w.heap.size ≤ w.heap.size := Nat.le_refl _
theorem mul_bad {a : Pb} {k : Int} (h : ¬ (1 ≤ k ∧ k ≤ 16777216)) : a.mulB k = (⟨[], [], 0⟩, 2) := by unfold Pb.mulB; rw [if_pos fun e => h e.2]; rfl
theorem div_bad {a : Pb} {k : Int} (h : ¬ (1 ≤ k ∧ k ≤ 16777216)) : a.divB k = (⟨[], [], 0⟩, 2) := by unfold Pb.divB; rw [if_pos fun e => h e.2]; rfl
theorem weak_bad {a : Pb} {k : Int} (h : ¬ (1 ≤ k ∧ k ≤ 65536)) : a.weakB k = (⟨[], [], 0⟩, 2) := by unfold Pb.weakB; rw [if_pos fun e => h e.2]; rfl
theorem bad_not : (⟨[1], [2], 1⟩ : Pb).ok = false := by decide
theorem add_bad {a : Pb} : a.addB ⟨[1], [2], 1⟩ = (⟨[], [], 0⟩, 2) := by unfold Pb.addB; rw [if_neg fun e => by rw [bad_not] at e; exact absurd e.2 (by decide)]; rfl
theorem bad_add {a : Pb} : Pb.addB ⟨[1], [2], 1⟩ a = (⟨[], [], 0⟩, 2) := by unfold Pb.addB; rw [if_neg fun e => by rw [bad_not] at e; exact absurd e.1 (by decide)]; rfl
theorem runFrom_bad {db s : List Pb} {op : Cop} {ops : List Cop} {e : Int} (h : (stepB db s op).2 = e) (he : e ≠ 0) : (runFrom db (op :: ops) s).2 = e := by
  show (if (stepB db s op).2 = 0 then runFrom db ops (stepB db s op).1 else (Pb.nil, (stepB db s op).2)).2 = _
  rw [h, if_neg he]
theorem run_one {a : Pb} (ha : a.Ok) (ops : List Cop) (hn : ops.length ≤ 10) : runB (⟨1, 0⟩ :: ops) [a] = runFrom [a] ops [a] := by
  unfold runB
  rw [if_neg (by
    have h1 : [a].all Pb.ok = true := by simp [(Pb.ok_iff a).2 ha]
    rw [h1]
    simp
    omega), runFrom_step (step_push (n := 0) (z := 0) (by simp) rfl)]
  rfl
theorem rnB {a : Pb} : runB [] [a] = (⟨[], [], 0⟩, 2) := by
  unfold runB
  split <;> rfl
theorem rnC : runB [⟨1, 0⟩] [⟨[1], [2], 1⟩] = (⟨[], [], 0⟩, 2) := by
  unfold runB
  rw [if_pos (.inr (by simp [bad_not]))]
  rfl
theorem rnD {a : Pb} (ha : a.Ok) : runB [⟨1, 0⟩] [a] = (a, 0) := by rw [run_one ha [] (by simp)]; rfl
set_option maxRecDepth 100000 in
theorem six_index (m : Int) (h : 0 ≤ m ∧ m < 6) : ∃ (kd : Nat) (z : Int), (∀ W : World, (Instr.index 45 (.agg #[.int .u8 2, .int .i64 0, .int .u8 1, .int .i64 0, .int .u8 6, .int .i64 0, .int .u8 0, .int .i64 0, .int .u8 1, .int .i64 1, .int .u8 1, .int .i64 (-1)]) (.int .u8 m)).run Tryd.prog W = .ok (.agg #[.int .u8 kd, .int .i64 z]) W) ∧
    ∀ a : Pb, a.Ok → (runB [⟨1, 0⟩, ⟨kd, z⟩] [a]).2 = 2 := by
  rcases (show m = 0 ∨ m = 1 ∨ m = 2 ∨ m = 3 ∨ m = 4 ∨ m = 5 by omega) with rfl | rfl | rfl | rfl | rfl | rfl
  · exact ⟨2, 0, fun W => by kernel_rfl, fun a ha => by rw [run_one ha _ (by simp)]; exact runFrom_bad rfl (by decide)⟩
  · exact ⟨1, 0, fun W => by kernel_rfl, fun a ha => by rw [run_one ha _ (by simp), runFrom_step (step_push (n := 0) (z := 0) (by simp) rfl)]; rfl⟩
  · exact ⟨6, 0, fun W => by kernel_rfl, fun a ha => by rw [run_one ha _ (by simp)]; exact runFrom_bad rfl (by decide)⟩
  · exact ⟨0, 0, fun W => by kernel_rfl, fun a ha => by rw [run_one ha _ (by simp)]; exact runFrom_bad rfl (by decide)⟩
  · exact ⟨1, 1, fun W => by kernel_rfl, fun a ha => by rw [run_one ha _ (by simp)]; exact runFrom_bad rfl (by decide)⟩
  · exact ⟨1, -1, fun W => by kernel_rfl, fun a ha => by rw [run_one ha _ (by simp)]; exact runFrom_bad rfl (by decide)⟩
theorem slice_op {g : Nat} (W : World) : (Instr.slice 35 (.slice (some ⟨g, 0, none⟩) 2 2) none (some (.int .i64 1)) none).run Tryd.prog W = .ok (.slice (some ⟨g, 0, none⟩) 1 2) W := by
  have h2 : (⟨g, 0, none⟩ : Addr).add 0 = ⟨g, 0, none⟩ := addr_add g 0 0
  simp [Instr.slice, Instr.sliceBounds, Instr.sliceBound, run_underlying Tryd.underlying35, asIntOf, h2, Tryd.sizeOf44]
theorem nm3 : normed [1, 2] [1, 1] 2 = (⟨[1, 2], [1, 1], 2⟩, 0) := (normed_cand (cand := [1, 2, 3]) (by decide) (by decide) (by decide)).trans (by rfl)
theorem mx1 : (Pb.mulB ⟨[1, 2], [1, 1], 1⟩ 16777216).2 = 0 := by
  rw [mulB_is (ok_iff' (by decide)) (by decide) (by decide) (by decide)]
  exact (congrArg Prod.snd (normed_cand (cand := [1, 2, 3]) (by decide) (by decide) (by decide))).trans (by rfl)
theorem mx2 : Pb.mulB ⟨[1, 2], [1, 1], 2⟩ 16777216 = (⟨[], [], 0⟩, 3) := by
  unfold Pb.mulB
  rw [if_neg (by decide), if_pos (by decide)]
end Go.Proofs.YtooioikkgdgnnaaDoor
