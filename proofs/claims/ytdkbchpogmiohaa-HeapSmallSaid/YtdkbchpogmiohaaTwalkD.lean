/-
  Walks: the trail's New, push, Lits, Reason.
-/
import Derived.Test.YtdkbchpogmiohaaTwalkC
namespace Go.Proofs.Ytdkbchpogmiohaa
open Go.RowKit
open Go.ChangeMaps

theorem Mod.setBlock {F : Nat → Prop} {a w : World} (h : Mod F a w) {m : Nat} {es : Array MapEntry} {clock : Nat} (hm : w.heap[m]? = some (.map es clock)) (hF : F m ∨ a.heap.size ≤ m) (o : Obj) : Mod F a (setBlock w m o) :=
  h.trans ⟨rfl, rfl, rfl, by simp [ChangeMaps.setBlock], fun k _ hk => heap_setBlock_other hm o (fun e => hk (e ▸ hF))⟩

set_option maxHeartbeats 400000 in
theorem new_ok {w : World} {vars : Nat} (hv : vars ≤ 65536) :
    Calls Try.prog 15 #[.int .i64 vars] w fun r w' => (∃ b, r = .returned (.tuple #[.pointer (some ⟨b, 0, none⟩), .int .i64 0]) ∧ Trail w' (fun g => w.heap.size ≤ g) b ⟨vars, [], []⟩) ∧ Below w.heap.size w w' := by
  have hlt : ((vars : Int) < 0) = False := by simp
  have hmm := @run_makeMap Try.prog
  go_enter Try.func15, Try.ntmps15
  go_wp2
  go_ret2
  refine ⟨⟨_, rfl, ⟨hv, by simp, by simp, by simp, by simp, by simp, by simp⟩, w.heap.size, #[], 0, .slice none 0 0, .slice none 0 0, ?_⟩, ((Below.refl _ _).alloc (Nat.le_refl _) _).alloc (by simp) _⟩
  exact { hb := by simp, hm := by simp, blk := heap_alloc2_new w _ _, map := heap_alloc2_old w _ _, size := rfl, ents := by simp, lits := Own.nil _ _ _ _, starts := Own.nil _ _ _ _, apart := by simp [row] }
set_option maxHeartbeats 400000 in
theorem new_bad {w : World} {vars : Int} (hv : vars < 0 ∨ 65536 < vars) :
    Calls Try.prog 15 #[.int .i64 vars] w fun r w' => r = .returned (.tuple #[.pointer none, .int .i64 2]) ∧ w = w' := by
  rcases hv with hv | hv
  all_goals
    go_enter Try.func15, Try.ntmps15
    go_wp2
    go_ret2
    exact ⟨rfl, rfl⟩

end Go.Proofs.Ytdkbchpogmiohaa
