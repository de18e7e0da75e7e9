/-
  Walks: the trail's New, push, Lits, Reason.
-/
import Derived.Test.YtbghfdhijlpogaaTwalkC
namespace Go.Proofs.Ytbghfdhijlpogaa
open Go.RowKit
open Go.ChangeMaps

theorem Mod.setBlock {F : Nat → Prop} {a w : World} (h : Mod F a w) {m : Nat} {es : Array MapEntry} {clock : Nat} (hm : w.heap[m]? = some (.map es clock)) (hF : F m ∨ a.heap.size ≤ m) (o : Obj) : Mod F a (setBlock w m o) :=
  h.trans ⟨rfl, rfl, rfl, by simp [ChangeMaps.setBlock], fun k _ hk => heap_setBlock_other hm o (fun e => hk (e ▸ hF))⟩

set_option maxHeartbeats 400000 in
theorem new_ok {w : World} {vars : Nat} (hv : vars ≤ 65536) :
    Calls Try.prog 22 #[.int .i64 vars] w fun r w' => (∃ b, r = .returned (.tuple #[.pointer (some ⟨b, 0, none⟩), .int .i64 0]) ∧ Trail w' (fun g => w.heap.size ≤ g) b ⟨vars, [], []⟩) ∧ Below w.heap.size w w' := by
  have hlt : ((vars : Int) < 0) = False := by simp
  have hmm := @run_makeMap Try.prog
  go_enter Try.func22, Try.ntmps22
  go_wp2
  go_ret2
  refine ⟨⟨_, rfl, ⟨hv, by simp, by simp, by simp, by simp, by simp, by simp⟩, w.heap.size, #[], 0, .slice none 0 0, .slice none 0 0, ?_⟩, ((Below.refl _ _).alloc (Nat.le_refl _) _).alloc (by simp) _⟩
  exact { hb := by simp, hm := by simp, blk := heap_alloc2_new w _ _, map := heap_alloc2_old w _ _, size := rfl, ents := by simp, lits := Own.nil _ _ _ _, starts := Own.nil _ _ _ _, apart := by simp [row] }
set_option maxHeartbeats 400000 in
theorem new_bad {w : World} {vars : Int} (hv : vars < 0 ∨ 65536 < vars) :
    Calls Try.prog 22 #[.int .i64 vars] w fun r w' => r = .returned (.tuple #[.pointer none, .int .i64 2]) ∧ w = w' := by
  rcases hv with hv | hv
  all_goals
    go_enter Try.func22, Try.ntmps22
    go_wp2
    go_ret2
    exact ⟨rfl, rfl⟩

set_option maxHeartbeats 400000 in
theorem lits_any {w : World} {F : Nat → Prop} {b : Nat} {T : Tr} (ht : Trail w F b T) :
    Calls Try.prog 10 #[.pointer (some ⟨b, 0, none⟩)] w fun r w' => (∃ u, r = .returned u ∧ Own w' (fun g => w.heap.size ≤ g) 3 1 u T.L.length (ints T.lits)) ∧ Below w.heap.size w w' := by
  obtain ⟨m, Al, cl, As, cs, c0, c1, c2, c3, hl, _⟩ := ht.cells
  have h1 := ht.wf.len
  have h2 := ht.wf.vars
  go_enter Try.func10, Try.ntmps10
  go_wp2_with (first | (go_at_call 30; refine (none_any ht).mono ?_; rintro r w1 ⟨rfl, rfl⟩) | (go_at_call 31; refine (clone_any hl.rd (by omega)).mono ?_; rintro r w1 ⟨⟨u, rfl, ho⟩, hb⟩))
  go_ret
  exact ⟨⟨_, rfl, ho⟩, hb⟩
set_option maxHeartbeats 400000 in
theorem reason_any {w : World} {F : Nat → Prop} {b : Nat} {T : Tr} (ht : Trail w F b T) {v : Int} (hlen : (T.reasonOf v).length ≤ 17592186044416) :
    Calls Try.prog 19 #[.pointer (some ⟨b, 0, none⟩), .int .i64 v] w fun r w' => (∃ u, r = .returned u ∧ Own w' (fun g => w.heap.size ≤ g) 3 1 u (T.reasonOf v).length (ints (T.reasonOf v))) ∧ Below w.heap.size w w' := by
  cases hx : T.idx v with
  | none =>
    have hv : T.reasonOf v = [] := by simp [Tr.reasonOf, hx]
    rw [hv]
    clear hv hlen
    go_enter Try.func19, Try.ntmps19
    go_wp2_with (first | (go_at_call 32; refine (find_no ht hx).mono ?_; rintro r w1 ⟨rfl, hb⟩) | (go_at_call 31; refine (clone_any (xs := []) (Own.nil _ (fun _ => False) 0 1).rd (by omega)).mono ?_; rintro r w2 ⟨⟨u, rfl, ho⟩, hb2⟩))
    go_ret
    exact ⟨⟨_, rfl, ho.mono fun g _ _ h => by have := hb.size; simp at h; omega⟩, (hb.alloc hb.size _).trans (hb2.mono (by have := hb.size; simp; omega))⟩
  | some i =>
    obtain ⟨e, he, _⟩ := Tr.idx_some hx
    have hv : T.reasonOf v = e.reason := by simp [Tr.reasonOf, hx, he]
    rw [hv] at hlen ⊢
    clear hv
    go_enter Try.func19, Try.ntmps19
    go_wp2_with (first | (go_at_call 32; refine (find_yes ht hx he).mono ?_; rintro r w1 ⟨⟨A, n, c, rfl, hr⟩, hb⟩) | (go_at_call 31; refine (clone_any (hr.below ((Below.refl _ _).alloc (Nat.le_refl _) _)) hlen).mono ?_; rintro r w2 ⟨⟨u, rfl, ho⟩, hb2⟩))
    go_ret
    exact ⟨⟨_, rfl, ho.mono fun g _ _ h => by have := hb.size; simp at h; omega⟩, (hb.alloc hb.size _).trans (hb2.mono (by have := hb.size; simp; omega))⟩
end Go.Proofs.Ytbghfdhijlpogaa
