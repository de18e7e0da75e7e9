/-
  The trail's mutators, whatever comes in: Decide, Imply, Undo; the frame over a base.
-/
import Derived.Test.YtbghfdhijlpogaaTwalkJ
namespace Go.Proofs.Ytbghfdhijlpogaa
open Go.RowKit

/-! ### the mutators, whatever comes in -/
def Tr.dec (T : Tr) (l : Int) : Tr := if T.freeB l then T.decide l else T
def Tr.imp (T : Tr) (l : Int) (r : List Int) : Tr := if T.can l r then T.imply l r else T
def err (b : Bool) : Int := if b then 0 else 2
theorem Trail.restrict {w : World} {F : Nat → Prop} {b : Nat} {T : Tr} (h : Trail w F b T) : Trail w (fun g => F g ∧ g < w.heap.size) b T := by
  obtain ⟨wf, m, es, clock, vl, vs, h⟩ := h
  exact ⟨wf, m, es, clock, vl, vs, h.restrict⟩
section
variable {w : World} {F : Nat → Prop} {b : Nat} {T : Tr}
theorem Trail.drew (h : Trail w F b T) : Trail w.drew F b T := h.below ((Below.refl _ _).drew)
theorem decide_e (ht : Trail w F b T) {l : Int} (hl : I64 l) :
    Calls Try.prog 16 #[.pointer (some ⟨b, 0, none⟩), .int .i64 l] w fun r w' => r = .returned (.int .i64 (err (T.freeB l))) ∧ Trail w' (fun g => F g ∨ w.heap.size ≤ g) b (T.dec l) ∧ Mod F w w' := by
  cases hf : T.freeB l with
  | true =>
    have e : T.dec l = T.decide l := by simp [Tr.dec, hf]
    rw [e]
    exact decide_ok ht hl (Tr.free_iff.1 hf)
  | false =>
    have e : T.dec l = T := by simp [Tr.dec, hf]
    rw [e]
    refine (decide_bad ht hl (fun h => by rw [Tr.free_iff.2 h] at hf; cases hf)).mono ?_
    rintro r w' ⟨rfl, h1⟩
    exact ⟨rfl, (ht.below h1).mono fun g hg => .inl hg, Mod.of_below h1⟩
theorem imply_e {G : Nat → Prop} (ht : Trail w F b T) {l : Int} (hl : I64 l) {v : Value} {n : Nat} {r : List Int} (hv : Rd w G 1 v n (ints r)) (hn : n ≤ 17592186044416) (hr : ∀ x ∈ r, I64 x) :
    Calls Try.prog 17 #[.pointer (some ⟨b, 0, none⟩), .int .i64 l, v] w fun e w' => e = .returned (.int .i64 (err (T.can l r))) ∧ Trail w' (fun g => F g ∨ w.heap.size ≤ g) b (T.imp l r) ∧ Mod F w w' := by
  cases hf : T.can l r with
  | true =>
    have e : T.imp l r = T.imply l r := by simp [Tr.imp, hf]
    rw [e]
    exact imply_ok ht hl hv hn hr hf
  | false =>
    have e : T.imp l r = T := by simp [Tr.imp, hf]
    rw [e]
    refine (imply_bad ht hl hv hr hf).mono ?_
    rintro r w' ⟨rfl, h1⟩
    exact ⟨rfl, (ht.below h1).mono fun g hg => .inl hg, Mod.of_below h1⟩
theorem undo_e (ht : Trail w F b T) (k : Int) :
    Calls Try.prog 13 #[.pointer (some ⟨b, 0, none⟩), .int .i64 k] w fun r w' =>
      (∃ u, r = .returned u ∧ Own w' (fun g => w.heap.size ≤ g) 3 1 u (T.gone (lvl k)).length (ints (T.gone (lvl k)))) ∧ Trail w' (fun g => F g ∨ w.heap.size ≤ g) b (T.back (lvl k)) ∧ Mod F w w' := by
  by_cases hk : lvl k < T.starts.length
  · have e1 : T.gone (lvl k) = (T.lits.drop T.starts[lvl k]).reverse := by simp [Tr.gone, hk]
    have e2 : T.back (lvl k) = T.undo (lvl k) := by simp [Tr.back, hk]
    rw [e1, e2]
    refine (undo_walk ht (lvl_spec k) hk).mono ?_
    rintro r w' ⟨⟨u, rfl, ho⟩, h1, h2⟩
    refine ⟨⟨u, rfl, ?_⟩, h1, h2⟩
    have e3 : (T.lits.drop T.starts[lvl k]).reverse.length = T.L.length - T.starts[lvl k] := by simp [Tr.lits]
    rw [e3]
    exact ho
  · have e1 : T.gone (lvl k) = [] := by simp [Tr.gone, hk]
    have e2 : T.back (lvl k) = T := by simp [Tr.back, hk]
    rw [e1, e2]
    refine (undo_none ht (lvl_spec k) (by omega)).mono ?_
    rintro r w' ⟨rfl, rfl⟩
    exact ⟨⟨_, rfl, Own.nil _ _ _ _⟩, ht.mono fun g hg => .inl hg, Mod.refl _ _⟩
end
theorem Tr.dec_vars (T : Tr) (l : Int) : (T.dec l).vars = T.vars := by unfold Tr.dec; split <;> rfl
theorem Tr.imp_vars (T : Tr) (l : Int) (r : List Int) : (T.imp l r).vars = T.vars := by unfold Tr.imp; split <;> rfl
theorem Tr.back_vars (T : Tr) (K : Nat) : (T.back K).vars = T.vars := by unfold Tr.back; split <;> rfl
/-- Behind a mutator: the trail and the frame over a base. -/
theorem rebase {B b : Nat} {w w' : World} {T : Tr} (hB : B ≤ w.heap.size) (h1 : Trail w' (fun g => (B ≤ g ∧ g < w.heap.size) ∨ w.heap.size ≤ g) b T) (h2 : Mod (fun g => B ≤ g ∧ g < w.heap.size) w w') : Trail w' (fun g => B ≤ g) b T ∧ Below B w w' :=
  ⟨h1.mono fun g hg => by omega, (h2.mono fun g _ hg => hg.1).base hB⟩

theorem take_min {α : Type} (l : List α) (k : Nat) : l.take k = l.take (min l.length k) := by
  rcases Nat.le_total l.length k with h | h
  · rw [Nat.min_eq_left h, List.take_of_length_le h, List.take_length]
  · rw [Nat.min_eq_right h]

end Go.Proofs.Ytbghfdhijlpogaa
