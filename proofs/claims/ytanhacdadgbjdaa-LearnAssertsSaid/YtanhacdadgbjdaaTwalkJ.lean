/-
  Walks: the laws' own helper awake; the mutators over a base.
-/
import Derived.Test.YtanhacdadgbjdaaTwalkI
namespace Go.Proofs.Ytanhacdadgbjdaa
open Go.RowKit

theorem Mod.base {B : Nat} {w w' : World} (h : Mod (fun g => B ≤ g) w w') (hB : B ≤ w.heap.size) : Below B w w' :=
  ⟨h.os, h.tape, h.output, h.size, fun k hk => h.block k (by omega) (by omega)⟩
theorem Trail.base {B : Nat} {w w' : World} {b : Nat} {T : Tr} (h : Trail w' (fun g => B ≤ g ∨ w.heap.size ≤ g) b T) (hB : B ≤ w.heap.size) : Trail w' (fun g => B ≤ g) b T :=
  h.mono fun g hg => by rcases hg with hg | hg <;> omega
section
variable {w : World} {B b : Nat} {T : Tr}
theorem new_b {vars : Nat} (hv : vars ≤ 65536) (hB : B ≤ w.heap.size) :
    Calls Try.prog 22 #[.int .i64 vars] w fun r w' => ∃ b, r = .returned (.tuple #[.pointer (some ⟨b, 0, none⟩), .int .i64 0]) ∧ Trail w' (fun g => B ≤ g) b ⟨vars, [], []⟩ ∧ Below w.heap.size w w' := by
  refine (new_ok hv).mono ?_
  rintro r w' ⟨⟨b, rfl, ht⟩, hb⟩
  exact ⟨b, rfl, ht.mono fun g hg => by omega, hb⟩
theorem decide_b (ht : Trail w (fun g => B ≤ g) b T) (hB : B ≤ w.heap.size) {l : Int} (hl : I64 l) (hf : T.freeB l = true) :
    Calls Try.prog 23 #[.pointer (some ⟨b, 0, none⟩), .int .i64 l] w fun r w' => r = .returned (.int .i64 0) ∧ Trail w' (fun g => B ≤ g) b (T.decide l) ∧ Below B w w' := by
  refine (decide_ok ht hl (Tr.free_iff.1 hf)).mono ?_
  rintro r w' ⟨rfl, h1, h2⟩
  exact ⟨rfl, h1.base hB, h2.base hB⟩
theorem decide_n (ht : Trail w (fun g => B ≤ g) b T) {l : Int} (hl : I64 l) (hf : T.freeB l = false) :
    Calls Try.prog 23 #[.pointer (some ⟨b, 0, none⟩), .int .i64 l] w fun r w' => r = .returned (.int .i64 2) ∧ Trail w' (fun g => B ≤ g) b T ∧ Below w.heap.size w w' := by
  refine (decide_bad ht hl (fun h => by rw [Tr.free_iff.2 h] at hf; cases hf)).mono ?_
  rintro r w' ⟨rfl, h1⟩
  exact ⟨rfl, ht.below h1, h1⟩
theorem imply_b {G : Nat → Prop} (ht : Trail w (fun g => B ≤ g) b T) (hB : B ≤ w.heap.size) {l : Int} (hl : I64 l) {v : Value} {n : Nat} {r : List Int} (hv : Rd w G 1 v n (ints r)) (hn : n ≤ 17592186044416) (hr : ∀ x ∈ r, I64 x) (hc : T.can l r = true) :
    Calls Try.prog 21 #[.pointer (some ⟨b, 0, none⟩), .int .i64 l, v] w fun e w' => e = .returned (.int .i64 0) ∧ Trail w' (fun g => B ≤ g) b (T.imply l r) ∧ Below B w w' := by
  refine (imply_ok ht hl hv hn hr hc).mono ?_
  rintro e w' ⟨rfl, h1, h2⟩
  exact ⟨rfl, h1.base hB, h2.base hB⟩
theorem imply_n {G : Nat → Prop} (ht : Trail w (fun g => B ≤ g) b T) {l : Int} (hl : I64 l) {v : Value} {n : Nat} {r : List Int} (hv : Rd w G 1 v n (ints r)) (hr : ∀ x ∈ r, I64 x) (hc : T.can l r = false) :
    Calls Try.prog 21 #[.pointer (some ⟨b, 0, none⟩), .int .i64 l, v] w fun e w' => e = .returned (.int .i64 2) ∧ Trail w' (fun g => B ≤ g) b T ∧ Below w.heap.size w w' := by
  refine (imply_bad ht hl hv hr hc).mono ?_
  rintro e w' ⟨rfl, h1⟩
  exact ⟨rfl, ht.below h1, h1⟩
/-- The level that Undo goes to. -/
def lvl (k : Int) : Nat := if k < 0 then 0 else k.toNat
theorem lvl_spec (k : Int) : k = (lvl k : Int) ∨ k < 0 ∧ lvl k = 0 := by unfold lvl; split <;> omega
/-- What Undo returns. -/
def Tr.gone (T : Tr) (K : Nat) : List Int := if h : K < T.starts.length then (T.lits.drop T.starts[K]).reverse else []
/-- .. and the trail behind it. -/
def Tr.back (T : Tr) (K : Nat) : Tr := if K < T.starts.length then T.undo K else T
theorem undo_b (ht : Trail w (fun g => B ≤ g) b T) (hB : B ≤ w.heap.size) (k : Int) :
    Calls Try.prog 20 #[.pointer (some ⟨b, 0, none⟩), .int .i64 k] w fun r w' =>
      (∃ u, r = .returned u ∧ Own w' (fun g => w.heap.size ≤ g) 3 1 u (T.gone (lvl k)).length (ints (T.gone (lvl k)))) ∧ Trail w' (fun g => B ≤ g) b (T.back (lvl k)) ∧ Below B w w' := by
  by_cases hk : lvl k < T.starts.length
  · have e1 : T.gone (lvl k) = (T.lits.drop T.starts[lvl k]).reverse := by simp [Tr.gone, hk]
    have e2 : T.back (lvl k) = T.undo (lvl k) := by simp [Tr.back, hk]
    rw [e1, e2]
    refine (undo_walk ht (lvl_spec k) hk).mono ?_
    rintro r w' ⟨⟨u, rfl, ho⟩, h1, h2⟩
    refine ⟨⟨u, rfl, ?_⟩, h1.base hB, h2.base hB⟩
    have e3 : (T.lits.drop T.starts[lvl k]).reverse.length = T.L.length - T.starts[lvl k] := by simp [Tr.lits]
    rw [e3]
    exact ho
  · have e1 : T.gone (lvl k) = [] := by simp [Tr.gone, hk]
    have e2 : T.back (lvl k) = T := by simp [Tr.back, hk]
    rw [e1, e2]
    refine (undo_none ht (lvl_spec k) (by omega)).mono ?_
    rintro r w' ⟨rfl, rfl⟩
    exact ⟨⟨_, rfl, Own.nil _ _ _ _⟩, ht, Below.refl _ _⟩
end
/-- A slice literal of ints. -/
theorem own_list (w : World) (xs : List Int) (h : xs.length ≤ 1000) : Own (w.alloc (.cells (ints xs).toArray 3)) (fun g => g = w.heap.size) 3 1 (.slice (some ⟨w.heap.size, 0, none⟩) xs.length xs.length) xs.length (ints xs) := by
  rcases Nat.eq_zero_or_pos xs.length with h0 | h0
  · have : xs = [] := List.eq_nil_of_length_eq_zero h0
    subst this
    exact Own.none_ _ _ _ _ _
  · exact own_new w _ _ 1 xs.length _ xs.length (ints xs) (by simp [ints_length]) h0 (Nat.le_refl _) (by unfold maxLen; omega) (by simp [ints_length]) (by simp [← ints_length xs]) rfl
theorem i64_small {l : Int} (h : -1000 ≤ l ∧ l ≤ 1000) : I64 l := by unfold I64; omega

def aT0 : Tr := ⟨4, [], []⟩
def aT1 : Tr := aT0.decide 1
def aT2 : Tr := aT1.imply 2 [2, -1]
def aT3 : Tr := aT2.decide (-3)
def aT4 : Tr := aT3.back (lvl 1)
theorem aT_facts : aT3.lits = [1, 2, -3] ∧ aT3.levelOf 1 = 1 ∧ aT3.levelOf 2 = 1 ∧ aT3.levelOf 3 = 2 ∧ aT3.value 3 = -1 ∧ aT3.gone (lvl 1) = [-3] ∧ aT4.gone (lvl 0) = [2, 1] := by decide +kernel
end Go.Proofs.Ytanhacdadgbjdaa
