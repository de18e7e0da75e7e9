/-
  Walks: the laws' own helper awake; the mutators over a base.
-/
import Derived.Test.YtbghfdhijlpogaaTwalkI
namespace Go.Proofs.Ytbghfdhijlpogaa
open Go.RowKit

theorem Mod.base {B : Nat} {w w' : World} (h : Mod (fun g => B ≤ g) w w') (hB : B ≤ w.heap.size) : Below B w w' :=
  ⟨h.os, h.tape, h.output, h.size, fun k hk => h.block k (by omega) (by omega)⟩
theorem Trail.base {B : Nat} {w w' : World} {b : Nat} {T : Tr} (h : Trail w' (fun g => B ≤ g ∨ w.heap.size ≤ g) b T) (hB : B ≤ w.heap.size) : Trail w' (fun g => B ≤ g) b T :=
  h.mono fun g hg => by rcases hg with hg | hg <;> omega
section
variable {w : World} {B b : Nat} {T : Tr}
theorem new_b {vars : Nat} (hv : vars ≤ 65536) (hB : B ≤ w.heap.size) :
    Calls Try.prog 22 #[.int .i64 vars] w fun r w' => ∃ b, r = .returned (.tuple #[.pointer (some ⟨b, 0, none⟩), .int .i64 0]) ∧ Trail w' (fun g => B ≤ g) b ⟨vars, [], []⟩ ∧ Below w.heap.size w w' := by
  refine (new_ok hv).mono ?_
  rintro r w' ⟨⟨b, rfl, ht⟩, hb⟩
  exact ⟨b, rfl, ht.mono fun g hg => by omega, hb⟩
theorem decide_b (ht : Trail w (fun g => B ≤ g) b T) (hB : B ≤ w.heap.size) {l : Int} (hl : I64 l) (hf : T.freeB l = true) :
    Calls Try.prog 16 #[.pointer (some ⟨b, 0, none⟩), .int .i64 l] w fun r w' => r = .returned (.int .i64 0) ∧ Trail w' (fun g => B ≤ g) b (T.decide l) ∧ Below B w w' := by
  refine (decide_ok ht hl (Tr.free_iff.1 hf)).mono ?_
  rintro r w' ⟨rfl, h1, h2⟩
  exact ⟨rfl, h1.base hB, h2.base hB⟩
theorem decide_n (ht : Trail w (fun g => B ≤ g) b T) {l : Int} (hl : I64 l) (hf : T.freeB l = false) :
    Calls Try.prog 16 #[.pointer (some ⟨b, 0, none⟩), .int .i64 l] w fun r w' => r = .returned (.int .i64 2) ∧ Trail w' (fun g => B ≤ g) b T ∧ Below w.heap.size w w' := by
  refine (decide_bad ht hl (fun h => by rw [Tr.free_iff.2 h] at hf; cases hf)).mono ?_
  rintro r w' ⟨rfl, h1⟩
  exact ⟨rfl, ht.below h1, h1⟩
theorem imply_b {G : Nat → Prop} (ht : Trail w (fun g => B ≤ g) b T) (hB : B ≤ w.heap.size) {l : Int} (hl : I64 l) {v : Value} {n : Nat} {r : List Int} (hv : Rd w G 1 v n (ints r)) (hn : n ≤ 17592186044416) (hr : ∀ x ∈ r, I64 x) (hc : T.can l r = true) :
    Calls Try.prog 17 #[.pointer (some ⟨b, 0, none⟩), .int .i64 l, v] w fun e w' => e = .returned (.int .i64 0) ∧ Trail w' (fun g => B ≤ g) b (T.imply l r) ∧ Below B w w' := by
  refine (imply_ok ht hl hv hn hr hc).mono ?_
  rintro e w' ⟨rfl, h1, h2⟩
  exact ⟨rfl, h1.base hB, h2.base hB⟩
theorem imply_n {G : Nat → Prop} (ht : Trail w (fun g => B ≤ g) b T) {l : Int} (hl : I64 l) {v : Value} {n : Nat} {r : List Int} (hv : Rd w G 1 v n (ints r)) (hr : ∀ x ∈ r, I64 x) (hc : T.can l r = false) :
    Calls Try.prog 17 #[.pointer (some ⟨b, 0, none⟩), .int .i64 l, v] w fun e w' => e = .returned (.int .i64 2) ∧ Trail w' (fun g => B ≤ g) b T ∧ Below w.heap.size w w' := by
  refine (imply_bad ht hl hv hr hc).mono ?_
  rintro e w' ⟨rfl, h1⟩
  exact ⟨rfl, ht.below h1, h1⟩
/-- The level that Undo goes to. -/
def lvl (k : Int) : Nat := if k < 0 then 0 else k.toNat
theorem lvl_spec (k : Int) : k = (lvl k : Int) ∨ k < 0 ∧ lvl k = 0 := by unfold lvl; split <;> omega
/-- What Undo returns. -/
def Tr.gone (T : Tr) (K : Nat) : List Int := if h : K < T.starts.length then (T.lits.drop T.starts[K]).reverse else []
/-- .. and the trail behind it. -/
def Tr.back (T : Tr) (K : Nat) : Tr := if K < T.starts.length then T.undo K else T
theorem undo_b (ht : Trail w (fun g => B ≤ g) b T) (hB : B ≤ w.heap.size) (k : Int) :
    Calls Try.prog 13 #[.pointer (some ⟨b, 0, none⟩), .int .i64 k] w fun r w' =>
      (∃ u, r = .returned u ∧ Own w' (fun g => w.heap.size ≤ g) 3 1 u (T.gone (lvl k)).length (ints (T.gone (lvl k)))) ∧ Trail w' (fun g => B ≤ g) b (T.back (lvl k)) ∧ Below B w w' := by
  by_cases hk : lvl k < T.starts.length
  · have e1 : T.gone (lvl k) = (T.lits.drop T.starts[lvl k]).reverse := by simp [Tr.gone, hk]
    have e2 : T.back (lvl k) = T.undo (lvl k) := by simp [Tr.back, hk]
    rw [e1, e2]
    refine (undo_walk ht (lvl_spec k) hk).mono ?_
    rintro r w' ⟨⟨u, rfl, ho⟩, h1, h2⟩
    refine ⟨⟨u, rfl, ?_⟩, h1.base hB, h2.base hB⟩
    have e3 : (T.lits.drop T.starts[lvl k]).reverse.length = T.L.length - T.starts[lvl k] := by simp [Tr.lits]
    rw [e3]
    exact ho
  · have e1 : T.gone (lvl k) = [] := by simp [Tr.gone, hk]
    have e2 : T.back (lvl k) = T := by simp [Tr.back, hk]
    rw [e1, e2]
    refine (undo_none ht (lvl_spec k) (by omega)).mono ?_
    rintro r w' ⟨rfl, rfl⟩
    exact ⟨⟨_, rfl, Own.nil _ _ _ _⟩, ht, Below.refl _ _⟩
end
/-- A slice literal of ints. -/
theorem own_list (w : World) (xs : List Int) (h : xs.length ≤ 1000) : Own (w.alloc (.cells (ints xs).toArray 3)) (fun g => g = w.heap.size) 3 1 (.slice (some ⟨w.heap.size, 0, none⟩) xs.length xs.length) xs.length (ints xs) := by
  rcases Nat.eq_zero_or_pos xs.length with h0 | h0
  · have : xs = [] := List.eq_nil_of_length_eq_zero h0
    subst this
    exact Own.none_ _ _ _ _ _
  · exact own_new w _ _ 1 xs.length _ xs.length (ints xs) (by simp [ints_length]) h0 (Nat.le_refl _) (by unfold maxLen; omega) (by simp [ints_length]) (by simp [← ints_length xs]) rfl
theorem i64_small {l : Int} (h : -1000 ≤ l ∧ l ≤ 1000) : I64 l := by unfold I64; omega

def aT0 : Tr := ⟨4, [], []⟩
def aT1 : Tr := aT0.decide 1
def aT2 : Tr := aT1.imply 2 [2, -1]
def aT3 : Tr := aT2.decide (-3)
def aT4 : Tr := aT3.back (lvl 1)
theorem aT_facts : aT3.lits = [1, 2, -3] ∧ aT3.levelOf 1 = 1 ∧ aT3.levelOf 2 = 1 ∧ aT3.levelOf 3 = 2 ∧ aT3.value 3 = -1 ∧ aT3.gone (lvl 1) = [-3] ∧ aT4.gone (lvl 0) = [2, 1] := by decide +kernel
set_option maxRecDepth 100000 in
set_option maxHeartbeats 4000000 in
theorem awake_any {w : World} : Calls Try.prog 15 #[] w fun r w' => r = .returned (.bool true) ∧ Below w.heap.size w w' := by
  obtain ⟨B, hB⟩ : ∃ B, B = w.heap.size := ⟨_, rfl⟩
  have hBw : B ≤ w.heap.size := by omega
  rw [← hB]
  clear hB
  go_enter Try.func15, Try.ntmps15
  go_wp2_with fail
  refine (new_b (vars := 4) (by decide) hBw).mono ?_
  rintro r w1 ⟨b, rfl, t0, b1⟩
  have s1 : B ≤ w1.heap.size := by have := b1.size; omega
  have B1 : Below B w w1 := b1.mono hBw
  have t0' : Trail w1 (fun g => B ≤ g) b aT0 := t0
  clear b1 hBw t0
  go_wp2_with fail
  refine (decide_b t0' s1 (i64_small (by decide)) (by decide +kernel)).mono ?_
  rintro r w2 ⟨rfl, t1, b2⟩
  have s2 : B ≤ w2.heap.size := by have := b2.size; omega
  have B2 := B1.trans b2
  have t1' : Trail w2 (fun g => B ≤ g) b aT1 := t1
  clear b2 B1 t0' s1 t1
  go_wp2_with fail
  refine (imply_b (r := [2, -1]) (t1'.below ((Below.refl _ _).alloc (Nat.le_refl _) _)) (by simp; omega) (i64_small (by decide)) (own_list w2 [2, -1] (by decide)).rd (by decide) (by simp [I64]) (by decide +kernel)).mono ?_
  rintro r w3 ⟨rfl, t2, b3⟩
  have s3 : B ≤ w3.heap.size := by have := b3.size; simp at this; omega
  have B3 := (B2.alloc s2 _).trans b3
  have t2' : Trail w3 (fun g => B ≤ g) b aT2 := t2
  clear b3 B2 t1' s2 t2
  go_wp2_with fail
  refine (decide_b t2' s3 (i64_small (by decide)) (by decide +kernel)).mono ?_
  rintro r w4 ⟨rfl, t3, b4⟩
  have s4 : B ≤ w4.heap.size := by have := b4.size; omega
  have B4 := B3.trans b4
  have t3' : Trail w4 (fun g => B ≤ g) b aT3 := t3
  clear b4 B3 t2' s3 t3
  go_wp2_with fail
  refine (lits_any t3').mono ?_
  rintro r w5 ⟨⟨u5, rfl, o5⟩, b5⟩
  have s5 : B ≤ w5.heap.size := by have := b5.size; omega
  have B5 := B4.trans (b5.mono s4)
  have t5 := t3'.below b5
  clear b5 B4 t3' s4
  go_wp2_with fail
  refine (ints_eq (o5.rd.below ((Below.refl _ _).alloc (Nat.le_refl _) _)) (own_list w5 [1, 2, -3] (by decide)).rd).mono ?_
  rintro r w6 ⟨rfl, b6⟩
  rw [show decide (aT3.lits = [1, 2, -3]) = true from by decide +kernel]
  have s6 : B ≤ w6.heap.size := by have := b6.size; simp at this; omega
  have B6 := (B5.alloc s5 _).trans (b6.mono (by simp; omega))
  have t6 := (t5.below ((Below.refl _ _).alloc (Nat.le_refl _) _)).below b6
  clear b6 B5 t5 s5 o5
  go_wp2_with fail
  refine (level_any t6).mono ?_
  rintro r w7 ⟨rfl, b7⟩
  rw [aT_facts.2.1]
  have s7 : B ≤ w7.heap.size := by have := b7.size; omega
  have B7 := B6.trans (b7.mono s6)
  have t7 := t6.below b7
  clear b7 B6 t6 s6
  go_wp2_with fail
  refine (level_any t7).mono ?_
  rintro r w8 ⟨rfl, b8⟩
  rw [aT_facts.2.2.1]
  have s8 : B ≤ w8.heap.size := by have := b8.size; omega
  have B8 := B7.trans (b8.mono s7)
  have t8 := t7.below b8
  clear b8 B7 t7 s7
  go_wp2_with fail
  refine (level_any t8).mono ?_
  rintro r w9 ⟨rfl, b9⟩
  rw [aT_facts.2.2.2.1]
  have s9 : B ≤ w9.heap.size := by have := b9.size; omega
  have B9 := B8.trans (b9.mono s8)
  have t9 := t8.below b9
  clear b9 B8 t8 s8
  go_wp2_with fail
  refine (value_any t9 (i64_small (by decide))).mono ?_
  rintro r w10 ⟨rfl, b10⟩
  rw [aT_facts.2.2.2.2.1]
  have s10 : B ≤ w10.heap.size := by have := b10.size; omega
  have B10 := B9.trans (b10.mono s9)
  have t10 := t9.below b10
  clear b10 B9 t9 s9
  go_wp2_with fail
  refine (imply_n (r := [4, 1]) (t10.below ((Below.refl _ _).alloc (Nat.le_refl _) _)) (i64_small (by decide)) (own_list w10 [4, 1] (by decide)).rd (by simp [I64]) (by decide +kernel)).mono ?_
  rintro r w11 ⟨rfl, t11, b11⟩
  have s11 : B ≤ w11.heap.size := by have := b11.size; simp at this; omega
  have B11 := (B10.alloc s10 _).trans (b11.mono (by simp; omega))
  clear b11 B10 t10 s10
  go_wp2_with fail
  refine (undo_b t11 s11 1).mono ?_
  rintro r w12 ⟨⟨u12, rfl, o12⟩, t12, b12⟩
  have s12 : B ≤ w12.heap.size := by have := b12.size; omega
  have B12 := B11.trans b12
  have t12' : Trail w12 (fun g => B ≤ g) b aT4 := t12
  clear b12 B11 t11 s11 t12
  go_wp2_with fail
  refine (ints_eq (o12.rd.below ((Below.refl _ _).alloc (Nat.le_refl _) _)) (own_list w12 [-3] (by decide)).rd).mono ?_
  rintro r w13 ⟨rfl, b13⟩
  rw [show decide (aT3.gone (lvl 1) = [-3]) = true from by decide +kernel]
  have s13 : B ≤ w13.heap.size := by have := b13.size; simp at this; omega
  have B13 := (B12.alloc s12 _).trans (b13.mono (by simp; omega))
  have t13 := (t12'.below ((Below.refl _ _).alloc (Nat.le_refl _) _)).below b13
  clear b13 B12 t12' s12 o12
  go_wp2_with fail
  refine (undo_b t13 s13 0).mono ?_
  rintro r w14 ⟨⟨u14, rfl, o14⟩, t14, b14⟩
  have s14 : B ≤ w14.heap.size := by have := b14.size; omega
  have B14 := B13.trans b14
  clear b14 B13 t13 s13 t14
  go_wp2_with fail
  refine (ints_eq (o14.rd.below ((Below.refl _ _).alloc (Nat.le_refl _) _)) (own_list w14 [2, 1] (by decide)).rd).mono ?_
  rintro r w15 ⟨rfl, b15⟩
  rw [show decide (aT4.gone (lvl 0) = [2, 1]) = true from by decide +kernel]
  have B15 := (B14.alloc s14 _).trans (b15.mono (by simp; omega))
  clear b15 B14 s14 o14
  go_wp2_with fail
  go_ret
  exact ⟨rfl, B15⟩
end Go.Proofs.Ytbghfdhijlpogaa
