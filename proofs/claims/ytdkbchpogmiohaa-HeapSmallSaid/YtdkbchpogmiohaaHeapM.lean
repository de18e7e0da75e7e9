/-
  The activity order and a trail, side by side.
-/
import Derived.Test.YtdkbchpogmiohaaHeapJ
import Derived.Test.YtdkbchpogmiohaaHeapL
namespace Go.Proofs.Ytdkbchpogmiohaa
open Go.RowKit

/-- The best of the free variables up to k; 0: there is none. -/
def nextBest (acts : List Int) (val : Int → Int) : Nat → Nat
  | 0 => 0
  | k + 1 => if val ((k + 1 : Nat) : Int) ≠ 0 then nextBest acts val k else if nextBest acts val k = 0 ∨ nth acts (nextBest acts val k) < nth acts (k + 1) then k + 1 else nextBest acts val k
theorem nextBest_spec (acts : List Int) (val : Int → Int) : ∀ k, (nextBest acts val k = 0 ∧ ∀ y : Nat, 1 ≤ y → y ≤ k → val y ≠ 0) ∨
    (1 ≤ nextBest acts val k ∧ nextBest acts val k ≤ k ∧ val (nextBest acts val k) = 0 ∧ ∀ y : Nat, 1 ≤ y → y ≤ k → val y = 0 → y ≠ nextBest acts val k → ahead acts (nextBest acts val k) y = true) := by
  intro k
  induction k with
  | zero => exact .inl ⟨rfl, fun y _ _ => by omega⟩
  | succ k ih =>
    unfold nextBest
    by_cases hv : val ((k + 1 : Nat) : Int) ≠ 0
    · rw [if_pos hv]
      rcases ih with ⟨h1, h2⟩ | ⟨h1, h2, h3, h4⟩
      · refine .inl ⟨h1, fun y y1 y2 => ?_⟩
        rcases (by omega : y ≤ k ∨ y = k + 1) with h | h
        · exact h2 y y1 h
        · subst h; exact hv
      · refine .inr ⟨h1, by omega, h3, fun y y1 y2 y3 y4 => ?_⟩
        rcases (by omega : y ≤ k ∨ y = k + 1) with h | h
        · exact h4 y y1 h y3 y4
        · subst h; exact absurd y3 hv
    · rw [if_neg hv]
      have hv : val ((k + 1 : Nat) : Int) = 0 := Classical.byContradiction hv
      rcases ih with ⟨h1, h2⟩ | ⟨h1, h2, h3, h4⟩
      · rw [if_pos (.inl h1)]
        refine .inr ⟨by omega, by omega, hv, fun y y1 y2 y3 y4 => ?_⟩
        exact absurd y3 (h2 y y1 (by omega))
      · by_cases hlt : nth acts (nextBest acts val k) < nth acts (k + 1)
        · rw [if_pos (.inr hlt)]
          refine .inr ⟨by omega, by omega, hv, fun y y1 y2 y3 y4 => ?_⟩
          rw [ahead_iff]
          by_cases hy : y = nextBest acts val k
          · rw [hy]; exact .inl hlt
          · have := h4 y y1 (by omega) y3 hy
            rw [ahead_iff] at this
            omega
        · rw [if_neg (fun h => h.elim (by omega) hlt)]
          refine .inr ⟨h1, by omega, h3, fun y y1 y2 y3 y4 => ?_⟩
          rcases (by omega : y ≤ k ∨ y = k + 1) with h | h
          · exact h4 y y1 h y3 y4
          · subst h
            rw [ahead_iff]
            omega
theorem NextIs.best {acts : List Int} {n : Nat} {val : Int → Int} {v : Int} {is : Bool} (e : NextIs acts n val v is) : v = nextBest acts val n ∧ is = decide (0 < nextBest acts val n) := by
  rcases e with ⟨rfl, rfl, h⟩ | ⟨rfl, x, rfl, x1, xn, hx, h⟩
  · rcases nextBest_spec acts val n with ⟨h1, _⟩ | ⟨h1, h2, h3, _⟩
    · rw [h1]; exact ⟨rfl, rfl⟩
    · exact absurd h3 (h _ h1 h2)
  · rcases nextBest_spec acts val n with ⟨_, h2⟩ | ⟨h1, h2, h3, h4⟩
    · exact absurd hx (h2 x x1 xn)
    · have : nextBest acts val n = x := by
        refine Classical.byContradiction fun hne => ?_
        have a := h _ h1 h2 h3 hne
        have b := h4 x x1 xn hx (fun e => hne e.symm)
        rw [ahead_asymm a] at b
        cases b
      rw [this]
      exact ⟨rfl, by simp; omega⟩

/-- An order at b and a trail at tb, in different blocks from B on. -/
def Two (w : World) (B b n : Nat) (o : Om) (tb : Nat) (T : Tr) : Prop :=
  ∃ Fo Ft : Nat → Prop, Order w Fo b n o ∧ Trail w Ft tb T ∧ (∀ g, Fo g → B ≤ g ∧ g < w.heap.size) ∧ (∀ g, Ft g → B ≤ g ∧ g < w.heap.size) ∧ (∀ g, Fo g → ¬ Ft g)
def Om.bumpI (o : Om) (n : Nat) (v : Int) : Om := if hasv n v then o.bump v.toNat else o
section
variable {w w' : World} {B b n tb : Nat} {o : Om} {T : Tr}
theorem Two.below (e : Two w B b n o tb T) (hb : Below w.heap.size w w') : Two w' B b n o tb T := by
  obtain ⟨Fo, Ft, h1, h2, h3, h4, h5⟩ := e
  have := hb.size
  exact ⟨Fo, Ft, h1.below hb, h2.below hb, fun g hg => ⟨(h3 g hg).1, by have := (h3 g hg).2; omega⟩, fun g hg => ⟨(h4 g hg).1, by have := (h4 g hg).2; omega⟩, h5⟩
theorem Two.make {B1 : Nat} (ho : Order w (fun g => B ≤ g) b n o) (hB : B1 = w.heap.size) (ht : Trail w' (fun g => B1 ≤ g) tb T) (hb : Below w.heap.size w w') (hBB : B ≤ w.heap.size) : Two w' B b n o tb T := by
  have := hb.size
  refine ⟨fun g => B ≤ g ∧ g < w.heap.size, fun g => B1 ≤ g ∧ g < w'.heap.size, ho.restrict.below hb, ht.restrict, fun g hg => ⟨hg.1, by omega⟩, fun g hg => ⟨by omega, hg.2⟩, fun g h1 h2 => by omega⟩
theorem two_len (e : Two w B b n o tb T) : Calls Try.prog 20 #[.pointer (some ⟨b, 0, none⟩)] w fun r w' => r = .returned (.int .i64 n) ∧ w' = w := by
  obtain ⟨Fo, Ft, ⟨wf, ga, gh, gp, np, heap, pos, O, H⟩, _⟩ := e
  exact len_any O (by have := wf.inc1; omega)
theorem two_activity (e : Two w B b n o tb T) (v : Int) : Calls Try.prog 19 #[.pointer (some ⟨b, 0, none⟩), .int .i64 v] w fun r w' => r = .returned (.int .i64 (actv o.acts n v)) ∧ w' = w := by
  obtain ⟨Fo, Ft, ⟨wf, ga, gh, gp, np, heap, pos, O, H⟩, _⟩ := e
  exact activity_any O (by have := wf.inc1; omega) v
theorem two_bump (e : Two w B b n o tb T) (hB : B ≤ w.heap.size) (v : Int) : Calls Try.prog 16 #[.pointer (some ⟨b, 0, none⟩), .int .i64 v] w fun r w' => r = .returned (.int .i64 (err (hasv n v))) ∧ Two w' B b n (o.bumpI n v) tb T ∧ Below B w w' := by
  obtain ⟨Fo, Ft, h1, h2, h3, h4, h5⟩ := e
  cases hv : hasv n v with
  | false =>
    have e1 : o.bumpI n v = o := by simp [Om.bumpI, hv]
    rw [e1]
    refine (bump_bad h1 hv).mono ?_
    rintro r w' ⟨rfl, rfl⟩
    exact ⟨rfl, ⟨Fo, Ft, h1, h2, h3, h4, h5⟩, Below.refl _ _⟩
  | true =>
    have e1 : o.bumpI n v = o.bump v.toNat := by simp [Om.bumpI, hv]
    have hv2 : 1 ≤ v ∧ v ≤ n := by simpa [hasv] using hv
    rw [e1]
    have := bump_any h1 (v := v.toNat) (by omega) (by omega)
    rw [show ((v.toNat : Nat) : Int) = v by omega] at this
    refine this.mono ?_
    rintro r w' ⟨rfl, k1, k2⟩
    have := k2.size
    exact ⟨rfl, ⟨Fo, Ft, k1, h2.mod k2 fun g _ hg hf => h5 g hf hg, fun g hg => ⟨(h3 g hg).1, by have := (h3 g hg).2; omega⟩, fun g hg => ⟨(h4 g hg).1, by have := (h4 g hg).2; omega⟩, h5⟩, (k2.mono (G := fun g => B ≤ g) fun g _ hg => (h3 g hg).1).base hB⟩
theorem two_decay (e : Two w B b n o tb T) (hB : B ≤ w.heap.size) : Calls Try.prog 17 #[.pointer (some ⟨b, 0, none⟩)] w fun r w' => r = .returned (.int .i64 0) ∧ Two w' B b n o.decay tb T ∧ Below B w w' := by
  obtain ⟨Fo, Ft, h1, h2, h3, h4, h5⟩ := e
  refine (decay_any h1).mono ?_
  rintro r w' ⟨rfl, k1, k2⟩
  have := k2.size
  exact ⟨rfl, ⟨Fo, Ft, k1, h2.mod k2 fun g _ hg hf => h5 g hf hg, fun g hg => ⟨(h3 g hg).1, by have := (h3 g hg).2; omega⟩, fun g hg => ⟨(h4 g hg).1, by have := (h4 g hg).2; omega⟩, h5⟩, (k2.mono (G := fun g => B ≤ g) fun g _ hg => (h3 g hg).1).base hB⟩
theorem two_decide (e : Two w B b n o tb T) (hB : B ≤ w.heap.size) {l : Int} (hl : I64 l) : Calls Try.prog 24 #[.pointer (some ⟨tb, 0, none⟩), .int .i64 l] w fun r w' => r = .returned (.int .i64 (err (T.freeB l))) ∧ Two w' B b n o tb (T.dec l) ∧ Below B w w' := by
  obtain ⟨Fo, Ft, h1, h2, h3, h4, h5⟩ := e
  refine (decide_e h2 hl).mono ?_
  rintro r w' ⟨rfl, k1, k2⟩
  have := k2.size
  refine ⟨rfl, ⟨Fo, fun g => (Ft g ∨ w.heap.size ≤ g) ∧ g < w'.heap.size, h1.mod k2 fun g _ hg hf => h5 g hg hf, k1.restrict, fun g hg => ⟨(h3 g hg).1, by have := (h3 g hg).2; omega⟩, fun g hg => ⟨?_, hg.2⟩, fun g hg hf => ?_⟩, (k2.mono (G := fun g => B ≤ g) fun g _ hg => (h4 g hg).1).base hB⟩
  · rcases hg.1 with h | h
    · exact (h4 g h).1
    · omega
  · rcases hf.1 with h | h
    · exact h5 g hg h
    · have := (h3 g hg).2; omega
theorem two_undo (e : Two w B b n o tb T) (hB : B ≤ w.heap.size) (k : Int) : Calls Try.prog 38 #[.pointer (some ⟨tb, 0, none⟩), .int .i64 k] w fun r w' => (∃ u, r = .returned u) ∧ Two w' B b n o tb (T.back (lvl k)) ∧ Below B w w' := by
  obtain ⟨Fo, Ft, h1, h2, h3, h4, h5⟩ := e
  refine (undo_e h2 k).mono ?_
  rintro r w' ⟨⟨u, rfl, _⟩, k1, k2⟩
  have := k2.size
  refine ⟨⟨u, rfl⟩, ⟨Fo, fun g => (Ft g ∨ w.heap.size ≤ g) ∧ g < w'.heap.size, h1.mod k2 fun g _ hg hf => h5 g hg hf, k1.restrict, fun g hg => ⟨(h3 g hg).1, by have := (h3 g hg).2; omega⟩, fun g hg => ⟨?_, hg.2⟩, fun g hg hf => ?_⟩, (k2.mono (G := fun g => B ≤ g) fun g _ hg => (h4 g hg).1).base hB⟩
  · rcases hg.1 with h | h
    · exact (h4 g h).1
    · omega
  · rcases hf.1 with h | h
    · exact h5 g hg h
    · have := (h3 g hg).2; omega
theorem two_value (e : Two w B b n o tb T) {l : Int} (hl : I64 l) : Calls Try.prog 22 #[.pointer (some ⟨tb, 0, none⟩), .int .i64 l] w fun r w' => r = .returned (.int .i64 (T.value l)) ∧ Two w' B b n o tb T ∧ Below w.heap.size w w' := by
  have e0 := e
  obtain ⟨Fo, Ft, h1, h2, h3, h4, h5⟩ := e
  refine (value_any h2 hl).mono ?_
  rintro r w' ⟨rfl, k⟩
  exact ⟨rfl, e0.below k, k⟩
end
end Go.Proofs.Ytdkbchpogmiohaa
