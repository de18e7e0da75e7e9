/-
  The plain laws of HeapNext and HeapBumps.
-/
import Derived.Test.YtdkbchpogmiohaaHeapM
namespace Go.Proofs.Ytdkbchpogmiohaa
open Go.RowKit

/-! ### HeapNext -/
/-- How many of the first k variables have no value. -/
def frees (val : Int → Int) : Nat → Nat
  | 0 => 0
  | k + 1 => frees val k + (if val ((k + 1 : Nat) : Int) = 0 then 1 else 0)
theorem frees_le (val : Int → Int) : ∀ k, frees val k ≤ k := by
  intro k
  induction k with
  | zero => exact Nat.le_refl _
  | succ k ih => unfold frees; split <;> omega
theorem frees_zero {val : Int → Int} : ∀ {k}, (∀ y : Nat, 1 ≤ y → y ≤ k → val y ≠ 0) → frees val k = 0 := by
  intro k
  induction k with
  | zero => intro _; rfl
  | succ k ih =>
    intro h
    unfold frees
    rw [ih fun y h1 h2 => h y h1 (by omega), if_neg (h (k + 1) (by omega) (by omega))]
theorem frees_pos {val : Int → Int} {x : Nat} (h1 : 1 ≤ x) (hx : val x = 0) : ∀ {k}, x ≤ k → 0 < frees val k := by
  intro k
  induction k with
  | zero => intro h; omega
  | succ k ih =>
    intro h
    unfold frees
    rcases (by omega : x ≤ k ∨ x = k + 1) with e | e
    · have := ih e; omega
    · subst e; rw [if_pos hx]; omega
theorem frees_same {val val' : Int → Int} : ∀ {k}, (∀ y : Nat, 1 ≤ y → y ≤ k → val' y = val y) → frees val' k = frees val k := by
  intro k
  induction k with
  | zero => intro _; rfl
  | succ k ih =>
    intro h
    unfold frees
    rw [ih fun y h1 h2 => h y h1 (by omega), h (k + 1) (by omega) (by omega)]
theorem frees_less {val val' : Int → Int} {x : Nat} (h1 : 1 ≤ x) (hx : val x = 0) (hx' : val' x ≠ 0) (ho : ∀ y : Nat, 1 ≤ y → y ≠ x → val' y = val y) : ∀ {k}, x ≤ k → frees val' k + 1 = frees val k := by
  intro k
  induction k with
  | zero => intro h; omega
  | succ k ih =>
    intro h
    unfold frees
    rcases (by omega : x ≤ k ∨ x = k + 1) with e | e
    · have := ih e
      rw [ho (k + 1) (by omega) (by omega)]
      omega
    · subst e
      rw [if_pos hx, if_neg hx', frees_same (val := val) (val' := val') fun y h2 h3 => ho y h2 (by omega)]
theorem nextBest_frees (acts : List Int) (val : Int → Int) (n : Nat) : decide (0 < nextBest acts val n) = decide (0 < frees val n) := by
  rcases nextBest_spec acts val n with ⟨h1, h2⟩ | ⟨h1, h2, h3, _⟩
  · rw [h1, frees_zero h2]
  · have := frees_pos h1 h3 h2
    simp [this]; omega
theorem Tr.dec_value {T : Tr} {v : Nat} (h1 : 1 ≤ v) (h2 : v ≤ T.vars) (h0 : T.value v = 0) : T.freeB v = true ∧ (T.dec v).value v ≠ 0 ∧ ∀ y : Nat, 1 ≤ y → y ≠ v → (T.dec v).value y = T.value y := by
  have hf : T.freeB v = true := by rw [Tr.free_iff]; exact ⟨by omega, by omega, h0⟩
  refine ⟨hf, ?_, fun y y1 y2 => ?_⟩
  · simp [Tr.dec, hf, Tr.value, Tr.decide, Tr.lits]
  · have e1 : (y : Int) ≠ v := by omega
    have e2 : -(y : Int) ≠ v := by omega
    simp only [Tr.dec, hf, if_true, Tr.value, Tr.decide, Tr.lits, List.map_append, List.mem_append, List.map_cons, List.map_nil, List.mem_singleton, e1, e2, or_false]
    by_cases m1 : (y : Int) ∈ List.map Ent.lit T.L <;> by_cases m2 : -(y : Int) ∈ List.map Ent.lit T.L <;> simp [m1, m2]
/-- last precedes all variables that have no value. -/
def Lead (acts : List Int) (n : Nat) (val : Int → Int) (last : Nat) : Prop := ∀ y : Nat, 1 ≤ y → y ≤ n → val y = 0 → ahead acts last y = true
theorem lead_next {acts : List Int} {n : Nat} {T : Tr} (hn : T.vars = n) {v : Nat} (hv : nextBest acts T.value n = v) (h1 : 1 ≤ v) :
    v ≤ n ∧ T.value v = 0 ∧ (∀ y : Nat, 1 ≤ y → y ≤ n → T.value y = 0 → y ≠ v → ahead acts v y = true) ∧ T.freeB v = true ∧ Lead acts n (T.dec v).value v ∧ frees (T.dec v).value n + 1 = frees T.value n := by
  rcases nextBest_spec acts T.value n with ⟨h, _⟩ | ⟨_, h2, h3, h4⟩
  · omega
  · rw [hv] at h2 h3 h4
    obtain ⟨a, b, c⟩ := Tr.dec_value h1 (by omega) h3
    refine ⟨h2, h3, h4, a, fun y y1 y2 y3 => ?_, frees_less h1 h3 b c h2⟩
    have hne : y ≠ v := fun e => b (by rw [e] at y3; exact y3)
    exact h4 y y1 y2 (by rw [← c y y1 hne]; exact y3) hne

/-! ### HeapBumps -/
/-- The activities behind a call, from those before it: vb is the variable that was bumped, or none (0). -/
structure Grown (n vb : Nat) (was now : List Int) : Prop where
  plain : (∀ y, 1 ≤ y → y ≤ n → nth was y ≤ nth now y) → ∀ y, 1 ≤ y → y ≤ n → (nth was y < nth now y ↔ y = vb)
  mono : ∀ y z, 1 ≤ y → y ≤ n → 1 ≤ z → z ≤ n → nth was z ≤ nth was y → z ≠ vb → nth now z ≤ nth now y
theorem low_le {x : Int} (h : 0 ≤ x) : low x ≤ x ∧ 0 ≤ low x ∧ (0 < x → low x < x) := by
  unfold low
  omega
theorem low_mono {x y : Int} (h : x ≤ y) : low x ≤ low y := by
  unfold low
  omega
theorem nth_map_low (xs : List Int) (k : Nat) : nth (xs.map low) k = low (nth xs k) := by
  unfold nth
  rw [List.getElem?_map]
  cases xs[k]? with
  | none => show (0 : Int) = low 0; decide
  | some x => rfl
theorem Grown.decay {n : Nat} {o : Om} (h : o.WF n) : Grown n 0 o.acts o.decay.acts := by
  unfold Om.decay
  split
  · have e : ∀ k, nth (Om.rescale ⟨o.acts, o.inc + (o.inc / 8 + 1)⟩).acts k = low (nth o.acts k) := fun k => nth_map_low _ _
    refine ⟨fun hs y y1 y2 => ?_, fun y z _ _ _ _ hzy _ => ?_⟩
    · rw [e]
      have := low_le (h.act y).1
      constructor
      · intro; omega
      · intro; omega
    · rw [e, e]; exact low_mono hzy
  · exact ⟨fun _ y y1 y2 => ⟨fun k => absurd k (Int.lt_irrefl _), fun k => by omega⟩, fun y z _ _ _ _ hzy _ => hzy⟩
theorem Grown.bump {n v : Nat} {o : Om} (h : o.WF n) (v1 : 1 ≤ v) (v2 : v ≤ n) : Grown n v o.acts (o.bump v).acts := by
  have hl : v < o.acts.length := by have := h.len; omega
  have e0 : ∀ k, nth (o.acts.set v (nth o.acts v + o.inc)) k = if k = v then nth o.acts v + o.inc else nth o.acts k := fun k => by
    rw [nth_set']
    by_cases hk : k = v
    · subst hk; simp [hl]
    · rw [if_neg hk, if_neg (fun x => hk x.1.symm)]
  have i1 := h.inc1
  have i2 := h.inc2
  unfold Om.bump
  split
  · rename_i hbig
    have e : ∀ k, nth (Om.rescale ⟨o.acts.set v (nth o.acts v + o.inc), o.inc⟩).acts k = low (if k = v then nth o.acts v + o.inc else nth o.acts k) := fun k => by rw [← e0]; exact nth_map_low _ _
    refine ⟨fun hs y y1 y2 => ?_, fun y z y1 y2 z1 z2 hzy hz => ?_⟩
    · have hv := hs v v1 v2
      rw [e, if_pos rfl] at hv
      have hb := (h.act v).2
      exfalso
      unfold low at hv
      omega
    · rw [e, e, if_neg hz]
      refine low_mono ?_
      split
      · rename_i hy; subst hy; omega
      · exact hzy
  · refine ⟨fun hs y y1 y2 => ?_, fun y z y1 y2 z1 z2 hzy hz => ?_⟩
    · dsimp only
      rw [e0]
      split
      · rename_i hy; subst hy
        constructor
        · intro; rfl
        · intro; omega
      · constructor
        · intro; omega
        · intro; contradiction
    · dsimp only
      rw [e0, e0, if_neg hz]
      split
      · rename_i hy; subst hy; omega
      · exact hzy
end Go.Proofs.Ytdkbchpogmiohaa
