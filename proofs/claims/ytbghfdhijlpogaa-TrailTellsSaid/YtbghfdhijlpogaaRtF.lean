/-
  A trail and the reference's trail side by side.
-/
import Derived.Test.YtbghfdhijlpogaaRtE
namespace Go.Proofs.Ytbghfdhijlpogaa
open Go.RowKit

/-- The trail at b and the reference's trail in the box rb read as T, in blocks of their own. -/
def Both (B rb b : Nat) (T : Tr) (W : World) (F P : Nat → Prop) (A : Option Addr) (c : Nat) : Prop :=
  Trail W F b T ∧ RefRd P W (.agg #[.int .i64 T.vars, .int .i64 T.depth, .slice A T.L.length c]) T ∧ W.heap[rb]? = some (.cells #[.int .i64 T.vars, .int .i64 T.depth, .slice A T.L.length c] 48) ∧
    (∀ g, F g → g < W.heap.size ∧ B ≤ g ∧ g ≠ rb ∧ ¬ P g) ∧ (∀ g, P g → g < W.heap.size ∧ g ≠ rb) ∧ (∀ e ∈ T.L, e.reason.length ≤ 20) ∧ B ≤ rb
variable {B rb b c c' : Nat} {T T' : Tr} {W W1 W2 W3 : World} {F P : Nat → Prop} {A A' : Option Addr}
theorem Both.below (h : Both B rb b T W F P A c) (hb : Below W.heap.size W W1) : Both B rb b T W1 F P A c := by
  obtain ⟨h1, h2, h3, h4, h5, h6, h7⟩ := h
  have hs := hb.size
  exact ⟨h1.below hb, h2.below hb, keep_blk h3 hb, fun g hg => ⟨by have := (h4 g hg).1; omega, (h4 g hg).2⟩, fun g hg => ⟨by have := (h5 g hg).1; omega, (h5 g hg).2⟩, h6, h7⟩
theorem Both.rb_lt (h : Both B rb b T W F P A c) : rb < W.heap.size := lt_of_block h.2.2.1
/-- A step of the reference (W to W1), then what touches no older block (W1 to W2), then the same step of the trail (W2 to W3). -/
theorem Both.step (h : Both B rb b T W F P A c) {u : Value} (h1 : RefRd (fun g => P g ∨ W.heap.size ≤ g) W1 u T') (b1 : Below W.heap.size W W1) (b2 : Below W1.heap.size W1 W2) (ht : Trail W3 (fun g => F g ∨ W2.heap.size ≤ g) b T') (m3 : Mod F W2 W3)
    (hl : ∀ e ∈ T'.L, e.reason.length ≤ 20) : ∃ A' c', u = .agg #[.int .i64 T'.vars, .int .i64 T'.depth, .slice A' T'.L.length c'] ∧ Mod F W W3 ∧
      W3.heap[rb]? = some (.cells #[.int .i64 T.vars, .int .i64 T.depth, .slice A T.L.length c] 48) ∧
      ∀ W4, Mod (fun g => g = rb) W3 W4 → W4.heap[rb]? = some (.cells #[.int .i64 T'.vars, .int .i64 T'.depth, .slice A' T'.L.length c'] 48) →
        ∃ F' P', Both B rb b T' W4 F' P' A' c' := by
  obtain ⟨k1, k2, k3, k4, k5, k6, k7⟩ := h
  obtain ⟨A', c', ts, rfl, h2, h3⟩ := h1
  have s1 := b1.size
  have s2 := b2.size
  have s3 := m3.size
  have hrb := lt_of_block k3
  have m0 : Mod F W W3 := ((Mod.of_below b1).then_below b2).trans (m3.mono fun g _ hg => .inl hg)
  refine ⟨A', c', rfl, m0, (m0.block rb hrb fun hg => (k4 rb hg).2.2.1 rfl).trans k3, ?_⟩
  intro W4 m4 k4'
  have s4 := m4.size
  have hr : RefRd (fun g => (P g ∨ W.heap.size ≤ g) ∧ g < W1.heap.size) W1 (.agg #[.int .i64 T'.vars, .int .i64 T'.depth, .slice A' T'.L.length c']) T' := RefRd.mono ⟨A', c', ts, rfl, h2, h3⟩ fun g hg hP => ⟨hP, hg⟩
  have hr3 := (hr.below b2).mod m3 fun g _ hP hF => by
    have h5 := k4 g hF
    rcases hP.1 with h6 | h6
    · exact h5.2.2.2 h6
    · omega
  refine ⟨fun g => (F g ∨ W2.heap.size ≤ g) ∧ g < W3.heap.size, fun g => (P g ∨ W.heap.size ≤ g) ∧ g < W1.heap.size, ht.restrict.mod m4 fun g _ hF hg => ?_, hr3.mod m4 fun g _ hP hg => ?_, k4', fun g hg => ?_, fun g hg => ?_, hl, k7⟩
  · subst hg
    rcases hF.1 with h6 | h6
    · exact (k4 _ h6).2.2.1 rfl
    · omega
  · subst hg
    rcases hP.1 with h6 | h6
    · exact (k5 _ h6).2 rfl
    · omega
  · refine ⟨by omega, ?_, fun e => ?_, fun hP => ?_⟩
    · rcases hg.1 with h6 | h6
      · exact (k4 g h6).2.1
      · omega
    · rcases hg.1 with h6 | h6
      · exact (k4 g h6).2.2.1 e
      · omega
    · rcases hg.1 with h6 | h6
      · rcases hP.1 with h7 | h7
        · exact (k4 g h6).2.2.2 h7
        · have := (k4 g h6).1
          omega
      · omega
  · refine ⟨by omega, fun e => ?_⟩
    rcases hg.1 with h6 | h6
    · exact (k5 g h6).2 e
    · omega
/-- Storing three cells. -/
theorem stored3 {W : World} {g : Nat} {cs : Array Value} {t : TypeId} (h : W.heap[g]? = some (.cells cs t)) (hs : cs.size = 3) (x y z : Value) :
    (((W.setCell ⟨g, 0, none⟩ x).setCell ⟨g, 1, none⟩ y).setCell ⟨g, 2, none⟩ z).heap[g]? = some (.cells #[x, y, z] t) ∧ Mod (fun i => i = g) W (((W.setCell ⟨g, 0, none⟩ x).setCell ⟨g, 1, none⟩ y).setCell ⟨g, 2, none⟩ z) := by
  obtain ⟨x0, y0, z0, rfl⟩ : ∃ x0 y0 z0, cs = #[x0, y0, z0] := by
    match cs, hs with
    | ⟨[a, b, c]⟩, _ => exact ⟨a, b, c, rfl⟩
  have h0 := heap_setCell_same W g 0 #[x0, y0, z0] t x h
  have h1 := heap_setCell_same _ g 1 _ t y h0
  have h2 := heap_setCell_same _ g 2 _ t z h1
  exact ⟨h2, (((Mod.refl (fun i => i = g) W).setCell (p := ⟨g, 0, none⟩) (.inl rfl) _).setCell (p := ⟨g, 1, none⟩) (.inl rfl) _).setCell (p := ⟨g, 2, none⟩) (.inl rfl) _⟩
/-- The lengths of reasons. -/
theorem small_dec (h : ∀ e ∈ T.L, e.reason.length ≤ 20) (l : Int) : ∀ e ∈ (T.dec l).L, e.reason.length ≤ 20 := by
  unfold Tr.dec
  split
  · intro e he
    simp only [Tr.decide, List.mem_append, List.mem_singleton] at he
    rcases he with he | rfl
    · exact h e he
    · simp
  · exact h
theorem small_imp (h : ∀ e ∈ T.L, e.reason.length ≤ 20) (l : Int) {r : List Int} (hr : r.length ≤ 20) : ∀ e ∈ (T.imp l r).L, e.reason.length ≤ 20 := by
  unfold Tr.imp
  split
  · intro e he
    simp only [Tr.imply, List.mem_append, List.mem_singleton] at he
    rcases he with he | rfl
    · exact h e he
    · exact hr
  · exact h
theorem small_back (h : ∀ e ∈ T.L, e.reason.length ≤ 20) (K : Nat) : ∀ e ∈ (T.back K).L, e.reason.length ≤ 20 := by
  unfold Tr.back
  split
  · intro e he
    exact h e (List.mem_of_mem_take he)
  · exact h
end Go.Proofs.Ytbghfdhijlpogaa
