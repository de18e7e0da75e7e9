/-
  Chapter 24, the reference: Negate, Equal.
-/
import Derived.Test.YtooioikkgdgnnaaDoorRfG
import Derived.Test.YtooioikkgdgnnaaDoorPbO
namespace Go.Proofs.YtooioikkgdgnnaaDoor
open Go.RowKit

/-- A constraint that was stored into box b. -/
theorem stored3 {W : World} {b : Nat} {x y z : Value} {n₀ : Nat} {F : Nat → Prop} {pv : Value} {c : Pb} (k : W.heap[b]? = some (.cells #[x, y, z] 24 (0, 0))) (hp : PbRd W F pv c) (hF : ∀ g, F g → n₀ ≤ g ∧ g ≠ b) (hb : n₀ ≤ b) (hn : n₀ ≤ W.heap.size) :
    ∃ A n cn B m cm, pv = .agg #[.slice A n cn, .slice B m cm, .int .i64 c.bound] ∧ ∀ W', (((W.setCell ⟨b, 0, none⟩ (.slice A n cn)).setCell ⟨b, 1, none⟩ (.slice B m cm)).setCell ⟨b, 2, none⟩ (.int .i64 c.bound)) = W' → W'.cell? ⟨b, 0, none⟩ = some (.slice A n cn) ∧ W'.cell? ⟨b, 1, none⟩ = some (.slice B m cm) ∧
      W'.cell? ⟨b, 2, none⟩ = some (.int .i64 c.bound) ∧ PbRd W' (fun g => n₀ ≤ g) (.agg #[.slice A n cn, .slice B m cm, .int .i64 c.bound]) c ∧ Below n₀ W W' := by
  obtain ⟨t0, t1, t2⟩ := box3 k
  obtain ⟨A, n, cn, B, m, cm, rfl, _, _⟩ := hp.form
  refine ⟨A, n, cn, B, m, cm, rfl, fun W' e => ?_⟩
  subst e
  obtain ⟨u0, u1, u2, m3⟩ := set3 t0 t1 t2 (.slice A n cn) (.slice B m cm) (.int .i64 c.bound)
  exact ⟨u0, u1, u2, (hp.mod m3 fun g _ h e => (hF g h).2 e).mono fun g _ h => (hF g h).1, below_mod (Below.refl _ _) hn m3 fun g e => by rw [e]; exact hb⟩
end Go.Proofs.YtooioikkgdgnnaaDoor
