/-
  What the law PropagateWrong asks where there is no engine or no trail.
-/
import Derived.Test.YtofobmgmgipomaaEnO
import Derived.Test.YtofobmgmgipomaaEnP
import Derived.Test.YtofobmgmgipomaaEnQ
import Derived.Test.YtofobmgmgipomaaEnR
import Derived.Test.YtofobmgmgipomaaEnY
namespace Go.Proofs.Ytofobmgmgipomaa
open Go.RowKit

theorem elen_none {w : World} {q : Option Addr} (hn : Calls Try.prog 35 #[.pointer q] w fun r w' => r = .returned (.bool true) ∧ w = w') : Calls Try.prog 16 #[.pointer q] w fun r w' => r = .returned (.int .i64 0) ∧ w = w' := by
  have hn := hid hn
  go_enter Try.func16, Try.ntmps16
  go_wp2_with (refine hn.out.mono ?_; rintro r w4 ⟨rfl, rfl⟩)
  go_ret
  exact ⟨rfl, rfl⟩
theorem tnone_nil {w : World} : Calls Try.prog 39 #[.pointer none] w fun r w' => r = .returned (.bool true) ∧ w = w' := by
  go_enter Try.func39, Try.ntmps39
  go_wp2_with fail
  go_ret
  exact ⟨rfl, rfl⟩
def NoLits (w w' : World) (r : Ending) : Prop := (∃ A c, r = .returned (.slice A 0 c)) ∧ Below w.heap.size w w'
theorem lits_nil {w : World} : Calls Try.prog 14 #[.pointer none] w fun r w' => NoLits w w' r := by
  go_enter Try.func14, Try.ntmps14
  go_wp2_with (refine tnone_nil.mono ?_; rintro r w4 ⟨rfl, rfl⟩)
  go_ret
  exact ⟨⟨_, _, rfl⟩, Below.refl _ _⟩
theorem lits_zero {w : World} {F : Nat → Prop} {b vars : Nat} (h : Trail w F b ⟨vars, [], []⟩) : Calls Try.prog 14 #[.pointer (some ⟨b, 0, none⟩)] w fun r w' => NoLits w w' r := by
  refine (lits_any h).mono ?_
  rintro r w' ⟨⟨u, rfl, ho⟩, hb⟩
  obtain ⟨A, c, rfl, _⟩ := ho.form
  exact ⟨⟨A, c, rfl⟩, hb⟩
def c1 : Pb := ⟨[1], [1], 1⟩
def c8 : Pb := ⟨[8], [1], 1⟩
def c8n : Pb := ⟨[-8], [1], 1⟩
theorem cl_c1 : clauseB [1] = (c1, 0) := (clause_at (by decide)).trans ((normed_cand (cand := [1]) (by decide) (by decide) (by decide)).trans (by rfl))
theorem cl_c8 : clauseB [8] = (c8, 0) := (clause_at (by decide)).trans ((normed_cand (cand := [8]) (by decide) (by decide) (by decide)).trans (by rfl))
theorem cl_c8n : clauseB [-8] = (c8n, 0) := (clause_at (by decide)).trans ((normed_cand (cand := [8]) (by decide) (by decide) (by decide)).trans (by rfl))
theorem fits_8 {E : Eng} (h : E.vars = 7) : E.fits c8 = false ∧ E.fits c8n = false ∧ E.fits ⟨[], [], 2⟩ = false := by
  rw [Eng.fits_vars (E' := ⟨7, [], [], 0⟩) h, Eng.fits_vars (E' := ⟨7, [], [], 0⟩) h, Eng.fits_vars (E' := ⟨7, [], [], 0⟩) h]
  decide +kernel
/-- A slice of two pointers. -/
theorem rd_ptr2 {W : World} {Z : Nat} {x y : Value} {t : TypeId} (k : W.heap[Z]? = some (.cells #[x, y] t)) : Rd W (fun g => g = Z) 1 (.slice (some ⟨Z, 0, none⟩) 2 2) 2 [x, y] := by
  refine ⟨rfl, _, _, rfl, Nat.le_refl _, by decide, fun _ => ⟨Z, 0, rfl, rfl, lt_of_block k, fun j u hj => ?_⟩⟩
  rw [Nat.zero_add, cell_of_row _ _ _ _ _ _ k]
  rw [← hj]
  simp
theorem rd_at {w : World} {F : Nat → Prop} {g n c : Nat} {xs : List Value} (h : Rd w F 1 (.slice (some ⟨g, 0, none⟩) n c) n xs) {k : Nat} (hk : k < n) {u : Value} (hu : xs[k]? = some u) : w.cell? ⟨g, k, none⟩ = some u := by
  obtain ⟨_, A, c', hv, _, _, hA⟩ := h
  injection hv with h1 _ _
  obtain ⟨g', o, e, _, _, hc⟩ := hA (by omega)
  rw [← h1] at e
  injection e with e
  injection e with e1 e2
  subst e1 e2
  rw [← Nat.zero_add k]
  exact hc k u hu
end Go.Proofs.Ytofobmgmgipomaa
