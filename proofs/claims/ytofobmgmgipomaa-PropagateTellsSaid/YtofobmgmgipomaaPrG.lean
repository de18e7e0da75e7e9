/-
  The reference's Closed against Propagate.
-/
import Derived.Test.YtofobmgmgipomaaRfN
namespace Go.Proofs.Ytofobmgmgipomaa
open Go.RowKit

theorem closed_same {E E' : Eng} {T T' : Tr} {v : Value} {b f : Bool} {cs : List Pb} {xs : List Nat} (P : PropR E T E' T' v b) (hE : E.Ok) (hT : T.WF) (hv : E.vars ≤ T.vars) (hcs : E.cs = cs) (h1 : ∀ i ∈ xs, i < cs.length)
    (h4 : f = false → ∀ c ∈ cs, c.Calm (runX cs T.lits xs)) (h5 : f = true → ∃ i, i < cs.length ∧ (cAt cs i).slackX (runX cs T.lits xs) < 0) : f = b ∧ (b = false → ∀ l, valX (runX cs T.lits xs) l = T'.value l) := by
  subst hcs
  obtain ⟨ys, i2, e2, o2, s2, c2, d2⟩ := P.lits hE hT hv
  have o1 : okX (runX E.cs T.lits xs) := okX_run hE.cs h1 hT.okX
  have hb : f = b := by
    cases f with
    | false =>
      cases b with
      | false => rfl
      | true =>
        obtain ⟨i, hi, hs⟩ := d2 rfl
        exact absurd hs (no_clash hE.cs (fun c hc => hc) o1 (h4 rfl) (fun l hl => runX_sub hl) i2 hi)
    | true =>
      cases b with
      | true => rfl
      | false =>
        obtain ⟨i, hi, hs⟩ := h5 rfl
        exact absurd hs (no_clash hE.cs (fun c hc => hc) o2 (c2 rfl) s2 h1 hi)
  refine ⟨hb, fun hf l => ?_⟩
  rw [Tr.value_is]
  refine same_val (fun l hl => ?_) (fun l hl => ?_) l
  · exact (run_inside hE.cs (fun c hc => hc) o2 (c2 hf) xs T.lits s2 h1).2 l hl
  · rw [e2] at hl
    exact (run_inside hE.cs (fun c hc => hc) o1 (h4 (hb.trans hf)) ys T.lits (fun l hl => runX_sub hl) i2).2 l hl
theorem some_from {cs : List Pb} {v : Nat} {e : Ent} (hok : ∀ c ∈ cs, c.Ok) (h : FromX cs v e) : (cs.any fun p => impC p e.reason) = true := by
  obtain ⟨i, X, hi, hn, hr, _⟩ := h
  exact List.any_eq_true.2 ⟨_, cAt_mem hi, by rw [hr]; exact impC_new (hok _ (cAt_mem hi)) hn⟩
theorem some_off {cs : List Pb} {X : List Int} {i : Nat} (hi : i < cs.length) (hs : (cAt cs i).slackX X < 0) : (cs.any fun p => impC p ((cAt cs i).offX X)) = true :=
  List.any_eq_true.2 ⟨_, cAt_mem hi, impC_off hs⟩
theorem FromX.head {cs : List Pb} {v : Nat} {e : Ent} (h : FromX cs v e) : nth e.reason 0 = e.lit ∧ 0 < e.reason.length ∧ e.level = v := by
  obtain ⟨i, X, hi, hn, hr, _, _, hl⟩ := h
  exact ⟨by rw [hr]; rfl, by rw [hr]; simp, hl⟩
end Go.Proofs.Ytofobmgmgipomaa
