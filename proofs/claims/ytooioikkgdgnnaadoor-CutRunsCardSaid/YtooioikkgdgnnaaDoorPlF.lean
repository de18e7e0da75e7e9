/-
  Chapter 24: the plain facts of a small clause.
-/
import Derived.Test.YtooioikkgdgnnaaDoorPlE
import Derived.Test.YtooioikkgdgnnaaDoorPlD
import Derived.Test.YtooioikkgdgnnaaDoorPbMap
namespace Go.Proofs.YtooioikkgdgnnaaDoor

theorem PbRd.at {w : World} {F : Nat → Prop} {x y : Value} {N : Pb} {z : Int} (h : PbRd w F (.agg #[x, y, .int .i64 N.bound]) N) (hz : N.bound = z) : PbRd w F (.agg #[x, y, .int .i64 z]) N := by rw [← hz]; exact h
theorem sm_litB {L C : List Int} (h : Sm L C) : ∀ l ∈ L, litB l = true := fun l hl => litB_iff.2 (by have := h.lit l hl; exact ⟨this.1, by omega, by omega⟩)
theorem clause_ok {L C : List Int} (h : Sm L C) : (clauseB L).1.Ok := by
  have h1 := once_len L
  have h2 := once_small (sm_litB h) h.few
  rw [clauseB_is] at h2 ⊢
  exact (Pb.ok_iff _).1 (norm_valid (once_in (sm_litB h) (by have := h.few; omega)) h2)
theorem clause_six {L C : List Int} (h : Sm L C) {j : Nat} (hj : j < (clauseB L).1.lits.length) : (nth (clauseB L).1.lits j).natAbs ≤ 6 := by
  have h1 := nth_mem hj
  rw [clauseB_is] at h1 ⊢
  obtain ⟨x, hx, e⟩ := norm_lits h1
  have := h.lit x (mem_once.1 hx)
  omega
theorem clause_tot {L C : List Int} (h : Sm L C) {av : List Int} (hv : Tot av) : (clauseB L).1.holdsB av = L.any (litT av) := by
  rw [tot_holds (clause_ok h) (fun j hj => clause_six h hj) hv]
  rw [Bool.eq_iff_iff, decide_eq_true_eq, clause_holds (sOf av) (sm_litB h) h.few, List.any_eq_true, List.any_eq_true]
  exact ⟨fun ⟨x, hx, e⟩ => ⟨x, hx, by rw [litT_tr hv (h.lit x hx)]; exact e⟩, fun ⟨x, hx, e⟩ => ⟨x, hx, by rw [← litT_tr hv (h.lit x hx)]; exact e⟩⟩
theorem clash_any {L C : List Int} (h : Sm L C) {av : List Int} (hv : Tot av) (hc : clash L = true) : L.any (litT av) = true := by
  obtain ⟨x, hx, hx2⟩ := clash_iff.1 hc
  rw [List.any_eq_true]
  have h0 := (h.lit x hx).1
  cases e : tr (sOf av) x with
  | true => exact ⟨x, hx, by rw [litT_tr hv (h.lit x hx)]; exact e⟩
  | false => exact ⟨-x, hx2, by rw [litT_tr hv (h.lit _ hx2), tr_neg _ h0, e]; rfl⟩
def bothUp (L : List Int) (j : Nat) : Bool := (List.range j).any fun i => decide (-(nth L i) ∈ L.take (i + 1))
theorem bothUp_succ (L : List Int) (j : Nat) : bothUp L (j + 1) = (bothUp L j || decide (-(nth L j) ∈ L.take (j + 1))) := by simp [bothUp, List.range_succ]
theorem bothUp_all {L : List Int} (h : ∀ l ∈ L, l ≠ 0) : bothUp L L.length = clash L := by
  rw [Bool.eq_iff_iff, clash_iff]
  unfold bothUp
  rw [List.any_eq_true]
  constructor
  · rintro ⟨i, hi, e⟩
    exact ⟨_, nth_mem (List.mem_range.1 hi), List.mem_of_mem_take (of_decide_eq_true e)⟩
  · rintro ⟨x, hx, hx2⟩
    obtain ⟨i, hi, ei⟩ := List.getElem_of_mem hx
    obtain ⟨j, hj, ej⟩ := List.getElem_of_mem hx2
    have h0 := h x hx
    have hmem : ∀ a b : Nat, a < b → b < L.length → nth L a ∈ L.take (b + 1) := fun a b hab hb => by
      have e : (L.take (b + 1))[a]? = some (nth L a) := by rw [List.getElem?_take, if_pos (by omega), nth_get (by omega)]
      exact List.mem_of_getElem? e
    rw [← nth_eq hi] at ei
    rw [← nth_eq hj] at ej
    rcases Nat.lt_trichotomy i j with e | e | e
    · exact ⟨j, List.mem_range.2 hj, decide_eq_true (by rw [ej, Int.neg_neg, ← ei]; exact hmem i j e hj)⟩
    · subst e; omega
    · exact ⟨i, List.mem_range.2 hi, decide_eq_true (by rw [ei, ← ej]; exact hmem j i e hi)⟩
theorem keys_once (L : List Int) : (keysOf L).length = (once L).length := by
  obtain ⟨h1, h2⟩ := keysOf_is L
  exact ((List.perm_ext_iff_of_nodup h1 (once_nodup L)).2 fun x => by rw [h2, mem_once]).length_eq
end Go.Proofs.YtooioikkgdgnnaaDoor
