/-
 Plain law of SearchCounts: the clause that excludes a model takes one model away.
-/
import Derived.Test.YtcjmpobccbnpkaaGreatSgI
namespace Go.Proofs.YtcjmpobccbnpkaaGreat
open Go.RowKit

/-- The literals that exclude a model. -/
def blk (M : List Int) (k : Nat) : List Int := (List.range k).map fun i : Nat => -((i : Int) + 1) * nth M i
theorem blk_succ (M : List Int) (k : Nat) : blk M (k + 1) = blk M k ++ [-((k : Int) + 1) * nth M k] := by
 unfold blk
 rw [List.range_succ, List.map_append]
 rfl
theorem blk_len (M : List Int) (k : Nat) : (blk M k).length = k := by simp [blk]
/-- A total assignment of 7 variables. -/
structure Full (M : List Int) : Prop where
 len : M.length = 7
 one : ∀ i, i < 7 → nth M i = 1 ∨ nth M i = -1
theorem Full.ne {M : List Int} (h : Full M) : ∀ i, i < 7 → nth M i ≠ 0 := fun i hi => by rcases h.one i hi with e | e <;> omega
theorem Full.ext {M N : List Int} (h : Full M) (g : Full N) (e : ∀ i, i < 7 → nth M i = nth N i) : M = N := by
 refine List.ext_getElem (by rw [h.len, g.len]) fun i h1 h2 => ?_
 have h3 := e i (by rw [← h.len]; exact h1)
 rwa [nth_eq h1, nth_eq h2] at h3
theorem Full.tot {b : Nat} (hb : b < 128) : Full (totUp7 (b : Int) 7) := ⟨totUp7_len _ _, fun i hi => by
 rw [totUp7_nth _ _ hi, if_pos hi, bit7_is hb hi]
 split
 ·exact .inl rfl
 ·exact .inr rfl⟩
theorem blk_mem {M : List Int} (h : Full M) : ∀ x ∈ blk M 7, litB x = true ∧ x.natAbs ≤ 7 := fun x hx => by
 obtain ⟨i, hi, rfl⟩ := List.mem_map.1 hx
 have hi := List.mem_range.1 hi
 rcases h.one i hi with e | e
 ·rw [e]; exact ⟨litB_iff.2 (by omega), by omega⟩
 ·rw [e]; exact ⟨litB_iff.2 (by omega), by omega⟩
theorem blk_ok {M : List Int} (h : Full M) : OkN 7 [(clauseB (blk M 7)).1] := fun p hp => by
 rw [List.mem_singleton.1 hp]
 exact clauseB_okN (blk_mem h) (by rw [blk_len]; omega)
theorem blk_true {M N : List Int} (h : Full M) (g : Full N) : (blk M 7).any (tr (sOf N)) = true ↔ N ≠ M := by
 have key : ∀ i : Nat, i < 7 → (tr (sOf N) (-((i : Int) + 1) * nth M i) = true ↔ nth N i ≠ nth M i) := fun i hi => by
  rcases h.one i hi with e | e
  ·rw [e, show -((i : Int) + 1) * 1 = -((i : Int) + 1) by omega]
   unfold tr sOf
   rw [if_neg (by omega), show (-(-((i : Int) + 1))).natAbs - 1 = i by omega]
   rcases g.one i hi with e2 | e2 <;> rw [e2] <;> decide
  ·rw [e, show -((i : Int) + 1) * -1 = (i : Int) + 1 by omega]
   unfold tr sOf
   rw [if_pos (by omega), show ((i : Int) + 1).natAbs - 1 = i by omega]
   rcases g.one i hi with e2 | e2 <;> rw [e2] <;> decide
 rw [List.any_eq_true]
 refine ⟨fun ⟨x, hx, ht⟩ e => ?_, fun hne => ?_⟩
 ·obtain ⟨i, hi, rfl⟩ := List.mem_map.1 hx
  exact (key i (List.mem_range.1 hi)).1 ht (by rw [e])
 ·refine Classical.byContradiction fun hno => hne (g.ext h fun i hi => Classical.byContradiction fun hd => hno ⟨_, List.mem_map.2 ⟨i, List.mem_range.2 hi, rfl⟩, (key i hi).2 hd⟩)
theorem fine_blk {M N : List Int} (h : Full M) (g : Full N) : fineB [(clauseB (blk M 7)).1] [] N = true ↔ N ≠ M := by
 rw [fineB_iff (blk_ok h) (by simp) g.ne, ← blk_true h g]
 have hc := clause_holds (sOf N) (fun x hx => (blk_mem h x hx).1) (show (blk M 7).length ≤ 8 by rw [blk_len]; omega)
 refine ⟨fun ⟨h1, _⟩ => hc.1 (h1 _ (List.mem_singleton.2 rfl)), fun h1 => ⟨fun p hp => ?_, by simp⟩⟩
 rw [List.mem_singleton.1 hp]
 exact hc.2 h1
def dec7 (l : List Int) : Nat := (List.range 7).foldl (fun a i => a + if nth l i = 1 then 2 ^ i else 0) 0
theorem dec7_all : (List.range 128).all (fun b => dec7 (totUp7 (b : Int) 7) == b) = true := by kernel_rfl
theorem dec7_is {b : Nat} (hb : b < 128) : dec7 (totUp7 (b : Int) 7) = b := eq_of_beq (List.all_eq_true.1 dec7_all b (List.mem_range.2 hb))
theorem Full.some {M : List Int} (h : Full M) : ∃ b : Nat, b < 128 ∧ totUp7 (b : Int) 7 = M := by
 obtain ⟨b, hb, h1⟩ := some_bits (sOf M)
 refine ⟨b, hb, (Full.tot hb).ext h fun i hi => ?_⟩
 have h2 := h1 i hi
 unfold sOf at h2
 rw [show ((i : Int) + 1).natAbs - 1 = i by omega] at h2
 rcases (Full.tot hb).one i hi with e | e <;> rcases h.one i hi with e2 | e2 <;> rw [e, e2] at h2 ⊢ <;> revert h2 <;> decide
theorem countP_but {p : Nat → Bool} {b0 : Nat} (hp : p b0 = true) : ∀ {l : List Nat}, l.Nodup → b0 ∈ l → l.countP (fun b => p b && !(b == b0)) + 1 = l.countP p
 | [], _, h => by cases h
 |a :: t, hn, h => by
  obtain ⟨h1, h2⟩ := List.nodup_cons.1 hn
  rw [List.countP_cons, List.countP_cons]
  by_cases e : a = b0
  ·subst e
   have : t.countP (fun b => p b && !(b == a)) = t.countP p := List.countP_congr fun b hb => by
    have : b ≠ a := fun e => h1 (e ▸ hb)
    simp [this]
   rw [this]
   simp [hp]
  ·have ih := countP_but hp h2 ((List.mem_cons.1 h).resolve_left fun h => e h.symm)
   have : (!(a == b0)) = true := by simp [e]
   rw [this, Bool.and_true]
   omega
/-- The clause takes one model away. -/
theorem models_blk {Bs : List Pb} {M : List Int} (h : Full M) (hf : fineB Bs [] M = true) : modelsN (Bs ++ [(clauseB (blk M 7)).1]) [] 128 + 1 = modelsN Bs [] 128 := by
 obtain ⟨b0, hb0, e0⟩ := h.some
 unfold modelsN
 rw [← countP_but (p := fun b : Nat => fineB Bs [] (totUp7 (b : Int) 7)) (b0 := b0) (by show fineB Bs [] (totUp7 (b0 : Int) 7) = true; rw [e0]; exact hf) List.nodup_range (List.mem_range.2 hb0)]
 congr 1
 refine List.countP_congr fun b hb => ?_
 have hb := List.mem_range.1 hb
 have e1 : fineB (Bs ++ [(clauseB (blk M 7)).1]) [] (totUp7 (b : Int) 7) = (fineB Bs [] (totUp7 (b : Int) 7) && fineB [(clauseB (blk M 7)).1] [] (totUp7 (b : Int) 7)) := by simp [fineB]
 have e2 : fineB [(clauseB (blk M 7)).1] [] (totUp7 (b : Int) 7) = !(b == b0) := by
  rw [Bool.eq_iff_iff, fine_blk h (Full.tot hb), ← e0]
  simp only [Bool.not_eq_true', beq_eq_false_iff_ne, ne_eq]
  exact not_congr ⟨fun e => by rw [← dec7_is hb, e, dec7_is hb0], fun e => by rw [e]⟩
 rw [e1, e2]
/-- The constraints that are known, and the models that are still to be found. -/
structure Cnt (ps : List Pb) (i : Nat) (Bs : List Pb) : Prop where
 ok : OkN 7 Bs
 pre : ∃ cs, Bs = ps ++ cs
 n : i + modelsN Bs [] 128 = modelsN ps [] 128
theorem Cnt.start {ps : List Pb} (h : OkN 7 ps) : Cnt ps 0 ps := ⟨h, ⟨[], by simp⟩, by omega⟩
theorem Cnt.le {ps Bs : List Pb} {i : Nat} (h : Cnt ps i Bs) : i + modelsN Bs [] 128 ≤ 128 := by rw [h.n]; exact modelsN_le _ _ _
theorem Cnt.fine {ps Bs : List Pb} {i : Nat} {M : List Int} (h : Cnt ps i Bs) (hf : fineB Bs [] M = true) : fineB ps [] M = true := by
 obtain ⟨cs, rfl⟩ := h.pre
 unfold fineB at hf ⊢
 rw [List.all_append] at hf
 simp only [List.all_nil, Bool.and_true, Bool.and_eq_true] at hf ⊢
 exact hf.1
theorem Cnt.next {ps Bs : List Pb} {i : Nat} {M : List Int} (h : Cnt ps i Bs) (hM : Full M) (hf : fineB Bs [] M = true) : Cnt ps (i + 1) (Bs ++ [(clauseB (blk M 7)).1]) := by
 refine ⟨fun p hp => ?_, ?_, ?_⟩
 ·rcases List.mem_append.1 hp with hp | hp
  ·exact h.ok p hp
  ·exact blk_ok hM p hp
 ·obtain ⟨cs, rfl⟩ := h.pre
  exact ⟨cs ++ [(clauseB (blk M 7)).1], by rw [List.append_assoc]⟩
 ·have := models_blk hM hf
  have := h.n
  omega
end Go.Proofs.YtcjmpobccbnpkaaGreat
