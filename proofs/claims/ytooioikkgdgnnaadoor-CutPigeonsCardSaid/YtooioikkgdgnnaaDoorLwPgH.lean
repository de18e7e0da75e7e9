/-
  Chapter 25: pigeons and holes (plain facts of CutPigeons).
-/
import Derived.Test.YtooioikkgdgnnaaDoorLwRsH
import Derived.Test.YtooioikkgdgnnaaDoorLwDb
namespace Go.Proofs.YtooioikkgdgnnaaDoor

/-- The clause of a pigeon, the constraint of a hole, and their sums. -/
def pgC (H p : Nat) : Pb := ⟨(List.range H).map fun h => ((1 + p * H + h : Nat) : Int), List.replicate H 1, 1⟩
def hlC (H h : Nat) : Pb := ⟨(List.range (H + 1)).map fun p => -((1 + p * H + h : Nat) : Int), List.replicate (H + 1) 1, H⟩
def pgDb (H k : Nat) : Pb := if k < H + 1 then pgC H k else hlC H (k - (H + 1))
def accL (H k : Nat) : List Int := if k ≤ H + 1 then (List.range (k * H)).map fun i => ((i + 1 : Nat) : Int) else ((List.range ((H + 1) * H)).filter fun i => decide (k - (H + 1) ≤ i % H)).map fun i => ((i + 1 : Nat) : Int)
def accC (H k : Nat) : Pb := ⟨accL H k, List.replicate (accL H k).length 1, ((if k ≤ H + 1 then k else 2 * H + 2 - k : Nat) : Int)⟩
def cand42 : List Int := (List.range 42).map fun i => ((i + 1 : Nat) : Int)
def onesB (c : Pb) : Bool := c.ok && c.coefs.all (fun k => decide (k = 1)) && c.lits.all (fun l => decide (l.natAbs ≤ 42)) && decide (c.lits.length ≤ 100)
def stepOk (a d c : Pb) : Bool := onesB a && onesB d && onesB c && cand42.all (fun v => decide (sgn a.lits v + sgn d.lits v = sgn c.lits v)) &&
  decide (a.bound + d.bound - (nsum a.lits a.coefs a.lits.length + nsum d.lits d.coefs d.lits.length) = c.bound - nsum c.lits c.coefs c.lits.length)
structure Ones (c : Pb) : Prop where
  ok : c.Ok
  one : ∀ k ∈ c.coefs, k = 1
  lit : ∀ l ∈ c.lits, l.natAbs ≤ 42
  few : c.lits.length ≤ 100
theorem ones_of {c : Pb} (h : onesB c = true) : Ones c := by
  unfold onesB at h
  simp only [Bool.and_eq_true, decide_eq_true_eq, List.all_eq_true] at h
  exact ⟨(Pb.ok_iff c).1 h.1.1.1, h.1.1.2, h.1.2, h.2⟩
theorem Ones.vsum {c : Pb} (h : Ones c) {v : Int} (hv : 1 ≤ v) : vsum c.lits c.coefs c.lits.length v = sgn c.lits v := by
  unfold sgn
  have hco : ∀ i, i < c.lits.length → nth c.coefs i = 1 := fun i hi => h.one _ (nth_mem (by rw [← h.ok.len]; exact hi))
  by_cases e : v ∈ c.lits
  · rw [if_pos e]
    obtain ⟨i, hi, e2⟩ := nth_of_mem e
    have h1 := h.ok.vsum hi
    unfold Pb.av at h1
    rw [e2, show ((v.natAbs : Nat) : Int) = v by omega, if_neg (by omega), hco i hi] at h1
    exact h1
  · rw [if_neg e]
    by_cases e3 : -v ∈ c.lits
    · rw [if_pos e3]
      obtain ⟨i, hi, e2⟩ := nth_of_mem e3
      have h1 := h.ok.vsum hi
      unfold Pb.av at h1
      rw [e2, show (((-v).natAbs : Nat) : Int) = v by omega, if_pos (by omega), hco i hi] at h1
      exact h1
    · rw [if_neg e3]
      refine h.ok.vsum0 (fun i hi e2 => ?_) hv
      have := nth_mem hi
      unfold Pb.av at e2
      rcases (show nth c.lits i = v ∨ nth c.lits i = -v by omega) with e4 | e4
      · exact e (e4 ▸ this)
      · exact e3 (e4 ▸ this)
theorem Ones.out {c : Pb} (h : Ones c) {v : Int} (hv : 42 < v) : sgn c.lits v = 0 := by
  unfold sgn
  rw [if_neg fun e => by have := h.lit _ e; omega, if_neg fun e => by have := h.lit _ e; omega]
theorem normed_moved {l1 k1 l2 k2 : List Int} {b1 b2 : Int} (h1 : normOk l1 k1 b1 = true) (h2 : normOk l2 k2 b2 = true) (hv : ∀ v, 1 ≤ v → vsum l1 k1 l1.length v = vsum l2 k2 l2.length v) (hb : b1 - nsum l1 k1 l1.length = b2 - nsum l2 k2 l2.length) : normed l1 k1 b1 = normed l2 k2 b2 := by
  have e1 : normVars l1 k1 = normVars l2 k2 := by
    rw [normVars_V6, normVars_V6]
    exact List.filter_congr fun v hm => by rw [hv v (mem_V6.1 hm).1]
  have hm : ∀ v ∈ normVars l2 k2, 1 ≤ v := fun v h => (mem_normVars.1 h).1
  have e5 : ((normVars l2 k2).map fun v => min (vsum l1 k1 l1.length v) 0) = (normVars l2 k2).map fun v => min (vsum l2 k2 l2.length v) 0 := List.map_congr_left fun v h => by rw [hv v (hm v h)]
  have e2 : normBd l1 k1 b1 = normBd l2 k2 b2 := by unfold normBd; rw [e1, e5]; omega
  have e3 : normCoefs l1 k1 b1 = normCoefs l2 k2 b2 := by unfold normCoefs; rw [e1, e2]; exact List.map_congr_left fun v h => by rw [hv v (hm v h)]
  have e4 : ((normVars l2 k2).map fun v => sg (vsum l1 k1 l1.length v) v) = (normVars l2 k2).map fun v => sg (vsum l2 k2 l2.length v) v := List.map_congr_left fun v h => by rw [hv v (hm v h)]
  rw [normed_sg, normed_sg, h1, h2, e1, e2, e3, e4]
theorem step_sum {a d c : Pb} (h : stepOk a d c = true) : a.addB d = (c, 0) := by
  unfold stepOk at h
  simp only [Bool.and_eq_true, decide_eq_true_eq, List.all_eq_true] at h
  obtain ⟨⟨⟨⟨ha, hd⟩, hc⟩, hs⟩, hb⟩ := h
  have A := ones_of ha
  have D := ones_of hd
  have C := ones_of hc
  have f1 := A.few; have f2 := D.few
  rw [addB_is A.ok D.ok, ← C.ok.again]
  refine normed_moved (add_in A.ok D.ok (by omega)) C.ok.inn (fun v hv => ?_) ?_
  · rw [vsum_append A.ok.len, A.vsum hv, D.vsum hv, C.vsum hv]
    by_cases e : v ≤ 42
    · exact hs v (List.mem_map.2 ⟨(v - 1).toNat, List.mem_range.2 (by omega), by omega⟩)
    · rw [A.out (by omega), D.out (by omega), C.out (by omega)]; rfl
  · rw [nsum_append A.ok.len]
    exact hb
theorem clause_ones {c : Pb} (h : Ones c) (hb : c.bound = 1) (hs : c.lits.Pairwise (fun x y => x < y)) : clauseB c.lits = (c, 0) := by
  have e : c.coefs = List.replicate c.lits.length 1 := by rw [h.ok.len]; exact List.eq_replicate_of_mem h.one
  rw [clause_at hs, ← e, ← hb]
  exact h.ok.again
/-- All that is to be computed, for one number of holes. -/
def pgAll (H : Nat) : Bool := (List.range (2 * H + 1)).all (fun k => onesB (pgDb H k) && (decide (H = 1) || decide ((pgDb H k).unitsB [] = []))) &&
  (List.range (2 * H)).all (fun k => stepOk (accC H (k + 1)) (pgDb H (k + 1)) (accC H (k + 2))) && decide ((accC H 1).lits = (pgDb H 0).lits) && decide ((accC H 1).coefs = (pgDb H 0).coefs) && decide ((accC H 1).bound = (pgDb H 0).bound) &&
  decide ((accC H (2 * H + 1)).lits = []) && decide ((accC H (2 * H + 1)).bound = 1) && (List.range (H + 1)).all (fun p => decide ((pgC H p).lits.Pairwise (fun x y => x < y)))
theorem pg_all {H : Nat} (h1 : 1 ≤ H) (h2 : H ≤ 6) : pgAll H = true := by
  rcases (show H = 1 ∨ H = 2 ∨ H = 3 ∨ H = 4 ∨ H = 5 ∨ H = 6 by omega) with rfl | rfl | rfl | rfl | rfl | rfl <;> decide +kernel
structure PgIs (H : Nat) : Prop where
  one : ∀ k, k < 2 * H + 1 → Ones (pgDb H k)
  units : ∀ k, k < 2 * H + 1 → 1 < H → (pgDb H k).unitsB [] = []
  sum : ∀ k, k < 2 * H → (accC H (k + 1)).addB (pgDb H (k + 1)) = (accC H (k + 2), 0)
  first : accC H 1 = pgDb H 0
  last : accC H (2 * H + 1) = ⟨[], [], 1⟩
  pg : ∀ p, p < H + 1 → clauseB (pgC H p).lits = (pgDb H p, 0)
  hl : ∀ h, h < H → normed (hlC H h).lits (List.replicate (H + 1) 1) H = (pgDb H (H + 1 + h), 0)
theorem pg_is {H : Nat} (h1 : 1 ≤ H) (h2 : H ≤ 6) : PgIs H := by
  have h := pg_all h1 h2
  unfold pgAll at h
  simp only [Bool.and_eq_true, Bool.or_eq_true, decide_eq_true_eq, List.all_eq_true, List.mem_range] at h
  obtain ⟨⟨⟨⟨⟨⟨⟨ha, hb⟩, hc⟩, hd⟩, he⟩, hf⟩, hg⟩, hi⟩ := h
  have hone : ∀ k, k < 2 * H + 1 → Ones (pgDb H k) := fun k hk => ones_of (ha k hk).1
  refine ⟨hone, fun k hk hH => ((ha k hk).2).resolve_left (by omega), fun k hk => step_sum (hb k hk), ?_, ?_, fun p hp => ?_, fun h hh => ?_⟩
  · obtain ⟨l, k, b, e⟩ : ∃ l k b, pgDb H 0 = ⟨l, k, b⟩ := ⟨_, _, _, rfl⟩
    rw [e] at hc hd he ⊢
    obtain ⟨l', k', b', e'⟩ : ∃ l k b, accC H 1 = ⟨l, k, b⟩ := ⟨_, _, _, rfl⟩
    rw [e'] at hc hd he ⊢
    simp only at hc hd he
    rw [hc, hd, he]
  · have e : (accC H (2 * H + 1)).coefs = [] := by
      show List.replicate (accL H (2 * H + 1)).length 1 = []
      have : accL H (2 * H + 1) = [] := hf
      rw [this]; rfl
    obtain ⟨l', k', b', e'⟩ : ∃ l k b, accC H (2 * H + 1) = ⟨l, k, b⟩ := ⟨_, _, _, rfl⟩
    rw [e'] at hf hg e ⊢
    simp only at hf hg e
    rw [hf, hg, e]
  · have e : pgDb H p = pgC H p := if_pos hp
    rw [e]
    exact clause_ones (e ▸ hone p (by omega)) rfl (hi p hp)
  · have e : pgDb H (H + 1 + h) = hlC H h := by unfold pgDb; rw [if_neg (by omega), Nat.add_sub_cancel_left]
    have := (hone (H + 1 + h) (by omega)).ok.again
    rw [e] at this ⊢
    exact this
/-- The operations after k + 1 constraints. -/
def pgOps (k : Nat) : List Cop := ⟨1, 0⟩ :: (List.range k).flatMap fun i => [⟨1, ((i + 1 : Nat) : Int)⟩, ⟨2, 0⟩]
theorem pgOps_succ (k : Nat) : pgOps (k + 1) = pgOps k ++ [⟨1, ((k + 1 : Nat) : Int)⟩, ⟨2, 0⟩] := by
  unfold pgOps
  rw [List.range_succ, List.flatMap_append]
  simp
theorem pgOps_len (k : Nat) : (pgOps k).length = 2 * k + 1 := by
  induction k with
  | zero => rfl
  | succ k ih => rw [pgOps_succ, List.length_append, ih]; simp; omega
theorem pg_from {H : Nat} (P : PgIs H) {db : List Pb} (hdb : db = (List.range (2 * H + 1)).map (pgDb H)) : ∀ m j, j + m = 2 * H →
    runFrom db ((List.range m).flatMap fun i => [⟨1, ((j + i + 1 : Nat) : Int)⟩, ⟨2, 0⟩]) [accC H (j + 1)] = (accC H (2 * H + 1), 0) := by
  intro m
  induction m with
  | zero =>
    intro j hj
    have e : j = 2 * H := by omega
    subst e
    rfl
  | succ m ih =>
    intro j hj
    have hl : db.length = 2 * H + 1 := by rw [hdb]; simp
    rw [List.range_succ_eq_map, List.flatMap_cons, List.flatMap_map]
    have e0 : (j + 0 + 1 : Nat) = j + 1 := by omega
    rw [e0]
    have hat : pbAt db (j + 1) = pgDb H (j + 1) := by
      unfold pbAt
      rw [hdb, List.getElem?_map, List.getElem?_range (by omega)]
      rfl
    have s1 : stepB db [accC H (j + 1)] ⟨1, ((j + 1 : Nat) : Int)⟩ = ([accC H (j + 1), pgDb H (j + 1)], 0) := by
      rw [step_push (n := j + 1) (by rw [hl]; omega) rfl, hat]; rfl
    have s2 : stepB db [accC H (j + 1), pgDb H (j + 1)] ⟨2, 0⟩ = ([accC H (j + 2)], 0) := by
      rw [step_add, P.sum j (by omega)]
    show runFrom db (⟨1, ((j + 1 : Nat) : Int)⟩ :: ⟨2, 0⟩ :: _) _ = _
    rw [runFrom_step s1, runFrom_step s2]
    have := ih (j + 1) (by omega)
    have e2 : (fun i : Nat => [(⟨1, ((j + i.succ + 1 : Nat) : Int)⟩ : Cop), ⟨2, 0⟩]) = fun i => [⟨1, ((j + 1 + i + 1 : Nat) : Int)⟩, ⟨2, 0⟩] := by
      funext i
      rw [show j + i.succ + 1 = j + 1 + i + 1 by omega]
    rw [e2]
    exact this
theorem pg_run {H : Nat} (P : PgIs H) (hH : H ≤ 6) {db : List Pb} (hdb : db = (List.range (2 * H + 1)).map (pgDb H)) : runB (pgOps (2 * H)) db = (⟨[], [], 1⟩, 0) := by
  have hl : db.length = 2 * H + 1 := by rw [hdb]; simp
  unfold runB
  rw [if_neg (by
    have h1 : db.all Pb.ok = true := by
      rw [hdb, List.all_map, List.all_eq_true]
      intro k hk
      exact (Pb.ok_iff _).2 (P.one k (List.mem_range.1 hk)).ok
    rw [h1, pgOps_len]
    simp
    omega)]
  have hat : pbAt db 0 = pgDb H 0 := by
    unfold pbAt
    rw [hdb, List.getElem?_map, List.getElem?_range (by omega)]
    rfl
  have s1 : stepB db [] ⟨1, 0⟩ = ([accC H 1], 0) := by
    rw [step_push (n := 0) (z := 0) (by rw [hl]; omega) rfl, hat, P.first]; rfl
  unfold pgOps
  rw [runFrom_step s1, ← P.last]
  have := pg_from P hdb (2 * H) 0 (by omega)
  have e2 : (fun i : Nat => [(⟨1, ((0 + i + 1 : Nat) : Int)⟩ : Cop), ⟨2, 0⟩]) = fun i => [⟨1, ((i + 1 : Nat) : Int)⟩, ⟨2, 0⟩] := by
    funext i
    rw [Nat.zero_add]
  rw [e2] at this
  exact this
end Go.Proofs.YtooioikkgdgnnaaDoor
