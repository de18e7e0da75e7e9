/-
  Chapter 25: the resolvent (plain facts of CutResolves).
-/
import Derived.Test.YtooioikkgdgnnaaDoorCuE
namespace Go.Proofs.YtooioikkgdgnnaaDoor

/-- The sign of a variable in a list of literals. -/
def sgn (ls : List Int) (v : Int) : Int := if v ∈ ls then 1 else if -v ∈ ls then -1 else 0
theorem once_sgn {ls : List Int} (h : ∀ l ∈ ls, litB l = true) (hc : clash ls = false) {v : Int} (hv : 1 ≤ v) : vsum (once ls) (List.replicate (once ls).length 1) (once ls).length v = sgn ls v := by
  unfold sgn
  by_cases e : v ∈ ls
  · rw [if_pos e]
    obtain ⟨i, hi, e2⟩ := nth_of_mem (mem_once.2 e)
    have h1 := once_at h hc hi
    rw [e2, show ((v.natAbs : Nat) : Int) = v by omega, if_neg (by omega)] at h1
    exact h1
  · rw [if_neg e]
    by_cases e3 : -v ∈ ls
    · rw [if_pos e3]
      obtain ⟨i, hi, e2⟩ := nth_of_mem (mem_once.2 e3)
      have h1 := once_at h hc hi
      rw [e2, show (((-v).natAbs : Nat) : Int) = v by omega, if_pos (by omega)] at h1
      exact h1
    · rw [if_neg e3]
      refine (once_vsum h hc _ (Nat.le_refl _)).1 v (fun i hi e2 => ?_) hv
      have := mem_once.1 (nth_mem hi)
      rcases (show nth (once ls) i = v ∨ nth (once ls) i = -v by omega) with e4 | e4
      · exact e (e4 ▸ this)
      · exact e3 (e4 ▸ this)
theorem sgn_cases (ls : List Int) (v : Int) : sgn ls v = 1 ∨ sgn ls v = -1 ∨ sgn ls v = 0 := by
  unfold sgn
  split
  · exact .inl rfl
  · split
    · exact .inr (.inl rfl)
    · exact .inr (.inr rfl)
/-- What a clause of literals of at most six variables is. -/
structure ClIs (ls : List Int) (c : Pb) : Prop where
  o : O6 c
  one : c.bound = 1
  at' : ∀ v, 1 ≤ v → vsum c.lits c.coefs c.lits.length v = sgn ls v
theorem clause_parts {ls : List Int} (h : ∀ l ∈ ls, l ≠ 0 ∧ -6 ≤ l ∧ l ≤ 6) (hc : clash ls = false) (hn : ls.length ≤ 100) : (clauseB ls).2 = 0 ∧ ClIs ls (clauseB ls).1 := by
  have hlit : ∀ l ∈ ls, litB l = true := fun l hl => litB_iff.2 (by have := h l hl; omega)
  have hin := once_in hlit (by omega)
  have hbd := once_bd hlit hc
  have he : (clauseB ls).2 = 0 := by rw [clauseB_is]; exact norm_fits hin (by rw [hbd]; decide)
  have hO : O6 (clauseB ls).1 := by rw [clauseB_is] at he ⊢; exact normed6 (fun l hl => h l (mem_once.1 hl)) hin he
  have hF := fun v (hv : 1 ≤ v) => once_sgn hlit hc hv
  obtain ⟨vs, hvs⟩ : ∃ vs, normVars (once ls) (List.replicate (once ls).length 1) = vs := ⟨_, rfl⟩
  have hmem : ∀ v, v ∈ vs ↔ 1 ≤ v ∧ sgn ls v ≠ 0 := fun v => by
    rw [← hvs, mem_normVars]
    constructor
    · rintro ⟨h1, h2, h3⟩; rw [hF v h1] at h3; exact ⟨h1, h3⟩
    · rintro ⟨h1, h3⟩
      refine ⟨h1, ?_, by rw [hF v h1]; exact h3⟩
      unfold sgn at h3
      by_cases e : v ∈ ls
      · have := h v e; omega
      · rw [if_neg e] at h3
        by_cases e2 : -v ∈ ls
        · have := h _ e2; omega
        · rw [if_neg e2] at h3; exact absurd rfl h3
  have hs : clauseB ls = if (normCoefs (once ls) (List.replicate (once ls).length 1) 1).sum < 1 then (⟨[], [], 1⟩, 0) else (⟨vs.map fun v => sg (vsum (once ls) (List.replicate (once ls).length 1) (once ls).length v) v, normCoefs (once ls) (List.replicate (once ls).length 1) 1, 1⟩, 0) := by
    rw [clauseB_is, normed_sg, if_neg (by rw [hin]; decide), hbd, if_neg (by decide), hvs]
    by_cases e : (normCoefs (once ls) (List.replicate (once ls).length 1) 1).sum < 1
    · rw [if_pos e, if_pos e]
    · rw [if_neg e, if_neg e, if_neg (by decide)]
  refine ⟨he, hO, ?_, fun v hv => ?_⟩
  · rw [hs]
    split <;> rfl
  · by_cases e : (normCoefs (once ls) (List.replicate (once ls).length 1) 1).sum < 1
    · rw [hs, if_pos e]
      have hvs0 : vs = [] := by
        rcases vs with _ | ⟨x, xs⟩
        · rfl
        · exfalso
          unfold normCoefs at e
          rw [hvs, hbd] at e
          have h1 : (((x :: xs).map fun v => min (((vsum (once ls) (List.replicate (once ls).length 1) (once ls).length v).natAbs : Nat) : Int) 1)).sum = ((x :: xs).map fun _ => (1 : Int)).sum := by
            refine sum_cong _ fun v hv => ?_
            obtain ⟨h1, h2⟩ := (hmem v).1 hv
            rw [hF v h1]
            omega
          rw [h1, List.map_const'] at e
          simp at e
          omega
      have : sgn ls v = 0 := by
        by_cases e2 : sgn ls v = 0
        · exact e2
        · have := (hmem v).2 ⟨hv, e2⟩
          rw [hvs0] at this
          cases this
      rw [this]
      rfl
    · rw [hs, if_neg e] at hO ⊢
      have hlen : ∀ i, i < vs.length → nth (vs.map fun v => sg (vsum (once ls) (List.replicate (once ls).length 1) (once ls).length v) v) i = sg (sgn ls (nth vs i)) (nth vs i) := fun i hi => by
        rw [nth_map hi, hF _ ((hmem _).1 (nth_mem hi)).1]
      by_cases hm : v ∈ vs
      · obtain ⟨i, hi, e2⟩ := nth_of_mem hm
        have hi' : i < (vs.map fun v => sg (vsum (once ls) (List.replicate (once ls).length 1) (once ls).length v) v).length := by rw [List.length_map]; exact hi
        have h1 := hO.ok.vsum hi'
        have h2 := hO.ok.coef i hi'
        have h3 := hlen i hi
        unfold Pb.av at h1
        simp only at h1 h2 ⊢
        rw [h3, e2] at h1
        have h4 := ((hmem v).1 hm).2
        have hsv : ((sg (sgn ls v) v).natAbs : Int) = v := by unfold sg; split <;> omega
        rw [hsv] at h1
        rw [h1]
        rcases sgn_cases ls v with e5 | e5 | e5
        · have e6 : sg 1 v = v := if_neg (by decide)
          rw [e5, e6, if_neg (by omega)]; omega
        · have e6 : sg (-1) v = -v := if_pos (by decide)
          rw [e5, e6, if_pos (by omega)]; omega
        · exact absurd e5 h4
      · have h0 : sgn ls v = 0 := by
          by_cases e2 : sgn ls v = 0
          · exact e2
          · exact absurd ((hmem v).2 ⟨hv, e2⟩) hm
        rw [h0]
        refine hO.ok.vsum0 (fun i hi e2 => hm ?_) hv
        have hi' : i < vs.length := by simpa using hi
        unfold Pb.av at e2
        simp only at e2
        rw [hlen i hi'] at e2
        have h5 := ((hmem _).1 (nth_mem hi')).1
        have : ((sg (sgn ls (nth vs i)) (nth vs i)).natAbs : Int) = nth vs i := by unfold sg; split <;> omega
        rw [← e2, this]
        exact nth_mem hi'
/-- Two sums whose bound is 1 and whose signs are the same have one normal form. -/
theorem normed_sign {l1 k1 l2 k2 : List Int} {b1 b2 : Int} (h1 : normOk l1 k1 b1 = true) (h2 : normOk l2 k2 b2 = true) (e1 : normBd l1 k1 b1 = 1) (e2 : normBd l2 k2 b2 = 1)
    (hv : ∀ v, 1 ≤ v → (0 < vsum l1 k1 l1.length v ↔ 0 < vsum l2 k2 l2.length v) ∧ (vsum l1 k1 l1.length v < 0 ↔ vsum l2 k2 l2.length v < 0)) : normed l1 k1 b1 = normed l2 k2 b2 := by
  have hvars : normVars l1 k1 = normVars l2 k2 := by
    rw [normVars_V6, normVars_V6]
    refine List.filter_congr fun v hm => ?_
    have h3 := hv v (mem_V6.1 hm).1
    exact decide_eq_decide.2 (by omega)
  have hcs : normCoefs l1 k1 b1 = normCoefs l2 k2 b2 := by
    unfold normCoefs
    rw [hvars, e1, e2]
    refine List.map_congr_left fun v hm => ?_
    have h4 := mem_normVars.1 hm
    have h3 := hv v h4.1
    omega
  have hls : ((normVars l2 k2).map fun v => sg (vsum l1 k1 l1.length v) v) = (normVars l2 k2).map fun v => sg (vsum l2 k2 l2.length v) v := List.map_congr_left fun v hm => by
    have h3 := hv v (mem_normVars.1 hm).1
    unfold sg
    by_cases e : vsum l2 k2 l2.length v < 0
    · rw [if_pos e, if_pos (h3.2.2 e)]
    · rw [if_neg e, if_neg fun e2 => e (h3.2.1 e2)]
  rw [normed_sg, normed_sg, h1, h2, hvars, e1, e2, hcs, hls]
theorem Pb.Ok.minus {c : Pb} (h : c.Ok) : nsum c.lits c.coefs c.lits.length + (V6.map fun v => min (Go.Proofs.YtooioikkgdgnnaaDoor.vsum c.lits c.coefs c.lits.length v) 0).sum = 0 := by
  have h1 := h.bd
  unfold normBd at h1
  rw [normVars_V6, sum_filter V6 fun v _ hv => by
    have : Go.Proofs.YtooioikkgdgnnaaDoor.vsum c.lits c.coefs c.lits.length v = 0 := by simpa using hv
    rw [this]; rfl] at h1
  omega
/-- The bound of the sum of two clauses that clash in variable 1 alone. -/
theorem sum_bd {a b : Pb} (ha : a.Ok) (hb : b.Ok) (h1 : a.bound = 1) (h2 : b.bound = 1) (hv1 : vsum a.lits a.coefs a.lits.length 1 = 1) (hv2 : vsum b.lits b.coefs b.lits.length 1 = -1)
    (hv : ∀ v, 2 ≤ v → 0 ≤ vsum a.lits a.coefs a.lits.length v ∧ 0 ≤ vsum b.lits b.coefs b.lits.length v ∨ vsum a.lits a.coefs a.lits.length v ≤ 0 ∧ vsum b.lits b.coefs b.lits.length v ≤ 0) :
    normBd (a.lits ++ b.lits) (a.coefs ++ b.coefs) (a.bound + b.bound) = 1 := by
  have m1 := ha.minus
  have m2 := hb.minus
  unfold normBd
  rw [normVars_V6, sum_filter V6 fun v _ hv => by
    have : vsum (a.lits ++ b.lits) (a.coefs ++ b.coefs) (a.lits ++ b.lits).length v = 0 := by simpa using hv
    rw [this]; rfl, nsum_append ha.len]
  have e : (V6.map fun v => min (vsum (a.lits ++ b.lits) (a.coefs ++ b.coefs) (a.lits ++ b.lits).length v) 0).sum = ((V6.map fun v => min (vsum a.lits a.coefs a.lits.length v) 0).sum + (V6.map fun v => min (vsum b.lits b.coefs b.lits.length v) 0).sum) + (V6.map fun v => if v = 1 then (1 : Int) else 0).sum := by
    rw [← sum_add, ← sum_add]
    refine sum_cong V6 fun v hm => ?_
    rw [vsum_append ha.len]
    have h6 := mem_V6.1 hm
    by_cases e : v = 1
    · subst e
      rw [hv1, hv2, if_pos rfl]
      decide
    · have := hv v (by omega)
      rw [if_neg e]
      omega
  have e2 : (V6.map fun v => if v = 1 then (1 : Int) else 0).sum = 1 := by
    rw [pick_sum (x := 1) V6 V6_nodup (mem_V6.2 (by omega)) fun v _ hne => if_neg hne]
    rfl
  omega
theorem clash_sub {ls ms : List Int} (h : clash ls = false) (hs : ∀ x ∈ ms, x ∈ ls) : clash ms = false := by
  rw [← Bool.not_eq_true] at h ⊢
  intro e
  obtain ⟨x, h1, h2⟩ := clash_iff.1 e
  exact h (clash_iff.2 ⟨x, hs x h1, hs _ h2⟩)
theorem clash_cons {ls : List Int} {x : Int} (h : clash ls = false) (hx : x ≠ 0) (hn : ∀ l ∈ ls, l ≠ -x) : clash (x :: ls) = false := by
  rw [← Bool.not_eq_true] at h ⊢
  intro e
  obtain ⟨y, h1, h2⟩ := clash_iff.1 e
  rcases List.mem_cons.1 h1 with e1 | k1 <;> rcases List.mem_cons.1 h2 with e2 | k2
  · omega
  · exact hn _ k2 (by omega)
  · exact hn y k1 (by omega)
  · exact h (clash_iff.2 ⟨y, k1, k2⟩)
theorem not_both {ls : List Int} (h : clash ls = false) {v : Int} (h1 : v ∈ ls) (h2 : -v ∈ ls) : False := by
  have : clash ls = true := clash_iff.2 ⟨v, h1, h2⟩
  rw [h] at this
  cases this
/-- The signs of the sum of the two clauses. -/
theorem sgn_sum {p q : List Int} (hp : ∀ l ∈ p ++ q, l ≠ 1 ∧ l ≠ -1) (hc : clash (p ++ q) = false) {v : Int} (hv : 1 ≤ v) :
    (v = 1 → sgn (1 :: p) v = 1 ∧ sgn (-1 :: q) v = -1 ∧ sgn (p ++ q) v = 0) ∧
    (2 ≤ v → sgn (1 :: p) v = sgn p v ∧ sgn (-1 :: q) v = sgn q v ∧ (0 ≤ sgn p v ∧ 0 ≤ sgn q v ∧ (sgn (p ++ q) v = 1 ↔ 0 < sgn p v + sgn q v) ∧ 0 ≤ sgn (p ++ q) v ∨ sgn p v ≤ 0 ∧ sgn q v ≤ 0 ∧ (sgn (p ++ q) v = -1 ↔ sgn p v + sgn q v < 0) ∧ sgn (p ++ q) v ≤ 0)) := by
  refine ⟨fun e => ?_, fun h2 => ?_⟩
  · subst e
    have h1 : (1 : Int) ∉ p ++ q := fun e => (hp 1 e).1 rfl
    have h2 : (-1 : Int) ∉ p ++ q := fun e => (hp (-1) e).2 rfl
    have h3 : (1 : Int) ∉ q := fun e => h1 (List.mem_append.2 (.inr e))
    refine ⟨by unfold sgn; rw [if_pos (by simp)], ?_, by unfold sgn; rw [if_neg h1, if_neg h2]⟩
    unfold sgn
    rw [if_neg (by simp [h3]), if_pos (by simp)]
  · have e1 : sgn (1 :: p) v = sgn p v := by
      unfold sgn
      have a1 : (v ∈ 1 :: p) ↔ v ∈ p := by rw [List.mem_cons]; exact or_iff_right (by omega)
      have a2 : (-v ∈ 1 :: p) ↔ -v ∈ p := by rw [List.mem_cons]; exact or_iff_right (by omega)
      simp only [a1, a2]
    have e2 : sgn (-1 :: q) v = sgn q v := by
      unfold sgn
      have a1 : (v ∈ -1 :: q) ↔ v ∈ q := by rw [List.mem_cons]; exact or_iff_right (by omega)
      have a2 : (-v ∈ -1 :: q) ↔ -v ∈ q := by rw [List.mem_cons]; exact or_iff_right (by omega)
      simp only [a1, a2]
    refine ⟨e1, e2, ?_⟩
    have n1 : v ∈ p → -v ∈ p ++ q → False := fun h3 h4 => not_both hc (List.mem_append.2 (.inl h3)) h4
    have n2 : v ∈ q → -v ∈ p ++ q → False := fun h3 h4 => not_both hc (List.mem_append.2 (.inr h3)) h4
    have m1 : -v ∈ p → -v ∈ p ++ q := fun h => List.mem_append.2 (.inl h)
    have m2 : -v ∈ q → -v ∈ p ++ q := fun h => List.mem_append.2 (.inr h)
    unfold sgn
    simp only [List.mem_append] at n1 n2 ⊢
    by_cases a1 : v ∈ p <;> by_cases a2 : v ∈ q <;> by_cases a3 : -v ∈ p <;> by_cases a4 : -v ∈ q <;> simp [a1, a2, a3, a4] at n1 n2 ⊢
/-- Adding two clauses that clash in variable 1 alone, and dividing by 2, gives their resolvent. -/
theorem resolves {p q : List Int} (h : ∀ l ∈ p ++ q, l ≠ 0 ∧ l ≠ 1 ∧ l ≠ -1 ∧ -6 ≤ l ∧ l ≤ 6) (hc : clash (p ++ q) = false) (hn : p.length + q.length ≤ 90) :
    (clauseB (1 :: p)).2 = 0 ∧ (clauseB (-1 :: q)).2 = 0 ∧ (clauseB (p ++ q)).2 = 0 ∧ (clauseB (1 :: p)).1.Ok ∧ (clauseB (-1 :: q)).1.Ok ∧ (clauseB (p ++ q)).1.Ok ∧
      (clauseB (1 :: p)).1.addB (clauseB (-1 :: q)).1 = ((clauseB (p ++ q)).1, 0) ∧ (clauseB (p ++ q)).1.divB 2 = ((clauseB (p ++ q)).1, 0) ∧
      implB (clauseB (p ++ q)).1 [(clauseB (1 :: p)).1, (clauseB (-1 :: q)).1] = true := by
  have hp : ∀ l ∈ p, l ∈ p ++ q := fun l hl => List.mem_append.2 (.inl hl)
  have hq : ∀ l ∈ q, l ∈ p ++ q := fun l hl => List.mem_append.2 (.inr hl)
  have c1 : clash (1 :: p) = false := clash_cons (clash_sub hc hp) (by decide) fun l hl => (h l (hp l hl)).2.2.1
  have c2 : clash (-1 :: q) = false := clash_cons (clash_sub hc hq) (by decide) fun l hl => by have := (h l (hq l hl)).2.1; omega
  obtain ⟨e1, A⟩ := clause_parts (ls := 1 :: p) (fun l hl => by
    rcases List.mem_cons.1 hl with e | e
    · omega
    · have := h l (hp l e); omega) c1 (by simp; omega)
  obtain ⟨e2, B⟩ := clause_parts (ls := -1 :: q) (fun l hl => by
    rcases List.mem_cons.1 hl with e | e
    · omega
    · have := h l (hq l e); omega) c2 (by simp; omega)
  obtain ⟨e3, C⟩ := clause_parts (ls := p ++ q) (fun l hl => by have := h l hl; omega) hc (by simp; omega)
  have hs := fun v (hv : 1 ≤ v) => sgn_sum (p := p) (q := q) (fun l hl => ⟨(h l hl).2.1, (h l hl).2.2.1⟩) hc hv
  obtain ⟨a, ha⟩ : ∃ a, (clauseB (1 :: p)).1 = a := ⟨_, rfl⟩
  obtain ⟨b, hb⟩ : ∃ b, (clauseB (-1 :: q)).1 = b := ⟨_, rfl⟩
  obtain ⟨c, hcc⟩ : ∃ c, (clauseB (p ++ q)).1 = c := ⟨_, rfl⟩
  rw [ha] at A ⊢
  rw [hb] at B ⊢
  rw [hcc] at C ⊢
  have hbd : normBd (a.lits ++ b.lits) (a.coefs ++ b.coefs) (a.bound + b.bound) = 1 := by
    refine sum_bd A.o.ok B.o.ok A.one B.one ?_ ?_ fun v hv => ?_
    · rw [A.at' 1 (by decide)]; exact ((hs 1 (by decide)).1 rfl).1
    · rw [B.at' 1 (by decide)]; exact ((hs 1 (by decide)).1 rfl).2.1
    · rw [A.at' v (by omega), B.at' v (by omega)]
      have := (hs v (by omega)).2 hv
      rw [this.1, this.2.1]
      rcases this.2.2 with h1 | h1
      · exact .inl ⟨h1.1, h1.2.1⟩
      · exact .inr ⟨h1.1, h1.2.1⟩
  have f1 := A.o.few; have f2 := B.o.few
  have hadd : a.addB b = (c, 0) := by
    rw [addB_is A.o.ok B.o.ok, ← C.o.ok.again]
    refine normed_sign (add_in A.o.ok B.o.ok (by omega)) C.o.ok.inn hbd (by rw [C.o.ok.bd]; exact C.one) fun v hv => ?_
    rw [vsum_append A.o.ok.len, A.at' v hv, B.at' v hv, C.at' v hv]
    have h1 := hs v hv
    rcases (show v = 1 ∨ 2 ≤ v by omega) with e | e
    · obtain ⟨g1, g2, g3⟩ := h1.1 e
      rw [g1, g2, g3]
      decide
    · obtain ⟨g1, g2, g3⟩ := h1.2 e
      rw [g1, g2]
      have s1 := sgn_cases (p ++ q) v
      omega
  have hdiv : c.divB 2 = (c, 0) := by
    rw [divB_is C.o.ok (by decide) (by decide), C.one, show upN 1 2 = 1 by decide]
    have : (c.coefs.map fun n => upN n 2) = c.coefs := by
      refine (List.map_congr_left fun k hk => ?_).trans (List.map_id c.coefs)
      have h1 := C.o.ok.co k hk
      rw [C.one] at h1
      rw [show k = 1 by omega]
      decide
    rw [this]
    have h2 := C.o.ok.again
    rw [C.one] at h2
    exact h2
  refine ⟨e1, e2, e3, A.o.ok, B.o.ok, C.o.ok, hadd, hdiv, implB_true C.o.ok fun av hv hh => ?_⟩
  have h1 := (A.o.add B.o (by rw [hadd])).2 av hv (hh a (by simp)) (hh b (by simp))
  rw [hadd] at h1
  exact h1
end Go.Proofs.YtooioikkgdgnnaaDoor
