/-
  Learning, as plain data: the count is exact, the set moves down the trail, one literal of the current level is left.
-/
import Derived.Test.YtanhacdadgbjdaaLnA
namespace Go.Proofs.Ytanhacdadgbjdaa
open Go.RowKit

theorem lvOf_at {T : Tr} (h : T.WF) {i : Nat} {m : Int} (hm : T.lits[i]? = some m) : T.lvOf m = (T.starts.filter (· ≤ i)).length := by
  unfold Tr.lits at hm
  rw [List.getElem?_map] at hm
  cases he : T.L[i]? with
  | none => rw [he] at hm; cases hm
  | some e =>
    rw [he] at hm
    have hm : e.lit = m := by simpa using hm
    rw [← hm]
    have hx := h.idx he
    have hl := h.level i e he
    unfold Tr.lvOf Tr.levelOf
    unfold Ent.v at hx
    rw [hx]
    simp only [Option.bind_some, he]
    exact_mod_cast hl
theorem lvOf_mono {T : Tr} (h : T.WF) {i j : Nat} {m m' : Int} (hm : T.lits[i]? = some m) (hm' : T.lits[j]? = some m') (hij : i ≤ j) : T.lvOf m ≤ T.lvOf m' := by
  rw [lvOf_at h hm, lvOf_at h hm']
  have : (T.starts.filter (· ≤ i)).length ≤ (T.starts.filter (· ≤ j)).length := by
    rw [← List.countP_eq_length_filter, ← List.countP_eq_length_filter]
    refine List.countP_mono_left fun x _ hx => ?_
    simp only [decide_eq_true_eq] at hx ⊢
    omega
  omega
theorem lvOf_le {T : Tr} (h : T.WF) {m : Int} (hm : m ∈ T.lits) : 0 ≤ T.lvOf m ∧ T.lvOf m ≤ T.depth := by
  obtain ⟨i, hi, hmi⟩ := List.mem_iff_getElem.1 hm
  rw [lvOf_at h (by rw [← hmi]; exact List.getElem?_eq_getElem hi)]
  have := List.length_filter_le (· ≤ i) T.starts
  unfold Tr.depth
  omega
/-- A reason's other literals are false, and lie before. -/
theorem reasonOf_pos {T : Tr} (h : T.WF) {i : Nat} {m : Int} (hm : T.lits[i]? = some m) : ∀ x ∈ T.reasonOf (m.natAbs : Nat), x = m ∨ (-x ∈ T.lits ∧ T.pos x < i) := by
  intro x hx
  unfold Tr.lits at hm
  rw [List.getElem?_map] at hm
  cases he : T.L[i]? with
  | none => rw [he] at hm; cases hm
  | some e =>
    rw [he] at hm
    have hm : e.lit = m := by simpa using hm
    have hidx := h.idx he
    unfold Ent.v at hidx
    rw [hm] at hidx
    unfold Tr.reasonOf at hx
    rw [hidx] at hx
    simp only [Option.bind_some, he] at hx
    by_cases his : i ∈ T.starts
    · rw [(h.reason i e he).1 his] at hx; cases hx
    · rcases ((h.reason i e he).2 his).2 x hx with hxl | ⟨j, hj, f, hf, hfl⟩
      · exact .inl (by rw [hxl, hm])
      · have hjl : T.lits[j]? = some (-x) := by unfold Tr.lits; rw [List.getElem?_map, hf, ← hfl]; rfl
        refine .inr ⟨List.mem_of_getElem? hjl, ?_⟩
        have := pos_at h hjl
        rw [pos_neg] at this
        omega
theorem one_cnt {T : Tr} (h : T.WF) {A : An} (c : A.now = cntNow T A) {ex l : Int} (hl : (l.natAbs : Int) = ex ∨ -l ∈ T.lits) : (An.one T ex A l).now = cntNow T (An.one T ex A l) := by
  unfold An.one
  split
  · exact c
  · rename_i hno
    simp only [not_or] at hno
    have hm : -l ∈ T.lits := hl.resolve_left hno.2.1
    have hs : A.set l = false := by simpa using hno.1
    by_cases hd : T.lvOf l = T.depth
    · have : cntNow T ⟨fun x => A.set x || decide (x = l), if T.lvOf l = T.depth then A.now + 1 else A.now⟩ = cntNow T A + 1 := by
        unfold cntNow
        refine countP_put (lits_nodup h) (m := -l) hm ?_ ?_ fun x hx => ?_
        · simp [hs]
        · simp [lvOf_neg, hd]
        · have : -x ≠ l := fun e => hx (by omega)
          simp [this]
      rw [this]
      dsimp only
      rw [if_pos hd]
      omega
    · have : cntNow T ⟨fun x => A.set x || decide (x = l), if T.lvOf l = T.depth then A.now + 1 else A.now⟩ = cntNow T A := by
        unfold cntNow
        refine List.countP_congr fun x _ => ?_
        by_cases hxl : -x = l
        · have hx2 : T.lvOf x = T.lvOf l := by rw [← hxl, lvOf_neg]
          simp [hx2, hd]
        · simp [hxl]
      rw [this]
      dsimp only
      rw [if_neg hd]
      exact c
theorem addAll_cnt {T : Tr} (h : T.WF) {ex : Int} : ∀ {ls : List Int} {A : An}, A.now = cntNow T A → (∀ l ∈ ls, (l.natAbs : Int) = ex ∨ -l ∈ T.lits) → (A.addAll T ex ls).now = cntNow T (A.addAll T ex ls) := by
  intro ls
  induction ls with
  | nil => intro A c _; exact c
  | cons l ls ih => intro A c hl; exact ih (one_cnt h c (hl l (by simp))) fun x hx => hl x (by simp [hx])
theorem drop_cnt {T : Tr} (h : T.WF) {A : An} (c : A.now = cntNow T A) {m : Int} (hm : m ∈ T.lits) (hs : A.set (-m) = true) (hd : T.lvOf m = T.depth) : (A.drop (-m)).now = cntNow T (A.drop (-m)) := by
  have : cntNow T A = cntNow T (A.drop (-m)) + 1 := by
    unfold cntNow
    refine countP_put (lits_nodup h) (m := m) hm ?_ ?_ fun x hx => ?_
    · simp [An.drop]
    · simp [hs, hd]
    · have : -x ≠ -m := fun e => hx (by omega)
      simp [An.drop, this]
  have e : (A.drop (-m)).now = A.now - 1 := rfl
  omega
/-- What is in the set behind addAll. -/
theorem addAll_set (T : Tr) (ex : Int) : ∀ (ls : List Int) (A : An) (x : Int), (A.addAll T ex ls).set x = true ↔ A.set x = true ∨ (x ∈ ls ∧ (x.natAbs : Int) ≠ ex ∧ T.lvOf x ≠ 0) := by
  intro ls
  induction ls with
  | nil => intro A x; simp [An.addAll]
  | cons l ls ih =>
    intro A x
    have e : A.addAll T ex (l :: ls) = (An.one T ex A l).addAll T ex ls := rfl
    rw [e, ih]
    constructor
    · rintro (hx | hx)
      · unfold An.one at hx
        split at hx
        · exact .inl hx
        · rename_i hno
          simp only [not_or] at hno
          dsimp only at hx
          rw [Bool.or_eq_true] at hx
          rcases hx with hx | hx
          · exact .inl hx
          · have := of_decide_eq_true hx
            subst this
            exact .inr ⟨by simp, hno.2.1, hno.2.2⟩
      · exact .inr ⟨by simp [hx.1], hx.2⟩
    · rintro (hx | ⟨hx, h1, h2⟩)
      · exact .inl (one_keeps T ex A l x hx)
      · rcases List.mem_cons.1 hx with hxl | hx
        · subst hxl
          exact .inl (one_in T ex A x h1 h2)
        · exact .inr ⟨hx, h1, h2⟩

/-- On the way down: the positions from i on are done. -/
structure Inv (T : Tr) (i : Nat) (A : An) : Prop where
  neg : ∀ x, A.set x = true → -x ∈ T.lits
  lv : ∀ x, A.set x = true → T.lvOf x ≠ 0
  cnt : A.now = cntNow T A
  one : 1 ≤ A.now
  low : 1 < A.now → ∀ x, A.set x = true → T.pos x < i
theorem pos_lt {T : Tr} (h : T.WF) {x : Int} (hx : -x ∈ T.lits) : 0 ≤ T.pos x ∧ T.pos x < T.lits.length ∧ T.lits[(T.pos x).toNat]? = some (-x) := by
  obtain ⟨i, hi, hxi⟩ := List.mem_iff_getElem.1 hx
  have e : T.lits[i]? = some (-x) := by rw [← hxi]; exact List.getElem?_eq_getElem hi
  have := pos_at h e
  rw [pos_neg] at this
  rw [this]
  exact ⟨by omega, by omega, by simpa using e⟩
theorem Inv.start {T : Tr} (h : T.WF) {cs : List Int} (hok : okFor T cs = true) : Inv T T.lits.length (An.addAll T 0 An.fresh cs) := by
  obtain ⟨c1, n1, _, _⟩ := learn_good h hok
  unfold okFor at hok
  simp only [Bool.and_eq_true, List.all_eq_true, List.any_eq_true, decide_eq_true_eq] at hok
  refine ⟨c1.neg, fun x hx => ?_, addAll_cnt h (by simp [An.fresh, cntNow]) fun x hx => .inr (value_false (hok.1.1 x hx)), n1, fun _ x hx => (pos_lt h (c1.neg x hx)).2.1⟩
  rcases (addAll_set T 0 cs An.fresh x).1 hx with hx | hx
  · simp [An.fresh] at hx
  · exact hx.2.2
theorem Inv.level {T : Tr} (h : T.WF) {i : Nat} {A : An} (e : Inv T (i + 1) A) {m : Int} (hm : T.lits[i]? = some m) (h1 : 1 < A.now) (_hs : A.set (-m) = true) : T.lvOf m = T.depth := by
  have hml := List.mem_of_getElem? hm
  have hc := e.cnt
  refine Classical.byContradiction fun hd => ?_
  have : 0 < cntNow T A := by omega
  unfold cntNow at this
  obtain ⟨m', hm', hp⟩ := List.countP_pos_iff.1 this
  simp only [Bool.and_eq_true, decide_eq_true_eq] at hp
  obtain ⟨a, b, c⟩ := pos_lt h (x := -m') (by rw [Int.neg_neg]; exact hm')
  have hlow := e.low h1 (-m') hp.1
  rw [Int.neg_neg] at c
  have := lvOf_mono h c hm (by omega)
  have := lvOf_le h hml
  omega
theorem Inv.back {T : Tr} (h : T.WF) {i : Nat} {A : An} (e : Inv T (i + 1) A) {m : Int} (hm : T.lits[i]? = some m) : Inv T i (A.back T m) := by
  have hml := List.mem_of_getElem? hm
  have hpm := pos_at h hm
  unfold An.back
  split
  · rename_i hc
    have hd := e.level h hm hc.1 hc.2
    have hr := reasonOf_pos h hm
    have hset := addAll_set T m.natAbs (T.reasonOf (m.natAbs : Nat)) (A.drop (-m))
    have hmem : ∀ x, ((A.drop (-m)).addAll T m.natAbs (T.reasonOf (m.natAbs : Nat))).set x = true → -x ∈ T.lits ∧ T.lvOf x ≠ 0 ∧ T.pos x < i := by
      intro x hx
      rcases (hset x).1 hx with hx | ⟨hx, h2, h3⟩
      · unfold An.drop at hx
        simp only [Bool.and_eq_true, Bool.not_eq_true', decide_eq_false_iff_not] at hx
        have hn := e.neg x hx.1
        have hp := e.low hc.1 x hx.1
        refine ⟨hn, e.lv x hx.1, ?_⟩
        have hne : T.pos x ≠ i := fun e2 => hx.2 (pos_inj h hn (y := -m) (by rw [Int.neg_neg]; exact hml) (by rw [pos_neg, hpm, e2]))
        omega
      · rcases hr x hx with hxm | hxp
        · exact absurd (by rw [hxm]) h2
        · exact ⟨hxp.1, h3, hxp.2⟩
    refine ⟨fun x hx => (hmem x hx).1, fun x hx => (hmem x hx).2.1, addAll_cnt h (drop_cnt h e.cnt hml hc.2 hd) fun x hx => ?_, ?_, fun _ x hx => (hmem x hx).2.2⟩
    · rcases hr x hx with hxm | hxp
      · exact .inl (by rw [hxm])
      · exact .inr hxp.1
    · have := addAll_now T m.natAbs (T.reasonOf (m.natAbs : Nat)) (A.drop (-m))
      have e2 : (A.drop (-m)).now = A.now - 1 := rfl
      omega
  · rename_i hc
    refine ⟨e.neg, e.lv, e.cnt, e.one, fun h1 x hx => ?_⟩
    have hp := e.low h1 x hx
    have hne : T.pos x ≠ i := fun e2 => hc ⟨h1, by
      have : x = -m := pos_inj h (e.neg x hx) (y := -m) (by rw [Int.neg_neg]; exact hml) (by rw [pos_neg, hpm, e2])
      rw [← this]; exact hx⟩
    omega
theorem run_take (T : Tr) (A : An) (k : Nat) : A.run T = ((T.lits.take k).reverse).foldl (An.back T) (((T.lits.drop k).reverse).foldl (An.back T) A) := by
  unfold An.run
  conv => lhs; rw [← List.take_append_drop k T.lits]
  rw [List.reverse_append, List.foldl_append]
theorem Inv.runs {T : Tr} (h : T.WF) {A : An} (e : Inv T T.lits.length A) : ∀ k, k ≤ T.lits.length → Inv T (T.lits.length - k) (((T.lits.drop (T.lits.length - k)).reverse).foldl (An.back T) A) := by
  intro k
  induction k with
  | zero => intro _; simpa using e
  | succ k ih =>
    intro hk
    have ih := ih (by omega)
    have hlt : T.lits.length - (k + 1) < T.lits.length := by omega
    have e1 : T.lits.drop (T.lits.length - (k + 1)) = T.lits[T.lits.length - (k + 1)] :: T.lits.drop (T.lits.length - k) := by
      rw [List.drop_eq_getElem_cons hlt]
      congr 2
      omega
    rw [e1, List.reverse_cons, List.foldl_append]
    refine Inv.back h ?_ (List.getElem?_eq_getElem hlt)
    rw [show T.lits.length - (k + 1) + 1 = T.lits.length - k by omega]
    exact ih
/-- At the end one literal of the current level is left. -/
theorem Inv.finish {T : Tr} (h : T.WF) {A : An} (e : Inv T T.lits.length A) : Inv T 0 (A.run T) ∧ (A.run T).now = 1 := by
  have := e.runs h T.lits.length (Nat.le_refl _)
  rw [Nat.sub_self, List.drop_zero] at this
  have hr : A.run T = T.lits.reverse.foldl (An.back T) A := rfl
  rw [← hr] at this
  refine ⟨this, ?_⟩
  have h1 := this.one
  refine Classical.byContradiction fun hne => ?_
  have hpos : 0 < cntNow T (A.run T) := by have := this.cnt; omega
  unfold cntNow at hpos
  obtain ⟨m', hm', hp⟩ := List.countP_pos_iff.1 hpos
  simp only [Bool.and_eq_true] at hp
  have := this.low (by omega) (-m') hp.1
  have := (pos_lt h (x := -m') (by rw [Int.neg_neg]; exact hm')).1
  omega
end Go.Proofs.Ytanhacdadgbjdaa
