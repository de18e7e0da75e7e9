/-
  Learning: what the analysis computes, as plain data.
-/
import Derived.Test.YtanhacdadgbjdaaTwalkM
namespace Go.Proofs.Ytanhacdadgbjdaa
open Go.RowKit

/-- The analysis: the set of literals, and how many of them have the current level. -/
structure An where
  set : Int → Bool
  now : Int
def Tr.lvOf (T : Tr) (l : Int) : Int := T.levelOf (l.natAbs : Nat)
def An.one (T : Tr) (ex : Int) (A : An) (l : Int) : An :=
  if A.set l = true ∨ (l.natAbs : Int) = ex ∨ T.lvOf l = 0 then A else ⟨fun x => A.set x || decide (x = l), if T.lvOf l = T.depth then A.now + 1 else A.now⟩
def An.addAll (T : Tr) (ex : Int) (A : An) (ls : List Int) : An := ls.foldl (An.one T ex) A
def An.drop (A : An) (l : Int) : An := ⟨fun x => A.set x && !decide (x = l), A.now - 1⟩
def An.back (T : Tr) (A : An) (m : Int) : An := if 1 < A.now ∧ A.set (-m) = true then (A.drop (-m)).addAll T m.natAbs (T.reasonOf (m.natAbs : Nat)) else A
def An.run (T : Tr) (A : An) : An := T.lits.reverse.foldl (An.back T) A
def An.fresh : An := ⟨fun _ => false, 0⟩
/-- The literals of the set, the most recent ones first. -/
def Tr.sorted (T : Tr) (S : Int → Bool) : List Int := (T.lits.reverse.map (fun m => -m)).filter S
def okFor (T : Tr) (cs : List Int) : Bool := cs.all (fun l => decide (T.value l = -1)) && cs.any (fun l => decide (T.lvOf l = T.depth)) && decide (T.depth ≠ 0)
def Tr.learnSet (T : Tr) (cs : List Int) : An := (An.addAll T 0 An.fresh cs).run T
def Tr.learnt (T : Tr) (cs : List Int) : List Int := T.sorted (T.learnSet cs).set
def topLv (T : Tr) (ls : List Int) : Int := ls.foldl (fun a l => max a (T.lvOf l)) 0

theorem An.addAll_snoc (T : Tr) (ex : Int) (A : An) (ls : List Int) (l : Int) : A.addAll T ex (ls ++ [l]) = An.one T ex (A.addAll T ex ls) l := by simp [An.addAll, List.foldl_append]
/-- How many literals of the set have the current level. -/
def cntNow (T : Tr) (A : An) : Nat := T.lits.countP fun m => A.set (-m) && decide (T.lvOf m = T.depth)
theorem cntNow_le (T : Tr) (A : An) : cntNow T A ≤ T.lits.length := List.countP_le_length
theorem lvOf_neg (T : Tr) (l : Int) : T.lvOf (-l) = T.lvOf l := by unfold Tr.lvOf; rw [Int.natAbs_neg]
theorem lits_nodup {T : Tr} (h : T.WF) : T.lits.Nodup := by
  have := h.nodup
  unfold Tr.lits
  rw [List.nodup_iff_pairwise_ne, List.pairwise_map] at this ⊢
  exact this.imp fun hne e => hne (by unfold Ent.v; rw [e])
theorem countP_put {l : List Int} (hn : l.Nodup) {p q : Int → Bool} {m : Int} (hm : m ∈ l) (hp : p m = false) (hq : q m = true) (ho : ∀ x, x ≠ m → q x = p x) : l.countP q = l.countP p + 1 := by
  induction l with
  | nil => cases hm
  | cons y l ih =>
    obtain ⟨h1, h2⟩ := List.nodup_cons.1 hn
    rcases List.mem_cons.1 hm with e | hm'
    · subst e
      have : l.countP q = l.countP p := List.countP_congr fun x hx => by rw [ho x (fun e => h1 (e ▸ hx))]
      rw [List.countP_cons_of_pos hq, List.countP_cons_of_neg (by simp [hp]), this]
    · have hne : y ≠ m := fun e => h1 (e ▸ hm')
      have := ih h2 hm'
      cases hy : p y
      · rw [List.countP_cons_of_neg (by simp [ho y hne, hy]), List.countP_cons_of_neg (by simp [hy]), this]
      · rw [List.countP_cons_of_pos (by rw [ho y hne, hy]), List.countP_cons_of_pos hy, this]
/-- What an analysis keeps: its literals are false, and it counts no more than there are. -/
structure Cn (T : Tr) (A : An) : Prop where
  neg : ∀ x, A.set x = true → -x ∈ T.lits
  lo : 0 ≤ A.now
  hi : A.now ≤ cntNow T A
theorem Cn.fresh (T : Tr) : Cn T An.fresh := ⟨fun x h => by simp [An.fresh] at h, by simp [An.fresh], by simp [An.fresh]⟩
theorem Cn.one {T : Tr} (h : T.WF) {A : An} (c : Cn T A) {ex l : Int} (hl : (l.natAbs : Int) = ex ∨ -l ∈ T.lits) : Cn T (An.one T ex A l) := by
  unfold An.one
  split
  · exact c
  · rename_i hno
    simp only [not_or] at hno
    have hm : -l ∈ T.lits := hl.resolve_left hno.2.1
    have hs : A.set l = false := by simpa using hno.1
    refine ⟨fun x hx => ?_, ?_, ?_⟩
    · dsimp only at hx
      rw [Bool.or_eq_true] at hx
      rcases hx with hx | hx
      · exact c.neg x hx
      · rw [of_decide_eq_true hx]; exact hm
    · have := c.lo
      dsimp only
      split <;> omega
    · have h1 := c.hi
      by_cases hd : T.lvOf l = T.depth
      · have : cntNow T ⟨fun x => A.set x || decide (x = l), if T.lvOf l = T.depth then A.now + 1 else A.now⟩ = cntNow T A + 1 := by
          unfold cntNow
          refine countP_put (lits_nodup h) (m := -l) hm ?_ ?_ fun x hx => ?_
          · simp [hs]
          · simp [lvOf_neg, hd]
          · have : -x ≠ l := fun e => hx (by omega)
            simp [this]
        rw [this]
        dsimp only
        rw [if_pos hd]
        omega
      · have : cntNow T A ≤ cntNow T ⟨fun x => A.set x || decide (x = l), if T.lvOf l = T.depth then A.now + 1 else A.now⟩ := by
          unfold cntNow
          refine List.countP_mono_left fun x _ hx => ?_
          simp only [Bool.and_eq_true, Bool.or_eq_true] at hx ⊢
          exact ⟨.inl hx.1, hx.2⟩
        dsimp only at this ⊢
        rw [if_neg hd] at this ⊢
        omega
theorem Cn.addAll {T : Tr} (h : T.WF) {ex : Int} : ∀ {ls : List Int} {A : An}, Cn T A → (∀ l ∈ ls, (l.natAbs : Int) = ex ∨ -l ∈ T.lits) → Cn T (A.addAll T ex ls) := by
  intro ls
  induction ls with
  | nil => intro A c _; exact c
  | cons l ls ih => intro A c hl; exact ih (c.one h (hl l (by simp))) fun x hx => hl x (by simp [hx])
theorem Cn.drop {T : Tr} (h : T.WF) {A : An} (c : Cn T A) {l : Int} (h1 : 1 < A.now) : Cn T (A.drop l) := by
  refine ⟨fun x hx => c.neg x ?_, by unfold An.drop; dsimp only; omega, ?_⟩
  · unfold An.drop at hx
    simp only [Bool.and_eq_true] at hx
    exact hx.1
  · have hh := c.hi
    have : cntNow T A ≤ cntNow T (A.drop l) + 1 := by
      by_cases hm : -l ∈ T.lits ∧ (A.set l && decide (T.lvOf l = T.depth)) = true
      · have : cntNow T A = cntNow T (A.drop l) + 1 := by
          unfold cntNow
          refine countP_put (lits_nodup h) (m := -l) hm.1 ?_ ?_ fun x hx => ?_
          · simp [An.drop]
          · simpa [lvOf_neg] using hm.2
          · have : -x ≠ l := fun e => hx (by omega)
            simp [An.drop, this]
        omega
      · have : cntNow T A = cntNow T (A.drop l) := by
          unfold cntNow
          refine List.countP_congr fun x hx => ?_
          by_cases hxl : -x = l
          · have hx2 : x = -l := by omega
            subst hx2
            have : ¬ (A.set l && decide (T.lvOf l = T.depth)) = true := fun e => hm ⟨hx, e⟩
            simp only [Int.neg_neg, lvOf_neg, An.drop, decide_true, Bool.not_true, Bool.and_false, Bool.false_and]
            simpa using this
          · simp [An.drop, hxl]
        omega
    unfold An.drop at this ⊢
    dsimp only at this ⊢
    omega
theorem reasonOf_neg {T : Tr} (h : T.WF) {m : Int} (_hm : m ∈ T.lits) : ∀ x ∈ T.reasonOf (m.natAbs : Nat), (x.natAbs : Int) = (m.natAbs : Nat) ∨ -x ∈ T.lits := by
  intro x hx
  unfold Tr.reasonOf at hx
  cases hi : T.idx (m.natAbs : Nat) with
  | none => rw [hi] at hx; simp at hx
  | some i =>
    rw [hi] at hx
    simp only [Option.bind_some] at hx
    cases he : T.L[i]? with
    | none => rw [he] at hx; simp at hx
    | some e =>
      rw [he] at hx
      simp only at hx
      by_cases his : i ∈ T.starts
      · rw [(h.reason i e he).1 his] at hx; cases hx
      · rcases ((h.reason i e he).2 his).2 x hx with hxl | ⟨j, _, f, hf, hfl⟩
        · left
          have := List.findIdx?_eq_some_iff_getElem.1 hi
          obtain ⟨hlt, hk, _⟩ := this
          rw [List.getElem?_eq_getElem hlt] at he
          injection he with he
          rw [he] at hk
          have : (e.v : Int) = (m.natAbs : Nat) := by simpa using hk
          rw [hxl]
          unfold Ent.v at this
          exact this
        · right
          rw [← hfl]
          exact List.mem_map.2 ⟨f, List.mem_of_getElem? hf, rfl⟩
theorem Cn.back {T : Tr} (h : T.WF) {A : An} (c : Cn T A) {m : Int} (hm : m ∈ T.lits) : Cn T (A.back T m) := by
  unfold An.back
  split
  · rename_i h1
    exact (c.drop h h1.1).addAll h (reasonOf_neg h hm)
  · exact c
theorem Cn.backs {T : Tr} (h : T.WF) : ∀ {ms : List Int} {A : An}, Cn T A → (∀ m ∈ ms, m ∈ T.lits) → Cn T (ms.foldl (An.back T) A) := by
  intro ms
  induction ms with
  | nil => intro A c _; exact c
  | cons m ms ih => intro A c hm; exact ih (c.back h (hm m (by simp))) fun x hx => hm x (by simp [hx])
theorem one_now (T : Tr) (ex : Int) (A : An) (l : Int) : A.now ≤ (An.one T ex A l).now := by
  unfold An.one
  split
  · exact Int.le_refl _
  · dsimp only; split <;> omega
theorem addAll_now (T : Tr) (ex : Int) : ∀ (ls : List Int) (A : An), A.now ≤ (A.addAll T ex ls).now := by
  intro ls
  induction ls with
  | nil => intro A; exact Int.le_refl _
  | cons l ls ih => intro A; exact Int.le_trans (one_now T ex A l) (ih _)
theorem back_now (T : Tr) (A : An) (m : Int) (h : 1 ≤ A.now) : 1 ≤ (A.back T m).now := by
  unfold An.back
  split
  · rename_i h1
    have := addAll_now T m.natAbs (T.reasonOf (m.natAbs : Nat)) (A.drop (-m))
    have e : (A.drop (-m)).now = A.now - 1 := rfl
    omega
  · exact h
theorem backs_now (T : Tr) : ∀ (ms : List Int) (A : An), 1 ≤ A.now → 1 ≤ (ms.foldl (An.back T) A).now := by
  intro ms
  induction ms with
  | nil => intro A h; exact h
  | cons m ms ih => intro A h; exact ih _ (back_now T A m h)
theorem one_in (T : Tr) (ex : Int) (A : An) (l : Int) (h1 : (l.natAbs : Int) ≠ ex) (h2 : T.lvOf l ≠ 0) : (An.one T ex A l).set l = true := by
  unfold An.one
  split
  · rename_i h
    rcases h with h | h | h
    · exact h
    · exact absurd h h1
    · exact absurd h h2
  · simp
theorem one_keeps (T : Tr) (ex : Int) (A : An) (l x : Int) (h : A.set x = true) : (An.one T ex A l).set x = true := by
  unfold An.one
  split
  · exact h
  · simp [h]
/-- The set and the count agree, as long as nothing is taken out. -/
theorem one_count (T : Tr) (ex : Int) (A : An) (l : Int) (h : ∀ x, A.set x = true → T.lvOf x = T.depth → 1 ≤ A.now) (h0 : 0 ≤ A.now) : ∀ x, (An.one T ex A l).set x = true → T.lvOf x = T.depth → 1 ≤ (An.one T ex A l).now := by
  intro x hx hd
  unfold An.one at hx ⊢
  split at hx
  · rename_i hc
    rw [if_pos hc]
    exact h x hx hd
  · rename_i hc
    rw [if_neg hc]
    dsimp only at hx ⊢
    rw [Bool.or_eq_true] at hx
    rcases hx with hx | hx
    · have := h x hx hd
      split <;> omega
    · rw [← of_decide_eq_true hx, if_pos hd]
      omega
theorem addAll_count (T : Tr) (ex : Int) : ∀ (ls : List Int) (A : An), (∀ x, A.set x = true → T.lvOf x = T.depth → 1 ≤ A.now) → 0 ≤ A.now → ∀ x, (A.addAll T ex ls).set x = true → T.lvOf x = T.depth → 1 ≤ (A.addAll T ex ls).now := by
  intro ls
  induction ls with
  | nil => intro A h _; exact h
  | cons l ls ih => intro A h h0; exact ih _ (one_count T ex A l h h0) (Int.le_trans h0 (one_now T ex A l))
theorem addAll_keeps (T : Tr) (ex : Int) : ∀ (ls : List Int) (A : An) (x : Int), A.set x = true → (A.addAll T ex ls).set x = true := by
  intro ls
  induction ls with
  | nil => intro A x h; exact h
  | cons l ls ih => intro A x h; exact ih _ x (one_keeps T ex A l x h)
theorem addAll_in (T : Tr) (ex : Int) : ∀ (ls : List Int) (A : An) (l : Int), l ∈ ls → (l.natAbs : Int) ≠ ex → T.lvOf l ≠ 0 → (A.addAll T ex ls).set l = true := by
  intro ls
  induction ls with
  | nil => intro A l h; cases h
  | cons y ls ih =>
    intro A l h h1 h2
    rcases List.mem_cons.1 h with e | h
    · subst e
      exact addAll_keeps T ex ls _ l (one_in T ex A l h1 h2)
    · exact ih _ l h h1 h2
theorem value_false {T : Tr} {l : Int} (h : T.value l = -1) : -l ∈ T.lits := by
  unfold Tr.value at h
  split at h
  · omega
  · split at h
    · assumption
    · omega
/-- What Learn leaves is in order, and not empty. -/
theorem learn_good {T : Tr} (h : T.WF) {cs : List Int} (hok : okFor T cs = true) : Cn T (An.addAll T 0 An.fresh cs) ∧ 1 ≤ (An.addAll T 0 An.fresh cs).now ∧ Cn T (T.learnSet cs) ∧ 1 ≤ (T.learnSet cs).now := by
  unfold okFor at hok
  simp only [Bool.and_eq_true, List.all_eq_true, List.any_eq_true, decide_eq_true_eq] at hok
  obtain ⟨⟨h1, l, hl, hd⟩, h0⟩ := hok
  have c1 : Cn T (An.addAll T 0 An.fresh cs) := (Cn.fresh T).addAll h fun x hx => .inr (value_false (h1 x hx))
  have hne : l.natAbs ≠ 0 := by
    have hm := value_false (h1 l hl)
    obtain ⟨e, he, hel⟩ := List.mem_map.1 hm
    have := (h.lit e he).1
    omega
  have n1 : 1 ≤ (An.addAll T 0 An.fresh cs).now := addAll_count T 0 cs An.fresh (fun x hx => by simp [An.fresh] at hx) (by simp [An.fresh]) l (addAll_in T 0 cs _ l hl (by omega) (by omega)) hd
  refine ⟨c1, n1, c1.backs h fun m hm => by simpa using hm, backs_now T _ _ n1⟩
theorem sorted_ne {T : Tr} {A : An} (c : Cn T A) (h1 : 1 ≤ A.now) : T.sorted A.set ≠ [] := by
  have : 0 < cntNow T A := by have := c.hi; omega
  unfold cntNow at this
  obtain ⟨m, hm, hp⟩ := List.countP_pos_iff.1 this
  intro e
  have hin : -m ∈ T.sorted A.set := by
    unfold Tr.sorted
    refine List.mem_filter.2 ⟨List.mem_map.2 ⟨m, by simpa using hm, rfl⟩, ?_⟩
    simp only [Bool.and_eq_true] at hp
    exact hp.1
  rw [e] at hin
  cases hin

/-! ### the order -/
def Tr.pos (T : Tr) (x : Int) : Int := T.indexOf (x.natAbs : Nat)
theorem pos_neg (T : Tr) (x : Int) : T.pos (-x) = T.pos x := by unfold Tr.pos; rw [Int.natAbs_neg]
theorem pos_at {T : Tr} (h : T.WF) {i : Nat} {m : Int} (hm : T.lits[i]? = some m) : T.pos m = i := by
  unfold Tr.lits at hm
  rw [List.getElem?_map] at hm
  cases he : T.L[i]? with
  | none => rw [he] at hm; cases hm
  | some e =>
    rw [he] at hm
    have hm : e.lit = m := by simpa using hm
    rw [← hm]
    have := h.idx he
    unfold Tr.pos Tr.indexOf
    unfold Ent.v at this
    rw [this]
theorem sorted_pairwise {T : Tr} (h : T.WF) (S : Int → Bool) : (T.sorted S).Pairwise (fun x y => T.pos y < T.pos x) := by
  unfold Tr.sorted
  refine List.Pairwise.filter _ ?_
  rw [List.pairwise_map, List.pairwise_reverse, List.pairwise_iff_getElem]
  intro i j hi hj hij
  rw [pos_neg, pos_neg, pos_at h (List.getElem?_eq_getElem hi), pos_at h (List.getElem?_eq_getElem hj)]
  omega
theorem mem_sorted_iff {T : Tr} {S : Int → Bool} (hS : ∀ x, S x = true → -x ∈ T.lits) (x : Int) : x ∈ T.sorted S ↔ S x = true := by
  unfold Tr.sorted
  rw [List.mem_filter, List.mem_map]
  constructor
  · exact fun h => h.2
  · exact fun h => ⟨⟨-x, by simpa using hS x h, by omega⟩, h⟩
theorem pos_inj {T : Tr} (h : T.WF) {x y : Int} (hx : -x ∈ T.lits) (hy : -y ∈ T.lits) (e : T.pos x = T.pos y) : x = y := by
  obtain ⟨i, hi, hxi⟩ := List.mem_iff_getElem.1 hx
  obtain ⟨j, hj, hyj⟩ := List.mem_iff_getElem.1 hy
  have a := pos_at h (List.getElem?_eq_getElem hi)
  have b := pos_at h (List.getElem?_eq_getElem hj)
  rw [hxi, pos_neg] at a
  rw [hyj, pos_neg] at b
  have : i = j := by omega
  subst this
  rw [hxi] at hyj
  omega
/-- Literals of the trail, each once, with no later one ahead of an earlier one: that list is one. -/
theorem sorted_unique {T : Tr} (h : T.WF) {S : Int → Bool} (hS : ∀ x, S x = true → -x ∈ T.lits) {xs : List Int} (hn : xs.Nodup) (hm : ∀ x, x ∈ xs ↔ S x = true) (hp : xs.Pairwise (fun x y => T.pos y ≤ T.pos x)) : xs = T.sorted S := by
  have hs := sorted_pairwise h S
  have hp2 : xs.Pairwise (fun x y => T.pos y < T.pos x) := by
    refine List.Pairwise.imp_of_mem (R := fun x y => T.pos y ≤ T.pos x ∧ x ≠ y) (fun {x y} hx hy hxy => ?_) ?_
    · have hne : T.pos x ≠ T.pos y := fun e => hxy.2 (pos_inj h (hS x ((hm x).1 hx)) (hS y ((hm y).1 hy)) e)
      omega
    · exact List.pairwise_and_iff.2 ⟨hp, hn⟩
  have hns : (T.sorted S).Nodup := hs.imp fun {x y} hxy e => by subst e; omega
  have hperm : xs.Perm (T.sorted S) := (List.perm_ext_iff_of_nodup hn hns).2 fun x => by rw [hm, mem_sorted_iff hS]
  exact List.Perm.eq_of_pairwise (le := fun x y => T.pos y < T.pos x) (fun a b _ _ h1 h2 => by omega) hp2 hs hperm
end Go.Proofs.Ytanhacdadgbjdaa
