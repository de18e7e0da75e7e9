/-
 Chapter 32: several texts in one (LnA LnC LnE).
-/
import Derived.Test.YtcjmpobccbnpkaaGreatMjad
import Derived.Maps.RangeWalk
namespace Go.Proofs.YtcjmpobccbnpkaaGreat
section
open Go.RowKit
structure An where
 set : Int → Bool
 now : Int
def Tr.lvOf (T : Tr) (l : Int) : Int := T.levelOf (l.natAbs : Nat)
def An.one (T : Tr) (ex : Int) (A : An) (l : Int) : An :=
 if A.set l = true ∨ (l.natAbs : Int) = ex ∨ T.lvOf l = 0 then A else ⟨fun x => A.set x || decide (x = l), if T.lvOf l = T.depth then A.now + 1 else A.now⟩
def An.addAll (T : Tr) (ex : Int) (A : An) (ls : List Int) : An := ls.foldl (An.one T ex) A
def An.drop (A : An) (l : Int) : An := ⟨fun x => A.set x && !decide (x = l), A.now - 1⟩
def An.back (T : Tr) (A : An) (m : Int) : An := if 1 < A.now ∧ A.set (-m) = true then (A.drop (-m)).addAll T m.natAbs (T.reasonOf (m.natAbs : Nat)) else A
def An.run (T : Tr) (A : An) : An := T.lits.reverse.foldl (An.back T) A
def An.fresh : An := ⟨fun _ => false, 0⟩
def Tr.sorted (T : Tr) (S : Int → Bool) : List Int := (T.lits.reverse.map (fun m => -m)).filter S
def okFor (T : Tr) (cs : List Int) : Bool := cs.all (fun l => decide (T.value l = -1)) && cs.any (fun l => decide (T.lvOf l = T.depth)) && decide (T.depth ≠ 0)
def Tr.learnSet (T : Tr) (cs : List Int) : An := (An.addAll T 0 An.fresh cs).run T
def Tr.learnt (T : Tr) (cs : List Int) : List Int := T.sorted (T.learnSet cs).set
def topLv (T : Tr) (ls : List Int) : Int := ls.foldl (fun a l => max a (T.lvOf l)) 0
theorem An.addAll_snoc (T : Tr) (ex : Int) (A : An) (ls : List Int) (l : Int) : A.addAll T ex (ls ++ [l]) = An.one T ex (A.addAll T ex ls) l := by simp [An.addAll, List.foldl_append]
def cntNow (T : Tr) (A : An) : Nat := T.lits.countP fun m => A.set (-m) && decide (T.lvOf m = T.depth)
theorem cntNow_le (T : Tr) (A : An) : cntNow T A ≤ T.lits.length := List.countP_le_length
theorem lvOf_neg (T : Tr) (l : Int) : T.lvOf (-l) = T.lvOf l := by unfold Tr.lvOf; rw [Int.natAbs_neg]
theorem lits_nodup {T : Tr} (h : T.WF) : T.lits.Nodup := by
 have := h.nodup
 unfold Tr.lits
 rw [List.nodup_iff_pairwise_ne, List.pairwise_map] at this ⊢
 exact this.imp fun hne e => hne (by unfold Ent.v; rw [e])
theorem countP_put {l : List Int} (hn : l.Nodup) {p q : Int → Bool} {m : Int} (hm : m ∈ l) (hp : p m = false) (hq : q m = true) (ho : ∀ x, x ≠ m → q x = p x) : l.countP q = l.countP p + 1 := by
 induction l with
 | nil => cases hm
 | cons y l ih =>
  obtain ⟨h1, h2⟩ := List.nodup_cons.1 hn
  rcases List.mem_cons.1 hm with e | hm'
  ·subst e
   have : l.countP q = l.countP p := List.countP_congr fun x hx => by rw [ho x (fun e => h1 (e ▸ hx))]
   rw [List.countP_cons_of_pos hq, List.countP_cons_of_neg (by simp [hp]), this]
  ·have hne : y ≠ m := fun e => h1 (e ▸ hm')
   have := ih h2 hm'
   cases hy : p y
   ·rw [List.countP_cons_of_neg (by simp [ho y hne, hy]), List.countP_cons_of_neg (by simp [hy]), this]
   ·rw [List.countP_cons_of_pos (by rw [ho y hne, hy]), List.countP_cons_of_pos hy, this]
structure Cn (T : Tr) (A : An) : Prop where
 neg : ∀ x, A.set x = true → -x ∈ T.lits
 lo : 0 ≤ A.now
 hi : A.now ≤ cntNow T A
theorem Cn.fresh (T : Tr) : Cn T An.fresh := ⟨fun x h => by simp [An.fresh] at h, by simp [An.fresh], by simp [An.fresh]⟩
theorem Cn.one {T : Tr} (h : T.WF) {A : An} (c : Cn T A) {ex l : Int} (hl : (l.natAbs : Int) = ex ∨ -l ∈ T.lits) : Cn T (An.one T ex A l) := by
 unfold An.one
 split
 ·exact c
 ·rename_i hno
  simp only [not_or] at hno
  have hm : -l ∈ T.lits := hl.resolve_left hno.2.1
  have hs : A.set l = false := by simpa using hno.1
  refine ⟨fun x hx => ?_, ?_, ?_⟩
  ·dsimp only at hx
   rw [Bool.or_eq_true] at hx
   rcases hx with hx | hx
   ·exact c.neg x hx
   ·rw [of_decide_eq_true hx]; exact hm
  ·have := c.lo
   dsimp only
   split <;> omega
  ·have h1 := c.hi
   by_cases hd : T.lvOf l = T.depth
   ·have : cntNow T ⟨fun x => A.set x || decide (x = l), if T.lvOf l = T.depth then A.now + 1 else A.now⟩ = cntNow T A + 1 := by
     unfold cntNow
     refine countP_put (lits_nodup h) (m := -l) hm ?_ ?_ fun x hx => ?_
     ·simp [hs]
     ·simp [lvOf_neg, hd]
     ·have : -x ≠ l := fun e => hx (by omega)
      simp [this]
    rw [this]
    dsimp only
    rw [if_pos hd]
    omega
   ·have : cntNow T A ≤ cntNow T ⟨fun x => A.set x || decide (x = l), if T.lvOf l = T.depth then A.now + 1 else A.now⟩ := by
     unfold cntNow
     refine List.countP_mono_left fun x _ hx => ?_
     simp only [Bool.and_eq_true, Bool.or_eq_true] at hx ⊢
     exact ⟨.inl hx.1, hx.2⟩
    dsimp only at this ⊢
    rw [if_neg hd] at this ⊢
    omega
theorem Cn.addAll {T : Tr} (h : T.WF) {ex : Int} : ∀ {ls : List Int} {A : An}, Cn T A → (∀ l ∈ ls, (l.natAbs : Int) = ex ∨ -l ∈ T.lits) → Cn T (A.addAll T ex ls) := by
 intro ls
 induction ls with
 | nil => intro A c _; exact c
 | cons l ls ih => intro A c hl; exact ih (c.one h (hl l (by simp))) fun x hx => hl x (by simp [hx])
theorem Cn.drop {T : Tr} (h : T.WF) {A : An} (c : Cn T A) {l : Int} (h1 : 1 < A.now) : Cn T (A.drop l) := by
 refine ⟨fun x hx => c.neg x ?_, by unfold An.drop; dsimp only; omega, ?_⟩
 ·unfold An.drop at hx
  simp only [Bool.and_eq_true] at hx
  exact hx.1
 ·have hh := c.hi
  have : cntNow T A ≤ cntNow T (A.drop l) + 1 := by
   by_cases hm : -l ∈ T.lits ∧ (A.set l && decide (T.lvOf l = T.depth)) = true
   ·have : cntNow T A = cntNow T (A.drop l) + 1 := by
     unfold cntNow
     refine countP_put (lits_nodup h) (m := -l) hm.1 ?_ ?_ fun x hx => ?_
     ·simp [An.drop]
     ·simpa [lvOf_neg] using hm.2
     ·have : -x ≠ l := fun e => hx (by omega)
      simp [An.drop, this]
    omega
   ·have : cntNow T A = cntNow T (A.drop l) := by
     unfold cntNow
     refine List.countP_congr fun x hx => ?_
     by_cases hxl : -x = l
     ·have hx2 : x = -l := by omega
      subst hx2
      have : ¬ (A.set l && decide (T.lvOf l = T.depth)) = true := fun e => hm ⟨hx, e⟩
      simp only [Int.neg_neg, lvOf_neg, An.drop, decide_true, Bool.not_true, Bool.and_false, Bool.false_and]
      simpa using this
     ·simp [An.drop, hxl]
    omega
  unfold An.drop at this ⊢
  dsimp only at this ⊢
  omega
theorem reasonOf_neg {T : Tr} (h : T.WF) {m : Int} (_hm : m ∈ T.lits) : ∀ x ∈ T.reasonOf (m.natAbs : Nat), (x.natAbs : Int) = (m.natAbs : Nat) ∨ -x ∈ T.lits := by
 intro x hx
 unfold Tr.reasonOf at hx
 cases hi : T.idx (m.natAbs : Nat) with
 | none => rw [hi] at hx; simp at hx
 | some i =>
  rw [hi] at hx
  simp only [Option.bind_some] at hx
  cases he : T.L[i]? with
  | none => rw [he] at hx; simp at hx
  | some e =>
   rw [he] at hx
   simp only at hx
   by_cases his : i ∈ T.starts
   ·rw [(h.reason i e he).1 his] at hx; cases hx
   ·rcases ((h.reason i e he).2 his).2 x hx with hxl | ⟨j, _, f, hf, hfl⟩
    ·left
     have := List.findIdx?_eq_some_iff_getElem.1 hi
     obtain ⟨hlt, hk, _⟩ := this
     rw [List.getElem?_eq_getElem hlt] at he
     injection he with he
     rw [he] at hk
     have : (e.v : Int) = (m.natAbs : Nat) := by simpa using hk
     rw [hxl]
     unfold Ent.v at this
     exact this
    ·right
     rw [← hfl]
     exact List.mem_map.2 ⟨f, List.mem_of_getElem? hf, rfl⟩
theorem Cn.back {T : Tr} (h : T.WF) {A : An} (c : Cn T A) {m : Int} (hm : m ∈ T.lits) : Cn T (A.back T m) := by
 unfold An.back
 split
 ·rename_i h1
  exact (c.drop h h1.1).addAll h (reasonOf_neg h hm)
 ·exact c
theorem Cn.backs {T : Tr} (h : T.WF) : ∀ {ms : List Int} {A : An}, Cn T A → (∀ m ∈ ms, m ∈ T.lits) → Cn T (ms.foldl (An.back T) A) := by
 intro ms
 induction ms with
 | nil => intro A c _; exact c
 | cons m ms ih => intro A c hm; exact ih (c.back h (hm m (by simp))) fun x hx => hm x (by simp [hx])
theorem one_now (T : Tr) (ex : Int) (A : An) (l : Int) : A.now ≤ (An.one T ex A l).now := by
 unfold An.one
 split
 ·exact Int.le_refl _
 ·dsimp only; split <;> omega
theorem addAll_now (T : Tr) (ex : Int) : ∀ (ls : List Int) (A : An), A.now ≤ (A.addAll T ex ls).now := by
 intro ls
 induction ls with
 | nil => intro A; exact Int.le_refl _
 | cons l ls ih => intro A; exact Int.le_trans (one_now T ex A l) (ih _)
theorem back_now (T : Tr) (A : An) (m : Int) (h : 1 ≤ A.now) : 1 ≤ (A.back T m).now := by
 unfold An.back
 split
 ·rename_i h1
  have := addAll_now T m.natAbs (T.reasonOf (m.natAbs : Nat)) (A.drop (-m))
  have e : (A.drop (-m)).now = A.now - 1 := rfl
  omega
 ·exact h
theorem backs_now (T : Tr) : ∀ (ms : List Int) (A : An), 1 ≤ A.now → 1 ≤ (ms.foldl (An.back T) A).now := by
 intro ms
 induction ms with
 | nil => intro A h; exact h
 | cons m ms ih => intro A h; exact ih _ (back_now T A m h)
theorem one_in (T : Tr) (ex : Int) (A : An) (l : Int) (h1 : (l.natAbs : Int) ≠ ex) (h2 : T.lvOf l ≠ 0) : (An.one T ex A l).set l = true := by
 unfold An.one
 split
 ·rename_i h
  rcases h with h | h | h
  ·exact h
  ·exact absurd h h1
  ·exact absurd h h2
 ·simp
theorem one_keeps (T : Tr) (ex : Int) (A : An) (l x : Int) (h : A.set x = true) : (An.one T ex A l).set x = true := by
 unfold An.one
 split
 ·exact h
 ·simp [h]
theorem one_count (T : Tr) (ex : Int) (A : An) (l : Int) (h : ∀ x, A.set x = true → T.lvOf x = T.depth → 1 ≤ A.now) (h0 : 0 ≤ A.now) : ∀ x, (An.one T ex A l).set x = true → T.lvOf x = T.depth → 1 ≤ (An.one T ex A l).now := by
 intro x hx hd
 unfold An.one at hx ⊢
 split at hx
 ·rename_i hc
  rw [if_pos hc]
  exact h x hx hd
 ·rename_i hc
  rw [if_neg hc]
  dsimp only at hx ⊢
  rw [Bool.or_eq_true] at hx
  rcases hx with hx | hx
  ·have := h x hx hd
   split <;> omega
  ·rw [← of_decide_eq_true hx, if_pos hd]
   omega
theorem addAll_count (T : Tr) (ex : Int) : ∀ (ls : List Int) (A : An), (∀ x, A.set x = true → T.lvOf x = T.depth → 1 ≤ A.now) → 0 ≤ A.now → ∀ x, (A.addAll T ex ls).set x = true → T.lvOf x = T.depth → 1 ≤ (A.addAll T ex ls).now := by
 intro ls
 induction ls with
 | nil => intro A h _; exact h
 | cons l ls ih => intro A h h0; exact ih _ (one_count T ex A l h h0) (Int.le_trans h0 (one_now T ex A l))
theorem addAll_keeps (T : Tr) (ex : Int) : ∀ (ls : List Int) (A : An) (x : Int), A.set x = true → (A.addAll T ex ls).set x = true := by
 intro ls
 induction ls with
 | nil => intro A x h; exact h
 | cons l ls ih => intro A x h; exact ih _ x (one_keeps T ex A l x h)
theorem addAll_in (T : Tr) (ex : Int) : ∀ (ls : List Int) (A : An) (l : Int), l ∈ ls → (l.natAbs : Int) ≠ ex → T.lvOf l ≠ 0 → (A.addAll T ex ls).set l = true := by
 intro ls
 induction ls with
 | nil => intro A l h; cases h
 | cons y ls ih =>
  intro A l h h1 h2
  rcases List.mem_cons.1 h with e | h
  ·subst e
   exact addAll_keeps T ex ls _ l (one_in T ex A l h1 h2)
  ·exact ih _ l h h1 h2
theorem value_false {T : Tr} {l : Int} (h : T.value l = -1) : -l ∈ T.lits := by
 unfold Tr.value at h
 split at h
 ·omega
 ·split at h
  ·assumption
  ·omega
theorem learn_good {T : Tr} (h : T.WF) {cs : List Int} (hok : okFor T cs = true) : Cn T (An.addAll T 0 An.fresh cs) ∧ 1 ≤ (An.addAll T 0 An.fresh cs).now ∧ Cn T (T.learnSet cs) ∧ 1 ≤ (T.learnSet cs).now := by
 unfold okFor at hok
 simp only [Bool.and_eq_true, List.all_eq_true, List.any_eq_true, decide_eq_true_eq] at hok
 obtain ⟨⟨h1, l, hl, hd⟩, h0⟩ := hok
 have c1 : Cn T (An.addAll T 0 An.fresh cs) := (Cn.fresh T).addAll h fun x hx => .inr (value_false (h1 x hx))
 have hne : l.natAbs ≠ 0 := by
  have hm := value_false (h1 l hl)
  obtain ⟨e, he, hel⟩ := List.mem_map.1 hm
  have := (h.lit e he).1
  omega
 have n1 : 1 ≤ (An.addAll T 0 An.fresh cs).now := addAll_count T 0 cs An.fresh (fun x hx => by simp [An.fresh] at hx) (by simp [An.fresh]) l (addAll_in T 0 cs _ l hl (by omega) (by omega)) hd
 refine ⟨c1, n1, c1.backs h fun m hm => by simpa using hm, backs_now T _ _ n1⟩
theorem sorted_ne {T : Tr} {A : An} (c : Cn T A) (h1 : 1 ≤ A.now) : T.sorted A.set ≠ [] := by
 have : 0 < cntNow T A := by have := c.hi; omega
 unfold cntNow at this
 obtain ⟨m, hm, hp⟩ := List.countP_pos_iff.1 this
 intro e
 have hin : -m ∈ T.sorted A.set := by
  unfold Tr.sorted
  refine List.mem_filter.2 ⟨List.mem_map.2 ⟨m, by simpa using hm, rfl⟩, ?_⟩
  simp only [Bool.and_eq_true] at hp
  exact hp.1
 rw [e] at hin
 cases hin
/-! ### the order -/
def Tr.pos (T : Tr) (x : Int) : Int := T.indexOf (x.natAbs : Nat)
theorem pos_neg (T : Tr) (x : Int) : T.pos (-x) = T.pos x := by unfold Tr.pos; rw [Int.natAbs_neg]
theorem pos_at {T : Tr} (h : T.WF) {i : Nat} {m : Int} (hm : T.lits[i]? = some m) : T.pos m = i := by
 unfold Tr.lits at hm
 rw [List.getElem?_map] at hm
 cases he : T.L[i]? with
 | none => rw [he] at hm; cases hm
 | some e =>
  rw [he] at hm
  have hm : e.lit = m := by simpa using hm
  rw [← hm]
  have := h.idx he
  unfold Tr.pos Tr.indexOf
  unfold Ent.v at this
  rw [this]
theorem sorted_pairwise {T : Tr} (h : T.WF) (S : Int → Bool) : (T.sorted S).Pairwise (fun x y => T.pos y < T.pos x) := by
 unfold Tr.sorted
 refine List.Pairwise.filter _ ?_
 rw [List.pairwise_map, List.pairwise_reverse, List.pairwise_iff_getElem]
 intro i j hi hj hij
 rw [pos_neg, pos_neg, pos_at h (List.getElem?_eq_getElem hi), pos_at h (List.getElem?_eq_getElem hj)]
 omega
theorem mem_sorted_iff {T : Tr} {S : Int → Bool} (hS : ∀ x, S x = true → -x ∈ T.lits) (x : Int) : x ∈ T.sorted S ↔ S x = true := by
 unfold Tr.sorted
 rw [List.mem_filter, List.mem_map]
 constructor
 ·exact fun h => h.2
 ·exact fun h => ⟨⟨-x, by simpa using hS x h, by omega⟩, h⟩
theorem pos_inj {T : Tr} (h : T.WF) {x y : Int} (hx : -x ∈ T.lits) (hy : -y ∈ T.lits) (e : T.pos x = T.pos y) : x = y := by
 obtain ⟨i, hi, hxi⟩ := List.mem_iff_getElem.1 hx
 obtain ⟨j, hj, hyj⟩ := List.mem_iff_getElem.1 hy
 have a := pos_at h (List.getElem?_eq_getElem hi)
 have b := pos_at h (List.getElem?_eq_getElem hj)
 rw [hxi, pos_neg] at a
 rw [hyj, pos_neg] at b
 have : i = j := by omega
 subst this
 rw [hxi] at hyj
 omega
theorem sorted_unique {T : Tr} (h : T.WF) {S : Int → Bool} (hS : ∀ x, S x = true → -x ∈ T.lits) {xs : List Int} (hn : xs.Nodup) (hm : ∀ x, x ∈ xs ↔ S x = true) (hp : xs.Pairwise (fun x y => T.pos y ≤ T.pos x)) : xs = T.sorted S := by
 have hs := sorted_pairwise h S
 have hp2 : xs.Pairwise (fun x y => T.pos y < T.pos x) := by
  refine List.Pairwise.imp_of_mem (R := fun x y => T.pos y ≤ T.pos x ∧ x ≠ y) (fun {x y} hx hy hxy => ?_) ?_
  ·have hne : T.pos x ≠ T.pos y := fun e => hxy.2 (pos_inj h (hS x ((hm x).1 hx)) (hS y ((hm y).1 hy)) e)
   omega
  ·exact List.pairwise_and_iff.2 ⟨hp, hn⟩
 have hns : (T.sorted S).Nodup := hs.imp fun {x y} hxy e => by subst e; omega
 have hperm : xs.Perm (T.sorted S) := (List.perm_ext_iff_of_nodup hn hns).2 fun x => by rw [hm, mem_sorted_iff hS]
 exact List.Perm.eq_of_pairwise (le := fun x y => T.pos y < T.pos x) (fun a b _ _ h1 h2 => by omega) hp2 hs hperm
end
section
open Go.RowKit
theorem lvOf_at {T : Tr} (h : T.WF) {i : Nat} {m : Int} (hm : T.lits[i]? = some m) : T.lvOf m = (T.starts.filter (· ≤ i)).length := by
 unfold Tr.lits at hm
 rw [List.getElem?_map] at hm
 cases he : T.L[i]? with
 | none => rw [he] at hm; cases hm
 | some e =>
  rw [he] at hm
  have hm : e.lit = m := by simpa using hm
  rw [← hm]
  have hx := h.idx he
  have hl := h.level i e he
  unfold Tr.lvOf Tr.levelOf
  unfold Ent.v at hx
  rw [hx]
  simp only [Option.bind_some, he]
  exact_mod_cast hl
theorem lvOf_mono {T : Tr} (h : T.WF) {i j : Nat} {m m' : Int} (hm : T.lits[i]? = some m) (hm' : T.lits[j]? = some m') (hij : i ≤ j) : T.lvOf m ≤ T.lvOf m' := by
 rw [lvOf_at h hm, lvOf_at h hm']
 have : (T.starts.filter (· ≤ i)).length ≤ (T.starts.filter (· ≤ j)).length := by
  rw [← List.countP_eq_length_filter, ← List.countP_eq_length_filter]
  refine List.countP_mono_left fun x _ hx => ?_
  simp only [decide_eq_true_eq] at hx ⊢
  omega
 omega
theorem lvOf_le {T : Tr} (h : T.WF) {m : Int} (hm : m ∈ T.lits) : 0 ≤ T.lvOf m ∧ T.lvOf m ≤ T.depth := by
 obtain ⟨i, hi, hmi⟩ := List.mem_iff_getElem.1 hm
 rw [lvOf_at h (by rw [← hmi]; exact List.getElem?_eq_getElem hi)]
 have := List.length_filter_le (· ≤ i) T.starts
 unfold Tr.depth
 omega
theorem reasonOf_pos {T : Tr} (h : T.WF) {i : Nat} {m : Int} (hm : T.lits[i]? = some m) : ∀ x ∈ T.reasonOf (m.natAbs : Nat), x = m ∨ (-x ∈ T.lits ∧ T.pos x < i) := by
 intro x hx
 unfold Tr.lits at hm
 rw [List.getElem?_map] at hm
 cases he : T.L[i]? with
 | none => rw [he] at hm; cases hm
 | some e =>
  rw [he] at hm
  have hm : e.lit = m := by simpa using hm
  have hidx := h.idx he
  unfold Ent.v at hidx
  rw [hm] at hidx
  unfold Tr.reasonOf at hx
  rw [hidx] at hx
  simp only [Option.bind_some, he] at hx
  by_cases his : i ∈ T.starts
  ·rw [(h.reason i e he).1 his] at hx; cases hx
  ·rcases ((h.reason i e he).2 his).2 x hx with hxl | ⟨j, hj, f, hf, hfl⟩
   ·exact .inl (by rw [hxl, hm])
   ·have hjl : T.lits[j]? = some (-x) := by unfold Tr.lits; rw [List.getElem?_map, hf, ← hfl]; rfl
    refine .inr ⟨List.mem_of_getElem? hjl, ?_⟩
    have := pos_at h hjl
    rw [pos_neg] at this
    omega
theorem one_cnt {T : Tr} (h : T.WF) {A : An} (c : A.now = cntNow T A) {ex l : Int} (hl : (l.natAbs : Int) = ex ∨ -l ∈ T.lits) : (An.one T ex A l).now = cntNow T (An.one T ex A l) := by
 unfold An.one
 split
 ·exact c
 ·rename_i hno
  simp only [not_or] at hno
  have hm : -l ∈ T.lits := hl.resolve_left hno.2.1
  have hs : A.set l = false := by simpa using hno.1
  by_cases hd : T.lvOf l = T.depth
  ·have : cntNow T ⟨fun x => A.set x || decide (x = l), if T.lvOf l = T.depth then A.now + 1 else A.now⟩ = cntNow T A + 1 := by
    unfold cntNow
    refine countP_put (lits_nodup h) (m := -l) hm ?_ ?_ fun x hx => ?_
    ·simp [hs]
    ·simp [lvOf_neg, hd]
    ·have : -x ≠ l := fun e => hx (by omega)
     simp [this]
   rw [this]
   dsimp only
   rw [if_pos hd]
   omega
  ·have : cntNow T ⟨fun x => A.set x || decide (x = l), if T.lvOf l = T.depth then A.now + 1 else A.now⟩ = cntNow T A := by
    unfold cntNow
    refine List.countP_congr fun x _ => ?_
    by_cases hxl : -x = l
    ·have hx2 : T.lvOf x = T.lvOf l := by rw [← hxl, lvOf_neg]
     simp [hx2, hd]
    ·simp [hxl]
   rw [this]
   dsimp only
   rw [if_neg hd]
   exact c
theorem addAll_cnt {T : Tr} (h : T.WF) {ex : Int} : ∀ {ls : List Int} {A : An}, A.now = cntNow T A → (∀ l ∈ ls, (l.natAbs : Int) = ex ∨ -l ∈ T.lits) → (A.addAll T ex ls).now = cntNow T (A.addAll T ex ls) := by
 intro ls
 induction ls with
 | nil => intro A c _; exact c
 | cons l ls ih => intro A c hl; exact ih (one_cnt h c (hl l (by simp))) fun x hx => hl x (by simp [hx])
theorem drop_cnt {T : Tr} (h : T.WF) {A : An} (c : A.now = cntNow T A) {m : Int} (hm : m ∈ T.lits) (hs : A.set (-m) = true) (hd : T.lvOf m = T.depth) : (A.drop (-m)).now = cntNow T (A.drop (-m)) := by
 have : cntNow T A = cntNow T (A.drop (-m)) + 1 := by
  unfold cntNow
  refine countP_put (lits_nodup h) (m := m) hm ?_ ?_ fun x hx => ?_
  ·simp [An.drop]
  ·simp [hs, hd]
  ·have : -x ≠ -m := fun e => hx (by omega)
   simp [An.drop, this]
 have e : (A.drop (-m)).now = A.now - 1 := rfl
 omega
theorem addAll_set (T : Tr) (ex : Int) : ∀ (ls : List Int) (A : An) (x : Int), (A.addAll T ex ls).set x = true ↔ A.set x = true ∨ (x ∈ ls ∧ (x.natAbs : Int) ≠ ex ∧ T.lvOf x ≠ 0) := by
 intro ls
 induction ls with
 | nil => intro A x; simp [An.addAll]
 | cons l ls ih =>
  intro A x
  have e : A.addAll T ex (l :: ls) = (An.one T ex A l).addAll T ex ls := rfl
  rw [e, ih]
  constructor
  ·rintro (hx | hx)
   ·unfold An.one at hx
    split at hx
    ·exact .inl hx
    ·rename_i hno
     simp only [not_or] at hno
     dsimp only at hx
     rw [Bool.or_eq_true] at hx
     rcases hx with hx | hx
     ·exact .inl hx
     ·have := of_decide_eq_true hx
      subst this
      exact .inr ⟨by simp, hno.2.1, hno.2.2⟩
   ·exact .inr ⟨by simp [hx.1], hx.2⟩
  ·rintro (hx | ⟨hx, h1, h2⟩)
   ·exact .inl (one_keeps T ex A l x hx)
   ·rcases List.mem_cons.1 hx with hxl | hx
    ·subst hxl
     exact .inl (one_in T ex A x h1 h2)
    ·exact .inr ⟨hx, h1, h2⟩
structure Inv (T : Tr) (i : Nat) (A : An) : Prop where
 neg : ∀ x, A.set x = true → -x ∈ T.lits
 lv : ∀ x, A.set x = true → T.lvOf x ≠ 0
 cnt : A.now = cntNow T A
 one : 1 ≤ A.now
 low : 1 < A.now → ∀ x, A.set x = true → T.pos x < i
theorem pos_lt {T : Tr} (h : T.WF) {x : Int} (hx : -x ∈ T.lits) : 0 ≤ T.pos x ∧ T.pos x < T.lits.length ∧ T.lits[(T.pos x).toNat]? = some (-x) := by
 obtain ⟨i, hi, hxi⟩ := List.mem_iff_getElem.1 hx
 have e : T.lits[i]? = some (-x) := by rw [← hxi]; exact List.getElem?_eq_getElem hi
 have := pos_at h e
 rw [pos_neg] at this
 rw [this]
 exact ⟨by omega, by omega, by simpa using e⟩
theorem Inv.start {T : Tr} (h : T.WF) {cs : List Int} (hok : okFor T cs = true) : Inv T T.lits.length (An.addAll T 0 An.fresh cs) := by
 obtain ⟨c1, n1, _, _⟩ := learn_good h hok
 unfold okFor at hok
 simp only [Bool.and_eq_true, List.all_eq_true, List.any_eq_true, decide_eq_true_eq] at hok
 refine ⟨c1.neg, fun x hx => ?_, addAll_cnt h (by simp [An.fresh, cntNow]) fun x hx => .inr (value_false (hok.1.1 x hx)), n1, fun _ x hx => (pos_lt h (c1.neg x hx)).2.1⟩
 rcases (addAll_set T 0 cs An.fresh x).1 hx with hx | hx
 ·simp [An.fresh] at hx
 ·exact hx.2.2
theorem Inv.level {T : Tr} (h : T.WF) {i : Nat} {A : An} (e : Inv T (i + 1) A) {m : Int} (hm : T.lits[i]? = some m) (h1 : 1 < A.now) (_hs : A.set (-m) = true) : T.lvOf m = T.depth := by
 have hml := List.mem_of_getElem? hm
 have hc := e.cnt
 refine Classical.byContradiction fun hd => ?_
 have : 0 < cntNow T A := by omega
 unfold cntNow at this
 obtain ⟨m', hm', hp⟩ := List.countP_pos_iff.1 this
 simp only [Bool.and_eq_true, decide_eq_true_eq] at hp
 obtain ⟨a, b, c⟩ := pos_lt h (x := -m') (by rw [Int.neg_neg]; exact hm')
 have hlow := e.low h1 (-m') hp.1
 rw [Int.neg_neg] at c
 have := lvOf_mono h c hm (by omega)
 have := lvOf_le h hml
 omega
theorem Inv.back {T : Tr} (h : T.WF) {i : Nat} {A : An} (e : Inv T (i + 1) A) {m : Int} (hm : T.lits[i]? = some m) : Inv T i (A.back T m) := by
 have hml := List.mem_of_getElem? hm
 have hpm := pos_at h hm
 unfold An.back
 split
 ·rename_i hc
  have hd := e.level h hm hc.1 hc.2
  have hr := reasonOf_pos h hm
  have hset := addAll_set T m.natAbs (T.reasonOf (m.natAbs : Nat)) (A.drop (-m))
  have hmem : ∀ x, ((A.drop (-m)).addAll T m.natAbs (T.reasonOf (m.natAbs : Nat))).set x = true → -x ∈ T.lits ∧ T.lvOf x ≠ 0 ∧ T.pos x < i := by
   intro x hx
   rcases (hset x).1 hx with hx | ⟨hx, h2, h3⟩
   ·unfold An.drop at hx
    simp only [Bool.and_eq_true, Bool.not_eq_true', decide_eq_false_iff_not] at hx
    have hn := e.neg x hx.1
    have hp := e.low hc.1 x hx.1
    refine ⟨hn, e.lv x hx.1, ?_⟩
    have hne : T.pos x ≠ i := fun e2 => hx.2 (pos_inj h hn (y := -m) (by rw [Int.neg_neg]; exact hml) (by rw [pos_neg, hpm, e2]))
    omega
   ·rcases hr x hx with hxm | hxp
    ·exact absurd (by rw [hxm]) h2
    ·exact ⟨hxp.1, h3, hxp.2⟩
  refine ⟨fun x hx => (hmem x hx).1, fun x hx => (hmem x hx).2.1, addAll_cnt h (drop_cnt h e.cnt hml hc.2 hd) fun x hx => ?_, ?_, fun _ x hx => (hmem x hx).2.2⟩
  ·rcases hr x hx with hxm | hxp
   ·exact .inl (by rw [hxm])
   ·exact .inr hxp.1
  ·have := addAll_now T m.natAbs (T.reasonOf (m.natAbs : Nat)) (A.drop (-m))
   have e2 : (A.drop (-m)).now = A.now - 1 := rfl
   omega
 ·rename_i hc
  refine ⟨e.neg, e.lv, e.cnt, e.one, fun h1 x hx => ?_⟩
  have hp := e.low h1 x hx
  have hne : T.pos x ≠ i := fun e2 => hc ⟨h1, by
   have : x = -m := pos_inj h (e.neg x hx) (y := -m) (by rw [Int.neg_neg]; exact hml) (by rw [pos_neg, hpm, e2])
   rw [← this]; exact hx⟩
  omega
theorem run_take (T : Tr) (A : An) (k : Nat) : A.run T = ((T.lits.take k).reverse).foldl (An.back T) (((T.lits.drop k).reverse).foldl (An.back T) A) := by
 unfold An.run
 conv => lhs; rw [← List.take_append_drop k T.lits]
 rw [List.reverse_append, List.foldl_append]
theorem Inv.runs {T : Tr} (h : T.WF) {A : An} (e : Inv T T.lits.length A) : ∀ k, k ≤ T.lits.length → Inv T (T.lits.length - k) (((T.lits.drop (T.lits.length - k)).reverse).foldl (An.back T) A) := by
 intro k
 induction k with
 | zero => intro _; simpa using e
 | succ k ih =>
  intro hk
  have ih := ih (by omega)
  have hlt : T.lits.length - (k + 1) < T.lits.length := by omega
  have e1 : T.lits.drop (T.lits.length - (k + 1)) = T.lits[T.lits.length - (k + 1)] :: T.lits.drop (T.lits.length - k) := by
   rw [List.drop_eq_getElem_cons hlt]
   congr 2
   omega
  rw [e1, List.reverse_cons, List.foldl_append]
  refine Inv.back h ?_ (List.getElem?_eq_getElem hlt)
  rw [show T.lits.length - (k + 1) + 1 = T.lits.length - k by omega]
  exact ih
theorem Inv.finish {T : Tr} (h : T.WF) {A : An} (e : Inv T T.lits.length A) : Inv T 0 (A.run T) ∧ (A.run T).now = 1 := by
 have := e.runs h T.lits.length (Nat.le_refl _)
 rw [Nat.sub_self, List.drop_zero] at this
 have hr : A.run T = T.lits.reverse.foldl (An.back T) A := rfl
 rw [← hr] at this
 refine ⟨this, ?_⟩
 have h1 := this.one
 refine Classical.byContradiction fun hne => ?_
 have hpos : 0 < cntNow T (A.run T) := by have := this.cnt; omega
 unfold cntNow at hpos
 obtain ⟨m', hm', hp⟩ := List.countP_pos_iff.1 hpos
 simp only [Bool.and_eq_true] at hp
 have := this.low (by omega) (-m') hp.1
 have := (pos_lt h (x := -m') (by rw [Int.neg_neg]; exact hm')).1
 omega
end
section
open Go.RowKit Go.Maps
theorem lkeyed_int : Keyed Tryz.prog 3 := int_keyed Tryz.underlying3
theorem zero_unit (w : World) : (zeroValue 186).run Tryz.prog w = .ok (.agg #[]) w := by kernel_rfl
theorem lzero_num (w : World) : (zeroValue 3).run Tryz.prog w = .ok (.int .i64 0) w := by kernel_rfl
theorem li64_wf {x : Int} (h : I64 x) : (Lit.int .i64 x).wf = true := by
 unfold I64 at h
 simp [Lit.wf, IntKind.min, IntKind.max, IntKind.signed, IntKind.bits]
 omega
theorem lkey_num {x : Int} (h : I64 x) : keyOf Tryz.prog 3 (.int .i64 x) = some (.int .i64 x) := keyOf_int_mk Tryz.underlying3 (li64_wf h)
theorem lnum_key {x : Int} (h : I64 x) : WideAt.IsKeyLit (.int .i64 x) := lkeyed_int.key (lkey_num h)
theorem lnum_ne {x y : Int} (h : x ≠ y) : (Lit.int .i64 x) ≠ .int .i64 y := fun e => h (by injection e)
def SetIs (w : World) (b n : Nat) (S : Int → Bool) : Prop := ∃ D : DataW Unit, w.ownsMap Tryz.prog 3 unitElem b n D ∧ ∀ x, I64 x → Maps.has D (.int .i64 x) = S x
theorem SetIs.of_block {w w' : World} {b n : Nat} {S : Int → Bool} (h : SetIs w b n S) (hb : w'.heap[b]? = w.heap[b]?) : SetIs w' b n S := by
 obtain ⟨D, ⟨es, clock, hm, r⟩, hS⟩ := h
 exact ⟨D, ⟨es, clock, hb.trans hm, r⟩, hS⟩
theorem SetIs.lt {w : World} {b n : Nat} {S : Int → Bool} (h : SetIs w b n S) : b < w.heap.size := by
 obtain ⟨D, h, _⟩ := h
 exact h.lt
theorem grown_mod {w w' : World} {b : Nat} (h : w.grownBy w' (some b)) : Mod (fun g => g = b) w w' :=
 ⟨h.os, h.tape, h.output, h.size, fun k hk hb => h.block k hk (fun e => hb (by injection e))⟩
theorem SetIs.more {w : World} {b n n' : Nat} {S : Int → Bool} (h : SetIs w b n S) (hn : n ≤ n') : SetIs w b n' S := by
 obtain ⟨D, h, hS⟩ := h
 exact ⟨D, h.mono hn, hS⟩
theorem SetIs.put {w w' : World} {b n : Nat} {S : Int → Bool} {D : DataW Unit} {l : Int} {d : DataW Unit} (h : w.ownsMap Tryz.prog 3 unitElem b n D) (hS : ∀ x, I64 x → Maps.has D (.int .i64 x) = S x) (hl : I64 l) (h' : w'.ownsMap Tryz.prog 3 unitElem b (n + 1) (D.put (.int .i64 l) d)) :
  SetIs w' b (n + 1) (fun x => S x || decide (x = l)) := by
 refine ⟨_, h', fun x hx => ?_⟩
 by_cases e : x = l
 ·subst e
  rw [has_put_same h.isMap (lnum_key hl)]
  simp
 ·rw [has_put_other (lnum_ne e), hS x hx]
  simp [e]
theorem SetIs.del {w' : World} {b n : Nat} {S : Int → Bool} {D : DataW Unit} {l : Int} (hS : ∀ x, I64 x → Maps.has D (.int .i64 x) = S x) (h' : w'.ownsMap Tryz.prog 3 unitElem b n (D.del (.int .i64 l))) :
  SetIs w' b n (fun x => S x && !decide (x = l)) := by
 refine ⟨_, h', fun x hx => ?_⟩
 by_cases e : x = l
 ·subst e
  rw [has_del_same]
  simp
 ·rw [has_del_other (lnum_ne e), hS x hx]
  simp [e]
theorem owns_block {w w' : World} {b n : Nat} {D : DataW Unit} (h : w.ownsMap Tryz.prog 3 unitElem b n D) (hb : w'.heap[b]? = w.heap[b]?) : w'.ownsMap Tryz.prog 3 unitElem b n D := by
 obtain ⟨es, clock, hm, r⟩ := h
 exact ⟨es, clock, hb.trans hm, r⟩
def PosIs (w : World) (b n : Nat) (T : Tr) : Prop := ∃ D : DataW Unit, w.ownsMap Tryz.prog 3 (plainElem Tryz.prog 3) b n D ∧ ∀ m, m ∈ T.lits → D.atKey (.int .i64 (m.natAbs : Nat)) (.lit (.int .i64 0)) = .lit (.int .i64 (T.pos m))
theorem PosIs.of_block {w w' : World} {b n : Nat} {T : Tr} (h : PosIs w b n T) (hb : w'.heap[b]? = w.heap[b]?) : PosIs w' b n T := by
 obtain ⟨D, ⟨es, clock, hm, r⟩, hS⟩ := h
 exact ⟨D, ⟨es, clock, hb.trans hm, r⟩, hS⟩
theorem PosIs.lt {w : World} {b n : Nat} {T : Tr} (h : PosIs w b n T) : b < w.heap.size := by
 obtain ⟨D, h, _⟩ := h
 exact h.lt
structure AnAt (w : World) (a ma ms tb nm ns : Nat) (T : Tr) (A : An) : Prop where
 blk : w.heap[a]? = some (.cells #[.map (some ma), .func (.method "Level") #[.iface 25 (.pointer (some ⟨tb, 0, none⟩))] #[], .func (.method "Reason") #[.iface 25 (.pointer (some ⟨tb, 0, none⟩))] #[], .int .i64 T.depth, .map (some ms), .int .i64 A.now] 185 (0, 0))
 pos : PosIs w ma nm T
 set : SetIs w ms ns A.set
 ne : ma ≠ ms
theorem AnAt.below {w w' : World} {a ma ms tb nm ns : Nat} {T : Tr} {A : An} (e : AnAt w a ma ms tb nm ns T A) (m : Below w.heap.size w w') : AnAt w' a ma ms tb nm ns T A :=
 ⟨(m.block a (lt_of_block e.blk)).trans e.blk, e.pos.of_block (m.block ma e.pos.lt), e.set.of_block (m.block ms e.set.lt), e.ne⟩
theorem liw' {k : Int} (h1 : -9223372036854775808 ≤ k) (h2 : k ≤ 9223372036854775807) : IntKind.i64.wrap k = k := (IntWalk.i64_left _).trans (IntWalk.wrap64_in _ ⟨by omega, by omega⟩)
theorem box6 {w : World} {b : Nat} {x0 x1 x2 x3 x4 x5 : Value} {e : TypeId} (h : w.heap[b]? = some (.cells #[x0, x1, x2, x3, x4, x5] e (0, 0))) :
  w.cell? ⟨b, 0, none⟩ = some x0 ∧ w.cell? ⟨b, 1, none⟩ = some x1 ∧ w.cell? ⟨b, 2, none⟩ = some x2 ∧ w.cell? ⟨b, 3, none⟩ = some x3 ∧ w.cell? ⟨b, 4, none⟩ = some x4 ∧ w.cell? ⟨b, 5, none⟩ = some x5 ∧ w.frozen? ⟨b, 5, none⟩ = false :=
 ⟨(cell_of_row w b 0 _ _ _ h).trans rfl, (cell_of_row w b 1 _ _ _ h).trans rfl, (cell_of_row w b 2 _ _ _ h).trans rfl, (cell_of_row w b 3 _ _ _ h).trans rfl, (cell_of_row w b 4 _ _ _ h).trans rfl, (cell_of_row w b 5 _ _ _ h).trans rfl, frozen_of_row w b 5 _ _ h⟩
theorem meth_level (tb : Nat) (w : World) : (method 326 25 (.pointer (some ⟨tb, 0, none⟩)) "Level").run Tryz.prog w = .ok (113, .pointer (some ⟨tb, 0, none⟩)) w := by kernel_rfl
theorem an_count {w : World} {a ma ms tb nm ns : Nat} {T : Tr} {k : Int} {A' : An}
  (hb : w.heap[a]? = some (.cells #[.map (some ma), .func (.method "Level") #[.iface 25 (.pointer (some ⟨tb, 0, none⟩))] #[], .func (.method "Reason") #[.iface 25 (.pointer (some ⟨tb, 0, none⟩))] #[], .int .i64 T.depth, .map (some ms), .int .i64 k] 185 (0, 0)))
  (hp : PosIs w ma nm T) (hs : SetIs w ms ns A'.set) (hn : ma ≠ ms) : AnAt (w.setCell ⟨a, 5, none⟩ (.int .i64 A'.now)) a ma ms tb nm ns T A' := by
 refine ⟨heap_setCell_same _ a 5 _ _ _ hb, hp.of_block (Below.heap_setCell _ _ _ _ fun e => ?_), hs.of_block (Below.heap_setCell _ _ _ _ fun e => ?_), hn⟩
 ·obtain ⟨_, ⟨_, _, hm, _⟩, _⟩ := hp
  rw [show ma = a from e, hb] at hm
  cases hm
 ·obtain ⟨_, ⟨_, _, hm, _⟩, _⟩ := hs
  rw [show ms = a from e, hb] at hm
  cases hm
theorem AnAt.stay {w w' : World} {a ma ms tb nm ns ns' : Nat} {T : Tr} {A : An} (e : AnAt w a ma ms tb nm ns T A) (m : Below w.heap.size w w') (h : ns ≤ ns') : AnAt w' a ma ms tb nm ns' T A := by
 have := e.below m
 exact ⟨this.blk, this.pos, this.set.more h, this.ne⟩
set_option maxRecDepth 100000 in
set_option maxHeartbeats 4000000 in
theorem add_any {w : World} {Ft G : Nat → Prop} {a ma ms tb nm ns n c : Nat} {R : Option Addr} {T : Tr} {A : An} {ls : List Int} {ex : Int} (e : AnAt w a ma ms tb nm ns T A) (ht : Trail w Ft tb T) (hta : ¬ Ft a) (hts : ¬ Ft ms)
  (hr : Rd w G 1 (.slice R n c) n (ints ls)) (hG : ∀ g, G g → g ≠ a ∧ g ≠ ms) (hc : Cn T A) (hl : ∀ l ∈ ls, (l.natAbs : Int) = ex ∨ -l ∈ T.lits) (hb : ∀ l ∈ ls, -65536 ≤ l ∧ l ≤ 65536) (hns : ns + ls.length ≤ 1000000) :
  Calls Tryz.prog 115 #[.pointer (some ⟨a, 0, none⟩), .slice R n c, .int .i64 ex] w fun r w' => r = .returned (.tuple #[]) ∧ AnAt w' a ma ms tb nm (ns + ls.length) T (A.addAll T ex ls) ∧ Mod (fun g => g = a ∨ g = ms) w w' := by
 have hln : ls.length = n := by have := hr.1; simpa [ints_length] using this
 have hn6 : n ≤ 1000000 := by omega
 have hncap : (n : Int) ≤ (c : Int) := by
  obtain ⟨_, A2, c2, hv2, h2, _⟩ := hr
  injection hv2 with _ _ h3
  omega
 have E0 := hid e
 have Ht := hid ht
 have Hwf := hid ht.wf
 have Hr := hid hr
 have HG := hid hG
 have Hc := hid hc
 have Hl := hid hl
 have Hb := hid hb
 have Hln := hid hln
 have hlt0 := lt_of_block e.blk
 have hms := e.set.lt
 clear e ht hr hG hc hl hb hln
 go_enter Tryz.func115, Tryz.ntmps115
 go_wp2_with fail
 go_loopw [13] (fun jv W => ∃ j : Nat, j ≤ n ∧ jv = .int .i64 j ∧ Hid (AnAt W a ma ms tb nm (ns + j) T (A.addAll T ex (ls.take j))) ∧ Hid (Mod (fun g => g = a ∨ g = ms) w W)) (fun jv _ => n - (intOf jv).toNat)
 case atStart => exact ⟨0, by omega, rfl, E0, Mod.refl _ _⟩
 case round =>
  obtain ⟨j, hj, rfl, E1, M1⟩ := hrel
  by_cases hlt : j < n
  ·have x1 : (j : Int) < (n : Int) := by omega
   obtain ⟨l, hlj⟩ : ∃ l, nth ls j = l := ⟨_, rfl⟩
   have hmem : l ∈ ls := by rw [← hlj]; exact nth_mem (by have := Hln.o; omega)
   obtain ⟨hb1, hb2⟩ := Hb.o l hmem
   obtain ⟨D, hown, hD⟩ := E1.o.set
   have hkey : keyOf Tryz.prog 3 (.int .i64 l) = some (.int .i64 l) := lkey_num (by unfold I64; omega)
   obtain ⟨c0, c1, c2, c3, c4, c5, f5⟩ := box6 E1.o.blk
   obtain ⟨g, o, rfl, hg, _, e0⟩ := (Hr.o.mod M1.o fun g _ hg hf => by have := HG.o g hg; omega).cell.2 j hlt
   rw [hlj] at e0
   have T1 := hid (Ht.o.mod M1.o fun g _ hg hf => hf.elim (fun e => hta (e ▸ hg)) (fun e => hts (e ▸ hg)))
   obtain ⟨v, hv⟩ : ∃ v, l.natAbs = v := ⟨_, rfl⟩
   have hmx : (if l < -l then -l else l) = (v : Int) := by split <;> omega
   have hsz := M1.o.size
   have na : (a = wr.heap.size) = False := by simp; omega
   have na' : (wr.heap.size = a) = False := by simp; omega
   have hwn : IntKind.i64.wrap (-l) = -l := liw' (by omega) (by omega)
   have hnx : (A.addAll T ex (ls.take (j + 1))) = An.one T ex (A.addAll T ex (ls.take j)) l := by
    have : ls.take (j + 1) = ls.take j ++ [l] := by rw [take_nth (by have := Hln.o; omega), hlj]
    rw [this, An.addAll_snoc]
   have Hnx := hid hnx
   obtain ⟨A1, hA1⟩ : ∃ A1, A.addAll T ex (ls.take j) = A1 := ⟨_, rfl⟩
   rw [hA1] at E1 Hnx
   simp only [hA1] at hD
   have HA1 := hid hA1
   clear hA1
   have hDl := hD l (by unfold I64; omega)
   have HD := hid hD
   have Hown := hid hown
   clear hnx hD hown hlj E0
   have hm1 := hid (meth_level tb)
   have hlm := meth_level tb
   have BA : Below wr.heap.size wr (wr.alloc (.cells #[] 186)) := (Below.refl _ _).alloc (Nat.le_refl _) _
   have hcl := Hl.o l hmem
   have Hcl := hid hcl
   have M2 : Hid (Mod (fun g => g = a ∨ g = ms) w (wr.alloc (.cells #[] 186))) := M1.o.alloc _
   clear hcl hm1
   cases q1 : A1.set l
   ·rw [q1] at hDl
    cases q2 : ((v : Int) == ex)
    ·obtain ⟨lv, hlv⟩ : ∃ lv, T.levelOf (v : Int) = lv := ⟨_, rfl⟩
     have hlv2 : T.lvOf l = lv := by unfold Tr.lvOf; rw [hv]; exact hlv
     cases q3 : (lv == 0)
     ·have hone : Hid (An.one T ex A1 l = ⟨fun x => A1.set x || decide (x = l), if lv = T.depth then A1.now + 1 else A1.now⟩) := by
       unfold An.one
       rw [if_neg (by rw [hlv2, hv, q1]; simp only [not_or]; exact ⟨by simp, by simpa using q2, by simpa using q3⟩), hlv2]
       exact hid rfl
      go_wp2_with (at_lookup; refine wpList_lookup_own_unit _ rfl _ _ 183 rfl 3 186 lkeyed_int Tryz.underlying183 (zero_unit _) ms _ D rfl Hown.o _ _ rfl hkey ?_)
      refine (level_any (T1.o.below BA)).mono ?_
      rintro r w2 ⟨rfl, b2⟩
      rw [hlv]
      have B2 : Below wr.heap.size wr w2 := BA.trans (b2.mono (by simp))
      have E2 := E1.o.below B2
      have hown2 := owns_block Hown.o (B2.block ms E1.o.set.lt)
      obtain ⟨d0, d1, d2, d3, d4, d5, _⟩ := box6 E2.blk
      have Hpos := hid E2.pos
      have Hne := E2.ne
      have hlt2 := lt_of_block E2.blk
      have Hblk := hid E2.blk
      go_wp2_with (at_mapUpdate; refine wpList_mapUpdate_own _ rfl _ _ _ 183 rfl 3 186 lkeyed_int Tryz.underlying183 (unitElem (H := Unit)) ms _ D rfl hown2 (by unfold maxLen; omega) _ _ _ rfl rfl hkey _ [] unitElem_mk ?_; intro w3 hown3 hgrow3)
      have M3 : Mod (fun g => g = ms) w2 w3 := grown_mod hgrow3
      have hams : a ≠ ms := fun e => by
       obtain ⟨_, _, hm, _⟩ := hown2
       rw [← e, Hblk.o] at hm
       cases hm
      have G3 : w3.heap[a]? = _ := (M3.block a hlt2 hams).trans Hblk.o
      have S3 : Hid (SetIs w3 ms (ns + j + 1) (fun x => A1.set x || decide (x = l))) := SetIs.put hown2 HD.o (by unfold I64; omega) hown3
      have P3 : Hid (PosIs w3 ma nm T) := Hpos.o.of_block (M3.block ma Hpos.o.lt Hne)
      have T3 := hid ((T1.o.below B2).mod M3 fun g _ hg hf => hts (hf ▸ hg))
      have N3 : Hid (Mod (fun g => g = a ∨ g = ms) w w3) := (M2.o.trans (Mod.of_below b2)).trans (M3.mono fun g _ hg => .inl (.inr hg))
      have s3 := M3.size
      clear c0 c1 c2 c3 c4 c5 f5 d0 d1 d2 d3 d4 d5 hown2 hown3 hgrow3 E2 BA b2 M3
      obtain ⟨c0, c1, c2, c3, c4, c5, f5⟩ := box6 G3
      have hlt3 := lt_of_block G3
      have HG3 := hid G3
      go_wp2_with fail
      go_region_held3 (fun w' => w'.cell? ⟨a, 1, none⟩ = some (.func (.method "Level") #[.iface 25 (.pointer (some ⟨tb, 0, none⟩))] #[]) ∧ w'.cell? ⟨a, 3, none⟩ = some (.int .i64 T.depth))
       (first | go_keep | exact ⟨(b4.cell (p := ⟨a, 1, none⟩) (by simp; omega)).trans c1, (b4.cell (p := ⟨a, 3, none⟩) (by simp; omega)).trans c3⟩)
       ((go_at_call 113; refine (level_any T3.o.drew).mono ?_; rintro r w4 ⟨rfl, b4⟩))
      have B4 : Below w3.heap.size w3 w4 := (Below.refl _ _).drew.trans b4
      have G4 := (B4.block a hlt3).trans HG3.o
      have S4 : Hid (SetIs w4 ms (ns + j + 1) (fun x => A1.set x || decide (x = l))) := S3.o.of_block (B4.block ms S3.o.lt)
      have P4 : Hid (PosIs w4 ma nm T) := P3.o.of_block (B4.block ma P3.o.lt)
      have N4 : Hid (Mod (fun g => g = a ∨ g = ms) w w4) := N3.o.trans (Mod.of_below B4)
      clear c0 c1 c2 c3 c4 c5 f5 S3 P3 N3 b4 T3 G3 HG3
      obtain ⟨c0, c1, c2, c3, c4, c5, f5⟩ := box6 G4
      have HG4 := hid G4
      have hlt4 := lt_of_block G4
      clear G4
      cases q4 : (lv == (T.depth : Int))
      ·have hd : ¬ lv = T.depth := by simpa using q4
       rw [if_neg hd] at hone
       have hone := hid hone
       go_wp2_with fail
       go_roundw
       case rel => exact ⟨j + 1, by omega, by go_num, by rw [Hnx.o, hone.o.o]; exact ⟨HG4.o, P4.o, S4.o, Hne⟩, N4⟩
       case measure => simp [intOf]; omega
      ·have hd : lv = T.depth := by simpa using q4
       rw [if_pos hd] at hone
       have hone := hid hone
       have hcn := (Cn.addAll (ls := ls.take j) Hwf.o Hc.o fun x hx => Hl.o x (List.mem_of_mem_take hx))
       rw [HA1.o] at hcn
       have hc1 := hcn.lo
       have hc2 := hcn.hi
       have hc3 := cntNow_le T A1
       have hc4 := Hwf.o.len
       have hc5 := Hwf.o.vars
       have hc6 : T.lits.length = T.L.length := by simp [Tr.lits]
       have hwp : IntKind.i64.wrap (A1.now + 1) = A1.now + 1 := liw' (by omega) (by omega)
       clear hd
       go_wp2_with fail
       go_roundw
       case rel =>
        refine ⟨j + 1, by omega, by go_num, ?_, N4.o.setCell (p := ⟨a, 5, none⟩) (.inl (.inl rfl)) _⟩
        rw [Hnx.o, hone.o.o]
        exact an_count (A' := ⟨fun x => A1.set x || decide (x = l), A1.now + 1⟩) HG4.o P4.o S4.o Hne
       case measure => simp [intOf]; omega
     ·have hone : Hid (An.one T ex A1 l = A1) := by
       unfold An.one
       rw [if_pos (.inr (.inr (by rw [hlv2]; simpa using q3)))]
       exact hid rfl
      go_wp2_with (at_lookup; refine wpList_lookup_own_unit _ rfl _ _ 183 rfl 3 186 lkeyed_int Tryz.underlying183 (zero_unit _) ms _ D rfl Hown.o _ _ rfl hkey ?_)
      refine (level_any (T1.o.below BA)).mono ?_
      rintro r w2 ⟨rfl, b2⟩
      rw [hlv]
      go_wp2_with fail
      go_roundw
      case rel => exact ⟨j + 1, by omega, by go_num, by rw [Hnx.o, hone.o]; exact E1.o.stay (BA.trans (b2.mono (by simp))) (by omega), M2.o.trans (Mod.of_below b2)⟩
      case measure => simp [intOf]; omega
    ·have hone : Hid (An.one T ex A1 l = A1) := by
      unfold An.one
      rw [if_pos (.inr (.inl (by rw [hv]; simpa using q2)))]
      exact hid rfl
     go_wp2_with (at_lookup; refine wpList_lookup_own_unit _ rfl _ _ 183 rfl 3 186 lkeyed_int Tryz.underlying183 (zero_unit _) ms _ D rfl Hown.o _ _ rfl hkey ?_)
     go_roundw
     case rel => exact ⟨j + 1, by omega, by go_num, by rw [Hnx.o, hone.o]; exact E1.o.stay BA (by omega), M2⟩
     case measure => simp [intOf]; omega
   ·rw [q1] at hDl
    have hone : Hid (An.one T ex A1 l = A1) := by
     unfold An.one
     rw [if_pos (.inl q1)]
     exact hid rfl
    go_wp2_with (at_lookup; refine wpList_lookup_own_unit _ rfl _ _ 183 rfl 3 186 lkeyed_int Tryz.underlying183 (zero_unit _) ms _ D rfl Hown.o _ _ rfl hkey ?_)
    go_roundw
    case rel => exact ⟨j + 1, by omega, by go_num, by rw [Hnx.o, hone.o]; exact E1.o.stay BA (by omega), M2⟩
    case measure => simp [intOf]; omega
  ·have x1 : ((j : Int) < (n : Int)) = False := by simp; omega
   have ejn : j = n := by omega
   have e : Hid (ls.take j = ls) := hid (List.take_of_length_le (by have := Hln.o; omega))
   rw [e.o] at E1
   go_wp2_with fail
   go_end0
   exact ⟨rfl, by rw [Hln.o, ← ejn]; exact E1.o, M1.o⟩
end
end Go.Proofs.YtcjmpobccbnpkaaGreat
