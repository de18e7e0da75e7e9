/-
  The plain laws of LearnTurned, LearnErrs and LearnAsserts.
-/
import Derived.Test.YtanhacdadgbjdaaLnC
namespace Go.Proofs.Ytanhacdadgbjdaa
open Go.RowKit

/-! ### plain -/
theorem Tr.level_of {T : Tr} (h : T.WF) {i : Nat} {e : Ent} (he : T.L[i]? = some e) : T.levelOf e.v = e.level := by
  simp [Tr.levelOf, h.idx he, he]
theorem level_le {T : Tr} (h : T.WF) {i : Nat} {e : Ent} (he : T.L[i]? = some e) : e.level ≤ T.starts.length := by
  rw [h.level i e he]; exact List.length_filter_le _ _
theorem level_lt {T : Tr} (h : T.WF) {i K : Nat} {e : Ent} (he : T.L[i]? = some e) (hK : K < T.starts.length) : e.level ≤ K ↔ i < T.starts[K] := by
  rw [h.level i e he]
  have e1 : T.starts = T.starts.take K ++ T.starts.drop K := (List.take_append_drop K T.starts).symm
  have e3 : T.starts.drop K = T.starts[K] :: T.starts.drop (K + 1) := List.drop_eq_getElem_cons hK
  constructor
  · intro hle
    rcases Nat.lt_or_ge i T.starts[K] with hlt | hge
    · exact hlt
    · exfalso
      have h1 : (T.starts.filter (· ≤ i)).length ≥ K + 1 := by
        rw [e1, List.filter_append, List.length_append, e3, List.filter_cons, if_pos (by simpa using hge)]
        have : ((T.starts.take K).filter (· ≤ i)) = T.starts.take K := List.filter_eq_self.2 fun s hs => by
          obtain ⟨j, hj, rfl⟩ := List.mem_take_iff_getElem.1 hs
          have := pairwise_get h.starts (show j < K by omega) hK
          simp; omega
        rw [this]
        simp
        omega
      omega
  · intro hlt
    have h2 : (T.starts.drop K).filter (· ≤ i) = [] := by
      rw [List.filter_eq_nil_iff]
      intro s hs
      obtain ⟨j, hj, rfl⟩ := List.mem_drop_iff_getElem.1 hs
      rcases Nat.eq_zero_or_pos j with h0 | h0
      · subst h0; simp; omega
      · have := pairwise_get h.starts (show K < K + j by omega) (show K + j < T.starts.length by omega)
        simp; omega
    rw [e1, List.filter_append, h2, List.append_nil]
    have := List.length_filter_le (fun x => decide (x ≤ i)) (T.starts.take K)
    simp at this
    omega
/-- The literals of the levels up to K. -/
def Tr.upto (T : Tr) (K : Nat) : Int → Bool := fun l => Decidable.decide (T.levelOf l.natAbs ≤ K)
theorem filter_take_of {α : Type} (p : α → Bool) : ∀ (l : List α) (n : Nat), (∀ i x, l[i]? = some x → (p x = true ↔ i < n)) → l.filter p = l.take n
  | [], n, _ => by simp
  | x :: l, n, h => by
    have h0 := h 0 x rfl
    cases n with
    | zero =>
      rw [List.take_zero, List.filter_eq_nil_iff]
      intro y hy hp
      obtain ⟨i, hi, rfl⟩ := List.mem_iff_getElem.1 hy
      have := (h i _ (List.getElem?_eq_getElem hi)).1 hp
      omega
    | succ n =>
      rw [List.filter_cons, if_pos (h0.2 (by omega)), List.take_succ_cons, filter_take_of p l n fun i y hy => by
        have := h (i + 1) y (by simpa using hy)
        rw [this]; omega]
theorem Tr.back_lits {T : Tr} (h : T.WF) (K : Nat) : (T.back K).lits = T.lits.filter (T.upto K) := by
  have key : ∀ (i : Nat) (l : Int), T.lits[i]? = some l → (T.upto K l = true ↔ ∃ e : Ent, T.L[i]? = some e ∧ e.level ≤ K) := by
    intro i l hl
    simp only [Tr.lits, List.getElem?_map, Option.map_eq_some_iff] at hl
    obtain ⟨e, he, rfl⟩ := hl
    have h1 : T.levelOf (e.lit.natAbs : Nat) = e.level := Tr.level_of h he
    simp only [Tr.upto, h1, decide_eq_true_eq]
    constructor
    · intro h2; exact ⟨e, he, by omega⟩
    · rintro ⟨f, hf, hle⟩
      rw [he] at hf
      obtain rfl := Option.some.inj hf
      omega
  unfold Tr.back
  split
  · rename_i hK
    rw [Tr.undo_at hK]
    rw [filter_take_of (T.upto K) T.lits T.starts[K] fun i l hl => by
      rw [key i l hl]
      constructor
      · rintro ⟨e, he, hle⟩
        exact (level_lt h he hK).1 hle
      · intro hlt
        have hi : i < T.L.length := by have := (List.getElem?_eq_some_iff.1 hl).1; simpa [Tr.lits] using this
        exact ⟨T.L[i], by simp [hi], (level_lt h (by simp [hi]) hK).2 hlt⟩]
    simp [Tr.lits]
  · rename_i hK
    rw [List.filter_eq_self.2]
    intro l hl
    obtain ⟨i, hi, rfl⟩ := List.mem_iff_getElem.1 hl
    have hi' : i < T.L.length := by simpa [Tr.lits] using hi
    rw [key i _ (List.getElem?_eq_getElem hi)]
    have := level_le h (show T.L[i]? = some T.L[i] by simp [hi'])
    exact ⟨T.L[i], by simp [hi'], by omega⟩

/-! ### LearnTurned -/
theorem An.same {A B : An} (h1 : ∀ x, A.set x = true ↔ B.set x = true) (h2 : A.now = B.now) : A = B := by
  obtain ⟨s, n⟩ := A
  obtain ⟨s', n'⟩ := B
  have e1 : s = s' := funext fun x => Bool.eq_iff_iff.2 (h1 x)
  have e2 : n = n' := h2
  rw [e1, e2]
theorem addAll_same {T : Tr} (h : T.WF) {cs ds : List Int} (h1 : ∀ l ∈ cs, -l ∈ T.lits) (h2 : ∀ l ∈ ds, -l ∈ T.lits) (hm : ∀ x, T.lvOf x ≠ 0 → (x ∈ cs ↔ x ∈ ds)) : An.addAll T 0 An.fresh cs = An.addAll T 0 An.fresh ds := by
  have e1 : ∀ x, (An.addAll T 0 An.fresh cs).set x = true ↔ (An.addAll T 0 An.fresh ds).set x = true := fun x => by
    rw [addAll_set, addAll_set]
    constructor
    · rintro (hx | ⟨hx, a, b⟩)
      · exact .inl hx
      · exact .inr ⟨(hm x b).1 hx, a, b⟩
    · rintro (hx | ⟨hx, a, b⟩)
      · exact .inl hx
      · exact .inr ⟨(hm x b).2 hx, a, b⟩
  refine An.same e1 ?_
  have c0 : (An.fresh).now = cntNow T An.fresh := by simp [An.fresh, cntNow]
  rw [addAll_cnt h c0 fun l hl => .inr (h1 l hl), addAll_cnt h c0 fun l hl => .inr (h2 l hl)]
  have : cntNow T (An.addAll T 0 An.fresh cs) = cntNow T (An.addAll T 0 An.fresh ds) := by
    unfold cntNow
    refine List.countP_congr fun x _ => ?_
    rw [Bool.eq_iff_iff.2 (e1 (-x))]
  rw [this]
theorem value_of_neg {T : Tr} (h : T.WF) {l : Int} (hl : -l ∈ T.lits) : T.value l = -1 := by
  obtain ⟨i, e, he, hel⟩ := Tr.mem_lits.1 hl
  have h1 : ¬ l ∈ T.lits := fun hm => by
    obtain ⟨j, f, hf, hfl⟩ := Tr.mem_lits.1 hm
    have := h.uniq he hf (by unfold Ent.v; omega)
    subst this
    rw [he] at hf
    have := Option.some.inj hf
    subst this
    have := (h.lit e (List.mem_of_getElem? he)).1
    omega
  simp [Tr.value, h1, hl]
theorem okFor_same {T : Tr} (h : T.WF) {cs ds : List Int} (h1 : ∀ l ∈ cs, -l ∈ T.lits) (h2 : ∀ l ∈ ds, -l ∈ T.lits) (hm : ∀ x, T.lvOf x ≠ 0 → (x ∈ cs ↔ x ∈ ds)) : okFor T cs = okFor T ds := by
  have key : ∀ ls : List Int, (∀ l ∈ ls, -l ∈ T.lits) → (okFor T ls = true ↔ (∃ l ∈ ls, T.lvOf l = T.depth) ∧ T.depth ≠ 0) := fun ls hls => by
    unfold okFor
    simp only [Bool.and_eq_true, List.all_eq_true, List.any_eq_true, decide_eq_true_eq]
    constructor
    · exact fun x => ⟨x.1.2, x.2⟩
    · exact fun x => ⟨⟨fun l hl => value_of_neg h (hls l hl), x.1⟩, x.2⟩
  rw [Bool.eq_iff_iff, key cs h1, key ds h2]
  constructor
  · rintro ⟨⟨l, hl, hd⟩, h0⟩
    exact ⟨⟨l, (hm l (by omega)).1 hl, hd⟩, h0⟩
  · rintro ⟨⟨l, hl, hd⟩, h0⟩
    exact ⟨⟨l, (hm l (by omega)).2 hl, hd⟩, h0⟩

/-! ### LearnErrs -/
theorem okFor_nil (T : Tr) : okFor T [] = false := by simp [okFor]
theorem okFor_bad {T : Tr} {cs : List Int} {l : Int} (h : T.value l ≠ -1) : okFor T (cs ++ [l]) = false := by
  simp [okFor, h]
theorem okFor_low {T : Tr} {cs : List Int} (h : ∀ l ∈ cs, T.lvOf l < T.depth) : okFor T cs = false := by
  have : cs.any (fun l => decide (T.lvOf l = T.depth)) = false := by
    rw [List.any_eq_false]
    intro l hl
    have := h l hl
    simp; omega
  simp [okFor, this]

/-! ### LearnAsserts -/
/-- What Learn's clause is: its first literal alone has the current level. -/
theorem learnt_form {T : Tr} (h : T.WF) {cs : List Int} (hok : okFor T cs = true) : ∃ c rest, T.learnt cs = c :: rest ∧ -c ∈ T.lits ∧ T.lvOf c = T.depth ∧
    (∀ x ∈ rest, -x ∈ T.lits ∧ 1 ≤ T.lvOf x ∧ T.lvOf x < T.depth) ∧ (c :: rest).Pairwise (fun x y => T.pos y < T.pos x) := by
  obtain ⟨e, h1⟩ := (Inv.start h hok).finish h
  have hl : T.learnt cs = T.sorted ((An.addAll T 0 An.fresh cs).run T).set := rfl
  have hp := sorted_pairwise h ((An.addAll T 0 An.fresh cs).run T).set
  have hmem := mem_sorted_iff (T := T) e.neg
  rw [← hl] at hp hmem
  have hc := e.cnt
  rw [h1] at hc
  -- the one literal of the current level
  obtain ⟨m, hm, hpm⟩ := List.countP_pos_iff.1 (show 0 < cntNow T ((An.addAll T 0 An.fresh cs).run T) by omega)
  simp only [Bool.and_eq_true, decide_eq_true_eq] at hpm
  have huniq : ∀ x, ((An.addAll T 0 An.fresh cs).run T).set x = true → T.lvOf x = T.depth → x = -m := by
    intro x hx hd
    refine Classical.byContradiction fun hne => ?_
    have hxm := e.neg x hx
    have h2 : 2 ≤ cntNow T ((An.addAll T 0 An.fresh cs).run T) := by
      unfold cntNow
      have e1 := countP_put (lits_nodup h) (p := fun y => (((An.addAll T 0 An.fresh cs).run T).set (-y) && decide (T.lvOf y = T.depth)) && !decide (y = m)) (q := fun y => ((An.addAll T 0 An.fresh cs).run T).set (-y) && decide (T.lvOf y = T.depth)) (m := m) hm (by simp) (by simp [hpm]) (fun y hy => by simp [hy])
      have e2 : 0 < T.lits.countP (fun y => (((An.addAll T 0 An.fresh cs).run T).set (-y) && decide (T.lvOf y = T.depth)) && !decide (y = m)) := by
        refine List.countP_pos_iff.2 ⟨-x, hxm, ?_⟩
        have : ¬ -x = m := fun e3 => hne (by omega)
        simp [hx, lvOf_neg, hd, this]
      omega
    omega
  cases hL : T.learnt cs with
  | nil => exact absurd (hL ▸ (hmem (-m)).2 hpm.1) (by simp)
  | cons c rest =>
    rw [hL] at hp hmem
    obtain ⟨hp1, hp2⟩ := List.pairwise_cons.1 hp
    have hcs := (hmem c).1 (by simp)
    have hcm : -m = c := by
      rcases List.mem_cons.1 ((hmem (-m)).2 hpm.1) with e1 | e1
      · exact e1
      · exfalso
        have hlt := hp1 (-m) e1
        -- c lies later than m, so its level is the current one too
        obtain ⟨_, _, a⟩ := pos_lt h (e.neg c hcs)
        obtain ⟨_, _, b⟩ := pos_lt h (x := -m) (by rw [Int.neg_neg]; exact hm)
        have hle := lvOf_mono h b a (by have := (pos_lt h (x := -m) (by rw [Int.neg_neg]; exact hm)).1; omega)
        rw [Int.neg_neg, lvOf_neg] at hle
        have := (lvOf_le h (e.neg c hcs)).2
        rw [lvOf_neg] at this
        have hcm := huniq c hcs (by omega)
        rw [hcm] at hlt
        omega
    subst hcm
    refine ⟨-m, rest, rfl, by rw [Int.neg_neg]; exact hm, by rw [lvOf_neg]; exact hpm.2, fun x hx => ?_, hp⟩
    have hxs := (hmem x).1 (List.mem_cons_of_mem _ hx)
    have hxn := e.neg x hxs
    have hb := lvOf_le h hxn
    rw [lvOf_neg] at hb
    have h0 := e.lv x hxs
    have hne : T.lvOf x ≠ T.depth := fun hd => by
      have hxm := huniq x hxs hd
      have hlt := hp1 x hx
      rw [hxm] at hlt
      omega
    exact ⟨hxn, by omega, by omega⟩
theorem topLv_ge (T : Tr) : ∀ (ls : List Int) (a : Int), a ≤ ls.foldl (fun a l => max a (T.lvOf l)) a ∧ ∀ x ∈ ls, T.lvOf x ≤ ls.foldl (fun a l => max a (T.lvOf l)) a := by
  intro ls
  induction ls with
  | nil => intro a; simp
  | cons l ls ih =>
    intro a
    obtain ⟨h1, h2⟩ := ih (max a (T.lvOf l))
    simp only [List.foldl_cons]
    refine ⟨by omega, fun x hx => ?_⟩
    rcases List.mem_cons.1 hx with e | hx
    · subst e; omega
    · exact h2 x hx
theorem topLv_lt (T : Tr) (d : Int) : ∀ (ls : List Int) (a : Int), a < d → (∀ x ∈ ls, T.lvOf x < d) → ls.foldl (fun a l => max a (T.lvOf l)) a < d := by
  intro ls
  induction ls with
  | nil => intro a h _; exact h
  | cons l ls ih =>
    intro a h hl
    simp only [List.foldl_cons]
    exact ih _ (by have := hl l (by simp); omega) fun x hx => hl x (by simp [hx])
/-- Behind the return to the learned level: the first literal is free, the others are false. -/
theorem learnt_back {T : Tr} (h : T.WF) {cs : List Int} (hok : okFor T cs = true) {c : Int} {rest : List Int} (hL : T.learnt cs = c :: rest) :
    (T.back (topLv T rest).toNat).value c = 0 ∧ ∀ x ∈ rest, (T.back (topLv T rest).toNat).value x = -1 := by
  obtain ⟨c', rest', hL', hc, hd, hr, _⟩ := learnt_form h hok
  rw [hL] at hL'
  injection hL' with e1 e2
  subst e1 e2
  have hb := Tr.back_lits h (topLv T rest).toNat
  have h0 := (topLv_ge T rest 0).1
  have hlt : topLv T rest < T.depth := by
    unfold okFor at hok
    simp only [Bool.and_eq_true, decide_eq_true_eq] at hok
    exact topLv_lt T T.depth rest 0 (by omega) fun x hx => (hr x hx).2.2
  have hupc : T.upto (topLv T rest).toNat (-c) = false := by
    have : T.levelOf ((-c).natAbs : Nat) = T.depth := by rw [Int.natAbs_neg]; exact hd
    simp only [Tr.upto, this, decide_eq_false_iff_not]
    have : 0 ≤ topLv T rest := h0
    omega
  have hupc' : T.upto (topLv T rest).toNat c = false := by
    have : T.levelOf (c.natAbs : Nat) = T.depth := hd
    simp only [Tr.upto, this, decide_eq_false_iff_not]
    have : 0 ≤ topLv T rest := h0
    omega
  refine ⟨?_, fun x hx => ?_⟩
  · have n1 : ¬ c ∈ (T.back (topLv T rest).toNat).lits := fun hm => by rw [hb, List.mem_filter, hupc'] at hm; simp at hm
    have n2 : ¬ -c ∈ (T.back (topLv T rest).toNat).lits := fun hm => by rw [hb, List.mem_filter, hupc] at hm; simp at hm
    simp [Tr.value, n1, n2]
  · obtain ⟨a, b, d⟩ := hr x hx
    have hge := (topLv_ge T rest 0).2 x hx
    have m1 : -x ∈ (T.back (topLv T rest).toNat).lits := by
      rw [hb, List.mem_filter]
      refine ⟨a, ?_⟩
      have : T.levelOf ((-x).natAbs : Nat) = T.lvOf x := by rw [Int.natAbs_neg]; rfl
      simp only [Tr.upto, this, decide_eq_true_eq]
      have : T.lvOf x ≤ topLv T rest := hge
      omega
    have m2 : ¬ x ∈ (T.back (topLv T rest).toNat).lits := fun hm => by
      rw [hb, List.mem_filter] at hm
      have := value_of_neg h a
      simp [Tr.value, hm.1] at this
    simp [Tr.value, m1, m2]
theorem learnt_can {T : Tr} (h : T.WF) {cs : List Int} (hok : okFor T cs = true) {c : Int} {rest : List Int} (hL : T.learnt cs = c :: rest) :
    (T.back (topLv T rest).toNat).can c (c :: rest) = true := by
  obtain ⟨h1, h2⟩ := learnt_back h hok hL
  obtain ⟨c', rest', hL', hc, _⟩ := learnt_form h hok
  rw [hL] at hL'
  injection hL' with e1 e2
  subst e1 e2
  obtain ⟨e, he, hel⟩ := List.mem_map.1 hc
  have hle := h.lit e he
  unfold Ent.v at hle
  have hv : (T.back (topLv T rest).toNat).vars = T.vars := T.back_vars _
  have hf : (T.back (topLv T rest).toNat).freeB c = true := by
    rw [Tr.free_iff]
    exact ⟨by omega, by omega, h1⟩
  have hb : (c :: rest).any (badB (T.back (topLv T rest).toNat) c) = false := by
    rw [List.any_eq_false]
    intro x hx
    unfold badB
    rcases List.mem_cons.1 hx with e1 | e1
    · subst e1; simp
    · rw [h2 x e1]; simp
  simp [Tr.can, hf, hb]
end Go.Proofs.Ytanhacdadgbjdaa
