/-
  LearnFollows: the plain law.
-/
import Derived.Test.YtanhacdadgbjdaaLnN
namespace Go.Proofs.Ytanhacdadgbjdaa
open Go.RowKit

theorem lits_ne {T : Tr} (h : T.WF) {x : Int} (hx : x ∈ T.lits) : x ≠ 0 := by
  obtain ⟨e, he, rfl⟩ := List.mem_map.1 hx
  exact (h.lit e he).1
/-- Under V no clause is false, and none is a unit. -/
def Calm (V : Int → Int) (db : List (List Int)) : Prop := ∀ cl ∈ db, (∃ x ∈ cl, V x = 1) ∨ ∃ x ∈ cl, ∃ y ∈ cl, x ≠ y ∧ V x = 0 ∧ V y = 0
/-- What Learn replaces has a reason, and is in it. -/
theorem back_reason {T : Tr} (h : T.WF) {i : Nat} {A : An} (e : Inv T (i + 1) A) {m : Int} (hm : T.lits[i]? = some m) (h1 : 1 < A.now) (hs : A.set (-m) = true) : m ∈ T.reasonOf (m.natAbs : Nat) := by
  have hml := List.mem_of_getElem? hm
  have hd := e.level h hm h1 hs
  have hn : i ∉ T.starts := fun hi => by
    have hc := drop_cnt h e.cnt hml hs hd
    have e2 : (A.drop (-m)).now = A.now - 1 := rfl
    have hpos : 0 < cntNow T (A.drop (-m)) := by omega
    unfold cntNow at hpos
    obtain ⟨m', hm', hp⟩ := List.countP_pos_iff.1 hpos
    unfold An.drop at hp
    simp only [Bool.and_eq_true, Bool.not_eq_true', decide_eq_false_iff_not, decide_eq_true_eq] at hp
    obtain ⟨⟨hp1, hp2⟩, hp3⟩ := hp
    obtain ⟨a, b, c⟩ := pos_lt h (x := -m') (by rw [Int.neg_neg]; exact hm')
    have hlow := e.low h1 (-m') hp1
    rw [Int.neg_neg] at c
    have hne : T.pos (-m') ≠ i := fun e3 => hp2 (pos_inj h (by rw [Int.neg_neg]; exact hm') (y := -m) (by rw [Int.neg_neg]; exact hml) (by rw [e3, pos_neg, pos_at h hm]))
    have hlv := lvOf_at h c
    rw [hp3] at hlv
    have hall : (T.starts.filter (· ≤ (T.pos (-m')).toNat)).length = T.starts.length := by unfold Tr.depth at hlv; omega
    have := List.length_filter_eq_length_iff.1 hall i hi
    simp only [decide_eq_true_eq] at this
    omega
  unfold Tr.lits at hm
  rw [List.getElem?_map] at hm
  cases he : T.L[i]? with
  | none => rw [he] at hm; cases hm
  | some f =>
    rw [he] at hm
    have hm : f.lit = m := by simpa using hm
    have hidx := h.idx he
    unfold Ent.v at hidx
    rw [hm] at hidx
    unfold Tr.reasonOf
    rw [hidx]
    simp only [Option.bind_some, he]
    rw [← hm]
    exact ((h.reason i f he).2 hn).1
theorem calm_down {T : Tr} (h : T.WF) {V : Int → Int} (hn : ∀ x ∈ T.lits, V x = 1 → V (-x) = -1) (h0 : ∀ m ∈ T.lits, T.lvOf m = 0 → V m = 1) {db : List (List Int)}
    (hdb : ∀ m ∈ T.lits, T.reasonOf (m.natAbs : Nat) ≠ [] → T.reasonOf (m.natAbs : Nat) ∈ db) (hc : Calm V db) :
    ∀ (i : Nat) (A : An), i ≤ T.lits.length → Inv T i A → (∀ x, (((T.lits.take i).reverse).foldl (An.back T) A).set x = true → V x = -1) → ∀ x, A.set x = true → V x = -1 := by
  have hlow : ∀ x, -x ∈ T.lits → T.lvOf x = 0 → V x = -1 := fun x hx hl => by
    have := hn (-x) hx (h0 _ hx (by rw [lvOf_neg]; exact hl))
    rwa [Int.neg_neg] at this
  intro i
  induction i with
  | zero => intro A _ _ hV x hx; exact hV x (by simpa using hx)
  | succ i ih =>
    intro A hi e hV
    have hil : i < T.lits.length := by omega
    obtain ⟨m, hm⟩ : ∃ m, T.lits[i]? = some m := ⟨_, List.getElem?_eq_getElem hil⟩
    have hml := List.mem_of_getElem? hm
    have ht : T.lits.take (i + 1) = T.lits.take i ++ [m] := by
      rw [List.take_succ_eq_append_getElem hil]
      rw [List.getElem?_eq_getElem hil] at hm
      injection hm with hm
      rw [hm]
    rw [ht, List.reverse_append, List.reverse_singleton, List.singleton_append, List.foldl_cons] at hV
    have hb := ih (A.back T m) (by omega) (e.back h hm) hV
    clear ih hV
    unfold An.back at hb
    split at hb
    · rename_i hcd
      have hset := addAll_set T m.natAbs (T.reasonOf (m.natAbs : Nat)) (A.drop (-m))
      have hmr := back_reason h e hm hcd.1 hcd.2
      have hr := reasonOf_pos h hm
      have hoth : ∀ x ∈ T.reasonOf (m.natAbs : Nat), x ≠ m → V x = -1 := by
        intro x hx hxm
        rcases hr x hx with e1 | ⟨e1, e2⟩
        · exact absurd e1 hxm
        · by_cases hl : T.lvOf x = 0
          · exact hlow x e1 hl
          · refine hb x ((hset x).2 (.inr ⟨hx, fun e3 => ?_, hl⟩))
            have e4 : x = m ∨ x = -m := by omega
            rcases e4 with e4 | e4
            · exact hxm e4
            · rw [e4, pos_neg, pos_at h hm] at e2
              omega
      have hVm : V m = 1 := by
        rcases hc _ (hdb m hml (fun e1 => by rw [e1] at hmr; cases hmr)) with ⟨x, hx, h1⟩ | ⟨x, hx, y, hy, hxy, h1, h2⟩
        · by_cases hxm : x = m
          · rw [← hxm]; exact h1
          · have := hoth x hx hxm; omega
        · exfalso
          by_cases hxm : x = m
          · have := hoth y hy (fun e1 => hxy (hxm.trans e1.symm)); omega
          · have := hoth x hx hxm; omega
      intro x hx
      by_cases hxm : x = -m
      · rw [hxm]; exact hn m hml hVm
      · refine hb x ((hset x).2 (.inl ?_))
        unfold An.drop
        simp [hx, hxm]
    · exact hb
/-- The learned clause follows by unit propagation. -/
theorem not_calm {T : Tr} (h : T.WF) {cs : List Int} (hok : okFor T cs = true) {V : Int → Int} (hn : ∀ x ∈ T.lits, V x = 1 → V (-x) = -1) (h0 : ∀ m ∈ T.lits, T.lvOf m = 0 → V m = 1)
    (hL : ∀ x ∈ T.learnt cs, V (-x) = 1) {db : List (List Int)} (hcs : cs ∈ db)
    (hdb : ∀ m ∈ T.lits, T.reasonOf (m.natAbs : Nat) ≠ [] → T.reasonOf (m.natAbs : Nat) ∈ db) : ¬ Calm V db := by
  intro hc
  have e := Inv.start h hok
  have hlow : ∀ x, -x ∈ T.lits → V (-x) = 1 → V x = -1 := fun x hx hl => by
    have := hn (-x) hx hl
    rwa [Int.neg_neg] at this
  obtain ⟨ef, _⟩ := e.finish h
  have hall := calm_down h hn h0 hdb hc T.lits.length _ (Nat.le_refl _) e (fun x hx => by
    rw [List.take_length] at hx
    refine hlow x (ef.neg x hx) (hL x ?_)
    exact (mem_sorted_iff (T := T) ef.neg x).2 hx)
  have hfalse : ∀ x ∈ cs, V x = -1 := by
    intro x hx
    have hxl : -x ∈ T.lits := by
      unfold okFor at hok
      simp only [Bool.and_eq_true, List.all_eq_true, decide_eq_true_eq] at hok
      exact value_false (hok.1.1 x hx)
    by_cases hl : T.lvOf x = 0
    · exact hlow x hxl (h0 _ hxl (by rw [lvOf_neg]; exact hl))
    · exact hall x (addAll_in T 0 cs An.fresh x hx (by have := lits_ne h hxl; omega) hl)
  rcases hc cs hcs with ⟨x, hx, h1⟩ | ⟨x, hx, y, hy, hxy, h1, h2⟩
  · have := hfalse x hx; omega
  · have := hfalse x hx; omega

/-! ### The assignment -/
def gv (xs : List Int) (x : Int) : Int := if 0 < x then nth xs x.toNat else -nth xs (-x).toNat
def sv (xs : List Int) (x : Int) : List Int := if 0 < x then xs.set x.toNat 1 else xs.set (-x).toNat (-1)
theorem sv_length (xs : List Int) (x : Int) : (sv xs x).length = xs.length := by unfold sv; split <;> simp
theorem gv_neg (xs : List Int) {x : Int} (hx : x ≠ 0) : gv xs (-x) = -gv xs x := by
  unfold gv
  by_cases h1 : 0 < x
  · rw [if_neg (by omega), if_pos h1, Int.neg_neg]
  · rw [if_pos (by omega), if_neg h1]; omega
theorem gv_sv (xs : List Int) {x y : Int} (_hx : x ≠ 0) (_hx1 : x.natAbs < xs.length) (_hy : y ≠ 0) (hy1 : y.natAbs < xs.length) : gv (sv xs x) y = if y = x then 1 else if y = -x then -1 else gv xs y := by
  unfold gv sv
  by_cases h1 : 0 < x
  · rw [if_pos h1]
    by_cases h2 : 0 < y
    · rw [if_pos h2, if_pos h2, nth_set _ _ _ _ (by omega)]
      split <;> split <;> omega
    · rw [if_neg h2, if_neg h2, nth_set _ _ _ _ (by omega)]
      split <;> split <;> omega
  · rw [if_neg h1]
    by_cases h2 : 0 < y
    · rw [if_pos h2, if_pos h2, nth_set _ _ _ _ (by omega)]
      split <;> split <;> omega
    · rw [if_neg h2, if_neg h2, nth_set _ _ _ _ (by omega)]
      split <;> split <;> omega
/-- How many variables are unknown. -/
def unk (xs : List Int) : Nat := xs.countP (fun x => decide (x = 0))
theorem unk_set : ∀ (xs : List Int) (k : Nat) (y : Int), k < xs.length → nth xs k = 0 → y ≠ 0 → unk (xs.set k y) + 1 = unk xs := by
  intro xs
  induction xs with
  | nil => intro k y hk; simp at hk
  | cons a l ih =>
    intro k y hk h0 hy
    cases k with
    | zero =>
      have : a = 0 := by simpa [nth] using h0
      simp [unk, this, hy]
    | succ k =>
      have := ih k y (by simpa using hk) (by simpa [nth] using h0) hy
      unfold unk at this ⊢
      rw [List.set_cons_succ, List.countP_cons, List.countP_cons]
      omega
theorem unk_sv {xs : List Int} {x : Int} (hx1 : x.natAbs < xs.length) (h0 : gv xs x = 0) : unk (sv xs x) + 1 = unk xs := by
  unfold gv at h0
  unfold sv
  by_cases h1 : 0 < x
  · rw [if_pos h1] at h0 ⊢
    exact unk_set _ _ _ (by omega) h0 (by omega)
  · rw [if_neg h1] at h0 ⊢
    exact unk_set _ _ _ (by omega) (by omega) (by omega)
/-- The count of a clause: its unknown literals, where one differs from the one before. -/
def cntStep (V : Int → Int) (s : Int × Int × Bool) (x : Int) : Int × Int × Bool :=
  (if V x = 0 ∧ x ≠ s.2.1 then s.1 + 1 else s.1, if V x = 0 ∧ x ≠ s.2.1 then x else s.2.1, s.2.2 || decide (V x = 1))
def cnt (V : Int → Int) (cl : List Int) : Int × Int × Bool := cl.foldl (cntStep V) (0, 0, false)
theorem cnt_snoc (V : Int → Int) (cl : List Int) (x : Int) : cnt V (cl ++ [x]) = cntStep V (cnt V cl) x := by simp [cnt, List.foldl_append]
theorem list_snoc {α : Type} (P : List α → Prop) (h0 : P []) (h1 : ∀ l x, P l → P (l ++ [x])) : ∀ l, P l := by
  intro l
  have : ∀ n (l : List α), l.length = n → P l := by
    intro n
    induction n with
    | zero => intro l hl; rw [List.length_eq_zero_iff.1 hl]; exact h0
    | succ n ih =>
      intro l hl
      have hne : l ≠ [] := fun e => by rw [e] at hl; cases hl
      rw [← List.dropLast_concat_getLast hne]
      exact h1 _ _ (ih _ (by simp [hl]))
  exact this _ l rfl
/-- What the count says of a clause without the number 0. -/
theorem cnt_says (V : Int → Int) : ∀ cl : List Int, (∀ x ∈ cl, x ≠ 0) → 0 ≤ (cnt V cl).1 ∧ (cnt V cl).1 ≤ cl.length ∧ ((cnt V cl).2.2 = true ↔ ∃ x ∈ cl, V x = 1) ∧
    ((cnt V cl).1 = 0 → (cnt V cl).2.1 = 0) ∧ (0 < (cnt V cl).1 → (cnt V cl).2.1 ∈ cl ∧ V (cnt V cl).2.1 = 0) ∧ (2 ≤ (cnt V cl).1 → ∃ x ∈ cl, ∃ y ∈ cl, x ≠ y ∧ V x = 0 ∧ V y = 0) := by
  refine list_snoc _ ?_ ?_
  · intro _; simp [cnt]
  · intro cl x ih hne
    obtain ⟨h1, h1', h2, h3, h4, h5⟩ := ih fun y hy => hne y (List.mem_append_left _ hy)
    have hx : x ≠ 0 := hne x (by simp)
    rw [cnt_snoc]
    generalize hS : cnt V cl = S at h1 h1' h2 h3 h4 h5
    obtain ⟨o, la, hd⟩ := S
    simp only [] at h1 h1' h2 h3 h4 h5
    simp only [cntStep, List.length_append, List.length_singleton, Bool.or_eq_true, decide_eq_true_eq]
    have hold : (hd = true ∨ V x = 1) ↔ ∃ y ∈ cl ++ [x], V y = 1 := by
      rw [h2]
      constructor
      · rintro (⟨y, hy, e⟩ | e)
        · exact ⟨y, List.mem_append_left _ hy, e⟩
        · exact ⟨x, by simp, e⟩
      · rintro ⟨y, hy, e⟩
        rcases List.mem_append.1 hy with hy | hy
        · exact .inl ⟨y, hy, e⟩
        · rw [List.mem_singleton.1 hy] at e; exact .inr e
    by_cases hc : V x = 0 ∧ x ≠ la
    · simp only [if_pos hc]
      refine ⟨by omega, by omega, hold, fun e => by omega, fun _ => ⟨by simp, hc.1⟩, fun h6 => ?_⟩
      obtain ⟨ha, hb⟩ := h4 (by omega)
      exact ⟨x, by simp, la, List.mem_append_left _ ha, hc.2, hc.1, hb⟩
    · simp only [if_neg hc]
      refine ⟨h1, by omega, hold, h3, fun h6 => ⟨List.mem_append_left _ (h4 h6).1, (h4 h6).2⟩, fun h6 => ?_⟩
      obtain ⟨y, hy, z, hz, r⟩ := h5 h6
      exact ⟨y, List.mem_append_left _ hy, z, List.mem_append_left _ hz, r⟩
end Go.Proofs.Ytanhacdadgbjdaa
