/-
 Chapter 32: several texts in one (SeE SeF SeG SeR).
-/
import Derived.Test.YtcjmpobccbnpkaaGreatMjbh
import Derived.Test.YtcjmpobccbnpkaaGreatMjbe
import Derived.Test.YtcjmpobccbnpkaaGreatMjbg
namespace Go.Proofs.YtcjmpobccbnpkaaGreat
set_option maxRecDepth 100000
set_option maxHeartbeats 1000000
section
open Go.RowKit
structure CoreSt (T : Tr) (a : Int) (P Q : List Nat) (B : Int → Prop) : Prop where
 nodup : (P ++ Q).Nodup
 on : ∀ v ∈ P ++ Q, ∃ e ∈ T.L, e.v = v
 start : a.natAbs ∈ P ++ Q
 closed : ∀ e ∈ T.L, e.v ∈ P → ∀ x ∈ e.reason, x.natAbs ∈ P ++ Q
 blame : ∀ l, B l ↔ l = a ∨ ∃ e ∈ T.L, e.v ∈ P ∧ e.reason = [] ∧ e.lit = l
section
variable {T : Tr} {cs : List Pb} {asm : List Int} {a : Int} {P Q : List Nat} {B : Int → Prop} {Y : List Int}
theorem core_in (hw : T.WF) (h : RsOk cs T) (hC : CoreSt T a P [] B) (hB : ∀ l, B l → l ∈ Y) (hY : okX Y) (hb : smX Y) (hc : ∀ p ∈ cs, p.Calm Y) : ∀ (i : Nat) (e : Ent), T.L[i]? = some e → e.v ∈ P → e.lit ∈ Y := by
 intro i
 induction i using Nat.strongRecOn with
 | _ i ih =>
  intro e he hv
  by_cases hne : e.reason = []
  ·exact hB _ ((hC.blame _).2 (.inr ⟨e, List.mem_of_getElem? he, hv, hne, rfl⟩))
  have hns : i ∉ T.starts := fun hi => hne ((hw.reason i e he).1 hi)
  obtain ⟨h1, h2⟩ := (hw.reason i e he).2 hns
  have hoth : ∀ x ∈ e.reason, x ≠ e.lit → valX Y x = -1 := fun x hx hne => by
   rcases h2 x hx with e1 | ⟨j, hj, f, hf, hfx⟩
   ·exact absurd e1 hne
   ·have hm := hC.closed e (List.mem_of_getElem? he) hv x hx
    rw [List.append_nil] at hm
    have hfY := ih j hj f hf (by unfold Ent.v; rw [hfx, Int.natAbs_neg]; exact hm)
    rw [hfx] at hfY
    unfold valX
    rw [if_neg fun hxY => hY x hxY hfY, if_pos hfY]
  rcases h e (List.mem_of_getElem? he) hne Y hY hb hc with ⟨x, hx, hv⟩ | ⟨x, hx, y, hy, hxy, hvx, hvy⟩
  ·by_cases ex : x = e.lit
   ·rw [← ex]
    exact valX_pos.1 (by omega)
   ·have := hoth x hx ex; omega
  ·by_cases ex : x = e.lit
   ·have := hoth y hy (fun ey => hxy (ex.trans ey.symm)); omega
   ·have := hoth x hx ex; omega
theorem core_none (hw : T.WF) (h : RsOk cs T) (hC : CoreSt T a P [] B) (ha : -a ∈ T.lits) (hY : okX Y) (hb : smX Y) (hc : ∀ p ∈ cs, p.Calm Y) : ¬ ∀ l, B l → l ∈ Y := by
 intro hB
 obtain ⟨i, e, he, h1⟩ := Tr.mem_lits.1 ha
 have hm := hC.start
 rw [List.append_nil] at hm
 have h2 := core_in hw h hC hB hY hb hc i e he (by unfold Ent.v; rw [h1, Int.natAbs_neg]; exact hm)
 rw [h1] at h2
 exact hY a (hB a ((hC.blame a).2 (.inl rfl))) h2
theorem CoreSt.first (ha : -a ∈ T.lits) : CoreSt T a [] [a.natAbs] (fun l => l = a) where
 nodup := by simp
 on := fun v hv => by
  obtain ⟨i, e, he, h1⟩ := Tr.mem_lits.1 ha
  simp at hv
  refine ⟨e, List.mem_of_getElem? he, ?_⟩
  unfold Ent.v
  rw [h1, hv, Int.natAbs_neg]
 start := by simp
 closed := fun e _ h => by cases h
 blame := fun l => by simp
theorem ent_one (hw : T.WF) {e f : Ent} (he : e ∈ T.L) (hf : f ∈ T.L) (h : e.v = f.v) : e = f := by
 obtain ⟨i, hi, e1⟩ := List.getElem_of_mem he
 obtain ⟨j, hj, e2⟩ := List.getElem_of_mem hf
 have := (List.getElem_inj (h₀ := by simpa using hi) (h₁ := by simpa using hj) hw.nodup).1 (by simp [e1, e2, h])
 subst this
 rw [← e1, ← e2]
theorem mem_shift {u v : Nat} {N : List Nat} : u ∈ (P ++ [v]) ++ (Q ++ N) ↔ u ∈ P ++ (v :: Q) ∨ u ∈ N := by
 rw [← List.append_assoc, List.mem_append, List.append_assoc]
 rfl
theorem CoreSt.step (hw : T.WF) {v : Nat} {e : Ent} (hC : CoreSt T a P (v :: Q) B) (he : e ∈ T.L) (hv : e.v = v) {N : List Nat} {B' : Int → Prop}
  (hnd : (P ++ (v :: Q) ++ N).Nodup) (hN : ∀ n, n ∈ N ↔ n ∉ P ++ (v :: Q) ∧ ∃ x ∈ e.reason, x.natAbs = n) (hon : ∀ x ∈ e.reason, ∃ f ∈ T.L, f.v = x.natAbs)
  (hB : ∀ l, B' l ↔ B l ∨ e.reason = [] ∧ e.lit = l) : CoreSt T a (P ++ [v]) (Q ++ N) B' where
 nodup := by simpa using hnd
 on := fun u hu => by
  rcases mem_shift.1 hu with hu | hu
  ·exact hC.on u hu
  ·obtain ⟨_, x, hx, rfl⟩ := (hN u).1 hu
   exact hon x hx
 start := mem_shift.2 (.inl hC.start)
 closed := fun f hf hm x hx => by
  have key : x.natAbs ∈ P ++ (v :: Q) ∨ x.natAbs ∈ N := by
   rcases List.mem_append.1 hm with hm | hm
   ·exact .inl (hC.closed f hf hm x hx)
   ·rw [List.mem_singleton] at hm
    have : f = e := ent_one hw hf he (hm.trans hv.symm)
    subst this
    by_cases h1 : x.natAbs ∈ P ++ (v :: Q)
    ·exact .inl h1
    ·exact .inr ((hN _).2 ⟨h1, x, hx, rfl⟩)
  exact mem_shift.2 key
 blame := fun l => by
  rw [hB, hC.blame]
  constructor
  ·rintro ((h1 | ⟨f, hf, h1, h2, h3⟩) | ⟨h1, h2⟩)
   ·exact .inl h1
   ·exact .inr ⟨f, hf, List.mem_append_left _ h1, h2, h3⟩
   ·exact .inr ⟨e, he, by rw [hv]; exact List.mem_append_right _ (List.mem_singleton.2 rfl), h1, h2⟩
  ·rintro (h1 | ⟨f, hf, h1, h2, h3⟩)
   ·exact .inl (.inl h1)
   ·rcases List.mem_append.1 h1 with h1 | h1
    ·exact .inl (.inr ⟨f, hf, h1, h2, h3⟩)
    ·rw [List.mem_singleton] at h1
     have : f = e := ent_one hw hf he (h1.trans hv.symm)
     subst this
     exact .inr ⟨h2, h3⟩
theorem CoreSt.len (_hw : T.WF) (hC : CoreSt T a P Q B) : (P ++ Q).length ≤ T.L.length := by
 have := List.Nodup.length_le_of_subset hC.nodup (l₂ := T.L.map Ent.v) fun v hv => by
  obtain ⟨e, he, h1⟩ := hC.on v hv
  exact List.mem_map.2 ⟨e, he, h1⟩
 simpa using this
end
def coreOut (B : Int → Bool) (asm : List Int) : List Int := asm.foldl (fun o l => if B l && !decide (l ∈ o) then o ++ [l] else o) []
theorem coreOut_snoc (B : Int → Bool) (asm : List Int) (l : Int) : coreOut B (asm ++ [l]) = if B l && !decide (l ∈ coreOut B asm) then coreOut B asm ++ [l] else coreOut B asm := by unfold coreOut; rw [List.foldl_append]; rfl
theorem snoc_rec {α : Type} {p : List α → Prop} (h0 : p []) (h1 : ∀ l x, p l → p (l ++ [x])) : ∀ l, p l := by
 have key : ∀ n (l : List α), l.length = n → p l := by
  intro n
  induction n with
  | zero => intro l hl; rw [List.eq_nil_of_length_eq_zero hl]; exact h0
  | succ n ih =>
   intro l hl
   have hne : l ≠ [] := fun e => by rw [e] at hl; cases hl
   rw [← List.dropLast_concat_getLast hne]
   exact h1 _ _ (ih _ (by rw [List.length_dropLast, hl]; rfl))
 exact fun l => key _ l rfl
theorem mem_coreOut {B : Int → Bool} {asm : List Int} : ∀ {x : Int}, x ∈ coreOut B asm ↔ x ∈ asm ∧ B x = true := by
 induction asm using snoc_rec with
 | h0 => intro x; simp [coreOut]
 | h1 asm l ih =>
  intro x
  rw [coreOut_snoc]
  split
  ·rename_i h
   simp only [Bool.and_eq_true, Bool.not_eq_true', decide_eq_false_iff_not] at h
   rw [List.mem_append, List.mem_append, ih, List.mem_singleton]
   constructor
   ·rintro (h1 | h1)
    ·exact ⟨.inl h1.1, h1.2⟩
    ·exact ⟨.inr h1, by rw [h1]; exact h.1⟩
   ·rintro ⟨h1 | h1, h2⟩
    ·exact .inl ⟨h1, h2⟩
    ·exact .inr h1
  ·rename_i h
   simp only [Bool.and_eq_true, Bool.not_eq_true', decide_eq_false_iff_not, not_and, Classical.not_not] at h
   rw [ih, List.mem_append, List.mem_singleton]
   constructor
   ·exact fun h1 => ⟨.inl h1.1, h1.2⟩
   ·rintro ⟨h1 | h1, h2⟩
    ·exact ⟨h1, h2⟩
    ·rw [h1] at h2 ⊢
     exact ⟨(ih.1 (h h2)).1, h2⟩
theorem coreOut_sub (B : Int → Bool) (asm : List Int) : List.Sublist (coreOut B asm) asm := by
 induction asm using snoc_rec with
 | h0 => exact List.Sublist.refl _
 | h1 asm l ih =>
  rw [coreOut_snoc]
  split
  ·exact List.Sublist.append ih (List.Sublist.refl _)
  ·exact ih.trans (List.sublist_append_left _ _)
def DA (asm : List Int) (T : Tr) : Prop := ∀ k, k < T.starts.length → (∃ e, T.L[T.starts.getD k 0]? = some e ∧ e.lit ∈ asm) ∨ ∀ x ∈ asm, x ∈ T.pre k
section
variable {T : Tr} {asm : List Int}
theorem getD_at {l : List Nat} {k : Nat} (hk : k < l.length) : l.getD k 0 = l[k] := by rw [List.getD_eq_getElem?_getD, List.getElem?_eq_getElem hk]; rfl
theorem DA.none (h : T.starts = []) : DA asm T := fun k hk => by rw [h] at hk; exact absurd hk (by simp)
theorem Tr.pre_more {T' : Tr} {N : List Ent} (hw : T.WF) (hs : T'.starts = T.starts) (hL : T'.L = T.L ++ N) {k : Nat} (hk : k < T.starts.length) : T'.pre k = T.pre k := by
 have hk' : k < T'.starts.length := by rw [hs]; exact hk
 rw [Tr.pre_at hk, Tr.pre_at hk']
 have e : T'.starts[k] = T.starts[k] := by simp only [hs]
 rw [e]
 have hlt := hw.below _ (List.getElem_mem hk)
 have e2 : T'.lits = T.lits ++ N.map Ent.lit := by unfold Tr.lits; rw [hL, List.map_append]
 rw [e2, List.take_append_of_le_length (by rw [Tr.lits_len]; omega)]
theorem DA.more (h : DA asm T) {T' : Tr} {N : List Ent} (hw : T.WF) (hs : T'.starts = T.starts) (hL : T'.L = T.L ++ N) : DA asm T' := by
 intro k hk
 have hk2 : k < T.starts.length := by rw [← hs]; exact hk
 rw [Tr.pre_more hw hs hL hk2, hs, hL]
 rcases h k hk2 with ⟨e, h1, h2⟩ | h1
 ·exact .inl ⟨e, by rw [List.getElem?_append_left (List.getElem?_eq_some_iff.1 h1).1]; exact h1, h2⟩
 ·exact .inr h1
theorem DA.decide (h : DA asm T) (hw : T.WF) {l : Int} (hl : l ∈ asm ∨ ∀ x ∈ asm, x ∈ T.lits) : DA asm (T.decide l) := by
 have es : (T.decide l).starts = T.starts ++ [T.L.length] := rfl
 have eL : (T.decide l).L = T.L ++ [⟨l, T.starts.length + 1, []⟩] := rfl
 have e2 : (T.decide l).lits = T.lits ++ [l] := by simp [Tr.decide, Tr.lits]
 intro k hk
 rw [Tr.pre_at hk, getD_at hk]
 rcases Nat.lt_or_ge k T.starts.length with hk2 | hk2
 ·have e3 : (T.decide l).starts[k] = T.starts[k] := by simp only [es]; rw [List.getElem_append_left hk2]
  have hb := hw.below _ (List.getElem_mem hk2)
  rw [e3, e2, List.take_append_of_le_length (by rw [Tr.lits_len]; omega), ← Tr.pre_at hk2, eL, List.getElem?_append_left hb, ← getD_at hk2]
  exact h k hk2
 ·have hk3 : k = T.starts.length := by rw [es, List.length_append] at hk; simp at hk; omega
  have e3 : (T.decide l).starts[k] = T.L.length := by simp only [es]; rw [List.getElem_append_right hk2]; simp [hk3]
  rw [e3, e2, List.take_append_of_le_length (by rw [Tr.lits_len]; exact Nat.le_refl _), List.take_of_length_le (by rw [Tr.lits_len]; exact Nat.le_refl _), eL]
  rcases hl with hl | hl
  ·exact .inl ⟨_, by rw [List.getElem?_append_right (Nat.le_refl _)]; simp; rfl, hl⟩
  ·exact .inr hl
theorem DA.back (h : DA asm T) (hw : T.WF) (K : Nat) : DA asm (T.back K) := by
 unfold Tr.back
 split
 ·rename_i hK
  intro k hk
  have hk2 : k < K := by
   rw [Tr.undo_at hK] at hk
   simp at hk
   omega
  have hk3 : k < T.starts.length := by omega
  rw [Tr.undo_pre hw hK hk2]
  rcases h k hk3 with ⟨e, h1, h2⟩ | h1
  ·refine .inl ⟨e, ?_, h2⟩
   rw [getD_at hk3] at h1
   have es : (T.undo K).starts = T.starts.take K := by rw [Tr.undo_at hK]
   have eL : (T.undo K).L = T.L.take T.starts[K] := by rw [Tr.undo_at hK]
   rw [es, eL, getD_at (by simp; omega), List.getElem_take, List.getElem?_take, if_pos (pairwise_get hw.starts hk2 hK)]
   exact h1
  ·exact .inr h1
 ·exact h
theorem DA.all (h : DA asm T) (hw : T.WF) {a : Int} (ha : a ∈ asm) (hn : a ∉ T.lits) : ∀ e ∈ T.L, e.reason = [] → e.lit ∈ asm := by
 intro e he hr
 obtain ⟨i, hi, e1⟩ := List.getElem_of_mem he
 have he2 : T.L[i]? = some e := by rw [List.getElem?_eq_getElem hi, e1]
 have hs : i ∈ T.starts := Classical.byContradiction fun hs => by
  have := ((hw.reason i e he2).2 hs).1
  rw [hr] at this
  cases this
 obtain ⟨k, hk, e2⟩ := List.getElem_of_mem hs
 rcases h k hk with ⟨f, h1, h2⟩ | h1
 ·rw [getD_at hk, e2, he2] at h1
  injection h1 with h1
  rw [h1]
  exact h2
 ·exact absurd (List.mem_of_mem_take (h1 a ha)) hn
end
end
section
open Go.RowKit
theorem Tr.WF.back {T : Tr} (h : T.WF) (K : Nat) : (T.back K).WF := by
 unfold Tr.back
 split
 ·exact h.undo ‹_›
 ·exact h
theorem Tr.back_mem {T : Tr} (K : Nat) {e : Ent} (h : e ∈ (T.back K).L) : e ∈ T.L := by
 obtain ⟨s, e1⟩ := T.back_L K
 rw [e1] at h
 exact List.mem_of_mem_take h
theorem lvOf_mem {T : Tr} (hw : T.WF) {e : Ent} (he : e ∈ T.L) : T.lvOf e.lit = e.level := by
 obtain ⟨i, hi, e1⟩ := List.getElem_of_mem he
 exact lvOf_at2 hw (i := i) (by rw [List.getElem?_eq_getElem hi, e1])
theorem lvOf_ge {T : Tr} (hw : T.WF) {x : Int} (hx : x ∈ T.lits) : 0 ≤ T.lvOf x ∧ T.lvOf x ≤ T.starts.length := by
 obtain ⟨e, he, rfl⟩ := List.mem_map.1 hx
 obtain ⟨i, hi, e1⟩ := List.getElem_of_mem he
 have h1 := hw.level i e (by rw [List.getElem?_eq_getElem hi, e1])
 rw [lvOf_mem hw he]
 have := List.length_filter_le (fun s => decide (s ≤ i)) T.starts
 omega
theorem back_lv {T : Tr} (hw : T.WF) {K : Nat} {x : Int} (hx : x ∈ (T.back K).lits) : (T.back K).lvOf x = T.lvOf x := by
 obtain ⟨e, he, rfl⟩ := List.mem_map.1 hx
 rw [lvOf_mem hw (Tr.back_mem K he), lvOf_mem (hw.back K) he]
theorem mem_back {T : Tr} (hw : T.WF) {K : Nat} {x : Int} : x ∈ (T.back K).lits ↔ x ∈ T.lits ∧ T.lvOf x ≤ K := by
 rw [Tr.back_lits hw, List.mem_filter]
 unfold Tr.upto Tr.lvOf
 rw [decide_eq_true_eq]
theorem back_depth {T : Tr} {K : Nat} (hK : K ≤ T.starts.length) : (T.back K).starts.length = K := by
 unfold Tr.back
 split
 ·rw [Tr.undo_at ‹_›, List.length_take]; omega
 ·omega
structure Srch (asm : List Int) (G cs : List Pb) (T : Tr) : Prop where
 wf : T.WF
 few : T.vars ≤ 8
 ok : ∀ p ∈ cs, p.Ok
 lits : ∀ p ∈ cs, ∀ l ∈ p.lits, l.natAbs ≤ T.vars
 rs : RsOk cs T
 pre : PreOk G T
 da : DA asm T
 sub : ∀ p ∈ G, p ∈ cs
 short : ∀ e ∈ T.L, e.reason.length ≤ 9
theorem Pb.Ok.fewn {p : Pb} (h : p.Ok) {n : Nat} (hv : ∀ l ∈ p.lits, l.natAbs ≤ n) : p.lits.length ≤ n := by
 have h1 : (p.lits.map Int.natAbs).Nodup := by
  show List.Pairwise (· ≠ ·) _
  rw [List.pairwise_map, List.pairwise_iff_getElem]
  intro i j hi hj hij e
  rw [← nth_eq hi, ← nth_eq hj] at e
  have := h.inj hi hj e
  omega
 have := nodup_le n _ h1 fun x hx => by
  obtain ⟨l, hl, rfl⟩ := List.mem_map.1 hx
  obtain ⟨j, hj, e⟩ := List.getElem_of_mem hl
  have h0 := h.lit0 hj
  rw [nth_eq hj, e] at h0
  exact ⟨by omega, hv l hl⟩
 simpa using this
theorem FromX.short {cs : List Pb} {v n : Nat} {e : Ent} (h : FromX cs v e) (hok : ∀ p ∈ cs, p.Ok) (hv : ∀ p ∈ cs, ∀ l ∈ p.lits, l.natAbs ≤ n) : e.reason.length ≤ n + 1 := by
 obtain ⟨i, X, hi, _, hr, _⟩ := h
 rw [hr, List.length_cons]
 have h1 := (hok _ (cAt_mem hi)).fewn (hv _ (cAt_mem hi))
 have h2 : ((cAt cs i).offX X).length ≤ (cAt cs i).lits.length := List.length_filter_le _ _
 omega
def RupX (cs : List Pb) (L : List Int) : Prop := ∀ Y, okX Y → smX Y → (∀ p ∈ cs, p.Calm Y) → ¬ ∀ x ∈ L, -x ∈ Y
section
variable {asm : List Int} {G cs : List Pb} {T : Tr} {c : List Int}
theorem Srch.exams (h : Srch asm G cs T) {xs : List Nat} (hi : ∀ i ∈ xs, i < cs.length) (hf : fineX cs T.lits xs) : Srch asm G cs (T.exams cs xs) ∧ (T.exams cs xs).vars = T.vars ∧ (T.exams cs xs).lits = runX cs T.lits xs ∧ T.L.length ≤ (T.exams cs xs).L.length := by
 have e := Tr.exams_is h.ok xs T h.wf h.lits hi
 obtain ⟨N, hN, hF⟩ := e.more
 exact ⟨⟨e.wf, by rw [e.vars]; exact h.few, h.ok, by rw [e.vars]; exact h.lits, h.rs.exams h.ok h.wf h.lits hi hf, h.pre.more h.wf e.starts hN, h.da.more h.wf e.starts hN, h.sub, fun x hx => by
  rw [hN] at hx
  rcases List.mem_append.1 hx with hx | hx
  ·exact h.short x hx
  ·have := (hF hf x hx).short h.ok h.lits
   have := h.few
   omega⟩, e.vars, e.lits, by rw [hN, List.length_append]; omega⟩
theorem Srch.back (h : Srch asm G cs T) (K : Nat) : Srch asm G cs (T.back K) :=
 ⟨h.wf.back K, by rw [Tr.back_vars]; exact h.few, h.ok, by rw [Tr.back_vars]; exact h.lits, h.rs.back K, h.pre.back h.wf K, h.da.back h.wf K, h.sub, fun e he => h.short e (Tr.back_mem K he)⟩
theorem Srch.decide (h : Srch asm G cs T) (hc : ∀ p ∈ cs, p.Calm T.lits) {l : Int} (hf : T.freeB l = true) (hl : l ∈ asm ∨ ∀ x ∈ asm, x ∈ T.lits) : Srch asm G cs (T.dec l) ∧ (T.dec l).vars = T.vars ∧ (T.dec l).L.length = T.L.length + 1 := by
 have e : T.dec l = T.decide l := by unfold Tr.dec; rw [if_pos hf]
 have h1 := h.rs.dec l
 rw [e] at h1 ⊢
 exact ⟨⟨h.wf.decide (Tr.free_iff.1 hf), h.few, h.ok, h.lits, h1, h.pre.decide h.wf (fun p hp => hc p (h.sub p hp)) l, h.da.decide h.wf hl, h.sub, fun e he => (List.mem_append.1 he).elim (h.short e) fun e1 => by rw [List.mem_singleton.1 e1]; exact Nat.zero_le _⟩, rfl, by simp [Tr.decide]⟩
theorem Srch.add (h : Srch asm G cs T) {p : Pb} (hp : p.Ok) (hl : ∀ l ∈ p.lits, l.natAbs ≤ T.vars) : Srch asm G (cs ++ [p]) T :=
 ⟨h.wf, h.few, fun q hq => (List.mem_append.1 hq).elim (h.ok q) fun e => by rw [List.mem_singleton.1 e]; exact hp, fun q hq => (List.mem_append.1 hq).elim (h.lits q) fun e => by rw [List.mem_singleton.1 e]; exact hl, h.rs.mono fun q hq => List.mem_append_left _ hq, h.pre, h.da, fun q hq => List.mem_append_left _ (h.sub q hq), h.short⟩
theorem Srch.anew (h : Srch asm G cs T) (h0 : T.starts = []) (asm' : List Int) {G' : List Pb} (hs : ∀ p ∈ G', p ∈ cs) : Srch asm' G' cs T :=
 ⟨h.wf, h.few, h.ok, h.lits, h.rs, .none h0, .none h0, hs, h.short⟩
theorem topLv_nonneg (T : Tr) (ls : List Int) : 0 ≤ topLv T ls := (topLv_ge T ls 0).1
theorem topLv_le (hw : T.WF) (hc : ∀ x ∈ c, -x ∈ T.lits) : topLv T c ≤ T.starts.length := by
 have := topLv_lt T (T.starts.length + 1) c 0 (by omega) fun x hx => by
  have := lvOf_ge hw (hc x hx)
  rw [lvOf_neg] at this
  omega
 unfold topLv
 omega
theorem Srch.none (h : Srch asm G cs T) (hu : UPc cs c) (hc : ∀ x ∈ c, -x ∈ T.lits) (h0 : topLv T c = 0) : RupX cs [] := fun Y hY hb hcal _ =>
 level0_none h.wf h.rs hu (fun x hx => ⟨hc x hx, by
  have h1 := (topLv_ge T c 0).2 x hx
  have h2 := (lvOf_ge h.wf (hc x hx)).1
  rw [lvOf_neg] at h2
  unfold topLv at h0
  omega⟩) hY hb hcal
theorem Srch.okF (h : Srch asm G cs T) (hc : ∀ x ∈ c, -x ∈ T.lits) (h0 : topLv T c ≠ 0) : okFor (T.back (topLv T c).toNat) c = true := by
 have hge := topLv_nonneg T c
 have hle := topLv_le h.wf hc
 have hd : (T.back (topLv T c).toNat).depth = (topLv T c).toNat := back_depth (by omega)
 have hin : ∀ x ∈ c, -x ∈ (T.back (topLv T c).toNat).lits := fun x hx => (mem_back h.wf).2 ⟨hc x hx, by
  rw [lvOf_neg]
  have := (topLv_ge T c 0).2 x hx
  unfold topLv at *
  omega⟩
 unfold okFor
 simp only [Bool.and_eq_true, List.all_eq_true, List.any_eq_true, decide_eq_true_eq]
 refine ⟨⟨fun x hx => value_of_neg (h.wf.back _) (hin x hx), ?_⟩, by rw [hd]; omega⟩
 rcases topLv_mem T c 0 with e | ⟨x, hx, e⟩
 ·exact absurd e h0
 ·refine ⟨x, hx, ?_⟩
  rw [hd, ← lvOf_neg, back_lv h.wf (hin x hx), lvOf_neg, e]
  show topLv T c = _
  omega
def newPb (T : Tr) (c : List Int) : Pb := (clauseB (T.learnt c)).1
def nextT (T : Tr) (c : List Int) (lv : Nat) (l : Int) : Tr := (T.back lv).imp l (T.learnt c)
structure Learnt (asm : List Int) (G cs : List Pb) (T : Tr) (c : List Int) (c0 : Int) (rest : List Int) : Prop where
 form : T.learnt c = c0 :: rest
 can : (T.back (topLv T rest).toNat).can c0 (c0 :: rest) = true
 rup : RupX cs (T.learnt c)
 new : newPb T c ∉ G
 lits : ∀ x ∈ T.learnt c, litB x = true ∧ -x ∈ T.lits ∧ 1 ≤ T.lvOf x ∧ x.natAbs ≤ T.vars
 len : (T.learnt c).length ≤ 8
 anti : ∀ x ∈ T.learnt c, -x ∉ T.learnt c
 next : Srch asm (G ++ [newPb T c]) (cs ++ [newPb T c]) (nextT T c (topLv T rest).toNat c0)
 free : ∀ p ∈ G, p.Calm (T.pre 0)
 un : ∀ x ∈ T.learnt c, x ∉ T.pre 0 ∧ -x ∉ T.pre 0
theorem newPb_lits {L : List Int} : ∀ l ∈ (clauseB L).1.lits, ∃ x ∈ L, x.natAbs = l.natAbs := by
 intro l hl
 rw [clauseB_is] at hl
 obtain ⟨x, hx, e⟩ := norm_lits hl
 exact ⟨x, mem_once.1 hx, e⟩
theorem Srch.learn (h : Srch asm G cs T) (hu : UPc cs c) (hok : okFor T c = true) : ∃ c0 rest, Learnt asm G cs T c c0 rest := by
 obtain ⟨c0, rest, hL, hc0, hd, hrest, _⟩ := learnt_form h.wf hok
 obtain ⟨hl, hn⟩ := learnt_lits h.wf hok
 have hn8 : (T.learnt c).length ≤ 8 := Nat.le_trans hn h.few
 have hB : ∀ l ∈ T.learnt c, litB l = true := fun l hl' => (hl l hl').2.1
 have hv : ∀ x ∈ T.learnt c, x.natAbs ≤ T.vars := fun x hx => by
  obtain ⟨e, he, h1⟩ := List.mem_map.1 (hl x hx).1
  have := (h.wf.lit e he).2
  unfold Ent.v at this
  rw [h1, Int.natAbs_neg] at this
  exact this
 have hcan := learnt_can h.wf hok hL
 have hdep : 0 < T.starts.length := by
  unfold okFor at hok
  simp only [Bool.and_eq_true, decide_eq_true_eq] at hok
  have := hok.2
  unfold Tr.depth at this
  omega
 have hCok : (newPb T c).Ok := clause_ok hB hn8
 have hClits : ∀ l ∈ (newPb T c).lits, l.natAbs ≤ T.vars := fun l hl' => by
  obtain ⟨x, hx, e⟩ := newPb_lits l hl'
  rw [← e]
  exact hv x hx
 have hbk := (h.back (topLv T rest).toNat).add hCok (by rw [Tr.back_vars]; exact hClits)
 have himp : nextT T c (topLv T rest).toNat c0 = (T.back (topLv T rest).toNat).imply c0 (T.learnt c) := by
  unfold nextT Tr.imp
  rw [if_pos (by rw [hL]; exact hcan)]
 have hwf : ((T.back (topLv T rest).toNat).imply c0 (T.learnt c)).WF := by
  obtain ⟨b1, b2⟩ := learnt_back h.wf hok hL
  have hf : (T.back (topLv T rest).toNat).free c0 := by
   refine ⟨?_, ?_, b1⟩
   ·have := litB_iff.1 (hB c0 (by rw [hL]; exact List.mem_cons_self ..)); omega
   ·rw [Tr.back_vars]; exact hv c0 (by rw [hL]; exact List.mem_cons_self ..)
  refine (h.wf.back _).imply hf (by rw [hL]; exact List.mem_cons_self ..) fun x hx => ?_
  rw [hL] at hx
  rcases List.mem_cons.1 hx with e | hx
  ·exact .inl e
  ·have := b2 x hx
   rw [Tr.value_is] at this
   exact .inr (valX_neg.1 (by omega)).2
 have hmem0 : ∀ x, x ∈ T.pre 0 ↔ x ∈ T.lits ∧ T.lvOf x ≤ 0 := fun x => mem_pre h.wf hdep
 refine ⟨c0, rest, hL, hcan, fun Y hY hb hcal => learnt_rup h.wf h.rs hok hu hY hb hcal, learnt_new h.wf h.few hok h.pre, fun x hx => ⟨hB x hx, (hl x hx).1, (hl x hx).2.2, hv x hx⟩, hn8, fun x hx hnx => ?_, ?_, h.pre 0 hdep, fun x hx => ?_⟩
 ·have h1 := (hl x hx).1
  have h2 := (hl (-x) hnx).1
  rw [Int.neg_neg] at h2
  exact h.wf.okX x h2 h1
 ·rw [himp]
  refine ⟨hwf, hbk.few, hbk.ok, hbk.lits, hbk.rs.imply ((clause_up hB hn8 hCok).mono fun p hp => by rw [List.mem_singleton.1 hp]; exact List.mem_append_right _ (List.mem_singleton.2 rfl)), ?_, ?_, fun p hp => ?_, fun e he => (List.mem_append.1 he).elim (hbk.short e) fun e1 => by rw [List.mem_singleton.1 e1]; exact Nat.le_succ_of_le hn8⟩
  ·exact ((h.pre.back h.wf _).add (learnt_pre h.wf h.few hok hL)).more (h.wf.back _) rfl rfl
  ·exact (h.da.back h.wf _).more (h.wf.back _) rfl rfl
  ·rcases List.mem_append.1 hp with hp | hp
   ·exact List.mem_append_left _ (h.sub p hp)
   ·exact List.mem_append_right _ hp
 ·rw [hmem0, hmem0, lvOf_neg]
  have := (hl x hx).2.2
  exact ⟨fun e => by omega, fun e => by omega⟩
theorem Srch.core (h : Srch asm G cs T) {a : Int} (ha : a ∈ asm) (hn : -a ∈ T.lits) {P : List Nat} {B : Int → Bool} (hC : CoreSt T a P [] fun l => B l = true) : RupX cs ((coreOut B asm).map fun l => -l) := by
 intro Y hY hb hcal hall
 have hna : a ∉ T.lits := fun e => h.wf.okX a e hn
 refine core_none h.wf h.rs hC hn hY hb hcal fun l hl => ?_
 have hm : l ∈ asm := by
  rcases (hC.blame l).1 hl with e | ⟨e, he, _, hr, rfl⟩
  ·rw [e]; exact ha
  ·exact h.da.all h.wf ha hna e he hr
 have := hall (-l) (List.mem_map.2 ⟨l, mem_coreOut.2 ⟨hm, hl⟩, rfl⟩)
 rwa [Int.neg_neg] at this
end
end
section
open Go.RowKit
structure Ask where
 asm : List Int
 G : List Pb
 log : List Stp
 n : Nat
 most : Nat
 Hs : List Pb
 Lz : Stp → Prop
def StepOk (a : Ask) (D : List Pb) (s : Stp) : Prop :=
 (s.kind = 1 ∧ s.set = [] ∧ ∃ L, s.c = (clauseB L).1 ∧ (∀ l ∈ L, litB l = true ∧ l.natAbs ≤ a.n) ∧ L.length ≤ 8 ∧ RupX D L) ∨ (s.kind = 3 ∧ a.Lz s ∧ s.c ∈ a.Hs)
structure Grew (a : Ask) (k : Nat) (new : List Stp) : Prop where
 ok : ∀ i s, new[i]? = some s → StepOk a (a.G ++ (new.take i).map Stp.c) s
 lazy : new.countP (fun s => s.kind == 3) = k
theorem Grew.nil (a : Ask) : Grew a 0 [] := ⟨fun i s h => by simp at h, rfl⟩
theorem Grew.snoc {a : Ask} {k : Nat} {new : List Stp} (h : Grew a k new) {s : Stp} (hs : StepOk a (a.G ++ new.map Stp.c) s) : Grew a (k + if s.kind = 3 then 1 else 0) (new ++ [s]) := by
 refine ⟨fun i t ht => ?_, ?_⟩
 ·rcases Nat.lt_or_ge i new.length with hi | hi
  ·rw [List.getElem?_append_left hi] at ht
   rw [List.take_append_of_le_length (by omega)]
   exact h.ok i t ht
  ·rw [List.getElem?_append_right hi, List.getElem?_singleton] at ht
   split at ht
   ·obtain rfl := Option.some.inj ht
    have : i = new.length := by omega
    subst this
    rw [List.take_left]
    exact hs
   ·cases ht
 ·rw [List.countP_append, h.lazy]
  congr 1
  simp only [List.countP_cons, List.countP_nil]
  by_cases e : s.kind = 3 <;> simp [e]
def LForm (a : Ask) (p : Pb) : Prop := ∃ c : List Int, p = (clauseB c).1 ∧ c ≠ [] ∧ (∀ x ∈ c, -x ∉ c) ∧ ∀ x ∈ c, x ≠ 0 ∧ x.natAbs ≤ a.n ∧ ∃ X, okX X ∧ smX X ∧ (∀ p ∈ a.G, p.Calm X) ∧ x ∉ X ∧ -x ∉ X
def Open (a : Ask) (vs : List Int) : Prop := (∀ v ∈ vs, 0 < v) ∧ ∀ X, okX X → smX X → (∀ p ∈ a.G, p.Calm X) → ∀ v : Int, 1 ≤ v → v ≤ a.n → v ∈ X ∨ -v ∈ X ∨ v ∈ vs
structure RunTo (a : Ask) (Ls Zs : List Pb) (new : List Stp) (cs : List Pb) (log : List Stp) (T : Tr) (left k : Nat) : Prop where
 srch : Srch a.asm (a.G ++ Ls) cs T
 vars : T.vars = a.n
 ndl : Ls.Nodup
 form : ∀ p ∈ Ls, LForm a p
 ndz : Zs.Nodup
 hid : ∀ z ∈ Zs, z ∈ a.Hs ∧ z ∈ cs
 lenz : Zs.length = k
 count : left + Ls.length + k = a.most
 llog : log = a.log ++ new
 lcs : cs = a.G ++ new.map Stp.c
 grew : Grew a k new
 len : new.length = Ls.length + k
def Run (a : Ask) (cs : List Pb) (log : List Stp) (T : Tr) (left k : Nat) : Prop := ∃ Ls Zs new, RunTo a Ls Zs new cs log T left k
section
variable {a : Ask} {cs : List Pb} {log : List Stp} {T : Tr} {left k : Nat} {c : List Int}
theorem Run.srch (h : Run a cs log T left k) : ∃ Ls, Srch a.asm (a.G ++ Ls) cs T := by
 obtain ⟨Ls, Zs, new, h⟩ := h
 exact ⟨Ls, h.srch⟩
theorem Run.start {asm0 : List Int} {G0 : List Pb} (hs : Srch asm0 G0 a.G T) (hv : T.vars = a.n) (h0 : T.starts = []) : Run a a.G a.log T a.most 0 :=
 ⟨[], [], [], by rw [List.append_nil]; exact hs.anew h0 _ fun p hp => hp, hv, List.nodup_nil, (fun p hp => by cases hp), List.nodup_nil, (fun p hp => by cases hp), rfl, by simp, by simp, by simp, .nil a, rfl⟩
theorem Run.sizes (h : Run a cs log T left k) : left ≤ a.most ∧ cs.length ≤ a.G.length + a.most ∧ log.length ≤ a.log.length + a.most := by
 obtain ⟨Ls, Zs, new, h⟩ := h
 have h1 := h.count
 have h2 := h.len
 have h3 := congrArg List.length h.lcs
 have h4 := congrArg List.length h.llog
 simp at h3 h4
 omega
theorem Run.vars (h : Run a cs log T left k) : T.vars = a.n := by
 obtain ⟨Ls, Zs, new, h⟩ := h
 exact h.vars
theorem Run.move (h : Run a cs log T left k) {T' : Tr} (hm : ∀ G, Srch a.asm G cs T → Srch a.asm G cs T') (hv : T'.vars = T.vars) : Run a cs log T' left k := by
 obtain ⟨Ls, Zs, new, h⟩ := h
 exact ⟨Ls, Zs, new, hm _ h.srch, hv.trans h.vars, h.ndl, h.form, h.ndz, h.hid, h.lenz, h.count, h.llog, h.lcs, h.grew, h.len⟩
theorem Run.few_l (h : Run a cs log T left k) {vs : List Int} (ho : Open a vs) : a.most < left + 3 ^ vs.length + a.Hs.length := by
 obtain ⟨Ls, Zs, new, h⟩ := h
 have h1 := few_clauses (vs := vs) h.ndl ho.1 fun p hp => by
  obtain ⟨c, e, h1, h2, h3⟩ := h.form p hp
  refine ⟨c, e, h1, h2, fun x hx => ?_⟩
  obtain ⟨h0, hn, X, x1, x2, x3, x4, x5⟩ := h3 x hx
  rcases ho.2 X x1 x2 x3 (x.natAbs : Nat) (by omega) (by omega) with e | e | e
  ·exfalso
   rcases Int.natAbs_eq x with e1 | e1
   ·rw [← e1] at e; exact x4 e
   ·rw [show ((x.natAbs : Nat) : Int) = -x by omega] at e; exact x5 e
  ·exfalso
   rcases Int.natAbs_eq x with e1 | e1
   ·rw [← e1] at e; exact x5 e
   ·rw [show -((x.natAbs : Nat) : Int) = x by omega] at e; exact x4 e
  ·exact e
 have h2 := List.Nodup.length_le_of_subset h.ndz fun z hz => (h.hid z hz).1
 have h3 := h.lenz
 have h4 := h.count
 omega
theorem Open.all {n : Nat} (a : Ask) (ha : a.n = n) : Open a ((List.range n).map fun i : Nat => (i : Int) + 1) :=
 ⟨fun v hv => by obtain ⟨i, _, rfl⟩ := List.mem_map.1 hv; omega, fun X _ _ _ v h1 h2 => .inr (.inr (List.mem_map.2 ⟨(v - 1).toNat, List.mem_range.2 (by omega), by omega⟩))⟩
theorem RunTo.learn {Ls Zs : List Pb} {new : List Stp} (h : RunTo a Ls Zs new cs log T (left + 1) k) {c0 : Int} {rest : List Int} (hl : Learnt a.asm (a.G ++ Ls) cs T c c0 rest) :
  RunTo a (Ls ++ [newPb T c]) Zs (new ++ [⟨1, newPb T c, []⟩]) (cs ++ [newPb T c]) (log ++ [⟨1, newPb T c, []⟩]) (nextT T c (topLv T rest).toNat c0) left k := by
 have hg := h.grew.snoc (s := ⟨1, newPb T c, []⟩) (.inl ⟨rfl, rfl, T.learnt c, rfl, fun l hl' => ⟨(hl.lits l hl').1, by rw [← h.vars]; exact (hl.lits l hl').2.2.2⟩, hl.len, by rw [← h.lcs]; exact hl.rup⟩)
 rw [if_neg (by show ¬ (1 : Nat) = 3; omega), Nat.add_zero] at hg
 refine ⟨by rw [← List.append_assoc]; exact hl.next, ?_, ?_, fun p hp => ?_, h.ndz, fun z hz => ⟨(h.hid z hz).1, List.mem_append_left _ (h.hid z hz).2⟩, h.lenz, ?_, by rw [h.llog, List.append_assoc], by rw [h.lcs, List.map_append, List.append_assoc]; rfl, hg, ?_⟩
 ·unfold nextT
  rw [Tr.imp_vars, Tr.back_vars]
  exact h.vars
 ·rw [List.nodup_append]
  refine ⟨h.ndl, by simp, fun x hx y hy => ?_⟩
  rw [List.mem_singleton.1 hy]
  exact fun e => hl.new (List.mem_append_right _ (e ▸ hx))
 ·rcases List.mem_append.1 hp with hp | hp
  ·exact h.form p hp
  ·rw [List.mem_singleton.1 hp]
   refine ⟨T.learnt c, rfl, by rw [hl.form]; simp, hl.anti, fun x hx => ⟨?_, by rw [← h.vars]; exact (hl.lits x hx).2.2.2, T.pre 0, pre_okX h.srch.wf 0, pre_sm h.srch.wf 0, fun p hp => hl.free p (List.mem_append_left _ hp), (hl.un x hx).1, (hl.un x hx).2⟩⟩
   have := litB_iff.1 (hl.lits x hx).1
   omega
 ·have := h.count
  rw [List.length_append]
  simp
  omega
 ·have := h.len
  simp only [List.length_append, List.length_singleton]
  omega
theorem Run.lazy (h : Run a cs log T (left + 1) k) {s : Stp} (hk : s.kind = 3) (hz : a.Lz s) (hH : s.c ∈ a.Hs) (hn : s.c ∉ cs) (hok : s.c.Ok) (hl : ∀ l ∈ s.c.lits, l.natAbs ≤ a.n) : Run a (cs ++ [s.c]) (log ++ [s]) T left (k + 1) := by
 obtain ⟨Ls, Zs, new, h⟩ := h
 have hg := h.grew.snoc (s := s) (.inr ⟨hk, hz, hH⟩)
 rw [if_pos hk] at hg
 refine ⟨Ls, Zs ++ [s.c], new ++ [s], h.srch.add hok (by rw [h.vars]; exact hl), h.vars, h.ndl, h.form, ?_, fun z hz => ?_, ?_, ?_, by rw [h.llog, List.append_assoc], by rw [h.lcs, List.map_append, List.append_assoc]; rfl, hg, ?_⟩
 ·rw [List.nodup_append]
  refine ⟨h.ndz, by simp, fun x hx y hy => ?_⟩
  rw [List.mem_singleton.1 hy]
  exact fun e => hn (e ▸ (h.hid x hx).2)
 ·rcases List.mem_append.1 hz with hz | hz
  ·exact ⟨(h.hid z hz).1, List.mem_append_left _ (h.hid z hz).2⟩
  ·rw [List.mem_singleton.1 hz]
   exact ⟨hH, List.mem_append_right _ (List.mem_singleton.2 rfl)⟩
 ·have := h.lenz
  simp only [List.length_append, List.length_singleton]
  omega
 ·have := h.count
  omega
 ·have := h.len
  simp only [List.length_append, List.length_singleton]
  omega
end
end
section
open Go.RowKit
theorem SolP.pack {w w' : World} {F : Nat → Prop} {sb tb eb ob pm : Nat} {S : Sol} (h : SolP w' (fun g => F g ∨ w.heap.size ≤ g) sb tb eb ob pm S) : ∃ F', SolP w' F' sb tb eb ob pm S ∧ ∀ g, F' g → g < w'.heap.size ∧ (F g ∨ w.heap.size ≤ g) :=
 ⟨_, h.restrict, fun _ hg => ⟨hg.2, hg.1⟩⟩
theorem srup_any {w : World} {F G : Nat → Prop} {sb tb eb ob pm n cA : Nat} {A : Option Addr} {S : Sol} {ls : List Int} (h : SolP w F sb tb eb ob pm S) (hl : Rd w G 1 (.slice A n cA) n (ints ls)) (hi : ∀ x ∈ ls, I64 x) (hn : n ≤ 1000) (hc : (clauseB ls).1.lits.length ≤ 1000 ∧ (clauseB ls).1.coefs.length ≤ 1000) (hlog : S.log.length ≤ 900000) :
  Calls Tryz.prog 43 #[.pointer (some ⟨sb, 0, none⟩), .slice A n cA] w fun r w' => ∃ pv F', r = .returned pv ∧ PbRd w' (fun g => w.heap.size ≤ g ∧ ¬ F' g) pv (clauseB ls).1 ∧ SolP w' F' sb tb eb ob pm { S with log := S.log ++ [⟨1, (clauseB ls).1, []⟩] } ∧ (∀ g, F' g → g < w'.heap.size ∧ (F g ∨ w.heap.size ≤ g)) ∧ Mod F w w' := by
 obtain ⟨R, hR⟩ : ∃ R, clauseB ls = R := ⟨_, rfl⟩
 have hll : ls.length = n := by have := hl.1; simpa [ints_length] using this
 have hol := once_len ls
 rw [hR] at hc ⊢
 have HR := hid hR
 obtain ⟨X0, hX0, bX0, k0, s0⟩ := alloc_step w (.cells #[.slice none 0 0, .slice none 0 0, .int .i64 0] 41)
 have HX0 := hid hX0
 have hl0 := hid (hl.below bX0)
 have KO := hid k0
 have B0 := hid bX0
 have H0 := hid (h.restrict.below bX0)
 have Hsb := hid h.blocks
 clear hX0 bX0 k0 hR hl h
 go_enter Tryz.func43, Tryz.ntmps43
 go_wp2_with fail
 rw [HX0.o]
 refine (clause_any hl0.o hi (by omega) (by rw [← hll]; exact once_len ls) fun x hx => mem_once.1 hx).mono ?_
 rintro r w1 ⟨⟨pv, rfl, hpv⟩, b1⟩
 rw [HR.o] at hpv ⊢
 obtain ⟨⟨A1, n1, c1, A2, n2, c2, rfl, r1, r2⟩, hb1⟩ := hpv
 have KO1 := hid (keep_blk KO.o b1)
 have H1 := hid (H0.o.below b1)
 have B1 := hid (B0.o.trans (b1.mono B0.o.size))
 have s1 := b1.size
 obtain ⟨X2, hX2, bX2, k2, s2⟩ := alloc_step w1 (.cells #[.slice A1 n1 c1, .slice A2 n2 c2, .int .i64 R.1.bound] 41)
 have HX2 := hid hX2
 have R1 := hid ((r1.mono (G := fun g => X0.heap.size ≤ g ∧ g < w1.heap.size) fun g hg hx => ⟨hx, hg⟩).below bX2)
 have R2 := hid ((r2.mono (G := fun g => X0.heap.size ≤ g ∧ g < w1.heap.size) fun g hg hx => ⟨hx, hg⟩).below bX2)
 have KO2 := hid (keep_blk KO1.o bX2)
 have K2 := hid k2
 have H2 := hid (H1.o.below bX2)
 have B2 := hid (B1.o.trans (bX2.mono B1.o.size))
 obtain ⟨t0, t1, t2⟩ := box3 k2
 rw [← hX2] at t0 t1 t2
 clear hX2 bX2 k2 r1 r2 b1 HR hi hn hll H1 KO1 B1
 go_wp2_with fail
 rw [HX2.o] at t0 t1 t2 ⊢
 refine (s_note (G := fun g => X0.heap.size ≤ g ∧ g < w1.heap.size) (t := ⟨.int .u8 1, .slice A1 n1 c1, .slice A2 n2 c2, .int .i64 R.1.bound, .slice none 0 0, .slice none 0 0⟩) (s := ⟨1, R.1, []⟩) H2.o ⟨A1, n1, c1, A2, n2, c2, none, 0, rfl, ⟨⟨A1, n1, c1, A2, n2, c2, rfl, R1.o, R2.o⟩, hb1⟩, Rd.empty _ _ _⟩ ⟨Nat.le_trans hc.1 (by omega), Nat.le_trans hc.2 (by omega), Nat.zero_le _⟩ hlog).mono ?_
 rintro r w3 ⟨⟨v, rfl⟩, h3, m3⟩
 have s3 := m3.size
 have hZ2 := lt_of_block K2.o
 have hZ0 := lt_of_block KO2.o
 have K3 := hid ((m3.block _ hZ2 fun hg => by have := hg.2; omega).trans K2.o)
 have KO3 := hid ((m3.block _ hZ0 fun hg => by have := hg.2; omega).trans KO2.o)
 obtain ⟨t0, t1, t2⟩ := box3 K3.o
 obtain ⟨q0, q1, q2⟩ := box3 KO3.o
 obtain ⟨f0, f1, f2⟩ := froz3 KO3.o
 have H3 := hid h3
 have M3 := hid m3
 clear h3 m3
 go_wp2_with fail
 obtain ⟨u0, u1, u2, m4⟩ := set3 q0 q1 q2 (.slice A1 n1 c1) (.slice A2 n2 c2) (.int .i64 R.1.bound)
 have hs2 := B2.o.size
 have up : ∀ {v : Value} {q : Nat} {xs : List Value}, Rd X2 (fun g => X0.heap.size ≤ g ∧ g < w1.heap.size) 1 v q xs → Rd _ (fun g => w.heap.size ≤ g ∧ ¬ ((F g ∧ g < w.heap.size ∨ X2.heap.size ≤ g) ∧ g < w3.heap.size)) 1 v q xs := fun h =>
  ((h.mod M3.o fun g _ hg hf => by have := hf.2; omega).mod m4 fun g _ hf e => by omega).mono fun g _ hg => ⟨by omega, fun hf => by omega⟩
 refine bodyPost_ret (v := .agg #[.slice A1 n1 c1, .slice A2 n2 c2, .int .i64 R.1.bound]) (by simp [results, Tryz.f43, go_sem, u0, u1, u2]) rfl ⟨_, fun g => (F g ∧ g < w.heap.size ∨ X2.heap.size ≤ g) ∧ g < w3.heap.size, rfl, ⟨⟨A1, n1, c1, A2, n2, c2, rfl, up R1.o, up R2.o⟩, hb1⟩, ?_, fun g hg => ⟨by have := m4.size; omega, hg.1.imp (fun h => h.1) fun h => by omega⟩, ?_⟩
 ·exact H3.o.restrict.mod m4 fun g _ hf e => by omega
 ·refine ((Mod.of_below B2.o).trans (M3.o.mono fun g _ hg => .inl hg.1)).trans (m4.mono fun g _ hg => .inr (by omega))
theorem sfit1_any {w : World} {sb vars zb : Nat} {l : Int} (cz : w.cell? ⟨zb, 0, none⟩ = some (.pointer (some ⟨sb, 0, none⟩))) (c0 : w.cell? ⟨sb, 0, none⟩ = some (.int .i64 vars)) (hv : vars ≤ 65536) :
  Calls Tryz.prog 77 #[.int .i64 l, .pointer (some ⟨zb, 0, none⟩)] w fun r w' => r = .returned (.bool (!(decide (l ≠ 0) && decide (l.natAbs ≤ vars)))) ∧ Below w.heap.size w w' := by
 go_enter Tryz.func77, Tryz.ntmps77
 go_wp2_with fail
 refine (sliteral_any c0 hv).mono ?_
 rintro r w1 ⟨rfl, b1⟩
 obtain ⟨q, hq⟩ : ∃ q, (decide (l ≠ 0) && decide (l.natAbs ≤ vars)) = q := ⟨_, rfl⟩
 rw [hq]
 go_wp2_with fail
 go_ret
 exact ⟨by rw [hq]; rfl, b1⟩
def fitsB (vars : Nat) (c : Pb) : Bool := c.ok && !(c.lits.any fun l => !(decide (l ≠ 0) && decide (l.natAbs ≤ vars)))
theorem sfits_any {w : World} {G : Nat → Prop} {sb vars : Nat} {v : Value} {c : Pb} (c0 : w.cell? ⟨sb, 0, none⟩ = some (.int .i64 vars)) (hsb : sb < w.heap.size) (hv : vars ≤ 65536) (hc : PbRd w G v c) (hic : ∀ k ∈ c.coefs, I64 k) :
  Calls Tryz.prog 44 #[.pointer (some ⟨sb, 0, none⟩), v] w fun r w' => r = .returned (.bool (fitsB vars c)) ∧ Below w.heap.size w w' := by
 obtain ⟨⟨A, n, cn, B, m0, cm, rfl, hx, hk⟩, hbd⟩ := hc
 obtain ⟨ob, hob⟩ : ∃ z, w.heap.size = z := ⟨_, rfl⟩
 obtain ⟨X0, hX0, bX0, k0, s0⟩ := alloc_step w (.cells #[.pointer (some ⟨sb, 0, none⟩)] 24)
 obtain ⟨X1, hX1, bX1, k1, s1⟩ := alloc_step X0 (.cells #[.slice A n cn, .slice B m0 cm, .int .i64 c.bound] 41)
 have HX0 := hid hX0
 have HX1 := hid hX1
 have B1 := hid (bX0.trans (bX1.mono bX0.size))
 obtain ⟨oc, hoc⟩ : ∃ z, ob + 1 = z := ⟨_, rfl⟩
 rw [hob] at k0 s0
 rw [s0, hoc] at k1 s1
 have k0' := keep_blk k0 bX1
 have z0 : X1.cell? ⟨ob, 0, none⟩ = some (.pointer (some ⟨sb, 0, none⟩)) := by rw [cell_of_row _ _ _ _ _ _ k0']; rfl
 obtain ⟨p0, p1, p2⟩ := box3 k1
 have d0 := hid ((World.cell?_of_block (B1.o.block sb hsb)).trans c0)
 have hcp := hid (show PbRd X1 G (.agg #[.slice A n cn, .slice B m0 cm, .int .i64 c.bound]) c from ⟨⟨A, n, cn, B, m0, cm, rfl, hx.below B1.o, hk.below B1.o⟩, hbd⟩)
 have Hx := hid (hx.below B1.o)
 have K0 := hid k0'
 have K1 := hid k1
 clear hx hk c0 k0 k0' k1 bX0 bX1 hX0 hX1
 go_enter Tryz.func44, Tryz.ntmps44
 go_wp2_with fail
 rw [HX0.o]
 try rw [hob]
 rw [HX1.o]
 try rw [s0, hoc]
 go_wp2_with fail
 refine (valid_any hcp.o hic).mono ?_
 rintro r w2 ⟨rfl, b2⟩
 have sz := b2.size
 have K0 := hid (keep_blk K0.o b2)
 have K1 := hid (keep_blk K1.o b2)
 obtain ⟨p0, p1, p2⟩ := box3 K1.o
 have Hx := hid (Hx.o.below b2)
 have hs := B1.o.size
 have D0 := hid ((World.cell?_of_block (b2.block sb (by omega))).trans d0.o)
 have B2 := hid (B1.o.trans (b2.mono B1.o.size))
 clear b2
 cases hok : c.ok
 ·go_wp2_with fail
  go_ret
  exact ⟨by unfold fitsB; rw [hok]; rfl, B2.o⟩
 ·go_wp2_with fail
  refine (containsfunc_any Hx.o (f := 77) (first := #[]) (captured := #[.pointer (some ⟨ob, 0, none⟩)]) (p := fun l => !(decide (l ≠ 0) && decide (l.natAbs ≤ vars))) (enters_of Tryz.func77 (by kernel_rfl) rfl) fun W x hW _ => ?_).mono ?_
  ·refine (sfit1_any (w := W) (zb := ob) ((World.cell?_of_block (hW.block ob (lt_of_block K0.o))).trans (by rw [cell_of_row _ _ _ _ _ _ K0.o]; rfl)) ((World.cell?_of_block (hW.block sb (by omega))).trans D0.o) hv)
  ·rintro r w3 ⟨rfl, b3⟩
   obtain ⟨q, hq⟩ : ∃ q, (c.lits.any fun l => !(decide (l ≠ 0) && decide (l.natAbs ≤ vars))) = q := ⟨_, rfl⟩
   rw [hq]
   go_wp2_with fail
   go_ret
   exact ⟨by unfold fitsB; rw [hok, hq]; rfl, B2.o.trans (b3.mono B2.o.size)⟩
end
end Go.Proofs.YtcjmpobccbnpkaaGreat
