/-
 Chapter 32: several texts in one (SeA SeB SeC SeD).
-/
import Derived.Test.YtcjmpobccbnpkaaGreatMjax
import Derived.Test.YtcjmpobccbnpkaaGreatMjan
import Derived.Test.YtcjmpobccbnpkaaGreatMjad
import Derived.Test.YtcjmpobccbnpkaaGreatMjbe
namespace Go.Proofs.YtcjmpobccbnpkaaGreat
section
open Go.RowKit
def impC (c : Pb) (ls : List Int) : Bool := ls.all (fun l => decide (l ∈ c.lits)) && decide ((c.total fun l => !decide (l ∈ ls)) < c.bound)
theorem impC_off {c : Pb} {X : List Int} (hs : c.slackX X < 0) : impC c (c.offX X) = true := by
 unfold impC
 rw [Bool.and_eq_true, List.all_eq_true]
 refine ⟨fun l hl => decide_eq_true (mem_offX.1 hl).1, decide_eq_true ?_⟩
 unfold Pb.slackX at hs
 rw [Pb.total_cong (q := fun l => decide (0 ≤ valX X l)) fun j hj => ?_]
 ·omega
 ·have hm := nth_mem hj
  by_cases e : valX X (nth c.lits j) < 0
  ·rw [decide_eq_false (by omega : ¬ 0 ≤ valX X (nth c.lits j)), decide_eq_true (mem_offX.2 ⟨hm, valX_neg.1 e⟩)]; rfl
  ·rw [decide_eq_true (by omega : 0 ≤ valX X (nth c.lits j)), decide_eq_false (fun h => e (valX_neg.2 (mem_offX.1 h).2))]; rfl
theorem impC_new {c : Pb} {X : List Int} (hc : c.Ok) {l : Int} (hl : l ∈ c.newX X) : impC c (l :: c.offX X) = true := by
 obtain ⟨j, hj, h2, h3, rfl⟩ := mem_newX.1 hl
 unfold impC
 rw [Bool.and_eq_true, List.all_eq_true]
 refine ⟨fun l hl => decide_eq_true ((List.mem_cons.1 hl).elim (fun e => e ▸ nth_mem hj) fun h => (mem_offX.1 h).1), decide_eq_true ?_⟩
 have h8 := total_drop hc (p := fun l => decide (0 ≤ valX X l)) (q := fun l => !decide (l ∈ nth c.lits j :: c.offX X)) hj (by simp [h3]) (by simp) fun i hi hq => by
  simp only [Bool.not_eq_true', decide_eq_false_iff_not, decide_eq_true_eq] at hq ⊢
  refine Int.not_lt.1 fun hn => hq (List.mem_cons_of_mem _ (mem_offX.2 ⟨nth_mem hi, valX_neg.1 hn⟩))
 unfold Pb.slackX at h2
 omega
def smX (Y : List Int) : Prop := ∀ l ∈ Y, l.natAbs ≤ 65536
def UPc (cs : List Pb) (c : List Int) : Prop := ∀ Y, okX Y → smX Y → (∀ p ∈ cs, p.Calm Y) → (∃ x ∈ c, valX Y x = 1) ∨ ∃ x ∈ c, ∃ y ∈ c, x ≠ y ∧ valX Y x = 0 ∧ valX Y y = 0
theorem UPc.mono {cs ds : List Pb} {c : List Int} (h : UPc cs c) (hs : ∀ p ∈ cs, p ∈ ds) : UPc ds c := fun Y h1 h3 h2 => h Y h1 h3 fun p hp => h2 p (hs p hp)
theorem valX_cases (X : List Int) (l : Int) : valX X l = 1 ∨ valX X l = 0 ∨ valX X l = -1 := by
 unfold valX
 split
 ·exact .inl rfl
 ·split
  ·exact .inr (.inr rfl)
  ·exact .inr (.inl rfl)
theorem total_add {c : Pb} (h : c.Ok) {p q : Int → Bool} {j : Nat} (hpq : ∀ i, i < c.lits.length → p (nth c.lits i) = true → q (nth c.lits i) = true ∨ i = j) (hj : j < c.lits.length) : c.total p ≤ c.total q + nth c.coefs j := by
 have key : ∀ (V : List Nat), V.Nodup → (∀ i ∈ V, i < c.lits.length) → c.part p V ≤ c.part q V + (if j ∈ V then nth c.coefs j else 0) := by
  intro V
  induction V with
  | nil => intro _ _; simp [Pb.part]
  | cons i V ih =>
   intro hnd hV
   have h1 := ih (List.nodup_cons.1 hnd).2 fun k hk => hV k (List.mem_cons_of_mem _ hk)
   have h2 := hV i (List.mem_cons_self ..)
   have h3 := h.coef i h2
   have e1 : ∀ r : Int → Bool, c.part r (i :: V) = (if r (nth c.lits i) = true then nth c.coefs i else 0) + c.part r V := fun r => by simp [Pb.part]
   rw [e1, e1]
   by_cases e : i = j
   ·subst e
    have h4 : i ∉ V := (List.nodup_cons.1 hnd).1
    rw [if_neg h4] at h1
    rw [if_pos (List.mem_cons_self ..)]
    have h5 : (if p (nth c.lits i) = true then nth c.coefs i else 0) ≤ nth c.coefs i := by split <;> omega
    have h6 : (0 : Int) ≤ (if q (nth c.lits i) = true then nth c.coefs i else 0) := by split <;> omega
    omega
   ·have h5 : (if j ∈ i :: V then nth c.coefs j else 0) = (if j ∈ V then nth c.coefs j else 0) := by simp [Ne.symm e]
    rw [h5]
    cases hpi : p (nth c.lits i) with
    | true =>
     rw [(hpq i h2 hpi).resolve_right e]
     simp only [if_true]
     omega
    | false =>
     have h6 : (0 : Int) ≤ (if q (nth c.lits i) = true then nth c.coefs i else 0) := by split <;> omega
     simp only [Bool.false_eq_true, if_false]
     omega
 have := key (List.range c.lits.length) List.nodup_range fun i hi => List.mem_range.1 hi
 rw [if_pos (List.mem_range.2 hj)] at this
 exact this
theorem UPc.of_imp {cs : List Pb} {p : Pb} {c : List Int} (hp : p ∈ cs) (hok : p.Ok) (h : impC p c = true) : UPc cs c := by
 intro Y hY _ hc
 unfold impC at h
 simp only [Bool.and_eq_true, List.all_eq_true, decide_eq_true_eq] at h
 obtain ⟨h1, h2⟩ := h
 obtain ⟨c1, c2⟩ := hc p hp
 refine Classical.byContradiction fun hn => ?_
 have hn1 : ∀ x ∈ c, valX Y x ≠ 1 := fun x hx e => hn (.inl ⟨x, hx, e⟩)
 have hn2 : ∀ x ∈ c, ∀ y ∈ c, valX Y x = 0 → valX Y y = 0 → x = y := fun x hx y hy e1 e2 => Classical.byContradiction fun hne => hn (.inr ⟨x, hx, y, hy, hne, e1, e2⟩)
 unfold Pb.slackX at c1 c2
 by_cases hu : ∃ u ∈ c, valX Y u = 0
 ·obtain ⟨u, hu, e⟩ := hu
  obtain ⟨j, hj, ej⟩ := List.getElem_of_mem (h1 u hu)
  have ej : nth p.lits j = u := by rw [nth_eq hj, ej]
  have h3 := total_add hok (p := fun l => decide (0 ≤ valX Y l)) (q := fun l => !decide (l ∈ c)) (j := j) (fun i hi hpi => by
   simp only [decide_eq_true_eq, Bool.not_eq_true', decide_eq_false_iff_not] at hpi ⊢
   by_cases hm : nth p.lits i ∈ c
   ·refine .inr (hok.inj hi hj ?_)
    have := hn1 _ hm
    rcases valX_cases Y (nth p.lits i) with e1 | e1 | e1
    ·exact absurd e1 this
    ·rw [ej, hn2 _ hm u hu e1 e]
    ·omega
   ·exact .inl hm) hj
  exact c2 j hj (by omega) (by rw [ej]; exact e)
 ·have h3 := hok.total_le (p := fun l => decide (0 ≤ valX Y l)) (q := fun l => !decide (l ∈ c)) fun i hi hpi => by
   simp only [decide_eq_true_eq, Bool.not_eq_true', decide_eq_false_iff_not] at hpi ⊢
   intro hm
   rcases valX_cases Y (nth p.lits i) with e1 | e1 | e1
   ·exact hn1 _ hm e1
   ·exact hu ⟨_, hm, e1⟩
   ·omega
  omega
theorem UPc.off {cs : List Pb} {X : List Int} {i : Nat} (hok : ∀ p ∈ cs, p.Ok) (hi : i < cs.length) (hs : (cAt cs i).slackX X < 0) : UPc cs ((cAt cs i).offX X) :=
 UPc.of_imp (cAt_mem hi) (hok _ (cAt_mem hi)) (impC_off hs)
theorem UPc.from_ {cs : List Pb} {v : Nat} {e : Ent} (hok : ∀ p ∈ cs, p.Ok) (h : FromX cs v e) : UPc cs e.reason := by
 obtain ⟨i, X, hi, hn, hr, _⟩ := h
 rw [hr]
 exact UPc.of_imp (cAt_mem hi) (hok _ (cAt_mem hi)) (impC_new (hok _ (cAt_mem hi)) hn)
def RsOk (cs : List Pb) (T : Tr) : Prop := ∀ e ∈ T.L, e.reason ≠ [] → UPc cs e.reason
section
variable {cs ds : List Pb} {T : Tr} {Y : List Int}
theorem RsOk.mono (h : RsOk cs T) (hs : ∀ p ∈ cs, p ∈ ds) : RsOk ds T := fun e he hr => (h e he hr).mono hs
theorem RsOk.dec (h : RsOk cs T) (l : Int) : RsOk cs (T.dec l) := by
 unfold Tr.dec
 split
 ·intro e he hr
  rcases List.mem_append.1 he with he | he
  ·exact h e he hr
  ·rw [List.mem_singleton.1 he] at hr
   exact absurd rfl hr
 ·exact h
theorem RsOk.imply (h : RsOk cs T) {l : Int} {r : List Int} (hr : UPc cs r) : RsOk cs (T.imply l r) := by
 intro e he hne
 rcases List.mem_append.1 he with he | he
 ·exact h e he hne
 ·rw [List.mem_singleton.1 he]
  exact hr
theorem Tr.back_L (T : Tr) (k : Nat) : ∃ s, (T.back k).L = T.L.take s := by
 unfold Tr.back
 split
 ·exact ⟨_, rfl⟩
 ·exact ⟨T.L.length, by simp⟩
theorem RsOk.back (h : RsOk cs T) (k : Nat) : RsOk cs (T.back k) := by
 obtain ⟨s, e⟩ := T.back_L k
 intro x hx
 rw [e] at hx
 exact h x (List.mem_of_mem_take hx)
theorem RsOk.exams {xs : List Nat} (hok : ∀ p ∈ cs, p.Ok) (hw : T.WF) (hv : ∀ c ∈ cs, ∀ l ∈ c.lits, l.natAbs ≤ T.vars) (h : RsOk cs T) (hi : ∀ i ∈ xs, i < cs.length) (hf : fineX cs T.lits xs) : RsOk cs (T.exams cs xs) := by
 obtain ⟨N, hN, hF⟩ := (Tr.exams_is hok xs T hw hv hi).more
 intro e he hne
 rw [hN] at he
 rcases List.mem_append.1 he with he | he
 ·exact h e he hne
 ·exact UPc.from_ hok (hF hf e he)
theorem level0_in (hw : T.WF) (h : RsOk cs T) (hY : okX Y) (hb : smX Y) (hc : ∀ p ∈ cs, p.Calm Y) : ∀ (i : Nat) (e : Ent), T.L[i]? = some e → e.level = 0 → e.lit ∈ Y := by
 intro i
 induction i using Nat.strongRecOn with
 | _ i ih =>
  intro e he hl
  have hlv := hw.level i e he
  rw [hl] at hlv
  have hns : i ∉ T.starts := fun hi => by
   have : i ∈ T.starts.filter (· ≤ i) := List.mem_filter.2 ⟨hi, by simp⟩
   rw [List.eq_nil_of_length_eq_zero hlv.symm] at this
   cases this
  obtain ⟨h1, h2⟩ := (hw.reason i e he).2 hns
  have hoth : ∀ x ∈ e.reason, x ≠ e.lit → valX Y x = -1 := fun x hx hne => by
   rcases h2 x hx with e1 | ⟨j, hj, f, hf, hfx⟩
   ·exact absurd e1 hne
   ·have hfl : f.level = 0 := by
     rw [hw.level j f hf]
     have : (T.starts.filter (· ≤ j)).length ≤ (T.starts.filter (· ≤ i)).length := by
      rw [← List.countP_eq_length_filter, ← List.countP_eq_length_filter]
      exact List.countP_mono_left fun x _ hx => by simp only [decide_eq_true_eq] at hx ⊢; omega
     omega
    have hfY := ih j hj f hf hfl
    rw [hfx] at hfY
    unfold valX
    rw [if_neg fun hxY => hY x hxY hfY, if_pos hfY]
  have hne : e.reason ≠ [] := fun e1 => by rw [e1] at h1; cases h1
  rcases h e (List.mem_of_getElem? he) hne Y hY hb hc with ⟨x, hx, hv⟩ | ⟨x, hx, y, hy, hxy, hvx, hvy⟩
  ·by_cases ex : x = e.lit
   ·rw [← ex]
    exact valX_pos.1 (by omega)
   ·have := hoth x hx ex; omega
  ·by_cases ex : x = e.lit
   ·have := hoth y hy (fun ey => hxy (ex.trans ey.symm)); omega
   ·have := hoth x hx ex; omega
theorem learnt_rup (hw : T.WF) (h : RsOk cs T) {c : List Int} (hok : okFor T c = true) (hc0 : UPc cs c) (hY : okX Y) (hb : smX Y) (hc : ∀ p ∈ cs, p.Calm Y) : ¬ ∀ x ∈ T.learnt c, -x ∈ Y := by
 intro hall
 refine not_calm hw hok (V := valX Y) (fun x _ hx => ?_) (fun m hm hl => ?_) (fun x hx => ?_) (db := c :: (T.L.map Ent.reason).filter fun r => !r.isEmpty) (List.mem_cons_self ..) (fun m hm hne => ?_) (fun cl hcl => ?_)
 ·have h1 : x ∈ Y := valX_pos.1 (by omega)
  unfold valX
  rw [if_neg (hY x h1), Int.neg_neg, if_pos h1]
 ·obtain ⟨i, e, he, h1⟩ := Tr.mem_lits.1 hm
  have h2 : T.levelOf (e.v : Nat) = e.level := Tr.level_of hw he
  unfold Tr.lvOf at hl
  rw [← h1] at hl
  unfold Ent.v at h2
  have h3 := level0_in hw h hY hb hc i e he (by omega)
  rw [h1] at h3
  unfold valX
  rw [if_pos h3]
 ·have h1 := hall x hx
  unfold valX
  rw [if_pos h1]
 ·obtain ⟨i, e, he, h1⟩ := Tr.mem_lits.1 hm
  have h2 : T.reasonOf (m.natAbs : Nat) = e.reason := by
   have := hw.idx he
   unfold Ent.v at this
   rw [h1] at this
   simp [Tr.reasonOf, this, he]
  rw [h2] at hne ⊢
  refine List.mem_cons_of_mem _ (List.mem_filter.2 ⟨List.mem_map.2 ⟨e, List.mem_of_getElem? he, rfl⟩, ?_⟩)
  cases hr : e.reason with
  | nil => exact absurd hr hne
  | cons a b => rfl
 ·rcases List.mem_cons.1 hcl with rfl | hcl
  ·exact hc0 Y hY hb hc
  ·obtain ⟨h1, h2⟩ := List.mem_filter.1 hcl
   obtain ⟨e, he, rfl⟩ := List.mem_map.1 h1
   exact h e he (fun e1 => by rw [e1] at h2; cases h2) Y hY hb hc
theorem level0_none (hw : T.WF) (h : RsOk cs T) {c : List Int} (hc0 : UPc cs c) (hl : ∀ x ∈ c, -x ∈ T.lits ∧ T.lvOf x = 0) (hY : okX Y) (hb : smX Y) (hc : ∀ p ∈ cs, p.Calm Y) : False := by
 have hv : ∀ x ∈ c, valX Y x = -1 := fun x hx => by
  obtain ⟨h1, h2⟩ := hl x hx
  obtain ⟨i, e, he, h3⟩ := Tr.mem_lits.1 h1
  have h4 : T.levelOf (e.v : Nat) = e.level := Tr.level_of hw he
  unfold Tr.lvOf at h2
  rw [← Int.natAbs_neg, ← h3] at h2
  unfold Ent.v at h4
  have h5 := level0_in hw h hY hb hc i e he (by omega)
  rw [h3] at h5
  unfold valX
  rw [if_neg fun h6 => hY x h6 h5, if_pos h5]
 rcases hc0 Y hY hb hc with ⟨x, hx, e⟩ | ⟨x, hx, y, hy, _, e, _⟩
 ·have := hv x hx; omega
 ·have := hv x hx; omega
end
def Tr.pre (T : Tr) (k : Nat) : List Int := T.lits.take (T.starts.getD k T.L.length)
def PreOk (G : List Pb) (T : Tr) : Prop := ∀ k, k < T.starts.length → ∀ p ∈ G, p.Calm (T.pre k)
section
variable {G : List Pb} {T : Tr}
theorem Tr.lits_len (T : Tr) : T.lits.length = T.L.length := by simp [Tr.lits]
theorem Tr.pre_at {T : Tr} {k : Nat} (hk : k < T.starts.length) : T.pre k = T.lits.take T.starts[k] := by
 unfold Tr.pre
 rw [List.getD_eq_getElem?_getD, List.getElem?_eq_getElem hk]
 rfl
theorem PreOk.none (h : T.starts = []) : PreOk G T := fun k hk => by rw [h] at hk; exact absurd hk (by simp)
theorem PreOk.more (h : PreOk G T) {T' : Tr} {N : List Ent} (hw : T.WF) (hs : T'.starts = T.starts) (hL : T'.L = T.L ++ N) : PreOk G T' := by
 intro k hk p hp
 have hk2 : k < T.starts.length := by rw [← hs]; exact hk
 have h1 := h k hk2 p hp
 rw [Tr.pre_at hk2] at h1
 rw [Tr.pre_at hk]
 have e : T'.starts[k] = T.starts[k] := by simp only [hs]
 rw [e]
 have hlt := hw.below _ (List.getElem_mem hk2)
 have e2 : T'.lits = T.lits ++ N.map Ent.lit := by unfold Tr.lits; rw [hL, List.map_append]
 rw [e2, List.take_append_of_le_length (by rw [Tr.lits_len]; omega)]
 exact h1
theorem PreOk.decide (h : PreOk G T) (hw : T.WF) (hc : ∀ p ∈ G, p.Calm T.lits) (l : Int) : PreOk G (T.decide l) := by
 intro k hk p hp
 have e2 : (T.decide l).lits = T.lits ++ [l] := by simp [Tr.decide, Tr.lits]
 rw [Tr.pre_at hk, e2]
 have es : (T.decide l).starts = T.starts ++ [T.L.length] := rfl
 rcases Nat.lt_or_ge k T.starts.length with hk2 | hk2
 ·have e3 : (T.decide l).starts[k] = T.starts[k] := by simp only [es]; rw [List.getElem_append_left hk2]
  rw [e3, List.take_append_of_le_length (by rw [Tr.lits_len]; have := hw.below _ (List.getElem_mem hk2); omega), ← Tr.pre_at hk2]
  exact h k hk2 p hp
 ·have hk3 : k = T.starts.length := by rw [es, List.length_append] at hk; simp at hk; omega
  have e3 : (T.decide l).starts[k] = T.L.length := by simp only [es]; rw [List.getElem_append_right hk2]; simp [hk3]
  rw [e3, List.take_append_of_le_length (by rw [Tr.lits_len]; exact Nat.le_refl _), List.take_of_length_le (by rw [Tr.lits_len]; exact Nat.le_refl _)]
  exact hc p hp
theorem Tr.undo_pre (hw : T.WF) {k K : Nat} (hK : K < T.starts.length) (hk : k < K) : (T.undo K).pre k = T.pre k := by
 have hk3 : k < T.starts.length := by omega
 rw [Tr.undo_at hK]
 have h1 : (T.starts.take K).getD k (T.L.take T.starts[K]).length = T.starts[k] := by
  rw [List.getD_eq_getElem?_getD, List.getElem?_take, if_pos hk, List.getElem?_eq_getElem hk3]
  rfl
 have h2 : T.starts.getD k T.L.length = T.starts[k] := by
  rw [List.getD_eq_getElem?_getD, List.getElem?_eq_getElem hk3]
  rfl
 unfold Tr.pre
 rw [h2]
 show List.take ((T.starts.take K).getD k (T.L.take T.starts[K]).length) ((T.L.take T.starts[K]).map Ent.lit) = _
 rw [h1, ← List.map_take, List.take_take, Nat.min_eq_left (by have := pairwise_get hw.starts hk hK; omega), List.map_take]
 rfl
theorem PreOk.back (h : PreOk G T) (hw : T.WF) (K : Nat) : PreOk G (T.back K) := by
 unfold Tr.back
 split
 ·rename_i hK
  intro k hk p hp
  have hk2 : k < K := by
   rw [Tr.undo_at hK] at hk
   simp at hk
   omega
  rw [Tr.undo_pre hw hK hk2]
  exact h k (by omega) p hp
 ·exact h
theorem PreOk.add (h : PreOk G T) {p : Pb} (hp : ∀ k, k < T.starts.length → p.Calm (T.pre k)) : PreOk (G ++ [p]) T := fun k hk q hq => (List.mem_append.1 hq).elim (h k hk q) fun e => by rw [List.mem_singleton.1 e]; exact hp k hk
end
end
section
open Go.RowKit
def asgX (n : Nat) (X : List Int) : List Int := (List.range n).map fun (i : Nat) => valX X ((i : Int) + 1)
theorem assign_asgX (T : Tr) : T.assign = asgX T.vars T.lits := rfl
theorem asgX_len (n : Nat) (X : List Int) : (asgX n X).length = n := by simp [asgX]
theorem asgX_nth {n i : Nat} (X : List Int) (h : i < n) : nth (asgX n X) i = valX X ((i : Int) + 1) := by
 unfold asgX
 rw [nth_eq (by simpa using h)]
 simp
theorem valB_asgX {n : Nat} {X : List Int} (hok : okX X) {l : Int} (h0 : l ≠ 0) (hv : l.natAbs ≤ n) : valB (asgX n X) l = valX X l := by
 have e : nth (asgX n X) (l.natAbs - 1) = valX X (l.natAbs : Nat) := by
  rw [asgX_nth _ (by omega)]
  congr 1
  omega
 unfold valB
 rw [e]
 rcases Int.lt_or_gt_of_ne h0 with hn | hp
 ·have hl : ((l.natAbs : Nat) : Int) = -l := by omega
  rw [hl]
  unfold valX
  rw [Int.neg_neg]
  by_cases h1 : -l ∈ X
  ·have h2 : l ∉ X := fun h => hok l h h1
   rw [if_pos h1, if_neg h2, if_neg (by decide), if_neg (by simp; omega), if_pos h1]
  ·by_cases h2 : l ∈ X
   ·rw [if_neg h1, if_pos h2, if_neg (by decide), if_pos (by simp; omega), if_pos h2]
   ·rw [if_neg h1, if_neg h2, if_neg h2, if_neg h1, if_pos rfl]
 ·have hl : ((l.natAbs : Nat) : Int) = l := by omega
  rw [hl]
  unfold valX
  by_cases h1 : l ∈ X
  ·rw [if_pos h1, if_neg (by decide), if_pos (by simp; omega)]
  ·by_cases h2 : -l ∈ X
   ·rw [if_neg h1, if_pos h2, if_neg (by decide), if_neg (by simp; omega)]
   ·rw [if_neg h1, if_neg h2, if_pos rfl]
section
variable {n : Nat} {X : List Int} {c : Pb}
theorem slackB_asgX (hok : okX X) (hc : c.Ok) (hv : ∀ l ∈ c.lits, l.natAbs ≤ n) : c.slackB (asgX n X) = c.slackX X := by
 unfold Pb.slackB Pb.slackX
 rw [if_pos ((Pb.ok_iff c).2 hc)]
 congr 1
 refine Pb.total_cong fun j hj => ?_
 rw [valB_asgX hok (hc.lit j hj).1 (hv _ (nth_mem hj))]
end
theorem okX_ne {X : List Int} (h : okX X) : ∀ l ∈ X, l ≠ 0 := fun l hl e => h l hl (by rw [e] at hl ⊢; exact hl)
theorem nth_asgX {X : List Int} (hX : okX X) {l : Int} (h0 : l ≠ 0) (hb : l.natAbs ≤ 65536) (hv : valX X l ≠ 0) : nth (asgX 65536 X) (l.natAbs - 1) ≠ 0 := by
 intro e
 have := valB_asgX hX h0 hb
 rw [valB_zero.2 e] at this
 exact hv this.symm
theorem slackX_some {p : Pb} (hp : p.Ok) {X : List Int} (hX : okX X) (hb : smX X) : 0 ≤ p.slackX X ↔ ∃ s, (∀ l ∈ X, tr s l = true) ∧ p.bound ≤ p.total (tr s) := by
 have hv : ∀ l ∈ p.lits, l.natAbs ≤ 65536 := fun l hl => by
  obtain ⟨j, hj, e⟩ := List.getElem_of_mem hl
  have := hp.lit j hj
  rw [nth_eq hj, e] at this
  omega
 constructor
 ·intro h
  rw [← slackB_asgX hX hp hv] at h
  obtain ⟨s, h1, h2⟩ := (slack_some hp _).1 h
  refine ⟨s, fun l hl => ?_, h2⟩
  have h0 := okX_ne hX l hl
  have hvl : valX X l = 1 := by unfold valX; rw [if_pos hl]
  rw [val_tr h1 h0 (nth_asgX hX h0 (hb l hl) (by omega)), valB_asgX hX h0 (hb l hl), hvl]
  rfl
 ·rintro ⟨s, h1, h2⟩
  exact (sound_slack hp h1 (okX_ne hX) h2).1
theorem okX_snoc {X : List Int} (hX : okX X) {l : Int} (hv : valX X l = 0) (h0 : l ≠ 0) : okX (X ++ [l]) := by
 obtain ⟨h1, h2⟩ := valX_zero.1 hv
 intro x hx hn
 rcases List.mem_append.1 hx with hx | hx
 ·rcases List.mem_append.1 hn with hn | hn
  ·exact hX x hx hn
  ·rw [List.mem_singleton] at hn
   exact h2 (by rw [← hn, Int.neg_neg]; exact hx)
 ·rw [List.mem_singleton] at hx
  rw [hx] at hn
  rcases List.mem_append.1 hn with hn | hn
  ·exact h2 hn
  ·rw [List.mem_singleton] at hn
   omega
theorem slackX_less {p : Pb} (hp : p.Ok) {X : List Int} {j : Nat} (hj : j < p.lits.length) (hv : valX X (nth p.lits j) = 0) : p.slackX (X ++ [-(nth p.lits j)]) + nth p.coefs j ≤ p.slackX X := by
 have h8 := total_drop hp (p := fun l => decide (0 ≤ valX X l)) (q := fun l => decide (0 ≤ valX (X ++ [-(nth p.lits j)]) l)) hj (by simp [hv]) (by
  have h1 := (valX_zero.1 hv).1
  have h0 := hp.lit0 hj
  rw [decide_eq_false_iff_not]
  have : valX (X ++ [-(nth p.lits j)]) (nth p.lits j) < 0 := valX_neg.2 ⟨fun hm => (List.mem_append.1 hm).elim h1 fun h => by rw [List.mem_singleton] at h; omega, List.mem_append_right _ (List.mem_singleton.2 rfl)⟩
  omega) fun i hi hq => by
   simp only [decide_eq_true_eq] at hq ⊢
   refine Int.not_lt.1 fun hn => ?_
   obtain ⟨g1, g2⟩ := valX_neg.1 hn
   have : valX (X ++ [-(nth p.lits j)]) (nth p.lits i) < 0 := valX_neg.2 ⟨fun hm => (List.mem_append.1 hm).elim g1 fun h => by
    rw [List.mem_singleton] at h
    rw [h, Int.neg_neg] at g2
    exact (valX_zero.1 hv).1 g2, List.mem_append_left _ g2⟩
   omega
 unfold Pb.slackX
 omega
theorem slackX_add {p : Pb} (hp : p.Ok) {X : List Int} {j : Nat} (hj : j < p.lits.length) : p.slackX X ≤ p.slackX (X ++ [-(nth p.lits j)]) + nth p.coefs j := by
 have h8 := total_add hp (p := fun l => decide (0 ≤ valX X l)) (q := fun l => decide (0 ≤ valX (X ++ [-(nth p.lits j)]) l)) (j := j) (fun i hi hq => by
   simp only [decide_eq_true_eq] at hq ⊢
   by_cases e : i = j
   ·exact .inr e
   ·refine .inl (Int.not_lt.1 fun hn => ?_)
    obtain ⟨g1, g2⟩ := valX_neg.1 hn
    rcases List.mem_append.1 g2 with g2 | g2
    ·have : valX X (nth p.lits i) < 0 := valX_neg.2 ⟨fun hm => g1 (List.mem_append_left _ hm), g2⟩
     omega
    ·rw [List.mem_singleton] at g2
     exact e (hp.inj hi hj (by omega))) hj
 unfold Pb.slackX
 omega
section
variable {ls : List Int} {X : List Int}
theorem clause_up (h : ∀ l ∈ ls, litB l = true) (hn : ls.length ≤ 8) (hok : (clauseB ls).1.Ok) : UPc [(clauseB ls).1] ls := by
 intro Y hY hb hc
 have hcl := hc _ (List.mem_singleton.2 rfl)
 refine Classical.byContradiction fun hno => ?_
 have hn1 : ∀ x ∈ ls, valX Y x ≠ 1 := fun x hx e => hno (.inl ⟨x, hx, e⟩)
 have hn2 : ∀ x ∈ ls, ∀ y ∈ ls, valX Y x = 0 → valX Y y = 0 → x = y := fun x hx y hy e1 e2 => Classical.byContradiction fun hne => hno (.inr ⟨x, hx, y, hy, hne, e1, e2⟩)
 have hfalse : ∀ {Z : List Int}, okX Z → (∀ x ∈ ls, valX Z x = -1) → ¬ ∃ s, (∀ l ∈ Z, tr s l = true) ∧ (clauseB ls).1.bound ≤ (clauseB ls).1.total (tr s) := fun hZ hall ⟨s, h1, h2⟩ => by
  obtain ⟨x, hx, ht⟩ := List.any_eq_true.1 ((clause_holds s h hn).1 h2)
  have := tr_off (s := s) h1 (okX_ne hZ) (l := x) (by have := hall x hx; omega)
  rw [this] at ht
  cases ht
 by_cases hu : ∃ u ∈ ls, valX Y u = 0
 ·obtain ⟨u, hu, e⟩ := hu
  have hu0 := litB_iff.1 (h u hu)
  have hvn : valX Y (-u) = 0 := by rw [valX_zero] at e ⊢; rw [Int.neg_neg]; exact ⟨e.2, e.1⟩
  have hokZ := okX_snoc hY hvn (by omega)
  have hbZ : smX (Y ++ [-u]) := fun l hl => (List.mem_append.1 hl).elim (hb l) fun e => by rw [List.mem_singleton.1 e]; omega
  refine hfalse hokZ (fun x hx => ?_) ((slackX_some hok hokZ hbZ).1 ?_)
  ·by_cases ex : x = u
   ·rw [ex]
    have h1 := (valX_zero.1 e).1
    unfold valX
    rw [if_neg fun hm => (List.mem_append.1 hm).elim h1 fun h => by rw [List.mem_singleton] at h; omega, if_pos (List.mem_append_right _ (List.mem_singleton.2 rfl))]
   ·rcases valX_cases Y x with e1 | e1 | e1
    ·exact absurd e1 (hn1 x hx)
    ·exact absurd (hn2 x hx u hu e1 e) ex
    ·obtain ⟨g1, g2⟩ := valX_neg.1 (show valX Y x < 0 by omega)
     unfold valX
     rw [if_neg fun hm => (List.mem_append.1 hm).elim g1 fun h => by
      rw [List.mem_singleton] at h
      rw [h, Int.neg_neg] at g2
      exact (valX_zero.1 e).1 g2, if_pos (List.mem_append_left _ g2)]
  ·by_cases hm : u ∈ (clauseB ls).1.lits
   ·obtain ⟨j, hj, ej⟩ := List.getElem_of_mem hm
    have ej : nth (clauseB ls).1.lits j = u := by rw [nth_eq hj, ej]
    have h1 := hcl.2 j hj
    rw [ej] at h1
    have h2 : nth (clauseB ls).1.coefs j ≤ (clauseB ls).1.slackX Y := Int.not_lt.1 fun hlt => h1 hlt e
    have h3 := slackX_add hok (X := Y) hj
    rw [ej] at h3
    omega
   ·rw [slackX_same hokZ fun x hx => by rw [List.mem_singleton.1 hx, Int.neg_neg]; exact hm]
    exact hcl.1
 ·refine hfalse hY (fun x hx => ?_) ((slackX_some hok hY hb).1 hcl.1)
  rcases valX_cases Y x with e1 | e1 | e1
  ·exact absurd e1 (hn1 x hx)
  ·exact absurd ⟨x, hx, e1⟩ hu
  ·exact e1
theorem clause_calm (h : ∀ l ∈ ls, litB l = true) (hn : ls.length ≤ 8) (hok : (clauseB ls).1.Ok) (hX : okX X) (hb : smX X) {a b : Int} (ha : a ∈ ls) (hbm : b ∈ ls) (hab : a.natAbs ≠ b.natAbs) (va : valX X a = 0) (vb : valX X b = 0) : (clauseB ls).1.Calm X := by
 have key : ∀ {Z : List Int} {x : Int}, okX Z → smX Z → x ∈ ls → valX Z x = 0 → 0 ≤ (clauseB ls).1.slackX Z := fun {Z x} hZ hZb hx hv => by
  have hx0 := litB_iff.1 (h x hx)
  have hokZ := okX_snoc hZ hv hx0.1
  have hbZ : smX (Z ++ [x]) := fun l hl => (List.mem_append.1 hl).elim (hZb l) fun e => by rw [List.mem_singleton.1 e]; omega
  refine (slackX_some hok hZ hZb).2 ?_
  refine ⟨fun v => decide (v ∈ Z ++ [x]), fun l hl => ?_, (clause_holds _ h hn).2 (List.any_eq_true.2 ⟨x, hx, ?_⟩)⟩
  ·have hl2 : l ∈ Z ++ [x] := List.mem_append_left _ hl
   unfold tr
   by_cases e : 0 < l
   ·rw [if_pos e]; exact decide_eq_true hl2
   ·rw [if_neg e]; show (!decide (-l ∈ Z ++ [x])) = true; rw [decide_eq_false (hokZ l hl2)]; rfl
  ·have hl2 : x ∈ Z ++ [x] := List.mem_append_right _ (List.mem_singleton.2 rfl)
   unfold tr
   by_cases e : 0 < x
   ·rw [if_pos e]; exact decide_eq_true hl2
   ·rw [if_neg e]; show (!decide (-x ∈ Z ++ [x])) = true; rw [decide_eq_false (hokZ x hl2)]; rfl
 refine ⟨key hX hb ha va, fun j hj hlt hv => ?_⟩
 have h0 := hok.lit0 hj
 have hlj := hok.lit j hj
 have hvn : valX X (-(nth (clauseB ls).1.lits j)) = 0 := by rw [valX_zero] at hv ⊢; rw [Int.neg_neg]; exact ⟨hv.2, hv.1⟩
 have hokZ := okX_snoc hX hvn (by omega)
 have hbZ : smX (X ++ [-(nth (clauseB ls).1.lits j)]) := fun l hl => (List.mem_append.1 hl).elim (hb l) fun e => by rw [List.mem_singleton.1 e]; omega
 have hless := slackX_less hok hj hv
 have hother : ∀ x, valX X x = 0 → x.natAbs ≠ (nth (clauseB ls).1.lits j).natAbs → valX (X ++ [-(nth (clauseB ls).1.lits j)]) x = 0 := fun x hx hne => by
  rw [valX_zero] at hx ⊢
  exact ⟨fun hm => (List.mem_append.1 hm).elim hx.1 fun e => by rw [List.mem_singleton] at e; omega, fun hm => (List.mem_append.1 hm).elim hx.2 fun e => by rw [List.mem_singleton] at e; omega⟩
 by_cases ea : a.natAbs = (nth (clauseB ls).1.lits j).natAbs
 ·have := key hokZ hbZ hbm (hother b vb (by omega))
  omega
 ·have := key hokZ hbZ ha (hother a va ea)
  omega
end
end
section
open Go.RowKit
theorem clause_ok {ls : List Int} (h : ∀ l ∈ ls, litB l = true) (hn : ls.length ≤ 8) : (clauseB ls).1.Ok := by
 have h1 := once_small h hn
 rw [clauseB_is] at h1 ⊢
 exact (Pb.ok_iff _).1 (norm_valid (once_in h (by omega)) h1)
section
variable {T : Tr}
theorem lvOf_at2 (hw : T.WF) {i : Nat} {e : Ent} (he : T.L[i]? = some e) : T.lvOf e.lit = e.level := by
 have h2 : T.levelOf (e.v : Nat) = e.level := Tr.level_of hw he
 unfold Tr.lvOf
 unfold Ent.v at h2
 exact h2
theorem mem_pre (hw : T.WF) {k : Nat} (hk : k < T.starts.length) {x : Int} : x ∈ T.pre k ↔ x ∈ T.lits ∧ T.lvOf x ≤ k := by
 rw [Tr.pre_at hk]
 constructor
 ·intro hx
  obtain ⟨i, hi, e1⟩ := List.mem_take_iff_getElem.1 hx
  have hil : i < T.L.length := by rw [← Tr.lits_len]; omega
  have he : T.L[i]? = some T.L[i] := List.getElem?_eq_getElem hil
  have hlit : T.L[i].lit = x := by rw [← e1]; simp [Tr.lits]
  refine ⟨List.mem_of_mem_take hx, ?_⟩
  rw [← hlit, lvOf_at2 hw he]
  have := (level_lt hw he hk).2 (by omega)
  omega
 ·rintro ⟨hx, hl⟩
  obtain ⟨i, e, he, h1⟩ := Tr.mem_lits.1 hx
  rw [← h1, lvOf_at2 hw he] at hl
  have hlt := (level_lt hw he hk).1 (by omega)
  have hil : i < T.lits.length := by rw [Tr.lits_len]; exact (List.getElem?_eq_some_iff.1 he).1
  refine List.mem_take_iff_getElem.2 ⟨i, by omega, ?_⟩
  have : T.lits[i]? = some x := by simp [Tr.lits, he, h1]
  rw [List.getElem?_eq_getElem hil] at this
  exact Option.some.inj this
theorem pre_okX (hw : T.WF) (k : Nat) : okX (T.pre k) := fun l hl hn => hw.okX l (List.mem_of_mem_take hl) (List.mem_of_mem_take hn)
theorem lits_sm (hw : T.WF) : smX T.lits := fun l hl => by
 obtain ⟨i, e, he, h1⟩ := Tr.mem_lits.1 hl
 have h2 := (hw.lit e (List.mem_of_getElem? he)).2
 unfold Ent.v at h2
 have := hw.vars
 rw [h1] at h2
 omega
theorem pre_sm (hw : T.WF) (k : Nat) : smX (T.pre k) := fun l hl => lits_sm hw l (List.mem_of_mem_take hl)
theorem pre_unknown (hw : T.WF) {k : Nat} (hk : k < T.starts.length) {x : Int} (hl : (k : Int) < T.lvOf x) : valX (T.pre k) x = 0 := by
 rw [valX_zero, mem_pre hw hk, mem_pre hw hk, lvOf_neg]
 exact ⟨fun h => by omega, fun h => by omega⟩
theorem learnt_lits (hw : T.WF) {c : List Int} (hok : okFor T c = true) : (∀ x ∈ T.learnt c, -x ∈ T.lits ∧ litB x = true ∧ 1 ≤ T.lvOf x) ∧ (T.learnt c).length ≤ T.vars := by
 obtain ⟨c0, rest, hL, hc0, hd, hrest, _⟩ := learnt_form hw hok
 have hdep : T.depth ≠ 0 := by
  unfold okFor at hok
  simp only [Bool.and_eq_true, decide_eq_true_eq] at hok
  exact hok.2
 refine ⟨fun x hx => ?_, ?_⟩
 ·have hx2 : -x ∈ T.lits ∧ 1 ≤ T.lvOf x := by
   rw [hL] at hx
   rcases List.mem_cons.1 hx with rfl | hx
   ·exact ⟨hc0, by rw [hd]; omega⟩
   ·exact ⟨(hrest x hx).1, (hrest x hx).2.1⟩
  have h1 := lits_sm hw _ hx2.1
  have h2 := hw.lits0 _ hx2.1
  exact ⟨hx2.1, litB_iff.2 ⟨by omega, by omega, by omega⟩, hx2.2⟩
 ·unfold Tr.learnt Tr.sorted
  refine Nat.le_trans (List.length_filter_le _ _) ?_
  rw [List.length_map, List.length_reverse, Tr.lits_len]
  exact hw.len
theorem learnt_new {G : List Pb} (hw : T.WF) (hv : T.vars ≤ 8) {c : List Int} (hok : okFor T c = true) (hG : PreOk G T) : (clauseB (T.learnt c)).1 ∉ G := by
 intro hm
 obtain ⟨hl, hn⟩ := learnt_lits hw hok
 obtain ⟨c0, rest, hL, hc0, hd, hrest, _⟩ := learnt_form hw hok
 have hdep : T.depth ≠ 0 := by
  unfold okFor at hok
  simp only [Bool.and_eq_true, decide_eq_true_eq] at hok
  exact hok.2
 unfold Tr.depth at hdep hd hrest
 have hk : T.starts.length - 1 < T.starts.length := by omega
 have hcal := hG _ hk _ hm
 have h0 : valX (T.pre (T.starts.length - 1)) c0 = 0 := pre_unknown hw hk (by rw [hd]; omega)
 have hr : ∀ x ∈ rest, valX (T.pre (T.starts.length - 1)) x = -1 := fun x hx => by
  obtain ⟨h1, _, h3⟩ := hrest x hx
  have h4 : -x ∈ T.pre (T.starts.length - 1) := (mem_pre hw hk).2 ⟨h1, by rw [lvOf_neg]; omega⟩
  unfold valX
  rw [if_neg fun h5 => pre_okX hw _ x h5 h4, if_pos h4]
 rcases clause_up (fun l hl' => (hl l hl').2.1) (by omega) (clause_ok (fun l hl' => (hl l hl').2.1) (by omega)) (T.pre (T.starts.length - 1)) (pre_okX hw _) (pre_sm hw _) (fun p hp => by rw [List.mem_singleton.1 hp]; exact hcal) with ⟨x, hx, e⟩ | ⟨x, hx, y, hy, hne, ex, ey⟩
 ·rw [hL] at hx
  rcases List.mem_cons.1 hx with rfl | hx
  ·omega
  ·have := hr x hx; omega
 ·rw [hL] at hx hy
  rcases List.mem_cons.1 hx with rfl | hx
  ·rcases List.mem_cons.1 hy with rfl | hy
   ·exact hne rfl
   ·have := hr y hy; omega
  ·have := hr x hx; omega
theorem topLv_mem (T : Tr) : ∀ (ls : List Int) (a : Int), ls.foldl (fun a l => max a (T.lvOf l)) a = a ∨ ∃ x ∈ ls, T.lvOf x = ls.foldl (fun a l => max a (T.lvOf l)) a := by
 intro ls
 induction ls with
 | nil => intro a; exact .inl rfl
 | cons l ls ih =>
  intro a
  rw [List.foldl_cons]
  rcases ih (max a (T.lvOf l)) with e | ⟨x, hx, e⟩
  ·rw [e]
   by_cases h : a ≤ T.lvOf l
   ·exact .inr ⟨l, List.mem_cons_self .., by omega⟩
   ·exact .inl (by omega)
  ·exact .inr ⟨x, List.mem_cons_of_mem _ hx, e⟩
theorem learnt_pre (hw : T.WF) (hv : T.vars ≤ 8) {c : List Int} (hok : okFor T c = true) {c0 : Int} {rest : List Int} (hL : T.learnt c = c0 :: rest) :
  ∀ k, k < (T.back (topLv T rest).toNat).starts.length → (clauseB (T.learnt c)).1.Calm ((T.back (topLv T rest).toNat).pre k) := by
 obtain ⟨hl, hn⟩ := learnt_lits hw hok
 obtain ⟨c0', rest', hL', hc0, hd, hrest, _⟩ := learnt_form hw hok
 rw [hL] at hL'
 injection hL' with e1 e2
 subst e1 e2
 unfold Tr.depth at hd hrest
 have hlt : topLv T rest < T.starts.length := topLv_lt T _ rest 0 (by
  unfold okFor at hok
  simp only [Bool.and_eq_true, decide_eq_true_eq] at hok
  have := hok.2
  unfold Tr.depth at this
  omega) fun x hx => (hrest x hx).2.2
 have hge := (topLv_ge T rest 0).1
 intro k hk
 have hbk : (topLv T rest).toNat < T.starts.length := by unfold topLv at *; omega
 have hst : (T.back (topLv T rest).toNat).starts = T.starts.take (topLv T rest).toNat := by unfold Tr.back; rw [if_pos hbk, Tr.undo_at hbk]
 rw [hst, List.length_take] at hk
 have hk2 : k < (topLv T rest).toNat := by omega
 have hpre : (T.back (topLv T rest).toNat).pre k = T.pre k := by unfold Tr.back; rw [if_pos hbk]; exact Tr.undo_pre hw hbk hk2
 rw [hpre]
 have hkl : k < T.starts.length := by omega
 rcases topLv_mem T rest 0 with e | ⟨l1, h1, e⟩
 ·unfold topLv at hk2; omega
 ·have hlv : T.lvOf l1 = topLv T rest := e
  refine clause_calm (fun l hl' => (hl l hl').2.1) (by omega) (clause_ok (fun l hl' => (hl l hl').2.1) (by omega)) (pre_okX hw k) (pre_sm hw k) (a := c0) (b := l1) (by rw [hL]; exact List.mem_cons_self ..) (by rw [hL]; exact List.mem_cons_of_mem _ h1) (fun en => ?_) (pre_unknown hw hkl (by rw [hd]; omega)) (pre_unknown hw hkl (by rw [hlv]; omega))
  have : T.lvOf c0 = T.lvOf l1 := by unfold Tr.lvOf; rw [en]
  omega
end
end
section
open Go.RowKit
def allC : List Int → List (List Int)
 | [] => [[]]
 | v :: vs => allC vs ++ (allC vs).map (fun c => v :: c) ++ (allC vs).map (fun c => -v :: c)
theorem allC_len : ∀ vs : List Int, (allC vs).length = 3 ^ vs.length := by
 intro vs
 induction vs with
 | nil => rfl
 | cons v vs ih =>
  simp only [allC, List.length_append, List.length_map, ih, List.length_cons, Nat.pow_succ]
  omega
def byV (c : List Int) (vs : List Int) : List Int := vs.filterMap fun v => if v ∈ c then some v else if -v ∈ c then some (-v) else none
theorem byV_in (c : List Int) : ∀ vs : List Int, byV c vs ∈ allC vs := by
 intro vs
 induction vs with
 | nil => exact List.mem_singleton.2 rfl
 | cons v vs ih =>
  have e : byV c (v :: vs) = match (if v ∈ c then some v else if -v ∈ c then some (-v) else none : Option Int) with
   | none => byV c vs
   | some x => x :: byV c vs := by
   unfold byV
   rw [List.filterMap_cons]
   cases (if v ∈ c then some v else if -v ∈ c then some (-v) else none : Option Int) <;> rfl
  rw [e]
  unfold allC
  by_cases h1 : v ∈ c
  ·rw [if_pos h1]
   exact List.mem_append_left _ (List.mem_append_right _ (List.mem_map.2 ⟨_, ih, rfl⟩))
  ·rw [if_neg h1]
   by_cases h2 : -v ∈ c
   ·rw [if_pos h2]
    exact List.mem_append_right _ (List.mem_map.2 ⟨_, ih, rfl⟩)
   ·rw [if_neg h2]
    exact List.mem_append_left _ (List.mem_append_left _ ih)
theorem mem_byV {c vs : List Int} (hvs : ∀ v ∈ vs, 0 < v) (hcl : ∀ x ∈ c, -x ∉ c) (hc : ∀ x ∈ c, ((x.natAbs : Nat) : Int) ∈ vs) {x : Int} : x ∈ byV c vs ↔ x ∈ c := by
 unfold byV
 rw [List.mem_filterMap]
 constructor
 ·rintro ⟨v, _, e⟩
  split at e
  ·rename_i h; injection e with e; rw [← e]; exact h
  ·split at e
   ·rename_i h; injection e with e; rw [← e]; exact h
   ·cases e
 ·intro hx
  refine ⟨_, hc x hx, ?_⟩
  have h0 := hvs _ (hc x hx)
  rcases Classical.em (0 < x) with h | h
  ·have e : ((x.natAbs : Nat) : Int) = x := by omega
   rw [e, if_pos hx]
  ·have e : ((x.natAbs : Nat) : Int) = -x := by omega
   rw [e, if_neg (hcl x hx), Int.neg_neg, if_pos hx]
theorem clauseB_same {c d : List Int} (h : ∀ x, x ∈ c ↔ x ∈ d) : clauseB c = clauseB d := by
 have e : once c = once d := by
  refine List.Perm.eq_of_pairwise (le := fun x y : Int => x ≤ y) (fun a b _ _ h1 h2 => by omega) ((compactL_rise (sortL_sorted _)).imp fun h => by omega) ((compactL_rise (sortL_sorted _)).imp fun h => by omega) ((List.perm_ext_iff_of_nodup (once_nodup _) (once_nodup _)).2 fun v => ?_)
  rw [mem_once, mem_once]
  exact h v
 rw [clauseB_is, clauseB_is, e]
theorem few_clauses {Ls : List Pb} {vs : List Int} (hnd : Ls.Nodup) (hvs : ∀ v ∈ vs, 0 < v) (h : ∀ p ∈ Ls, ∃ c : List Int, p = (clauseB c).1 ∧ c ≠ [] ∧ (∀ x ∈ c, -x ∉ c) ∧ ∀ x ∈ c, ((x.natAbs : Nat) : Int) ∈ vs) : Ls.length < 3 ^ vs.length := by
 have hne : ∀ p ∈ Ls, p ∈ ((allC vs).filter fun c => !c.isEmpty).map fun c => (clauseB c).1 := fun p hp => by
  obtain ⟨c, e, h1, h2, h3⟩ := h p hp
  have hm := fun x => mem_byV (x := x) hvs h2 h3
  refine List.mem_map.2 ⟨byV c vs, List.mem_filter.2 ⟨byV_in c vs, ?_⟩, by rw [e, clauseB_same hm]⟩
  cases hb : byV c vs with
  | nil =>
   exfalso
   cases c with
   | nil => exact h1 rfl
   | cons x c =>
    have := (hm x).2 (List.mem_cons_self ..)
    rw [hb] at this
    cases this
  | cons a b => rfl
 have h1 := List.Nodup.length_le_of_subset hnd hne
 rw [List.length_map] at h1
 have h2 : ((allC vs).filter fun c => !c.isEmpty).length < (allC vs).length := by
  rw [List.length_filter_lt_length_iff_exists]
  refine ⟨[], ?_, by simp⟩
  have : ∀ vs : List Int, [] ∈ allC vs := by
   intro vs
   induction vs with
   | nil => exact List.mem_singleton.2 rfl
   | cons v vs ih => exact List.mem_append_left _ (List.mem_append_left _ ih)
  exact this vs
 rw [allC_len] at h2
 omega
end
end Go.Proofs.YtcjmpobccbnpkaaGreat
