/-
  What the laws' extends and assignments say, of a run of unit propagation.
-/
import Derived.Test.YtofobmgmgipomaaEnN
import Derived.Test.YtofobmgmgipomaaEnY
namespace Go.Proofs.Ytofobmgmgipomaa
open Go.RowKit

theorem litX_tr {av : List Int} {x : Int} : litX av x = tr (sOf av) x := by
  unfold litX tr sOf
  by_cases h : 0 < x
  · rw [if_pos h]
    simp [h]
  · rw [if_neg h, Int.natAbs_neg]
    simp [h]
theorem extB_iff {ps : List Pb} {ls av : List Int} (hok : ∀ p ∈ ps, p.Ok ∧ ∀ l ∈ p.lits, l.natAbs ≤ 7) (hav : ∀ i, i < 7 → nth av i ≠ 0) :
    extB ps ls av = true ↔ (∀ p ∈ ps, p.bound ≤ p.total (tr (sOf av))) ∧ ∀ x ∈ ls, tr (sOf av) x = true := by
  unfold extB
  rw [Bool.and_eq_true, List.all_eq_true, List.all_eq_true]
  refine ⟨fun ⟨h1, h2⟩ => ⟨fun p hp => ?_, fun x hx => ?_⟩, fun ⟨h1, h2⟩ => ⟨fun p hp => ?_, fun x hx => ?_⟩⟩
  · have h3 := h1 p hp
    rw [holds_tr (hok p hp).1 fun j hj => hav _ (by have := (hok p hp).2 _ (nth_mem hj); have := ((hok p hp).1.lit j hj).1; omega)] at h3
    exact of_decide_eq_true h3
  · have h3 := h2 x hx
    rwa [litX_tr] at h3
  · rw [holds_tr (hok p hp).1 fun j hj => hav _ (by have := (hok p hp).2 _ (nth_mem hj); have := ((hok p hp).1.lit j hj).1; omega)]
    exact decide_eq_true (h1 p hp)
  · rw [litX_tr]
    exact h2 x hx
theorem tot7_ne {b : Nat} (hb : b < 128) : ∀ i, i < 7 → nth (totUp7 (b : Int) 7) i ≠ 0 := by
  intro i hi
  rw [totUp7_nth _ _ hi, if_pos hi, bit7_is hb hi]
  split <;> decide
/-- The trail's assignment. -/
theorem assign_nth {T : Tr} {i : Nat} (h : i < T.vars) : nth T.assign i = T.value ((i : Int) + 1) := by
  unfold Tr.assign
  rw [nth_eq (by simpa using h)]
  simp
theorem valB_assign {T : Tr} (hw : T.WF) {l : Int} (h0 : l ≠ 0) (hv : l.natAbs ≤ T.vars) : valB T.assign l = T.value l := by
  have e : nth T.assign (l.natAbs - 1) = T.value (l.natAbs : Nat) := by
    rw [assign_nth (by omega)]
    congr 1
    omega
  have hok := hw.okX
  unfold valB
  rw [e, Tr.value_is, Tr.value_is]
  rcases Int.lt_or_gt_of_ne h0 with hn | hp
  · have hl : ((l.natAbs : Nat) : Int) = -l := by omega
    rw [hl]
    unfold valX
    rw [Int.neg_neg]
    by_cases h1 : -l ∈ T.lits
    · have h2 : l ∉ T.lits := fun h => hok l h h1
      rw [if_pos h1, if_neg h2, if_neg (by decide), if_neg (by simp; omega), if_pos h1]
    · by_cases h2 : l ∈ T.lits
      · rw [if_neg h1, if_pos h2, if_neg (by decide), if_pos (by simp; omega), if_pos h2]
      · rw [if_neg h1, if_neg h2, if_neg h2, if_neg h1, if_pos rfl]
  · have hl : ((l.natAbs : Nat) : Int) = l := by omega
    rw [hl]
    unfold valX
    by_cases h1 : l ∈ T.lits
    · rw [if_pos h1, if_neg (by decide), if_pos (by simp; omega)]
    · by_cases h2 : -l ∈ T.lits
      · rw [if_neg h1, if_pos h2, if_neg (by decide), if_neg (by simp; omega)]
      · rw [if_neg h1, if_neg h2, if_pos rfl]
theorem slackB_assign {T : Tr} (hw : T.WF) {c : Pb} (hc : c.Ok) (hv : ∀ l ∈ c.lits, l.natAbs ≤ T.vars) : c.slackB T.assign = c.slackX T.lits := by
  unfold Pb.slackB Pb.slackX
  rw [if_pos ((Pb.ok_iff c).2 hc)]
  congr 1
  refine Pb.total_cong fun j hj => ?_
  rw [valB_assign hw (hc.lit j hj).1 (hv _ (nth_mem hj)), Tr.value_is]
theorem unitsB_calm {T : Tr} (hw : T.WF) {c : Pb} (hc : c.Ok) (hv : ∀ l ∈ c.lits, l.natAbs ≤ T.vars) (h : c.Calm T.lits) : 0 ≤ c.slackB T.assign ∧ c.unitsB T.assign = [] := by
  have e := slackB_assign hw hc hv
  refine ⟨by rw [e]; exact h.1, List.eq_nil_iff_forall_not_mem.2 fun l hl => ?_⟩
  obtain ⟨_, j, hj, ⟨h1, h2⟩, _⟩ := mem_units.1 hl
  rw [e] at h2
  rw [valB_assign hw (hc.lit j hj).1 (hv _ (nth_mem hj)), Tr.value_is] at h1
  exact h.2 j hj h2 h1
/-- What a run says of the total assignments that satisfy all constraints. -/
theorem run_tells {ps : List Pb} {X : List Int} {xs : List Nat} {av : List Int} (hok : ∀ p ∈ ps, p.Ok ∧ ∀ l ∈ p.lits, l.natAbs ≤ 7) (hX : ∀ x ∈ X, x ≠ 0) (hav : ∀ i, i < 7 → nth av i ≠ 0) (hi : ∀ i ∈ xs, i < ps.length) (h : extB ps X av = true) :
    extB ps (runX ps X xs) av = true ∧ ∀ i, i < ps.length → 0 ≤ (cAt ps i).slackX (runX ps X xs) := by
  obtain ⟨h1, h2⟩ := (extB_iff hok hav).1 h
  obtain ⟨_, h3, h4⟩ := run_sound (fun c hc => (hok c hc).1) h1 xs X h2 hX hi
  exact ⟨(extB_iff hok hav).2 ⟨h1, h3⟩, fun i hi1 => (sound_slack (hok _ (cAt_mem hi1)).1 h3 h4 (h1 _ (cAt_mem hi1))).1⟩
theorem off_val {c : Pb} {X : List Int} {x : Int} (h : x ∈ c.offX X) : valX X x = -1 := by
  obtain ⟨_, h1, h2⟩ := mem_offX.1 h
  unfold valX
  rw [if_neg h1, if_pos h2]
theorem lits7 {T : Tr} (hw : T.WF) (hv : T.vars = 7) : ∀ x ∈ T.lits, x ≠ 0 ∧ x.natAbs ≤ 7 := by
  intro x hx
  obtain ⟨i, e, he, h1⟩ := Tr.mem_lits.1 hx
  have := hw.lit e (List.mem_of_getElem? he)
  unfold Ent.v at this
  rw [h1, hv] at this
  exact this
/-- A clause that the constraints imply. -/
def ImpB (ps : List Pb) (c : List Int) : Prop := (∀ x ∈ c, x ≠ 0 ∧ x.natAbs ≤ 7) ∧ ∀ av : List Int, (∀ i, i < 7 → nth av i ≠ 0) → extB ps [] av = true → c.any (litX av) = true
theorem any_litX {c av : List Int} : c.any (litX av) = c.any (tr (sOf av)) := by
  rw [Bool.eq_iff_iff, List.any_eq_true, List.any_eq_true]
  constructor
  · rintro ⟨x, hx, h⟩
    exact ⟨x, hx, by rwa [litX_tr] at h⟩
  · rintro ⟨x, hx, h⟩
    exact ⟨x, hx, by rw [litX_tr]; exact h⟩
theorem imp_off {ps : List Pb} {X : List Int} {i : Nat} (hok : ∀ p ∈ ps, p.Ok ∧ ∀ l ∈ p.lits, l.natAbs ≤ 7) (hi : i < ps.length) (hs : (cAt ps i).slackX X < 0) : ImpB ps ((cAt ps i).offX X) := by
  have hm := cAt_mem hi
  have hl : ∀ x ∈ (cAt ps i).offX X, x ≠ 0 ∧ x.natAbs ≤ 7 := fun x hx => by
    have h := (mem_offX.1 hx).1
    obtain ⟨j, hj, e⟩ := List.getElem_of_mem h
    have := ((hok _ hm).1.lit j hj).1
    rw [nth_eq hj, e] at this
    exact ⟨this, (hok _ hm).2 x h⟩
  refine ⟨hl, fun av hav he => ?_⟩
  rw [any_litX]
  exact off_clause (hok _ hm).1 hs (((extB_iff hok hav).1 he).1 _ hm)
theorem imp_new {ps : List Pb} {v : Nat} {e : Ent} (hok : ∀ p ∈ ps, p.Ok ∧ ∀ l ∈ p.lits, l.natAbs ≤ 7) (h : FromX ps v e) : ImpB ps e.reason := by
  obtain ⟨i, X, hi, hn, hr, hX, h0, _⟩ := h
  have hm := cAt_mem hi
  have hl : ∀ x ∈ e.reason, x ≠ 0 ∧ x.natAbs ≤ 7 := fun x hx => by
    have h : x ∈ (cAt ps i).lits := by
      rw [hr] at hx
      rcases List.mem_cons.1 hx with rfl | hx
      · obtain ⟨j, hj, _, _, e⟩ := mem_newX.1 hn
        rw [← e]; exact nth_mem hj
      · exact (mem_offX.1 hx).1
    obtain ⟨j, hj, e⟩ := List.getElem_of_mem h
    have := ((hok _ hm).1.lit j hj).1
    rw [nth_eq hj, e] at this
    exact ⟨this, (hok _ hm).2 x h⟩
  refine ⟨hl, fun av hav he => ?_⟩
  rw [any_litX, hr]
  exact new_clause (hok _ hm).1 hn (((extB_iff hok hav).1 he).1 _ hm)
end Go.Proofs.Ytofobmgmgipomaa
