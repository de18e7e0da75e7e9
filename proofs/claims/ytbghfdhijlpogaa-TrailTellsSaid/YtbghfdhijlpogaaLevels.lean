/-
  ostlerlaw28.TrailLevels returns true, whatever comes in, and writes nothing that was there.
-/
import Derived.Test.YtbghfdhijlpogaaTwalkK
namespace Go.Proofs.Ytbghfdhijlpogaa
open Go.RowKit

/-! ### plain -/
theorem Tr.level_of {T : Tr} (h : T.WF) {i : Nat} {e : Ent} (he : T.L[i]? = some e) : T.levelOf e.v = e.level := by
  simp [Tr.levelOf, h.idx he, he]
theorem level_le {T : Tr} (h : T.WF) {i : Nat} {e : Ent} (he : T.L[i]? = some e) : e.level ≤ T.starts.length := by
  rw [h.level i e he]; exact List.length_filter_le _ _
theorem level_lt {T : Tr} (h : T.WF) {i K : Nat} {e : Ent} (he : T.L[i]? = some e) (hK : K < T.starts.length) : e.level ≤ K ↔ i < T.starts[K] := by
  rw [h.level i e he]
  have e1 : T.starts = T.starts.take K ++ T.starts.drop K := (List.take_append_drop K T.starts).symm
  have e3 : T.starts.drop K = T.starts[K] :: T.starts.drop (K + 1) := List.drop_eq_getElem_cons hK
  constructor
  · intro hle
    rcases Nat.lt_or_ge i T.starts[K] with hlt | hge
    · exact hlt
    · exfalso
      have h1 : (T.starts.filter (· ≤ i)).length ≥ K + 1 := by
        rw [e1, List.filter_append, List.length_append, e3, List.filter_cons, if_pos (by simpa using hge)]
        have : ((T.starts.take K).filter (· ≤ i)) = T.starts.take K := List.filter_eq_self.2 fun s hs => by
          obtain ⟨j, hj, rfl⟩ := List.mem_take_iff_getElem.1 hs
          have := pairwise_get h.starts (show j < K by omega) hK
          simp; omega
        rw [this]
        simp
        omega
      omega
  · intro hlt
    have h2 : (T.starts.drop K).filter (· ≤ i) = [] := by
      rw [List.filter_eq_nil_iff]
      intro s hs
      obtain ⟨j, hj, rfl⟩ := List.mem_drop_iff_getElem.1 hs
      rcases Nat.eq_zero_or_pos j with h0 | h0
      · subst h0; simp; omega
      · have := pairwise_get h.starts (show K < K + j by omega) (show K + j < T.starts.length by omega)
        simp; omega
    rw [e1, List.filter_append, h2, List.append_nil]
    have := List.length_filter_le (fun x => decide (x ≤ i)) (T.starts.take K)
    simp at this
    omega
/-- The literals of the levels up to K. -/
def Tr.upto (T : Tr) (K : Nat) : Int → Bool := fun l => Decidable.decide (T.levelOf l.natAbs ≤ K)
theorem filter_take_of {α : Type} (p : α → Bool) : ∀ (l : List α) (n : Nat), (∀ i x, l[i]? = some x → (p x = true ↔ i < n)) → l.filter p = l.take n
  | [], n, _ => by simp
  | x :: l, n, h => by
    have h0 := h 0 x rfl
    cases n with
    | zero =>
      rw [List.take_zero, List.filter_eq_nil_iff]
      intro y hy hp
      obtain ⟨i, hi, rfl⟩ := List.mem_iff_getElem.1 hy
      have := (h i _ (List.getElem?_eq_getElem hi)).1 hp
      omega
    | succ n =>
      rw [List.filter_cons, if_pos (h0.2 (by omega)), List.take_succ_cons, filter_take_of p l n fun i y hy => by
        have := h (i + 1) y (by simpa using hy)
        rw [this]; omega]
theorem Tr.back_lits {T : Tr} (h : T.WF) (K : Nat) : (T.back K).lits = T.lits.filter (T.upto K) := by
  have key : ∀ (i : Nat) (l : Int), T.lits[i]? = some l → (T.upto K l = true ↔ ∃ e : Ent, T.L[i]? = some e ∧ e.level ≤ K) := by
    intro i l hl
    simp only [Tr.lits, List.getElem?_map, Option.map_eq_some_iff] at hl
    obtain ⟨e, he, rfl⟩ := hl
    have h1 : T.levelOf (e.lit.natAbs : Nat) = e.level := Tr.level_of h he
    simp only [Tr.upto, h1, decide_eq_true_eq]
    constructor
    · intro h2; exact ⟨e, he, by omega⟩
    · rintro ⟨f, hf, hle⟩
      rw [he] at hf
      obtain rfl := Option.some.inj hf
      omega
  unfold Tr.back
  split
  · rename_i hK
    rw [Tr.undo_at hK]
    rw [filter_take_of (T.upto K) T.lits T.starts[K] fun i l hl => by
      rw [key i l hl]
      constructor
      · rintro ⟨e, he, hle⟩
        exact (level_lt h he hK).1 hle
      · intro hlt
        have hi : i < T.L.length := by have := (List.getElem?_eq_some_iff.1 hl).1; simpa [Tr.lits] using this
        exact ⟨T.L[i], by simp [hi], (level_lt h (by simp [hi]) hK).2 hlt⟩]
    simp [Tr.lits]
  · rename_i hK
    rw [List.filter_eq_self.2]
    intro l hl
    obtain ⟨i, hi, rfl⟩ := List.mem_iff_getElem.1 hl
    have hi' : i < T.L.length := by simpa [Tr.lits] using hi
    rw [key i _ (List.getElem?_eq_getElem hi)]
    have := level_le h (show T.L[i]? = some T.L[i] by simp [hi'])
    exact ⟨T.L[i], by simp [hi'], by omega⟩
theorem Tr.back_depth (T : Tr) (K : Nat) : (T.back K).depth = min T.depth K := by
  unfold Tr.back Tr.depth
  split
  · rename_i hK
    rw [Tr.undo_at hK]
    simp; omega
  · omega
theorem lvl_max (k : Int) : (if k < 0 then 0 else k) = (lvl k : Int) := max0 (lvl_spec k)
theorem level_abs {w : World} {F : Nat → Prop} {b : Nat} {T : Tr} (ht : Trail w F b T) {l v : Int} (hv : v = (l.natAbs : Int)) :
    Calls Try.prog 11 #[.pointer (some ⟨b, 0, none⟩), .int .i64 v] w fun r w' => r = .returned (.int .i64 (T.levelOf l.natAbs)) ∧ Below w.heap.size w w' := by
  subst hv
  exact level_any ht

/-! ### the walk -/
set_option maxRecDepth 100000 in
set_option maxHeartbeats 4000000 in
theorem levels_walk {w : World} {v : Value} {os : List Opd} (hv : OpsRd w v os) {k : Int} :
    Calls Try.prog 3 #[v, .int .i64 k] w fun r w' => r = .returned (.bool true) ∧ Below w.heap.size w w' := by
  have hmx := lvl_max k
  have hlv := lvl_spec k
  have Hlv := hid hlv
  clear hlv
  go_enter Try.func3, Try.ntmps3
  go_wp2_with fail
  refine (played_any hv).mono ?_
  rintro r w1 ⟨b, rfl, t1, b1⟩
  generalize (⟨8, [], []⟩ : Tr).ops (os.take 40) = T at t1
  have t1' := t1.restrict
  clear t1
  go_wp2_with fail
  refine (lits_any t1').mono ?_
  rintro r w2 ⟨⟨u, rfl, o2⟩, b2⟩
  obtain ⟨Au, cu, rfl, _⟩ := o2.form
  have t2 := t1'.below b2
  have h8 := t1'.wf.len
  have h9 := t1'.wf.vars
  have Hwf := hid t1'.wf
  have O2 := hid o2
  have s1 := b1.size
  have s2 := b2.size
  clear o2 t1'
  go_wp2_with fail
  go_loopw [21, 9, 7] (fun i _ vw W => ∃ (j n : Nat), j ≤ T.L.length ∧ i = .int .i64 j ∧ n ≤ j ∧ ((T.lits.take j).filter (T.upto (lvl k))).length = n ∧ Own W (fun g => w2.heap.size ≤ g) 3 1 vw n (ints ((T.lits.take j).filter (T.upto (lvl k)))) ∧ Below w2.heap.size w2 W) (fun i _ _ _ => T.L.length - (intOf i).toNat)
  case atStart => exact ⟨0, 0, by omega, rfl, by omega, by simp, by simpa [ints] using Own.nil w2 _ _ _, Below.refl _ _⟩
  case round =>
    obtain ⟨j, n, hj, rfl, hnj, hfl, ho, hb⟩ := hrel
    have s3 := hb.size
    by_cases hlt : j < T.L.length
    · obtain ⟨_, hcell⟩ := O2.out.rd.cell
      obtain ⟨g, o, rfl, _, hg, hc0⟩ := hcell j hlt
      have hc := (hb.cell (p := ⟨g, o + j, none⟩) hg).trans hc0
      obtain ⟨l, hl, hl1, hl2, _⟩ := lit_at Hwf.out (s := 0) (j := j) (by omega)
      rw [List.drop_zero] at hl
      rw [hl] at hc
      have Htk : Hid (T.lits.take (j + 1) = T.lits.take j ++ [l]) := by
        rw [← hl]; exact take_nth (by simpa [Tr.lits] using hlt)
      have Tj := hid (t2.below hb)
      have Ho := hid ho
      have Hfl := hid hfl
      have hnlen : n ≤ 65536 := by omega
      clear hcell hc0 hl ho hfl
      cases hq : decide (T.levelOf l.natAbs ≤ (lvl k : Int))
      · have Hq : Hid (((T.lits.take (j + 1)).filter (T.upto (lvl k))) = (T.lits.take j).filter (T.upto (lvl k))) := by
          rw [Htk.out, List.filter_append]
          have : T.upto (lvl k) l = false := hq
          exact hid (by simp [this])
        go_wp2_with (go_at_call 11; refine (level_abs Tj.out (l := l) (by omega)).mono ?_; rintro r w4 ⟨rfl, b4⟩)
        all_goals
          go_roundw
          case rel => exact ⟨j + 1, n, by omega, by go_num, by omega, by rw [Hq.out]; exact Hfl.out, by rw [Hq.out]; exact Ho.out.below b4, hb.trans (b4.mono (by omega))⟩
          case measure => simp [intOf]; omega
      · have Hq : Hid (((T.lits.take (j + 1)).filter (T.upto (lvl k))) = (T.lits.take j).filter (T.upto (lvl k)) ++ [l]) := by
          rw [Htk.out, List.filter_append]
          have : T.upto (lvl k) l = true := hq
          exact hid (by simp [this])
        go_wp2_with (first | (go_at_call 11; refine (level_abs Tj.out (l := l) (by omega)).mono ?_; rintro r w4 ⟨rfl, b4⟩; have s4 := b4.size) | (at_builtin; refine wpList_append_ints rfl _ _ rfl ((Ho.out.below b4).below ((Below.refl _ _).alloc (Nat.le_refl _) _)) (own_one w4 (.int .i64 l)).rd rfl rfl (by simp [Value.oneCell']) (by omega) ?_; intro A5 c5 w5 ho5 hm5 hr5))
        all_goals
          go_roundw
          case rel => exact ⟨j + 1, n + 1, by omega, by go_num, by omega, by rw [Hq.out]; simp [Hfl.out], by
            rw [Hq.out, ints_append]
            exact ho5.mono fun g _ _ hg => by simp at hg; omega, hb.trans ((b4.mono (by omega)).trans (((Below.refl _ w4).alloc (by omega) _).trans ⟨hm5.os, hm5.tape, hm5.output, hm5.size, fun g hg => hm5.block g (by simp; omega) fun hr => by
              have := (Ho.out.row hr).1
              omega⟩))⟩
          case measure => simp [intOf]; omega
    · have hall : T.lits.take j = T.lits := List.take_of_length_le (by simp [Tr.lits]; omega)
      rw [hall, ← Tr.back_lits Hwf.out (lvl k)] at hfl ho
      have Tj := hid (t2.below hb)
      have Ho := hid ho
      have Hfl := hid hfl
      have hdep : Hid ((T.back (lvl k)).depth = min T.depth (lvl k)) := T.back_depth _
      clear hall ho hfl
      go_wp2_with fail
      refine (depth_any Tj.out).mono ?_
      rintro r w4 ⟨rfl, rfl⟩
      have hmn : (if lvl k < T.depth then ((lvl k : Nat) : Int) else (T.depth : Int)) = ((T.back (lvl k)).depth : Int) := by
        have := hdep.out
        split <;> omega
      go_wp2_with fail
      refine (undo_e Tj.out k).mono ?_
      rintro r w5 ⟨⟨u5, rfl, _⟩, t5, m5⟩
      have Ho5 := hid (Ho.out.mod m5 fun g _ _ hF hG => by omega)
      have s5 := m5.size
      have s3' := hb.size
      generalize hT5 : T.back (lvl k) = T5 at t5 hmn Ho5
      have hl5 := t5.wf.len
      have hv5 := t5.wf.vars
      go_wp2_with fail
      refine (lits_any t5).mono ?_
      rintro r w6 ⟨⟨u6, rfl, o6⟩, b6⟩
      have t6 := t5.below b6
      have o7 := Ho5.out.below b6
      have s6 := b6.size
      go_wp2_with fail
      refine (ints_eq o6.rd o7.rd).mono ?_
      rintro r w7 ⟨rfl, b7⟩
      rw [decide_eq_true (rfl : T5.lits = T5.lits)]
      have t7 := t6.below b7
      have s7 := b7.size
      go_wp2_with fail
      refine (depth_any t7).mono ?_
      rintro r w8 ⟨rfl, rfl⟩
      go_wp2_with fail
      refine awake_any.mono ?_
      rintro r w9 ⟨rfl, b9⟩
      go_wp2_with fail
      go_ret
      refine ⟨rfl, ((b1.trans (b2.mono s1)).trans (hb.mono (by omega))).trans ?_⟩
      exact (((m5.mono fun g _ hg => hg.1).base (by omega)).trans (b6.mono (by omega))).trans ((b7.mono (by omega)).trans (b9.mono (by omega)))

end Go.Proofs.Ytbghfdhijlpogaa
