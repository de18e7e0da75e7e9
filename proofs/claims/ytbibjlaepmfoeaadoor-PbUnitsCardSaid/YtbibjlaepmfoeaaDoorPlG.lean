/-
  Chapter 24: the plain laws of assignments under a mask.
-/
import Derived.Test.YtbibjlaepmfoeaaDoorPbW
namespace Go.Proofs.YtbibjlaepmfoeaaDoor

/-- An assignment, one unknown place of which is set. -/
def growA (a : List Int) (k : Nat) (y : Int) : List Int := if nth a k = 0 then a.set k y else a
theorem growA_len (a : List Int) (k : Nat) (y : Int) : (growA a k y).length = a.length := by unfold growA; split <;> simp
theorem growA_ext (a : List Int) (k : Nat) (y : Int) : ExtA a (growA a k y) := fun i hi => by
  unfold growA
  split
  · rename_i h0
    by_cases hl : i < a.length
    · rw [nth_set _ _ _ _ hl, if_neg (fun e => by rw [e] at h0; exact hi h0)]
    · exact absurd (nth_out (by omega)) hi
  · rfl

/-! ### the total assignments that agree under the mask -/
def mixN (x m b : Int) : Int := bits BinOp.or IntKind.u8 (bits BinOp.andNot IntKind.u8 x m) (bits BinOp.and IntKind.u8 b m)
section
variable {x m b : Int}
theorem mix_is (hx : 0 ≤ x ∧ x ≤ 255) (hm : 0 ≤ m ∧ m ≤ 255) (hb : 0 ≤ b ∧ b ≤ 255) : mixN x m b = (((x.toNat &&& (255 - m.toNat)) ||| (b.toNat &&& m.toNat) : Nat) : Int) ∧ ((x.toNat &&& (255 - m.toNat)) ||| (b.toNat &&& m.toNat)) < 256 := by
  have h1 : x.toNat &&& (255 - m.toNat) < 256 := Nat.lt_of_le_of_lt Nat.and_le_left (by omega)
  have h2 : b.toNat &&& m.toNat < 256 := Nat.lt_of_le_of_lt Nat.and_le_left (by omega)
  refine ⟨?_, Nat.or_lt_two_pow (n := 8) h1 h2⟩
  unfold mixN
  rw [u8_andNot x m hx.1 (by omega) hm.1 (by omega), u8_and b m hb.1 (by omega) hm.1 (by omega), u8_or_nat _ _ h1 h2]
theorem mix_in (hx : 0 ≤ x ∧ x ≤ 255) (hm : 0 ≤ m ∧ m ≤ 255) (hb : 0 ≤ b ∧ b ≤ 255) : 0 ≤ mixN x m b ∧ mixN x m b ≤ 255 := by
  obtain ⟨h1, h2⟩ := mix_is hx hm hb
  rw [h1]; omega
theorem mix_bit (hx : 0 ≤ x ∧ x ≤ 255) (hm : 0 ≤ m ∧ m ≤ 255) (hb : 0 ≤ b ∧ b ≤ 255) {i : Nat} (hi : i < 8) : bitOf (mixN x m b) i = if bitOf m i = true then bitOf b i else bitOf x i := by
  obtain ⟨h1, h2⟩ := mix_is hx hm hb
  have h3 := mix_in hx hm hb
  rw [bitOf_test h3.1 h3.2, bitOf_test hm.1 hm.2, bitOf_test hb.1 hb.2, bitOf_test hx.1 hx.2, h1, Int.toNat_natCast, Nat.testBit_or, Nat.testBit_and, Nat.testBit_and]
  have h4 : (255 - m.toNat).testBit i = !m.toNat.testBit i := by
    have := Nat.testBit_two_pow_sub_succ (n := 8) (x := m.toNat) (by omega) i
    rw [show 2 ^ 8 - (m.toNat + 1) = 255 - m.toNat by omega] at this
    rw [this]; simp [hi]
  rw [h4]
  cases m.toNat.testBit i <;> simp
/-- The total assignment of a round. -/
theorem mix_nth (hx : 0 ≤ x ∧ x ≤ 255) (hm : 0 ≤ m ∧ m ≤ 255) (hb : 0 ≤ b ∧ b ≤ 255) {i : Nat} (hi : i < 6) : nth (totUp (mixN x m b) 6) i = if bitOf m i = true then (if bitOf b i = true then 1 else -1) else (if bitOf x i = true then 1 else -1) := by
  rw [totUp_nth _ 6 hi, if_pos hi, mix_bit hx hm hb (by omega)]
  cases bitOf m i <;> simp
theorem mix_ext (hx : 0 ≤ x ∧ x ≤ 255) (hm : 0 ≤ m ∧ m ≤ 255) (hb : 0 ≤ b ∧ b ≤ 255) : ExtA (maskL m b) (totUp (mixN x m b) 6) := fun i hi => by
  by_cases h6 : i < 6
  · rw [mix_nth hx hm hb h6, maskL_nth m b h6]
    rw [maskL_nth m b h6] at hi
    by_cases e : bitOf m i = true
    · rw [if_pos e, if_pos e]
    · rw [if_neg e] at hi; exact absurd rfl hi
  · exact absurd (nth_out (by unfold maskL; rw [maskUp_len]; omega)) hi
end
/-- The assignment of a number's bits. -/
theorem bits_any (s : Nat → Bool) : ∀ n : Nat, ∃ x : Nat, x < 2 ^ n ∧ ∀ i, i < n → x.testBit i = s i := by
  intro n
  induction n with
  | zero => exact ⟨0, by decide, fun i hi => by omega⟩
  | succ n ih =>
    obtain ⟨x, hx, h⟩ := ih
    refine ⟨if s n then 2 ^ n + x else x, ?_, fun i hi => ?_⟩
    · rw [Nat.pow_succ]; split <;> omega
    · by_cases e : i = n
      · subst e
        cases hs : s i
        · simp [Nat.testBit_lt_two_pow hx]
        · simp [Nat.testBit_two_pow_add_eq, Nat.testBit_lt_two_pow hx]
      · have hi' : i < n := by omega
        cases hs : s n
        · simpa using h i hi'
        · simp only [if_true]
          rw [Nat.testBit_two_pow_add_gt hi', h i hi']
def sAt (s : Int → Bool) (i : Nat) : Bool := s ((i : Int) + 1)
theorem ext_is {m b : Int} (hm : 0 ≤ m ∧ m ≤ 255) (hb : 0 ≤ b ∧ b ≤ 255) {s : Int → Bool} (hs : ExtS (maskL m b) s) : ∃ x : Nat, x < 64 ∧ ∀ v : Int, 1 ≤ v → v ≤ 6 → sOf (totUp (mixN x m b) 6) v = s v := by
  obtain ⟨x, hx, h⟩ := bits_any (sAt s) 6
  refine ⟨x, hx, fun v h1 h6 => ?_⟩
  have hi : v.natAbs - 1 < 6 := by omega
  have hx2 : 0 ≤ (x : Int) ∧ (x : Int) ≤ 255 := by have : x < 64 := hx; omega
  have h2 : bitOf (x : Int) (v.natAbs - 1) = s v := by
    rw [bitOf_test hx2.1 hx2.2, Int.toNat_natCast, h _ hi]
    unfold sAt
    rw [show ((v.natAbs - 1 : Nat) : Int) + 1 = v by omega]
  unfold sOf
  rw [mix_nth hx2 hm hb hi, h2]
  by_cases e : bitOf m (v.natAbs - 1) = true
  · have h3 := hs v h1 (by rw [maskL_nth m b hi, if_pos e]; split <;> decide)
    rw [maskL_nth m b hi, if_pos e] at h3
    rw [if_pos e, h3]
  · rw [if_neg e]
    cases s v <;> decide
theorem ext_of {m b x : Int} (hx : 0 ≤ x ∧ x ≤ 255) (hm : 0 ≤ m ∧ m ≤ 255) (hb : 0 ≤ b ∧ b ≤ 255) : ExtS (maskL m b) (sOf (totUp (mixN x m b) 6)) := fun v h1 hv => by
  unfold sOf
  rw [mix_ext hx hm hb _ hv]
section
variable {c : Pb} {m b : Int}
theorem total_six (h6 : ∀ j, j < c.lits.length → nth c.lits j ≠ 0 ∧ (nth c.lits j).natAbs ≤ 6) {s t : Int → Bool} (hst : ∀ v : Int, 1 ≤ v → v ≤ 6 → s v = t v) : c.total (tr s) = c.total (tr t) :=
  Pb.total_cong fun j hj => by
    have := h6 j hj
    exact tr_cong this.1 (hst _ (by omega) (by omega))
/-- Which total assignments that agree under the mask satisfy the constraint. -/
def mixH (c : Pb) (m b : Int) (x : Nat) : Bool := c.holdsB (totUp (mixN x m b) 6)
theorem mixH_is (h : c.Ok) (h6 : ∀ j, j < c.lits.length → (nth c.lits j).natAbs ≤ 6) (x : Nat) : mixH c m b x = decide (c.bound ≤ c.total (tr (sOf (totUp (mixN x m b) 6)))) := tot_holds h h6 (tot_total _)
theorem some_is (h : c.Ok) (h6 : ∀ j, j < c.lits.length → (nth c.lits j).natAbs ≤ 6) (hm : 0 ≤ m ∧ m ≤ 255) (hb : 0 ≤ b ∧ b ≤ 255) : decide (0 ≤ c.slackB (maskL m b)) = (List.range 64).any (mixH c m b) := by
  rw [Bool.eq_iff_iff, decide_eq_true_eq, slack_some h, List.any_eq_true]
  constructor
  · rintro ⟨s, h1, h2⟩
    obtain ⟨x, hx, hs⟩ := ext_is hm hb h1
    refine ⟨x, List.mem_range.2 hx, ?_⟩
    rw [mixH_is h h6, decide_eq_true_eq, total_six (fun j hj => ⟨(h.lit j hj).1, h6 j hj⟩) hs]
    exact h2
  · rintro ⟨x, hx, h2⟩
    rw [mixH_is h h6, decide_eq_true_eq] at h2
    have := List.mem_range.1 hx
    exact ⟨_, ext_of (by omega) hm hb, h2⟩
/-- Of the first n assignments that satisfy the constraint, do all make l true? -/
def mixA (c : Pb) (m b : Int) (n : Nat) (l : Int) : Bool := (List.range n).all fun x => !(mixH c m b x) || tr (sOf (totUp (mixN x m b) 6)) l
theorem mixA_succ (n : Nat) (l : Int) : mixA c m b (n + 1) l = (mixA c m b n l && (!(mixH c m b n) || tr (sOf (totUp (mixN n m b) 6)) l)) := by
  simp [mixA, List.range_succ]
theorem unit_is (h : c.Ok) (h6 : ∀ j, j < c.lits.length → (nth c.lits j).natAbs ≤ 6) (hm : 0 ≤ m ∧ m ≤ 255) (hb : 0 ≤ b ∧ b ≤ 255) (hs : 0 ≤ c.slackB (maskL m b)) {i : Nat} (hi : i < c.lits.length) :
    nth c.lits i ∈ c.unitsB (maskL m b) ↔ nth (maskL m b) ((nth c.lits i).natAbs - 1) = 0 ∧ mixA c m b 64 (nth c.lits i) = true := by
  rw [units_are h _ hs hi]
  refine and_congr_right fun _ => ?_
  unfold mixA
  rw [List.all_eq_true]
  have hl := (h.lit i hi).1
  have hl6 := h6 i hi
  constructor
  · intro h1 x hx
    have := List.mem_range.1 hx
    rw [mixH_is h h6]
    by_cases e : c.bound ≤ c.total (tr (sOf (totUp (mixN x m b) 6)))
    · rw [h1 _ (ext_of (by omega) hm hb) e]; simp
    · rw [decide_eq_false e]; rfl
  · intro h1 s h2 h3
    obtain ⟨x, hx, hs⟩ := ext_is hm hb h2
    have := h1 x (List.mem_range.2 hx)
    rw [mixH_is h h6, decide_eq_true (by rw [total_six (fun j hj => ⟨(h.lit j hj).1, h6 j hj⟩) hs]; exact h3)] at this
    rw [← tr_cong hl (hs _ (by omega) (by omega))]
    simpa using this
theorem units_lit {a : List Int} {l : Int} (hl : l ∈ c.unitsB a) : ∃ j, j < c.lits.length ∧ nth c.lits j = l := by
  obtain ⟨_, j, hj, _, e⟩ := mem_units.1 hl
  exact ⟨j, hj, e⟩
theorem units_neg (h : c.Ok) {a : List Int} {i : Nat} (hi : i < c.lits.length) : ¬ -(nth c.lits i) ∈ c.unitsB a := fun hm => by
  obtain ⟨j, hj, e⟩ := units_lit hm
  have hl := (h.lit i hi).1
  by_cases hij : j = i
  · subst hij; omega
  · have := h.differ hij hj hi
    unfold Pb.av at this
    omega
theorem units_len (a : List Int) : (c.unitsB a).length ≤ c.lits.length := by
  unfold Pb.unitsB
  split
  · have := c.pick_len (fun l k => decide (valB a l = 0) && decide (c.slackB a < k)) (List.range c.lits.length)
    simpa using this
  · simp
end
end Go.Proofs.YtbibjlaepmfoeaaDoor
