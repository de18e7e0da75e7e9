/-
  Chapter 24, the reference: Valid, Slack, Holds.
-/
import Derived.Test.YtofobmgmgipomaaRfA
import Derived.Deep.RegionHeld
import Derived.BigRegion
namespace Go.Proofs.Ytofobmgmgipomaa
open Go.RowKit

/-- The reference's test of place j. -/
def Pb.badR (c : Pb) (j : Nat) : Bool := !(litB (nth c.lits j)) || decide (nth c.coefs j < 1) || decide (c.bound < nth c.coefs j) || (decide (0 < j) && decide ((nth c.lits j).natAbs ≤ (nth c.lits (j - 1)).natAbs))
theorem badR_is {c : Pb} {j : Nat} : c.badR j = !(c.good j) := by
  unfold Pb.badR Pb.good Pb.last
  by_cases h1 : litB (nth c.lits j) = true
  · have hl := litB_iff.1 h1
    rw [h1]
    by_cases h2 : 1 ≤ nth c.coefs j
    · by_cases h3 : nth c.coefs j ≤ c.bound
      · by_cases h4 : j = 0
        · subst h4
          rw [decide_eq_false (show ¬ nth c.coefs 0 < 1 by omega), decide_eq_false (show ¬ c.bound < nth c.coefs 0 by omega), if_pos rfl, decide_eq_true h2, decide_eq_true h3, decide_eq_true (show (0 : Int) < ((nth c.lits 0).natAbs : Nat) by omega)]
          rfl
        · rw [if_neg h4, decide_eq_false (show ¬ nth c.coefs j < 1 by omega), decide_eq_false (show ¬ c.bound < nth c.coefs j by omega), decide_eq_true h2, decide_eq_true h3, decide_eq_true (show 0 < j by omega)]
          by_cases h5 : (nth c.lits j).natAbs ≤ (nth c.lits (j - 1)).natAbs
          · rw [decide_eq_true h5, decide_eq_false (by omega)]; rfl
          · rw [decide_eq_false h5, decide_eq_true (by omega)]; rfl
      · rw [decide_eq_true (show c.bound < nth c.coefs j by omega), decide_eq_false h3]; simp
    · rw [decide_eq_true (show nth c.coefs j < 1 by omega), decide_eq_false h2]; simp
  · have h1 : litB (nth c.lits j) = false := by simpa using h1
    rw [h1]; simp
theorem retB {a b : Bool} (h : a = b) : Ending.returned (.bool b) = Ending.returned (.bool a) := by rw [h]
theorem Bl.drewN {B : Nat} {w W : World} (h : Below B w W) (z : Nat) : Below B w (W.drewN z) := ⟨h.os, h.tape, h.output, h.size, h.block⟩
theorem rlit_q {w : World} {l : Int} {q : Bool} (h : litB l = q) (z : Nat) : Calls Try.prog 75 #[.int .i64 l] (w.drewN z) fun r w' => r = .returned (.bool q) ∧ ∃ m, w' = w.drewN m :=
  Calls.quiet_of_same (h ▸ rlit_any.mono fun _ _ h => ⟨h.1, h.2.symm⟩)
theorem rvar_q {w : World} {l : Int} {v : Nat} (h1 : -65536 ≤ l) (h2 : l ≤ 65536) (h : l.natAbs = v) (z : Nat) : Calls Try.prog 76 #[.int .i64 l] (w.drewN z) fun r w' => r = .returned (.int .i64 v) ∧ ∃ m, w' = w.drewN m :=
  Calls.quiet_of_same (h ▸ (rvar_any (by omega) (by omega)).mono fun _ _ h => ⟨h.1, h.2.symm⟩)
set_option maxRecDepth 100000 in
set_option maxHeartbeats 4000000 in
theorem rvalid_any {w : World} {F : Nat → Prop} {v : Value} {c : Pb} (hc : PbRd w F v c) (hi : ∀ k ∈ c.coefs, I64 k) (h40 : c.lits.length ≤ 65536) :
    Calls Try.prog 66 #[v] w fun r w' => r = .returned (.bool c.ok) ∧ Below w.heap.size w w' := by
  obtain ⟨⟨L, n, cn, K, m, cm, rfl, hx, hk⟩, hb⟩ := hc
  have hxl : c.lits.length = n := by have := hx.1; simpa [ints_length] using this
  have hkl : c.coefs.length = m := by have := hk.1; simpa [ints_length] using this
  obtain ⟨X, hX, bX, kX, sX⟩ := alloc_step w (.cells #[.slice L n cn, .slice K m cm, .int .i64 c.bound] 36)
  obtain ⟨Z, hZ⟩ : ∃ z, w.heap.size = z := ⟨_, rfl⟩
  have Hx := hid (hx.below bX)
  have Hk := hid (hk.below bX)
  have HB := hid bX
  have Hxl := hid hxl
  have Hkl := hid hkl
  have Hi := hid hi
  rw [hZ] at kX
  have KX := hid kX
  have HX := hid hX
  have HZ := hid hZ
  unfold I64 at hb
  have hn6 : n ≤ 65536 := by omega
  clear hx hk bX hkl hxl kX hX hZ sX hi h40
  by_cases hnm : n = m
  · subst hnm
    by_cases hb0 : 0 ≤ c.bound
    · by_cases hb1 : c.bound ≤ 16777216
      · obtain ⟨e0, e1, e2⟩ := box3 KX.out
        have hok := (show c.ok = ((List.range n).all c.good && (decide (c.bound ≤ c.sum n) || (decide (n = 0) && decide (c.bound = 1)))) by
          unfold Pb.ok
          rw [Hxl.out, Hkl.out, decide_eq_true hb0, decide_eq_true hb1]
          simp)
        have hq1 : decide (c.bound < 0) = false := by simpa using hb0
        have hq2 : decide (16777216 < c.bound) = false := by simpa using hb1
        have Hok := hid hok
        clear hok
        go_enter Try.func66, Try.ntmps66
        go_wp2_with fail
        rw [HX.out, HZ.out]
        go_wp2_with fail
        go_loopw [3, 4] (fun sv iv W => ∃ j : Nat, j ≤ n ∧ iv = .int .i64 j ∧ sv = .int .i64 (c.sum j) ∧ Hid ((List.range j).all c.good = true) ∧ Hid (0 ≤ c.sum j ∧ c.sum j ≤ j * 16777216) ∧ Hid (Below X.heap.size X W)) (fun _ iv _ => n - (intOf iv).toNat)
        case atStart => exact ⟨0, by omega, rfl, rfl, hid rfl, hid (by unfold Pb.sum; simp), hid (Below.refl _ _)⟩
        case round =>
          obtain ⟨j, hj, rfl, rfl, Hg, Hs, hB⟩ := hrel
          clear e0 e1 e2
          have k2 := keep_blk KX.out hB.out
          obtain ⟨e0, e1, e2⟩ := box3 k2
          have K2 := hid k2
          clear k2
          by_cases hlt : j < n
          · have x1 : (j : Int) < (n : Int) := by omega
            obtain ⟨g, o, rfl, _, hg, hcx⟩ := (Hx.out.below hB.out).cell.2 j hlt
            obtain ⟨g', o', rfl, _, hg', hck⟩ := (Hk.out.below hB.out).cell.2 j hlt
            obtain ⟨lj, hlj⟩ : ∃ x, nth c.lits j = x := ⟨_, rfl⟩
            obtain ⟨kj, hkj⟩ : ∃ x, nth c.coefs j = x := ⟨_, rfl⟩
            have hki := Hi.out _ (nth_mem (show j < c.coefs.length by rw [Hkl.out]; exact hlt))
            have hall : (List.range (j + 1)).all c.good = c.good j := by rw [List.range_succ, List.all_append, Hg.out]; simp
            have hbadr := badR_is (c := c) (j := j)
            have hsum : c.sum (j + 1) = c.sum j + kj := by unfold Pb.sum; rw [take_nth (by rw [Hkl.out]; exact hlt), List.sum_append, hkj]; simp
            have hno : c.good j = false → c.ok = false := fun e => by
              rw [Hok.out, show (List.range n).all c.good = false from List.all_eq_false.2 ⟨j, List.mem_range.2 hlt, by rw [e]; simp⟩]
              rfl
            unfold Pb.badR at hbadr
            rw [hkj] at hki hck hbadr
            rw [hlj] at hcx hbadr
            unfold I64 at hki
            have Hall := hid hall
            have Hno := hid hno
            have Hbr := hid hbadr
            obtain ⟨sj, hsj⟩ : ∃ x, c.sum j = x := ⟨_, rfl⟩
            have hs2 := Hs.out
            rw [hsj] at hsum hs2 ⊢
            have Hsum := hid hsum
            have Hlj := hid hlj
            have Hs2 := hid hs2
            obtain ⟨bd, hbd⟩ : ∃ x, c.bound = x := ⟨_, rfl⟩
            rw [hbd] at e2 hb0 hb1 Hbr
            have HB2 := hid hB.out
            clear hall hno hbadr hsj hsum hlj hkj hbd Hs hB
            obtain ⟨ql, hql⟩ : ∃ q, litB lj = q := ⟨_, rfl⟩
            have hlq := fun z => rlit_q (w := wr) hql z
            have Hlq := hid hlq
            have Hql := hid hql
            clear hlq hql
            cases ql
            · have hg : c.good j = false := by have := Hbr.out; rw [Hql.out] at this; simpa using this.symm
              have Hf := hid (Hno.out hg)
              clear hg
              go_wp2_with fail
              go_quiet (first | (go_at_call 75; exact Hlq.out _))
              go_wp2_with fail
              go_ret
              exact ⟨retB Hf.out, HB.out.trans (Bl.drewN (HB2.out.mono HB.out.size) _)⟩
            · have hl6 := litB_iff.1 Hql.out
              by_cases hk1 : kj < 1
              · have d1 : decide (kj < 1) = true := by simpa using hk1
                have hg : c.good j = false := by have := Hbr.out; rw [Hql.out, d1] at this; simpa using this.symm
                have Hf := hid (Hno.out hg)
                clear hg
                go_wp2_with fail
                go_quiet (first | (go_at_call 75; exact Hlq.out _))
                go_wp2_with fail
                go_ret
                exact ⟨retB Hf.out, HB.out.trans (Bl.drewN (HB2.out.mono HB.out.size) _)⟩
              · have d1 : decide (kj < 1) = false := by simpa using hk1
                by_cases hk2 : bd < kj
                · have d2 : decide (bd < kj) = true := by simpa using hk2
                  have hg : c.good j = false := by have := Hbr.out; rw [Hql.out, d1, d2] at this; simpa using this.symm
                  have Hf := hid (Hno.out hg)
                  clear hg
                  go_wp2_with fail
                  go_quiet (first | (go_at_call 75; exact Hlq.out _))
                  go_wp2_with fail
                  go_ret
                  exact ⟨retB Hf.out, HB.out.trans (Bl.drewN (HB2.out.mono HB.out.size) _)⟩
                · have d2 : decide (bd < kj) = false := by simpa using hk2
                  by_cases hj0 : j = 0
                  · have d3 : decide (0 < j) = false := by simp; omega
                    have d4 : decide ((0 : Int) < (j : Int)) = false := by simp; omega
                    have hg : c.good j = true := by have := Hbr.out; rw [Hql.out, d1, d2, d3] at this; simpa using this.symm
                    have Hg2 := hid (Hall.out.trans hg)
                    clear hg hj0
                    go_wp2_with fail
                    go_quiet (first | (go_at_call 75; exact Hlq.out _))
                    go_wp2_with fail
                    go_roundw
                    case rel => exact ⟨j + 1, by omega, by go_num, by rw [Hsum.out], Hg2, hid (by rw [Hsum.out]; have := Hs2.out; omega), hid (Bl.drewN HB2.out _)⟩
                    case measure => simp [intOf]; omega
                  · have d3 : decide (0 < j) = true := by simp; omega
                    have d4 : decide ((0 : Int) < (j : Int)) = true := by simp; omega
                    have e4 := ((Hx.out.below HB2.out).cell.2 (j - 1) (by omega))
                    obtain ⟨g4, o4, e5, _, hg4, hcp⟩ := e4
                    injection e5 with e5
                    injection e5 with e5 e6
                    subst e5 e6
                    have hlp := litB_iff.1 (show litB (nth c.lits (j - 1)) = true by
                      have := List.all_eq_true.1 Hg.out (j - 1) (List.mem_range.2 (by omega))
                      unfold Pb.good at this
                      simp only [Bool.and_eq_true] at this
                      exact this.1.1.1)
                    obtain ⟨lp, hlpe⟩ : ∃ x, nth c.lits (j - 1) = x := ⟨_, rfl⟩
                    rw [hlpe] at hcp hlp Hbr
                    obtain ⟨vp, hvp⟩ : ∃ v, lp.natAbs = v := ⟨_, rfl⟩
                    obtain ⟨vj, hvj⟩ : ∃ v, lj.natAbs = v := ⟨_, rfl⟩
                    rw [hvp, hvj, d3] at Hbr
                    have hq1 := fun z => rvar_q (w := wr) hlp.2.1 hlp.2.2 hvp z
                    have hq2 := fun z => rvar_q (w := wr) hl6.2.1 hl6.2.2 hvj z
                    have Hq1 := hid hq1
                    have Hq2 := hid hq2
                    clear hq1 hq2 hvp hvj hlpe hlp hl6
                    by_cases hvv : vj ≤ vp
                    · have d5 : decide (vj ≤ vp) = true := by simpa using hvv
                      have d6 : decide ((vj : Int) ≤ (vp : Int)) = true := by simp; omega
                      have hg : c.good j = false := by have := Hbr.out; rw [Hql.out, d1, d2, d5] at this; simpa using this.symm
                      have Hf := hid (Hno.out hg)
                      clear hg
                      go_wp2_with fail
                      go_quiet (first | (go_at_call 75; exact Hlq.out _) | (go_at_call 76; exact Hq1.out _) | (go_at_call 76; exact Hq2.out _))
                      go_wp2_with fail
                      go_ret
                      exact ⟨retB Hf.out, HB.out.trans (Bl.drewN (HB2.out.mono HB.out.size) _)⟩
                    · have d5 : decide (vj ≤ vp) = false := by simpa using hvv
                      have d6 : decide ((vj : Int) ≤ (vp : Int)) = false := by simp; omega
                      have hg : c.good j = true := by have := Hbr.out; rw [Hql.out, d1, d2, d5] at this; simpa using this.symm
                      have Hg2 := hid (Hall.out.trans hg)
                      clear hg
                      go_wp2_with fail
                      go_quiet (first | (go_at_call 75; exact Hlq.out _) | (go_at_call 76; exact Hq1.out _) | (go_at_call 76; exact Hq2.out _))
                      go_wp2_with fail
                      go_roundw
                      case rel => exact ⟨j + 1, by omega, by go_num, by rw [Hsum.out], Hg2, hid (by rw [Hsum.out]; have := Hs2.out; omega), hid (Bl.drewN HB2.out _)⟩
                      case measure => simp [intOf]; omega
          · have hjn : j = n := by omega
            have hfin : c.ok = (decide (c.bound ≤ c.sum j) || (decide (j = 0) && decide (c.bound = 1))) := by rw [Hok.out, ← hjn, Hg.out]; simp
            have Hfin := hid hfin
            obtain ⟨sj, hsj⟩ : ∃ x, c.sum j = x := ⟨_, rfl⟩
            rw [hsj] at Hfin ⊢
            obtain ⟨bd, hbd⟩ : ∃ x, c.bound = x := ⟨_, rfl⟩
            rw [hbd] at e2 Hfin
            have HB2 := hid hB.out
            clear hfin hsj hbd Hs hB
            by_cases h1 : bd ≤ sj
            · have d1 : decide (bd ≤ sj) = true := by simpa using h1
              have Hf := hid (show c.ok = true by rw [Hfin.out, d1]; rfl)
              go_wp2_with fail
              go_ret
              exact ⟨retB Hf.out, HB.out.trans (HB2.out.mono HB.out.size)⟩
            · have d1 : decide (bd ≤ sj) = false := by simpa using h1
              by_cases h2 : n = 0
              · have d2 : decide (n = 0) = true := by simpa using h2
                have d3 : ((n : Int) == 0) = true := by simp; omega
                by_cases h3 : bd = 1
                · have d4 : (bd == 1) = true := by simpa using h3
                  have Hf := hid (show c.ok = true by rw [Hfin.out, hjn, d2, decide_eq_true h3]; simp)
                  clear h3 hjn h2
                  go_wp2_with fail
                  go_ret
                  exact ⟨retB Hf.out, HB.out.trans (HB2.out.mono HB.out.size)⟩
                · have d4 : (bd == 1) = false := by simpa using h3
                  have Hf := hid (show c.ok = false by rw [Hfin.out, d1, decide_eq_false h3]; simp)
                  clear hjn h2
                  go_wp2_with fail
                  go_ret
                  exact ⟨retB Hf.out, HB.out.trans (HB2.out.mono HB.out.size)⟩
              · have d3 : ((n : Int) == 0) = false := by simp; omega
                have Hf := hid (show c.ok = false by rw [Hfin.out, d1, decide_eq_false (show ¬ j = 0 by omega)]; simp)
                clear hjn
                go_wp2_with fail
                go_ret
                exact ⟨retB Hf.out, HB.out.trans (HB2.out.mono HB.out.size)⟩
      · have hok : c.ok = false := by unfold Pb.ok; rw [decide_eq_false hb1]; simp
        have Hf := hid hok
        have hq1 : decide (c.bound < 0) = false := by simpa using hb0
        have hq2 : decide (16777216 < c.bound) = true := by simp; omega
        clear hok
        go_enter Try.func66, Try.ntmps66
        go_wp2_with fail
        go_ret
        exact ⟨retB Hf.out, by rw [HX.out]; exact HB.out⟩
    · have hok : c.ok = false := by unfold Pb.ok; rw [decide_eq_false hb0]; simp
      have Hf := hid hok
      have hq1 : decide (c.bound < 0) = true := by simp; omega
      clear hok
      go_enter Try.func66, Try.ntmps66
      go_wp2_with fail
      go_ret
      exact ⟨retB Hf.out, by rw [HX.out]; exact HB.out⟩
  · have hok : c.ok = false := by unfold Pb.ok; rw [Hxl.out, Hkl.out, decide_eq_false hnm]; simp
    have Hf := hid hok
    have hq0 : ((n : Int) != (m : Int)) = true := by simp; omega
    have hq1 : (n != m) = true := by simpa using hnm
    clear hok
    go_enter Try.func66, Try.ntmps66
    go_wp2_with fail
    go_ret
    exact ⟨retB Hf.out, by rw [HX.out]; exact HB.out⟩
end Go.Proofs.Ytofobmgmgipomaa
