/-
  Chapter 24: the statements' own evaluation: holds.
-/
import Derived.Test.YtbibjlaepmfoeaaDoorPbU
import Derived.Test.YtbibjlaepmfoeaaDoorPlC
namespace Go.Proofs.YtbibjlaepmfoeaaDoor
open Go.RowKit

/-- The literal is true in the list av. -/
def litT (av : List Int) (l : Int) : Bool := decide (0 < l ∧ 0 < nth av (l.natAbs - 1)) || decide (l < 0 ∧ nth av (l.natAbs - 1) < 0)
def gotT (av ls ks : List Int) (j : Nat) : Int := ((List.range j).map fun i => if litT av (nth ls i) = true then nth ks i else 0).sum
theorem gotT_succ (av ls ks : List Int) (j : Nat) : gotT av ls ks (j + 1) = gotT av ls ks j + (if litT av (nth ls j) = true then nth ks j else 0) := by simp [gotT, List.range_succ]

theorem gotT_bounds {av ls ks : List Int} (hk : ∀ k ∈ ks, -8 ≤ k ∧ k ≤ 8) : ∀ j, j ≤ ks.length → -(j * 8 : Int) ≤ gotT av ls ks j ∧ gotT av ls ks j ≤ j * 8 := by
  intro j
  induction j with
  | zero => intro _; simp [gotT]
  | succ j ih =>
    intro hj
    obtain ⟨h1, h2⟩ := ih (by omega)
    have := hk _ (nth_mem (show j < ks.length by omega))
    rw [gotT_succ]
    split <;> omega

set_option maxRecDepth 100000 in
set_option maxHeartbeats 4000000 in
theorem lawHolds_any {w : World} {F G H : Nat → Prop} {u v x : Value} {n m q : Nat} {ls ks av : List Int} {b : Int} (hu : Rd w F 1 u n (ints ls)) (hv : Rd w G 1 v m (ints ks)) (hx : Rd w H 1 x q (i8s av)) (hlk : ls.length = ks.length) (h8 : ls.length ≤ 8)
    (hl : ∀ l ∈ ls, l.natAbs ≤ av.length) (hk : ∀ k ∈ ks, -8 ≤ k ∧ k ≤ 8) :
    Calls Tryd.prog 32 #[u, v, .int .i64 b, x] w fun r w' => r = .returned (.bool (decide (b ≤ gotT av ls ks ls.length))) ∧ Below w.heap.size w w' := by
  obtain ⟨A, c, rfl, hc, hcm, _⟩ := hu.2
  obtain ⟨B, d, rfl, hd, hdm, _⟩ := hv.2
  obtain ⟨X, e, rfl, he, hem, _⟩ := hx.2
  obtain ⟨rfl, hA⟩ := hu.cell
  obtain ⟨rfl, hB⟩ := hv.cell
  obtain ⟨rfl, hX⟩ := hx.cell8
  have hn : av.length ≤ 9223372036854775807 := by unfold maxLen at hem; omega
  have HA := hid hA
  have HB := hid hB
  have HX := hid hX
  have Hl := hid hl
  have Hk := hid hk
  have Hlk := hid hlk
  clear hcm hdm hem hA hB hX hl hk hlk
  go_enter Tryd.func32, Tryd.ntmps32
  go_wp2_with fail
  go_loopw [9, 14] (fun sm iv W => ∃ k : Nat, k ≤ ls.length ∧ iv = .int .i64 k ∧ sm = .int .i64 (gotT av ls ks k) ∧ Below w.heap.size w W) (fun _ iv _ => ls.length - (intOf iv).toNat)
  case atStart => exact ⟨0, by omega, rfl, rfl, Below.refl _ _⟩
  case round =>
    obtain ⟨k, hk, rfl, rfl, hb⟩ := hrel
    have hgb := gotT_bounds (av := av) (ls := ls) Hk.out k (by rw [← Hlk.out]; exact hk)
    by_cases hlt : k < ls.length
    · obtain ⟨g, o, rfl, _, hg, hc1⟩ := HA.out k hlt
      obtain ⟨g', o', rfl, _, hg', hc2⟩ := HB.out k (by rw [← Hlk.out]; exact hlt)
      have e1 := (hb.cell (p := ⟨g, o + k, none⟩) hg).trans hc1
      have e2 := (hb.cell (p := ⟨g', o' + k, none⟩) hg').trans hc2
      have hk1 : (k : Int) < (ls.length : Int) := by omega
      have hk2 : (k : Int) < (ks.length : Int) := by have := Hlk.out; omega
      have hl1 := Hl.out _ (nth_mem hlt)
      have hk3 := Hk.out _ (nth_mem (show k < ks.length by have := Hlk.out; omega))
      have hgs := gotT_succ av ls ks k
      obtain ⟨li, hli⟩ : ∃ l, nth ls k = l := ⟨_, rfl⟩
      obtain ⟨ki, hki⟩ : ∃ l, nth ks k = l := ⟨_, rfl⟩
      obtain ⟨s0, hs0⟩ : ∃ s, gotT av ls ks k = s := ⟨_, rfl⟩
      rw [hli] at e1 hl1 hgs
      rw [hki] at e2 hk3 hgs
      rw [hs0] at hgb hgs ⊢
      have Hg := hid hgs
      have hwr : IntKind.i64.wrap (s0 + ki) = s0 + ki := iw' (by omega) (by omega)
      clear hc1 hc2 hli hki hs0 hgs
      by_cases hp : 0 < li
      · obtain ⟨p, hp1⟩ : ∃ p : Nat, li.natAbs = p + 1 := ⟨li.natAbs - 1, by omega⟩
        have hli : li = (p : Int) + 1 := by omega
        have hpl : p < av.length := by omega
        subst hli
        have hnp : nth av (((p : Int) + 1).natAbs - 1) = nth av p := by rw [hp1, Nat.add_sub_cancel]
        have hp2 : (p : Int) < (av.length : Int) := by omega
        obtain ⟨g2, o2, rfl, _, hg2, hc3⟩ := HX.out p hpl
        have e3 := (hb.cell (p := ⟨g2, o2 + p, none⟩) hg2).trans hc3
        obtain ⟨x, hx⟩ : ∃ x, nth av p = x := ⟨_, rfl⟩
        rw [hx] at e3 hnp
        clear hc3 hx hp1
        by_cases hx0 : 0 < x
        · have hT : litT av ((p : Int) + 1) = true := by unfold litT; rw [hnp]; simp; omega
          have HT := hid hT
          clear hT hnp
          go_wp2_with fail
          go_roundw
          case rel => exact ⟨k + 1, by omega, by go_num, by rw [Hg.out, HT.out]; rfl, hb⟩
          case measure => simp [intOf]; omega
        · have hT : litT av ((p : Int) + 1) = false := by unfold litT; rw [hnp]; simp; omega
          have HT := hid hT
          clear hT hnp
          go_wp2_with fail
          go_roundw
          case rel => exact ⟨k + 1, by omega, by go_num, by rw [Hg.out, HT.out]; simp, hb⟩
          case measure => simp [intOf]; omega
      · by_cases hz : li = 0
        · subst hz
          have hT : litT av 0 = false := by unfold litT; simp
          have HT := hid hT
          clear hT
          go_wp2_with fail
          go_roundw
          case rel => exact ⟨k + 1, by omega, by go_num, by rw [Hg.out, HT.out]; simp, hb⟩
          case measure => simp [intOf]; omega
        · obtain ⟨p, hp1⟩ : ∃ p : Nat, li.natAbs = p + 1 := ⟨li.natAbs - 1, by omega⟩
          have hli : li = -((p : Int) + 1) := by omega
          have hpl : p < av.length := by omega
          subst hli
          have hnp : nth av ((-((p : Int) + 1)).natAbs - 1) = nth av p := by rw [hp1, Nat.add_sub_cancel]
          have hp2 : (p : Int) < (av.length : Int) := by omega
          have hw2 : IntKind.i64.wrap (-(-((p : Int) + 1))) = (p : Int) + 1 := by rw [iw' (by omega) (by omega)]; omega
          have hlz : -((p : Int) + 1) < 0 := by omega
          obtain ⟨g2, o2, rfl, _, hg2, hc3⟩ := HX.out p hpl
          have e3 := (hb.cell (p := ⟨g2, o2 + p, none⟩) hg2).trans hc3
          obtain ⟨x, hx⟩ : ∃ x, nth av p = x := ⟨_, rfl⟩
          rw [hx] at e3 hnp
          obtain ⟨mi, hmi⟩ : ∃ m, -((p : Int) + 1) = m := ⟨_, rfl⟩
          rw [hmi] at e1 hw2 hlz hnp Hg
          rw [hmi] at hp hz
          clear hc3 hx hp1
          by_cases hx0 : x < 0
          · have hT : litT av mi = true := by unfold litT; rw [hnp]; simp; omega
            have HT := hid hT
            clear hT hnp
            go_wp2_with fail
            go_roundw
            case rel => exact ⟨k + 1, by omega, by go_num, by rw [Hg.out, HT.out]; rfl, hb⟩
            case measure => simp [intOf]; omega
          · have hT : litT av mi = false := by unfold litT; rw [hnp]; simp; omega
            have HT := hid hT
            clear hT hnp
            go_wp2_with fail
            go_roundw
            case rel => exact ⟨k + 1, by omega, by go_num, by rw [Hg.out, HT.out]; simp, hb⟩
            case measure => simp [intOf]; omega
    · obtain rfl : k = ls.length := by omega
      go_wp2_with fail
      go_ret
      exact ⟨by simp, hb⟩
end Go.Proofs.YtbibjlaepmfoeaaDoor
