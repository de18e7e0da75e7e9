/-
  Walks of the law of chapter 29: extends.
-/
import Derived.Test.YtofobmgmgipomaaMgr
namespace Go.Proofs.Ytofobmgmgipomaa
open Go.RowKit

def litX (av : List Int) (x : Int) : Bool := decide (0 < nth av (x.natAbs - 1)) == decide (0 < x)
def extB (ps : List Pb) (ls av : List Int) : Bool := ps.all (fun p => p.holdsB av) && ls.all (litX av)
set_option maxRecDepth 100000 in
set_option maxHeartbeats 4000000 in
theorem extends_any {w : World} {F G H K : Nat → Prop} {A B C : Option Addr} {n c m d q e : Nat} {ps : List Pb} {ls av : List Int} (hp : PsRd w F G A n c ps) (hi : ∀ p ∈ ps, ∀ k ∈ p.coefs, I64 k) (hl : Rd w H 1 (.slice B m d) m (ints ls)) (ha : Rd w K 1 (.slice C q e) q (i8s av))
    (hls : ∀ x ∈ ls, 1 ≤ x.natAbs ∧ x.natAbs ≤ q ∧ -65536 ≤ x ∧ x ≤ 65536) (hn : n ≤ 100000) (hm : m ≤ 100000) :
    Calls Try.prog 25 #[.slice A n c, .slice B m d, .slice C q e] w fun r w' => r = .returned (.bool (extB ps ls av)) ∧ Below w.heap.size w w' := by
  have hpl : ps.length = n := by obtain ⟨_, _, _, h⟩ := hp; exact h
  have hll : ls.length = m := hl.cell.1
  have Hp := hid hp
  have Hi := hid hi
  have Hl := hid hl
  have Ha := hid ha
  have Hls := hid hls
  have Hpl := hid hpl
  have Hll := hid hll
  clear hp hi hl ha hls hpl hll
  go_enter Try.func25, Try.ntmps25
  go_wp2_with fail
  go_loopw [13] (fun iv W => ∃ k : Nat, k ≤ n ∧ iv = .int .i64 k ∧ Hid ((ps.take k).all (fun p => p.holdsB av) = true) ∧ Hid (Below w.heap.size w W)) (fun iv _ => n - (intOf iv).toNat)
  case atStart => exact ⟨0, Nat.zero_le _, rfl, hid (by simp), hid (Below.refl _ _)⟩
  case round =>
    obtain ⟨k, hk, rfl, HA, HB⟩ := hrel
    have hsB := HB.out.size
    by_cases hlt : k < n
    · have x1 : (k : Int) < (n : Int) := by omega
      obtain ⟨gA, oA, p, A1, n1, c1, A2, n2, c2, rfl, hgF, hgl, hpk, e0, e1, e2, hpp⟩ := (Hp.out.below HB.out).cells hlt
      obtain ⟨X1, hX1, bX1, kX1, sX1⟩ := alloc_step wr (.cells #[.slice A1 n1 c1, .slice A2 n2 c2, .int .i64 p.bound] 36)
      obtain ⟨q0, q1, q2⟩ := box3 kX1
      have Hh := hid (holds_any (hpp.below bX1) (Hi.out p (List.mem_of_getElem? hpk)) ((Ha.out.below HB.out).below bX1))
      have BX := hid (HB.out.trans (bX1.mono HB.out.size))
      have hta := hid (show (ps.take (k + 1)).all (fun p => p.holdsB av) = ((ps.take k).all (fun p => p.holdsB av) && p.holdsB av) by rw [List.take_add_one, hpk]; simp)
      have Hpm := hid (List.mem_of_getElem? hpk)
      clear hpp hpk bX1 kX1 sX1
      cases hh : p.holdsB av with
      | true =>
        rw [hh] at Hh hta
        go_wp2_with (refine Hh.out.mono ?_; rintro r W5 ⟨rfl, b5⟩; have B5 := hid b5; clear b5)
        go_roundw
        case rel => exact ⟨k + 1, by omega, by go_num, hid (by rw [hta.out, HA.out]; rfl), hid (BX.out.trans (B5.out.mono BX.out.size))⟩
        case measure => simp [intOf]; omega
      | false =>
        have hex : extB ps ls av = false := by
          unfold extB
          rw [show ps.all (fun p => p.holdsB av) = false from List.all_eq_false.2 ⟨p, Hpm.out, by rw [hh]; simp⟩]
          rfl
        have Hex := hid hex
        rw [hh] at Hh
        clear hex hh hta
        go_wp2_with (refine Hh.out.mono ?_; rintro r W5 ⟨rfl, b5⟩; have B5 := hid b5; clear b5)
        go_ret
        exact ⟨by rw [Hex.out]; rfl, BX.out.trans (B5.out.mono BX.out.size)⟩
    · have x1 : ¬ ((k : Int) < (n : Int)) := by omega
      have hall : ps.all (fun p => p.holdsB av) = true := by have := HA.out; rwa [List.take_of_length_le (by have := Hpl.out; omega)] at this
      have Hall := hid hall
      have HB0 := hid HB.out
      clear hall
      go_wp2_with fail
      go_loopw [24] (fun iv W => ∃ k : Nat, k ≤ m ∧ iv = .int .i64 k ∧ Hid ((ls.take k).all (litX av) = true) ∧ Hid (Below w.heap.size w W)) (fun iv _ => m - (intOf iv).toNat)
      case atStart => exact ⟨0, Nat.zero_le _, rfl, hid (by simp), HB0⟩
      case round =>
        obtain ⟨k, hk, rfl, HA, HB⟩ := hrel
        by_cases hlt : k < m
        · have x2 : (k : Int) < (m : Int) := by omega
          obtain ⟨gL, oL, rfl, _, hgL, eL⟩ := (Hl.out.below HB.out).cell.2 k hlt
          have hlm := Hls.out (nth ls k) (nth_mem (by have := Hll.out; omega))
          have htl := hid (show (ls.take (k + 1)).all (litX av) = ((ls.take k).all (litX av) && litX av (nth ls k)) by rw [take_nth (by have := Hll.out; omega)]; simp)
          have Hmem := hid (nth_mem (xs := ls) (k := k) (by have := Hll.out; omega))
          obtain ⟨li, hli⟩ : ∃ z, nth ls k = z := ⟨_, rfl⟩
          rw [hli] at eL hlm htl Hmem
          clear hli
          have hmx := max_abs (l := li) ⟨hlm.2.2.1, hlm.2.2.2⟩
          have hwn : IntKind.i64.wrap (-li) = -li := iw' (by omega) (by omega)
          obtain ⟨v, hv⟩ : ∃ v, li.natAbs = v + 1 := ⟨li.natAbs - 1, by omega⟩
          rw [hv] at hmx
          have hw1 : IntKind.i64.wrap (((v + 1 : Nat) : Int) - 1) = (v : Int) := by rw [show ((v + 1 : Nat) : Int) - 1 = v by omega]; exact iw' (by omega) (by omega)
          have Hw3 := hid (show wrap64 (v : Int) = (v : Int) from IntWalk.wrap64_in _ ⟨by omega, by omega⟩)
          obtain ⟨gC, oC, rfl, _, hgC, eC⟩ := (Ha.out.below HB.out).cell8.2 v (by omega)
          have hvq : (v : Int) < (q : Int) := by omega
          have Hlx := hid (show litX av li = (decide (0 < nth av v) == decide (0 < li)) by unfold litX; rw [hv]; rfl)
          obtain ⟨y, hy⟩ : ∃ y, nth av v = y := ⟨_, rfl⟩
          rw [hy] at eC Hlx
          have Hv := hid hv
          clear hy hv hlm
          have HF := hid (show litX av li = false → extB ps ls av = false from fun h => by
            unfold extB
            rw [show ls.all (litX av) = false from List.all_eq_false.2 ⟨li, Hmem.out, by rw [h]; simp⟩, Bool.and_false])
          clear Hmem
          by_cases hy0 : 0 < y
          · by_cases hl0 : 0 < li
            · have hb := hid (show litX av li = true by rw [Hlx.out]; simp [hy0, hl0])
              have hw3 := Hw3.out
              go_wp2_with fail
              clear hw3 hw1
              go_roundw
              case rel => exact ⟨k + 1, by omega, by go_num, hid (by rw [htl.out, HA.out, hb.out]; rfl), HB⟩
              case measure => simp [intOf]; omega
            · have hb := hid (HF.out (by rw [Hlx.out]; simp [hy0, hl0]))
              have hw3 := Hw3.out
              go_wp2_with fail
              clear hw3 hw1
              go_ret
              exact ⟨by rw [hb.out]; rfl, HB.out⟩
          · by_cases hl0 : 0 < li
            · have hb := hid (HF.out (by rw [Hlx.out]; simp [hy0, hl0]))
              have hw3 := Hw3.out
              go_wp2_with fail
              clear hw3 hw1
              go_ret
              exact ⟨by rw [hb.out]; rfl, HB.out⟩
            · have hb := hid (show litX av li = true by rw [Hlx.out]; simp [hy0, hl0])
              have hw3 := Hw3.out
              go_wp2_with fail
              clear hw3 hw1
              go_roundw
              case rel => exact ⟨k + 1, by omega, by go_num, hid (by rw [htl.out, HA.out, hb.out]; rfl), HB⟩
              case measure => simp [intOf]; omega
        · have x2 : ¬ ((k : Int) < (m : Int)) := by omega
          have hex : extB ps ls av = true := by
            have := HA.out
            rw [List.take_of_length_le (by have := Hll.out; omega)] at this
            unfold extB
            rw [Hall.out, this]; rfl
          have Hex := hid hex
          clear hex
          go_wp2_with fail
          go_ret
          exact ⟨by rw [Hex.out]; rfl, HB.out⟩
end Go.Proofs.Ytofobmgmgipomaa
