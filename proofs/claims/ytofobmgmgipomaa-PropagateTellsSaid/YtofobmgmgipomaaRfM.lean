/-
  The reference of chapter 29: Implies, Some (written by gen_rfm.py).
-/
import Derived.Test.YtofobmgmgipomaaPrF
import Derived.Test.YtofobmgmgipomaaRfD
namespace Go.Proofs.Ytofobmgmgipomaa
open Go.RowKit

theorem any_eq_mem {xs : List Int} {x : Int} : (xs.any fun y => y == x) = decide (x ∈ xs) := by
  rw [Bool.eq_iff_iff, List.any_eq_true, decide_eq_true_eq]
  exact ⟨fun ⟨y, hy, e⟩ => by rw [← eq_of_beq e]; exact hy, fun h => ⟨x, h, beq_self_eq_true x⟩⟩
theorem any_take {xs : List Int} {x : Int} {k : Nat} (h : k < xs.length) : ((xs.take (k + 1)).any fun y => y == x) = (((xs.take k).any fun y => y == x) || (nth xs k == x)) := by rw [take_nth h, List.any_append]; simp
set_option maxRecDepth 100000 in
set_option maxHeartbeats 8000000 in
theorem rimplies_any {w : World} {F G : Nat → Prop} {v : Value} {c : Pb} {A : Option Addr} {na ca : Nat} {ls : List Int} (hc : PbRd w F v c) (hok : c.Ok) (ha : Rd w G 1 (.slice A na ca) na (ints ls)) :
    Calls Try.prog 52 #[v, .slice A na ca] w fun r w' => r = .returned (.bool (impC c ls)) ∧ Below w.heap.size w w' := by
  obtain ⟨⟨L, n, cn, K, m, cm, rfl, hx, hk⟩, hbd⟩ := hc
  have hxl : c.lits.length = n := hx.cell.1
  have hkl : c.coefs.length = m := hk.cell.1
  have hll : ls.length = na := ha.cell.1
  have hmn : m = n := by rw [← hkl, ← hxl]; exact hok.len.symm
  subst hmn
  have hnf : m ≤ 65536 := by rw [← hxl]; exact hok.few
  have hnam : na ≤ 9223372036854775807 := by have h := rd_spot ha; have h1 := h.1; have h2 := h.2.1; unfold maxLen at h2; omega
  obtain ⟨X0, hX0, bX0, k0, s0⟩ := alloc_step w (.cells #[.slice L m cn, .slice K m cm, .int .i64 c.bound] 36)
  obtain ⟨e0, e1, e2⟩ := box3 k0
  obtain ⟨Z, hZ⟩ : ∃ z, w.heap.size = z := ⟨_, rfl⟩
  rw [hZ] at e0 e1 e2
  have HLx := hid (hx.below bX0)
  have HKx := hid (hk.below bX0)
  have HAx := hid (ha.below bX0)
  have BX := hid bX0
  have HX := hid hX0
  have HZ := hid hZ
  have Hxl := hid hxl
  have Hll := hid hll
  have Hok := hid hok
  have E0 := hid e0
  have E1 := hid e1
  have E2 := hid e2
  have hbd2 : I64 c.bound := hbd
  have Hpb := hid fun (i : Nat) (hi : i ≤ m) => Pb.part_bounds hok (fun l => !decide (l ∈ ls)) (List.range i) (fun j hj => by have := List.mem_range.1 hj; omega)
  clear hx hk ha hX0 bX0 k0 s0 hZ hxl hkl hll hok e0 e1 e2 hbd hbd2
  go_enter Try.func52, Try.ntmps52
  go_wp2_with fail
  rw [HX.out, HZ.out]
  go_loopw [5, 6] (fun rv iv W => ∃ i : Nat, i ≤ m ∧ iv = .int .i64 i ∧ rv = .int .i64 (c.part (fun l => !decide (l ∈ ls)) (List.range i)) ∧ Hid (Below X0.heap.size X0 W)) (fun _ iv _ => m - (intOf iv).toNat)
  case atStart => exact ⟨0, Nat.zero_le _, rfl, rfl, hid (Below.refl _ _)⟩
  case round =>
    obtain ⟨i, hi, rfl, rfl, HB⟩ := hrel
    obtain ⟨V, rfl⟩ : ∃ V, V = wr := ⟨_, rfl⟩
    have e0 := keep_cell E0.out HB.out
    by_cases hlt : i < m
    · have x1 : (i : Int) < (m : Int) := by omega
      obtain ⟨gL, oL, rfl, _, hgL, eL⟩ := (HLx.out.below HB.out).cell.2 i hlt
      obtain ⟨x, hx⟩ : ∃ x, nth c.lits i = x := ⟨_, rfl⟩
      rw [hx] at eL
      have Hx := hid hx
      have EL := hid eL
      have E0V := hid e0
      obtain ⟨rs, hrs⟩ : ∃ z, c.part (fun l => !decide (l ∈ ls)) (List.range i) = z := ⟨_, rfl⟩
      have hpb := Hpb.out i hi
      rw [List.length_range, hrs] at hpb
      have Hrs := hid hrs
      rw [hrs]
      clear hx eL hrs
      go_wp2_with fail
      clear e0
      go_loopw [7, 8] (fun qv kv W => ∃ k : Nat, k ≤ na ∧ kv = .int .i64 k ∧ qv = .bool ((ls.take k).any fun y => y == x) ∧ Hid (Below V.heap.size V W)) (fun _ kv _ => na - (intOf kv).toNat)
      case atStart => exact ⟨0, Nat.zero_le _, rfl, by simp, hid (Below.refl _ _)⟩
      case round =>
        obtain ⟨k, hk, rfl, rfl, HBk⟩ := hrel
        by_cases hltk : k < na
        · have x2 : (k : Int) < (na : Int) := by omega
          obtain ⟨gA, oA, rfl, _, hgA, eA⟩ := ((HAx.out.below HB.out).below HBk.out).cell.2 k hltk
          have e0 := keep_cell E0V.out HBk.out
          have eL := keep_cell EL.out HBk.out
          have hst := any_take (xs := ls) (x := x) (k := k) (by rw [Hll.out]; exact hltk)
          obtain ⟨y, hy⟩ : ∃ y, nth ls k = y := ⟨_, rfl⟩
          rw [hy] at hst eA
          obtain ⟨q, hq⟩ : ∃ q, ((ls.take k).any fun y => y == x) = q := ⟨_, rfl⟩
          rw [hq] at hst ⊢
          have Hst := hid hst
          clear hst hq hy
          cases q with
          | true =>
            go_wp2_with fail
            go_quiet (fail)
            go_wp2_with fail
            go_roundw
            case rel => exact ⟨k + 1, by omega, by go_num, by rw [Hst.out]; simp, hid (Bl.drewN HBk.out _)⟩
            case measure => simp [intOf]; omega
          | false =>
            by_cases hxy : y = x
            · subst hxy
              go_wp2_with fail
              go_quiet (fail)
              go_wp2_with fail
              go_roundw
              case rel => exact ⟨k + 1, by omega, by go_num, by rw [Hst.out]; simp, hid (Bl.drewN HBk.out _)⟩
              case measure => simp [intOf]; omega
            · have t0 : (y == x) = false := by simpa using hxy
              have t1 : decide (y = x) = false := by simpa using hxy
              go_wp2_with fail
              go_quiet (fail)
              go_wp2_with fail
              go_roundw
              case rel => exact ⟨k + 1, by omega, by go_num, by rw [Hst.out]; simp [t0], hid (Bl.drewN HBk.out _)⟩
              case measure => simp [intOf]; omega
        · have x2 : ¬ ((k : Int) < (na : Int)) := by omega
          have hany : ((ls.take k).any fun y => y == x) = decide (x ∈ ls) := by rw [List.take_of_length_le (by rw [Hll.out]; omega), any_eq_mem]
          rw [hany]
          obtain ⟨gK, oK, rfl, _, hgK, eK⟩ := ((HKx.out.below HB.out).below HBk.out).cell.2 i hlt
          have e1 := keep_cell (keep_cell E1.out HB.out) HBk.out
          have hps := Pb.part_snoc c (fun l => !decide (l ∈ ls)) (List.range i) i
          rw [← List.range_succ, Hx.out, Hrs.out] at hps
          have hci := Hok.out.coef i (by rw [Hxl.out]; exact hlt)
          have hhi := Hok.out.high
          obtain ⟨kc, hkc⟩ : ∃ z, nth c.coefs i = z := ⟨_, rfl⟩
          rw [hkc] at eK hps hci
          have hk1 : 1 ≤ kc := hci.1
          have hk2 : kc ≤ 16777216 := by omega
          have B2 := hid (HB.out.trans (HBk.out.mono HB.out.size))
          have Hps := hid hps
          clear hany hps hkc hci hhi
          cases hq : decide (x ∈ ls) with
          | true =>
            have Hp2 := hid (show c.part (fun l => !decide (l ∈ ls)) (List.range (i + 1)) = rs by rw [Hps.out, hq]; simp)
            clear hq
            go_wp2_with fail
            go_roundw
            case rel => exact ⟨i + 1, by omega, by go_num, by rw [Hp2.out], B2⟩
            case measure => simp [intOf]; omega
          | false =>
            have Hp2 := hid (show c.part (fun l => !decide (l ∈ ls)) (List.range (i + 1)) = rs + kc by rw [Hps.out, hq]; simp)
            clear hq
            go_wp2_with fail
            go_roundw
            case rel => exact ⟨i + 1, by omega, by go_num, by rw [Hp2.out], B2⟩
            case measure => simp [intOf]; omega
    · have x1 : ¬ ((i : Int) < (m : Int)) := by omega
      have him : i = m := by omega
      obtain ⟨rs, hrs⟩ : ∃ z, c.part (fun l => !decide (l ∈ ls)) (List.range i) = z := ⟨_, rfl⟩
      have Hrt := hid (show (c.total fun l => !decide (l ∈ ls)) = rs by rw [← hrs, him]; unfold Pb.total; rw [Hxl.out])
      rw [hrs]
      clear him hrs
      go_wp2_with fail
      clear e0
      go_loopw [9] (fun kv W => ∃ k : Nat, k ≤ na ∧ kv = .int .i64 k ∧ Hid ((ls.take k).all (fun l => decide (l ∈ c.lits)) = true) ∧ Hid (Below V.heap.size V W)) (fun kv _ => na - (intOf kv).toNat)
      case atStart => exact ⟨0, Nat.zero_le _, rfl, hid (by simp), hid (Below.refl _ _)⟩
      case round =>
        obtain ⟨k, hk, rfl, Hal, HBk⟩ := hrel
        obtain ⟨U, rfl⟩ : ∃ U, U = wr := ⟨_, rfl⟩
        by_cases hltk : k < na
        · have x2 : (k : Int) < (na : Int) := by omega
          obtain ⟨gA, oA, rfl, _, hgA, eA⟩ := ((HAx.out.below HB.out).below HBk.out).cell.2 k hltk
          have E0U := hid (keep_cell (keep_cell E0.out HB.out) HBk.out)
          obtain ⟨x, hx⟩ : ∃ x, nth ls k = x := ⟨_, rfl⟩
          rw [hx] at eA
          have Hnx := hid (show (ls.take (k + 1)).all (fun l => decide (l ∈ c.lits)) = decide (x ∈ c.lits) by rw [take_nth (by rw [Hll.out]; exact hltk), List.all_append, Hal.out, hx]; simp)
          have Hxm := hid (show x ∈ ls by rw [← hx]; exact nth_mem (by rw [Hll.out]; exact hltk))
          have EA := hid eA
          clear eA hx
          go_wp2_with fail
          go_loopw [10, 11] (fun qv jv W => ∃ j : Nat, j ≤ m ∧ jv = .int .i64 j ∧ qv = .bool ((c.lits.take j).any fun y => y == x) ∧ Hid (Below U.heap.size U W)) (fun _ jv _ => m - (intOf jv).toNat)
          case atStart => exact ⟨0, Nat.zero_le _, rfl, by simp, hid (Below.refl _ _)⟩
          case round =>
            obtain ⟨j, hj, rfl, rfl, HBj⟩ := hrel
            have e0 := keep_cell E0U.out HBj.out
            by_cases hltj : j < m
            · have x3 : (j : Int) < (m : Int) := by omega
              obtain ⟨gL, oL, rfl, _, hgL, eL⟩ := (((HLx.out.below HB.out).below HBk.out).below HBj.out).cell.2 j hltj
              have eA := keep_cell EA.out HBj.out
              have hst := any_take (xs := c.lits) (x := x) (k := j) (by rw [Hxl.out]; exact hltj)
              obtain ⟨y, hy⟩ : ∃ y, nth c.lits j = y := ⟨_, rfl⟩
              rw [hy] at hst eL
              obtain ⟨q, hq⟩ : ∃ q, ((c.lits.take j).any fun y => y == x) = q := ⟨_, rfl⟩
              rw [hq] at hst ⊢
              have Hst := hid hst
              clear hst hq hy
              cases q with
              | true =>
                go_wp2_with fail
                go_quiet (fail)
                go_wp2_with fail
                go_roundw
                case rel => exact ⟨j + 1, by omega, by go_num, by rw [Hst.out]; simp, hid (Bl.drewN HBj.out _)⟩
                case measure => simp [intOf]; omega
              | false =>
                by_cases hxy : y = x
                · subst hxy
                  go_wp2_with fail
                  go_quiet (fail)
                  go_wp2_with fail
                  go_roundw
                  case rel => exact ⟨j + 1, by omega, by go_num, by rw [Hst.out]; simp, hid (Bl.drewN HBj.out _)⟩
                  case measure => simp [intOf]; omega
                · have t0 : (y == x) = false := by simpa using hxy
                  have t1 : decide (y = x) = false := by simpa using hxy
                  go_wp2_with fail
                  go_quiet (fail)
                  go_wp2_with fail
                  go_roundw
                  case rel => exact ⟨j + 1, by omega, by go_num, by rw [Hst.out]; simp [t0], hid (Bl.drewN HBj.out _)⟩
                  case measure => simp [intOf]; omega
            · have x3 : ¬ ((j : Int) < (m : Int)) := by omega
              have hany : ((c.lits.take j).any fun y => y == x) = decide (x ∈ c.lits) := by rw [List.take_of_length_le (by rw [Hxl.out]; omega), any_eq_mem]
              rw [hany]
              have B2 := hid (HBk.out.trans (HBj.out.mono HBk.out.size))
              clear hany
              cases hq : decide (x ∈ c.lits) with
              | true =>
                have Hn2 := hid (Hnx.out.trans hq)
                clear hq
                go_wp2_with fail
                go_roundw
                case rel => exact ⟨k + 1, by omega, by go_num, Hn2, B2⟩
                case measure => simp [intOf]; omega
              | false =>
                have hf : impC c ls = false := by
                  unfold impC
                  rw [List.all_eq_false.2 ⟨x, Hxm.out, by rw [hq]; simp⟩]
                  rfl
                have Hf := hid hf
                have B3 := hid (BX.out.trans ((HB.out.trans (B2.out.mono HB.out.size)).mono BX.out.size))
                clear hq hf
                go_wp2_with fail
                go_ret
                exact ⟨by rw [Hf.out]; rfl, B3.out⟩
        · have x2 : ¬ ((k : Int) < (na : Int)) := by omega
          have e2 := keep_cell (keep_cell E2.out HB.out) HBk.out
          have Hf := hid (show impC c ls = decide (rs < c.bound) by
            have h := Hal.out
            rw [List.take_of_length_le (by rw [Hll.out]; omega)] at h
            unfold impC
            rw [h, Hrt.out, Bool.true_and])
          have B3 := hid (BX.out.trans ((HB.out.trans (HBk.out.mono HB.out.size)).mono BX.out.size))
          go_wp2_with fail
          go_ret
          exact ⟨by rw [Hf.out]; rfl, B3.out⟩
set_option maxRecDepth 100000 in
set_option maxHeartbeats 4000000 in
theorem rsome_any {w : World} {F G H : Nat → Prop} {A B : Option Addr} {n c na ca : Nat} {ps : List Pb} {ls : List Int} (hp : PsRd w F G A n c ps) (hok : ∀ p ∈ ps, p.Ok) (ha : Rd w H 1 (.slice B na ca) na (ints ls)) (hn : n ≤ 100000) :
    Calls Try.prog 29 #[.slice A n c, .slice B na ca] w fun r w' => r = .returned (.bool (ps.any fun p => impC p ls)) ∧ Below w.heap.size w w' := by
  have hpl : ps.length = n := by obtain ⟨_, _, _, h⟩ := hp; exact h
  have Hp := hid hp
  have Hok := hid hok
  have Ha := hid ha
  have Hpl := hid hpl
  clear hp hok ha hpl
  go_enter Try.func29, Try.ntmps29
  go_wp2_with fail
  go_loopw [5] (fun iv W => ∃ i : Nat, i ≤ n ∧ iv = .int .i64 i ∧ Hid ((ps.take i).any (fun p => impC p ls) = false) ∧ Hid (Below w.heap.size w W)) (fun iv _ => n - (intOf iv).toNat)
  case atStart => exact ⟨0, Nat.zero_le _, rfl, hid (by simp), hid (Below.refl _ _)⟩
  case round =>
    obtain ⟨i, hi, rfl, HA, HB⟩ := hrel
    have hsB := HB.out.size
    by_cases hlt : i < n
    · have x1 : (i : Int) < (n : Int) := by omega
      obtain ⟨gA, oA, p, A1, n1, c1, A2, n2, c2, rfl, hgF, hgl, hpk, e0, e1, e2, hpp⟩ := (Hp.out.below HB.out).cells hlt
      have Hpm := hid (List.mem_of_getElem? hpk)
      have hta := hid (show (ps.take (i + 1)).any (fun p => impC p ls) = impC p ls by rw [List.take_add_one, hpk, List.any_append, HA.out]; simp)
      have Hh := hid (rimplies_any hpp (Hok.out p Hpm.out) (Ha.out.below HB.out))
      clear hpp hpk
      go_wp2_with fail
      refine Hh.out.mono ?_
      rintro r w3 ⟨rfl, b3⟩
      have B3 := hid (HB.out.trans (b3.mono hsB))
      clear b3
      cases hq : impC p ls with
      | true =>
        have Hex := hid (show ps.any (fun p => impC p ls) = true from List.any_eq_true.2 ⟨p, Hpm.out, hq⟩)
        clear hq
        go_wp2_with fail
        go_ret
        exact ⟨by rw [Hex.out]; rfl, B3.out⟩
      | false =>
        have Ht := hid (hta.out.trans hq)
        clear hq
        go_wp2_with fail
        go_roundw
        case rel => exact ⟨i + 1, by omega, by go_num, Ht, B3⟩
        case measure => simp [intOf]; omega
    · have x1 : ¬ ((i : Int) < (n : Int)) := by omega
      have Hex := hid (show ps.any (fun p => impC p ls) = false by
        have := HA.out
        rwa [List.take_of_length_le (by have := Hpl.out; omega)] at this)
      go_wp2_with fail
      go_ret
      exact ⟨by rw [Hex.out]; rfl, HB.out⟩
end Go.Proofs.Ytofobmgmgipomaa
