/-
  The law's same: a trail and the reference's trail that are alike.
-/
import Derived.Test.YtbghfdhijlpogaaRtD
namespace Go.Proofs.Ytbghfdhijlpogaa
open Go.RowKit

theorem wrapI {x : Int} (h1 : -9223372036854775808 ≤ x) (h2 : x ≤ 9223372036854775807) : IntKind.i64.wrap x = x := (IntWalk.i64_left _).trans (IntWalk.wrap64_in _ ⟨h1, h2⟩)
theorem val_lo (T : Tr) (v : Int) : -9223372036854775808 ≤ T.value v ∧ T.value v ≤ 9223372036854775807 := by
  unfold Tr.value
  split
  · omega
  · split <;> omega
theorem Bl.drew' {w W : World} {n : Nat} (h : Below n w W) : Below n w W.drew := ⟨h.os, h.tape, h.output, h.size, h.block⟩
/-- What Find, Level and Reason tell of a variable. -/
theorem idx_some {T : Tr} {v : Int} {i : Nat} (h : T.idx v = some i) : ∃ e, T.L[i]? = some e ∧ T.levelOf v = e.level ∧ T.indexOf v = i ∧ T.reasonOf v = e.reason := by
  have hi : i < T.L.length := (List.findIdx?_eq_some_iff_getElem.1 h).1
  refine ⟨T.L[i], List.getElem?_eq_getElem hi, ?_, ?_, ?_⟩ <;> simp [Tr.levelOf, Tr.indexOf, Tr.reasonOf, h, List.getElem?_eq_getElem hi]
theorem idx_none {T : Tr} {v : Int} (h : T.idx v = none) : T.levelOf v = -1 ∧ T.indexOf v = -1 ∧ T.reasonOf v = [] := by
  refine ⟨?_, ?_, ?_⟩ <;> simp [Tr.levelOf, Tr.indexOf, Tr.reasonOf, h]
theorem assign_cell {w : World} {F : Nat → Prop} {A : Option Addr} {T : Tr} {c : Nat} (h : Rd w F 1 (.slice A T.vars c) T.vars (i8s T.assign)) {k : Nat} (hk : k < T.vars) :
    ∃ g o, A = some ⟨g, o, none⟩ ∧ g < w.heap.size ∧ w.cell? ⟨g, o + k, none⟩ = some (.int .i8 (T.value ((k : Int) + 1))) := by
  obtain ⟨_, A', c', hv, _, _, hA⟩ := h
  injection hv with h1 _ _
  subst h1
  obtain ⟨g, o, rfl, _, hg, hc⟩ := hA (by omega)
  refine ⟨g, o, rfl, hg, hc _ _ ?_⟩
  simp [i8s, Tr.assign, hk]

theorem Rd.int {w : World} {F : Nat → Prop} {A : Option Addr} {n c : Nat} {xs : List Int} (h : Rd w F 1 (.slice A n c) n (ints xs)) {k : Nat} (hk : k < n) {x : Int} (hx : xs[k]? = some x) :
    ∃ g o, A = some ⟨g, o, none⟩ ∧ w.cell? ⟨g, o + k, none⟩ = some (.int .i64 x) := by
  obtain ⟨_, A', c', hv, _, _, hA⟩ := h
  injection hv with h1 _ _
  subst h1
  obtain ⟨g, o, rfl, _, hg, hc⟩ := hA (by omega)
  exact ⟨g, o, rfl, hc _ _ (by rw [ints_get, hx]; rfl)⟩
set_option maxRecDepth 100000 in
set_option maxHeartbeats 8000000 in
theorem same_any {w : World} {F : Nat → Prop} {q : Nat} {T : Tr} {v : Value} {P : Nat → Prop} (ht : Trail w F q T) (hv : RefRd P w v T) (hsm : ∀ e ∈ T.L, e.reason.length ≤ 20) :
    Calls Try.prog 28 #[.pointer (some ⟨q, 0, none⟩), v] w fun r w' => r = .returned (.bool true) ∧ Below w.heap.size w w' := by
  have hw : T.WF := ht.1
  have h1 := hw.len
  have h2 := hw.vars
  have h3 := hw.len'
  have Hw := hid hw
  have Hv := hid hv
  have Ht := hid ht
  have Hsm := hid hsm
  obtain ⟨A, c, ts, rfl, hL, he⟩ := hv
  have HL := hid hL
  have He := hid he
  obtain ⟨X0, hX0, bX0, kX0, sX0⟩ := alloc_step w (.cells #[.int .i64 T.vars, .int .i64 T.depth, .slice A T.L.length c] 48)
  obtain ⟨b, hb⟩ : ∃ z, w.heap.size = z := ⟨_, rfl⟩
  rw [hb] at kX0 sX0
  have HX0 := hid hX0
  have BW := hid bX0
  have Hb := hid hb
  obtain ⟨c0, c1, c2'⟩ := box3 kX0
  clear hw ht hsm hL he bX0 kX0 hX0 hb
  go_enter Try.func28, Try.ntmps28
  go_wp2_with fail
  rw [HX0.out, Hb.out]
  refine wp_region_held_drew (S := fun w' => w'.cell? ⟨b, 0, none⟩ = some (.int .i64 T.vars) ∧ w'.cell? ⟨b, 1, none⟩ = some (.int .i64 T.depth) ∧ w'.cell? ⟨b, 2, none⟩ = some (.slice A T.L.length c) ∧ Hid (Below w.heap.size w w')) (by kernel_rfl) ⟨c0, c1, c2', hid (Bl.drew' BW.out)⟩ (fun hHeld => ?_)
  refine tk 0 ?_
  refine tk 2 ?_
  refine tk 3 ?_
  refine rd1 1 fun K hK => ?_
  go_simp
  refine (depth_any (Ht.out.below hHeld.2.2.2.out)).mono ?_
  rintro r4 w4 ⟨rfl, rfl⟩
  go_simp
  refine hK.out _ _ hHeld (fun hHeld => ?_)
  clear hK K
  try simp only [Act.put, List.setIfInBounds_toArray, List.set_cons_zero, List.set_cons_succ]
  refine tk 4 ?_
  refine tk 5 ?_
  refine tk 6 ?_
  refine tk 9 ?_
  refine tk 10 ?_
  refine tk 11 ?_
  refine rd1 7 fun K hK => ?_
  go_simp
  refine (lits_any (Ht.out.below hHeld.2.2.2.out)).mono ?_
  rintro r4 w4 ⟨⟨u, rfl, hu⟩, b4⟩
  obtain ⟨A4, c4, rfl, _⟩ := hu.form
  go_simp
  refine hK.out _ _ ⟨keep_cell hHeld.1 b4, keep_cell hHeld.2.1 b4, keep_cell hHeld.2.2.1 b4, hid (hHeld.2.2.2.out.trans (b4.mono hHeld.2.2.2.out.size))⟩ (fun hHeld => ?_)
  clear hK K b4
  try simp only [Act.put, List.setIfInBounds_toArray, List.set_cons_zero, List.set_cons_succ]
  refine tk 8 ?_
  refine tk 12 ?_
  refine tk 13 ?_
  refine tk 14 ?_
  refine tk 15 ?_
  refine tk 18 ?_
  refine tk 19 ?_
  refine rd1 16 fun K hK => ?_
  go_simp
  refine (assign_any (Ht.out.below hHeld.2.2.2.out)).mono ?_
  rintro r4 w4 ⟨⟨u, rfl, hu⟩, b4⟩
  obtain ⟨A4, c4, rfl, _⟩ := hu.form
  go_simp
  refine hK.out _ _ ⟨keep_cell hHeld.1 b4, keep_cell hHeld.2.1 b4, keep_cell hHeld.2.2.1 b4, hid (hHeld.2.2.2.out.trans (b4.mono hHeld.2.2.2.out.size))⟩ (fun hHeld => ?_)
  clear hK K b4
  try simp only [Act.put, List.setIfInBounds_toArray, List.set_cons_zero, List.set_cons_succ]
  refine tk 17 ?_
  refine tk 20 ?_
  refine tk 21 ?_
  refine wpAnyH_done (by kernel_rfl) ?_ _
  have B1 := hHeld.2.2.2
  clear c0 c1 c2' BW
  obtain ⟨c0, c1, c2', _⟩ := hHeld
  go_wp2_with fail
  refine (lits_any (Ht.out.below B1.out)).mono ?_
  rintro r5 w5 ⟨⟨u, rfl, hu⟩, b5⟩
  obtain ⟨A5, c5, rfl, _⟩ := hu.form
  have HU := hid hu.rd
  have B5 := hid (B1.out.trans (b5.mono B1.out.size))
  have c0 := keep_cell c0 b5
  have c1 := keep_cell c1 b5
  have c2' := keep_cell c2' b5
  clear hu b5 B1
  have hll : T.lits.length = T.L.length := List.length_map ..
  have Hll := hid hll
  have Hc := hid (show w5.cell? ⟨b, 0, none⟩ = some (.int .i64 T.vars) ∧ w5.cell? ⟨b, 1, none⟩ = some (.int .i64 T.depth) ∧ w5.cell? ⟨b, 2, none⟩ = some (.slice A T.L.length c) from ⟨c0, c1, c2'⟩)
  clear hll c0 c1 c2'
  go_wp2_with fail
  go_loopw [36, 5, 6] (fun k _ _ W => ∃ (j : Nat), j ≤ T.L.length ∧ k = .int .i64 j ∧ W = w5) (fun k _ _ _ => T.L.length - (intOf k).toNat)
  case atStart => exact ⟨0, Nat.zero_le _, rfl, rfl⟩
  case round =>
    obtain ⟨j, hj, rfl, rfl⟩ := hrel
    obtain ⟨c0, c1, c2'⟩ := Hc.out
    by_cases hlt : j < T.L.length
    · obtain ⟨g, o, p, hA, hg, hp, d0, d1, d2, hrd⟩ := (He.out.below B5.out).cells hlt
      have hpe : T.lits[j]? = some p.1.lit := by rw [show T.lits = T.L.map Ent.lit from rfl, List.getElem?_map, HL.out, List.getElem?_map, hp]; rfl
      have e6 := HU.out.int hlt hpe
      obtain ⟨g5, o5, rfl, e6⟩ := e6
      rw [hA] at c2'
      have HA := hid hA
      obtain ⟨z, hz⟩ : ∃ z, p.1.lit = z := ⟨_, rfl⟩
      rw [hz] at d0 e6
      clear hA hp hpe hrd hz d1 d2
      go_wp2_with fail
      go_roundw
      case rel =>
        exact ⟨j + 1, by omega, by go_num, trivial⟩
      case measure => simp [intOf]; omega
    · go_wp2_with fail
      go_loopw [7, 8, 9, 10] (fun vv _ _ _ W => ∃ (v : Int), -1 ≤ v ∧ v ≤ 10 ∧ vv = .int .i64 v ∧ W.cell? ⟨b, 0, none⟩ = some (.int .i64 T.vars) ∧ W.cell? ⟨b, 1, none⟩ = some (.int .i64 T.depth) ∧ W.cell? ⟨b, 2, none⟩ = some (.slice A T.L.length c) ∧ Hid (Below w.heap.size w W)) (fun vv _ _ _ _ => (10 - intOf vv).toNat)
      case atStart => exact ⟨-1, by omega, by omega, rfl, c0, c1, c2', B5⟩
      case round =>
        obtain ⟨v, hv1, hv2, rfl, c0, c1, c2', BW⟩ := hrel
        by_cases hv9 : v ≤ 9
        · have hi64 : I64 v := by unfold I64; omega
          have Hi64 := hid hi64
          have RV := hid (Hv.out.below BW.out)
          clear hi64
          go_wp2_with fail
          refine (rfind_any RV.out Hw.out Hi64.out).mono ?_
          rintro r6 w6 ⟨rfl, b6⟩
          have c0 := keep_cell c0 b6
          have c1 := keep_cell c1 b6
          have c2' := keep_cell c2' b6
          have BW := hid (BW.out.trans (b6.mono BW.out.size))
          clear b6 RV
          cases hix : T.idx v with
          | none =>
            obtain ⟨hlv, hin, hrs⟩ := idx_none hix
            rw [hin]
            have Hlv := hid hlv
            have Hix := hid hin
            have Hrr := hid (show Rd w P 1 (.slice none 0 0) 0 (ints []) from (Own.none_ w P 3 1 none).rd)
            have Hrq := hid (show decide (T.reasonOf v = []) = true by rw [hrs]; rfl)
            have Hrl := hid (show (T.reasonOf v).length ≤ 17592186044416 by rw [hrs]; decide)
            clear hlv hin hrs hix
            by_cases hlo : v < 1
            · have hlo' : (1 ≤ v) = False := by simp; omega
              clear hlo
              go_wp2_with fail
              refine wp_region_held_drew (S := fun w' => w'.cell? ⟨b, 0, none⟩ = some (.int .i64 T.vars) ∧ w'.cell? ⟨b, 1, none⟩ = some (.int .i64 T.depth) ∧ w'.cell? ⟨b, 2, none⟩ = some (.slice A T.L.length c) ∧ Hid (Below w.heap.size w w')) (by kernel_rfl) ⟨c0, c1, c2', hid (Bl.drew' BW.out)⟩ (fun hHeld => ?_)
              refine tk 0 ?_
              refine tk 1 ?_
              refine tk 3 ?_
              refine tk 4 ?_
              refine rd1 2 fun K hK => ?_
              go_simp
              refine (value_any (Ht.out.below hHeld.2.2.2.out) Hi64.out).mono ?_
              rintro r4 w4 ⟨rfl, b4⟩
              go_simp
              refine hK.out _ _ ⟨keep_cell hHeld.1 b4, keep_cell hHeld.2.1 b4, keep_cell hHeld.2.2.1 b4, hid (hHeld.2.2.2.out.trans (b4.mono hHeld.2.2.2.out.size))⟩ (fun hHeld => ?_)
              clear hK K b4
              try simp only [Act.put, List.setIfInBounds_toArray, List.set_cons_zero, List.set_cons_succ]
              refine rd1 5 fun K hK => ?_
              go_simp
              refine (rvalue_any (Hv.out.below hHeld.2.2.2.out) Hw.out Hi64.out).mono ?_
              rintro r4 w4 ⟨rfl, b4⟩
              go_simp
              refine hK.out _ _ ⟨keep_cell hHeld.1 b4, keep_cell hHeld.2.1 b4, keep_cell hHeld.2.2.1 b4, hid (hHeld.2.2.2.out.trans (b4.mono hHeld.2.2.2.out.size))⟩ (fun hHeld => ?_)
              clear hK K b4
              try simp only [Act.put, List.setIfInBounds_toArray, List.set_cons_zero, List.set_cons_succ]
              refine tk 6 ?_
              refine tk 7 ?_
              refine tk 8 ?_
              refine tk 9 ?_
              refine tk 11 ?_
              refine rd1 10 fun K hK => ?_
              go_simp
              refine (level_any (Ht.out.below hHeld.2.2.2.out)).mono ?_
              rintro r4 w4 ⟨rfl, b4⟩
              rw [Hlv.out]
              go_simp
              refine hK.out _ _ ⟨keep_cell hHeld.1 b4, keep_cell hHeld.2.1 b4, keep_cell hHeld.2.2.1 b4, hid (hHeld.2.2.2.out.trans (b4.mono hHeld.2.2.2.out.size))⟩ (fun hHeld => ?_)
              clear hK K b4
              try simp only [Act.put, List.setIfInBounds_toArray, List.set_cons_zero, List.set_cons_succ]
              refine tk 12 ?_
              refine tk 13 ?_
              refine tk 14 ?_
              refine tk 15 ?_
              refine tk 16 ?_
              refine tk 18 ?_
              refine rd1 17 fun K hK => ?_
              go_simp
              refine (index_any (Ht.out.below hHeld.2.2.2.out)).mono ?_
              rintro r4 w4 ⟨rfl, b4⟩
              rw [Hix.out]
              go_simp
              refine hK.out _ _ ⟨keep_cell hHeld.1 b4, keep_cell hHeld.2.1 b4, keep_cell hHeld.2.2.1 b4, hid (hHeld.2.2.2.out.trans (b4.mono hHeld.2.2.2.out.size))⟩ (fun hHeld => ?_)
              clear hK K b4
              try simp only [Act.put, List.setIfInBounds_toArray, List.set_cons_zero, List.set_cons_succ]
              refine tk 19 ?_
              refine tk 20 ?_
              refine tk 21 ?_
              refine tk 22 ?_
              refine tk 23 ?_
              refine tk 25 ?_
              refine rd1 24 fun K hK => ?_
              go_simp
              refine (reason_any (Ht.out.below hHeld.2.2.2.out) Hrl.out).mono ?_
              rintro r4 w4 ⟨⟨u, rfl, hu⟩, b4⟩
              have Hu := hid hu
              clear hu
              go_simp
              refine hK.out _ _ ⟨keep_cell hHeld.1 b4, keep_cell hHeld.2.1 b4, keep_cell hHeld.2.2.1 b4, hid (hHeld.2.2.2.out.trans (b4.mono hHeld.2.2.2.out.size))⟩ (fun hHeld => ?_)
              clear hK K b4
              try simp only [Act.put, List.setIfInBounds_toArray, List.set_cons_zero, List.set_cons_succ]
              refine rd1 26 fun K hK => ?_
              go_simp
              refine (ints_eq Hu.out.rd (Hrr.out.below hHeld.2.2.2.out)).mono ?_
              rintro r4 w4 ⟨rfl, b4⟩
              rw [Hrq.out]
              go_simp
              refine hK.out _ _ ⟨keep_cell hHeld.1 b4, keep_cell hHeld.2.1 b4, keep_cell hHeld.2.2.1 b4, hid (hHeld.2.2.2.out.trans (b4.mono hHeld.2.2.2.out.size))⟩ (fun hHeld => ?_)
              clear hK K b4
              try simp only [Act.put, List.setIfInBounds_toArray, List.set_cons_zero, List.set_cons_succ]
              refine tk 27 ?_
              refine tk 28 ?_
              refine tk 29 ?_
              refine tk 30 ?_
              refine tk 31 ?_
              refine tk 32 ?_
              refine tn 33 ?_
              refine tn 34 ?_
              refine tn 35 ?_
              refine tn 36 ?_
              refine tk 37 ?_
              refine tk 38 ?_
              refine tn 39 ?_
              refine tn 41 ?_
              refine tn 46 ?_
              refine tn 47 ?_
              refine tn 40 ?_
              refine tn 42 ?_
              refine tn 43 ?_
              refine tn 48 ?_
              refine tn 44 ?_
              refine tn 45 ?_
              refine tn 49 ?_
              refine tk 50 ?_
              refine tk 51 ?_
              refine wpAnyH_done (by kernel_rfl) ?_ _
              have B9 := hHeld.2.2.2
              have d0 := hHeld.1
              have d1 := hHeld.2.1
              have d2 := hHeld.2.2.1
              clear hHeld
              go_wp2_with fail
              go_roundw
              case rel => exact ⟨v + 1, by omega, by omega, by go_num, d0, d1, d2, B9⟩
              case measure => simp [intOf]; omega
            · obtain ⟨k, hk⟩ : ∃ k : Nat, (k : Int) + 1 = v := ⟨(v - 1).toNat, by omega⟩
              have hge : 1 ≤ v := by omega
              by_cases hhi : v ≤ T.vars
              · have Hk : Hid (k < T.vars) := hid (by omega)
                have Hkv := hid hk
                have hwk : IntKind.i64.wrap (v - 1) = k := by
                  rw [← hk, show (k : Int) + 1 - 1 = k by omega]
                  exact wrapI (by omega) (by omega)
                have hwv : IntKind.i64.wrap (T.value v) = T.value v := wrapI (val_lo T v).1 (val_lo T v).2
                have hkI : (k : Int) < (T.vars : Int) := by omega
                clear hk hlo
                go_wp2_with fail
                refine wp_region_held_drew (S := fun w' => w'.cell? ⟨b, 0, none⟩ = some (.int .i64 T.vars) ∧ w'.cell? ⟨b, 1, none⟩ = some (.int .i64 T.depth) ∧ w'.cell? ⟨b, 2, none⟩ = some (.slice A T.L.length c) ∧ Hid (Below w.heap.size w w')) (by kernel_rfl) ⟨c0, c1, c2', hid (Bl.drew' BW.out)⟩ (fun hHeld => ?_)
                refine tk 0 ?_
                refine tk 1 ?_
                refine tk 3 ?_
                refine tk 4 ?_
                refine rd1 2 fun K hK => ?_
                go_simp
                refine (value_any (Ht.out.below hHeld.2.2.2.out) Hi64.out).mono ?_
                rintro r4 w4 ⟨rfl, b4⟩
                go_simp
                refine hK.out _ _ ⟨keep_cell hHeld.1 b4, keep_cell hHeld.2.1 b4, keep_cell hHeld.2.2.1 b4, hid (hHeld.2.2.2.out.trans (b4.mono hHeld.2.2.2.out.size))⟩ (fun hHeld => ?_)
                clear hK K b4
                try simp only [Act.put, List.setIfInBounds_toArray, List.set_cons_zero, List.set_cons_succ]
                refine rd1 5 fun K hK => ?_
                go_simp
                refine (rvalue_any (Hv.out.below hHeld.2.2.2.out) Hw.out Hi64.out).mono ?_
                rintro r4 w4 ⟨rfl, b4⟩
                go_simp
                refine hK.out _ _ ⟨keep_cell hHeld.1 b4, keep_cell hHeld.2.1 b4, keep_cell hHeld.2.2.1 b4, hid (hHeld.2.2.2.out.trans (b4.mono hHeld.2.2.2.out.size))⟩ (fun hHeld => ?_)
                clear hK K b4
                try simp only [Act.put, List.setIfInBounds_toArray, List.set_cons_zero, List.set_cons_succ]
                refine tk 6 ?_
                refine tk 7 ?_
                refine tk 8 ?_
                refine tk 9 ?_
                refine tk 11 ?_
                refine rd1 10 fun K hK => ?_
                go_simp
                refine (level_any (Ht.out.below hHeld.2.2.2.out)).mono ?_
                rintro r4 w4 ⟨rfl, b4⟩
                rw [Hlv.out]
                go_simp
                refine hK.out _ _ ⟨keep_cell hHeld.1 b4, keep_cell hHeld.2.1 b4, keep_cell hHeld.2.2.1 b4, hid (hHeld.2.2.2.out.trans (b4.mono hHeld.2.2.2.out.size))⟩ (fun hHeld => ?_)
                clear hK K b4
                try simp only [Act.put, List.setIfInBounds_toArray, List.set_cons_zero, List.set_cons_succ]
                refine tk 12 ?_
                refine tk 13 ?_
                refine tk 14 ?_
                refine tk 15 ?_
                refine tk 16 ?_
                refine tk 18 ?_
                refine rd1 17 fun K hK => ?_
                go_simp
                refine (index_any (Ht.out.below hHeld.2.2.2.out)).mono ?_
                rintro r4 w4 ⟨rfl, b4⟩
                rw [Hix.out]
                go_simp
                refine hK.out _ _ ⟨keep_cell hHeld.1 b4, keep_cell hHeld.2.1 b4, keep_cell hHeld.2.2.1 b4, hid (hHeld.2.2.2.out.trans (b4.mono hHeld.2.2.2.out.size))⟩ (fun hHeld => ?_)
                clear hK K b4
                try simp only [Act.put, List.setIfInBounds_toArray, List.set_cons_zero, List.set_cons_succ]
                refine tk 19 ?_
                refine tk 20 ?_
                refine tk 21 ?_
                refine tk 22 ?_
                refine tk 23 ?_
                refine tk 25 ?_
                refine rd1 24 fun K hK => ?_
                go_simp
                refine (reason_any (Ht.out.below hHeld.2.2.2.out) Hrl.out).mono ?_
                rintro r4 w4 ⟨⟨u, rfl, hu⟩, b4⟩
                have Hu := hid hu
                clear hu
                go_simp
                refine hK.out _ _ ⟨keep_cell hHeld.1 b4, keep_cell hHeld.2.1 b4, keep_cell hHeld.2.2.1 b4, hid (hHeld.2.2.2.out.trans (b4.mono hHeld.2.2.2.out.size))⟩ (fun hHeld => ?_)
                clear hK K b4
                try simp only [Act.put, List.setIfInBounds_toArray, List.set_cons_zero, List.set_cons_succ]
                refine rd1 26 fun K hK => ?_
                go_simp
                refine (ints_eq Hu.out.rd (Hrr.out.below hHeld.2.2.2.out)).mono ?_
                rintro r4 w4 ⟨rfl, b4⟩
                rw [Hrq.out]
                go_simp
                refine hK.out _ _ ⟨keep_cell hHeld.1 b4, keep_cell hHeld.2.1 b4, keep_cell hHeld.2.2.1 b4, hid (hHeld.2.2.2.out.trans (b4.mono hHeld.2.2.2.out.size))⟩ (fun hHeld => ?_)
                clear hK K b4
                try simp only [Act.put, List.setIfInBounds_toArray, List.set_cons_zero, List.set_cons_succ]
                refine tk 27 ?_
                refine tk 28 ?_
                refine tk 29 ?_
                refine tk 30 ?_
                refine tk 31 ?_
                refine tk 32 ?_
                refine tk 33 ?_
                refine tk 34 ?_
                refine tk 35 ?_
                refine tk 36 ?_
                refine tk 37 ?_
                refine tk 38 ?_
                refine tk 39 ?_
                refine tk 41 ?_
                refine tk 46 ?_
                refine tk 47 ?_
                refine tk 42 ?_
                refine rd1 40 fun K hK => ?_
                go_simp
                refine (assign_any (Ht.out.below hHeld.2.2.2.out)).mono ?_
                rintro r4 w4 ⟨⟨u, rfl, hu⟩, b4⟩
                obtain ⟨A4, c4, rfl, _⟩ := hu.form
                obtain ⟨g4, o4, rfl, hg4, hc4⟩ := assign_cell hu.rd Hk.out
                rw [Hkv.out] at hc4
                have Hc4 := hid hc4
                clear hu hc4 hg4
                go_simp
                refine hK.out _ _ ⟨keep_cell hHeld.1 b4, keep_cell hHeld.2.1 b4, keep_cell hHeld.2.2.1 b4, hid (hHeld.2.2.2.out.trans (b4.mono hHeld.2.2.2.out.size))⟩ (fun hHeld => ?_)
                clear hK K b4
                try simp only [Act.put, List.setIfInBounds_toArray, List.set_cons_zero, List.set_cons_succ]
                refine tk 43 ?_
                refine wpAnyH_ready (rs := [44, 48]) (by kernel_rfl) (by simp) (AllReadyH.cons (o := ⟨_, _, _, _, _, _⟩) rfl (fun K hK => ?_) (AllReadyH.cons (o := ⟨_, _, _, _, _, _⟩) rfl (fun K hK => ?_) AllReadyH.nil))
                · have d4 := Hc4.out
                  go_simp
                  refine hK.out _ _ hHeld (fun hHeld => ?_)
                  clear hK K d4
                  try simp only [Act.put, List.setIfInBounds_toArray, List.set_cons_zero, List.set_cons_succ]
                  refine tk 45 ?_
                  refine rd1 48 fun K hK => ?_
                  go_simp
                  refine (rvalue_any (Hv.out.below hHeld.2.2.2.out) Hw.out Hi64.out).mono ?_
                  rintro r4 w4 ⟨rfl, b4⟩
                  have B5 := hid b4
                  go_simp
                  refine hK.out _ _ ⟨keep_cell hHeld.1 b4, keep_cell hHeld.2.1 b4, keep_cell hHeld.2.2.1 b4, hid (hHeld.2.2.2.out.trans (b4.mono hHeld.2.2.2.out.size))⟩ (fun hHeld => ?_)
                  clear hK K b4
                  try simp only [Act.put, List.setIfInBounds_toArray, List.set_cons_zero, List.set_cons_succ]
                  refine tk 49 ?_
                  refine tk 50 ?_
                  refine tk 51 ?_
                  refine wpAnyH_done (by kernel_rfl) ?_ _
                  have B9 := hHeld.2.2.2
                  have d0 := hHeld.1
                  have d1 := hHeld.2.1
                  have d2 := hHeld.2.2.1
                  clear hHeld
                  go_wp2_with fail
                  go_roundw
                  case rel => exact ⟨v + 1, by omega, by omega, by go_num, d0, d1, d2, B9⟩
                  case measure => simp [intOf]; omega
                · go_simp
                  refine (rvalue_any (Hv.out.below hHeld.2.2.2.out) Hw.out Hi64.out).mono ?_
                  rintro r4 w4 ⟨rfl, b4⟩
                  have B5 := hid b4
                  go_simp
                  refine hK.out _ _ ⟨keep_cell hHeld.1 b4, keep_cell hHeld.2.1 b4, keep_cell hHeld.2.2.1 b4, hid (hHeld.2.2.2.out.trans (b4.mono hHeld.2.2.2.out.size))⟩ (fun hHeld => ?_)
                  clear hK K b4
                  try simp only [Act.put, List.setIfInBounds_toArray, List.set_cons_zero, List.set_cons_succ]
                  refine rd1 44 fun K hK => ?_
                  have d4 := keep_cell Hc4.out B5.out
                  go_simp
                  refine hK.out _ _ hHeld (fun hHeld => ?_)
                  clear hK K d4
                  try simp only [Act.put, List.setIfInBounds_toArray, List.set_cons_zero, List.set_cons_succ]
                  refine tk 45 ?_
                  refine tk 49 ?_
                  refine tk 50 ?_
                  refine tk 51 ?_
                  refine wpAnyH_done (by kernel_rfl) ?_ _
                  have B9 := hHeld.2.2.2
                  have d0 := hHeld.1
                  have d1 := hHeld.2.1
                  have d2 := hHeld.2.2.1
                  clear hHeld
                  go_wp2_with fail
                  go_roundw
                  case rel => exact ⟨v + 1, by omega, by omega, by go_num, d0, d1, d2, B9⟩
                  case measure => simp [intOf]; omega
              · have hhi' : (v ≤ T.vars) = False := by simp; omega
                clear hk hlo hhi
                go_wp2_with fail
                refine wp_region_held_drew (S := fun w' => w'.cell? ⟨b, 0, none⟩ = some (.int .i64 T.vars) ∧ w'.cell? ⟨b, 1, none⟩ = some (.int .i64 T.depth) ∧ w'.cell? ⟨b, 2, none⟩ = some (.slice A T.L.length c) ∧ Hid (Below w.heap.size w w')) (by kernel_rfl) ⟨c0, c1, c2', hid (Bl.drew' BW.out)⟩ (fun hHeld => ?_)
                refine tk 0 ?_
                refine tk 1 ?_
                refine tk 3 ?_
                refine tk 4 ?_
                refine rd1 2 fun K hK => ?_
                go_simp
                refine (value_any (Ht.out.below hHeld.2.2.2.out) Hi64.out).mono ?_
                rintro r4 w4 ⟨rfl, b4⟩
                go_simp
                refine hK.out _ _ ⟨keep_cell hHeld.1 b4, keep_cell hHeld.2.1 b4, keep_cell hHeld.2.2.1 b4, hid (hHeld.2.2.2.out.trans (b4.mono hHeld.2.2.2.out.size))⟩ (fun hHeld => ?_)
                clear hK K b4
                try simp only [Act.put, List.setIfInBounds_toArray, List.set_cons_zero, List.set_cons_succ]
                refine rd1 5 fun K hK => ?_
                go_simp
                refine (rvalue_any (Hv.out.below hHeld.2.2.2.out) Hw.out Hi64.out).mono ?_
                rintro r4 w4 ⟨rfl, b4⟩
                go_simp
                refine hK.out _ _ ⟨keep_cell hHeld.1 b4, keep_cell hHeld.2.1 b4, keep_cell hHeld.2.2.1 b4, hid (hHeld.2.2.2.out.trans (b4.mono hHeld.2.2.2.out.size))⟩ (fun hHeld => ?_)
                clear hK K b4
                try simp only [Act.put, List.setIfInBounds_toArray, List.set_cons_zero, List.set_cons_succ]
                refine tk 6 ?_
                refine tk 7 ?_
                refine tk 8 ?_
                refine tk 9 ?_
                refine tk 11 ?_
                refine rd1 10 fun K hK => ?_
                go_simp
                refine (level_any (Ht.out.below hHeld.2.2.2.out)).mono ?_
                rintro r4 w4 ⟨rfl, b4⟩
                rw [Hlv.out]
                go_simp
                refine hK.out _ _ ⟨keep_cell hHeld.1 b4, keep_cell hHeld.2.1 b4, keep_cell hHeld.2.2.1 b4, hid (hHeld.2.2.2.out.trans (b4.mono hHeld.2.2.2.out.size))⟩ (fun hHeld => ?_)
                clear hK K b4
                try simp only [Act.put, List.setIfInBounds_toArray, List.set_cons_zero, List.set_cons_succ]
                refine tk 12 ?_
                refine tk 13 ?_
                refine tk 14 ?_
                refine tk 15 ?_
                refine tk 16 ?_
                refine tk 18 ?_
                refine rd1 17 fun K hK => ?_
                go_simp
                refine (index_any (Ht.out.below hHeld.2.2.2.out)).mono ?_
                rintro r4 w4 ⟨rfl, b4⟩
                rw [Hix.out]
                go_simp
                refine hK.out _ _ ⟨keep_cell hHeld.1 b4, keep_cell hHeld.2.1 b4, keep_cell hHeld.2.2.1 b4, hid (hHeld.2.2.2.out.trans (b4.mono hHeld.2.2.2.out.size))⟩ (fun hHeld => ?_)
                clear hK K b4
                try simp only [Act.put, List.setIfInBounds_toArray, List.set_cons_zero, List.set_cons_succ]
                refine tk 19 ?_
                refine tk 20 ?_
                refine tk 21 ?_
                refine tk 22 ?_
                refine tk 23 ?_
                refine tk 25 ?_
                refine rd1 24 fun K hK => ?_
                go_simp
                refine (reason_any (Ht.out.below hHeld.2.2.2.out) Hrl.out).mono ?_
                rintro r4 w4 ⟨⟨u, rfl, hu⟩, b4⟩
                have Hu := hid hu
                clear hu
                go_simp
                refine hK.out _ _ ⟨keep_cell hHeld.1 b4, keep_cell hHeld.2.1 b4, keep_cell hHeld.2.2.1 b4, hid (hHeld.2.2.2.out.trans (b4.mono hHeld.2.2.2.out.size))⟩ (fun hHeld => ?_)
                clear hK K b4
                try simp only [Act.put, List.setIfInBounds_toArray, List.set_cons_zero, List.set_cons_succ]
                refine rd1 26 fun K hK => ?_
                go_simp
                refine (ints_eq Hu.out.rd (Hrr.out.below hHeld.2.2.2.out)).mono ?_
                rintro r4 w4 ⟨rfl, b4⟩
                rw [Hrq.out]
                go_simp
                refine hK.out _ _ ⟨keep_cell hHeld.1 b4, keep_cell hHeld.2.1 b4, keep_cell hHeld.2.2.1 b4, hid (hHeld.2.2.2.out.trans (b4.mono hHeld.2.2.2.out.size))⟩ (fun hHeld => ?_)
                clear hK K b4
                try simp only [Act.put, List.setIfInBounds_toArray, List.set_cons_zero, List.set_cons_succ]
                refine tk 27 ?_
                refine tk 28 ?_
                refine tk 29 ?_
                refine tk 30 ?_
                refine tk 31 ?_
                refine tk 32 ?_
                refine tk 33 ?_
                refine tk 34 ?_
                refine tk 35 ?_
                refine tk 36 ?_
                refine tk 37 ?_
                refine tk 38 ?_
                refine tn 39 ?_
                refine tn 41 ?_
                refine tn 46 ?_
                refine tn 47 ?_
                refine tn 40 ?_
                refine tn 42 ?_
                refine tn 43 ?_
                refine tn 48 ?_
                refine tn 44 ?_
                refine tn 45 ?_
                refine tn 49 ?_
                refine tk 50 ?_
                refine tk 51 ?_
                refine wpAnyH_done (by kernel_rfl) ?_ _
                have B9 := hHeld.2.2.2
                have d0 := hHeld.1
                have d1 := hHeld.2.1
                have d2 := hHeld.2.2.1
                clear hHeld
                go_wp2_with fail
                go_roundw
                case rel => exact ⟨v + 1, by omega, by omega, by go_num, d0, d1, d2, B9⟩
                case measure => simp [intOf]; omega
          | some i =>
            obtain ⟨e, hLe, hlv, hin, hrs⟩ := idx_some hix
            rw [hin]
            have Hix := hid hin
            have hil : i < T.L.length := (List.getElem?_eq_some_iff.1 hLe).1
            obtain ⟨g, o, p, hA, hg, hp, d0, d1, d2, _⟩ := (He.out.below BW.out).cells hil
            obtain ⟨R, n, cr, hpr, hrd⟩ := He.out.2.2 p (List.mem_of_getElem? hp)
            have hpe : T.L[i]? = some p.1 := by rw [HL.out, List.getElem?_map, hp]; rfl
            obtain rfl : e = p.1 := by rw [hLe] at hpe; exact Option.some.inj hpe
            have hln := Hsm.out p.1 (List.mem_of_getElem? hLe)
            have Hrr := hid hrd
            have Hrq := hid (show decide (T.reasonOf v = p.1.reason) = true by rw [hrs]; simp)
            have Hrl := hid (show (T.reasonOf v).length ≤ 17592186044416 by rw [hrs]; omega)
            rw [hA] at c2'
            rw [hpr] at d2
            obtain ⟨lv, hlvq⟩ : ∃ z : Int, (p.1.level : Int) = z := ⟨_, rfl⟩
            rw [hlvq] at d1 hlv
            have Hlv := hid hlv
            have Hlq := hid hlvq
            have HA := hid hA
            clear hlv hin hrs hix hLe hp hpe hln hrd hpr hlvq hA d0
            go_wp2_with fail
            refine wp_region_held_drew (S := fun w' => w'.cell? ⟨b, 0, none⟩ = some (.int .i64 T.vars) ∧ w'.cell? ⟨b, 1, none⟩ = some (.int .i64 T.depth) ∧ w'.cell? ⟨b, 2, none⟩ = some (.slice (some ⟨g, o, none⟩) T.L.length c) ∧ w'.cell? ⟨g, o + i * 3 + 1, none⟩ = some (.int .i64 lv) ∧ w'.cell? ⟨g, o + i * 3 + 2, none⟩ = some (.slice R n cr) ∧ Hid (Below w.heap.size w w')) (by kernel_rfl) ⟨c0, c1, c2', d1, d2, hid (Bl.drew' BW.out)⟩ (fun hHeld => ?_)
            refine tk 0 ?_
            refine tk 2 ?_
            refine tk 6 ?_
            refine tk 8 ?_
            refine tk 1 ?_
            refine tk 7 ?_
            refine tk 3 ?_
            refine tk 9 ?_
            refine tk 4 ?_
            refine tk 10 ?_
            refine tk 5 ?_
            refine tk 11 ?_
            refine tk 12 ?_
            refine tk 13 ?_
            refine wpAnyH_done (by kernel_rfl) ?_ _
            obtain ⟨c0, c1, c2', _, _, BW⟩ := hHeld
            rw [← HA.out] at c2'
            clear d1 d2 hil
            by_cases hlo : v < 1
            · have hlo' : (1 ≤ v) = False := by simp; omega
              clear hlo
              go_wp2_with fail
              refine wp_region_held_drew (S := fun w' => w'.cell? ⟨b, 0, none⟩ = some (.int .i64 T.vars) ∧ w'.cell? ⟨b, 1, none⟩ = some (.int .i64 T.depth) ∧ w'.cell? ⟨b, 2, none⟩ = some (.slice A T.L.length c) ∧ Hid (Below w.heap.size w w')) (by kernel_rfl) ⟨c0, c1, c2', hid (Bl.drew' BW.out)⟩ (fun hHeld => ?_)
              refine tk 0 ?_
              refine tk 1 ?_
              refine tk 3 ?_
              refine tk 4 ?_
              refine rd1 2 fun K hK => ?_
              go_simp
              refine (value_any (Ht.out.below hHeld.2.2.2.out) Hi64.out).mono ?_
              rintro r4 w4 ⟨rfl, b4⟩
              go_simp
              refine hK.out _ _ ⟨keep_cell hHeld.1 b4, keep_cell hHeld.2.1 b4, keep_cell hHeld.2.2.1 b4, hid (hHeld.2.2.2.out.trans (b4.mono hHeld.2.2.2.out.size))⟩ (fun hHeld => ?_)
              clear hK K b4
              try simp only [Act.put, List.setIfInBounds_toArray, List.set_cons_zero, List.set_cons_succ]
              refine rd1 5 fun K hK => ?_
              go_simp
              refine (rvalue_any (Hv.out.below hHeld.2.2.2.out) Hw.out Hi64.out).mono ?_
              rintro r4 w4 ⟨rfl, b4⟩
              go_simp
              refine hK.out _ _ ⟨keep_cell hHeld.1 b4, keep_cell hHeld.2.1 b4, keep_cell hHeld.2.2.1 b4, hid (hHeld.2.2.2.out.trans (b4.mono hHeld.2.2.2.out.size))⟩ (fun hHeld => ?_)
              clear hK K b4
              try simp only [Act.put, List.setIfInBounds_toArray, List.set_cons_zero, List.set_cons_succ]
              refine tk 6 ?_
              refine tk 7 ?_
              refine tk 8 ?_
              refine tk 9 ?_
              refine tk 11 ?_
              refine rd1 10 fun K hK => ?_
              go_simp
              refine (level_any (Ht.out.below hHeld.2.2.2.out)).mono ?_
              rintro r4 w4 ⟨rfl, b4⟩
              rw [Hlv.out]
              go_simp
              refine hK.out _ _ ⟨keep_cell hHeld.1 b4, keep_cell hHeld.2.1 b4, keep_cell hHeld.2.2.1 b4, hid (hHeld.2.2.2.out.trans (b4.mono hHeld.2.2.2.out.size))⟩ (fun hHeld => ?_)
              clear hK K b4
              try simp only [Act.put, List.setIfInBounds_toArray, List.set_cons_zero, List.set_cons_succ]
              refine tk 12 ?_
              refine tk 13 ?_
              refine tk 14 ?_
              refine tk 15 ?_
              refine tk 16 ?_
              refine tk 18 ?_
              refine rd1 17 fun K hK => ?_
              go_simp
              refine (index_any (Ht.out.below hHeld.2.2.2.out)).mono ?_
              rintro r4 w4 ⟨rfl, b4⟩
              rw [Hix.out]
              go_simp
              refine hK.out _ _ ⟨keep_cell hHeld.1 b4, keep_cell hHeld.2.1 b4, keep_cell hHeld.2.2.1 b4, hid (hHeld.2.2.2.out.trans (b4.mono hHeld.2.2.2.out.size))⟩ (fun hHeld => ?_)
              clear hK K b4
              try simp only [Act.put, List.setIfInBounds_toArray, List.set_cons_zero, List.set_cons_succ]
              refine tk 19 ?_
              refine tk 20 ?_
              refine tk 21 ?_
              refine tk 22 ?_
              refine tk 23 ?_
              refine tk 25 ?_
              refine rd1 24 fun K hK => ?_
              go_simp
              refine (reason_any (Ht.out.below hHeld.2.2.2.out) Hrl.out).mono ?_
              rintro r4 w4 ⟨⟨u, rfl, hu⟩, b4⟩
              have Hu := hid hu
              clear hu
              go_simp
              refine hK.out _ _ ⟨keep_cell hHeld.1 b4, keep_cell hHeld.2.1 b4, keep_cell hHeld.2.2.1 b4, hid (hHeld.2.2.2.out.trans (b4.mono hHeld.2.2.2.out.size))⟩ (fun hHeld => ?_)
              clear hK K b4
              try simp only [Act.put, List.setIfInBounds_toArray, List.set_cons_zero, List.set_cons_succ]
              refine rd1 26 fun K hK => ?_
              go_simp
              refine (ints_eq Hu.out.rd (Hrr.out.below hHeld.2.2.2.out)).mono ?_
              rintro r4 w4 ⟨rfl, b4⟩
              rw [Hrq.out]
              go_simp
              refine hK.out _ _ ⟨keep_cell hHeld.1 b4, keep_cell hHeld.2.1 b4, keep_cell hHeld.2.2.1 b4, hid (hHeld.2.2.2.out.trans (b4.mono hHeld.2.2.2.out.size))⟩ (fun hHeld => ?_)
              clear hK K b4
              try simp only [Act.put, List.setIfInBounds_toArray, List.set_cons_zero, List.set_cons_succ]
              refine tk 27 ?_
              refine tk 28 ?_
              refine tk 29 ?_
              refine tk 30 ?_
              refine tk 31 ?_
              refine tk 32 ?_
              refine tn 33 ?_
              refine tn 34 ?_
              refine tn 35 ?_
              refine tn 36 ?_
              refine tk 37 ?_
              refine tk 38 ?_
              refine tn 39 ?_
              refine tn 41 ?_
              refine tn 46 ?_
              refine tn 47 ?_
              refine tn 40 ?_
              refine tn 42 ?_
              refine tn 43 ?_
              refine tn 48 ?_
              refine tn 44 ?_
              refine tn 45 ?_
              refine tn 49 ?_
              refine tk 50 ?_
              refine tk 51 ?_
              refine wpAnyH_done (by kernel_rfl) ?_ _
              have B9 := hHeld.2.2.2
              have d0 := hHeld.1
              have d1 := hHeld.2.1
              have d2 := hHeld.2.2.1
              clear hHeld
              go_wp2_with fail
              go_roundw
              case rel => exact ⟨v + 1, by omega, by omega, by go_num, d0, d1, d2, B9⟩
              case measure => simp [intOf]; omega
            · obtain ⟨k, hk⟩ : ∃ k : Nat, (k : Int) + 1 = v := ⟨(v - 1).toNat, by omega⟩
              have hge : 1 ≤ v := by omega
              by_cases hhi : v ≤ T.vars
              · have Hk : Hid (k < T.vars) := hid (by omega)
                have Hkv := hid hk
                have hwk : IntKind.i64.wrap (v - 1) = k := by
                  rw [← hk, show (k : Int) + 1 - 1 = k by omega]
                  exact wrapI (by omega) (by omega)
                have hwv : IntKind.i64.wrap (T.value v) = T.value v := wrapI (val_lo T v).1 (val_lo T v).2
                have hkI : (k : Int) < (T.vars : Int) := by omega
                clear hk hlo
                go_wp2_with fail
                refine wp_region_held_drew (S := fun w' => w'.cell? ⟨b, 0, none⟩ = some (.int .i64 T.vars) ∧ w'.cell? ⟨b, 1, none⟩ = some (.int .i64 T.depth) ∧ w'.cell? ⟨b, 2, none⟩ = some (.slice A T.L.length c) ∧ Hid (Below w.heap.size w w')) (by kernel_rfl) ⟨c0, c1, c2', hid (Bl.drew' BW.out)⟩ (fun hHeld => ?_)
                refine tk 0 ?_
                refine tk 1 ?_
                refine tk 3 ?_
                refine tk 4 ?_
                refine rd1 2 fun K hK => ?_
                go_simp
                refine (value_any (Ht.out.below hHeld.2.2.2.out) Hi64.out).mono ?_
                rintro r4 w4 ⟨rfl, b4⟩
                go_simp
                refine hK.out _ _ ⟨keep_cell hHeld.1 b4, keep_cell hHeld.2.1 b4, keep_cell hHeld.2.2.1 b4, hid (hHeld.2.2.2.out.trans (b4.mono hHeld.2.2.2.out.size))⟩ (fun hHeld => ?_)
                clear hK K b4
                try simp only [Act.put, List.setIfInBounds_toArray, List.set_cons_zero, List.set_cons_succ]
                refine rd1 5 fun K hK => ?_
                go_simp
                refine (rvalue_any (Hv.out.below hHeld.2.2.2.out) Hw.out Hi64.out).mono ?_
                rintro r4 w4 ⟨rfl, b4⟩
                go_simp
                refine hK.out _ _ ⟨keep_cell hHeld.1 b4, keep_cell hHeld.2.1 b4, keep_cell hHeld.2.2.1 b4, hid (hHeld.2.2.2.out.trans (b4.mono hHeld.2.2.2.out.size))⟩ (fun hHeld => ?_)
                clear hK K b4
                try simp only [Act.put, List.setIfInBounds_toArray, List.set_cons_zero, List.set_cons_succ]
                refine tk 6 ?_
                refine tk 7 ?_
                refine tk 8 ?_
                refine tk 9 ?_
                refine tk 11 ?_
                refine rd1 10 fun K hK => ?_
                go_simp
                refine (level_any (Ht.out.below hHeld.2.2.2.out)).mono ?_
                rintro r4 w4 ⟨rfl, b4⟩
                rw [Hlv.out]
                go_simp
                refine hK.out _ _ ⟨keep_cell hHeld.1 b4, keep_cell hHeld.2.1 b4, keep_cell hHeld.2.2.1 b4, hid (hHeld.2.2.2.out.trans (b4.mono hHeld.2.2.2.out.size))⟩ (fun hHeld => ?_)
                clear hK K b4
                try simp only [Act.put, List.setIfInBounds_toArray, List.set_cons_zero, List.set_cons_succ]
                refine tk 12 ?_
                refine tk 13 ?_
                refine tk 14 ?_
                refine tk 15 ?_
                refine tk 16 ?_
                refine tk 18 ?_
                refine rd1 17 fun K hK => ?_
                go_simp
                refine (index_any (Ht.out.below hHeld.2.2.2.out)).mono ?_
                rintro r4 w4 ⟨rfl, b4⟩
                rw [Hix.out]
                go_simp
                refine hK.out _ _ ⟨keep_cell hHeld.1 b4, keep_cell hHeld.2.1 b4, keep_cell hHeld.2.2.1 b4, hid (hHeld.2.2.2.out.trans (b4.mono hHeld.2.2.2.out.size))⟩ (fun hHeld => ?_)
                clear hK K b4
                try simp only [Act.put, List.setIfInBounds_toArray, List.set_cons_zero, List.set_cons_succ]
                refine tk 19 ?_
                refine tk 20 ?_
                refine tk 21 ?_
                refine tk 22 ?_
                refine tk 23 ?_
                refine tk 25 ?_
                refine rd1 24 fun K hK => ?_
                go_simp
                refine (reason_any (Ht.out.below hHeld.2.2.2.out) Hrl.out).mono ?_
                rintro r4 w4 ⟨⟨u, rfl, hu⟩, b4⟩
                have Hu := hid hu
                clear hu
                go_simp
                refine hK.out _ _ ⟨keep_cell hHeld.1 b4, keep_cell hHeld.2.1 b4, keep_cell hHeld.2.2.1 b4, hid (hHeld.2.2.2.out.trans (b4.mono hHeld.2.2.2.out.size))⟩ (fun hHeld => ?_)
                clear hK K b4
                try simp only [Act.put, List.setIfInBounds_toArray, List.set_cons_zero, List.set_cons_succ]
                refine rd1 26 fun K hK => ?_
                go_simp
                refine (ints_eq Hu.out.rd (Hrr.out.below hHeld.2.2.2.out)).mono ?_
                rintro r4 w4 ⟨rfl, b4⟩
                rw [Hrq.out]
                go_simp
                refine hK.out _ _ ⟨keep_cell hHeld.1 b4, keep_cell hHeld.2.1 b4, keep_cell hHeld.2.2.1 b4, hid (hHeld.2.2.2.out.trans (b4.mono hHeld.2.2.2.out.size))⟩ (fun hHeld => ?_)
                clear hK K b4
                try simp only [Act.put, List.setIfInBounds_toArray, List.set_cons_zero, List.set_cons_succ]
                refine tk 27 ?_
                refine tk 28 ?_
                refine tk 29 ?_
                refine tk 30 ?_
                refine tk 31 ?_
                refine tk 32 ?_
                refine tk 33 ?_
                refine tk 34 ?_
                refine tk 35 ?_
                refine tk 36 ?_
                refine tk 37 ?_
                refine tk 38 ?_
                refine tk 39 ?_
                refine tk 41 ?_
                refine tk 46 ?_
                refine tk 47 ?_
                refine tk 42 ?_
                refine rd1 40 fun K hK => ?_
                go_simp
                refine (assign_any (Ht.out.below hHeld.2.2.2.out)).mono ?_
                rintro r4 w4 ⟨⟨u, rfl, hu⟩, b4⟩
                obtain ⟨A4, c4, rfl, _⟩ := hu.form
                obtain ⟨g4, o4, rfl, hg4, hc4⟩ := assign_cell hu.rd Hk.out
                rw [Hkv.out] at hc4
                have Hc4 := hid hc4
                clear hu hc4 hg4
                go_simp
                refine hK.out _ _ ⟨keep_cell hHeld.1 b4, keep_cell hHeld.2.1 b4, keep_cell hHeld.2.2.1 b4, hid (hHeld.2.2.2.out.trans (b4.mono hHeld.2.2.2.out.size))⟩ (fun hHeld => ?_)
                clear hK K b4
                try simp only [Act.put, List.setIfInBounds_toArray, List.set_cons_zero, List.set_cons_succ]
                refine tk 43 ?_
                refine wpAnyH_ready (rs := [44, 48]) (by kernel_rfl) (by simp) (AllReadyH.cons (o := ⟨_, _, _, _, _, _⟩) rfl (fun K hK => ?_) (AllReadyH.cons (o := ⟨_, _, _, _, _, _⟩) rfl (fun K hK => ?_) AllReadyH.nil))
                · have d4 := Hc4.out
                  go_simp
                  refine hK.out _ _ hHeld (fun hHeld => ?_)
                  clear hK K d4
                  try simp only [Act.put, List.setIfInBounds_toArray, List.set_cons_zero, List.set_cons_succ]
                  refine tk 45 ?_
                  refine rd1 48 fun K hK => ?_
                  go_simp
                  refine (rvalue_any (Hv.out.below hHeld.2.2.2.out) Hw.out Hi64.out).mono ?_
                  rintro r4 w4 ⟨rfl, b4⟩
                  have B5 := hid b4
                  go_simp
                  refine hK.out _ _ ⟨keep_cell hHeld.1 b4, keep_cell hHeld.2.1 b4, keep_cell hHeld.2.2.1 b4, hid (hHeld.2.2.2.out.trans (b4.mono hHeld.2.2.2.out.size))⟩ (fun hHeld => ?_)
                  clear hK K b4
                  try simp only [Act.put, List.setIfInBounds_toArray, List.set_cons_zero, List.set_cons_succ]
                  refine tk 49 ?_
                  refine tk 50 ?_
                  refine tk 51 ?_
                  refine wpAnyH_done (by kernel_rfl) ?_ _
                  have B9 := hHeld.2.2.2
                  have d0 := hHeld.1
                  have d1 := hHeld.2.1
                  have d2 := hHeld.2.2.1
                  clear hHeld
                  go_wp2_with fail
                  go_roundw
                  case rel => exact ⟨v + 1, by omega, by omega, by go_num, d0, d1, d2, B9⟩
                  case measure => simp [intOf]; omega
                · go_simp
                  refine (rvalue_any (Hv.out.below hHeld.2.2.2.out) Hw.out Hi64.out).mono ?_
                  rintro r4 w4 ⟨rfl, b4⟩
                  have B5 := hid b4
                  go_simp
                  refine hK.out _ _ ⟨keep_cell hHeld.1 b4, keep_cell hHeld.2.1 b4, keep_cell hHeld.2.2.1 b4, hid (hHeld.2.2.2.out.trans (b4.mono hHeld.2.2.2.out.size))⟩ (fun hHeld => ?_)
                  clear hK K b4
                  try simp only [Act.put, List.setIfInBounds_toArray, List.set_cons_zero, List.set_cons_succ]
                  refine rd1 44 fun K hK => ?_
                  have d4 := keep_cell Hc4.out B5.out
                  go_simp
                  refine hK.out _ _ hHeld (fun hHeld => ?_)
                  clear hK K d4
                  try simp only [Act.put, List.setIfInBounds_toArray, List.set_cons_zero, List.set_cons_succ]
                  refine tk 45 ?_
                  refine tk 49 ?_
                  refine tk 50 ?_
                  refine tk 51 ?_
                  refine wpAnyH_done (by kernel_rfl) ?_ _
                  have B9 := hHeld.2.2.2
                  have d0 := hHeld.1
                  have d1 := hHeld.2.1
                  have d2 := hHeld.2.2.1
                  clear hHeld
                  go_wp2_with fail
                  go_roundw
                  case rel => exact ⟨v + 1, by omega, by omega, by go_num, d0, d1, d2, B9⟩
                  case measure => simp [intOf]; omega
              · have hhi' : (v ≤ T.vars) = False := by simp; omega
                clear hk hlo hhi
                go_wp2_with fail
                refine wp_region_held_drew (S := fun w' => w'.cell? ⟨b, 0, none⟩ = some (.int .i64 T.vars) ∧ w'.cell? ⟨b, 1, none⟩ = some (.int .i64 T.depth) ∧ w'.cell? ⟨b, 2, none⟩ = some (.slice A T.L.length c) ∧ Hid (Below w.heap.size w w')) (by kernel_rfl) ⟨c0, c1, c2', hid (Bl.drew' BW.out)⟩ (fun hHeld => ?_)
                refine tk 0 ?_
                refine tk 1 ?_
                refine tk 3 ?_
                refine tk 4 ?_
                refine rd1 2 fun K hK => ?_
                go_simp
                refine (value_any (Ht.out.below hHeld.2.2.2.out) Hi64.out).mono ?_
                rintro r4 w4 ⟨rfl, b4⟩
                go_simp
                refine hK.out _ _ ⟨keep_cell hHeld.1 b4, keep_cell hHeld.2.1 b4, keep_cell hHeld.2.2.1 b4, hid (hHeld.2.2.2.out.trans (b4.mono hHeld.2.2.2.out.size))⟩ (fun hHeld => ?_)
                clear hK K b4
                try simp only [Act.put, List.setIfInBounds_toArray, List.set_cons_zero, List.set_cons_succ]
                refine rd1 5 fun K hK => ?_
                go_simp
                refine (rvalue_any (Hv.out.below hHeld.2.2.2.out) Hw.out Hi64.out).mono ?_
                rintro r4 w4 ⟨rfl, b4⟩
                go_simp
                refine hK.out _ _ ⟨keep_cell hHeld.1 b4, keep_cell hHeld.2.1 b4, keep_cell hHeld.2.2.1 b4, hid (hHeld.2.2.2.out.trans (b4.mono hHeld.2.2.2.out.size))⟩ (fun hHeld => ?_)
                clear hK K b4
                try simp only [Act.put, List.setIfInBounds_toArray, List.set_cons_zero, List.set_cons_succ]
                refine tk 6 ?_
                refine tk 7 ?_
                refine tk 8 ?_
                refine tk 9 ?_
                refine tk 11 ?_
                refine rd1 10 fun K hK => ?_
                go_simp
                refine (level_any (Ht.out.below hHeld.2.2.2.out)).mono ?_
                rintro r4 w4 ⟨rfl, b4⟩
                rw [Hlv.out]
                go_simp
                refine hK.out _ _ ⟨keep_cell hHeld.1 b4, keep_cell hHeld.2.1 b4, keep_cell hHeld.2.2.1 b4, hid (hHeld.2.2.2.out.trans (b4.mono hHeld.2.2.2.out.size))⟩ (fun hHeld => ?_)
                clear hK K b4
                try simp only [Act.put, List.setIfInBounds_toArray, List.set_cons_zero, List.set_cons_succ]
                refine tk 12 ?_
                refine tk 13 ?_
                refine tk 14 ?_
                refine tk 15 ?_
                refine tk 16 ?_
                refine tk 18 ?_
                refine rd1 17 fun K hK => ?_
                go_simp
                refine (index_any (Ht.out.below hHeld.2.2.2.out)).mono ?_
                rintro r4 w4 ⟨rfl, b4⟩
                rw [Hix.out]
                go_simp
                refine hK.out _ _ ⟨keep_cell hHeld.1 b4, keep_cell hHeld.2.1 b4, keep_cell hHeld.2.2.1 b4, hid (hHeld.2.2.2.out.trans (b4.mono hHeld.2.2.2.out.size))⟩ (fun hHeld => ?_)
                clear hK K b4
                try simp only [Act.put, List.setIfInBounds_toArray, List.set_cons_zero, List.set_cons_succ]
                refine tk 19 ?_
                refine tk 20 ?_
                refine tk 21 ?_
                refine tk 22 ?_
                refine tk 23 ?_
                refine tk 25 ?_
                refine rd1 24 fun K hK => ?_
                go_simp
                refine (reason_any (Ht.out.below hHeld.2.2.2.out) Hrl.out).mono ?_
                rintro r4 w4 ⟨⟨u, rfl, hu⟩, b4⟩
                have Hu := hid hu
                clear hu
                go_simp
                refine hK.out _ _ ⟨keep_cell hHeld.1 b4, keep_cell hHeld.2.1 b4, keep_cell hHeld.2.2.1 b4, hid (hHeld.2.2.2.out.trans (b4.mono hHeld.2.2.2.out.size))⟩ (fun hHeld => ?_)
                clear hK K b4
                try simp only [Act.put, List.setIfInBounds_toArray, List.set_cons_zero, List.set_cons_succ]
                refine rd1 26 fun K hK => ?_
                go_simp
                refine (ints_eq Hu.out.rd (Hrr.out.below hHeld.2.2.2.out)).mono ?_
                rintro r4 w4 ⟨rfl, b4⟩
                rw [Hrq.out]
                go_simp
                refine hK.out _ _ ⟨keep_cell hHeld.1 b4, keep_cell hHeld.2.1 b4, keep_cell hHeld.2.2.1 b4, hid (hHeld.2.2.2.out.trans (b4.mono hHeld.2.2.2.out.size))⟩ (fun hHeld => ?_)
                clear hK K b4
                try simp only [Act.put, List.setIfInBounds_toArray, List.set_cons_zero, List.set_cons_succ]
                refine tk 27 ?_
                refine tk 28 ?_
                refine tk 29 ?_
                refine tk 30 ?_
                refine tk 31 ?_
                refine tk 32 ?_
                refine tk 33 ?_
                refine tk 34 ?_
                refine tk 35 ?_
                refine tk 36 ?_
                refine tk 37 ?_
                refine tk 38 ?_
                refine tn 39 ?_
                refine tn 41 ?_
                refine tn 46 ?_
                refine tn 47 ?_
                refine tn 40 ?_
                refine tn 42 ?_
                refine tn 43 ?_
                refine tn 48 ?_
                refine tn 44 ?_
                refine tn 45 ?_
                refine tn 49 ?_
                refine tk 50 ?_
                refine tk 51 ?_
                refine wpAnyH_done (by kernel_rfl) ?_ _
                have B9 := hHeld.2.2.2
                have d0 := hHeld.1
                have d1 := hHeld.2.1
                have d2 := hHeld.2.2.1
                clear hHeld
                go_wp2_with fail
                go_roundw
                case rel => exact ⟨v + 1, by omega, by omega, by go_num, d0, d1, d2, B9⟩
                case measure => simp [intOf]; omega
        · go_wp2_with fail
          go_ret
          exact ⟨rfl, BW.out⟩
end Go.Proofs.Ytbghfdhijlpogaa
