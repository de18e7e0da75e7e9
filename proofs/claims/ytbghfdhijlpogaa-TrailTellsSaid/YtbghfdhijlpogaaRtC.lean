/-
  The reference of layer 28: Imply.
-/
import Derived.Test.YtbghfdhijlpogaaRtB
namespace Go.Proofs.Ytbghfdhijlpogaa
open Go.RowKit

/-- What Imply knows after j of the reasons. -/
def ImAt (T : Tr) (l : Int) (r : List Int) (b : Nat) (A : Option Addr) (c : Nat) (w : World) (j : Nat) (W : World) : Prop :=
  (∀ x ∈ r.take j, badB T l x = false) ∧ W.heap[b]? = some (.cells #[.int .i64 T.vars, .int .i64 T.depth, .slice A T.L.length c] 48) ∧
    W.heap[b + 1]? = some (.cells #[.int .i64 0, .int .i64 0, .slice none 0 0] 48) ∧ Below w.heap.size w W

theorem value_pos {T : Tr} {x y : Int} (h : T.value x = y) (hy : y ≠ -1) : 0 ≤ T.value x := by
  rw [← h] at hy
  unfold Tr.value at hy ⊢
  split at hy
  · rename_i h
    rw [if_pos h]
    omega
  · rename_i h
    rw [if_neg h]
    split at hy
    · omega
    · rename_i h
      rw [if_neg h]
      omega

set_option maxRecDepth 100000 in
set_option maxHeartbeats 4000000 in
theorem rimply_any {P : Nat → Prop} {w : World} {v : Value} {T : Tr} (hv : RefRd P w v T) (hw : T.WF) {l : Int} (hl : I64 l) {G : Nat → Prop} {A2 : Option Addr} {n c2 : Nat} {r : List Int} (hr : Rd w G 1 (.slice A2 n c2) n (ints r)) (hn : n ≤ 1000000) (h64 : ∀ x ∈ r, I64 x) :
    Calls Try.prog 26 #[v, .int .i64 l, .slice A2 n c2] w fun r' w' => (∃ u, r' = .returned (.tuple #[u, .bool (T.can l r)]) ∧ RefRd (fun g => P g ∨ w.heap.size ≤ g) w' u (T.imp l r)) ∧ Below w.heap.size w w' := by
  have h1 := hw.len
  have h2 := hw.vars
  have h3 := hw.len'
  have hdl : T.depth ≤ 65536 := by unfold Tr.depth; omega
  have Hw := hid hw
  have Hl := hid hl
  have Hv := hid hv
  have H64 := hid h64
  have Hr := hid hr
  have hrc := hid hr.cell
  obtain ⟨A, c, ts, rfl, hL, he⟩ := hv
  obtain ⟨X0, hX0, bX0, kX0, sX0⟩ := alloc_step w (.cells #[.int .i64 T.vars, .int .i64 T.depth, .slice A T.L.length c] 48)
  obtain ⟨X1, hX1, bX1, kX1, sX1⟩ := alloc_step X0 (.cells #[.int .i64 0, .int .i64 0, .slice none 0 0] 48)
  obtain ⟨b, hb⟩ : ∃ z, w.heap.size = z := ⟨_, rfl⟩
  rw [hb] at kX0 sX0
  rw [sX0] at kX1 sX1
  have HX0 := hid hX0
  have HX1 := hid hX1
  have I0 : Hid (ImAt T l r b A c w 0 X1) := hid ⟨by simp, keep_blk kX0 bX1, kX1, bX0.trans (bX1.mono bX0.size)⟩
  have Hb := hid hb
  clear hw hl he hL bX0 bX1 kX0 kX1 hX0 hX1 sX0 sX1 h64 hr hb
  go_enter Try.func26, Try.ntmps26
  go_wp2_with fail
  rw [HX0.out, HX1.out, Hb.out]
  clear HX0 HX1
  go_loopw [8, 9] (fun hv jv W => ∃ j : Nat, j ≤ n ∧ jv = .int .i64 j ∧ hv = .bool ((r.take j).any (l == ·)) ∧ Hid (ImAt T l r b A c w j W)) (fun _ jv _ => n - (intOf jv).toNat)
  case atStart => exact ⟨0, Nat.zero_le _, rfl, by simp, I0⟩
  case round =>
    obtain ⟨j, hj, rfl, rfl, hI⟩ := hrel
    obtain ⟨bad, kN, k1, bW⟩ := hI.out
    obtain ⟨c0, c1, c2'⟩ := box3 kN
    have hbr : b < wr.heap.size := lt_of_block kN
    obtain ⟨e0, e1, e2⟩ := box3 k1
    obtain ⟨f0, f1, f2⟩ := froz3 k1
    obtain ⟨g0, g1, g2⟩ := froz3 kN
    have Bad := hid bad
    have KN := hid kN
    have K1 := hid k1
    have BW := hid bW
    clear bad kN k1 bW hI
    by_cases hlt : j < n
    · obtain ⟨g, o, hA2, _, hg, hc1⟩ := hrc.out.2 j hlt
      rw [hA2]
      have HA2 := hid hA2
      have HL2 := hid hrc.out.1
      have htk : r.take (j + 1) = r.take j ++ [nth r j] := by
        have hq : j < r.length := by rw [HL2.out]; exact hlt
        rw [List.take_succ_eq_append_getElem hq, nth_eq hq]
      have hmem : nth r j ∈ r := by
        have hq : j < r.length := by rw [HL2.out]; exact hlt
        rw [nth_eq hq]
        exact List.getElem_mem hq
      have hx64 := H64.out _ hmem
      have HG := hid hg
      have hc2 := (BW.out.cell (p := ⟨g, o + j, none⟩) hg).trans hc1
      have hgr := World.block_lt_of_cell? _ _ hc2
      obtain ⟨x, hx⟩ : ∃ x, nth r j = x := ⟨_, rfl⟩
      rw [hx] at hc2 htk hmem hx64
      have hk1 : (j : Int) < (n : Int) := by omega
      have Htk := hid htk
      have Hx64 := hid hx64
      have Hmem := hid hmem
      clear hA2 hc1 hx htk hx64 hmem hg
      cases q1 : (x == l)
      · have hxl : x ≠ l := by simpa using q1
        have hxl' : (l == x) = false := by simpa using fun h => hxl h.symm
        have Hxl := hid hxl
        have Hxl' := hid hxl'
        obtain ⟨y, hy⟩ : ∃ y, T.value x = y := ⟨_, rfl⟩
        have Hy := hid hy
        clear hxl hxl' hy
        cases q2 : (y != -1)
        · go_wp2_with fail
          go_region_held3 (fun w' => w'.cell? ⟨b, 0, none⟩ = some (.int .i64 T.vars) ∧ w'.cell? ⟨b, 1, none⟩ = some (.int .i64 T.depth) ∧ w'.cell? ⟨b, 2, none⟩ = some (.slice A T.L.length c) ∧ w'.cell? ⟨g, o + j, none⟩ = some (.int .i64 x))
            (first | go_keep | exact ⟨(b4.cell (p := ⟨b, 0, none⟩) hbr).trans c0, (b4.cell (p := ⟨b, 1, none⟩) hbr).trans c1, (b4.cell (p := ⟨b, 2, none⟩) hbr).trans c2', (b4.cell (p := ⟨g, o + j, none⟩) hgr).trans hc2⟩)
            ((go_at_call 40; refine (rvalue_any ((Hv.out.below BW.out).below (Bl.drew (Below.refl _ _))) Hw.out Hx64.out).mono ?_; rw [Hy.out]; rintro r' w4 ⟨rfl, b4⟩))
          have B4 : Below wr.heap.size wr w4 := (Bl.drew (Below.refl _ _)).trans b4
          have K04 := hid (keep_blk KN.out B4)
          have K14 := hid (keep_blk K1.out B4)
          have BW4 := hid (BW.out.trans (B4.mono BW.out.size))
          have Hv2 : Hid (badB T l x = false) := by
            have hy : y = -1 := by simpa using q2
            rw [hy] at Hy
            exact hid (by simp [badB, Hy.out])
          clear b4 B4 hc2 q2 c0 c1 c2' e0 e1 e2
          go_wp2_with fail
          go_roundw
          case rel => exact ⟨j + 1, by omega, by go_num, by rw [Htk.out]; simp [Hxl'.out], hid ⟨fun z hz => by
            rw [Htk.out] at hz
            rcases List.mem_append.1 hz with hz | hz
            · exact Bad.out z hz
            · rw [List.mem_singleton.1 hz]; exact Hv2.out, K04.out, K14.out, BW4.out⟩⟩
          case measure => simp [intOf]; omega
        · have Hc : Hid (T.can l r = false) := by
            have hy : y ≠ -1 := by simpa using q2
            have hb2 : badB T l x = true := by
              have hv := value_pos Hy.out hy
              simp [badB, Hxl.out, hv]
            have : r.any (badB T l) = true := List.any_eq_true.2 ⟨x, Hmem.out, hb2⟩
            exact hid (by simp [Tr.can, this])
          go_wp2_with fail
          go_region_held3 (fun w' => w'.cell? ⟨b, 0, none⟩ = some (.int .i64 T.vars) ∧ w'.cell? ⟨b, 1, none⟩ = some (.int .i64 T.depth) ∧ w'.cell? ⟨b, 2, none⟩ = some (.slice A T.L.length c) ∧ w'.cell? ⟨g, o + j, none⟩ = some (.int .i64 x))
            (first | go_keep | exact ⟨(b4.cell (p := ⟨b, 0, none⟩) hbr).trans c0, (b4.cell (p := ⟨b, 1, none⟩) hbr).trans c1, (b4.cell (p := ⟨b, 2, none⟩) hbr).trans c2', (b4.cell (p := ⟨g, o + j, none⟩) hgr).trans hc2⟩)
            ((go_at_call 40; refine (rvalue_any ((Hv.out.below BW.out).below (Bl.drew (Below.refl _ _))) Hw.out Hx64.out).mono ?_; rw [Hy.out]; rintro r' w4 ⟨rfl, b4⟩))
          have B4 : Below wr.heap.size wr w4 := (Bl.drew (Below.refl _ _)).trans b4
          have K04 := hid (keep_blk KN.out B4)
          have K14 := hid (keep_blk K1.out B4)
          have BW4 := hid (BW.out.trans (B4.mono BW.out.size))
          obtain ⟨c0, c1, c2'⟩ := box3 K04.out
          obtain ⟨e0, e1, e2⟩ := box3 K14.out
          obtain ⟨f0, f1, f2⟩ := froz3 K14.out
          obtain ⟨g0, g1, g2⟩ := froz3 K04.out
          clear b4 B4 hc2 q2
          go_wp2_with fail
          obtain ⟨u0, u1, u2, m9⟩ := set3 e0 e1 e2 (.int .i64 T.vars) (.int .i64 T.depth) (.slice A T.L.length c)
          refine bodyPost_ret (v := .tuple #[.agg #[.int .i64 T.vars, .int .i64 T.depth, .slice A T.L.length c], .bool false]) (by simp [results, Try.f26, go_sem, u0, u1, u2]) rfl ?_
          have hbw := below_mod BW4.out BW4.out.size m9 fun g hg => by
            rw [hg]
            have := Hb.out
            omega
          exact ⟨⟨_, by rw [Hc.out], by simpa [Tr.imp, Hc.out] using (Hv.out.below hbw).mono (Q := fun g => P g ∨ w.heap.size ≤ g) fun _ _ h => .inl h⟩, hbw⟩
      · have hxl : x = l := by simpa using q1
        have Hxl := hid hxl
        clear hxl
        go_wp2_with fail
        go_roundw
        case rel => exact ⟨j + 1, by omega, by go_num, by rw [Htk.out, Hxl.out]; simp, hid ⟨fun z hz => by
            rw [Htk.out] at hz
            rcases List.mem_append.1 hz with hz | hz
            · exact Bad.out z hz
            · rw [List.mem_singleton.1 hz, Hxl.out]; simp [badB], KN.out, K1.out, BW.out⟩⟩
        case measure => simp [intOf]; omega
    · have hrl : r.take j = r := List.take_of_length_le (by have := hrc.out.1; omega)
      rw [hrl] at Bad
      rw [hrl]
      have hbad : r.any (badB T l) = false := by
        rw [List.any_eq_false]
        intro z hz
        rw [Bad.out z hz]
        simp
      have Hbad := hid hbad
      clear hrl hbad Bad
      cases hin : r.any (l == ·) with
      | false =>
        have Hc : Hid (T.can l r = false) := hid (by simp [Tr.can, hin])
        go_wp2_with fail
        obtain ⟨u0, u1, u2, m9⟩ := set3 e0 e1 e2 (.int .i64 T.vars) (.int .i64 T.depth) (.slice A T.L.length c)
        refine bodyPost_ret (v := .tuple #[.agg #[.int .i64 T.vars, .int .i64 T.depth, .slice A T.L.length c], .bool false]) (by simp [results, Try.f26, go_sem, u0, u1, u2]) rfl ?_
        have hbw := below_mod BW.out BW.out.size m9 fun g hg => by
          rw [hg]
          have := Hb.out
          omega
        exact ⟨⟨_, by rw [Hc.out], by simpa [Tr.imp, Hc.out] using (Hv.out.below hbw).mono (Q := fun g => P g ∨ w.heap.size ≤ g) fun _ _ h => .inl h⟩, hbw⟩
      | true =>
        have Hv1 := hid (Hv.out.below BW.out)
        cases hf : T.freeB l with
        | false =>
          have Hc : Hid (T.can l r = false) := hid (by simp [Tr.can, hf])
          go_wp2_with (go_at_call 39; refine (rfree_any Hv1.out Hw.out Hl.out).mono ?_; rintro r' w4 ⟨rfl, b4⟩; rw [hf]; have KN := hid (keep_blk KN.out b4); have K1 := hid (keep_blk K1.out b4); have BW := hid (BW.out.trans (b4.mono BW.out.size)); obtain ⟨c0, c1, c2'⟩ := box3 KN.out; obtain ⟨e0, e1, e2⟩ := box3 K1.out; obtain ⟨f0, f1, f2⟩ := froz3 K1.out; obtain ⟨g0, g1, g2⟩ := froz3 KN.out; clear b4)
          obtain ⟨u0, u1, u2, m9⟩ := set3 e0 e1 e2 (.int .i64 T.vars) (.int .i64 T.depth) (.slice A T.L.length c)
          refine bodyPost_ret (v := .tuple #[.agg #[.int .i64 T.vars, .int .i64 T.depth, .slice A T.L.length c], .bool false]) (by simp [results, Try.f26, go_sem, u0, u1, u2]) rfl ?_
          have hbw := below_mod BW.out BW.out.size m9 fun g hg => by
            rw [hg]
            have := Hb.out
            omega
          exact ⟨⟨_, by rw [Hc.out], by simpa [Tr.imp, Hc.out] using (Hv.out.below hbw).mono (Q := fun g => P g ∨ w.heap.size ≤ g) fun _ _ h => .inl h⟩, hbw⟩
        | true =>
          have Hc : Hid (T.can l r = true) := hid (by
            have := Hbad.out
            simp [Tr.can, hf, hin, this])
          go_wp2_with (go_at_call 39; refine (rfree_any Hv1.out Hw.out Hl.out).mono ?_; rintro r' w4 ⟨rfl, b4⟩; rw [hf]; have KN := hid (keep_blk KN.out b4); have K1 := hid (keep_blk K1.out b4); have BW := hid (BW.out.trans (b4.mono BW.out.size)); obtain ⟨c0, c1, c2'⟩ := box3 KN.out; obtain ⟨e0, e1, e2⟩ := box3 K1.out; obtain ⟨f0, f1, f2⟩ := froz3 K1.out; obtain ⟨g0, g1, g2⟩ := froz3 KN.out; clear b4)
          obtain ⟨A', c', ts', hve, hL', he'⟩ := Hv.out
          obtain ⟨rfl, rfl⟩ : A = A' ∧ c = c' := by simpa using hve
          refine wp_region_upto (S := fun w' => w'.cell? ⟨b, 1, none⟩ = some (.int .i64 T.depth) ∧ w'.cell? ⟨b, 2, none⟩ = some (.slice A T.L.length c)) 14 (by kernel_rfl) ⟨c1, c2'⟩ (fun hHeld => ?_)
          obtain ⟨WD, hWD⟩ : ∃ Y, w4.drew = Y := ⟨_, rfl⟩
          have bD : Below w4.heap.size w4 w4.drew := Bl.drew (Below.refl _ _)
          have KN := hid (keep_blk KN.out bD)
          have K1 := hid (keep_blk K1.out bD)
          have BW := hid (BW.out.trans (bD.mono BW.out.size))
          rw [hWD] at hHeld KN K1 BW ⊢
          have hwb := Hb.out
          have He0 := hid (he'.below BW.out)
          have HR0 := hid (Hr.out.below BW.out)
          have HL' := hid hL'
          have HeW := hid he'
          have Hone := hid (flat_one (ts := ts') fun p hp => by obtain ⟨R, n, c, h1, _⟩ := he'.2.2 p hp; exact ⟨R, n, c, h1⟩)
          have HB := hid (Below.refl WD.heap.size WD)
          have hbD : b + 1 < WD.heap.size := lt_of_block K1.out
          clear hve hL' he' hWD bD c0 c1 c2' e0 e1 e2 f0 f1 f2 g0 g1 g2
          refine tu 1 ?_
          refine tv [3,9,10,11,12,13,14] 2 ?_
          refine tu 4 ?_
          refine tu 5 ?_
          refine tv [10,11,12,13,14] 6 ?_
          refine tu 8 ?_
          refine ru [0,7] ?_
          refine cu (fun K hK => ?_) (cu (fun K hK => ?_) AllReadyU.nil)
          · go_simp
            obtain ⟨V0, hX, bX, kX, sX⟩ := alloc_step WD (.cells #[] 74)
            rw [hX]
            have HB := hid (HB.out.trans (bX.mono HB.out.size))
            have KN := hid (keep_blk KN.out bX)
            obtain ⟨z0, hz⟩ : ∃ z, WD.heap.size = z := ⟨_, rfl⟩
            rw [hz]
            clear hX bX kX sX hz
            obtain ⟨n0, n1, n2⟩ := box3 KN.out
            refine hK.out _ _ ⟨n1, n2⟩ (fun hHeld => ?_)
            clear hK K n0 n1 n2
            refine ru [3,7] ?_
            refine cu (fun K hK => ?_) (cu (fun K hK => ?_) AllReadyU.nil)
            · refine step_append_ents (v := .slice (some ⟨z0, 0, none⟩) 0 0) (u := .slice A T.L.length c) rfl _ _ rfl rfl rfl (Own.none_ _ (fun _ => False) _ _ _) (He0.out.below HB.out).2.1 Hone.out (by omega) fun A3 c3 V3 ho hm hr => ?_
              rw [Nat.zero_add, List.nil_append] at ho
              rw [Nat.zero_add]
              rw [row_none] at hm
              have bm := hm.below
              have hs3 := HB.out.size
              have O3 := hid (ho.mono (G := fun g => WD.heap.size ≤ g) fun g _ _ h => h.elim (fun h => h.elim) fun h => by omega)
              have HB := hid (HB.out.trans (bm.mono HB.out.size))
              have KN := hid (keep_blk KN.out bm)
              clear ho hm hr bm hs3
              obtain ⟨n0, n1, n2⟩ := box3 KN.out
              refine hK.out _ _ ⟨n1, n2⟩ (fun hHeld => ?_)
              clear hK K n0 n1 n2
              refine r1 7 fun K hK => ?_
              go_simp
              obtain ⟨V7, hX, bX, kX, sX⟩ := alloc_step V3 (.cells #[] 3)
              rw [hX]
              have HB := hid (HB.out.trans (bX.mono HB.out.size))
              have KN := hid (keep_blk KN.out bX)
              have O3 := hid (O3.out.below bX)
              obtain ⟨z7, hz⟩ : ∃ z, V3.heap.size = z := ⟨_, rfl⟩
              rw [hz]
              clear hX bX kX sX hz
              obtain ⟨n0, n1, n2⟩ := box3 KN.out
              refine hK.out _ _ ⟨n1, n2⟩ (fun hHeld => ?_)
              clear hK K n0 n1 n2
              refine r1 9 fun K hK => ?_
              have R3 := hid (fun g (hg : row (.slice A3 T.L.length c3) g) => lt_of_block (O3.out.row hg).2.choose_spec)
              obtain ⟨u3, hu3⟩ : ∃ z, V7.heap.size = z := ⟨_, rfl⟩
              rw [hu3] at R3
              have hwu := HB.out.size
              rw [hu3] at hwu
              refine step_append_ints (v := .slice (some ⟨z7, 0, none⟩) 0 0) (u := .slice A2 n c2) rfl _ _ rfl (Own.none_ _ (fun _ => False) _ _ _) (HR0.out.below HB.out) rfl rfl (ints_one r) (by omega) fun A5 c5 V9 ho hm hr => ?_
              rw [Nat.zero_add, List.nil_append] at ho
              rw [Nat.zero_add]
              rw [row_none] at hm
              have bm := hm.below
              have O9 := hid (ho.mono (G := fun g => u3 ≤ g) fun g _ _ h => h.elim (fun h => h.elim) fun h => by omega)
              have O3 := hid (O3.out.below bm)
              have HB := hid (HB.out.trans (bm.mono HB.out.size))
              have KN := hid (keep_blk KN.out bm)
              have hs3 := HB.out.size
              clear ho hm hr bm hu3
              obtain ⟨n0, n1, n2⟩ := box3 KN.out
              refine hK.out _ _ ⟨n1, n2⟩ (fun hHeld => ?_)
              clear hK K n0 n1 n2
              refine tu 10 ?_
              refine r1 11 fun K hK => ?_
              go_simp
              obtain ⟨V11, hX, bX, kX, sX⟩ := alloc_step V9 (.cells #[.int .i64 l, .int .i64 T.depth, .slice A5 n c5] 74)
              rw [hX]
              have HB := hid (HB.out.trans (bX.mono HB.out.size))
              have KN := hid (keep_blk KN.out bX)
              have O3 := hid (O3.out.below bX)
              have O9 := hid (O9.out.below bX)
              obtain ⟨z11, hz⟩ : ∃ z, V9.heap.size = z := ⟨_, rfl⟩
              rw [hz] at kX ⊢
              have K11 := hid (rd_ent kX)
              clear hX bX kX sX hz
              obtain ⟨n0, n1, n2⟩ := box3 KN.out
              refine hK.out _ _ ⟨n1, n2⟩ (fun hHeld => ?_)
              clear hK K n0 n1 n2
              refine r1 12 fun K hK => ?_
              refine step_append_ents (v := .slice A3 T.L.length c3) (u := .slice (some ⟨z11, 0, none⟩) 1 1) rfl _ _ rfl rfl rfl O3.out K11.out (by simp [Value.oneCell']) (by omega) fun A9 c9 V12 ho hm hr => ?_
              have hs9 := HB.out.size
              have OE := hid (ho.mono (G := fun g => WD.heap.size ≤ g) fun g _ _ h => h.elim id fun h => by omega)
              have O9 := hid (O9.out.mod hm fun g _ _ hF hg => absurd (R3.out g hg) (Nat.not_lt.2 hF))
              have KN := hid ((hm.block b (lt_of_block KN.out) fun hg => by have := (O3.out.row hg).1; omega).trans KN.out)
              have HB := hid (below_mod HB.out hs9 hm fun g hg => (O3.out.row hg).1)
              clear ho hm hr hs9 O3 K11 R3
              obtain ⟨n0, n1, n2⟩ := box3 KN.out
              refine hK.out _ _ ⟨n1, n2⟩ (fun hHeld => ?_)
              clear hK K n0 n1 n2
              refine tu 13 ?_
              refine l1 14 fun K hK => ?_
              obtain ⟨n0, n1, n2⟩ := box3 KN.out
              obtain ⟨f0, f1, f2⟩ := froz3 KN.out
              go_simp
              refine hK.out _ _ ?_
              clear hK K n0 n1 n2 f0 f1 f2
              refine wpAnyU_done (by kernel_rfl) ?_ _
              obtain ⟨WE, hWE⟩ : ∃ Y, V12.setCell ⟨b, 2, none⟩ (.slice A9 (T.L.length + 1) c9) = Y := ⟨_, rfl⟩
              have kE : WE.heap[b]? = some (.cells #[.int .i64 T.vars, .int .i64 T.depth, .slice A9 (T.L.length + 1) c9] 48) := by rw [← hWE]; exact heap_setCell_same _ _ 2 _ _ _ KN.out
              have hsB := BW.out.size
              have k1E : WE.heap[b + 1]? = some (.cells #[.int .i64 0, .int .i64 0, .slice none 0 0] 48) := by
                rw [← hWE, Below.heap_setCell _ _ _ _ (by simp)]
                exact (HB.out.block _ (lt_of_block K1.out)).trans K1.out
              have BE : Below b w WE := by
                have BE0 : Below w.heap.size w WE := by
                  rw [← hWE]
                  exact (BW.out.trans (HB.out.mono (by omega))).setCell (Nat.le_of_eq hwb) _
                rw [hwb] at BE0
                exact BE0
              have OE := OE.out.keep (w' := WE) fun g _ _ hF => by
                rw [← hWE]
                exact Below.heap_setCell _ _ _ _ (by
                  simp only at hF ⊢
                  omega)
              rw [hWE]
              obtain ⟨c0, c1, c2⟩ := box3 kE
              obtain ⟨e0, e1, e2⟩ := box3 k1E
              obtain ⟨f0, f1, f2⟩ := froz3 k1E
              obtain ⟨g0, g1, g2⟩ := froz3 kE
              go_wp2_with fail
              obtain ⟨u0, u1, u2, m9⟩ := set3 e0 e1 e2 (.int .i64 T.vars) (.int .i64 T.depth) (.slice A9 (T.L.length + 1) c9)
              refine bodyPost_ret (v := .tuple #[.agg #[.int .i64 T.vars, .int .i64 T.depth, .slice A9 (T.L.length + 1) c9], .bool true]) (by simp [results, go_sem, u0, u1, u2]) rfl ?_
              have hbw := below_mod BE (Nat.le_trans (Nat.le_of_eq hwb.symm) BE.size) m9 fun g hg => by
                rw [hg]
                omega
              have OF := OE.mod m9 fun g _ _ hF hg => by
                have hF : WD.heap.size ≤ g := hF
                have hg : g = b + 1 := hg
                omega
              have O9E := O9.out.keep (w' := WE) fun g _ _ hF => by
                have hF : u3 ≤ g := hF
                rw [← hWE]
                exact Below.heap_setCell _ _ _ _ (by
                  simp only
                  omega)
              have O9F := O9E.mod m9 fun g _ _ hF hg => by
                have hF : u3 ≤ g := hF
                have hg : g = b + 1 := hg
                omega
              obtain ⟨WF, hWF⟩ : ∃ Y, ((WE.setCell ⟨b + 1, 0, none⟩ (.int .i64 T.vars)).setCell ⟨b + 1, 1, none⟩ (.int .i64 T.depth)).setCell ⟨b + 1, 2, none⟩ (.slice A9 (T.L.length + 1) c9) = Y := ⟨_, rfl⟩
              rw [hWF] at OF O9F hbw ⊢
              have hwb' : Below w.heap.size w WF := hwb.symm ▸ hbw
              refine ⟨⟨_, by rw [Hc.out], ?_⟩, hwb'⟩
              simp only [Tr.imp, Hc.out, if_true]
              refine ⟨A9, c9, ts' ++ [((⟨l, T.starts.length, r⟩ : Ent), Value.slice A5 n c5)], ?_, ?_, ?_, ?_, ?_⟩
              · simp [Tr.imply, Tr.depth]
              · simp [Tr.imply, HL'.out]
              · simp [Tr.imply, HL'.out]
              · have hr := OF.rd.mono (G := fun g => P g ∨ w.heap.size ≤ g) fun g _ h => .inr (by
                  have h : WD.heap.size ≤ g := h
                  omega)
                have hfl : flat (ts' ++ [((⟨l, T.starts.length, r⟩ : Ent), Value.slice A5 n c5)]) = flat ts' ++ [Value.int .i64 l, Value.int .i64 T.depth, Value.slice A5 n c5] := by
                  rw [flat_append]
                  rfl
                rw [hfl]
                simpa [Tr.imply] using hr
              · intro p hp
                rcases List.mem_append.1 hp with hp | hp
                · exact ((HeW.out.2.2 p hp).below hwb').mono fun _ _ h => .inl h
                · obtain rfl := List.mem_singleton.1 hp
                  exact ⟨A5, n, c5, rfl, O9F.rd.mono (G := fun g => P g ∨ w.heap.size ≤ g) fun g _ h => .inr (by
                    have h : u3 ≤ g := h
                    omega)⟩
            · go_simp
              obtain ⟨V7, hX, bX, kX, sX⟩ := alloc_step V0 (.cells #[] 3)
              rw [hX]
              have HB := hid (HB.out.trans (bX.mono HB.out.size))
              have KN := hid (keep_blk KN.out bX)
              obtain ⟨z7, hz⟩ : ∃ z, V0.heap.size = z := ⟨_, rfl⟩
              rw [hz]
              clear hX bX kX sX hz
              obtain ⟨n0, n1, n2⟩ := box3 KN.out
              refine hK.out _ _ ⟨n1, n2⟩ (fun hHeld => ?_)
              clear hK K n0 n1 n2
              refine r1 3 fun K hK => ?_
              refine step_append_ents (v := .slice (some ⟨z0, 0, none⟩) 0 0) (u := .slice A T.L.length c) rfl _ _ rfl rfl rfl (Own.none_ _ (fun _ => False) _ _ _) (He0.out.below HB.out).2.1 Hone.out (by omega) fun A3 c3 V3 ho hm hr => ?_
              rw [Nat.zero_add, List.nil_append] at ho
              rw [Nat.zero_add]
              rw [row_none] at hm
              have bm := hm.below
              have hs3 := HB.out.size
              have O3 := hid (ho.mono (G := fun g => WD.heap.size ≤ g) fun g _ _ h => h.elim (fun h => h.elim) fun h => by omega)
              have HB := hid (HB.out.trans (bm.mono HB.out.size))
              have KN := hid (keep_blk KN.out bm)
              clear ho hm hr bm hs3
              obtain ⟨n0, n1, n2⟩ := box3 KN.out
              refine hK.out _ _ ⟨n1, n2⟩ (fun hHeld => ?_)
              clear hK K n0 n1 n2
              refine r1 9 fun K hK => ?_
              have R3 := hid (fun g (hg : row (.slice A3 T.L.length c3) g) => lt_of_block (O3.out.row hg).2.choose_spec)
              obtain ⟨u3, hu3⟩ : ∃ z, V3.heap.size = z := ⟨_, rfl⟩
              rw [hu3] at R3
              have hwu := HB.out.size
              rw [hu3] at hwu
              refine step_append_ints (v := .slice (some ⟨z7, 0, none⟩) 0 0) (u := .slice A2 n c2) rfl _ _ rfl (Own.none_ _ (fun _ => False) _ _ _) (HR0.out.below HB.out) rfl rfl (ints_one r) (by omega) fun A5 c5 V9 ho hm hr => ?_
              rw [Nat.zero_add, List.nil_append] at ho
              rw [Nat.zero_add]
              rw [row_none] at hm
              have bm := hm.below
              have O9 := hid (ho.mono (G := fun g => u3 ≤ g) fun g _ _ h => h.elim (fun h => h.elim) fun h => by omega)
              have O3 := hid (O3.out.below bm)
              have HB := hid (HB.out.trans (bm.mono HB.out.size))
              have KN := hid (keep_blk KN.out bm)
              have hs3 := HB.out.size
              clear ho hm hr bm hu3
              obtain ⟨n0, n1, n2⟩ := box3 KN.out
              refine hK.out _ _ ⟨n1, n2⟩ (fun hHeld => ?_)
              clear hK K n0 n1 n2
              refine tu 10 ?_
              refine r1 11 fun K hK => ?_
              go_simp
              obtain ⟨V11, hX, bX, kX, sX⟩ := alloc_step V9 (.cells #[.int .i64 l, .int .i64 T.depth, .slice A5 n c5] 74)
              rw [hX]
              have HB := hid (HB.out.trans (bX.mono HB.out.size))
              have KN := hid (keep_blk KN.out bX)
              have O3 := hid (O3.out.below bX)
              have O9 := hid (O9.out.below bX)
              obtain ⟨z11, hz⟩ : ∃ z, V9.heap.size = z := ⟨_, rfl⟩
              rw [hz] at kX ⊢
              have K11 := hid (rd_ent kX)
              clear hX bX kX sX hz
              obtain ⟨n0, n1, n2⟩ := box3 KN.out
              refine hK.out _ _ ⟨n1, n2⟩ (fun hHeld => ?_)
              clear hK K n0 n1 n2
              refine r1 12 fun K hK => ?_
              refine step_append_ents (v := .slice A3 T.L.length c3) (u := .slice (some ⟨z11, 0, none⟩) 1 1) rfl _ _ rfl rfl rfl O3.out K11.out (by simp [Value.oneCell']) (by omega) fun A9 c9 V12 ho hm hr => ?_
              have hs9 := HB.out.size
              have OE := hid (ho.mono (G := fun g => WD.heap.size ≤ g) fun g _ _ h => h.elim id fun h => by omega)
              have O9 := hid (O9.out.mod hm fun g _ _ hF hg => absurd (R3.out g hg) (Nat.not_lt.2 hF))
              have KN := hid ((hm.block b (lt_of_block KN.out) fun hg => by have := (O3.out.row hg).1; omega).trans KN.out)
              have HB := hid (below_mod HB.out hs9 hm fun g hg => (O3.out.row hg).1)
              clear ho hm hr hs9 O3 K11 R3
              obtain ⟨n0, n1, n2⟩ := box3 KN.out
              refine hK.out _ _ ⟨n1, n2⟩ (fun hHeld => ?_)
              clear hK K n0 n1 n2
              refine tu 13 ?_
              refine l1 14 fun K hK => ?_
              obtain ⟨n0, n1, n2⟩ := box3 KN.out
              obtain ⟨f0, f1, f2⟩ := froz3 KN.out
              go_simp
              refine hK.out _ _ ?_
              clear hK K n0 n1 n2 f0 f1 f2
              refine wpAnyU_done (by kernel_rfl) ?_ _
              obtain ⟨WE, hWE⟩ : ∃ Y, V12.setCell ⟨b, 2, none⟩ (.slice A9 (T.L.length + 1) c9) = Y := ⟨_, rfl⟩
              have kE : WE.heap[b]? = some (.cells #[.int .i64 T.vars, .int .i64 T.depth, .slice A9 (T.L.length + 1) c9] 48) := by rw [← hWE]; exact heap_setCell_same _ _ 2 _ _ _ KN.out
              have hsB := BW.out.size
              have k1E : WE.heap[b + 1]? = some (.cells #[.int .i64 0, .int .i64 0, .slice none 0 0] 48) := by
                rw [← hWE, Below.heap_setCell _ _ _ _ (by simp)]
                exact (HB.out.block _ (lt_of_block K1.out)).trans K1.out
              have BE : Below b w WE := by
                have BE0 : Below w.heap.size w WE := by
                  rw [← hWE]
                  exact (BW.out.trans (HB.out.mono (by omega))).setCell (Nat.le_of_eq hwb) _
                rw [hwb] at BE0
                exact BE0
              have OE := OE.out.keep (w' := WE) fun g _ _ hF => by
                rw [← hWE]
                exact Below.heap_setCell _ _ _ _ (by
                  simp only at hF ⊢
                  omega)
              rw [hWE]
              obtain ⟨c0, c1, c2⟩ := box3 kE
              obtain ⟨e0, e1, e2⟩ := box3 k1E
              obtain ⟨f0, f1, f2⟩ := froz3 k1E
              obtain ⟨g0, g1, g2⟩ := froz3 kE
              go_wp2_with fail
              obtain ⟨u0, u1, u2, m9⟩ := set3 e0 e1 e2 (.int .i64 T.vars) (.int .i64 T.depth) (.slice A9 (T.L.length + 1) c9)
              refine bodyPost_ret (v := .tuple #[.agg #[.int .i64 T.vars, .int .i64 T.depth, .slice A9 (T.L.length + 1) c9], .bool true]) (by simp [results, go_sem, u0, u1, u2]) rfl ?_
              have hbw := below_mod BE (Nat.le_trans (Nat.le_of_eq hwb.symm) BE.size) m9 fun g hg => by
                rw [hg]
                omega
              have OF := OE.mod m9 fun g _ _ hF hg => by
                have hF : WD.heap.size ≤ g := hF
                have hg : g = b + 1 := hg
                omega
              have O9E := O9.out.keep (w' := WE) fun g _ _ hF => by
                have hF : u3 ≤ g := hF
                rw [← hWE]
                exact Below.heap_setCell _ _ _ _ (by
                  simp only
                  omega)
              have O9F := O9E.mod m9 fun g _ _ hF hg => by
                have hF : u3 ≤ g := hF
                have hg : g = b + 1 := hg
                omega
              obtain ⟨WF, hWF⟩ : ∃ Y, ((WE.setCell ⟨b + 1, 0, none⟩ (.int .i64 T.vars)).setCell ⟨b + 1, 1, none⟩ (.int .i64 T.depth)).setCell ⟨b + 1, 2, none⟩ (.slice A9 (T.L.length + 1) c9) = Y := ⟨_, rfl⟩
              rw [hWF] at OF O9F hbw ⊢
              have hwb' : Below w.heap.size w WF := hwb.symm ▸ hbw
              refine ⟨⟨_, by rw [Hc.out], ?_⟩, hwb'⟩
              simp only [Tr.imp, Hc.out, if_true]
              refine ⟨A9, c9, ts' ++ [((⟨l, T.starts.length, r⟩ : Ent), Value.slice A5 n c5)], ?_, ?_, ?_, ?_, ?_⟩
              · simp [Tr.imply, Tr.depth]
              · simp [Tr.imply, HL'.out]
              · simp [Tr.imply, HL'.out]
              · have hr := OF.rd.mono (G := fun g => P g ∨ w.heap.size ≤ g) fun g _ h => .inr (by
                  have h : WD.heap.size ≤ g := h
                  omega)
                have hfl : flat (ts' ++ [((⟨l, T.starts.length, r⟩ : Ent), Value.slice A5 n c5)]) = flat ts' ++ [Value.int .i64 l, Value.int .i64 T.depth, Value.slice A5 n c5] := by
                  rw [flat_append]
                  rfl
                rw [hfl]
                simpa [Tr.imply] using hr
              · intro p hp
                rcases List.mem_append.1 hp with hp | hp
                · exact ((HeW.out.2.2 p hp).below hwb').mono fun _ _ h => .inl h
                · obtain rfl := List.mem_singleton.1 hp
                  exact ⟨A5, n, c5, rfl, O9F.rd.mono (G := fun g => P g ∨ w.heap.size ≤ g) fun g _ h => .inr (by
                    have h : u3 ≤ g := h
                    omega)⟩
          · go_simp
            obtain ⟨V7, hX, bX, kX, sX⟩ := alloc_step WD (.cells #[] 3)
            rw [hX]
            have HB := hid (HB.out.trans (bX.mono HB.out.size))
            have KN := hid (keep_blk KN.out bX)
            obtain ⟨z7, hz⟩ : ∃ z, WD.heap.size = z := ⟨_, rfl⟩
            rw [hz]
            clear hX bX kX sX hz
            obtain ⟨n0, n1, n2⟩ := box3 KN.out
            refine hK.out _ _ ⟨n1, n2⟩ (fun hHeld => ?_)
            clear hK K n0 n1 n2
            refine r1 0 fun K hK => ?_
            go_simp
            obtain ⟨V0, hX, bX, kX, sX⟩ := alloc_step V7 (.cells #[] 74)
            rw [hX]
            have HB := hid (HB.out.trans (bX.mono HB.out.size))
            have KN := hid (keep_blk KN.out bX)
            obtain ⟨z0, hz⟩ : ∃ z, V7.heap.size = z := ⟨_, rfl⟩
            rw [hz]
            clear hX bX kX sX hz
            obtain ⟨n0, n1, n2⟩ := box3 KN.out
            refine hK.out _ _ ⟨n1, n2⟩ (fun hHeld => ?_)
            clear hK K n0 n1 n2
            refine r1 3 fun K hK => ?_
            refine step_append_ents (v := .slice (some ⟨z0, 0, none⟩) 0 0) (u := .slice A T.L.length c) rfl _ _ rfl rfl rfl (Own.none_ _ (fun _ => False) _ _ _) (He0.out.below HB.out).2.1 Hone.out (by omega) fun A3 c3 V3 ho hm hr => ?_
            rw [Nat.zero_add, List.nil_append] at ho
            rw [Nat.zero_add]
            rw [row_none] at hm
            have bm := hm.below
            have hs3 := HB.out.size
            have O3 := hid (ho.mono (G := fun g => WD.heap.size ≤ g) fun g _ _ h => h.elim (fun h => h.elim) fun h => by omega)
            have HB := hid (HB.out.trans (bm.mono HB.out.size))
            have KN := hid (keep_blk KN.out bm)
            clear ho hm hr bm hs3
            obtain ⟨n0, n1, n2⟩ := box3 KN.out
            refine hK.out _ _ ⟨n1, n2⟩ (fun hHeld => ?_)
            clear hK K n0 n1 n2
            refine r1 9 fun K hK => ?_
            have R3 := hid (fun g (hg : row (.slice A3 T.L.length c3) g) => lt_of_block (O3.out.row hg).2.choose_spec)
            obtain ⟨u3, hu3⟩ : ∃ z, V3.heap.size = z := ⟨_, rfl⟩
            rw [hu3] at R3
            have hwu := HB.out.size
            rw [hu3] at hwu
            refine step_append_ints (v := .slice (some ⟨z7, 0, none⟩) 0 0) (u := .slice A2 n c2) rfl _ _ rfl (Own.none_ _ (fun _ => False) _ _ _) (HR0.out.below HB.out) rfl rfl (ints_one r) (by omega) fun A5 c5 V9 ho hm hr => ?_
            rw [Nat.zero_add, List.nil_append] at ho
            rw [Nat.zero_add]
            rw [row_none] at hm
            have bm := hm.below
            have O9 := hid (ho.mono (G := fun g => u3 ≤ g) fun g _ _ h => h.elim (fun h => h.elim) fun h => by omega)
            have O3 := hid (O3.out.below bm)
            have HB := hid (HB.out.trans (bm.mono HB.out.size))
            have KN := hid (keep_blk KN.out bm)
            have hs3 := HB.out.size
            clear ho hm hr bm hu3
            obtain ⟨n0, n1, n2⟩ := box3 KN.out
            refine hK.out _ _ ⟨n1, n2⟩ (fun hHeld => ?_)
            clear hK K n0 n1 n2
            refine tu 10 ?_
            refine r1 11 fun K hK => ?_
            go_simp
            obtain ⟨V11, hX, bX, kX, sX⟩ := alloc_step V9 (.cells #[.int .i64 l, .int .i64 T.depth, .slice A5 n c5] 74)
            rw [hX]
            have HB := hid (HB.out.trans (bX.mono HB.out.size))
            have KN := hid (keep_blk KN.out bX)
            have O3 := hid (O3.out.below bX)
            have O9 := hid (O9.out.below bX)
            obtain ⟨z11, hz⟩ : ∃ z, V9.heap.size = z := ⟨_, rfl⟩
            rw [hz] at kX ⊢
            have K11 := hid (rd_ent kX)
            clear hX bX kX sX hz
            obtain ⟨n0, n1, n2⟩ := box3 KN.out
            refine hK.out _ _ ⟨n1, n2⟩ (fun hHeld => ?_)
            clear hK K n0 n1 n2
            refine r1 12 fun K hK => ?_
            refine step_append_ents (v := .slice A3 T.L.length c3) (u := .slice (some ⟨z11, 0, none⟩) 1 1) rfl _ _ rfl rfl rfl O3.out K11.out (by simp [Value.oneCell']) (by omega) fun A9 c9 V12 ho hm hr => ?_
            have hs9 := HB.out.size
            have OE := hid (ho.mono (G := fun g => WD.heap.size ≤ g) fun g _ _ h => h.elim id fun h => by omega)
            have O9 := hid (O9.out.mod hm fun g _ _ hF hg => absurd (R3.out g hg) (Nat.not_lt.2 hF))
            have KN := hid ((hm.block b (lt_of_block KN.out) fun hg => by have := (O3.out.row hg).1; omega).trans KN.out)
            have HB := hid (below_mod HB.out hs9 hm fun g hg => (O3.out.row hg).1)
            clear ho hm hr hs9 O3 K11 R3
            obtain ⟨n0, n1, n2⟩ := box3 KN.out
            refine hK.out _ _ ⟨n1, n2⟩ (fun hHeld => ?_)
            clear hK K n0 n1 n2
            refine tu 13 ?_
            refine l1 14 fun K hK => ?_
            obtain ⟨n0, n1, n2⟩ := box3 KN.out
            obtain ⟨f0, f1, f2⟩ := froz3 KN.out
            go_simp
            refine hK.out _ _ ?_
            clear hK K n0 n1 n2 f0 f1 f2
            refine wpAnyU_done (by kernel_rfl) ?_ _
            obtain ⟨WE, hWE⟩ : ∃ Y, V12.setCell ⟨b, 2, none⟩ (.slice A9 (T.L.length + 1) c9) = Y := ⟨_, rfl⟩
            have kE : WE.heap[b]? = some (.cells #[.int .i64 T.vars, .int .i64 T.depth, .slice A9 (T.L.length + 1) c9] 48) := by rw [← hWE]; exact heap_setCell_same _ _ 2 _ _ _ KN.out
            have hsB := BW.out.size
            have k1E : WE.heap[b + 1]? = some (.cells #[.int .i64 0, .int .i64 0, .slice none 0 0] 48) := by
              rw [← hWE, Below.heap_setCell _ _ _ _ (by simp)]
              exact (HB.out.block _ (lt_of_block K1.out)).trans K1.out
            have BE : Below b w WE := by
              have BE0 : Below w.heap.size w WE := by
                rw [← hWE]
                exact (BW.out.trans (HB.out.mono (by omega))).setCell (Nat.le_of_eq hwb) _
              rw [hwb] at BE0
              exact BE0
            have OE := OE.out.keep (w' := WE) fun g _ _ hF => by
              rw [← hWE]
              exact Below.heap_setCell _ _ _ _ (by
                simp only at hF ⊢
                omega)
            rw [hWE]
            obtain ⟨c0, c1, c2⟩ := box3 kE
            obtain ⟨e0, e1, e2⟩ := box3 k1E
            obtain ⟨f0, f1, f2⟩ := froz3 k1E
            obtain ⟨g0, g1, g2⟩ := froz3 kE
            go_wp2_with fail
            obtain ⟨u0, u1, u2, m9⟩ := set3 e0 e1 e2 (.int .i64 T.vars) (.int .i64 T.depth) (.slice A9 (T.L.length + 1) c9)
            refine bodyPost_ret (v := .tuple #[.agg #[.int .i64 T.vars, .int .i64 T.depth, .slice A9 (T.L.length + 1) c9], .bool true]) (by simp [results, go_sem, u0, u1, u2]) rfl ?_
            have hbw := below_mod BE (Nat.le_trans (Nat.le_of_eq hwb.symm) BE.size) m9 fun g hg => by
              rw [hg]
              omega
            have OF := OE.mod m9 fun g _ _ hF hg => by
              have hF : WD.heap.size ≤ g := hF
              have hg : g = b + 1 := hg
              omega
            have O9E := O9.out.keep (w' := WE) fun g _ _ hF => by
              have hF : u3 ≤ g := hF
              rw [← hWE]
              exact Below.heap_setCell _ _ _ _ (by
                simp only
                omega)
            have O9F := O9E.mod m9 fun g _ _ hF hg => by
              have hF : u3 ≤ g := hF
              have hg : g = b + 1 := hg
              omega
            obtain ⟨WF, hWF⟩ : ∃ Y, ((WE.setCell ⟨b + 1, 0, none⟩ (.int .i64 T.vars)).setCell ⟨b + 1, 1, none⟩ (.int .i64 T.depth)).setCell ⟨b + 1, 2, none⟩ (.slice A9 (T.L.length + 1) c9) = Y := ⟨_, rfl⟩
            rw [hWF] at OF O9F hbw ⊢
            have hwb' : Below w.heap.size w WF := hwb.symm ▸ hbw
            refine ⟨⟨_, by rw [Hc.out], ?_⟩, hwb'⟩
            simp only [Tr.imp, Hc.out, if_true]
            refine ⟨A9, c9, ts' ++ [((⟨l, T.starts.length, r⟩ : Ent), Value.slice A5 n c5)], ?_, ?_, ?_, ?_, ?_⟩
            · simp [Tr.imply, Tr.depth]
            · simp [Tr.imply, HL'.out]
            · simp [Tr.imply, HL'.out]
            · have hr := OF.rd.mono (G := fun g => P g ∨ w.heap.size ≤ g) fun g _ h => .inr (by
                have h : WD.heap.size ≤ g := h
                omega)
              have hfl : flat (ts' ++ [((⟨l, T.starts.length, r⟩ : Ent), Value.slice A5 n c5)]) = flat ts' ++ [Value.int .i64 l, Value.int .i64 T.depth, Value.slice A5 n c5] := by
                rw [flat_append]
                rfl
              rw [hfl]
              simpa [Tr.imply] using hr
            · intro p hp
              rcases List.mem_append.1 hp with hp | hp
              · exact ((HeW.out.2.2 p hp).below hwb').mono fun _ _ h => .inl h
              · obtain rfl := List.mem_singleton.1 hp
                exact ⟨A5, n, c5, rfl, O9F.rd.mono (G := fun g => P g ∨ w.heap.size ≤ g) fun g _ h => .inr (by
                  have h : u3 ≤ g := h
                  omega)⟩
end Go.Proofs.Ytbghfdhijlpogaa
