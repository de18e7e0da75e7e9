/-
  The reference of layer 28: Decide.
-/
import Derived.Test.YtbghfdhijlpogaaRtA
namespace Go.Proofs.Ytbghfdhijlpogaa
open Go.RowKit

set_option maxRecDepth 100000 in
set_option maxHeartbeats 4000000 in
theorem rdecide_any {P : Nat → Prop} {w : World} {v : Value} {T : Tr} (hv : RefRd P w v T) (hw : T.WF) {l : Int} (hl : I64 l) :
    Calls Try.prog 25 #[v, .int .i64 l] w fun r w' => (∃ u, r = .returned (.tuple #[u, .bool (T.freeB l)]) ∧ RefRd (fun g => P g ∨ w.heap.size ≤ g) w' u (T.dec l)) ∧ Below w.heap.size w w' := by
  have h1 := hw.len
  have h2 := hw.vars
  have h3 := hw.len'
  have hdl : T.depth ≤ 65536 := by unfold Tr.depth; omega
  have Hw := hid hw
  have Hl := hid hl
  have Hv := hid hv
  obtain ⟨A, c, ts, rfl, hL, he⟩ := hv
  obtain ⟨X0, hX0, bX0, kX0, sX0⟩ := alloc_step w (.cells #[.int .i64 T.vars, .int .i64 T.depth, .slice A T.L.length c] 48)
  obtain ⟨X1, hX1, bX1, kX1, sX1⟩ := alloc_step X0 (.cells #[.int .i64 0, .int .i64 0, .slice none 0 0] 48)
  obtain ⟨b, hb⟩ : ∃ z, w.heap.size = z := ⟨_, rfl⟩
  rw [hb] at kX0 sX0
  rw [sX0] at kX1 sX1
  have HX0 := hid hX0
  have HX1 := hid hX1
  have B1 := hid (bX0.trans (bX1.mono bX0.size))
  have K0 := hid (keep_blk kX0 bX1)
  have K1 := hid kX1
  have Hv1 := hid (Hv.out.below B1.out)
  have He1 := hid (he.below B1.out)
  have HL := hid hL
  have Hone := hid (flat_one (ts := ts) fun p hp => by obtain ⟨R, n, c, h1, _⟩ := he.2.2 p hp; exact ⟨R, n, c, h1⟩)
  have Hb := hid hb
  clear hw hl he hL bX0 bX1 kX0 kX1 hX0 hX1
  go_enter Try.func25, Try.ntmps25
  go_wp2_with fail
  rw [HX0.out, HX1.out]
  refine (rfree_any Hv1.out Hw.out Hl.out).mono ?_
  rintro r w1 ⟨rfl, b1⟩
  have K0 := hid (keep_blk K0.out b1)
  have K1 := hid (keep_blk K1.out b1)
  have He1 := hid (He1.out.below b1)
  have B1 := hid (B1.out.trans (b1.mono B1.out.size))
  obtain ⟨c0, c1, c2⟩ := box3 K0.out
  obtain ⟨e0, e1, e2⟩ := box3 K1.out
  obtain ⟨f0, f1, f2⟩ := froz3 K1.out
  obtain ⟨g0, g1, g2⟩ := froz3 K0.out
  clear b1 HX0 HX1 sX0 sX1
  cases hf : T.freeB l with
  | false =>
    have ed : T.dec l = T := by simp [Tr.dec, hf]
    have Ed := hid ed
    clear ed
    go_wp2_with fail
    obtain ⟨u0, u1, u2, m9⟩ := set3 e0 e1 e2 (.int .i64 T.vars) (.int .i64 T.depth) (.slice A T.L.length c)
    refine bodyPost_ret (v := .tuple #[.agg #[.int .i64 T.vars, .int .i64 T.depth, .slice A T.L.length c], .bool false]) (by simp [results, Try.f25, go_sem, u0, u1, u2]) rfl ?_
    have hbw := below_mod B1.out B1.out.size m9 fun g hg => by rw [hg]; have := Hb.out; omega
    exact ⟨⟨_, by rw [hf], by rw [Ed.out]; exact (Hv.out.below (by first | exact hbw | exact Hb.out ▸ hbw)).mono fun _ _ h => .inl h⟩, by first | exact hbw | exact Hb.out ▸ hbw⟩
  | true =>
    have ed : T.dec l = T.decide l := by simp [Tr.dec, hf]
    have Ed := hid ed
    have hd1 : T.depth ≤ 65536 := hdl
    clear ed
    go_wp2_with fail
    obtain ⟨dq, hdq⟩ : ∃ z : Int, (T.depth : Int) + 1 = z := ⟨_, rfl⟩
    rw [hdq]
    obtain ⟨W1, hW1⟩ : ∃ W, w1.setCell ⟨b, 1, none⟩ (.int .i64 dq) = W := ⟨_, rfl⟩
    have hb1 : b < w1.heap.size := lt_of_block K0.out
    have kn : W1.heap[b]? = some (.cells #[.int .i64 T.vars, .int .i64 dq, .slice A T.L.length c] 48) := by rw [← hW1]; exact heap_setCell_same _ _ 1 _ _ _ K0.out
    have k1 : W1.heap[b + 1]? = some (.cells #[.int .i64 0, .int .i64 0, .slice none 0 0] 48) := by rw [← hW1, Below.heap_setCell _ _ _ _ (by simp)]; exact K1.out
    have bW : Below b w W1 := by rw [← hW1]; exact (Hb.out ▸ B1.out).setCell (Nat.le_refl _) _
    have hwb := Hb.out
    have He1 := hid ((Hv.out : RefRd P w _ T))
    have KN := hid kn
    have K1 := hid k1
    have BW := hid bW
    have Hdq := hid hdq
    obtain ⟨n0, n1, n2⟩ := box3 kn
    rw [hW1]
    clear c0 c1 c2 e0 e1 e2 f0 f1 f2 g0 g1 g2 hW1 kn k1 bW hdq K0 B1 He1
    refine wp_region_upto (S := fun w' => w'.cell? ⟨b, 1, none⟩ = some (.int .i64 dq) ∧ w'.cell? ⟨b, 2, none⟩ = some (.slice A T.L.length c)) 11 (by kernel_rfl) ⟨n1, n2⟩ (fun hHeld => ?_)
    obtain ⟨WD, hWD⟩ : ∃ Y, W1.drew = Y := ⟨_, rfl⟩
    have bD : Below W1.heap.size W1 W1.drew := Bl.drew (Below.refl _ _)
    have KN := hid (keep_blk KN.out bD)
    have K1 := hid (keep_blk K1.out bD)
    have BW := hid (BW.out.trans (bD.mono (by have := BW.out.size; omega)))
    rw [hWD] at hHeld KN K1 BW ⊢
    clear hWD bD n0 n1 n2
    obtain ⟨A', c', ts', hve, hL', he'⟩ := Hv.out
    obtain ⟨rfl, rfl⟩ : A = A' ∧ c = c' := by simpa using hve
    have He0 := hid (he'.below (hwb ▸ BW.out))
    have HL' := hid hL'
    have HeW := hid he'
    have Hone := hid (flat_one (ts := ts') fun p hp => by obtain ⟨R, n, c, h1, _⟩ := he'.2.2 p hp; exact ⟨R, n, c, h1⟩)
    have HB := hid (Below.refl WD.heap.size WD)
    have hbD : b + 1 < WD.heap.size := lt_of_block K1.out
    clear hve hL' he' HL
    refine tu 1 ?_
    refine tv [3,9,11] 2 ?_
    refine tu 4 ?_
    refine tu 5 ?_
    refine tv [7,8,9,11] 6 ?_
    refine tu 7 ?_
    refine ru [0,8] ?_
    refine cu (fun K hK => ?_) (cu (fun K hK => ?_) AllReadyU.nil)
    · go_simp
      obtain ⟨V0, hX, bX, kX, sX⟩ := alloc_step WD (.cells #[] 74)
      rw [hX]
      have HB := hid (HB.out.trans (bX.mono HB.out.size))
      have KN := hid (keep_blk KN.out bX)
      obtain ⟨z0, hz0⟩ : ∃ z, WD.heap.size = z := ⟨_, rfl⟩
      rw [hz0]
      clear hX bX kX sX hz0
      obtain ⟨n0, n1, n2⟩ := box3 KN.out
      refine hK.out _ _ ⟨n1, n2⟩ (fun hHeld => ?_)
      clear hK K n0 n1 n2
      refine ru [3,8] ?_
      refine cu (fun K hK => ?_) (cu (fun K hK => ?_) AllReadyU.nil)
      · refine step_append_ents (v := .slice (some ⟨z0, 0, none⟩) 0 0) (u := .slice A T.L.length c) rfl _ _ rfl rfl rfl (Own.none_ _ (fun _ => False) _ _ _) (He0.out.below HB.out).2.1 Hone.out (by omega) fun A3 c3 V3 ho hm hr => ?_
        rw [Nat.zero_add, List.nil_append] at ho
        rw [Nat.zero_add]
        rw [row_none] at hm
        have bm := hm.below
        have hs3 := HB.out.size
        have O3 := hid (ho.mono (G := fun g => WD.heap.size ≤ g) fun g _ _ h => h.elim (fun h => h.elim) fun h => by omega)
        have HB := hid (HB.out.trans (bm.mono HB.out.size))
        have KN := hid (keep_blk KN.out bm)
        clear ho hm hr bm hs3
        obtain ⟨n0, n1, n2⟩ := box3 KN.out
        refine hK.out _ _ ⟨n1, n2⟩ (fun hHeld => ?_)
        clear hK K n0 n1 n2
        refine r1 8 fun K hK => ?_
        go_simp
        obtain ⟨V8, hX, bX, kX, sX⟩ := alloc_step V3 (.cells #[.int .i64 l, .int .i64 dq, .slice none 0 0] 74)
        rw [hX]
        have HB := hid (HB.out.trans (bX.mono HB.out.size))
        have KN := hid (keep_blk KN.out bX)
        have O3 := hid (O3.out.below bX)
        obtain ⟨z8, hz8⟩ : ∃ z, V3.heap.size = z := ⟨_, rfl⟩
        rw [hz8] at kX ⊢
        have K8 := hid (rd_ent kX)
        clear hX bX kX sX hz8
        obtain ⟨n0, n1, n2⟩ := box3 KN.out
        refine hK.out _ _ ⟨n1, n2⟩ (fun hHeld => ?_)
        clear hK K n0 n1 n2
        refine r1 9 fun K hK => ?_
        refine step_append_ents (v := .slice A3 T.L.length c3) (u := .slice (some ⟨z8, 0, none⟩) 1 1) rfl _ _ rfl rfl rfl O3.out K8.out (by simp [Value.oneCell']) (by omega) fun A9 c9 V9 ho hm hr => ?_
        have hs9 := HB.out.size
        have O9 := hid (ho.mono (G := fun g => WD.heap.size ≤ g) fun g _ _ h => h.elim id fun h => by omega)
        have KN := hid ((hm.block b (lt_of_block KN.out) fun hg => by have := (O3.out.row hg).1; omega).trans KN.out)
        have HB := hid (below_mod HB.out hs9 hm fun g hg => (O3.out.row hg).1)
        clear ho hm hr hs9 O3 K8
        obtain ⟨n0, n1, n2⟩ := box3 KN.out
        refine hK.out _ _ ⟨n1, n2⟩ (fun hHeld => ?_)
        clear hK K n0 n1 n2
        refine tu 10 ?_
        refine l1 11 fun K hK => ?_
        obtain ⟨n0, n1, n2⟩ := box3 KN.out
        obtain ⟨f0, f1, f2⟩ := froz3 KN.out
        go_simp
        refine hK.out _ _ ?_
        clear hK K n0 n1 n2 f0 f1 f2
        refine wpAnyU_done (by kernel_rfl) ?_ _
        obtain ⟨WE, hWE⟩ : ∃ Y, V9.setCell ⟨b, 2, none⟩ (.slice A9 (T.L.length + 1) c9) = Y := ⟨_, rfl⟩
        have kE : WE.heap[b]? = some (.cells #[.int .i64 T.vars, .int .i64 dq, .slice A9 (T.L.length + 1) c9] 48) := by rw [← hWE]; exact heap_setCell_same _ _ 2 _ _ _ KN.out
        have hsB := BW.out.size
        have k1E : WE.heap[b + 1]? = some (.cells #[.int .i64 0, .int .i64 0, .slice none 0 0] 48) := by
          rw [← hWE, Below.heap_setCell _ _ _ _ (by simp)]
          exact (HB.out.block _ (lt_of_block K1.out)).trans K1.out
        have BE : Below b w WE := by
          rw [← hWE]
          exact (BW.out.trans (HB.out.mono (by omega))).setCell (Nat.le_refl _) _
        have OE := O9.out.keep (w' := WE) fun g _ _ hF => by
          rw [← hWE]
          exact Below.heap_setCell _ _ _ _ (by
            simp only at hF ⊢
            omega)
        rw [hWE]
        obtain ⟨c0, c1, c2⟩ := box3 kE
        obtain ⟨e0, e1, e2⟩ := box3 k1E
        obtain ⟨f0, f1, f2⟩ := froz3 k1E
        obtain ⟨g0, g1, g2⟩ := froz3 kE
        go_wp2_with fail
        obtain ⟨u0, u1, u2, m9⟩ := set3 e0 e1 e2 (.int .i64 T.vars) (.int .i64 dq) (.slice A9 (T.L.length + 1) c9)
        refine bodyPost_ret (v := .tuple #[.agg #[.int .i64 T.vars, .int .i64 dq, .slice A9 (T.L.length + 1) c9], .bool true]) (by simp [results, Try.f25, go_sem, u0, u1, u2]) rfl ?_
        have hbw := below_mod BE (Nat.le_trans (Nat.le_of_eq hwb.symm) BE.size) m9 fun g hg => by
          rw [hg]
          omega
        have OF := OE.mod m9 fun g _ _ hF hg => by
          have hF : WD.heap.size ≤ g := hF
          have hg : g = b + 1 := hg
          omega
        obtain ⟨WF, hWF⟩ : ∃ Y, ((WE.setCell ⟨b + 1, 0, none⟩ (.int .i64 T.vars)).setCell ⟨b + 1, 1, none⟩ (.int .i64 dq)).setCell ⟨b + 1, 2, none⟩ (.slice A9 (T.L.length + 1) c9) = Y := ⟨_, rfl⟩
        rw [hWF] at OF hbw ⊢
        have hwb' : Below w.heap.size w WF := hwb.symm ▸ hbw
        refine ⟨⟨_, by rw [hf], ?_⟩, hwb'⟩
        rw [Ed.out]
        have hq := Hdq.out
        have hq' : (((T.starts.length + 1 : Nat)) : Int) = dq := by
          rw [← hq]
          unfold Tr.depth
          omega
        refine ⟨A9, c9, ts' ++ [((⟨l, T.starts.length + 1, []⟩ : Ent), Value.slice none 0 0)], ?_, ?_, ?_, ?_, ?_⟩
        · simp [Tr.decide, Tr.depth, ← hq]
        · simp [Tr.decide, HL'.out]
        · simp [Tr.decide, HL'.out]
        · have hr := OF.rd.mono (G := fun g => P g ∨ w.heap.size ≤ g) fun g _ h => .inr (by
            have h : WD.heap.size ≤ g := h
            omega)
          have hfl : flat (ts' ++ [((⟨l, T.starts.length + 1, []⟩ : Ent), Value.slice none 0 0)]) = flat ts' ++ [Value.int .i64 l, Value.int .i64 dq, Value.slice none 0 0] := by
            rw [flat_append, ← hq']
            rfl
          rw [hfl]
          simpa [Tr.decide] using hr
        · intro p hp
          rcases List.mem_append.1 hp with hp | hp
          · exact ((HeW.out.2.2 p hp).below hwb').mono fun _ _ h => .inl h
          · obtain rfl := List.mem_singleton.1 hp
            exact ⟨none, 0, 0, rfl, (Own.none_ _ _ 3 1 none).rd⟩
      · go_simp
        obtain ⟨V8, hX, bX, kX, sX⟩ := alloc_step V0 (.cells #[.int .i64 l, .int .i64 dq, .slice none 0 0] 74)
        rw [hX]
        have HB := hid (HB.out.trans (bX.mono HB.out.size))
        have KN := hid (keep_blk KN.out bX)
        obtain ⟨z8, hz8⟩ : ∃ z, V0.heap.size = z := ⟨_, rfl⟩
        rw [hz8] at kX ⊢
        have K8 := hid (rd_ent kX)
        clear hX bX kX sX hz8
        obtain ⟨n0, n1, n2⟩ := box3 KN.out
        refine hK.out _ _ ⟨n1, n2⟩ (fun hHeld => ?_)
        clear hK K n0 n1 n2
        refine r1 3 fun K hK => ?_
        refine step_append_ents (v := .slice (some ⟨z0, 0, none⟩) 0 0) (u := .slice A T.L.length c) rfl _ _ rfl rfl rfl (Own.none_ _ (fun _ => False) _ _ _) (He0.out.below HB.out).2.1 Hone.out (by omega) fun A3 c3 V3 ho hm hr => ?_
        rw [Nat.zero_add, List.nil_append] at ho
        rw [Nat.zero_add]
        rw [row_none] at hm
        have bm := hm.below
        have hs3 := HB.out.size
        have O3 := hid (ho.mono (G := fun g => WD.heap.size ≤ g) fun g _ _ h => h.elim (fun h => h.elim) fun h => by omega)
        have HB := hid (HB.out.trans (bm.mono HB.out.size))
        have KN := hid (keep_blk KN.out bm)
        have K8 := hid (K8.out.below bm)
        clear ho hm hr bm hs3
        obtain ⟨n0, n1, n2⟩ := box3 KN.out
        refine hK.out _ _ ⟨n1, n2⟩ (fun hHeld => ?_)
        clear hK K n0 n1 n2
        refine r1 9 fun K hK => ?_
        refine step_append_ents (v := .slice A3 T.L.length c3) (u := .slice (some ⟨z8, 0, none⟩) 1 1) rfl _ _ rfl rfl rfl O3.out K8.out (by simp [Value.oneCell']) (by omega) fun A9 c9 V9 ho hm hr => ?_
        have hs9 := HB.out.size
        have O9 := hid (ho.mono (G := fun g => WD.heap.size ≤ g) fun g _ _ h => h.elim id fun h => by omega)
        have KN := hid ((hm.block b (lt_of_block KN.out) fun hg => by have := (O3.out.row hg).1; omega).trans KN.out)
        have HB := hid (below_mod HB.out hs9 hm fun g hg => (O3.out.row hg).1)
        clear ho hm hr hs9 O3 K8
        obtain ⟨n0, n1, n2⟩ := box3 KN.out
        refine hK.out _ _ ⟨n1, n2⟩ (fun hHeld => ?_)
        clear hK K n0 n1 n2
        refine tu 10 ?_
        refine l1 11 fun K hK => ?_
        obtain ⟨n0, n1, n2⟩ := box3 KN.out
        obtain ⟨f0, f1, f2⟩ := froz3 KN.out
        go_simp
        refine hK.out _ _ ?_
        clear hK K n0 n1 n2 f0 f1 f2
        refine wpAnyU_done (by kernel_rfl) ?_ _
        obtain ⟨WE, hWE⟩ : ∃ Y, V9.setCell ⟨b, 2, none⟩ (.slice A9 (T.L.length + 1) c9) = Y := ⟨_, rfl⟩
        have kE : WE.heap[b]? = some (.cells #[.int .i64 T.vars, .int .i64 dq, .slice A9 (T.L.length + 1) c9] 48) := by rw [← hWE]; exact heap_setCell_same _ _ 2 _ _ _ KN.out
        have hsB := BW.out.size
        have k1E : WE.heap[b + 1]? = some (.cells #[.int .i64 0, .int .i64 0, .slice none 0 0] 48) := by
          rw [← hWE, Below.heap_setCell _ _ _ _ (by simp)]
          exact (HB.out.block _ (lt_of_block K1.out)).trans K1.out
        have BE : Below b w WE := by
          rw [← hWE]
          exact (BW.out.trans (HB.out.mono (by omega))).setCell (Nat.le_refl _) _
        have OE := O9.out.keep (w' := WE) fun g _ _ hF => by
          rw [← hWE]
          exact Below.heap_setCell _ _ _ _ (by
            simp only at hF ⊢
            omega)
        rw [hWE]
        obtain ⟨c0, c1, c2⟩ := box3 kE
        obtain ⟨e0, e1, e2⟩ := box3 k1E
        obtain ⟨f0, f1, f2⟩ := froz3 k1E
        obtain ⟨g0, g1, g2⟩ := froz3 kE
        go_wp2_with fail
        obtain ⟨u0, u1, u2, m9⟩ := set3 e0 e1 e2 (.int .i64 T.vars) (.int .i64 dq) (.slice A9 (T.L.length + 1) c9)
        refine bodyPost_ret (v := .tuple #[.agg #[.int .i64 T.vars, .int .i64 dq, .slice A9 (T.L.length + 1) c9], .bool true]) (by simp [results, Try.f25, go_sem, u0, u1, u2]) rfl ?_
        have hbw := below_mod BE (Nat.le_trans (Nat.le_of_eq hwb.symm) BE.size) m9 fun g hg => by
          rw [hg]
          omega
        have OF := OE.mod m9 fun g _ _ hF hg => by
          have hF : WD.heap.size ≤ g := hF
          have hg : g = b + 1 := hg
          omega
        obtain ⟨WF, hWF⟩ : ∃ Y, ((WE.setCell ⟨b + 1, 0, none⟩ (.int .i64 T.vars)).setCell ⟨b + 1, 1, none⟩ (.int .i64 dq)).setCell ⟨b + 1, 2, none⟩ (.slice A9 (T.L.length + 1) c9) = Y := ⟨_, rfl⟩
        rw [hWF] at OF hbw ⊢
        have hwb' : Below w.heap.size w WF := hwb.symm ▸ hbw
        refine ⟨⟨_, by rw [hf], ?_⟩, hwb'⟩
        rw [Ed.out]
        have hq := Hdq.out
        have hq' : (((T.starts.length + 1 : Nat)) : Int) = dq := by
          rw [← hq]
          unfold Tr.depth
          omega
        refine ⟨A9, c9, ts' ++ [((⟨l, T.starts.length + 1, []⟩ : Ent), Value.slice none 0 0)], ?_, ?_, ?_, ?_, ?_⟩
        · simp [Tr.decide, Tr.depth, ← hq]
        · simp [Tr.decide, HL'.out]
        · simp [Tr.decide, HL'.out]
        · have hr := OF.rd.mono (G := fun g => P g ∨ w.heap.size ≤ g) fun g _ h => .inr (by
            have h : WD.heap.size ≤ g := h
            omega)
          have hfl : flat (ts' ++ [((⟨l, T.starts.length + 1, []⟩ : Ent), Value.slice none 0 0)]) = flat ts' ++ [Value.int .i64 l, Value.int .i64 dq, Value.slice none 0 0] := by
            rw [flat_append, ← hq']
            rfl
          rw [hfl]
          simpa [Tr.decide] using hr
        · intro p hp
          rcases List.mem_append.1 hp with hp | hp
          · exact ((HeW.out.2.2 p hp).below hwb').mono fun _ _ h => .inl h
          · obtain rfl := List.mem_singleton.1 hp
            exact ⟨none, 0, 0, rfl, (Own.none_ _ _ 3 1 none).rd⟩
    · go_simp
      obtain ⟨V8, hX, bX, kX, sX⟩ := alloc_step WD (.cells #[.int .i64 l, .int .i64 dq, .slice none 0 0] 74)
      rw [hX]
      have HB := hid (HB.out.trans (bX.mono HB.out.size))
      have KN := hid (keep_blk KN.out bX)
      obtain ⟨z8, hz8⟩ : ∃ z, WD.heap.size = z := ⟨_, rfl⟩
      rw [hz8] at kX ⊢
      have K8 := hid (rd_ent kX)
      clear hX bX kX sX hz8
      obtain ⟨n0, n1, n2⟩ := box3 KN.out
      refine hK.out _ _ ⟨n1, n2⟩ (fun hHeld => ?_)
      clear hK K n0 n1 n2
      refine r1 0 fun K hK => ?_
      go_simp
      obtain ⟨V0, hX, bX, kX, sX⟩ := alloc_step V8 (.cells #[] 74)
      rw [hX]
      have HB := hid (HB.out.trans (bX.mono HB.out.size))
      have KN := hid (keep_blk KN.out bX)
      have K8 := hid (K8.out.below bX)
      obtain ⟨z0, hz0⟩ : ∃ z, V8.heap.size = z := ⟨_, rfl⟩
      rw [hz0]
      clear hX bX kX sX hz0
      obtain ⟨n0, n1, n2⟩ := box3 KN.out
      refine hK.out _ _ ⟨n1, n2⟩ (fun hHeld => ?_)
      clear hK K n0 n1 n2
      refine r1 3 fun K hK => ?_
      refine step_append_ents (v := .slice (some ⟨z0, 0, none⟩) 0 0) (u := .slice A T.L.length c) rfl _ _ rfl rfl rfl (Own.none_ _ (fun _ => False) _ _ _) (He0.out.below HB.out).2.1 Hone.out (by omega) fun A3 c3 V3 ho hm hr => ?_
      rw [Nat.zero_add, List.nil_append] at ho
      rw [Nat.zero_add]
      rw [row_none] at hm
      have bm := hm.below
      have hs3 := HB.out.size
      have O3 := hid (ho.mono (G := fun g => WD.heap.size ≤ g) fun g _ _ h => h.elim (fun h => h.elim) fun h => by omega)
      have HB := hid (HB.out.trans (bm.mono HB.out.size))
      have KN := hid (keep_blk KN.out bm)
      have K8 := hid (K8.out.below bm)
      clear ho hm hr bm hs3
      obtain ⟨n0, n1, n2⟩ := box3 KN.out
      refine hK.out _ _ ⟨n1, n2⟩ (fun hHeld => ?_)
      clear hK K n0 n1 n2
      refine r1 9 fun K hK => ?_
      refine step_append_ents (v := .slice A3 T.L.length c3) (u := .slice (some ⟨z8, 0, none⟩) 1 1) rfl _ _ rfl rfl rfl O3.out K8.out (by simp [Value.oneCell']) (by omega) fun A9 c9 V9 ho hm hr => ?_
      have hs9 := HB.out.size
      have O9 := hid (ho.mono (G := fun g => WD.heap.size ≤ g) fun g _ _ h => h.elim id fun h => by omega)
      have KN := hid ((hm.block b (lt_of_block KN.out) fun hg => by have := (O3.out.row hg).1; omega).trans KN.out)
      have HB := hid (below_mod HB.out hs9 hm fun g hg => (O3.out.row hg).1)
      clear ho hm hr hs9 O3 K8
      obtain ⟨n0, n1, n2⟩ := box3 KN.out
      refine hK.out _ _ ⟨n1, n2⟩ (fun hHeld => ?_)
      clear hK K n0 n1 n2
      refine tu 10 ?_
      refine l1 11 fun K hK => ?_
      obtain ⟨n0, n1, n2⟩ := box3 KN.out
      obtain ⟨f0, f1, f2⟩ := froz3 KN.out
      go_simp
      refine hK.out _ _ ?_
      clear hK K n0 n1 n2 f0 f1 f2
      refine wpAnyU_done (by kernel_rfl) ?_ _
      obtain ⟨WE, hWE⟩ : ∃ Y, V9.setCell ⟨b, 2, none⟩ (.slice A9 (T.L.length + 1) c9) = Y := ⟨_, rfl⟩
      have kE : WE.heap[b]? = some (.cells #[.int .i64 T.vars, .int .i64 dq, .slice A9 (T.L.length + 1) c9] 48) := by rw [← hWE]; exact heap_setCell_same _ _ 2 _ _ _ KN.out
      have hsB := BW.out.size
      have k1E : WE.heap[b + 1]? = some (.cells #[.int .i64 0, .int .i64 0, .slice none 0 0] 48) := by
        rw [← hWE, Below.heap_setCell _ _ _ _ (by simp)]
        exact (HB.out.block _ (lt_of_block K1.out)).trans K1.out
      have BE : Below b w WE := by
        rw [← hWE]
        exact (BW.out.trans (HB.out.mono (by omega))).setCell (Nat.le_refl _) _
      have OE := O9.out.keep (w' := WE) fun g _ _ hF => by
        rw [← hWE]
        exact Below.heap_setCell _ _ _ _ (by
          simp only at hF ⊢
          omega)
      rw [hWE]
      obtain ⟨c0, c1, c2⟩ := box3 kE
      obtain ⟨e0, e1, e2⟩ := box3 k1E
      obtain ⟨f0, f1, f2⟩ := froz3 k1E
      obtain ⟨g0, g1, g2⟩ := froz3 kE
      go_wp2_with fail
      obtain ⟨u0, u1, u2, m9⟩ := set3 e0 e1 e2 (.int .i64 T.vars) (.int .i64 dq) (.slice A9 (T.L.length + 1) c9)
      refine bodyPost_ret (v := .tuple #[.agg #[.int .i64 T.vars, .int .i64 dq, .slice A9 (T.L.length + 1) c9], .bool true]) (by simp [results, Try.f25, go_sem, u0, u1, u2]) rfl ?_
      have hbw := below_mod BE (Nat.le_trans (Nat.le_of_eq hwb.symm) BE.size) m9 fun g hg => by
        rw [hg]
        omega
      have OF := OE.mod m9 fun g _ _ hF hg => by
        have hF : WD.heap.size ≤ g := hF
        have hg : g = b + 1 := hg
        omega
      obtain ⟨WF, hWF⟩ : ∃ Y, ((WE.setCell ⟨b + 1, 0, none⟩ (.int .i64 T.vars)).setCell ⟨b + 1, 1, none⟩ (.int .i64 dq)).setCell ⟨b + 1, 2, none⟩ (.slice A9 (T.L.length + 1) c9) = Y := ⟨_, rfl⟩
      rw [hWF] at OF hbw ⊢
      have hwb' : Below w.heap.size w WF := hwb.symm ▸ hbw
      refine ⟨⟨_, by rw [hf], ?_⟩, hwb'⟩
      rw [Ed.out]
      have hq := Hdq.out
      have hq' : (((T.starts.length + 1 : Nat)) : Int) = dq := by
        rw [← hq]
        unfold Tr.depth
        omega
      refine ⟨A9, c9, ts' ++ [((⟨l, T.starts.length + 1, []⟩ : Ent), Value.slice none 0 0)], ?_, ?_, ?_, ?_, ?_⟩
      · simp [Tr.decide, Tr.depth, ← hq]
      · simp [Tr.decide, HL'.out]
      · simp [Tr.decide, HL'.out]
      · have hr := OF.rd.mono (G := fun g => P g ∨ w.heap.size ≤ g) fun g _ h => .inr (by
          have h : WD.heap.size ≤ g := h
          omega)
        have hfl : flat (ts' ++ [((⟨l, T.starts.length + 1, []⟩ : Ent), Value.slice none 0 0)]) = flat ts' ++ [Value.int .i64 l, Value.int .i64 dq, Value.slice none 0 0] := by
          rw [flat_append, ← hq']
          rfl
        rw [hfl]
        simpa [Tr.decide] using hr
      · intro p hp
        rcases List.mem_append.1 hp with hp | hp
        · exact ((HeW.out.2.2 p hp).below hwb').mono fun _ _ h => .inl h
        · obtain rfl := List.mem_singleton.1 hp
          exact ⟨none, 0, 0, rfl, (Own.none_ _ _ 3 1 none).rd⟩
end Go.Proofs.Ytbghfdhijlpogaa
