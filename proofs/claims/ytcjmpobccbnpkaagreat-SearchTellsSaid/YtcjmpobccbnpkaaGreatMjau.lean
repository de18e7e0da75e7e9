/-
 Chapter 32: several texts in one (PbJ).
-/
import Derived.Test.YtcjmpobccbnpkaaGreatMjat
import Derived.BigRegion
import Derived.Test.YtcjmpobccbnpkaaGreatTkU
namespace Go.Proofs.YtcjmpobccbnpkaaGreat
section
open Go.RowKit Go.Maps
theorem norm_ends {W : World} {R : Ending → World → Prop} {b : Nat} {x y : Value} {z e : Int} {a : Act} (c0 : W.cell? ⟨b, 0, none⟩ = some x) (c1 : W.cell? ⟨b, 1, none⟩ = some y) (c2 : W.cell? ⟨b, 2, none⟩ = some (.int .i64 z))
  (h6 : a.tmps[6]? = some (.pointer (some ⟨b, 0, none⟩))) (h7 : a.tmps[7]? = some (.int .i64 e)) (hd : a.defers = []) (hR : R (.returned (.tuple #[.agg #[x, y, .int .i64 z], .int .i64 e])) W) : bodyPost Tryz.prog Tryz.f49 R .ret a W := by
 refine bodyPost_ret (v := .tuple #[.agg #[x, y, .int .i64 z], .int .i64 e]) ?_ hd hR
 simp [results, Tryz.f49, go_sem, c0, c1, c2, h6, h7]
theorem set3 {W : World} {b : Nat} {x y z : Value} (t0 : W.cell? ⟨b, 0, none⟩ = some x) (t1 : W.cell? ⟨b, 1, none⟩ = some y) (t2 : W.cell? ⟨b, 2, none⟩ = some z) (x' y' z' : Value) :
  (((W.setCell ⟨b, 0, none⟩ x').setCell ⟨b, 1, none⟩ y').setCell ⟨b, 2, none⟩ z').cell? ⟨b, 0, none⟩ = some x' ∧ (((W.setCell ⟨b, 0, none⟩ x').setCell ⟨b, 1, none⟩ y').setCell ⟨b, 2, none⟩ z').cell? ⟨b, 1, none⟩ = some y' ∧
   (((W.setCell ⟨b, 0, none⟩ x').setCell ⟨b, 1, none⟩ y').setCell ⟨b, 2, none⟩ z').cell? ⟨b, 2, none⟩ = some z' ∧ Mod (fun g => g = b) W (((W.setCell ⟨b, 0, none⟩ x').setCell ⟨b, 1, none⟩ y').setCell ⟨b, 2, none⟩ z') := by
 have a0 : (W.setCell ⟨b, 0, none⟩ x').cell? ⟨b, 0, none⟩ = some x' := World.cell?_setCell_same' _ _ _ (by rw [t0]; rfl)
 have a1 : (W.setCell ⟨b, 0, none⟩ x').cell? ⟨b, 1, none⟩ = some y := (World.cell?_setCell_other _ _ _ _ (by simp)).trans t1
 have a2 : (W.setCell ⟨b, 0, none⟩ x').cell? ⟨b, 2, none⟩ = some z := (World.cell?_setCell_other _ _ _ _ (by simp)).trans t2
 have c0 := (World.cell?_setCell_other (W.setCell ⟨b, 0, none⟩ x') ⟨b, 1, none⟩ ⟨b, 0, none⟩ y' (by simp)).trans a0
 have c1 : ((W.setCell ⟨b, 0, none⟩ x').setCell ⟨b, 1, none⟩ y').cell? ⟨b, 1, none⟩ = some y' := World.cell?_setCell_same' _ _ _ (by rw [a1]; rfl)
 have c2 := (World.cell?_setCell_other (W.setCell ⟨b, 0, none⟩ x') ⟨b, 1, none⟩ ⟨b, 2, none⟩ y' (by simp)).trans a2
 exact ⟨(World.cell?_setCell_other _ _ _ _ (by simp)).trans c0, (World.cell?_setCell_other _ _ _ _ (by simp)).trans c1, World.cell?_setCell_same' _ _ _ (by rw [c2]; rfl),
  (((Mod.refl (fun g => g = b) W).setCell (p := ⟨b, 0, none⟩) (.inl rfl) _).setCell (p := ⟨b, 1, none⟩) (.inl rfl) _).setCell (p := ⟨b, 2, none⟩) (.inl rfl) _⟩
theorem take_map_step {vs : List Int} {i : Nat} {v : Int} (f : Int → Int) (hi : i < vs.length) (hv : nth vs i = v) : (vs.map f).take (i + 1) = (vs.map f).take i ++ [f v] := by
 have h2 : vs[i] = v := by rw [← hv]; simp [nth, hi]
 rw [List.take_succ_eq_append_getElem (by simpa using hi), List.getElem_map, h2]
set_option maxRecDepth 100000 in
set_option maxHeartbeats 4000000 in
theorem norm_any {w : World} {F G : Nat → Prop} {A B : Option Addr} {n cA m cB : Nat} {ls ks : List Int} {b : Int} (hl : Rd w F 1 (.slice A n cA) n (ints ls)) (hk : Rd w G 1 (.slice B m cB) m (ints ks)) (hi : ∀ x ∈ ls, I64 x) (hik : ∀ x ∈ ks, I64 x) (hb : I64 b) :
  Calls Tryz.prog 49 #[.slice A n cA, .slice B m cB, .int .i64 b] w fun r w' => (∃ pv, r = .returned (.tuple #[pv, .int .i64 (normed ls ks b).2]) ∧ PbRd w' (fun g => w.heap.size ≤ g) pv (normed ls ks b).1) ∧ Below w.heap.size w w' := by
 have hll : ls.length = n := by have := hl.1; simpa [ints_length] using this
 have hkl : ks.length = m := by have := hk.1; simpa [ints_length] using this
 have hncap : (n : Int) ≤ (cA : Int) := by
  obtain ⟨_, A2, c2, hv2, h2, _⟩ := hl
  injection hv2 with _ _ h3
  omega
 have hmcap : (m : Int) ≤ (cB : Int) := by
  obtain ⟨_, A2, c2, hv2, h2, _⟩ := hk
  injection hv2 with _ _ h3
  omega
 unfold I64 at hb
 have Hl := hid (hl.mono (G := fun g => g < w.heap.size) fun g hg _ => hg)
 have Hk := hid (hk.mono (G := fun g => g < w.heap.size) fun g hg _ => hg)
 have Hll := hid hll
 have Hkl := hid hkl
 have Hi := hid hi
 have Hik := hid hik
 clear hl hk hll hkl hi hik
 have hok0 : ∀ W : World, Below w.heap.size w W → ∀ e : Int, Go.Proofs.YtcjmpobccbnpkaaGreat.normed ls ks b = (⟨[], [], 0⟩, e) → W.cell? ⟨w.heap.size, 0, none⟩ = some (.slice none 0 0) → W.cell? ⟨w.heap.size, 1, none⟩ = some (.slice none 0 0) → W.cell? ⟨w.heap.size, 2, none⟩ = some (.int .i64 0) → ∀ a : Act, a.tmps[6]? = some (.pointer (some ⟨w.heap.size, 0, none⟩)) → a.tmps[7]? = some (.int .i64 e) → a.defers = [] →
   bodyPost Tryz.prog Tryz.f49 (fun r w' => (∃ pv, r = .returned (.tuple #[pv, .int .i64 (normed ls ks b).2]) ∧ PbRd w' (fun g => w.heap.size ≤ g) pv (normed ls ks b).1) ∧ Below w.heap.size w w') .ret a W := by
  intro W hB e he c0 c1 c2 a h6 h7 hd
  refine norm_ends c0 c1 c2 h6 h7 hd ⟨⟨_, by rw [he], ?_⟩, hB⟩
  rw [he]
  exact ⟨⟨none, 0, 0, none, 0, 0, rfl, ⟨rfl, none, 0, rfl, Nat.le_refl _, Nat.zero_le _, fun h => absurd h (by omega)⟩, ⟨rfl, none, 0, rfl, Nat.le_refl _, Nat.zero_le _, fun h => absurd h (by omega)⟩⟩, by show I64 0; unfold I64; omega⟩
 have Hok0 := hid hok0
 have hbad : normOk ls ks b = false → ∀ a : Act, a.tmps[6]? = some (.pointer (some ⟨w.heap.size, 0, none⟩)) → a.tmps[7]? = some (.int .i64 2) → a.defers = [] →
   bodyPost Tryz.prog Tryz.f49 (fun r w' => (∃ pv, r = .returned (.tuple #[pv, .int .i64 (normed ls ks b).2]) ∧ PbRd w' (fun g => w.heap.size ≤ g) pv (normed ls ks b).1) ∧ Below w.heap.size w w') .ret a (w.alloc (.cells #[.slice none 0 0, .slice none 0 0, .int .i64 0] 41)) := fun hb a h6 h7 hd =>
  hok0 _ ((Below.refl _ _).alloc (Nat.le_refl _) _) 2 (by unfold Go.Proofs.YtcjmpobccbnpkaaGreat.normed; rw [if_pos hb]) (by rw [cell_of_row _ _ _ _ _ _ (heap_alloc_new _ _)]; rfl) (by rw [cell_of_row _ _ _ _ _ _ (heap_alloc_new _ _)]; rfl) (by rw [cell_of_row _ _ _ _ _ _ (heap_alloc_new _ _)]; rfl) a h6 h7 hd
 have Hbad := hid hbad
 clear hok0 hbad
 by_cases g1 : n = m
 ·subst g1
  by_cases g2 : n ≤ 65536
  ·by_cases g3 : -1099511627776 ≤ b
   ·by_cases g4 : b ≤ 1099511627776
    ·have q1 : ((65536 : Int) < (n : Int)) = False := by simp; omega
     have q1' : (65536 < n) = False := by simp; omega
     have q2 : decide (65536 < n) = false := by simp; omega
     have q3 : (b < -1099511627776) = False := by simp; omega
     have q4 : decide (b < -1099511627776) = false := by simp; omega
     have q5 : (1099511627776 < b) = False := by simp; omega
     have q6 : decide (1099511627776 < b) = false := by simp; omega
     have hmm := @run_makeMap Tryz.prog
     go_enter Tryz.func49, Tryz.ntmps49
     go_wp2_with fail
     obtain ⟨W2, hW2⟩ : ∃ W2, (w.alloc (.cells #[.slice none 0 0, .slice none 0 0, .int .i64 0] 41)).alloc (.map #[] 0) = W2 := ⟨_, rfl⟩
     have b2 : Below w.heap.size w W2 := by rw [← hW2]; exact ((Below.refl _ _).alloc (Nat.le_refl _) _).alloc (by rw [World.size_alloc]; omega) _
     have s2 : W2.heap.size = w.heap.size + 2 := by rw [← hW2, World.size_alloc, World.size_alloc]
     have hT : W2.heap[w.heap.size]? = some (.cells #[.slice none 0 0, .slice none 0 0, .int .i64 0] 41) := by rw [← hW2]; exact (World.heap_alloc_ne _ _ _ (by rw [World.size_alloc]; omega)).trans (heap_alloc_new _ _)
     have hmade : CntIs W2 (w.heap.size + 1) 0 (vsum ls ks 0) := by
      have := CntIs.made (w.alloc (.cells #[.slice none 0 0, .slice none 0 0, .int .i64 0] 41)) (vsum ls ks 0) (fun v _ => by simp [vsum])
      rw [World.size_alloc, hW2] at this
      exact this
     rw [hW2]
     have Hl2 := hid (Hl.o.below b2)
     have Hk2 := hid (Hk.o.below b2)
     have B2 := hid b2
     have HT := hid hT
     have Hmade := hid hmade
     clear hW2 b2 hT hmade Hl Hk
     go_loopw [2, 42] (fun bv iv W => ∃ j : Nat, j ≤ n ∧ iv = .int .i64 j ∧ bv = .int .i64 (b - nsum ls ks j) ∧ Hid (∀ i, i < j → inB ls ks i = true) ∧ Hid (CntIs W (w.heap.size + 1) j (vsum ls ks j)) ∧ Hid (Mod (fun g => g = w.heap.size + 1) W2 W)) (fun _ iv _ => n - (intOf iv).toNat)
     case atStart => exact ⟨0, by omega, rfl, by simp [nsum], fun i hi => by omega, Hmade, Mod.refl _ _⟩
     case round =>
      obtain ⟨j, hj, rfl, rfl, Hin, Hc, M1⟩ := hrel
      have hsz := M1.o.size
      have hTr := (M1.o.block w.heap.size (by omega) (by omega)).trans HT.o
      have t0 : wr.cell? ⟨w.heap.size, 0, none⟩ = some (.slice none 0 0) := by rw [cell_of_row _ _ _ _ _ _ hTr]; rfl
      have t1 : wr.cell? ⟨w.heap.size, 1, none⟩ = some (.slice none 0 0) := by rw [cell_of_row _ _ _ _ _ _ hTr]; rfl
      have t2 : wr.cell? ⟨w.heap.size, 2, none⟩ = some (.int .i64 0) := by rw [cell_of_row _ _ _ _ _ _ hTr]; rfl
      have f0 : wr.frozen? ⟨w.heap.size, 0, none⟩ = false := by simp [World.frozen?, hTr]
      have f1 : wr.frozen? ⟨w.heap.size, 1, none⟩ = false := by simp [World.frozen?, hTr]
      have f2 : wr.frozen? ⟨w.heap.size, 2, none⟩ = false := by simp [World.frozen?, hTr]
      have HTr := hid hTr
      clear hTr
      by_cases hlt : j < n
      ·have x1 : (j : Int) < (n : Int) := by omega
       obtain ⟨g, o, rfl, _, hg, e0⟩ := (Hl2.o.mod M1.o fun g _ hf hg => by omega).cell.2 j hlt
       obtain ⟨g', o', rfl, _, hg', e2⟩ := (Hk2.o.mod M1.o fun g _ hf hg => by omega).cell.2 j hlt
       obtain ⟨li, hli⟩ : ∃ l, nth ls j = l := ⟨_, rfl⟩
       obtain ⟨ki, hki⟩ : ∃ l, nth ks j = l := ⟨_, rfl⟩
       rw [hli] at e0
       rw [hki] at e2
       have hkI : I64 ki := Hik.o ki (by rw [← hki]; exact nth_mem (by have := Hkl.o; omega))
       unfold I64 at hkI
       obtain ⟨nb1, nb2⟩ := nsum_bounds (ls := ls) (ks := ks) j Hin.o
       obtain ⟨ns, hns⟩ : ∃ x, nsum ls ks j = x := ⟨_, rfl⟩
       have hnx := nsum_succ ls ks j
       rw [hns, hli, hki] at hnx
       rw [hns] at nb1 nb2 ⊢
       have hin : inB ls ks j = (litB li && decide (-16777216 ≤ ki) && decide (ki ≤ 16777216)) := by unfold inB; rw [hli, hki]
       have Hin2 := hid hin
       have Hnx := hid hnx
       have Hli := hid hli
       have Hki := hid hki
       clear hli hki hns hnx hin
       go_wp2_with fail
       refine literal_any.mono ?_
       rintro r w3 ⟨rfl, rfl⟩
       by_cases h1 : litB li = true
       ·obtain ⟨l1, l2, l3⟩ : li ≠ 0 ∧ -65536 ≤ li ∧ li ≤ 65536 := by unfold litB at h1; simpa using h1
        rw [h1]
        by_cases h2 : -16777216 ≤ ki
        ·have r1 : (ki < -16777216) = False := by simp; omega
         have r2 : decide (ki < -16777216) = false := by simp; omega
         by_cases h3 : ki ≤ 16777216
         ·have r3 : (16777216 < ki) = False := by simp; omega
          have r4 : decide (16777216 < ki) = false := by simp; omega
          have hgood : inB ls ks j = true := by rw [Hin2.o, h1]; simp [h2, h3]
          have hin' : Hid (∀ i, i < j + 1 → inB ls ks i = true) := hid fun i hi => by
           by_cases e : i = j
           ·rw [e]; exact hgood
           ·exact Hin.o i (by omega)
          obtain ⟨D, hown, hD⟩ := Hc.o
          have Hown := hid hown
          have HD := hid hD
          clear hown hD
          by_cases h4 : li < 0
          ·have hwn : IntKind.i64.wrap (-li) = -li := iw' (by omega) (by omega)
           have hkey : keyOf Tryz.prog 3 (.int .i64 (-li)) = some (.int .i64 (-li)) := key_num (by unfold I64; omega)
           obtain ⟨vb1, vb2⟩ := vsum_bounds (ls := ls) (ks := ks) (-li) j Hin.o
           obtain ⟨x, hx⟩ : ∃ x, vsum ls ks j (-li) = x := ⟨_, rfl⟩
           rw [hx] at vb1 vb2
           have hw1 : IntKind.i64.wrap (x - ki) = x - ki := iw' (by omega) (by omega)
           have hw2 : IntKind.i64.wrap (b - ns - ki) = b - ns - ki := iw' (by omega) (by omega)
           have hpe : plainElem (H := Unit) Tryz.prog 3 (.int .i64 (x - ki)) = some (.lit (.int .i64 (x - ki)), []) := plainElem_int Tryz.underlying3 (i64_wf (by unfold I64; omega))
           have Hx := hid hx
           clear hx
           go_wp2_with (first
            | (at_lookup; refine wpList_lookup_own_int _ rfl _ _ 28 rfl 3 3 .i64 keyed_int Tryz.underlying28 Tryz.underlying3 (zero_num _) (w.heap.size + 1) _ D rfl Hown.o _ _ rfl hkey ?_; intro cc hat hwc; obtain rfl : cc = x := by (have h9 := HD.o.val (-li) (by omega) (by omega); rw [hat, Hx.o] at h9; injection h9 with h9; injection h9))
            | (at_mapUpdate; refine wpList_mapUpdate_own _ rfl _ _ _ 28 rfl 3 3 keyed_int Tryz.underlying28 (plainElem (H := Unit) Tryz.prog 3) (w.heap.size + 1) _ D rfl Hown.o (by unfold maxLen; omega) _ _ _ rfl rfl hkey _ [] hpe ?_; intro w3 hown3 hgrow3))
           go_roundw
           case rel =>
            refine ⟨j + 1, by omega, by go_num, by rw [Hnx.o, if_pos h4, show b - (ns + ki) = b - ns - ki by omega], hin', CntIs.put Hown.o HD.o (v := (-li)) (by omega) (by omega) hown3 ?_ fun u hu hne => ?_, M1.o.trans ((Mod.of_grown hgrow3).mono fun k _ hk => by injection hk with hk; exact .inl hk.symm)⟩
            ·rw [vsum_succ, Hx.o, Hli.o, Hki.o]
             unfold term
             rw [if_neg (by omega), if_pos (by omega)]; omega
            ·rw [vsum_succ, Hli.o, Hki.o]
             unfold term
             rw [if_neg (by omega), if_neg (by omega), Int.add_zero]
           case measure => simp [intOf]; omega
          ·have h4' : (li < 0) = False := by simp; omega
           have hkey : keyOf Tryz.prog 3 (.int .i64 li) = some (.int .i64 li) := key_num (by unfold I64; omega)
           obtain ⟨vb1, vb2⟩ := vsum_bounds (ls := ls) (ks := ks) li j Hin.o
           obtain ⟨x, hx⟩ : ∃ x, vsum ls ks j li = x := ⟨_, rfl⟩
           rw [hx] at vb1 vb2
           have hw1 : IntKind.i64.wrap (x + ki) = x + ki := iw' (by omega) (by omega)
           have hpe : plainElem (H := Unit) Tryz.prog 3 (.int .i64 (x + ki)) = some (.lit (.int .i64 (x + ki)), []) := plainElem_int Tryz.underlying3 (i64_wf (by unfold I64; omega))
           have Hx := hid hx
           clear hx
           go_wp2_with (first
            | (at_lookup; refine wpList_lookup_own_int _ rfl _ _ 28 rfl 3 3 .i64 keyed_int Tryz.underlying28 Tryz.underlying3 (zero_num _) (w.heap.size + 1) _ D rfl Hown.o _ _ rfl hkey ?_; intro cc hat hwc; obtain rfl : cc = x := by (have h9 := HD.o.val li (by omega) (by omega); rw [hat, Hx.o] at h9; injection h9 with h9; injection h9))
            | (at_mapUpdate; refine wpList_mapUpdate_own _ rfl _ _ _ 28 rfl 3 3 keyed_int Tryz.underlying28 (plainElem (H := Unit) Tryz.prog 3) (w.heap.size + 1) _ D rfl Hown.o (by unfold maxLen; omega) _ _ _ rfl rfl hkey _ [] hpe ?_; intro w3 hown3 hgrow3))
           go_roundw
           case rel =>
            refine ⟨j + 1, by omega, by go_num, by rw [Hnx.o, if_neg (by omega), Int.add_zero], hin', CntIs.put Hown.o HD.o (v := li) (by omega) (by omega) hown3 ?_ fun u hu hne => ?_, M1.o.trans ((Mod.of_grown hgrow3).mono fun k _ hk => by injection hk with hk; exact .inl hk.symm)⟩
            ·rw [vsum_succ, Hx.o, Hli.o, Hki.o]
             unfold term
             rw [if_pos rfl]
            ·rw [vsum_succ, Hli.o, Hki.o]
             unfold term
             rw [if_neg (by omega), if_neg (by omega), Int.add_zero]
           case measure => simp [intOf]; omega
         ·have r3 : 16777216 < ki := by omega
          have r4 : decide (16777216 < ki) = true := by simpa using r3
          have hbad : inB ls ks j = false := by rw [Hin2.o]; simp [h3]
          go_wp2_with fail
          obtain ⟨u0, u1, u2, m3⟩ := set3 t0 t1 t2 (.slice none 0 0) (.slice none 0 0) (.int .i64 0)
          exact Hok0.o _ (below_mod (below_mod B2.o (by omega) M1.o fun g hg => by omega) (by omega) m3 fun g hg => by omega) 2 (normed_bad (by have := Hll.o; omega) hbad) u0 u1 u2 _ rfl rfl rfl
        ·have r1 : ki < -16777216 := by omega
         have r2 : decide (ki < -16777216) = true := by simpa using r1
         have hbad : inB ls ks j = false := by rw [Hin2.o]; simp [h2]
         go_wp2_with fail
         obtain ⟨u0, u1, u2, m3⟩ := set3 t0 t1 t2 (.slice none 0 0) (.slice none 0 0) (.int .i64 0)
         exact Hok0.o _ (below_mod (below_mod B2.o (by omega) M1.o fun g hg => by omega) (by omega) m3 fun g hg => by omega) 2 (normed_bad (by have := Hll.o; omega) hbad) u0 u1 u2 _ rfl rfl rfl
       ·have h1' : litB li = false := by simpa using h1
        have hbad : inB ls ks j = false := by rw [Hin2.o, h1']; rfl
        rw [h1']
        go_wp2_with fail
        obtain ⟨u0, u1, u2, m3⟩ := set3 t0 t1 t2 (.slice none 0 0) (.slice none 0 0) (.int .i64 0)
        exact Hok0.o _ (below_mod (below_mod B2.o (by omega) M1.o fun g hg => by omega) (by omega) m3 fun g hg => by omega) 2 (normed_bad (by have := Hll.o; omega) hbad) u0 u1 u2 _ rfl rfl rfl
      ·have x1 : ((j : Int) < (n : Int)) = False := by simp; omega
       obtain rfl : j = n := by omega
       obtain ⟨nb1, nb2⟩ := nsum_bounds (ls := ls) (ks := ks) j Hin.o
       obtain ⟨f, hf⟩ : ∃ f : Int → Int, vsum ls ks j = f := ⟨_, rfl⟩
       have hfb : ∀ v, -(j * 16777216 : Int) ≤ f v ∧ f v ≤ j * 16777216 := fun v => by rw [← hf]; exact vsum_bounds v j Hin.o
       obtain ⟨b1, hb1⟩ : ∃ x, b - nsum ls ks j = x := ⟨_, rfl⟩
       have hb1' : -(1099511627776 : Int) - 1099511627776 ≤ b1 ∧ b1 ≤ 1099511627776 + 1099511627776 := by omega
       rw [hb1]
       rw [hf] at Hc
       have Hf := hid hf
       have Hb1 := hid hb1
       have Hfb := hid hfb
       obtain ⟨D, hown, hD⟩ := Hc.o
       have HD := hid hD
       have Hown := hid hown
       have hML := hown.lt
       clear hf hb1 hfb hown hD Hc nb1 nb2 hlt
       go_wp2_with (at_range; refine wpList_range_own _ rfl _ 28 rfl 3 3 keyed_int Tryz.underlying28 (plainElem (H := Unit) Tryz.prog 3) (w.heap.size + 1) j D rfl Hown.o ?_; intro w0 hrg0 hg0 hs0)
       go_frame
       obtain ⟨Rn, hRn⟩ : ∃ r, wr.heap.size = r := ⟨_, rfl⟩
       rw [hRn] at hrg0 hs0 hML ⊢
       have hcn0 := cnt_ranges_le hrg0
       have Hrg0 := hid hrg0
       have M0 := hid (Mod.of_grown hg0)
       have HRn := hid hRn
       clear hrg0 hg0 t0 t1 t2 f0 f1 f2
       go_loopw [2, 12] (fun bv xv W => ∃ (left : Lit → Bool) (cnt : Nat) (xs : List Int) (R : Option Addr) (c : Nat), xv = .slice R xs.length c ∧ bv = .int .i64 (b1 - minus f xs) ∧ Hid (W.ranges Tryz.prog 3 (plainElem Tryz.prog 3) (w.heap.size + 1) Rn j D left cnt) ∧ xs.length + cnt ≤ j ∧ Hid (Own W (fun g => Rn < g) 3 1 (.slice R xs.length c) xs.length (ints xs)) ∧ Hid xs.Nodup ∧
        Hid (∀ x ∈ xs, 1 ≤ x ∧ x ≤ 65536 ∧ f x ≠ 0 ∧ left (.int .i64 x) = false) ∧ Hid (∀ x, left (.int .i64 x) = true → Maps.has D (.int .i64 x) = true) ∧ Hid (∀ x, 1 ≤ x → x ≤ 65536 → Maps.has D (.int .i64 x) = true → left (.int .i64 x) = false → f x ≠ 0 → x ∈ xs) ∧ Hid (Mod (fun g => Rn ≤ g) w0 W)) (fun _ _ W => W.rangeLeft (w.heap.size + 1) Rn)
       case atStart => exact ⟨_, _, [], none, 0, rfl, by simp [minus], Hrg0, by simpa using hcn0, Own.nil _ _ _ _, List.nodup_nil, fun x hx => by simp at hx, fun x hx => hx, hid (fun x _ _ h1 h2 _ => by rw [h1] at h2; cases h2), Mod.refl _ _⟩
       case round =>
        obtain ⟨left, cnt, xs, R, c, rfl, rfl, Hrg, hcnt, Ho, Hnd, Hxs, Hld, Hall, M1'⟩ := hrel
        have hsz1 := M1'.o.size
        obtain ⟨mb1, mb2⟩ := minus_bounds (f := f) (B := 1099511627776) (fun v => by have := (Hfb.o v).1; omega) (by omega) xs
        obtain ⟨mf, hmf⟩ : ∃ x, minus f xs = x := ⟨_, rfl⟩
        rw [hmf] at mb1 mb2 ⊢
        have Hmf := hid hmf
        clear hmf
        go_wp2_with (at_next; refine wpList_next_ranges_ii _ rfl _ rfl 3 3 .i64 .i64 keyed_int Tryz.underlying3 Tryz.underlying3 (w.heap.size + 1) Rn j D left cnt rfl Hrg.o ?_ ?_)
        ·intro hc0 hl0
         obtain ⟨hsv, hmv⟩ := vars_perm (ls := ls) (ks := ks) (f := f) (by rw [Hll.o]; exact Hf.o) Hnd.o (fun x hx => ⟨(Hxs.o x hx).1, (Hxs.o x hx).2.1, (Hxs.o x hx).2.2.1⟩) (fun v v1 v2 v3 => by
          refine Hall.o v v1 v2 ?_ (hl0 _) v3
          cases hh : Maps.has D (.int .i64 v) with
          | true => rfl
          | false =>
           have h1 := HD.o.val v v1 v2
           rw [atKey_of_not_has hh] at h1
           injection h1 with h1
           injection h1 with _ h1
           exact absurd h1.symm v3)
         obtain ⟨bd, hbd⟩ : ∃ x, b1 - mf = x := ⟨_, rfl⟩
         have Hbd : Hid (normBd ls ks b = bd) := hid (by
          have e : normBd ls ks b = b - nsum ls ks ls.length - minus (vsum ls ks ls.length) (normVars ls ks) := rfl
          rw [e, Hll.o, Hf.o, Hb1.o, ← hmv, Hmf.o, hbd])
         have hbd2 : -(1099511627776 : Int) - 1099511627776 ≤ bd ∧ bd ≤ 1099511627776 + 1099511627776 + 65536 * 1099511627776 := by omega
         have Hsv := hid hsv
         have Hok : Hid (normOk ls ks b = true) := hid (normed_ok (by rw [Hll.o, Hkl.o]) (by rw [Hll.o]; omega) g3 g4 (by rw [Hll.o]; exact Hin.o))
         have hTr := ((M1'.o.block w.heap.size (by omega) (by omega)).trans (M0.o.block w.heap.size (by omega) (by simp))).trans HTr.o
         have t0 : wr.cell? ⟨w.heap.size, 0, none⟩ = some (.slice none 0 0) := by rw [cell_of_row _ _ _ _ _ _ hTr]; rfl
         have t1 : wr.cell? ⟨w.heap.size, 1, none⟩ = some (.slice none 0 0) := by rw [cell_of_row _ _ _ _ _ _ hTr]; rfl
         have t2 : wr.cell? ⟨w.heap.size, 2, none⟩ = some (.int .i64 0) := by rw [cell_of_row _ _ _ _ _ _ hTr]; rfl
         have f0 : wr.frozen? ⟨w.heap.size, 0, none⟩ = false := by simp [World.frozen?, hTr]
         have f1 : wr.frozen? ⟨w.heap.size, 1, none⟩ = false := by simp [World.frozen?, hTr]
         have f2 : wr.frozen? ⟨w.heap.size, 2, none⟩ = false := by simp [World.frozen?, hTr]
         have HTr2 := hid hTr
         have Bw : Hid (Below w.heap.size w wr) := hid (by
          have h1 := below_mod B2.o (by omega) M1.o fun g hg => by omega
          have h2 := below_mod h1 (by omega) M0.o fun g hg => by cases hg
          exact below_mod h2 (by omega) M1'.o fun g hg => by omega)
         rw [hbd]
         have HownR := Hrg
         clear hbd hsv hmv hTr
         by_cases hb0 : bd ≤ 0
         ·go_wp2_with fail
          obtain ⟨u0, u1, u2, m3⟩ := set3 t0 t1 t2 (.slice none 0 0) (.slice none 0 0) (.int .i64 0)
          exact Hok0.o _ (below_mod Bw.o (by omega) m3 fun g hg => by omega) 0 (by unfold Go.Proofs.YtcjmpobccbnpkaaGreat.normed; rw [if_neg (by rw [Hok.o]; simp), if_pos (by rw [Hbd.o]; exact hb0)]) u0 u1 u2 _ rfl rfl rfl
         ·have hb0' : (bd ≤ 0) = False := by simpa using hb0
          have hb1 : 0 < bd := by omega
          clear hb0
          go_wp2_with fail
          refine (sort_any Ho.o (by omega)).mono ?_
          rintro r w3 ⟨rfl, hr3, hm3⟩
          rw [Hsv.o] at hr3
          have hnv : (normVars ls ks).length = xs.length := by have := hr3.1; simpa [ints_length] using this
          have hs3 := hm3.size
          have hrow : ∀ g, row (.slice R xs.length c) g → Rn < g := fun g hg => (Ho.o.row hg).1
          have Hr3 := hid (hr3.mono (G := fun g => Rn < g ∧ g < w3.heap.size) fun g hg hF => ⟨hF, hg⟩)
          have Hnv := hid hnv
          have Hm3 := hid hm3
          obtain ⟨nv, hnv2⟩ : ∃ k, xs.length = k := ⟨_, rfl⟩
          have hxc : (nv : Int) ≤ (c : Int) := by
           obtain ⟨_, A2, c2, hv2, h2, _⟩ := hr3
           injection hv2 with _ _ h3
           omega
          rw [hnv2] at Hr3 Hnv hcnt ⊢
          clear hr3 hm3 hnv
          obtain ⟨vs, hvs⟩ : ∃ vs, normVars ls ks = vs := ⟨_, rfl⟩
          have hvm : ∀ v ∈ vs, 1 ≤ v ∧ v ≤ 65536 ∧ f v ≠ 0 := fun v hv => by
           rw [← hvs] at hv
           have := mem_normVars.1 hv
           rw [Hll.o, Hf.o] at this
           exact this
          rw [hvs] at Hr3 Hnv
          have Hvs := hid hvs
          have Hvm := hid hvm
          clear hvs hvm
          obtain ⟨outL, hoL⟩ : ∃ o, vs.map (fun v => if f v < 0 then -v else v) = o := ⟨_, rfl⟩
          obtain ⟨outC, hoC⟩ : ∃ o, vs.map (fun v => min (((f v).natAbs : Nat) : Int) bd) = o := ⟨_, rfl⟩
          have hCb : ∀ x ∈ outC, 0 ≤ x ∧ x ≤ 1099511627776 := fun x hx => by
           rw [← hoC] at hx
           obtain ⟨v, _, rfl⟩ := List.mem_map.1 hx
           have := Hfb.o v
           omega
          have HoL := hid hoL
          have HoC := hid hoC
          have HCb := hid hCb
          clear hoL hoC hCb
          obtain ⟨Ob, hOb⟩ : ∃ o, w3.heap.size = o := ⟨_, rfl⟩
          go_wp2_with fail
          obtain ⟨W4, hW4⟩ : ∃ W, w3.alloc (.cells #[.slice none 0 0, .slice none 0 0, .int .i64 bd] 41) = W := ⟨_, rfl⟩
          have hO4 : W4.heap[Ob]? = some (.cells #[.slice none 0 0, .slice none 0 0, .int .i64 bd] 41) := by rw [← hW4, ← hOb]; exact heap_alloc_new _ _
          have s4 : W4.heap.size = Ob + 1 := by rw [← hW4, World.size_alloc, hOb]
          have b4 : Below w3.heap.size w3 W4 := by rw [← hW4]; exact (Below.refl _ _).alloc (Nat.le_refl _) _
          have Hr4 := hid (Hr3.o.below b4)
          have HO4 := hid hO4
          have B4 := hid b4
          rw [hW4]
          clear hW4 hO4 b4
          go_loopw [16, 107] (fun sv iv W => ∃ (i : Nat) (A1 A2 : Option Addr) (c1 c2 : Nat), i ≤ nv ∧ iv = .int .i64 i ∧ sv = .int .i64 (outC.take i).sum ∧
           Hid (Two Ob W4 W (.slice A1 i c1) (.slice A2 i c2) (.int .i64 bd) (.slice A1 i c1) (.slice A2 i c2) i i (ints (outL.take i)) (ints (outC.take i)))) (fun _ iv _ => nv - (intOf iv).toNat)
          case atStart =>
           have hT0 : Two Ob W4 W4 (.slice none 0 0) (.slice none 0 0) (.int .i64 bd) (.slice none 0 0) (.slice none 0 0) 0 0 (ints (outL.take 0)) (ints (outC.take 0)) :=
            ⟨HO4.o, by rw [List.take_zero]; exact Own.nil _ _ _ _, by rw [List.take_zero]; exact Own.nil _ _ _ _, fun g hg => by simp [row] at hg, Mod.refl _ _⟩
           exact ⟨0, none, none, 0, 0, by omega, rfl, by simp, hid hT0⟩
          case round =>
           obtain ⟨i, A1, A2, c1, c2, hi, rfl, rfl, Tr⟩ := hrel
           have M3 := hid Tr.o.2.2.2.2
           have hsz3 := M3.o.size
           have p0 := Tr.o.c0
           have p1 := Tr.o.c1
           have p2 := Tr.o.c2
           have q0 := Tr.o.f0
           have q1' := Tr.o.f1
           have hst := sums_bounds (outC.take i) (B := 1099511627776) (fun x hx => HCb.o x (List.mem_of_mem_take hx))
           have hti : (outC.take i).length ≤ i := List.length_take_le _ _
           obtain ⟨su, hsu⟩ : ∃ x, (outC.take i).sum = x := ⟨_, rfl⟩
           rw [hsu] at hst ⊢
           by_cases hlt3 : i < nv
           ·have x3 : (i : Int) < (nv : Int) := by omega
            obtain ⟨gv, ov, hgv, _, hgl, ev⟩ := (Hr4.o.mod M3.o fun g _ hf hg => by omega).cell.2 i hlt3
            subst hgv
            obtain ⟨v, hv⟩ : ∃ v, nth vs i = v := ⟨_, rfl⟩
            rw [hv] at ev
            obtain ⟨v1, v2, v3⟩ := Hvm.o v (by rw [← hv]; exact nth_mem (by have := Hnv.o; omega))
            have hown3 : wr.ownsMap Tryz.prog 3 (plainElem Tryz.prog 3) (w.heap.size + 1) j D := cnt_owns_block Hown.o ((M3.o.block _ (by omega) (by omega)).trans ((B4.o.block _ (by omega)).trans ((Hm3.o.block _ (by omega) (fun hr => by have := hrow _ hr; omega)).trans ((M1'.o.block _ (by omega) (by omega)).trans (M0.o.block _ (by omega) (by simp))))))
            have hkey : keyOf Tryz.prog 3 (.int .i64 v) = some (.int .i64 v) := key_num (by unfold I64; omega)
            obtain ⟨fv, hfv⟩ : ∃ x, f v = x := ⟨_, rfl⟩
            have hfvb := Hfb.o v
            rw [hfv] at hfvb v3
            have hwv : IntKind.i64.wrap (-v) = -v := iw' (by omega) (by omega)
            have hwf : IntKind.i64.wrap (-fv) = -fv := iw' (by omega) (by omega)
            obtain ⟨ki, hki⟩ : ∃ k, min ((fv.natAbs : Nat) : Int) bd = k := ⟨_, rfl⟩
            have hkb : 0 < ki ∧ ki ≤ 1099511627776 := by omega
            have hws : IntKind.i64.wrap (su + ki) = su + ki := iw' (by omega) (by omega)
            have Hown3 := hid hown3
            have HtL := hid (take_map_step (fun v => if f v < 0 then -v else v) (by have := Hnv.o; omega) hv)
            have HtC := hid (take_map_step (fun v => min (((f v).natAbs : Nat) : Int) bd) (by have := Hnv.o; omega) hv)
            rw [HoL.o] at HtL
            rw [HoC.o, hfv, hki] at HtC
            have Hv := hid hv
            have Hfv := hid hfv
            have Hsu := hid hsu
            clear hown3 hv hfv hsu
            by_cases hn : fv < 0
            ·have hmn : min (-fv) bd = ki := by omega
             go_wp2_with (at_lookup; refine wpList_lookup_own_int _ rfl _ _ 28 rfl 3 3 .i64 keyed_int Tryz.underlying28 Tryz.underlying3 (zero_num _) (w.heap.size + 1) _ D rfl Hown3.o _ _ rfl hkey ?_; intro cc hat hwc; obtain rfl : cc = fv := by (have h9 := HD.o.val v v1 v2; rw [hat, Hfv.o] at h9; injection h9 with h9; injection h9))
             have hw : (if f v < 0 then -v else v) = -v := if_pos (by rw [Hfv.o]; exact hn)
             rw [hw] at HtL
             have T0 := hid Tr.o.drew
             refine wp_region_upto (S := fun w' => w'.cell? ⟨Ob, 0, none⟩ = some (.slice A1 i c1) ∧ w'.cell? ⟨Ob, 1, none⟩ = some (.slice A2 i c2)) 11 (by kernel_rfl) ⟨T0.o.c0, T0.o.c1⟩ (fun hHeld => ?_)
             obtain ⟨W0, hW0⟩ : ∃ W, wr.drew = W := ⟨_, rfl⟩
             rw [hW0] at T0 hHeld ⊢
             clear hW0 p0 p1 p2 q0 q1' hsz3
             refine tu 0 ?_
             refine tv [11,4] 1 ?_
             refine tu 2 ?_
             refine tu 5 ?_
             refine tv [11,9] 6 ?_
             refine tu 7 ?_
             refine ru [3,8] ?_
             refine cu (fun K hK => ?_) (cu (fun K hK => ?_) AllReadyU.nil)
             focus
              go_simp
              have R3 := hid (own_one W0 (.int .i64 (-v))).rd
              have Ta3 := hid (T0.o.alloc (.cells #[(.int .i64 (-v))] 3))
              have l3 := T0.o.rows
              have m3 := T0.o.swap.rows
              obtain ⟨Z3, hZ3⟩ : ∃ z, W0.heap.size = z := ⟨_, rfl⟩
              obtain ⟨W3, hW3⟩ : ∃ W, W0.alloc (.cells #[(.int .i64 (-v))] 3) = W := ⟨_, rfl⟩
              rw [hW3] at Ta3 R3 ⊢
              rw [hZ3] at R3 l3 m3 ⊢
              clear hW3 hZ3
              refine hK.out _ _ ⟨Ta3.o.c0, Ta3.o.c1⟩ (fun hHeld => ?_)
              clear hK K
              refine ru [4,8] ?_
              refine cu (fun K hK => ?_) (cu (fun K hK => ?_) AllReadyU.nil)
              focus
               refine step_append_ints (m := 1) rfl _ _ rfl Ta3.o.2.1 R3.o rfl rfl (by simp [Value.oneCell']) (by omega) ?_
               intro Av4 cv4 W4 ho4 hm4 hr4
               have Tt4 := hid (Ta3.o.push ho4 hm4 hr4)
               have Tt4 := hid Tt4.o
               clear ho4 hm4 hr4
               refine hK.out _ _ ⟨Tt4.o.c0, Tt4.o.c1⟩ (fun hHeld => ?_)
               clear hK K
               refine tu 10 ?_
               refine r1 8 fun K hK => ?_
               go_simp
               have R8 := hid (own_one W4 (.int .i64 ki)).rd
               have Ta8 := hid (Tt4.o.alloc (.cells #[(.int .i64 ki)] 3))
               have l8 := Tt4.o.rows
               have m8 := Tt4.o.swap.rows
               obtain ⟨Z8, hZ8⟩ : ∃ z, W4.heap.size = z := ⟨_, rfl⟩
               obtain ⟨W8, hW8⟩ : ∃ W, W4.alloc (.cells #[(.int .i64 ki)] 3) = W := ⟨_, rfl⟩
               rw [hW8] at Ta8 R8 ⊢
               rw [hZ8] at R8 l8 m8 ⊢
               clear hW8 hZ8
               refine hK.out _ _ ⟨Ta8.o.c0, Ta8.o.c1⟩ (fun hHeld => ?_)
               clear hK K
               refine r1 9 fun K hK => ?_
               refine step_append_ints (m := 1) rfl _ _ rfl Ta8.o.swap.2.1 R8.o rfl rfl (by simp [Value.oneCell']) (by omega) ?_
               intro Av9 cv9 W9 ho9 hm9 hr9
               have Tt9 := hid (Ta8.o.swap.push ho9 hm9 hr9)
              rotate_left
              focus
               have b3 : Below W3.heap.size W3 (W3.alloc (.cells #[(.int .i64 ki)] 3)) := (Below.refl _ _).alloc (Nat.le_refl _) _
               have R3 := hid (R3.o.below b3)
               clear b3
               go_simp
               have R8 := hid (own_one W3 (.int .i64 ki)).rd
               have Ta8 := hid (Ta3.o.alloc (.cells #[(.int .i64 ki)] 3))
               have l8 := Ta3.o.rows
               have m8 := Ta3.o.swap.rows
               obtain ⟨Z8, hZ8⟩ : ∃ z, W3.heap.size = z := ⟨_, rfl⟩
               obtain ⟨W8, hW8⟩ : ∃ W, W3.alloc (.cells #[(.int .i64 ki)] 3) = W := ⟨_, rfl⟩
               rw [hW8] at Ta8 R8 R3 ⊢
               rw [hZ8] at R8 l8 m8 ⊢
               clear hW8 hZ8
               refine hK.out _ _ ⟨Ta8.o.c0, Ta8.o.c1⟩ (fun hHeld => ?_)
               clear hK K
               refine r1 4 fun K hK => ?_
               refine step_append_ints (m := 1) rfl _ _ rfl Ta8.o.2.1 R3.o rfl rfl (by simp [Value.oneCell']) (by omega) ?_
               intro Av4 cv4 W4 ho4 hm4 hr4
               have Tt4 := hid (Ta8.o.push ho4 hm4 hr4)
               have Tt4 := hid Tt4.o
               have R8 := hid (R8.o.mod hm4 (fun g _ hg hrow => by have := l8 g hrow; omega))
               clear ho4 hm4 hr4
               refine hK.out _ _ ⟨Tt4.o.c0, Tt4.o.c1⟩ (fun hHeld => ?_)
               clear hK K
               refine tu 10 ?_
               refine r1 9 fun K hK => ?_
               refine step_append_ints (m := 1) rfl _ _ rfl Tt4.o.swap.2.1 R8.o rfl rfl (by simp [Value.oneCell']) (by omega) ?_
               intro Av9 cv9 W9 ho9 hm9 hr9
               have Tt9 := hid (Tt4.o.swap.push ho9 hm9 hr9)
             rotate_left 2
             focus
              go_simp
              have R8 := hid (own_one W0 (.int .i64 ki)).rd
              have Ta8 := hid (T0.o.alloc (.cells #[(.int .i64 ki)] 3))
              have l8 := T0.o.rows
              have m8 := T0.o.swap.rows
              obtain ⟨Z8, hZ8⟩ : ∃ z, W0.heap.size = z := ⟨_, rfl⟩
              obtain ⟨W8, hW8⟩ : ∃ W, W0.alloc (.cells #[(.int .i64 ki)] 3) = W := ⟨_, rfl⟩
              rw [hW8] at Ta8 R8 ⊢
              rw [hZ8] at R8 l8 m8 ⊢
              clear hW8 hZ8
              refine hK.out _ _ ⟨Ta8.o.c0, Ta8.o.c1⟩ (fun hHeld => ?_)
              clear hK K
              refine r1 3 fun K hK => ?_
              have b8 : Below W8.heap.size W8 (W8.alloc (.cells #[(.int .i64 (-v))] 3)) := (Below.refl _ _).alloc (Nat.le_refl _) _
              have R8 := hid (R8.o.below b8)
              clear b8
              go_simp
              have R3 := hid (own_one W8 (.int .i64 (-v))).rd
              have Ta3 := hid (Ta8.o.alloc (.cells #[(.int .i64 (-v))] 3))
              have l3 := Ta8.o.rows
              have m3 := Ta8.o.swap.rows
              obtain ⟨Z3, hZ3⟩ : ∃ z, W8.heap.size = z := ⟨_, rfl⟩
              obtain ⟨W3, hW3⟩ : ∃ W, W8.alloc (.cells #[(.int .i64 (-v))] 3) = W := ⟨_, rfl⟩
              rw [hW3] at Ta3 R3 R8 ⊢
              rw [hZ3] at R3 l3 m3 ⊢
              clear hW3 hZ3
              refine hK.out _ _ ⟨Ta3.o.c0, Ta3.o.c1⟩ (fun hHeld => ?_)
              clear hK K
              refine r1 4 fun K hK => ?_
              refine step_append_ints (m := 1) rfl _ _ rfl Ta3.o.2.1 R3.o rfl rfl (by simp [Value.oneCell']) (by omega) ?_
              intro Av4 cv4 W4 ho4 hm4 hr4
              have Tt4 := hid (Ta3.o.push ho4 hm4 hr4)
              have Tt4 := hid Tt4.o
              have R8 := hid (R8.o.mod hm4 (fun g _ hg hrow => by have := l8 g hrow; omega))
              clear ho4 hm4 hr4
              refine hK.out _ _ ⟨Tt4.o.c0, Tt4.o.c1⟩ (fun hHeld => ?_)
              clear hK K
              refine tu 10 ?_
              refine r1 9 fun K hK => ?_
              refine step_append_ints (m := 1) rfl _ _ rfl Tt4.o.swap.2.1 R8.o rfl rfl (by simp [Value.oneCell']) (by omega) ?_
              intro Av9 cv9 W9 ho9 hm9 hr9
              have Tt9 := hid (Tt4.o.swap.push ho9 hm9 hr9)
             all_goals
              have Tt9 := hid Tt9.o.swap
              clear ho9 hm9 hr9
              refine hK.out _ _ ⟨Tt9.o.c0, Tt9.o.c1⟩ (fun hHeld => ?_)
              clear hK K
              refine l1 11 fun K hK => ?_
              have g0 := Tt9.o.c0
              have q0 := Tt9.o.f0
              go_simp
              refine hK.out _ _ ?_
              clear hK K g0 q0
              refine l1 12 fun K hK => ?_
              go_simp
              refine hK.out _ _ ?_
              clear hK K
              refine l1 13 fun K hK => ?_
              have Tp := hid (Tt9.o.put0 (.slice Av4 (i + 1) cv4))
              have g1 := Tp.o.c1
              have q1 := Tp.o.f1
              go_simp
              refine hK.out _ _ ?_
              clear hK K g1 q1
              have Tz := Tp.o.put1 (.slice Av9 (i + 1) cv9)
              refine wpAnyU_done (by kernel_rfl) ?_ _
              go_wp2_with fail
              go_roundw
              case rel => exact ⟨i + 1, Av4, Av9, cv4, cv9, by omega, by go_num, by rw [HtC.o, List.sum_append, Hsu.o]; simp, hid (by rw [HtL.o, HtC.o, ints_append, ints_append]; exact Tz)⟩
              case measure => simp [intOf]; omega
            ·have hmn : min fv bd = ki := by omega
             have kn' : (fv < 0) = False := by simp; omega
             have kn2 : decide (fv < 0) = false := by simp; omega
             go_wp2_with (at_lookup; refine wpList_lookup_own_int _ rfl _ _ 28 rfl 3 3 .i64 keyed_int Tryz.underlying28 Tryz.underlying3 (zero_num _) (w.heap.size + 1) _ D rfl Hown3.o _ _ rfl hkey ?_; intro cc hat hwc; obtain rfl : cc = fv := by (have h9 := HD.o.val v v1 v2; rw [hat, Hfv.o] at h9; injection h9 with h9; injection h9))
             have hw : (if f v < 0 then -v else v) = v := if_neg (by rw [Hfv.o]; omega)
             rw [hw] at HtL
             have T0 := hid Tr.o.drew
             refine wp_region_upto (S := fun w' => w'.cell? ⟨Ob, 0, none⟩ = some (.slice A1 i c1) ∧ w'.cell? ⟨Ob, 1, none⟩ = some (.slice A2 i c2)) 11 (by kernel_rfl) ⟨T0.o.c0, T0.o.c1⟩ (fun hHeld => ?_)
             obtain ⟨W0, hW0⟩ : ∃ W, wr.drew = W := ⟨_, rfl⟩
             rw [hW0] at T0 hHeld ⊢
             clear hW0 p0 p1 p2 q0 q1' hsz3
             refine tu 0 ?_
             refine tv [11,4] 1 ?_
             refine tu 2 ?_
             refine tu 5 ?_
             refine tv [11,9] 6 ?_
             refine tu 7 ?_
             refine ru [3,8] ?_
             refine cu (fun K hK => ?_) (cu (fun K hK => ?_) AllReadyU.nil)
             focus
              go_simp
              have R3 := hid (own_one W0 (.int .i64 v)).rd
              have Ta3 := hid (T0.o.alloc (.cells #[(.int .i64 v)] 3))
              have l3 := T0.o.rows
              have m3 := T0.o.swap.rows
              obtain ⟨Z3, hZ3⟩ : ∃ z, W0.heap.size = z := ⟨_, rfl⟩
              obtain ⟨W3, hW3⟩ : ∃ W, W0.alloc (.cells #[(.int .i64 v)] 3) = W := ⟨_, rfl⟩
              rw [hW3] at Ta3 R3 ⊢
              rw [hZ3] at R3 l3 m3 ⊢
              clear hW3 hZ3
              refine hK.out _ _ ⟨Ta3.o.c0, Ta3.o.c1⟩ (fun hHeld => ?_)
              clear hK K
              refine ru [4,8] ?_
              refine cu (fun K hK => ?_) (cu (fun K hK => ?_) AllReadyU.nil)
              focus
               refine step_append_ints (m := 1) rfl _ _ rfl Ta3.o.2.1 R3.o rfl rfl (by simp [Value.oneCell']) (by omega) ?_
               intro Av4 cv4 W4 ho4 hm4 hr4
               have Tt4 := hid (Ta3.o.push ho4 hm4 hr4)
               have Tt4 := hid Tt4.o
               clear ho4 hm4 hr4
               refine hK.out _ _ ⟨Tt4.o.c0, Tt4.o.c1⟩ (fun hHeld => ?_)
               clear hK K
               refine tu 10 ?_
               refine r1 8 fun K hK => ?_
               go_simp
               have R8 := hid (own_one W4 (.int .i64 ki)).rd
               have Ta8 := hid (Tt4.o.alloc (.cells #[(.int .i64 ki)] 3))
               have l8 := Tt4.o.rows
               have m8 := Tt4.o.swap.rows
               obtain ⟨Z8, hZ8⟩ : ∃ z, W4.heap.size = z := ⟨_, rfl⟩
               obtain ⟨W8, hW8⟩ : ∃ W, W4.alloc (.cells #[(.int .i64 ki)] 3) = W := ⟨_, rfl⟩
               rw [hW8] at Ta8 R8 ⊢
               rw [hZ8] at R8 l8 m8 ⊢
               clear hW8 hZ8
               refine hK.out _ _ ⟨Ta8.o.c0, Ta8.o.c1⟩ (fun hHeld => ?_)
               clear hK K
               refine r1 9 fun K hK => ?_
               refine step_append_ints (m := 1) rfl _ _ rfl Ta8.o.swap.2.1 R8.o rfl rfl (by simp [Value.oneCell']) (by omega) ?_
               intro Av9 cv9 W9 ho9 hm9 hr9
               have Tt9 := hid (Ta8.o.swap.push ho9 hm9 hr9)
              rotate_left
              focus
               have b3 : Below W3.heap.size W3 (W3.alloc (.cells #[(.int .i64 ki)] 3)) := (Below.refl _ _).alloc (Nat.le_refl _) _
               have R3 := hid (R3.o.below b3)
               clear b3
               go_simp
               have R8 := hid (own_one W3 (.int .i64 ki)).rd
               have Ta8 := hid (Ta3.o.alloc (.cells #[(.int .i64 ki)] 3))
               have l8 := Ta3.o.rows
               have m8 := Ta3.o.swap.rows
               obtain ⟨Z8, hZ8⟩ : ∃ z, W3.heap.size = z := ⟨_, rfl⟩
               obtain ⟨W8, hW8⟩ : ∃ W, W3.alloc (.cells #[(.int .i64 ki)] 3) = W := ⟨_, rfl⟩
               rw [hW8] at Ta8 R8 R3 ⊢
               rw [hZ8] at R8 l8 m8 ⊢
               clear hW8 hZ8
               refine hK.out _ _ ⟨Ta8.o.c0, Ta8.o.c1⟩ (fun hHeld => ?_)
               clear hK K
               refine r1 4 fun K hK => ?_
               refine step_append_ints (m := 1) rfl _ _ rfl Ta8.o.2.1 R3.o rfl rfl (by simp [Value.oneCell']) (by omega) ?_
               intro Av4 cv4 W4 ho4 hm4 hr4
               have Tt4 := hid (Ta8.o.push ho4 hm4 hr4)
               have Tt4 := hid Tt4.o
               have R8 := hid (R8.o.mod hm4 (fun g _ hg hrow => by have := l8 g hrow; omega))
               clear ho4 hm4 hr4
               refine hK.out _ _ ⟨Tt4.o.c0, Tt4.o.c1⟩ (fun hHeld => ?_)
               clear hK K
               refine tu 10 ?_
               refine r1 9 fun K hK => ?_
               refine step_append_ints (m := 1) rfl _ _ rfl Tt4.o.swap.2.1 R8.o rfl rfl (by simp [Value.oneCell']) (by omega) ?_
               intro Av9 cv9 W9 ho9 hm9 hr9
               have Tt9 := hid (Tt4.o.swap.push ho9 hm9 hr9)
             rotate_left 2
             focus
              go_simp
              have R8 := hid (own_one W0 (.int .i64 ki)).rd
              have Ta8 := hid (T0.o.alloc (.cells #[(.int .i64 ki)] 3))
              have l8 := T0.o.rows
              have m8 := T0.o.swap.rows
              obtain ⟨Z8, hZ8⟩ : ∃ z, W0.heap.size = z := ⟨_, rfl⟩
              obtain ⟨W8, hW8⟩ : ∃ W, W0.alloc (.cells #[(.int .i64 ki)] 3) = W := ⟨_, rfl⟩
              rw [hW8] at Ta8 R8 ⊢
              rw [hZ8] at R8 l8 m8 ⊢
              clear hW8 hZ8
              refine hK.out _ _ ⟨Ta8.o.c0, Ta8.o.c1⟩ (fun hHeld => ?_)
              clear hK K
              refine r1 3 fun K hK => ?_
              have b8 : Below W8.heap.size W8 (W8.alloc (.cells #[(.int .i64 v)] 3)) := (Below.refl _ _).alloc (Nat.le_refl _) _
              have R8 := hid (R8.o.below b8)
              clear b8
              go_simp
              have R3 := hid (own_one W8 (.int .i64 v)).rd
              have Ta3 := hid (Ta8.o.alloc (.cells #[(.int .i64 v)] 3))
              have l3 := Ta8.o.rows
              have m3 := Ta8.o.swap.rows
              obtain ⟨Z3, hZ3⟩ : ∃ z, W8.heap.size = z := ⟨_, rfl⟩
              obtain ⟨W3, hW3⟩ : ∃ W, W8.alloc (.cells #[(.int .i64 v)] 3) = W := ⟨_, rfl⟩
              rw [hW3] at Ta3 R3 R8 ⊢
              rw [hZ3] at R3 l3 m3 ⊢
              clear hW3 hZ3
              refine hK.out _ _ ⟨Ta3.o.c0, Ta3.o.c1⟩ (fun hHeld => ?_)
              clear hK K
              refine r1 4 fun K hK => ?_
              refine step_append_ints (m := 1) rfl _ _ rfl Ta3.o.2.1 R3.o rfl rfl (by simp [Value.oneCell']) (by omega) ?_
              intro Av4 cv4 W4 ho4 hm4 hr4
              have Tt4 := hid (Ta3.o.push ho4 hm4 hr4)
              have Tt4 := hid Tt4.o
              have R8 := hid (R8.o.mod hm4 (fun g _ hg hrow => by have := l8 g hrow; omega))
              clear ho4 hm4 hr4
              refine hK.out _ _ ⟨Tt4.o.c0, Tt4.o.c1⟩ (fun hHeld => ?_)
              clear hK K
              refine tu 10 ?_
              refine r1 9 fun K hK => ?_
              refine step_append_ints (m := 1) rfl _ _ rfl Tt4.o.swap.2.1 R8.o rfl rfl (by simp [Value.oneCell']) (by omega) ?_
              intro Av9 cv9 W9 ho9 hm9 hr9
              have Tt9 := hid (Tt4.o.swap.push ho9 hm9 hr9)
             all_goals
              have Tt9 := hid Tt9.o.swap
              clear ho9 hm9 hr9
              refine hK.out _ _ ⟨Tt9.o.c0, Tt9.o.c1⟩ (fun hHeld => ?_)
              clear hK K
              refine l1 11 fun K hK => ?_
              have g0 := Tt9.o.c0
              have q0 := Tt9.o.f0
              go_simp
              refine hK.out _ _ ?_
              clear hK K g0 q0
              refine l1 12 fun K hK => ?_
              go_simp
              refine hK.out _ _ ?_
              clear hK K
              refine l1 13 fun K hK => ?_
              have Tp := hid (Tt9.o.put0 (.slice Av4 (i + 1) cv4))
              have g1 := Tp.o.c1
              have q1 := Tp.o.f1
              go_simp
              refine hK.out _ _ ?_
              clear hK K g1 q1
              have Tz := Tp.o.put1 (.slice Av9 (i + 1) cv9)
              refine wpAnyU_done (by kernel_rfl) ?_ _
              go_wp2_with fail
              go_roundw
              case rel => exact ⟨i + 1, Av4, Av9, cv4, cv9, by omega, by go_num, by rw [HtC.o, List.sum_append, Hsu.o]; simp, hid (by rw [HtL.o, HtC.o, ints_append, ints_append]; exact Tz)⟩
              case measure => simp [intOf]; omega
           ·have hie : i = nv := by omega
            subst hie
            have htk : outC.take i = outC := List.take_of_length_le (by rw [← HoC.o, List.length_map, Hnv.o]; omega)
            have x3 : ((i : Int) < (i : Int)) = False := by simp
            rw [htk] at hsu
            have Hsu := hid hsu
            have hT3 := (M3.o.block w.heap.size (by omega) (by omega)).trans ((B4.o.block _ (by omega)).trans ((Hm3.o.block _ (by omega) (fun hr => by have := hrow _ hr; omega)).trans HTr2.o))
            have t0 : wr.cell? ⟨w.heap.size, 0, none⟩ = some (.slice none 0 0) := by rw [cell_of_row _ _ _ _ _ _ hT3]; rfl
            have t1 : wr.cell? ⟨w.heap.size, 1, none⟩ = some (.slice none 0 0) := by rw [cell_of_row _ _ _ _ _ _ hT3]; rfl
            have t2 : wr.cell? ⟨w.heap.size, 2, none⟩ = some (.int .i64 0) := by rw [cell_of_row _ _ _ _ _ _ hT3]; rfl
            have f0 : wr.frozen? ⟨w.heap.size, 0, none⟩ = false := by simp [World.frozen?, hT3]
            have f1 : wr.frozen? ⟨w.heap.size, 1, none⟩ = false := by simp [World.frozen?, hT3]
            have f2 : wr.frozen? ⟨w.heap.size, 2, none⟩ = false := by simp [World.frozen?, hT3]
            have Bz : Hid (Below w.heap.size w wr) := hid (by
             have h1 := below_mod Bw.o (by omega) Hm3.o fun g hg => by have := hrow _ hg; omega
             have h2 : Below w.heap.size w W4 := h1.trans (B4.o.mono h1.size)
             exact below_mod h2 (by omega) M3.o fun g hg => by omega)
            have HnB : Hid (¬ normBd ls ks b ≤ 0) := hid (by rw [Hbd.o]; omega)
            have hnC : normCoefs ls ks b = outC := by
             have e : normCoefs ls ks b = (normVars ls ks).map fun v => min (((vsum ls ks ls.length v).natAbs : Nat) : Int) (normBd ls ks b) := rfl
             rw [e, Hvs.o, Hll.o, Hf.o, Hbd.o, HoC.o]
            have hnL : ((normVars ls ks).map fun v => if vsum ls ks ls.length v < 0 then -v else v) = outL := by
             rw [Hvs.o, Hll.o, Hf.o, HoL.o]
            have HnC := hid hnC
            have HnL := hid hnL
            clear hsu hT3 hnC hnL htk
            by_cases z1 : su < bd
            ·go_wp2_with fail
             obtain ⟨u0, u1, u2, m3⟩ := set3 t0 t1 t2 (.slice none 0 0) (.slice none 0 0) (.int .i64 1)
             have he : normed ls ks b = (⟨[], [], 1⟩, 0) := by
              unfold Go.Proofs.YtcjmpobccbnpkaaGreat.normed
              rw [if_neg (by rw [Hok.o]; simp), if_neg (by have := HnB.o; omega), HnC.o, Hbd.o, Hsu.o, if_pos z1]
             refine norm_ends u0 u1 u2 rfl rfl rfl ⟨⟨_, by rw [he], ?_⟩, below_mod Bz.o (by omega) m3 fun g hg => by omega⟩
             rw [he]
             exact ⟨⟨none, 0, 0, none, 0, 0, rfl, ⟨rfl, none, 0, rfl, Nat.le_refl _, Nat.zero_le _, fun h => absurd h (by omega)⟩, ⟨rfl, none, 0, rfl, Nat.le_refl _, Nat.zero_le _, fun h => absurd h (by omega)⟩⟩, by show I64 1; unfold I64; omega⟩
            ·have z1' : (su < bd) = False := by simp; omega
             have z1'' : decide (su < bd) = false := by simp; omega
             by_cases z2 : 16777216 < bd
             ·go_wp2_with fail
              obtain ⟨u0, u1, u2, m3⟩ := set3 t0 t1 t2 (.slice none 0 0) (.slice none 0 0) (.int .i64 0)
              exact Hok0.o _ (below_mod Bz.o (by omega) m3 fun g hg => by omega) 3 (by unfold Go.Proofs.YtcjmpobccbnpkaaGreat.normed; rw [if_neg (by rw [Hok.o]; simp), if_neg (by have := HnB.o; omega), HnC.o, Hbd.o, Hsu.o, if_neg (by omega), if_pos z2]) u0 u1 u2 _ rfl rfl rfl
             ·have z2' : (16777216 < bd) = False := by simp; omega
              have z2'' : decide (16777216 < bd) = false := by simp; omega
              go_wp2_with fail
              obtain ⟨u0, u1, u2, m3⟩ := set3 t0 t1 t2 (.slice A1 i c1) (.slice A2 i c2) (.int .i64 bd)
              have he : normed ls ks b = (⟨outL, outC, bd⟩, 0) := by
               unfold Go.Proofs.YtcjmpobccbnpkaaGreat.normed
               rw [if_neg (by rw [Hok.o]; simp), if_neg (by have := HnB.o; omega), HnC.o, Hbd.o, Hsu.o, if_neg (by omega), if_neg (by omega), HnL.o]
              have oL := ((Tr.o.2.1.mod m3 fun g _ _ hg e => by omega).mono (G := fun g => w.heap.size ≤ g) fun g _ _ hg => by omega).rd
              have oC := ((Tr.o.2.2.1.mod m3 fun g _ _ hg e => by omega).mono (G := fun g => w.heap.size ≤ g) fun g _ _ hg => by omega).rd
              rw [List.take_of_length_le (by rw [← HoL.o, List.length_map, Hnv.o]; omega)] at oL
              rw [List.take_of_length_le (by rw [← HoC.o, List.length_map, Hnv.o]; omega)] at oC
              refine norm_ends u0 u1 u2 rfl rfl rfl ⟨⟨_, by rw [he], ?_⟩, below_mod Bz.o (by omega) m3 fun g hg => by omega⟩
              rw [he]
              exact ⟨⟨A1, i, c1, A2, i, c2, rfl, oL, oC⟩, by show I64 bd; unfold I64; omega⟩
        ·intro x k w1 cnt1 hwx hwc hlk hat hrg1 hlt1 hg1 hs1 hen
         have hhas := Hld.o x hlk
         obtain ⟨x', hx', hx1, hx2⟩ := HD.o.key _ hhas
         injection hx' with _ hx'
         subst hx'
         have hkf : k = f x := by
          have h1 := HD.o.val x hx1 hx2
          rw [hat] at h1
          injection h1 with h1
          injection h1
         subst hkf
         have M2 : Hid (Mod (fun g => Rn ≤ g) w0 w1) := hid (M1'.o.trans ((Mod.of_grown hg1).mono fun k _ hk => .inl (by injection hk with hk; omega)))
         have Ho1 := hid (Ho.o.mod (Mod.of_grown hg1) fun g _ _ hf hk => by injection hk with hk; omega)
         have Hrg1 := hid hrg1
         have hin := hid ((show ¬ x ∈ xs from fun hx => by have := (Hxs.o x hx).2.2.2; rw [hlk] at this; cases this))
         have hrow : ∀ g, row (.slice R xs.length c) g → Rn < g := fun g hg => (Ho1.o.row hg).1
         have hxb := Hfb.o x
         obtain ⟨fx, hfx⟩ : ∃ y, f x = y := ⟨_, rfl⟩
         rw [hfx] at hen hxb ⊢
         have Hfx := hid hfx
         have Hs1 := hid hs1
         clear hg1 hrg1 hat hwx hwc hhas hfx hs1
         by_cases k0 : fx = 0
         ·subst k0
          go_wp2_with fail
          go_roundw
          case rel =>
           refine ⟨_, cnt1, xs, R, c, rfl, by rw [Hmf.o], Hrg1, by omega, Ho1, Hnd, hid fun z hz => ?_, hid fun z hz => Hld.o z (by simp only [Bool.and_eq_true] at hz; exact hz.1), hid fun z z1 z2 z3 z4 z5 => ?_, M2⟩
           ·obtain ⟨z1, z2, z3, z4⟩ := Hxs.o z hz
            exact ⟨z1, z2, z3, by rw [z4]; rfl⟩
           ·rw [same_int] at z4
            have hne : z ≠ x := fun e => z5 (by rw [e]; exact Hfx.o)
            exact Hall.o z z1 z2 z3 (by simpa [hne] using z4) z5
          case measure => rw [Hrg1.o.left_eq, Hrg.o.left_eq]; exact hlt1
         ·have k1 : (fx == 0) = false := by simpa using k0
          have k2 : (fx = 0) = False := by simpa using k0
          have Hfx0 : Hid (f x ≠ 0) := hid (by rw [Hfx.o]; exact k0)
          by_cases kn : fx < 0
          ·have hw1 : IntKind.i64.wrap (b1 - mf - fx) = b1 - mf - fx := iw' (by omega) (by omega)
           have kn' : decide (fx < 0) = true := by simpa using kn
           go_wp2_with (at_builtin; refine wpList_append_ints rfl _ _ rfl (Ho1.o.below ((Below.refl _ _).alloc (Nat.le_refl _) _)) (own_one w1 (.int .i64 x)).rd rfl rfl (by simp [Value.oneCell']) (by omega) ?_; intro Av cv w3 ho3 hm3 hr3)
           have hs3 := hm3.size
           simp only [World.size_alloc] at hs3
           have hs1 := Hs1.o
           have hkp : ∀ k, k ≤ Rn → w3.heap[k]? = w1.heap[k]? := fun k hk => (hm3.block k (by simp; omega) (fun hr => by have := hrow k hr; omega)).trans (World.heap_alloc_ne _ _ _ (by omega))
           have Hrg3 := cnt_ranges_of Hrg1.o (hkp _ (by omega)) (hkp _ (by omega))
           go_roundw
           case rel =>
            refine ⟨_, cnt1, xs ++ [x], Av, cv, by simp, ?_, Hrg3, by simp; omega, ?_, ?_, ?_, ?_, ?_, ?_⟩
            ·rw [minus_snoc, Hmf.o, Hfx.o, show min fx 0 = fx by omega, show b1 - (mf + fx) = b1 - mf - fx by omega]
            ·rw [ints_append, List.length_append]
             exact hid (ho3.mono fun g _ _ hg => hg.elim id fun hg => by simp at hg; omega)
            ·exact hid (List.nodup_append.2 ⟨Hnd.o, by simp, by simp; exact fun z hz e => hin.o (e ▸ hz)⟩)
            ·refine hid fun z hz => ?_
             rcases List.mem_append.1 hz with hz | hz
             ·obtain ⟨z1, z2, z3, z4⟩ := Hxs.o z hz
              exact ⟨z1, z2, z3, by rw [z4]; rfl⟩
             ·rw [List.mem_singleton.1 hz, same_int]
              exact ⟨hx1, hx2, Hfx0.o, by simp⟩
            ·exact hid fun z hz => Hld.o z (by simp only [Bool.and_eq_true] at hz; exact hz.1)
            ·refine hid fun z z1 z2 z3 z4 z5 => ?_
             rw [List.mem_append, List.mem_singleton]
             by_cases e : z = x
             ·exact .inr e
             ·rw [same_int] at z4
              exact .inl (Hall.o z z1 z2 z3 (by simpa [e] using z4) z5)
            ·exact hid ((M2.o.alloc _).trans (hm3.mono fun k _ hk => .inl (by have := hrow k hk; omega)))
           case measure => rw [Hrg3.left_eq, Hrg.o.left_eq]; exact hlt1
          ·have kn' : (fx < 0) = False := by simp; omega
           have kn2 : decide (fx < 0) = false := by simp; omega
           go_wp2_with (at_builtin; refine wpList_append_ints rfl _ _ rfl (Ho1.o.below ((Below.refl _ _).alloc (Nat.le_refl _) _)) (own_one w1 (.int .i64 x)).rd rfl rfl (by simp [Value.oneCell']) (by omega) ?_; intro Av cv w3 ho3 hm3 hr3)
           have hs3 := hm3.size
           simp only [World.size_alloc] at hs3
           have hs1 := Hs1.o
           have hkp : ∀ k, k ≤ Rn → w3.heap[k]? = w1.heap[k]? := fun k hk => (hm3.block k (by simp; omega) (fun hr => by have := hrow k hr; omega)).trans (World.heap_alloc_ne _ _ _ (by omega))
           have Hrg3 := cnt_ranges_of Hrg1.o (hkp _ (by omega)) (hkp _ (by omega))
           go_roundw
           case rel =>
            refine ⟨_, cnt1, xs ++ [x], Av, cv, by simp, ?_, Hrg3, by simp; omega, ?_, ?_, ?_, ?_, ?_, ?_⟩
            ·rw [minus_snoc, Hmf.o, Hfx.o, show min fx 0 = 0 by omega, Int.add_zero]
            ·rw [ints_append, List.length_append]
             exact hid (ho3.mono fun g _ _ hg => hg.elim id fun hg => by simp at hg; omega)
            ·exact hid (List.nodup_append.2 ⟨Hnd.o, by simp, by simp; exact fun z hz e => hin.o (e ▸ hz)⟩)
            ·refine hid fun z hz => ?_
             rcases List.mem_append.1 hz with hz | hz
             ·obtain ⟨z1, z2, z3, z4⟩ := Hxs.o z hz
              exact ⟨z1, z2, z3, by rw [z4]; rfl⟩
             ·rw [List.mem_singleton.1 hz, same_int]
              exact ⟨hx1, hx2, Hfx0.o, by simp⟩
            ·exact hid fun z hz => Hld.o z (by simp only [Bool.and_eq_true] at hz; exact hz.1)
            ·refine hid fun z z1 z2 z3 z4 z5 => ?_
             rw [List.mem_append, List.mem_singleton]
             by_cases e : z = x
             ·exact .inr e
             ·rw [same_int] at z4
              exact .inl (Hall.o z z1 z2 z3 (by simpa [e] using z4) z5)
            ·exact hid ((M2.o.alloc _).trans (hm3.mono fun k _ hk => .inl (by have := hrow k hk; omega)))
           case measure => rw [Hrg3.left_eq, Hrg.o.left_eq]; exact hlt1
    ·have q1 : decide (65536 < n) = false := by simp; omega
     have q1a : ((65536 : Int) < (n : Int)) = False := by simp; omega
     have q3 : decide (b < -1099511627776) = false := by simp; omega
     have q3a : (b < -1099511627776) = False := by simp; omega
     have q6 : decide (1099511627776 < b) = true := by simp; omega
     have q6a : 1099511627776 < b := by omega
     go_enter Tryz.func49, Tryz.ntmps49
     go_wp2_with fail
     exact Hbad.o (by unfold normOk; simp; omega) _ rfl rfl rfl
   ·have q1 : decide (65536 < n) = false := by simp; omega
    have q1a : ((65536 : Int) < (n : Int)) = False := by simp; omega
    have q3 : decide (b < -1099511627776) = true := by simp; omega
    have q3a : b < -1099511627776 := by omega
    go_enter Tryz.func49, Tryz.ntmps49
    go_wp2_with fail
    exact Hbad.o (by unfold normOk; simp; omega) _ rfl rfl rfl
  ·have q1 : decide (65536 < n) = true := by simp; omega
   have q1a : (65536 : Int) < (n : Int) := by omega
   go_enter Tryz.func49, Tryz.ntmps49
   go_wp2_with fail
   exact Hbad.o (by unfold normOk; simp [Hll.o]; omega) _ rfl rfl rfl
 ·have q1 : ((n : Int) = (m : Int)) = False := by simp; omega
  have q2 : (n = m) = False := by simpa using g1
  have q3 : ((n : Int) == (m : Int)) = false := by simp; omega
  have q4 : (n == m) = false := by simpa using g1
  go_enter Tryz.func49, Tryz.ntmps49
  go_wp2_with fail
  exact Hbad.o (by unfold normOk; simp [Hll.o, Hkl.o, g1]) _ rfl rfl rfl
end
end Go.Proofs.YtcjmpobccbnpkaaGreat
