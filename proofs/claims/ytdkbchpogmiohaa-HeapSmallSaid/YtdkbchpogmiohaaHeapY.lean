/-
  The reference's Decay and Bump.
-/
import Derived.Test.YtdkbchpogmiohaaHeapX
namespace Go.Proofs.Ytdkbchpogmiohaa
open Go.RowKit

theorem wasL_map_low (acts : List Int) (n : Nat) : (wasL acts n).map low = wasL (acts.map low) n := by
  unfold wasL
  rw [List.map_map]
  refine List.map_congr_left fun j _ => ?_
  exact (nth_map_low acts (j + 1)).symm
theorem wasL_bound {n : Nat} {o : Om} (e : o.WF n) (j : Nat) : 0 ≤ nth (wasL o.acts n) j ∧ nth (wasL o.acts n) j ≤ 2305843009213693952 := by
  by_cases h : j < n
  · rw [wasL_nth h]
    have := e.act (j + 1)
    omega
  · rw [nth_out (by rw [wasL_length]; omega)]
    omega
theorem wasL_set {acts : List Int} {n j : Nat} {x : Int} (hl : acts.length = n + 1) : (wasL acts n).set j x = wasL (acts.set (j + 1) x) n := by
  refine nth_ext (by rw [List.length_set, wasL_length, wasL_length]) fun k hk => ?_
  rw [List.length_set, wasL_length] at hk
  rw [nth_set _ _ _ _ (by rw [wasL_length]; exact hk), wasL_nth hk, wasL_nth hk, nth_set _ _ _ _ (by omega)]
  by_cases h : j = k
  · subst h; rw [if_pos rfl, if_pos rfl]
  · rw [if_neg h, if_neg (by omega)]
/-- A struct of two cells in a block. -/
theorem box2 {w : World} {b : Nat} {x y : Value} {e : TypeId} (h : w.heap[b]? = some (.cells #[x, y] e (0, 0))) :
    w.cell? ⟨b, 0, none⟩ = some x ∧ w.cell? ⟨b, 1, none⟩ = some y ∧ w.frozen? ⟨b, 0, none⟩ = false ∧ w.frozen? ⟨b, 1, none⟩ = false :=
  ⟨(cell_of_row w b 0 _ _ _ h).trans rfl, (cell_of_row w b 1 _ _ _ h).trans rfl, frozen_of_row w b 0 _ _ h, frozen_of_row w b 1 _ _ h⟩

theorem Mod.nothingY {w w' : World} {A : Option Addr} {n : Nat} (h : Mod (row (.slice A n 0)) w w') : Below w.heap.size w w' :=
  ⟨h.os, h.tape, h.output, h.size, fun g hg => h.block g hg (by rw [row_none]; exact id)⟩

set_option maxRecDepth 100000 in
set_option maxHeartbeats 4000000 in
theorem rdecay_ord {w : World} {F : Nat → Prop} {v : Value} {n : Nat} {o : Om} (hv : RefAt w F v n (wasL o.acts n) o.inc) (hw : o.WF n) :
    Calls Try.prog 43 #[v] w fun r w' => (∃ v, r = .returned v ∧ RefAt w' (fun g => F g ∨ w.heap.size ≤ g) v n (wasL o.decay.acts n) o.decay.inc) ∧ Below w.heap.size w w' := by
  obtain ⟨A, cap, rfl, O0⟩ := hv
  have i1 := hw.inc1
  have i2 := hw.inc2
  have hn := hw.vars
  obtain ⟨p, hp⟩ : ∃ p, o.inc / 8 = p := ⟨_, rfl⟩
  have p1 : o.inc.tdiv 8 = p := by rw [Int.tdiv_eq_ediv_of_nonneg (by omega)]; exact hp
  have p2 : IntKind.i64.wrap p = p := iw (by omega) (by omega)
  have p3 : IntKind.i64.wrap (o.inc + p) = o.inc + p := iw (by omega) (by omega)
  obtain ⟨i, hi⟩ : ∃ i, o.inc + p + 1 = i := ⟨_, rfl⟩
  have p4 : IntKind.i64.wrap i = i := iw (by omega) (by omega)
  have hib : 0 ≤ i ∧ i ≤ 2305843009213693952 := by omega
  have hd : o.decay = if 1099511627776 < i then Om.rescale ⟨o.acts, i⟩ else ⟨o.acts, i⟩ := by
    unfold Om.decay
    rw [hp, show o.inc + (p + 1) = i by omega]
  have Hd := hid hd
  have Hw := hid hw
  have Oh := hid O0
  have hz := zero_ref
  clear hd hw O0 hp
  by_cases hbig : 1099511627776 < i
  · have e : Hid (o.decay = ⟨o.acts.map low, one_or (low i)⟩) := by rw [Hd.out, if_pos hbig]; exact hid rfl
    go_enter Try.func43, Try.ntmps43
    go_wp2_with fail
    have b1 : Below w.heap.size w ((w.alloc (.cells #[.slice A n cap, .int .i64 i] 52)).alloc (.cells #[.slice none 0 0, .int .i64 0] 52)) := ((Below.refl _ _).alloc (Nat.le_refl _) _).alloc (by simp) _
    refine (rrescale_ord ⟨A, cap, rfl, Oh.out.below b1⟩ hn (wasL_bound Hw.out) hib).mono ?_
    rintro r w2 ⟨⟨_, rfl, A2, c2, rfl, O2⟩, b2⟩
    have G2 : w2.heap[w.heap.size]? = some (.cells #[.slice A n cap, .int .i64 i] 52 (0, 0)) := (b2.block _ (by simp; omega)).trans (heap_alloc2_old w _ _)
    have H2 : w2.heap[w.heap.size + 1]? = some (.cells #[.slice none 0 0, .int .i64 0] 52 (0, 0)) := (b2.block _ (by simp)).trans (heap_alloc2_new w _ _)
    have B2 := hid (b1.trans (b2.mono (by simp; omega)))
    obtain ⟨c0, c1, f0, f1⟩ := box2 G2
    obtain ⟨d0, d1, g0, g1⟩ := box2 H2
    have hh2 := lt_of_block H2
    have O2h : Hid (Own w2 (fun g => w.heap.size + 2 ≤ g) 3 1 (.slice A2 n c2) n (ints (wasL (o.acts.map low) n))) := by
      rw [wasL_map_low] at O2
      exact O2.mono fun g _ _ hg => by simp at hg; omega
    clear b1 b2 O2 G2 H2
    go_wp2_with fail
    have m : Mod (fun k => k = w.heap.size ∨ k = w.heap.size + 1) w2 ((((w2.setCell ⟨w.heap.size, 0, none⟩ (.slice A2 n c2)).setCell ⟨w.heap.size, 1, none⟩ (.int .i64 (one_or (low i)))).setCell ⟨w.heap.size + 1, 0, none⟩ (.slice A2 n c2)).setCell ⟨w.heap.size + 1, 1, none⟩ (.int .i64 (one_or (low i)))) :=
      ((((Mod.refl (fun k => k = w.heap.size ∨ k = w.heap.size + 1) _).setCell (p := ⟨w.heap.size, 0, none⟩) (.inl (.inl rfl)) _).setCell (p := ⟨w.heap.size, 1, none⟩) (.inl (.inl rfl)) _).setCell (p := ⟨w.heap.size + 1, 0, none⟩) (.inl (.inr rfl)) _).setCell (p := ⟨w.heap.size + 1, 1, none⟩) (.inl (.inr rfl)) _
    refine bodyPost_ret (v := .agg #[.slice A2 n c2, .int .i64 (one_or (low i))]) (by simp [results, Try.results43, go_sem, d0, d1]) rfl ⟨⟨_, rfl, A2, c2, by rw [e.out], ?_⟩, ?_⟩
    · rw [e.out]
      exact (O2h.out.mod m fun g _ _ h1 h2 => by omega).mono fun g _ _ h1 => .inr (by omega)
    · exact B2.out.trans ((m.mono (G := fun k => w.heap.size ≤ k) fun k _ hk => by omega).base (by omega))
  · have e : Hid (o.decay = ⟨o.acts, i⟩) := by rw [Hd.out, if_neg hbig]; exact hid rfl
    have hbig : (1099511627776 < i) = False := by simp; omega
    go_enter Try.func43, Try.ntmps43
    go_wp2_with fail
    have b1 : Below w.heap.size w ((w.alloc (.cells #[.slice A n cap, .int .i64 i] 52)).alloc (.cells #[.slice A n cap, .int .i64 i] 52)) := ((Below.refl _ _).alloc (Nat.le_refl _) _).alloc (by simp) _
    refine bodyPost_ret (v := .agg #[.slice A n cap, .int .i64 i]) (by simp [results, Try.results43, go_sem]) rfl ⟨⟨_, rfl, A, cap, by rw [e.out], ?_⟩, b1⟩
    rw [e.out]
    exact (Oh.out.below b1).mono fun g _ _ h => .inl h
set_option maxRecDepth 100000 in
set_option maxHeartbeats 4000000 in
theorem rbump_bad {w : World} {F : Nat → Prop} {v : Value} {n : Nat} {o : Om} (hv : RefAt w F v n (wasL o.acts n) o.inc) {x : Int} (hx : hasv n x = false) :
    Calls Try.prog 44 #[v, .int .i64 x] w fun r w' => r = .returned (.tuple #[v, .bool false]) ∧ Below w.heap.size w w' := by
  obtain ⟨A, cap, rfl, O0⟩ := hv
  have hx2 : x < 1 ∨ 1 ≤ x ∧ (n : Int) < x := by simp [hasv] at hx; omega
  have hz := zero_ref
  clear hx O0
  rcases hx2 with h1 | ⟨h2, h1⟩
  · go_enter Try.func44, Try.ntmps44
    go_wp2_with fail
    refine bodyPost_ret (v := .tuple #[.agg #[.slice A n cap, .int .i64 o.inc], .bool false]) (by simp [results, Try.results44, go_sem]) rfl ⟨rfl, ((Below.refl _ _).alloc (Nat.le_refl _) _).alloc (by simp) _⟩
  · have h2 : (x < 1) = False := by simp; omega
    go_enter Try.func44, Try.ntmps44
    go_wp2_with fail
    refine bodyPost_ret (v := .tuple #[.agg #[.slice A n cap, .int .i64 o.inc], .bool false]) (by simp [results, Try.results44, go_sem]) rfl ⟨rfl, ((Below.refl _ _).alloc (Nat.le_refl _) _).alloc (by simp) _⟩
set_option maxRecDepth 100000 in
set_option maxHeartbeats 4000000 in
theorem rbump_ord {w : World} {F : Nat → Prop} {v : Value} {n : Nat} {o : Om} (hv : RefAt w F v n (wasL o.acts n) o.inc) (hw : o.WF n) {j : Nat} (hj : j < n) :
    Calls Try.prog 44 #[v, .int .i64 ((j : Int) + 1)] w fun r w' => (∃ v, r = .returned (.tuple #[v, .bool true]) ∧ RefAt w' (fun g => F g ∨ w.heap.size ≤ g) v n (wasL (o.bump (j + 1)).acts n) (o.bump (j + 1)).inc) ∧ Below w.heap.size w w' := by
  obtain ⟨A, cap, rfl, O0⟩ := hv
  have i1 := hw.inc1
  have i2 := hw.inc2
  have hn := hw.vars
  have ha := hw.act (j + 1)
  have hz := zero_ref
  have x1 : (j : Int) < (n : Int) := by omega
  have x2 : ((n : Int) < (j : Int) + 1) = False := by simp; omega
  have x3 : ((j : Int) + 1 < 1) = False := by simp; omega
  obtain ⟨a, hea⟩ : ∃ a, nth o.acts (j + 1) = a := ⟨_, rfl⟩
  rw [hea] at ha
  obtain ⟨q, hq⟩ : ∃ q, a + o.inc = q := ⟨_, rfl⟩
  have q2 : IntKind.i64.wrap q = q := iw (by omega) (by omega)
  have Hw := hid hw
  have Oh := hid O0
  have Hea := hid hea
  clear hw O0 hea
  go_enter Try.func44, Try.ntmps44
  go_wp2_with (at_builtin; refine wpList_append_ints rfl _ _ rfl (Own.none_ _ (fun g => w.heap.size + 2 ≤ g) _ _ _) (Oh.out.below ((((Below.refl _ _).alloc (Nat.le_refl _) (.cells #[.slice A n cap, .int .i64 o.inc] 52)).alloc (by simp) (.cells #[.slice none 0 0, .int .i64 0] 52)).alloc (by simp; omega) (.cells #[] 3))).rd rfl rfl (ints_one _) (by omega) ?_; intro Av cv w3 ho3 hm3 hr3)
  have hm4 := Mod.nothingY hm3
  have G3 : w3.heap[w.heap.size]? = some (.cells #[.slice A n cap, .int .i64 o.inc] 52 (0, 0)) := (hm4.block _ (by simp; omega)).trans (heap_up_alloc (heap_alloc2_old w _ _))
  have H3 : w3.heap[w.heap.size + 1]? = some (.cells #[.slice none 0 0, .int .i64 0] 52 (0, 0)) := (hm4.block _ (by simp)).trans (heap_up_alloc (heap_alloc2_new w _ _))
  have B3 : Hid (Below w.heap.size w w3) := ((((Below.refl _ _).alloc (Nat.le_refl _) (.cells #[.slice A n cap, .int .i64 o.inc] 52)).alloc (by simp) (.cells #[.slice none 0 0, .int .i64 0] 52)).alloc (by simp; omega) (.cells #[] 3)).trans (hm4.mono (by simp; omega))
  have O3 : Hid (Own w3 (fun g => w.heap.size + 2 ≤ g) 3 1 (.slice Av n cv) n (ints (wasL o.acts n))) := by
    simp only [Nat.zero_add, List.nil_append] at ho3
    exact ho3.mono fun g _ _ hg => by simp at hg; omega
  obtain ⟨b, hb⟩ : ∃ b, w.heap.size = b := ⟨_, rfl⟩
  have Ob := hid (Oh.out.below B3.out)
  clear ho3 hm3 hr3 hm4
  rw [hb] at G3 H3 B3 O3 ⊢
  obtain ⟨g, rfl, hgb, _, e1, f1⟩ := O3.out.cell (j := j) (by omega)
  rw [ints_nth (by rw [wasL_length]; omega), wasL_nth hj, Hea.out] at e1
  have Hg := hid hgb
  obtain ⟨c0, c1, k0, k1⟩ := box2 G3
  have hh3 := lt_of_block H3
  obtain ⟨d0, d1, g0, g1⟩ := box2 H3
  have HG3 := hid G3
  have HH3 := hid H3
  clear G3 H3
  have r1 : (g = b) = False := by simp; omega
  have r2 : (b = g) = False := by simp; omega
  have r3 : (g = b + 1) = False := by simp; omega
  have r4 : (b + 1 = g) = False := by simp; omega
  have Oset : Hid (Own (w3.setCell ⟨g, j, none⟩ (.int .i64 q)) (fun k => b + 2 ≤ k) 3 1 (.slice (some ⟨g, 0, none⟩) n cv) n (ints (wasL (o.acts.set (j + 1) q) n))) := by
    rw [← wasL_set Hw.out.len, ints_set]
    exact O3.out.stored _
  have hb2 : b + 2 ≤ g := Hg.out
  have hbump : Hid (o.bump (j + 1) = if 1152921504606846976 < q then Om.rescale ⟨o.acts.set (j + 1) q, o.inc⟩ else ⟨o.acts.set (j + 1) q, o.inc⟩) := by
    unfold Om.bump
    rw [Hea.out, hq]
    exact hid rfl
  by_cases hbig : 1152921504606846976 < q
  · have e : Hid (o.bump (j + 1) = ⟨(o.acts.set (j + 1) q).map low, one_or (low o.inc)⟩) := by rw [hbump.out, if_pos hbig]; exact hid rfl
    have Wb : Hid (∀ k, 0 ≤ nth (wasL (o.acts.set (j + 1) q) n) k ∧ nth (wasL (o.acts.set (j + 1) q) n) k ≤ 2305843009213693952) := by
      refine hid fun k => ?_
      by_cases hk : k < n
      · rw [wasL_nth hk, nth_set']
        have := Hw.out.act (k + 1)
        split <;> omega
      · rw [nth_out (by rw [wasL_length]; omega)]
        omega
    go_region
    go_wp2_with fail
    have m0 : Mod (fun k => k = g) w3 (w3.setCell ⟨g, j, none⟩ (.int .i64 q)) := (Mod.refl (fun k => k = g) _).setCell (p := ⟨g, j, none⟩) (.inl rfl) _
    have G4 : ((w3.setCell ⟨g, j, none⟩ (.int .i64 q)).setCell ⟨b, 0, none⟩ (.slice (some ⟨g, 0, none⟩) n cv)).drew.heap[b]? = some (.cells #[.slice (some ⟨g, 0, none⟩) n cv, .int .i64 o.inc] 52 (0, 0)) :=
      heap_setCell_same _ _ 0 _ _ _ ((m0.block b (by omega) (by omega)).trans HG3.out)
    have m1 : Mod (fun k => k = b) (w3.setCell ⟨g, j, none⟩ (.int .i64 q)) ((w3.setCell ⟨g, j, none⟩ (.int .i64 q)).setCell ⟨b, 0, none⟩ (.slice (some ⟨g, 0, none⟩) n cv)).drew := ((Mod.refl (fun k => k = b) _).setCell (p := ⟨b, 0, none⟩) (.inl rfl) _).drew
    have H4 : ((w3.setCell ⟨g, j, none⟩ (.int .i64 q)).setCell ⟨b, 0, none⟩ (.slice (some ⟨g, 0, none⟩) n cv)).drew.heap[b + 1]? = some (.cells #[.slice none 0 0, .int .i64 0] 52 (0, 0)) :=
      (m1.block (b + 1) (by simp; omega) (by omega)).trans ((m0.block (b + 1) (by omega) (by omega)).trans HH3.out)
    have B4 : Hid (Below b w ((w3.setCell ⟨g, j, none⟩ (.int .i64 q)).setCell ⟨b, 0, none⟩ (.slice (some ⟨g, 0, none⟩) n cv)).drew) := (B3.out.trans ((m0.mono (G := fun k => b ≤ k) fun k _ hk => by omega).base (by omega))).trans ((m1.mono (G := fun k => b ≤ k) fun k _ hk => by omega).base (by simp; omega))
    have O4 := Oset.out.mod m1 fun k _ h1 h2 => by omega
    have hsz : ((w3.setCell ⟨g, j, none⟩ (.int .i64 q)).setCell ⟨b, 0, none⟩ (.slice (some ⟨g, 0, none⟩) n cv)).drew.heap.size = w3.heap.size := by simp
    generalize ((w3.setCell ⟨g, j, none⟩ (.int .i64 q)).setCell ⟨b, 0, none⟩ (.slice (some ⟨g, 0, none⟩) n cv)).drew = w4 at *
    refine (rrescale_ord ⟨_, cv, rfl, O4⟩ hn Wb.out (by omega)).mono ?_
    rintro r w5 ⟨⟨_, rfl, A2, c2, rfl, O5⟩, b5⟩
    have G5 := (b5.block b (by omega)).trans G4
    have H5 := (b5.block (b + 1) (by omega)).trans H4
    have B5 : Hid (Below b w w5) := B4.out.trans (b5.mono (by omega))
    have O5h : Hid (Own w5 (fun k => b + 2 ≤ k) 3 1 (.slice A2 n c2) n (ints (wasL ((o.acts.set (j + 1) q).map low) n))) := by
      rw [wasL_map_low] at O5
      exact O5.mono fun g _ _ hg => by omega
    clear c0 c1 k0 k1 d0 d1 g0 g1 G4 H4 O4 B4 O5 m0 m1
    obtain ⟨c0, c1, k0, k1⟩ := box2 G5
    obtain ⟨d0, d1, g0, g1⟩ := box2 H5
    have hh5 := lt_of_block H5
    clear G5 H5 b5
    go_wp2_with fail
    have m : Mod (fun k => k = b ∨ k = b + 1) w5 ((((w5.setCell ⟨b, 0, none⟩ (.slice A2 n c2)).setCell ⟨b, 1, none⟩ (.int .i64 (one_or (low o.inc)))).setCell ⟨b + 1, 0, none⟩ (.slice A2 n c2)).setCell ⟨b + 1, 1, none⟩ (.int .i64 (one_or (low o.inc)))) :=
      ((((Mod.refl (fun k => k = b ∨ k = b + 1) _).setCell (p := ⟨b, 0, none⟩) (.inl (.inl rfl)) _).setCell (p := ⟨b, 1, none⟩) (.inl (.inl rfl)) _).setCell (p := ⟨b + 1, 0, none⟩) (.inl (.inr rfl)) _).setCell (p := ⟨b + 1, 1, none⟩) (.inl (.inr rfl)) _
    refine bodyPost_ret (v := .tuple #[.agg #[.slice A2 n c2, .int .i64 (one_or (low o.inc))], .bool true]) (by simp [results, Try.results44, go_sem, d0, d1]) rfl ⟨⟨_, rfl, _, _, by rw [e.out], ?_⟩, ?_⟩
    · rw [e.out, hb]
      exact (O5h.out.mod m fun k _ h1 h2 => by omega).mono fun k _ _ h1 => .inr (by omega)
    · rw [hb]
      exact B5.out.trans ((m.mono (G := fun k => b ≤ k) fun k _ hk => by omega).base (by omega))
  · have e : Hid (o.bump (j + 1) = ⟨o.acts.set (j + 1) q, o.inc⟩) := by rw [hbump.out, if_neg hbig]; exact hid rfl
    have hbig : (1152921504606846976 < q) = False := by simp; omega
    go_region
    go_wp2_with fail
    have m : Mod (fun k => k = b ∨ k = b + 1) (w3.setCell ⟨g, j, none⟩ (.int .i64 q)) (((((w3.setCell ⟨g, j, none⟩ (.int .i64 q)).setCell ⟨b, 0, none⟩ (.slice (some ⟨g, 0, none⟩) n cv)).setCell ⟨b + 1, 0, none⟩ (.slice (some ⟨g, 0, none⟩) n cv)).setCell ⟨b + 1, 1, none⟩ (.int .i64 o.inc)).drew) :=
      ((((Mod.refl (fun k => k = b ∨ k = b + 1) _).setCell (p := ⟨b, 0, none⟩) (.inl (.inl rfl)) _).setCell (p := ⟨b + 1, 0, none⟩) (.inl (.inr rfl)) _).setCell (p := ⟨b + 1, 1, none⟩) (.inl (.inr rfl)) _).drew
    have m0 : Mod (fun k => k = g) w3 (w3.setCell ⟨g, j, none⟩ (.int .i64 q)) := (Mod.refl (fun k => k = g) _).setCell (p := ⟨g, j, none⟩) (.inl rfl) _
    refine bodyPost_ret (v := .tuple #[.agg #[.slice (some ⟨g, 0, none⟩) n cv, .int .i64 o.inc], .bool true]) (by simp [results, Try.results44, go_sem, d0, d1]) rfl ⟨⟨_, rfl, _, _, by rw [e.out], ?_⟩, ?_⟩
    · rw [e.out]
      exact (Oset.out.mod m fun k _ h1 h2 => by omega).mono fun k _ _ h1 => .inr (by omega)
    · exact (B3.out.trans ((m0.mono (G := fun k => b ≤ k) fun k _ hk => by omega).base (by omega))).trans ((m.mono (G := fun k => b ≤ k) fun k _ hk => by omega).base (by simp; omega))
end Go.Proofs.Ytdkbchpogmiohaa
