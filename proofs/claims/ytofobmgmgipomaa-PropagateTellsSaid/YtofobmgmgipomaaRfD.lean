/-
  Chapter 24, the reference: Units.
-/
import Derived.Test.YtofobmgmgipomaaRfC
import Derived.Test.YtofobmgmgipomaaRfE
namespace Go.Proofs.Ytofobmgmgipomaa
open Go.RowKit

theorem unitsB_off {c : Pb} {av : List Int} (h : ¬ (c.ok = true ∧ 0 ≤ c.slackB av)) : c.unitsB av = [] := by
  unfold Pb.unitsB
  rw [if_neg h]
set_option maxRecDepth 100000 in
set_option maxHeartbeats 4000000 in
theorem runits_any {w : World} {F G : Nat → Prop} {v : Value} {c : Pb} {A : Option Addr} {na ca : Nat} {av : List Int} (hc : PbRd w F v c) (hi : ∀ k ∈ c.coefs, I64 k) (h40 : c.lits.length ≤ 65536) (ha : Rd w G 1 (.slice A na ca) na (i8s av)) :
    Calls Try.prog 51 #[v, .slice A na ca] w fun r w' => (∃ R cc, r = .returned (.slice R (c.unitsB av).length cc) ∧ Own w' (fun g => w.heap.size ≤ g) 3 1 (.slice R (c.unitsB av).length cc) (c.unitsB av).length (ints (c.unitsB av))) ∧ Below w.heap.size w w' := by
  have Hc := hid hc
  obtain ⟨⟨L, n, cn, K, m, cm, rfl, hx, hk⟩, hb⟩ := hc
  have hxl : c.lits.length = n := by have := hx.1; simpa [ints_length] using this
  have hkl : c.coefs.length = m := by have := hk.1; simpa [ints_length] using this
  obtain ⟨X, hX, bX, kX, sX⟩ := alloc_step w (.cells #[.slice L n cn, .slice K m cm, .int .i64 c.bound] 36)
  obtain ⟨Z, hZ⟩ : ∃ z, w.heap.size = z := ⟨_, rfl⟩
  have Hc2 := hid (Hc.out.below bX)
  have Ha2 := hid (ha.below bX)
  have Hx2 := hid (hx.below bX)
  have Hk2 := hid (hk.below bX)
  have HB := hid bX
  rw [hZ] at kX
  have KX := hid kX
  have HX := hid hX
  have HZ := hid hZ
  have Hi := hid hi
  have Hxl := hid hxl
  have Hkl := hid hkl
  have hn6 : n ≤ 65536 := by omega
  clear hx hk ha bX kX hX hZ sX hi Hc hb hxl hkl
  obtain ⟨e0, e1, e2⟩ := box3 KX.out
  cases hok : c.ok
  · have Hok0 := hid hok
    have Hu := hid (unitsB_off (c := c) (av := av) (by rw [hok]; simp))
    clear hok
    go_enter Try.func51, Try.ntmps51
    go_wp2_with fail
    rw [HX.out, HZ.out]
    refine (rvalid_any Hc2.out Hi.out h40).mono ?_
    rintro r w1 ⟨rfl, b1⟩
    rw [Hok0.out]
    have HB1 := hid (HB.out.trans (b1.mono HB.out.size))
    clear b1 e0 e1 e2
    go_wp2_with fail
    go_ret
    exact ⟨⟨none, 0, by rw [Hu.out]; rfl, by rw [Hu.out]; exact Own.nil _ _ _ _⟩, HB1.out⟩
  · have Hok0 := hid hok
    have Hok := hid ((Pb.ok_iff _).1 hok)
    obtain ⟨s, hs⟩ : ∃ s, c.slackB av = s := ⟨_, rfl⟩
    have Hs := hid hs
    have Hu := hid (show c.unitsB av = if 0 ≤ s then c.pick (fun l k => decide (valB av l = 0) && decide (s < k)) (List.range n) else [] by
      unfold Pb.unitsB
      rw [hok, hs, Hxl.out]
      simp)
    have hnm : n = m := by rw [← Hxl.out, ← Hkl.out]; exact Hok.out.len
    subst hnm
    clear hok hs
    go_enter Try.func51, Try.ntmps51
    go_wp2_with fail
    rw [HX.out, HZ.out]
    refine (rvalid_any Hc2.out Hi.out h40).mono ?_
    rintro r w1 ⟨rfl, b1⟩
    rw [Hok0.out]
    have k1 := hid (keep_blk KX.out b1)
    have Hc3 := hid (Hc2.out.below b1)
    have Ha3 := hid (Ha2.out.below b1)
    have Hx3 := hid (Hx2.out.below b1)
    have Hk3 := hid (Hk2.out.below b1)
    have HB1 := hid (HB.out.trans (b1.mono HB.out.size))
    clear b1 e0 e1 e2
    obtain ⟨e0, e1, e2⟩ := box3 k1.out
    go_wp2_with fail
    refine (rslack_any Hc3.out Hi.out h40 Ha3.out).mono ?_
    rintro r w2 ⟨rfl, b2⟩
    rw [Hs.out]
    have k2 := hid (keep_blk k1.out b2)
    have Hc4 := hid (Hc3.out.below b2)
    have Ha4 := hid (Ha3.out.below b2)
    have Hx4 := hid (Hx3.out.below b2)
    have Hk4 := hid (Hk3.out.below b2)
    have HB2 := hid (HB1.out.trans (b2.mono HB1.out.size))
    clear b2 e0 e1 e2
    by_cases h0 : s < 0
    · have Hu2 := hid (show c.unitsB av = [] by rw [Hu.out, if_neg (by omega)])
      go_wp2_with fail
      go_ret
      exact ⟨⟨none, 0, by rw [Hu2.out]; rfl, by rw [Hu2.out]; exact Own.nil _ _ _ _⟩, HB2.out⟩
    · have Hu2 := hid (show c.unitsB av = c.pick (fun l k => decide (valB av l = 0) && decide (s < k)) (List.range n) by rw [Hu.out, if_pos (by omega)])
      go_wp2_with fail
      go_loopw [5, 6] (fun ov iv W => ∃ (j : Nat) (P : List Int) (A1 : Option Addr) (c1 : Nat), j ≤ n ∧ iv = .int .i64 j ∧ ov = .slice A1 P.length c1 ∧ Hid (P = c.pick (fun l k => decide (valB av l = 0) && decide (s < k)) (List.range j)) ∧ Hid (Grw w2.heap.size w2 W (.slice A1 P.length c1) P.length P)) (fun _ iv _ => n - (intOf iv).toNat)
      case atStart => exact ⟨0, [], none, 0, by omega, rfl, rfl, hid rfl, hid (Grw.start w2)⟩
      case round =>
        obtain ⟨j, P, A1, c1, hj, rfl, rfl, HP, HG⟩ := hrel
        obtain ⟨e0, e1, e2⟩ := box3 (keep_blk k2.out HG.out.2.1)
        by_cases hlt : j < n
        · have x1 : (j : Int) < (n : Int) := by omega
          obtain ⟨g, o, rfl, _, hg, hcx⟩ := (Hx4.out.below HG.out.2.1).cell.2 j hlt
          obtain ⟨g', o', rfl, _, hg', hck⟩ := (Hk4.out.below HG.out.2.1).cell.2 j hlt
          have hl := Hok.out.lit j (by rw [Hxl.out]; exact hlt)
          have hps := c.pick_snoc (fun l k => decide (valB av l = 0) && decide (s < k)) (List.range j) j
          have hpl := c.pick_len (fun l k => decide (valB av l = 0) && decide (s < k)) (List.range j)
          rw [← HP.out, List.length_range] at hpl
          rw [← List.range_succ, ← HP.out] at hps
          obtain ⟨lj, hlj⟩ : ∃ x, nth c.lits j = x := ⟨_, rfl⟩
          obtain ⟨kj, hkj⟩ : ∃ x, nth c.coefs j = x := ⟨_, rfl⟩
          rw [hlj] at hl hcx hps
          rw [hkj] at hck hps
          obtain ⟨vv, hvv⟩ : ∃ x, valB av lj = x := ⟨_, rfl⟩
          rw [hvv] at hps
          have Hvv := hid hvv
          have Hc5 := hid (Hc4.out.below HG.out.2.1)
          have Ha5 := hid (Ha4.out.below HG.out.2.1)
          have Hps := hid hps
          obtain ⟨bd, hbd⟩ : ∃ x, c.bound = x := ⟨_, rfl⟩
          rw [hbd] at e2 Hc5
          clear hlj hkj hvv hps hg hg' hbd
          go_wp2_with fail
          by_cases hv0 : vv = 0
          · subst hv0
            obtain ⟨q, hq⟩ : ∃ q, decide (s < kj) = q := ⟨_, rfl⟩
            have Hps2 := hid (show c.pick (fun l k => decide (valB av l = 0) && decide (s < k)) (List.range (j + 1)) = P ++ if q = true then [lj] else [] by rw [Hps.out, hq]; simp)
            clear Hps
            -- UNITT
            have HBd := Bl.drew (Below.refl wr.heap.size wr)
            refine wp_region_held_drew (S := fun w' => (w'.cell? ⟨Z, 0, none⟩ = some (.slice (some ⟨g, o, none⟩) n cn) ∧ w'.cell? ⟨Z, 1, none⟩ = some (.slice (some ⟨g', o', none⟩) n cm) ∧ w'.cell? ⟨Z, 2, none⟩ = some (.int .i64 bd) ∧ w'.cell? ⟨g, o + j, none⟩ = some (.int .i64 lj) ∧ w'.cell? ⟨g', o' + j, none⟩ = some (.int .i64 kj)) ∧ Hid (Below wr.heap.size wr w')) (by kernel_rfl) ⟨⟨keep_cell e0 HBd, keep_cell e1 HBd, keep_cell e2 HBd, keep_cell hcx HBd, keep_cell hck HBd⟩, hid HBd⟩ (fun hHeld => ?_)
            clear HBd
            refine wpAnyH_take (i := 0) (oi := ⟨_, _, _, _, _, _⟩) (v := ?_) rfl (by kernel_rfl) (by kernel_rfl) (by kernel_rfl) (fun _ _ _ h => h) (Or.inl ⟨by rfl, ?_⟩) (by assumption) ?_
            rotate_left
            · intro w hSw
              try dsimp only at hSw
              go_simp
              try with_reducible rfl
            simp only [Act.put, List.setIfInBounds_toArray, List.set_cons_zero, List.set_cons_succ]
            refine wpAnyH_take (i := 1) (oi := ⟨_, _, _, _, _, _⟩) (v := ?_) rfl (by kernel_rfl) (by kernel_rfl) (by kernel_rfl) (fun _ _ _ h => h) (Or.inl ⟨by rfl, ?_⟩) (by assumption) ?_
            rotate_left
            · intro w hSw
              try dsimp only at hSw
              go_simp
              try with_reducible rfl
            simp only [Act.put, List.setIfInBounds_toArray, List.set_cons_zero, List.set_cons_succ]
            refine wpAnyH_take (i := 2) (oi := ⟨_, _, _, _, _, _⟩) (v := ?_) rfl (by kernel_rfl) (by kernel_rfl) (by kernel_rfl) (fun _ _ _ h => h) (Or.inl ⟨by rfl, ?_⟩) (by assumption) ?_
            rotate_left
            · intro w hSw
              try dsimp only at hSw
              go_simp
              try with_reducible rfl
            simp only [Act.put, List.setIfInBounds_toArray, List.set_cons_zero, List.set_cons_succ]
            refine wpAnyH_take (i := 3) (oi := ⟨_, _, _, _, _, _⟩) (v := ?_) rfl (by kernel_rfl) (by kernel_rfl) (by kernel_rfl) (fun _ _ _ h => h) (Or.inl ⟨by rfl, ?_⟩) (by assumption) ?_
            rotate_left
            · intro w hSw
              try dsimp only at hSw
              go_simp
              try with_reducible rfl
            simp only [Act.put, List.setIfInBounds_toArray, List.set_cons_zero, List.set_cons_succ]
            refine wpAnyH_take (i := 4) (oi := ⟨_, _, _, _, _, _⟩) (v := ?_) rfl (by kernel_rfl) (by kernel_rfl) (by kernel_rfl) (fun _ _ _ h => h) (Or.inl ⟨by rfl, ?_⟩) (by assumption) ?_
            rotate_left
            · intro w hSw
              try dsimp only at hSw
              go_simp
              try with_reducible rfl
            simp only [Act.put, List.setIfInBounds_toArray, List.set_cons_zero, List.set_cons_succ]
            refine wpAnyH_take (i := 5) (oi := ⟨_, _, _, _, _, _⟩) (v := ?_) rfl (by kernel_rfl) (by kernel_rfl) (by kernel_rfl) (fun _ _ _ h => h) (Or.inl ⟨by rfl, ?_⟩) (by assumption) ?_
            rotate_left
            · intro w hSw
              try dsimp only at hSw
              go_simp
              try with_reducible rfl
            simp only [Act.put, List.setIfInBounds_toArray, List.set_cons_zero, List.set_cons_succ]
            refine wpAnyH_ready (rs := [6]) (by kernel_rfl) (by simp) (AllReadyH.cons (o := ⟨_, _, _, _, _, _⟩) rfl (fun K hK => ?_) AllReadyH.nil)
            go_simp
            refine (rvalue_any (Ha5.out.below hHeld.2.out) hl.1 (by omega) (by omega)).mono ?_
            rintro r w7 ⟨rfl, rfl⟩
            rw [Hvv.out]
            go_simp
            refine hK.out _ _ hHeld (fun hHeld => ?_)
            clear hK K
            try simp only [Act.put, List.setIfInBounds_toArray, List.set_cons_zero, List.set_cons_succ]
            refine wpAnyH_take (i := 7) (oi := ⟨_, _, _, _, _, _⟩) (v := ?_) rfl (by kernel_rfl) (by kernel_rfl) (by kernel_rfl) (fun _ _ _ h => h) (Or.inl ⟨by rfl, ?_⟩) (by assumption) ?_
            rotate_left
            · intro w hSw
              try dsimp only at hSw
              go_simp
              try with_reducible rfl
            simp only [Act.put, List.setIfInBounds_toArray, List.set_cons_zero, List.set_cons_succ]
            refine wpAnyH_take (i := 8) (oi := ⟨_, _, _, _, _, _⟩) (v := ?_) rfl (by kernel_rfl) (by kernel_rfl) (by kernel_rfl) (fun _ _ _ h => h) (Or.inl ⟨by rfl, ?_⟩) (by assumption) ?_
            rotate_left
            · intro w hSw
              try dsimp only at hSw
              go_simp
              try with_reducible rfl
            simp only [Act.put, List.setIfInBounds_toArray, List.set_cons_zero, List.set_cons_succ]
            refine wpAnyH_take (i := 9) (oi := ⟨_, _, _, _, _, _⟩) (v := ?_) rfl (by kernel_rfl) (by kernel_rfl) (by kernel_rfl) (fun _ _ _ h => h) (Or.inl ⟨by rfl, ?_⟩) (by assumption) ?_
            rotate_left
            · intro w hSw
              try dsimp only at hSw
              go_simp
              try with_reducible rfl
            simp only [Act.put, List.setIfInBounds_toArray, List.set_cons_zero, List.set_cons_succ]
            refine wpAnyH_take (i := 10) (oi := ⟨_, _, _, _, _, _⟩) (v := ?_) rfl (by kernel_rfl) (by kernel_rfl) (by kernel_rfl) (fun _ _ _ h => h) (Or.inl ⟨by rfl, ?_⟩) (by assumption) ?_
            rotate_left
            · intro w hSw
              try dsimp only at hSw
              go_simp
              try with_reducible rfl
            simp only [Act.put, List.setIfInBounds_toArray, List.set_cons_zero, List.set_cons_succ]
            refine wpAnyH_take (i := 11) (oi := ⟨_, _, _, _, _, _⟩) (v := ?_) rfl (by kernel_rfl) (by kernel_rfl) (by kernel_rfl) (fun _ _ _ h => h) (Or.inl ⟨by rfl, ?_⟩) (by assumption) ?_
            rotate_left
            · intro w hSw
              try dsimp only at hSw
              go_simp
              try with_reducible rfl
            simp only [Act.put, List.setIfInBounds_toArray, List.set_cons_zero, List.set_cons_succ]
            refine wpAnyH_take (i := 12) (oi := ⟨_, _, _, _, _, _⟩) (v := ?_) rfl (by kernel_rfl) (by kernel_rfl) (by kernel_rfl) (fun _ _ _ h => h) (Or.inl ⟨by rfl, ?_⟩) (by assumption) ?_
            rotate_left
            · intro w hSw
              try dsimp only at hSw
              go_simp
              try with_reducible rfl
            simp only [Act.put, List.setIfInBounds_toArray, List.set_cons_zero, List.set_cons_succ]
            refine wpAnyH_take (i := 13) (oi := ⟨_, _, _, _, _, _⟩) (v := ?_) rfl (by kernel_rfl) (by kernel_rfl) (by kernel_rfl) (fun _ _ _ h => h) (Or.inl ⟨by rfl, ?_⟩) (by assumption) ?_
            rotate_left
            · intro w hSw
              try dsimp only at hSw
              go_simp
              try with_reducible rfl
            simp only [Act.put, List.setIfInBounds_toArray, List.set_cons_zero, List.set_cons_succ]
            refine wpAnyH_take (i := 14) (oi := ⟨_, _, _, _, _, _⟩) (v := ?_) rfl (by kernel_rfl) (by kernel_rfl) (by kernel_rfl) (fun _ _ _ h => h) (Or.inl ⟨by rfl, ?_⟩) (by assumption) ?_
            rotate_left
            · intro w hSw
              try dsimp only at hSw
              go_simp
              try with_reducible rfl
            simp only [Act.put, List.setIfInBounds_toArray, List.set_cons_zero, List.set_cons_succ]
            refine wpAnyH_take (i := 15) (oi := ⟨_, _, _, _, _, _⟩) (v := ?_) rfl (by kernel_rfl) (by kernel_rfl) (by kernel_rfl) (fun _ _ _ h => h) (Or.inl ⟨by rfl, ?_⟩) (by assumption) ?_
            rotate_left
            · intro w hSw
              try dsimp only at hSw
              go_simp
              try with_reducible rfl
            simp only [Act.put, List.setIfInBounds_toArray, List.set_cons_zero, List.set_cons_succ]
            refine wpAnyH_ready (rs := [16]) (by kernel_rfl) (by simp) (AllReadyH.cons (o := ⟨_, _, _, _, _, _⟩) rfl (fun K hK => ?_) AllReadyH.nil)
            go_simp
            refine (rslack_any (Hc5.out.below hHeld.2.out) Hi.out h40 (Ha5.out.below hHeld.2.out)).mono ?_
            rintro r w8 ⟨rfl, b8⟩
            rw [Hs.out]
            go_simp
            refine hK.out _ _ ⟨⟨keep_cell hHeld.1.1 b8, keep_cell hHeld.1.2.1 b8, keep_cell hHeld.1.2.2.1 b8, keep_cell hHeld.1.2.2.2.1 b8, keep_cell hHeld.1.2.2.2.2 b8⟩, hid (hHeld.2.out.trans (b8.mono hHeld.2.out.size))⟩ (fun hHeld => ?_)
            clear hK K
            try simp only [Act.put, List.setIfInBounds_toArray, List.set_cons_zero, List.set_cons_succ]
            refine wpAnyH_take (i := 17) (oi := ⟨_, _, _, _, _, _⟩) (v := ?_) rfl (by kernel_rfl) (by kernel_rfl) (by kernel_rfl) (fun _ _ _ h => h) (Or.inl ⟨by rfl, ?_⟩) (by assumption) ?_
            rotate_left
            · intro w hSw
              try dsimp only at hSw
              go_simp
              try with_reducible rfl
            simp only [Act.put, List.setIfInBounds_toArray, List.set_cons_zero, List.set_cons_succ]
            refine wpAnyH_take (i := 18) (oi := ⟨_, _, _, _, _, _⟩) (v := ?_) rfl (by kernel_rfl) (by kernel_rfl) (by kernel_rfl) (fun _ _ _ h => h) (Or.inl ⟨by rfl, ?_⟩) (by assumption) ?_
            rotate_left
            · intro w hSw
              try dsimp only at hSw
              go_simp
              try with_reducible rfl
            simp only [Act.put, List.setIfInBounds_toArray, List.set_cons_zero, List.set_cons_succ]
            refine wpAnyH_done (by kernel_rfl) ?_ _
            -- END UNITT
            obtain ⟨⟨e0, e1, e2, e3, e4⟩, HB9⟩ := hHeld
            have HG9 := hid (HG.out.below HB9.out)
            clear HG HB9 hq
            cases q
            · go_wp2_with fail
              go_roundw
              case rel => exact ⟨j + 1, P, A1, c1, by omega, by go_num, rfl, hid (by rw [Hps2.out]; simp), HG9⟩
              case measure => simp [intOf]; omega
            · obtain ⟨w9, rfl⟩ : ∃ W : World, W = w8 := ⟨_, rfl⟩
              go_wp2_with (first
                | (at_builtin; refine wpList_append_ints rfl _ _ rfl (HG9.out.alloc (.cells #[.int .i64 lj] 3)).1 (own_one w9 (.int .i64 lj)).rd rfl rfl (by simp [Value.oneCell']) (by omega) ?_; intro Av3 cv3 W3 ho3 hm3 hr3; have T3 := hid ((HG9.out.alloc (.cells #[.int .i64 lj] 3)).push (ys := P ++ [lj]) (by rw [ints_append]; exact ho3) hm3); clear ho3 hm3 hr3))
              go_roundw
              case rel => exact ⟨j + 1, P ++ [lj], Av3, cv3, by omega, by go_num, by simp, hid (by rw [Hps2.out]; simp), by simpa using T3⟩
              case measure => simp [intOf]; omega
          · have hvb : (vv == 0) = false := by simpa using hv0
            have Hps2 := hid (show c.pick (fun l k => decide (valB av l = 0) && decide (s < k)) (List.range (j + 1)) = P by rw [Hps.out, decide_eq_false hv0]; simp)
            clear Hps hv0
            -- UNITF
            have HBd := Bl.drew (Below.refl wr.heap.size wr)
            refine wp_region_held_drew (S := fun w' => (w'.cell? ⟨Z, 0, none⟩ = some (.slice (some ⟨g, o, none⟩) n cn) ∧ w'.cell? ⟨Z, 1, none⟩ = some (.slice (some ⟨g', o', none⟩) n cm) ∧ w'.cell? ⟨Z, 2, none⟩ = some (.int .i64 bd) ∧ w'.cell? ⟨g, o + j, none⟩ = some (.int .i64 lj) ∧ w'.cell? ⟨g', o' + j, none⟩ = some (.int .i64 kj)) ∧ Hid (Below wr.heap.size wr w')) (by kernel_rfl) ⟨⟨keep_cell e0 HBd, keep_cell e1 HBd, keep_cell e2 HBd, keep_cell hcx HBd, keep_cell hck HBd⟩, hid HBd⟩ (fun hHeld => ?_)
            clear HBd
            refine wpAnyH_take (i := 0) (oi := ⟨_, _, _, _, _, _⟩) (v := ?_) rfl (by kernel_rfl) (by kernel_rfl) (by kernel_rfl) (fun _ _ _ h => h) (Or.inl ⟨by rfl, ?_⟩) (by assumption) ?_
            rotate_left
            · intro w hSw
              try dsimp only at hSw
              go_simp
              try with_reducible rfl
            simp only [Act.put, List.setIfInBounds_toArray, List.set_cons_zero, List.set_cons_succ]
            refine wpAnyH_take (i := 1) (oi := ⟨_, _, _, _, _, _⟩) (v := ?_) rfl (by kernel_rfl) (by kernel_rfl) (by kernel_rfl) (fun _ _ _ h => h) (Or.inl ⟨by rfl, ?_⟩) (by assumption) ?_
            rotate_left
            · intro w hSw
              try dsimp only at hSw
              go_simp
              try with_reducible rfl
            simp only [Act.put, List.setIfInBounds_toArray, List.set_cons_zero, List.set_cons_succ]
            refine wpAnyH_take (i := 2) (oi := ⟨_, _, _, _, _, _⟩) (v := ?_) rfl (by kernel_rfl) (by kernel_rfl) (by kernel_rfl) (fun _ _ _ h => h) (Or.inl ⟨by rfl, ?_⟩) (by assumption) ?_
            rotate_left
            · intro w hSw
              try dsimp only at hSw
              go_simp
              try with_reducible rfl
            simp only [Act.put, List.setIfInBounds_toArray, List.set_cons_zero, List.set_cons_succ]
            refine wpAnyH_take (i := 3) (oi := ⟨_, _, _, _, _, _⟩) (v := ?_) rfl (by kernel_rfl) (by kernel_rfl) (by kernel_rfl) (fun _ _ _ h => h) (Or.inl ⟨by rfl, ?_⟩) (by assumption) ?_
            rotate_left
            · intro w hSw
              try dsimp only at hSw
              go_simp
              try with_reducible rfl
            simp only [Act.put, List.setIfInBounds_toArray, List.set_cons_zero, List.set_cons_succ]
            refine wpAnyH_take (i := 4) (oi := ⟨_, _, _, _, _, _⟩) (v := ?_) rfl (by kernel_rfl) (by kernel_rfl) (by kernel_rfl) (fun _ _ _ h => h) (Or.inl ⟨by rfl, ?_⟩) (by assumption) ?_
            rotate_left
            · intro w hSw
              try dsimp only at hSw
              go_simp
              try with_reducible rfl
            simp only [Act.put, List.setIfInBounds_toArray, List.set_cons_zero, List.set_cons_succ]
            refine wpAnyH_take (i := 5) (oi := ⟨_, _, _, _, _, _⟩) (v := ?_) rfl (by kernel_rfl) (by kernel_rfl) (by kernel_rfl) (fun _ _ _ h => h) (Or.inl ⟨by rfl, ?_⟩) (by assumption) ?_
            rotate_left
            · intro w hSw
              try dsimp only at hSw
              go_simp
              try with_reducible rfl
            simp only [Act.put, List.setIfInBounds_toArray, List.set_cons_zero, List.set_cons_succ]
            refine wpAnyH_ready (rs := [6]) (by kernel_rfl) (by simp) (AllReadyH.cons (o := ⟨_, _, _, _, _, _⟩) rfl (fun K hK => ?_) AllReadyH.nil)
            go_simp
            refine (rvalue_any (Ha5.out.below hHeld.2.out) hl.1 (by omega) (by omega)).mono ?_
            rintro r w7 ⟨rfl, rfl⟩
            rw [Hvv.out]
            go_simp
            refine hK.out _ _ hHeld (fun hHeld => ?_)
            clear hK K
            try simp only [Act.put, List.setIfInBounds_toArray, List.set_cons_zero, List.set_cons_succ]
            refine wpAnyH_take (i := 7) (oi := ⟨_, _, _, _, _, _⟩) (v := ?_) rfl (by kernel_rfl) (by kernel_rfl) (by kernel_rfl) (fun _ _ _ h => h) (Or.inl ⟨by rfl, ?_⟩) (by assumption) ?_
            rotate_left
            · intro w hSw
              try dsimp only at hSw
              go_simp
              try with_reducible rfl
            simp only [Act.put, List.setIfInBounds_toArray, List.set_cons_zero, List.set_cons_succ]
            refine wpAnyH_take (i := 8) (oi := ⟨_, _, _, _, _, _⟩) (v := ?_) rfl (by kernel_rfl) (by kernel_rfl) (by kernel_rfl) (fun _ _ _ h => h) (Or.inl ⟨by rfl, ?_⟩) (by assumption) ?_
            rotate_left
            · intro w hSw
              try dsimp only at hSw
              go_simp
              try with_reducible rfl
            simp only [Act.put, List.setIfInBounds_toArray, List.set_cons_zero, List.set_cons_succ]
            refine wpAnyH_take (i := 9) (oi := ⟨_, _, _, _, _, _⟩) (v := undef) rfl (by kernel_rfl) (by kernel_rfl) (by kernel_rfl) (fun _ _ _ h => h) (Or.inr ⟨by rfl, rfl⟩) (by assumption) ?_
            simp only [Act.put, List.setIfInBounds_toArray, List.set_cons_zero, List.set_cons_succ]
            refine wpAnyH_take (i := 10) (oi := ⟨_, _, _, _, _, _⟩) (v := undef) rfl (by kernel_rfl) (by kernel_rfl) (by kernel_rfl) (fun _ _ _ h => h) (Or.inr ⟨by rfl, rfl⟩) (by assumption) ?_
            simp only [Act.put, List.setIfInBounds_toArray, List.set_cons_zero, List.set_cons_succ]
            refine wpAnyH_take (i := 11) (oi := ⟨_, _, _, _, _, _⟩) (v := undef) rfl (by kernel_rfl) (by kernel_rfl) (by kernel_rfl) (fun _ _ _ h => h) (Or.inr ⟨by rfl, rfl⟩) (by assumption) ?_
            simp only [Act.put, List.setIfInBounds_toArray, List.set_cons_zero, List.set_cons_succ]
            refine wpAnyH_take (i := 12) (oi := ⟨_, _, _, _, _, _⟩) (v := undef) rfl (by kernel_rfl) (by kernel_rfl) (by kernel_rfl) (fun _ _ _ h => h) (Or.inr ⟨by rfl, rfl⟩) (by assumption) ?_
            simp only [Act.put, List.setIfInBounds_toArray, List.set_cons_zero, List.set_cons_succ]
            refine wpAnyH_take (i := 13) (oi := ⟨_, _, _, _, _, _⟩) (v := undef) rfl (by kernel_rfl) (by kernel_rfl) (by kernel_rfl) (fun _ _ _ h => h) (Or.inr ⟨by rfl, rfl⟩) (by assumption) ?_
            simp only [Act.put, List.setIfInBounds_toArray, List.set_cons_zero, List.set_cons_succ]
            refine wpAnyH_take (i := 14) (oi := ⟨_, _, _, _, _, _⟩) (v := undef) rfl (by kernel_rfl) (by kernel_rfl) (by kernel_rfl) (fun _ _ _ h => h) (Or.inr ⟨by rfl, rfl⟩) (by assumption) ?_
            simp only [Act.put, List.setIfInBounds_toArray, List.set_cons_zero, List.set_cons_succ]
            refine wpAnyH_take (i := 15) (oi := ⟨_, _, _, _, _, _⟩) (v := undef) rfl (by kernel_rfl) (by kernel_rfl) (by kernel_rfl) (fun _ _ _ h => h) (Or.inr ⟨by rfl, rfl⟩) (by assumption) ?_
            simp only [Act.put, List.setIfInBounds_toArray, List.set_cons_zero, List.set_cons_succ]
            refine wpAnyH_take (i := 16) (oi := ⟨_, _, _, _, _, _⟩) (v := undef) rfl (by kernel_rfl) (by kernel_rfl) (by kernel_rfl) (fun _ _ _ h => h) (Or.inr ⟨by rfl, rfl⟩) (by assumption) ?_
            simp only [Act.put, List.setIfInBounds_toArray, List.set_cons_zero, List.set_cons_succ]
            refine wpAnyH_take (i := 17) (oi := ⟨_, _, _, _, _, _⟩) (v := undef) rfl (by kernel_rfl) (by kernel_rfl) (by kernel_rfl) (fun _ _ _ h => h) (Or.inr ⟨by rfl, rfl⟩) (by assumption) ?_
            simp only [Act.put, List.setIfInBounds_toArray, List.set_cons_zero, List.set_cons_succ]
            refine wpAnyH_take (i := 18) (oi := ⟨_, _, _, _, _, _⟩) (v := ?_) rfl (by kernel_rfl) (by kernel_rfl) (by kernel_rfl) (fun _ _ _ h => h) (Or.inl ⟨by rfl, ?_⟩) (by assumption) ?_
            rotate_left
            · intro w hSw
              try dsimp only at hSw
              go_simp
              try with_reducible rfl
            simp only [Act.put, List.setIfInBounds_toArray, List.set_cons_zero, List.set_cons_succ]
            refine wpAnyH_done (by kernel_rfl) ?_ _
            -- END UNITF
            have HG9 := hid (HG.out.below hHeld.2.out)
            clear hHeld
            go_wp2_with fail
            go_roundw
            case rel => exact ⟨j + 1, P, A1, c1, by omega, by go_num, rfl, hid Hps2.out.symm, HG9⟩
            case measure => simp [intOf]; omega
        · have hjn : j = n := by omega
          have HP2 := hid (show P = c.unitsB av by rw [Hu2.out, HP.out, hjn])
          clear hjn
          go_wp2_with fail
          go_ret
          exact ⟨⟨A1, c1, by rw [← HP2.out]; rfl, by rw [← HP2.out]; exact HG.out.1.mono fun g _ _ h => Nat.le_trans HB2.out.size h⟩, HB2.out.trans (HG.out.2.1.mono HB2.out.size)⟩
end Go.Proofs.Ytofobmgmgipomaa
