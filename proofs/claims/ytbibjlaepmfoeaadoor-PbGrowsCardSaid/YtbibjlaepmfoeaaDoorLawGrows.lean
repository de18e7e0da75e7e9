/-
  Chapter 24: the walk of PbGrows.
-/
import Derived.Test.YtbibjlaepmfoeaaDoorPlG
import Derived.Test.YtbibjlaepmfoeaaDoorPbS
import Derived.Deep.RegionHeld
import Derived.BigRegion
namespace Go.Proofs.YtbibjlaepmfoeaaDoor
open Go.RowKit

set_option maxRecDepth 100000 in
set_option maxHeartbeats 8000000 in
theorem grows_walk {w : World} {F G : Nat → Prop} {u v : Value} {n m : Nat} {ls ks : List Int} {b mk bs mo : Int} (hu : Rd w F 1 u n (ints ls)) (hv : Rd w G 1 v m (ints ks)) (hk : 0 ≤ mk ∧ mk ≤ 255) (ho : 0 ≤ mo ∧ mo ≤ 255) :
    Calls Tryd.prog 6 #[u, v, .int .i64 b, .int .u8 mk, .int .u8 bs, .int .u8 mo] w fun r w' => r = .returned (.bool true) ∧ Below w.heap.size w w' := by
  obtain ⟨b', hb'⟩ : ∃ b', Int.tmod b 101 = b' := ⟨_, rfl⟩
  have hbr : -100 ≤ b' ∧ b' ≤ 100 := by have := tmod_in b (m := 101) (by decide); omega
  have Hsm := hid (sm_is ls ks)
  have Hk := hid hk
  have Ho := hid ho
  clear hk ho
  go_enter Tryd.func6, Tryd.ntmps6
  go_wp2_with fail
  refine (small_any hu hv).mono ?_
  rintro r w1 ⟨⟨A, n1, c1, B, n2, c2, rfl, ho1, ho2⟩, b1⟩
  obtain ⟨L, hL⟩ : ∃ L, smL ls ks = L := ⟨_, rfl⟩
  obtain ⟨C, hC⟩ : ∃ C, smC ls ks = C := ⟨_, rfl⟩
  rw [hL] at ho1 Hsm
  rw [hC] at ho2 Hsm
  have s1 := b1.size
  have B1 := hid b1
  have RL := hid ho1.rd
  have RC := hid ho2.rd
  clear ho1 ho2 hL hC b1 hu hv
  go_wp2_with fail
  refine (norm_any RL.out RC.out (fun x hx => by have := Hsm.out.lit x hx; unfold I64; omega) (fun x hx => by have := Hsm.out.co x hx; unfold I64; omega) (by unfold I64; omega)).mono ?_
  rintro r w2 ⟨⟨pv, rfl, hpv⟩, b2⟩
  have hok := Hsm.out.ok hbr.1 hbr.2
  rw [Hsm.out.err hbr.1 hbr.2]
  obtain ⟨N, hN⟩ : ∃ N, (normed L C b').1 = N := ⟨_, rfl⟩
  have hsix := fun j hj => (Hsm.out.six hbr.1 hbr.2 (j := j) hj).2
  rw [hN] at hpv hok hsix
  have Hok := hid hok
  have H6 := hid hsix
  have s2 := b2.size
  have B2 := hid (B1.out.trans (b2.mono s1))
  obtain ⟨Z1, hZ1⟩ : ∃ z, w2.heap.size = z := ⟨_, rfl⟩
  have P1 := hid (hpv.mono (G := fun g => g < Z1) fun g hg _ => by omega)
  obtain ⟨⟨A1, n1', c1', A2, n2', c2', rfl, rr1, rr2⟩, hb1⟩ := hpv
  clear hN b2 hok hsix RL RC B1 rr1 rr2 hb1
  go_wp2_with fail
  obtain ⟨X3, hX, bX, k1, sX⟩ := alloc_step w2 (.cells #[.slice A1 n1' c1', .slice A2 n2' c2', .int .i64 N.bound] 26)
  rw [hX]
  refine total_any.mono ?_
  rintro r w3 ⟨ZA, hZA, rfl, ho3, b3⟩
  have bb := bX.trans (b3.mono bX.size)
  have sB := bb.size
  have B3 := hid (B2.out.trans (bb.mono B2.out.size))
  have P3 := hid (P1.out.below bb)
  have k3 := hid (hZ1 ▸ keep_blk k1 b3)
  have hzA : Z1 < ZA := by omega
  have hzw : w1.heap.size ≤ Z1 := by omega
  rw [show totUp bs 6 = maskUp mk bs 0 from (maskUp_none mk bs).symm] at ho3
  have HA := hid ho3
  clear bb bX b3 hX sX hZ1 hZA k1 P1 B2 ho3
  go_wp2_with fail
  go_loopw [46] (fun iv W => ∃ i : Nat, i ≤ 6 ∧ iv = .int .i64 i ∧ Hid (Own W (fun g => g = ZA) 37 1 (.slice (some ⟨ZA, 0, none⟩) 6 6) 6 (i8s (maskUp mk bs i))) ∧ Hid (Mod (fun g => g = ZA) w3 W)) (fun iv _ => 6 - (intOf iv).toNat)
  case atStart => exact ⟨0, by omega, rfl, HA, hid (Mod.refl _ _)⟩
  case round =>
    obtain ⟨i, hi, rfl, HO, HM⟩ := hrel
    by_cases hlt : i < 6
    · have x1 : (i : Int) < 6 := by omega
      obtain ⟨g', e1, _, hg, hc, hf⟩ := HO.out.cell (j := i) (by omega)
      injection e1 with e1
      injection e1 with e1
      subst e1
      rw [i8s_nth (by rw [maskUp_len]; omega)] at hc
      have hms := maskUp_set mk bs (i := i)
      have hao := and_one (shr_in Hk.out.1 Hk.out.2 i).1 (shr_in Hk.out.1 Hk.out.2 i).2
      unfold bitOf at hms
      cases hbit : (bits BinOp.and IntKind.u8 (mk / 2 ^ i) 1 == 1)
      · rw [hbit] at hao
        have Hms := hid (hms.1 hbit)
        have hbit0 : (bits BinOp.and IntKind.u8 (mk / 2 ^ i) 1 == 0) = true := hao
        clear hms hao hbit
        go_wp2_with fail
        go_roundw
        case rel =>
          refine ⟨i + 1, by omega, by go_num, ?_, hid (HM.out.setCell (p := ⟨ZA, i, none⟩) (.inl rfl) _)⟩
          rw [← Hms.out, i8s_set]
          exact hid (HO.out.stored _)
        case measure => simp [intOf]; omega
      · rw [hbit] at hao
        have Hms := hid (hms.2 hbit)
        have hbit0 : (bits BinOp.and IntKind.u8 (mk / 2 ^ i) 1 == 0) = false := hao
        clear hms hao hbit hc
        go_wp2_with fail
        go_roundw
        case rel =>
          refine ⟨i + 1, by omega, by go_num, ?_, HM⟩
          rw [← Hms.out]
          exact HO
        case measure => simp [intOf]; omega
    · obtain rfl : i = 6 := by omega
      obtain ⟨av, hav⟩ : ∃ av, maskUp mk bs 6 = av := ⟨_, rfl⟩
      have hal : av.length = 6 := by rw [← hav]; exact maskUp_len _ _ _
      rw [hav] at HO
      have s3 := HM.out.size
      have hzA3 : ZA < w3.heap.size := by
        obtain ⟨g, e, _, hg, _⟩ := HA.out.cell (j := 0) (by omega)
        injection e with e
        injection e with e
        omega
      have B4 := hid (below_mod B3.out (by have := B3.out.size; omega) HM.out (fun g e => by omega))
      have P4 := hid (P3.out.mod HM.out fun g _ hg e => by omega)
      have k4 := hid (Below.mod_lt k3.out HM.out (by omega))
      have HO4 := hid HO.out.rd
      have hz1 : Z1 < wr.heap.size := lt_of_block k4.out
      obtain ⟨k, hk0⟩ : ∃ k : Nat, (k : Int) = mo % 6 := ⟨(mo % 6).toNat, Int.toNat_of_nonneg (Int.emod_nonneg _ (by decide))⟩
      have hk6 : k < 6 := by omega
      have hk6' : (k : Int) < 6 := by omega
      obtain ⟨z, hz⟩ : ∃ z : Int, mo / 6 % 2 = z := ⟨_, rfl⟩
      have hz0 : 0 ≤ z := by omega
      have hz2 : z ≤ 1 := by omega
      have ho0 := Ho.out.1
      have ho1 := Ho.out.2
      have ho2 : 0 ≤ mo / 6 := by omega
      have hkm : mo % 6 = (k : Int) := hk0.symm
      have hkt : Int.tmod mo 6 = (k : Int) := by rw [Int.tmod_eq_emod_of_nonneg ho0]; exact hkm
      have hzt : Int.tmod (mo / 6) 2 = z := by rw [Int.tmod_eq_emod_of_nonneg ho2]; exact hz
      have hw1 : IntKind.i8.wrap z = z := IntWalk.i8_in _ ⟨by omega, by omega⟩
      have hw2 : IntKind.i8.wrap (z * 2) = z * 2 := IntWalk.i8_in _ ⟨by omega, by omega⟩
      have hw3 : IntKind.i8.wrap (z * 2 - 1) = z * 2 - 1 := IntWalk.i8_in _ ⟨by omega, by omega⟩
      clear hk0 B3 P3 k3 HA hav HO HM
      go_upto_if 68 with (first
        | (at_builtin; refine wpList_append_i8s rfl _ _ rfl (Own.none_ (wr.alloc (.cells #[] 37)) (fun g => wr.heap.size ≤ g) 37 1 (some ⟨wr.heap.size, 0, none⟩)) (HO4.out.below ((Below.refl _ _).alloc (Nat.le_refl _) _)) rfl rfl (i8s_one _) (by omega) ?_; intro Av5 cv5 W5 ho5 hm5 hr5; rw [List.nil_append] at ho5; obtain ⟨g5, rfl⟩ := own_at ho5 (by omega); obtain ⟨hc5, hf5, hF5, hlt5⟩ := own_cell8 ho5 (k := k) (by omega); obtain ⟨y0, hy0⟩ : ∃ y, nth av k = y := ⟨_, rfl⟩; rw [hy0] at hc5; have Hy0 := hid hy0; clear hy0; have T5 := hid (And.intro ho5.one (below_mod ((Below.refl wr.heap.size wr).alloc (Nat.le_refl _) _) (by rw [World.size_alloc]; omega) hm5 (fun g hg => by obtain ⟨e, _⟩ := hg; omega))); clear ho5 hm5 hr5))
      have hg5 : wr.heap.size ≤ g5 := by rw [World.size_alloc] at hF5; omega
      have T6 := hid (show Own W5 (fun b => b = g5) 37 1 (.slice (some ⟨g5, 0, none⟩) 6 cv5) 6 (i8s av) by have := T5.out.1; simpa using this)
      have T7 := hid T5.out.2
      clear T5 hF5
      obtain ⟨bv, hbv⟩ : ∃ bv, growA av k (z * 2 - 1) = bv := ⟨_, rfl⟩
      have Hbv := hid hbv
      clear hbv
      go_cut [20] (fun s20 wx => s20 = .int .i64 k ∧ Hid (Own wx (fun g => g = g5) 37 1 (.slice (some ⟨g5, 0, none⟩) 6 cv5) 6 (i8s bv)) ∧ Hid (Mod (fun g => g = g5) W5 wx))
      case first =>
        by_cases hyz : y0 = 0
        · subst hyz
          go_wp2_with fail
          go_meet
          refine ⟨rfl, ?_, hid ((Mod.refl (fun g => g = g5) _).setCell (p := ⟨g5, k, none⟩) (.inl rfl) _)⟩
          rw [← Hbv.out]
          unfold growA
          rw [if_pos Hy0.out, i8s_set]
          exact hid (T6.out.stored _)
        · have hyb : (y0 == 0) = false := by simpa using hyz
          go_wp2_with fail
          go_meet
          refine ⟨rfl, ?_, hid (Mod.refl (fun g => g = g5) _)⟩
          rw [← Hbv.out]
          unfold growA
          rw [if_neg (by rw [Hy0.out]; exact hyz)]
          exact T6
      case rest =>
        obtain ⟨rfl, HB5, HM5⟩ := hcut
        have b6 := below_mod T7.out T7.out.size HM5.out (fun g e => by omega)
        have B6 := hid (B4.out.trans (b6.mono B4.out.size))
        have P6 := hid (P4.out.below b6)
        have k6 := hid (keep_blk k4.out b6)
        have RA6 := hid (HO4.out.below b6)
        have RB6 := hid HB5.out.rd
        have hbl : bv.length = 6 := by rw [← Hbv.out, growA_len]; exact hal
        have hext : ExtA av bv := Hbv.out ▸ growA_ext av k _
        have Hext := hid hext
        obtain ⟨sa, hsa⟩ : ∃ s, N.slackB av = s := ⟨_, rfl⟩
        obtain ⟨sb, hsb⟩ : ∃ s, N.slackB bv = s := ⟨_, rfl⟩
        obtain ⟨qa, hqa⟩ : ∃ s, N.holdsB av = s := ⟨_, rfl⟩
        obtain ⟨qb, hqb⟩ : ∃ s, N.holdsB bv = s := ⟨_, rfl⟩
        have hle : sb ≤ sa := by rw [← hsa, ← hsb]; exact slack_grow hext
        have hgt : decide (sa < sb) = false := by simpa using hle
        have hqq : qa = true → qb = true := fun e => by rw [← hqb]; exact holds_grow hext (hqa.trans e)
        have hq0 : qa = true → 0 ≤ sa := fun e => by rw [← hsa]; exact holds_slack (hqa.trans e)
        have Hsa := hid hsa
        have Hsb := hid hsb
        have Hqa := hid hqa
        have Hqb := hid hqb
        have Hqq := hid hqq
        have Hq0 := hid hq0
        have hzw6 : wr.heap.size ≤ wc.heap.size := b6.size
        have hz6 : Z1 < wc.heap.size := lt_of_block k6.out
        clear hqq hq0 hsa hsb hqa hqb hext b6 HB5 HM5 T6 T7 Hy0 Hbv P4 k4 B4 HO4 hc5 hf5 hlt5 hkm hkt hz hzt hw1 hw2 hw3
        obtain ⟨w6, rfl⟩ : ∃ W : World, W = wc := ⟨_, rfl⟩
        go_upto_region 16 with fail
        go_cut [106] (fun s wx => s = .bool false ∧ Hid (Below w6.heap.size w6 wx))
        case first =>
          have HBd := Bl.drew (Below.refl w6.heap.size w6)
          cases qa
          · skip
            -- REGF
            refine wp_region_held_drew (S := fun w' => (w'.cell? ⟨Z1, 0, none⟩ = some (.slice A1 n1' c1') ∧ w'.cell? ⟨Z1, 1, none⟩ = some (.slice A2 n2' c2') ∧ w'.cell? ⟨Z1, 2, none⟩ = some (.int .i64 N.bound)) ∧ Hid (Below w6.heap.size w6 w')) (by kernel_rfl) ⟨box3 (keep_blk k6.out HBd), hid HBd⟩ (fun hHeld => ?_)
            refine wpAnyH_take (i := 0) (oi := ⟨_, _, _, _, _, _⟩) (v := ?_) rfl (by kernel_rfl) (by kernel_rfl) (by kernel_rfl) (fun _ _ _ h => h) (Or.inl ⟨by rfl, ?_⟩) (by assumption) ?_
            rotate_left
            · intro w hSw
              try dsimp only at hSw
              go_simp
              try with_reducible rfl
            simp only [Act.put, List.setIfInBounds_toArray, List.set_cons_zero, List.set_cons_succ]
            refine wpAnyH_take (i := 1) (oi := ⟨_, _, _, _, _, _⟩) (v := ?_) rfl (by kernel_rfl) (by kernel_rfl) (by kernel_rfl) (fun _ _ _ h => h) (Or.inl ⟨by rfl, ?_⟩) (by assumption) ?_
            rotate_left
            · intro w hSw
              try dsimp only at hSw
              go_simp
              try with_reducible rfl
            simp only [Act.put, List.setIfInBounds_toArray, List.set_cons_zero, List.set_cons_succ]
            refine wpAnyH_take (i := 3) (oi := ⟨_, _, _, _, _, _⟩) (v := ?_) rfl (by kernel_rfl) (by kernel_rfl) (by kernel_rfl) (fun _ _ _ h => h) (Or.inl ⟨by rfl, ?_⟩) (by assumption) ?_
            rotate_left
            · intro w hSw
              try dsimp only at hSw
              go_simp
              try with_reducible rfl
            simp only [Act.put, List.setIfInBounds_toArray, List.set_cons_zero, List.set_cons_succ]
            refine wpAnyH_take (i := 4) (oi := ⟨_, _, _, _, _, _⟩) (v := ?_) rfl (by kernel_rfl) (by kernel_rfl) (by kernel_rfl) (fun _ _ _ h => h) (Or.inl ⟨by rfl, ?_⟩) (by assumption) ?_
            rotate_left
            · intro w hSw
              try dsimp only at hSw
              go_simp
              try with_reducible rfl
            simp only [Act.put, List.setIfInBounds_toArray, List.set_cons_zero, List.set_cons_succ]
            refine wpAnyH_ready (rs := [2]) (by kernel_rfl) (by simp) (AllReadyH.cons (o := ⟨_, _, _, _, _, _⟩) rfl (fun K hK => ?_) AllReadyH.nil)
            go_simp
            refine (slack_any (P6.out.below hHeld.2.out) Hok.out.i64 (RB6.out.below hHeld.2.out)).mono ?_
            rintro r w8 ⟨rfl, b8⟩
            rw [Hsb.out]
            go_simp
            refine hK.out _ _ ⟨box3 (keep_blk k6.out (hHeld.2.out.trans (b8.mono hHeld.2.out.size))), hid (hHeld.2.out.trans (b8.mono hHeld.2.out.size))⟩ (fun hHeld => ?_)
            clear hK K
            try simp only [Act.put, List.setIfInBounds_toArray, List.set_cons_zero, List.set_cons_succ]
            refine wpAnyH_ready (rs := [5]) (by kernel_rfl) (by simp) (AllReadyH.cons (o := ⟨_, _, _, _, _, _⟩) rfl (fun K hK => ?_) AllReadyH.nil)
            go_simp
            refine (slack_any (P6.out.below hHeld.2.out) Hok.out.i64 (RA6.out.below hHeld.2.out)).mono ?_
            rintro r w9 ⟨rfl, b9⟩
            rw [Hsa.out]
            go_simp
            refine hK.out _ _ ⟨box3 (keep_blk k6.out (hHeld.2.out.trans (b9.mono hHeld.2.out.size))), hid (hHeld.2.out.trans (b9.mono hHeld.2.out.size))⟩ (fun hHeld => ?_)
            clear hK K
            try simp only [Act.put, List.setIfInBounds_toArray, List.set_cons_zero, List.set_cons_succ]
            refine wpAnyH_take (i := 6) (oi := ⟨_, _, _, _, _, _⟩) (v := ?_) rfl (by kernel_rfl) (by kernel_rfl) (by kernel_rfl) (fun _ _ _ h => h) (Or.inl ⟨by rfl, ?_⟩) (by assumption) ?_
            rotate_left
            · intro w hSw
              try dsimp only at hSw
              go_simp
              try with_reducible rfl
            simp only [Act.put, List.setIfInBounds_toArray, List.set_cons_zero, List.set_cons_succ]
            refine wpAnyH_take (i := 7) (oi := ⟨_, _, _, _, _, _⟩) (v := ?_) rfl (by kernel_rfl) (by kernel_rfl) (by kernel_rfl) (fun _ _ _ h => h) (Or.inl ⟨by rfl, ?_⟩) (by assumption) ?_
            rotate_left
            · intro w hSw
              try dsimp only at hSw
              go_simp
              try with_reducible rfl
            simp only [Act.put, List.setIfInBounds_toArray, List.set_cons_zero, List.set_cons_succ]
            refine wpAnyH_take (i := 8) (oi := ⟨_, _, _, _, _, _⟩) (v := ?_) rfl (by kernel_rfl) (by kernel_rfl) (by kernel_rfl) (fun _ _ _ h => h) (Or.inl ⟨by rfl, ?_⟩) (by assumption) ?_
            rotate_left
            · intro w hSw
              try dsimp only at hSw
              go_simp
              try with_reducible rfl
            simp only [Act.put, List.setIfInBounds_toArray, List.set_cons_zero, List.set_cons_succ]
            refine wpAnyH_take (i := 9) (oi := ⟨_, _, _, _, _, _⟩) (v := ?_) rfl (by kernel_rfl) (by kernel_rfl) (by kernel_rfl) (fun _ _ _ h => h) (Or.inl ⟨by rfl, ?_⟩) (by assumption) ?_
            rotate_left
            · intro w hSw
              try dsimp only at hSw
              go_simp
              try with_reducible rfl
            simp only [Act.put, List.setIfInBounds_toArray, List.set_cons_zero, List.set_cons_succ]
            refine wpAnyH_ready (rs := [10]) (by kernel_rfl) (by simp) (AllReadyH.cons (o := ⟨_, _, _, _, _, _⟩) rfl (fun K hK => ?_) AllReadyH.nil)
            go_simp
            refine (holds_any (P6.out.below hHeld.2.out) Hok.out.i64 (RA6.out.below hHeld.2.out)).mono ?_
            rintro r w10 ⟨rfl, b10⟩
            rw [Hqa.out]
            go_simp
            refine hK.out _ _ ⟨box3 (keep_blk k6.out (hHeld.2.out.trans (b10.mono hHeld.2.out.size))), hid (hHeld.2.out.trans (b10.mono hHeld.2.out.size))⟩ (fun hHeld => ?_)
            clear hK K
            try simp only [Act.put, List.setIfInBounds_toArray, List.set_cons_zero, List.set_cons_succ]
            refine wpAnyH_take (i := 11) (oi := ⟨_, _, _, _, _, _⟩) (v := ?_) rfl (by kernel_rfl) (by kernel_rfl) (by kernel_rfl) (fun _ _ _ h => h) (Or.inl ⟨by rfl, ?_⟩) (by assumption) ?_
            rotate_left
            · intro w hSw
              try dsimp only at hSw
              go_simp
              try with_reducible rfl
            simp only [Act.put, List.setIfInBounds_toArray, List.set_cons_zero, List.set_cons_succ]
            refine wpAnyH_take (i := 12) (oi := ⟨_, _, _, _, _, _⟩) (v := undef) rfl (by kernel_rfl) (by kernel_rfl) (by kernel_rfl) (fun _ _ _ h => h) (Or.inr ⟨by rfl, rfl⟩) (by assumption) ?_
            simp only [Act.put, List.setIfInBounds_toArray, List.set_cons_zero, List.set_cons_succ]
            refine wpAnyH_take (i := 13) (oi := ⟨_, _, _, _, _, _⟩) (v := undef) rfl (by kernel_rfl) (by kernel_rfl) (by kernel_rfl) (fun _ _ _ h => h) (Or.inr ⟨by rfl, rfl⟩) (by assumption) ?_
            simp only [Act.put, List.setIfInBounds_toArray, List.set_cons_zero, List.set_cons_succ]
            refine wpAnyH_take (i := 14) (oi := ⟨_, _, _, _, _, _⟩) (v := undef) rfl (by kernel_rfl) (by kernel_rfl) (by kernel_rfl) (fun _ _ _ h => h) (Or.inr ⟨by rfl, rfl⟩) (by assumption) ?_
            simp only [Act.put, List.setIfInBounds_toArray, List.set_cons_zero, List.set_cons_succ]
            refine wpAnyH_take (i := 15) (oi := ⟨_, _, _, _, _, _⟩) (v := undef) rfl (by kernel_rfl) (by kernel_rfl) (by kernel_rfl) (fun _ _ _ h => h) (Or.inr ⟨by rfl, rfl⟩) (by assumption) ?_
            simp only [Act.put, List.setIfInBounds_toArray, List.set_cons_zero, List.set_cons_succ]
            refine wpAnyH_take (i := 16) (oi := ⟨_, _, _, _, _, _⟩) (v := ?_) rfl (by kernel_rfl) (by kernel_rfl) (by kernel_rfl) (fun _ _ _ h => h) (Or.inl ⟨by rfl, ?_⟩) (by assumption) ?_
            rotate_left
            · intro w hSw
              try dsimp only at hSw
              go_simp
              try with_reducible rfl
            simp only [Act.put, List.setIfInBounds_toArray, List.set_cons_zero, List.set_cons_succ]
            refine wpAnyH_take (i := 17) (oi := ⟨_, _, _, _, _, _⟩) (v := ?_) rfl (by kernel_rfl) (by kernel_rfl) (by kernel_rfl) (fun _ _ _ h => h) (Or.inl ⟨by rfl, ?_⟩) (by assumption) ?_
            rotate_left
            · intro w hSw
              try dsimp only at hSw
              go_simp
              try with_reducible rfl
            simp only [Act.put, List.setIfInBounds_toArray, List.set_cons_zero, List.set_cons_succ]
            refine wpAnyH_take (i := 18) (oi := ⟨_, _, _, _, _, _⟩) (v := ?_) rfl (by kernel_rfl) (by kernel_rfl) (by kernel_rfl) (fun _ _ _ h => h) (Or.inl ⟨by rfl, ?_⟩) (by assumption) ?_
            rotate_left
            · intro w hSw
              try dsimp only at hSw
              go_simp
              try with_reducible rfl
            simp only [Act.put, List.setIfInBounds_toArray, List.set_cons_zero, List.set_cons_succ]
            refine wpAnyH_take (i := 19) (oi := ⟨_, _, _, _, _, _⟩) (v := ?_) rfl (by kernel_rfl) (by kernel_rfl) (by kernel_rfl) (fun _ _ _ h => h) (Or.inl ⟨by rfl, ?_⟩) (by assumption) ?_
            rotate_left
            · intro w hSw
              try dsimp only at hSw
              go_simp
              try with_reducible rfl
            simp only [Act.put, List.setIfInBounds_toArray, List.set_cons_zero, List.set_cons_succ]
            refine wpAnyH_take (i := 20) (oi := ⟨_, _, _, _, _, _⟩) (v := ?_) rfl (by kernel_rfl) (by kernel_rfl) (by kernel_rfl) (fun _ _ _ h => h) (Or.inl ⟨by rfl, ?_⟩) (by assumption) ?_
            rotate_left
            · intro w hSw
              try dsimp only at hSw
              go_simp
              try with_reducible rfl
            simp only [Act.put, List.setIfInBounds_toArray, List.set_cons_zero, List.set_cons_succ]
            refine wpAnyH_ready (rs := [21]) (by kernel_rfl) (by simp) (AllReadyH.cons (o := ⟨_, _, _, _, _, _⟩) rfl (fun K hK => ?_) AllReadyH.nil)
            go_simp
            refine (holds_any (P6.out.below hHeld.2.out) Hok.out.i64 (RA6.out.below hHeld.2.out)).mono ?_
            rintro r w11 ⟨rfl, b11⟩
            rw [Hqa.out]
            go_simp
            refine hK.out _ _ ⟨box3 (keep_blk k6.out (hHeld.2.out.trans (b11.mono hHeld.2.out.size))), hid (hHeld.2.out.trans (b11.mono hHeld.2.out.size))⟩ (fun hHeld => ?_)
            clear hK K
            try simp only [Act.put, List.setIfInBounds_toArray, List.set_cons_zero, List.set_cons_succ]
            refine wpAnyH_take (i := 22) (oi := ⟨_, _, _, _, _, _⟩) (v := ?_) rfl (by kernel_rfl) (by kernel_rfl) (by kernel_rfl) (fun _ _ _ h => h) (Or.inl ⟨by rfl, ?_⟩) (by assumption) ?_
            rotate_left
            · intro w hSw
              try dsimp only at hSw
              go_simp
              try with_reducible rfl
            simp only [Act.put, List.setIfInBounds_toArray, List.set_cons_zero, List.set_cons_succ]
            refine wpAnyH_take (i := 23) (oi := ⟨_, _, _, _, _, _⟩) (v := undef) rfl (by kernel_rfl) (by kernel_rfl) (by kernel_rfl) (fun _ _ _ h => h) (Or.inr ⟨by rfl, rfl⟩) (by assumption) ?_
            simp only [Act.put, List.setIfInBounds_toArray, List.set_cons_zero, List.set_cons_succ]
            refine wpAnyH_take (i := 24) (oi := ⟨_, _, _, _, _, _⟩) (v := undef) rfl (by kernel_rfl) (by kernel_rfl) (by kernel_rfl) (fun _ _ _ h => h) (Or.inr ⟨by rfl, rfl⟩) (by assumption) ?_
            simp only [Act.put, List.setIfInBounds_toArray, List.set_cons_zero, List.set_cons_succ]
            refine wpAnyH_take (i := 25) (oi := ⟨_, _, _, _, _, _⟩) (v := undef) rfl (by kernel_rfl) (by kernel_rfl) (by kernel_rfl) (fun _ _ _ h => h) (Or.inr ⟨by rfl, rfl⟩) (by assumption) ?_
            simp only [Act.put, List.setIfInBounds_toArray, List.set_cons_zero, List.set_cons_succ]
            refine wpAnyH_take (i := 26) (oi := ⟨_, _, _, _, _, _⟩) (v := undef) rfl (by kernel_rfl) (by kernel_rfl) (by kernel_rfl) (fun _ _ _ h => h) (Or.inr ⟨by rfl, rfl⟩) (by assumption) ?_
            simp only [Act.put, List.setIfInBounds_toArray, List.set_cons_zero, List.set_cons_succ]
            refine wpAnyH_take (i := 27) (oi := ⟨_, _, _, _, _, _⟩) (v := ?_) rfl (by kernel_rfl) (by kernel_rfl) (by kernel_rfl) (fun _ _ _ h => h) (Or.inl ⟨by rfl, ?_⟩) (by assumption) ?_
            rotate_left
            · intro w hSw
              try dsimp only at hSw
              go_simp
              try with_reducible rfl
            simp only [Act.put, List.setIfInBounds_toArray, List.set_cons_zero, List.set_cons_succ]
            refine wpAnyH_take (i := 28) (oi := ⟨_, _, _, _, _, _⟩) (v := ?_) rfl (by kernel_rfl) (by kernel_rfl) (by kernel_rfl) (fun _ _ _ h => h) (Or.inl ⟨by rfl, ?_⟩) (by assumption) ?_
            rotate_left
            · intro w hSw
              try dsimp only at hSw
              go_simp
              try with_reducible rfl
            simp only [Act.put, List.setIfInBounds_toArray, List.set_cons_zero, List.set_cons_succ]
            refine wpAnyH_done (by kernel_rfl) ?_ _
            -- END REGF
            go_wp2_with fail
            go_meet
            exact ⟨rfl, hHeld.2⟩
          · obtain rfl := Hqq.out rfl
            have hsl0 : decide (sa < 0) = false := by have := Hq0.out rfl; simpa using this
            -- REGT
            refine wp_region_held_drew (S := fun w' => (w'.cell? ⟨Z1, 0, none⟩ = some (.slice A1 n1' c1') ∧ w'.cell? ⟨Z1, 1, none⟩ = some (.slice A2 n2' c2') ∧ w'.cell? ⟨Z1, 2, none⟩ = some (.int .i64 N.bound)) ∧ Hid (Below w6.heap.size w6 w')) (by kernel_rfl) ⟨box3 (keep_blk k6.out HBd), hid HBd⟩ (fun hHeld => ?_)
            refine wpAnyH_take (i := 0) (oi := ⟨_, _, _, _, _, _⟩) (v := ?_) rfl (by kernel_rfl) (by kernel_rfl) (by kernel_rfl) (fun _ _ _ h => h) (Or.inl ⟨by rfl, ?_⟩) (by assumption) ?_
            rotate_left
            · intro w hSw
              try dsimp only at hSw
              go_simp
              try with_reducible rfl
            simp only [Act.put, List.setIfInBounds_toArray, List.set_cons_zero, List.set_cons_succ]
            refine wpAnyH_take (i := 1) (oi := ⟨_, _, _, _, _, _⟩) (v := ?_) rfl (by kernel_rfl) (by kernel_rfl) (by kernel_rfl) (fun _ _ _ h => h) (Or.inl ⟨by rfl, ?_⟩) (by assumption) ?_
            rotate_left
            · intro w hSw
              try dsimp only at hSw
              go_simp
              try with_reducible rfl
            simp only [Act.put, List.setIfInBounds_toArray, List.set_cons_zero, List.set_cons_succ]
            refine wpAnyH_take (i := 3) (oi := ⟨_, _, _, _, _, _⟩) (v := ?_) rfl (by kernel_rfl) (by kernel_rfl) (by kernel_rfl) (fun _ _ _ h => h) (Or.inl ⟨by rfl, ?_⟩) (by assumption) ?_
            rotate_left
            · intro w hSw
              try dsimp only at hSw
              go_simp
              try with_reducible rfl
            simp only [Act.put, List.setIfInBounds_toArray, List.set_cons_zero, List.set_cons_succ]
            refine wpAnyH_take (i := 4) (oi := ⟨_, _, _, _, _, _⟩) (v := ?_) rfl (by kernel_rfl) (by kernel_rfl) (by kernel_rfl) (fun _ _ _ h => h) (Or.inl ⟨by rfl, ?_⟩) (by assumption) ?_
            rotate_left
            · intro w hSw
              try dsimp only at hSw
              go_simp
              try with_reducible rfl
            simp only [Act.put, List.setIfInBounds_toArray, List.set_cons_zero, List.set_cons_succ]
            refine wpAnyH_ready (rs := [2]) (by kernel_rfl) (by simp) (AllReadyH.cons (o := ⟨_, _, _, _, _, _⟩) rfl (fun K hK => ?_) AllReadyH.nil)
            go_simp
            refine (slack_any (P6.out.below hHeld.2.out) Hok.out.i64 (RB6.out.below hHeld.2.out)).mono ?_
            rintro r w8 ⟨rfl, b8⟩
            rw [Hsb.out]
            go_simp
            refine hK.out _ _ ⟨box3 (keep_blk k6.out (hHeld.2.out.trans (b8.mono hHeld.2.out.size))), hid (hHeld.2.out.trans (b8.mono hHeld.2.out.size))⟩ (fun hHeld => ?_)
            clear hK K
            try simp only [Act.put, List.setIfInBounds_toArray, List.set_cons_zero, List.set_cons_succ]
            refine wpAnyH_ready (rs := [5]) (by kernel_rfl) (by simp) (AllReadyH.cons (o := ⟨_, _, _, _, _, _⟩) rfl (fun K hK => ?_) AllReadyH.nil)
            go_simp
            refine (slack_any (P6.out.below hHeld.2.out) Hok.out.i64 (RA6.out.below hHeld.2.out)).mono ?_
            rintro r w9 ⟨rfl, b9⟩
            rw [Hsa.out]
            go_simp
            refine hK.out _ _ ⟨box3 (keep_blk k6.out (hHeld.2.out.trans (b9.mono hHeld.2.out.size))), hid (hHeld.2.out.trans (b9.mono hHeld.2.out.size))⟩ (fun hHeld => ?_)
            clear hK K
            try simp only [Act.put, List.setIfInBounds_toArray, List.set_cons_zero, List.set_cons_succ]
            refine wpAnyH_take (i := 6) (oi := ⟨_, _, _, _, _, _⟩) (v := ?_) rfl (by kernel_rfl) (by kernel_rfl) (by kernel_rfl) (fun _ _ _ h => h) (Or.inl ⟨by rfl, ?_⟩) (by assumption) ?_
            rotate_left
            · intro w hSw
              try dsimp only at hSw
              go_simp
              try with_reducible rfl
            simp only [Act.put, List.setIfInBounds_toArray, List.set_cons_zero, List.set_cons_succ]
            refine wpAnyH_take (i := 7) (oi := ⟨_, _, _, _, _, _⟩) (v := ?_) rfl (by kernel_rfl) (by kernel_rfl) (by kernel_rfl) (fun _ _ _ h => h) (Or.inl ⟨by rfl, ?_⟩) (by assumption) ?_
            rotate_left
            · intro w hSw
              try dsimp only at hSw
              go_simp
              try with_reducible rfl
            simp only [Act.put, List.setIfInBounds_toArray, List.set_cons_zero, List.set_cons_succ]
            refine wpAnyH_take (i := 8) (oi := ⟨_, _, _, _, _, _⟩) (v := ?_) rfl (by kernel_rfl) (by kernel_rfl) (by kernel_rfl) (fun _ _ _ h => h) (Or.inl ⟨by rfl, ?_⟩) (by assumption) ?_
            rotate_left
            · intro w hSw
              try dsimp only at hSw
              go_simp
              try with_reducible rfl
            simp only [Act.put, List.setIfInBounds_toArray, List.set_cons_zero, List.set_cons_succ]
            refine wpAnyH_take (i := 9) (oi := ⟨_, _, _, _, _, _⟩) (v := ?_) rfl (by kernel_rfl) (by kernel_rfl) (by kernel_rfl) (fun _ _ _ h => h) (Or.inl ⟨by rfl, ?_⟩) (by assumption) ?_
            rotate_left
            · intro w hSw
              try dsimp only at hSw
              go_simp
              try with_reducible rfl
            simp only [Act.put, List.setIfInBounds_toArray, List.set_cons_zero, List.set_cons_succ]
            refine wpAnyH_ready (rs := [10]) (by kernel_rfl) (by simp) (AllReadyH.cons (o := ⟨_, _, _, _, _, _⟩) rfl (fun K hK => ?_) AllReadyH.nil)
            go_simp
            refine (holds_any (P6.out.below hHeld.2.out) Hok.out.i64 (RA6.out.below hHeld.2.out)).mono ?_
            rintro r w10 ⟨rfl, b10⟩
            rw [Hqa.out]
            go_simp
            refine hK.out _ _ ⟨box3 (keep_blk k6.out (hHeld.2.out.trans (b10.mono hHeld.2.out.size))), hid (hHeld.2.out.trans (b10.mono hHeld.2.out.size))⟩ (fun hHeld => ?_)
            clear hK K
            try simp only [Act.put, List.setIfInBounds_toArray, List.set_cons_zero, List.set_cons_succ]
            refine wpAnyH_take (i := 11) (oi := ⟨_, _, _, _, _, _⟩) (v := ?_) rfl (by kernel_rfl) (by kernel_rfl) (by kernel_rfl) (fun _ _ _ h => h) (Or.inl ⟨by rfl, ?_⟩) (by assumption) ?_
            rotate_left
            · intro w hSw
              try dsimp only at hSw
              go_simp
              try with_reducible rfl
            simp only [Act.put, List.setIfInBounds_toArray, List.set_cons_zero, List.set_cons_succ]
            refine wpAnyH_take (i := 12) (oi := ⟨_, _, _, _, _, _⟩) (v := ?_) rfl (by kernel_rfl) (by kernel_rfl) (by kernel_rfl) (fun _ _ _ h => h) (Or.inl ⟨by rfl, ?_⟩) (by assumption) ?_
            rotate_left
            · intro w hSw
              try dsimp only at hSw
              go_simp
              try with_reducible rfl
            simp only [Act.put, List.setIfInBounds_toArray, List.set_cons_zero, List.set_cons_succ]
            refine wpAnyH_take (i := 13) (oi := ⟨_, _, _, _, _, _⟩) (v := ?_) rfl (by kernel_rfl) (by kernel_rfl) (by kernel_rfl) (fun _ _ _ h => h) (Or.inl ⟨by rfl, ?_⟩) (by assumption) ?_
            rotate_left
            · intro w hSw
              try dsimp only at hSw
              go_simp
              try with_reducible rfl
            simp only [Act.put, List.setIfInBounds_toArray, List.set_cons_zero, List.set_cons_succ]
            refine wpAnyH_ready (rs := [14]) (by kernel_rfl) (by simp) (AllReadyH.cons (o := ⟨_, _, _, _, _, _⟩) rfl (fun K hK => ?_) AllReadyH.nil)
            go_simp
            refine (holds_any (P6.out.below hHeld.2.out) Hok.out.i64 (RB6.out.below hHeld.2.out)).mono ?_
            rintro r w12 ⟨rfl, b12⟩
            rw [Hqb.out]
            go_simp
            refine hK.out _ _ ⟨box3 (keep_blk k6.out (hHeld.2.out.trans (b12.mono hHeld.2.out.size))), hid (hHeld.2.out.trans (b12.mono hHeld.2.out.size))⟩ (fun hHeld => ?_)
            clear hK K
            try simp only [Act.put, List.setIfInBounds_toArray, List.set_cons_zero, List.set_cons_succ]
            refine wpAnyH_take (i := 15) (oi := ⟨_, _, _, _, _, _⟩) (v := ?_) rfl (by kernel_rfl) (by kernel_rfl) (by kernel_rfl) (fun _ _ _ h => h) (Or.inl ⟨by rfl, ?_⟩) (by assumption) ?_
            rotate_left
            · intro w hSw
              try dsimp only at hSw
              go_simp
              try with_reducible rfl
            simp only [Act.put, List.setIfInBounds_toArray, List.set_cons_zero, List.set_cons_succ]
            refine wpAnyH_take (i := 16) (oi := ⟨_, _, _, _, _, _⟩) (v := ?_) rfl (by kernel_rfl) (by kernel_rfl) (by kernel_rfl) (fun _ _ _ h => h) (Or.inl ⟨by rfl, ?_⟩) (by assumption) ?_
            rotate_left
            · intro w hSw
              try dsimp only at hSw
              go_simp
              try with_reducible rfl
            simp only [Act.put, List.setIfInBounds_toArray, List.set_cons_zero, List.set_cons_succ]
            refine wpAnyH_take (i := 17) (oi := ⟨_, _, _, _, _, _⟩) (v := ?_) rfl (by kernel_rfl) (by kernel_rfl) (by kernel_rfl) (fun _ _ _ h => h) (Or.inl ⟨by rfl, ?_⟩) (by assumption) ?_
            rotate_left
            · intro w hSw
              try dsimp only at hSw
              go_simp
              try with_reducible rfl
            simp only [Act.put, List.setIfInBounds_toArray, List.set_cons_zero, List.set_cons_succ]
            refine wpAnyH_take (i := 18) (oi := ⟨_, _, _, _, _, _⟩) (v := ?_) rfl (by kernel_rfl) (by kernel_rfl) (by kernel_rfl) (fun _ _ _ h => h) (Or.inl ⟨by rfl, ?_⟩) (by assumption) ?_
            rotate_left
            · intro w hSw
              try dsimp only at hSw
              go_simp
              try with_reducible rfl
            simp only [Act.put, List.setIfInBounds_toArray, List.set_cons_zero, List.set_cons_succ]
            refine wpAnyH_take (i := 19) (oi := ⟨_, _, _, _, _, _⟩) (v := ?_) rfl (by kernel_rfl) (by kernel_rfl) (by kernel_rfl) (fun _ _ _ h => h) (Or.inl ⟨by rfl, ?_⟩) (by assumption) ?_
            rotate_left
            · intro w hSw
              try dsimp only at hSw
              go_simp
              try with_reducible rfl
            simp only [Act.put, List.setIfInBounds_toArray, List.set_cons_zero, List.set_cons_succ]
            refine wpAnyH_take (i := 20) (oi := ⟨_, _, _, _, _, _⟩) (v := ?_) rfl (by kernel_rfl) (by kernel_rfl) (by kernel_rfl) (fun _ _ _ h => h) (Or.inl ⟨by rfl, ?_⟩) (by assumption) ?_
            rotate_left
            · intro w hSw
              try dsimp only at hSw
              go_simp
              try with_reducible rfl
            simp only [Act.put, List.setIfInBounds_toArray, List.set_cons_zero, List.set_cons_succ]
            refine wpAnyH_ready (rs := [21]) (by kernel_rfl) (by simp) (AllReadyH.cons (o := ⟨_, _, _, _, _, _⟩) rfl (fun K hK => ?_) AllReadyH.nil)
            go_simp
            refine (holds_any (P6.out.below hHeld.2.out) Hok.out.i64 (RA6.out.below hHeld.2.out)).mono ?_
            rintro r w13 ⟨rfl, b13⟩
            rw [Hqa.out]
            go_simp
            refine hK.out _ _ ⟨box3 (keep_blk k6.out (hHeld.2.out.trans (b13.mono hHeld.2.out.size))), hid (hHeld.2.out.trans (b13.mono hHeld.2.out.size))⟩ (fun hHeld => ?_)
            clear hK K
            try simp only [Act.put, List.setIfInBounds_toArray, List.set_cons_zero, List.set_cons_succ]
            refine wpAnyH_take (i := 22) (oi := ⟨_, _, _, _, _, _⟩) (v := ?_) rfl (by kernel_rfl) (by kernel_rfl) (by kernel_rfl) (fun _ _ _ h => h) (Or.inl ⟨by rfl, ?_⟩) (by assumption) ?_
            rotate_left
            · intro w hSw
              try dsimp only at hSw
              go_simp
              try with_reducible rfl
            simp only [Act.put, List.setIfInBounds_toArray, List.set_cons_zero, List.set_cons_succ]
            refine wpAnyH_take (i := 23) (oi := ⟨_, _, _, _, _, _⟩) (v := ?_) rfl (by kernel_rfl) (by kernel_rfl) (by kernel_rfl) (fun _ _ _ h => h) (Or.inl ⟨by rfl, ?_⟩) (by assumption) ?_
            rotate_left
            · intro w hSw
              try dsimp only at hSw
              go_simp
              try with_reducible rfl
            simp only [Act.put, List.setIfInBounds_toArray, List.set_cons_zero, List.set_cons_succ]
            refine wpAnyH_take (i := 24) (oi := ⟨_, _, _, _, _, _⟩) (v := ?_) rfl (by kernel_rfl) (by kernel_rfl) (by kernel_rfl) (fun _ _ _ h => h) (Or.inl ⟨by rfl, ?_⟩) (by assumption) ?_
            rotate_left
            · intro w hSw
              try dsimp only at hSw
              go_simp
              try with_reducible rfl
            simp only [Act.put, List.setIfInBounds_toArray, List.set_cons_zero, List.set_cons_succ]
            refine wpAnyH_ready (rs := [25]) (by kernel_rfl) (by simp) (AllReadyH.cons (o := ⟨_, _, _, _, _, _⟩) rfl (fun K hK => ?_) AllReadyH.nil)
            go_simp
            refine (slack_any (P6.out.below hHeld.2.out) Hok.out.i64 (RA6.out.below hHeld.2.out)).mono ?_
            rintro r w14 ⟨rfl, b14⟩
            rw [Hsa.out]
            go_simp
            refine hK.out _ _ ⟨box3 (keep_blk k6.out (hHeld.2.out.trans (b14.mono hHeld.2.out.size))), hid (hHeld.2.out.trans (b14.mono hHeld.2.out.size))⟩ (fun hHeld => ?_)
            clear hK K
            try simp only [Act.put, List.setIfInBounds_toArray, List.set_cons_zero, List.set_cons_succ]
            refine wpAnyH_take (i := 26) (oi := ⟨_, _, _, _, _, _⟩) (v := ?_) rfl (by kernel_rfl) (by kernel_rfl) (by kernel_rfl) (fun _ _ _ h => h) (Or.inl ⟨by rfl, ?_⟩) (by assumption) ?_
            rotate_left
            · intro w hSw
              try dsimp only at hSw
              go_simp
              try with_reducible rfl
            simp only [Act.put, List.setIfInBounds_toArray, List.set_cons_zero, List.set_cons_succ]
            refine wpAnyH_take (i := 27) (oi := ⟨_, _, _, _, _, _⟩) (v := ?_) rfl (by kernel_rfl) (by kernel_rfl) (by kernel_rfl) (fun _ _ _ h => h) (Or.inl ⟨by rfl, ?_⟩) (by assumption) ?_
            rotate_left
            · intro w hSw
              try dsimp only at hSw
              go_simp
              try with_reducible rfl
            simp only [Act.put, List.setIfInBounds_toArray, List.set_cons_zero, List.set_cons_succ]
            refine wpAnyH_take (i := 28) (oi := ⟨_, _, _, _, _, _⟩) (v := ?_) rfl (by kernel_rfl) (by kernel_rfl) (by kernel_rfl) (fun _ _ _ h => h) (Or.inl ⟨by rfl, ?_⟩) (by assumption) ?_
            rotate_left
            · intro w hSw
              try dsimp only at hSw
              go_simp
              try with_reducible rfl
            simp only [Act.put, List.setIfInBounds_toArray, List.set_cons_zero, List.set_cons_succ]
            refine wpAnyH_done (by kernel_rfl) ?_ _
            -- END REGT
            go_wp2_with fail
            go_meet
            exact ⟨rfl, hHeld.2⟩
        case rest =>
          obtain ⟨rfl, HB7⟩ := hcut
          have B7 := hid (B6.out.trans (HB7.out.mono B6.out.size))
          have P7 := hid (P6.out.below HB7.out)
          have k7 := hid (keep_blk k6.out HB7.out)
          have RA7 := hid (RA6.out.below HB7.out)
          have RB7 := hid (RB6.out.below HB7.out)
          have s7 := HB7.out.size
          obtain ⟨e0, e1, e2⟩ := box3 k7.out
          clear HB7 P6 k6 RA6 RB6 B6
          go_wp2_with fail
          refine (slack_any P7.out Hok.out.i64 RB7.out).mono ?_
          rintro r w8 ⟨rfl, b8⟩
          rw [Hsb.out]
          have B8 := hid (B7.out.trans (b8.mono B7.out.size))
          have P8 := hid (P7.out.below b8)
          have k8 := hid (keep_blk k7.out b8)
          have RA8 := hid (RA7.out.below b8)
          have RB8 := hid (RB7.out.below b8)
          have s8 := b8.size
          clear e0 e1 e2 b8 P7 k7 RA7 RB7 B7
          obtain ⟨e0, e1, e2⟩ := box3 k8.out
          by_cases hneg : sb < 0
          · go_wp2_with fail
            refine awake_any.mono ?_
            rintro r w9 ⟨rfl, b9⟩
            have B9 := hid (B8.out.trans (b9.mono B8.out.size))
            clear b9 e0 e1 e2
            go_wp2_with fail
            go_ret
            exact ⟨rfl, B9.out⟩
          · go_wp2_with fail
            refine (units_any P8.out Hok.out.i64 RA8.out).mono ?_
            rintro r w9 ⟨⟨R, cr, rfl, hoR⟩, b9⟩
            have hul : (N.unitsB av).length ≤ 65536 := Nat.le_trans (units_len av) Hok.out.few
            have Hul := hid (fun (l : Int) (hl : l ∈ N.unitsB av) => units_lit hl)
            have Hug := hid (fun (l : Int) (hl : l ∈ N.unitsB av) (hb : nth bv (l.natAbs - 1) = 0) => units_grow Hext.out hl (by rw [Hsb.out]; omega) hb)
            obtain ⟨U, hU⟩ : ∃ U, N.unitsB av = U := ⟨_, rfl⟩
            rw [hU] at hul Hul Hug hoR ⊢
            have B9 := hid (B8.out.trans (b9.mono B8.out.size))
            have P9 := hid (P8.out.below b9)
            have k9 := hid (keep_blk k8.out b9)
            have RB9 := hid (RB8.out.below b9)
            have RU9 := hid hoR.rd
            clear hU e0 e1 e2 b9 hoR RA8 RB8 P8 k8 B8
            go_wp2_with fail
            go_loopw [116] (fun iv W => ∃ j : Nat, j ≤ U.length ∧ iv = .int .i64 j ∧ Hid (Below w9.heap.size w9 W)) (fun iv _ => U.length - (intOf iv).toNat)
            case atStart => exact ⟨0, by omega, rfl, hid (Below.refl _ _)⟩
            case round =>
              obtain ⟨j, hj, rfl, HB⟩ := hrel
              have k10 := hid (keep_blk k9.out HB.out)
              obtain ⟨e0, e1, e2⟩ := box3 k10.out
              have hsr := HB.out.size
              by_cases hlt : j < U.length
              · have x1 : (j : Int) < (U.length : Int) := by omega
                obtain ⟨gU, oU, rfl, _, hgU, hcU⟩ := RU9.out.cell.2 j hlt
                have e3 := (HB.out.cell (p := ⟨gU, oU + j, none⟩) hgU).trans hcU
                have hxm := nth_mem hlt
                obtain ⟨jj, hjj, hjl⟩ := Hul.out _ hxm
                have hx6 := H6.out jj hjj
                have hx0 := (Hok.out.lit jj hjj).1
                rw [hjl] at hx6 hx0
                have hug := Hug.out _ hxm
                obtain ⟨x, hx⟩ : ∃ x, nth U j = x := ⟨_, rfl⟩
                rw [hx] at hx6 hx0 hug e3
                obtain ⟨p, hp1⟩ : ∃ p : Nat, x.natAbs = p + 1 := ⟨x.natAbs - 1, by omega⟩
                have hp6 : p < 6 := by omega
                rw [hp1, Nat.add_sub_cancel] at hug
                obtain ⟨g2, o2, e4, _, hg2, hc2⟩ := RB9.out.cell8.2 p hp6
                injection e4 with e4
                injection e4 with e4 e5
                subst e4 e5
                have e6 := (HB.out.cell (p := ⟨g5, 0 + p, none⟩) hg2).trans hc2
                rw [Nat.zero_add] at e6
                obtain ⟨y, hy⟩ : ∃ y, nth bv p = y := ⟨_, rfl⟩
                rw [hy] at e6 hug
                have Hug2 := hid hug
                have hwx : IntKind.i64.wrap (-x) = -x := iw' (by omega) (by omega)
                clear hcU hxm hjj hjl hx hc2 hy hug
                -- SIGNS
                by_cases hp : 0 < x
                · obtain rfl : x = (p : Int) + 1 := by omega
                  obtain ⟨nx, hnx⟩ : ∃ nx, IntKind.i64.wrap (-((p : Int) + 1)) = nx := ⟨_, rfl⟩
                  have Hnx := hid (show nx = -((p : Int) + 1) by rw [← hnx]; exact hwx)
                  have hmx := run_max_pos p Hnx.out
                  clear hwx
                  by_cases hy0 : y = 0
                  · subst hy0
                    have Hin := hid (Hug2.out rfl)
                    go_wp2_with fail
                    refine (units_any (P9.out.below HB.out) Hok.out.i64 (RB9.out.below HB.out)).mono ?_
                    rintro r w11 ⟨⟨R2, cr2, rfl, hoV⟩, b11⟩
                    have hvl : (N.unitsB bv).length ≤ 65536 := Nat.le_trans (units_len bv) Hok.out.few
                    obtain ⟨V, hV⟩ : ∃ V, N.unitsB bv = V := ⟨_, rfl⟩
                    rw [hV] at hvl Hin hoV ⊢
                    have B11 := hid (HB.out.trans (b11.mono HB.out.size))
                    have RV := hid hoV.rd
                    clear hV b11 hoV e0 e1 e2 e3 e6 k10 hg2 hgU
                    go_wp2_with fail
                    go_loopw [23, 133] (fun sv iv W => ∃ kk : Nat, kk ≤ V.length ∧ iv = .int .i64 kk ∧ sv = .bool ((V.take kk).any fun zz => (p : Int) + 1 == zz) ∧ Hid (Below w11.heap.size w11 W)) (fun _ iv _ => V.length - (intOf iv).toNat)
                    case atStart => exact ⟨0, by omega, rfl, by simp, hid (Below.refl _ _)⟩
                    case round =>
                      obtain ⟨kk, hkk, rfl, rfl, hb⟩ := hrel
                      by_cases hlt4 : kk < V.length
                      · have x2 : (kk : Int) < (V.length : Int) := by omega
                        obtain ⟨gV, oV, rfl, _, hgV, hcV⟩ := RV.out.cell.2 kk hlt4
                        have e7 := (hb.out.cell (p := ⟨gV, oV + kk, none⟩) hgV).trans hcV
                        have hst : ((V.take (kk + 1)).any fun zz => (p : Int) + 1 == zz) = (((V.take kk).any fun zz => (p : Int) + 1 == zz) || ((p : Int) + 1 == nth V kk)) := by rw [take_nth hlt4, List.any_append]; simp
                        obtain ⟨q, hq⟩ : ∃ q, ((V.take kk).any fun zz => (p : Int) + 1 == zz) = q := ⟨_, rfl⟩
                        rw [hq] at hst ⊢
                        obtain ⟨vk, hvk⟩ : ∃ vk, nth V kk = vk := ⟨_, rfl⟩
                        rw [hvk] at hst e7
                        have Hst := hid hst
                        clear hcV hst hvk hq
                        cases q
                        · go_wp2_with fail
                          go_roundw
                          case rel => exact ⟨kk + 1, by omega, by go_num, by rw [Hst.out]; rfl, hb⟩
                          case measure => simp [intOf]; omega
                        · go_wp2_with fail
                          go_roundw
                          case rel => exact ⟨kk + 1, by omega, by go_num, by rw [Hst.out]; rfl, hb⟩
                          case measure => simp [intOf]; omega
                      · obtain rfl : kk = V.length := by omega
                        have hany : ((V.take V.length).any fun zz => (p : Int) + 1 == zz) = true := by rw [List.take_length, List.any_eq_true]; exact ⟨_, Hin.out, by simp⟩
                        rw [hany]
                        have B12 := hid (B11.out.trans (hb.out.mono B11.out.size))
                        clear hany
                        go_wp2_with fail
                        go_roundw
                        case rel => exact ⟨j + 1, by omega, by go_num, B12⟩
                        case measure => simp [intOf]; omega
                  · have hyb : (y != 0) = true := by simpa using hy0
                    go_wp2_with fail
                    go_roundw
                    case rel => exact ⟨j + 1, by omega, by go_num, HB⟩
                    case measure => simp [intOf]; omega
                · have hw2 : IntKind.i64.wrap (-x) = (p : Int) + 1 := by rw [hwx]; omega
                  have hlz : x < 0 := by omega
                  have hmx := run_max_neg p hlz
                  clear hwx
                  by_cases hy0 : y = 0
                  · subst hy0
                    have Hin := hid (Hug2.out rfl)
                    go_wp2_with fail
                    refine (units_any (P9.out.below HB.out) Hok.out.i64 (RB9.out.below HB.out)).mono ?_
                    rintro r w11 ⟨⟨R2, cr2, rfl, hoV⟩, b11⟩
                    have hvl : (N.unitsB bv).length ≤ 65536 := Nat.le_trans (units_len bv) Hok.out.few
                    obtain ⟨V, hV⟩ : ∃ V, N.unitsB bv = V := ⟨_, rfl⟩
                    rw [hV] at hvl Hin hoV ⊢
                    have B11 := hid (HB.out.trans (b11.mono HB.out.size))
                    have RV := hid hoV.rd
                    clear hV b11 hoV e0 e1 e2 e3 e6 k10 hg2 hgU
                    go_wp2_with fail
                    go_loopw [23, 133] (fun sv iv W => ∃ kk : Nat, kk ≤ V.length ∧ iv = .int .i64 kk ∧ sv = .bool ((V.take kk).any fun zz => x == zz) ∧ Hid (Below w11.heap.size w11 W)) (fun _ iv _ => V.length - (intOf iv).toNat)
                    case atStart => exact ⟨0, by omega, rfl, by simp, hid (Below.refl _ _)⟩
                    case round =>
                      obtain ⟨kk, hkk, rfl, rfl, hb⟩ := hrel
                      by_cases hlt4 : kk < V.length
                      · have x2 : (kk : Int) < (V.length : Int) := by omega
                        obtain ⟨gV, oV, rfl, _, hgV, hcV⟩ := RV.out.cell.2 kk hlt4
                        have e7 := (hb.out.cell (p := ⟨gV, oV + kk, none⟩) hgV).trans hcV
                        have hst : ((V.take (kk + 1)).any fun zz => x == zz) = (((V.take kk).any fun zz => x == zz) || (x == nth V kk)) := by rw [take_nth hlt4, List.any_append]; simp
                        obtain ⟨q, hq⟩ : ∃ q, ((V.take kk).any fun zz => x == zz) = q := ⟨_, rfl⟩
                        rw [hq] at hst ⊢
                        obtain ⟨vk, hvk⟩ : ∃ vk, nth V kk = vk := ⟨_, rfl⟩
                        rw [hvk] at hst e7
                        have Hst := hid hst
                        clear hcV hst hvk hq
                        cases q
                        · go_wp2_with fail
                          go_roundw
                          case rel => exact ⟨kk + 1, by omega, by go_num, by rw [Hst.out]; rfl, hb⟩
                          case measure => simp [intOf]; omega
                        · go_wp2_with fail
                          go_roundw
                          case rel => exact ⟨kk + 1, by omega, by go_num, by rw [Hst.out]; rfl, hb⟩
                          case measure => simp [intOf]; omega
                      · obtain rfl : kk = V.length := by omega
                        have hany : ((V.take V.length).any fun zz => x == zz) = true := by rw [List.take_length, List.any_eq_true]; exact ⟨_, Hin.out, by simp⟩
                        rw [hany]
                        have B12 := hid (B11.out.trans (hb.out.mono B11.out.size))
                        clear hany
                        go_wp2_with fail
                        go_roundw
                        case rel => exact ⟨j + 1, by omega, by go_num, B12⟩
                        case measure => simp [intOf]; omega
                  · have hyb : (y != 0) = true := by simpa using hy0
                    go_wp2_with fail
                    go_roundw
                    case rel => exact ⟨j + 1, by omega, by go_num, HB⟩
                    case measure => simp [intOf]; omega
                -- END SIGNS
              · obtain rfl : j = U.length := by omega
                go_wp2_with fail
                refine awake_any.mono ?_
                rintro r w10 ⟨rfl, b10⟩
                have B10 := hid (B9.out.trans ((HB.out.trans (b10.mono HB.out.size)).mono B9.out.size))
                clear b10 e0 e1 e2
                go_wp2_with fail
                go_ret
                exact ⟨rfl, B10.out⟩
end Go.Proofs.YtbibjlaepmfoeaaDoor
