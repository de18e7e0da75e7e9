/-
  Chapter 24: the walk of PbUnits.
-/
import Derived.Test.YtbibjlaepmfoeaaDoorPlH
import Derived.Test.YtbibjlaepmfoeaaDoorPbS
import Derived.Deep.RegionHeld
import Derived.BigRegion
import Derived.Maps.RangeWalk
namespace Go.Proofs.YtbibjlaepmfoeaaDoor
open Go.RowKit Go.Maps

set_option maxRecDepth 100000 in
set_option maxHeartbeats 8000000 in
theorem units_walk {w : World} {F G : Nat → Prop} {u v : Value} {n m : Nat} {ls ks : List Int} {b mk bs : Int} (hu : Rd w F 1 u n (ints ls)) (hv : Rd w G 1 v m (ints ks)) (hk : 0 ≤ mk ∧ mk ≤ 255) (hs : 0 ≤ bs ∧ bs ≤ 255) :
    Calls Tryd.prog 4 #[u, v, .int .i64 b, .int .u8 mk, .int .u8 bs] w fun r w' => r = .returned (.bool true) ∧ Below w.heap.size w w' := by
  obtain ⟨b', hb'⟩ : ∃ b', Int.tmod b 101 = b' := ⟨_, rfl⟩
  have hbr : -100 ≤ b' ∧ b' ≤ 100 := by have := tmod_in b (m := 101) (by decide); omega
  have Hsm := hid (sm_is ls ks)
  have Hk := hid hk
  have Hs := hid hs
  clear hk hs
  go_enter Tryd.func4, Tryd.ntmps4
  go_wp2_with fail
  refine (small_any hu hv).mono ?_
  rintro r w1 ⟨⟨A, n1, c1, B, n2, c2, rfl, ho1, ho2⟩, b1⟩
  obtain ⟨L, hL⟩ : ∃ L, smL ls ks = L := ⟨_, rfl⟩
  obtain ⟨C, hC⟩ : ∃ C, smC ls ks = C := ⟨_, rfl⟩
  rw [hL] at ho1 Hsm
  rw [hC] at ho2 Hsm
  have s1 := b1.size
  have B1 := hid b1
  have RL := hid ho1.rd
  have RC := hid ho2.rd
  clear ho1 ho2 hL hC b1 hu hv
  go_wp2_with fail
  refine (norm_any RL.out RC.out (fun x hx => by have := Hsm.out.lit x hx; unfold I64; omega) (fun x hx => by have := Hsm.out.co x hx; unfold I64; omega) (by unfold I64; omega)).mono ?_
  rintro r w2 ⟨⟨pv, rfl, hpv⟩, b2⟩
  have hok := Hsm.out.ok hbr.1 hbr.2
  rw [Hsm.out.err hbr.1 hbr.2]
  obtain ⟨N, hN⟩ : ∃ N, (normed L C b').1 = N := ⟨_, rfl⟩
  have hsix := fun j hj => (Hsm.out.six hbr.1 hbr.2 (j := j) hj).2
  rw [hN] at hpv hok hsix
  have Hok := hid hok
  have H6 := hid hsix
  have s2 := b2.size
  have B2 := hid (B1.out.trans (b2.mono s1))
  obtain ⟨Z1, hZ1⟩ : ∃ z, w2.heap.size = z := ⟨_, rfl⟩
  have P1 := hid (hpv.mono (G := fun g => g < Z1) fun g hg _ => by omega)
  obtain ⟨⟨A1, n1', c1', A2, n2', c2', rfl, rr1, rr2⟩, hb1⟩ := hpv
  clear hN b2 hok hsix RL RC B1 rr1 rr2 hb1
  go_wp2_with fail
  obtain ⟨X3, hX, bX, k1, sX⟩ := alloc_step w2 (.cells #[.slice A1 n1' c1', .slice A2 n2' c2', .int .i64 N.bound] 26)
  rw [hX]
  refine total_any.mono ?_
  rintro r w3 ⟨ZA, hZA, rfl, ho3, b3⟩
  have bb := bX.trans (b3.mono bX.size)
  have sB := bb.size
  have B3 := hid (B2.out.trans (bb.mono B2.out.size))
  have P3 := hid (P1.out.below bb)
  have k3 := hid (hZ1 ▸ keep_blk k1 b3)
  have hzA : Z1 < ZA := by omega
  have hzw : w1.heap.size ≤ Z1 := by omega
  rw [show totUp bs 6 = maskUp mk bs 0 from (maskUp_none mk bs).symm] at ho3
  have HA := hid ho3
  clear bb bX b3 hX sX hZ1 hZA k1 P1 B2 ho3
  go_wp2_with fail
  go_loopw [51] (fun iv W => ∃ i : Nat, i ≤ 6 ∧ iv = .int .i64 i ∧ Hid (Own W (fun g => g = ZA) 37 1 (.slice (some ⟨ZA, 0, none⟩) 6 6) 6 (i8s (maskUp mk bs i))) ∧ Hid (Mod (fun g => g = ZA) w3 W)) (fun iv _ => 6 - (intOf iv).toNat)
  case atStart => exact ⟨0, by omega, rfl, HA, hid (Mod.refl _ _)⟩
  case round =>
    obtain ⟨i, hi, rfl, HO, HM⟩ := hrel
    by_cases hlt : i < 6
    · have x1 : (i : Int) < 6 := by omega
      obtain ⟨g', e1, _, hg, hc, hf⟩ := HO.out.cell (j := i) (by omega)
      injection e1 with e1
      injection e1 with e1
      subst e1
      rw [i8s_nth (by rw [maskUp_len]; omega)] at hc
      have hms := maskUp_set mk bs (i := i)
      have hao := and_one (shr_in Hk.out.1 Hk.out.2 i).1 (shr_in Hk.out.1 Hk.out.2 i).2
      unfold bitOf at hms
      cases hbit : (bits BinOp.and IntKind.u8 (mk / 2 ^ i) 1 == 1)
      · rw [hbit] at hao
        have Hms := hid (hms.1 hbit)
        have hbit0 : (bits BinOp.and IntKind.u8 (mk / 2 ^ i) 1 == 0) = true := hao
        clear hms hao hbit
        go_wp2_with fail
        go_roundw
        case rel =>
          refine ⟨i + 1, by omega, by go_num, ?_, hid (HM.out.setCell (p := ⟨ZA, i, none⟩) (.inl rfl) _)⟩
          rw [← Hms.out, i8s_set]
          exact hid (HO.out.stored _)
        case measure => simp [intOf]; omega
      · rw [hbit] at hao
        have Hms := hid (hms.2 hbit)
        have hbit0 : (bits BinOp.and IntKind.u8 (mk / 2 ^ i) 1 == 0) = false := hao
        clear hms hao hbit hc
        go_wp2_with fail
        go_roundw
        case rel =>
          refine ⟨i + 1, by omega, by go_num, ?_, HM⟩
          rw [← Hms.out]
          exact HO
        case measure => simp [intOf]; omega
    · have hi6 : i = 6 := by omega
      obtain ⟨av, hav⟩ : ∃ av, maskUp mk bs 6 = av := ⟨_, rfl⟩
      rw [hi6, hav] at HO
      clear hi6
      have s3 := HM.out.size
      have hzA3 : ZA < w3.heap.size := by
        obtain ⟨g, e, _, hg, _⟩ := HA.out.cell (j := 0) (by omega)
        injection e with e
        injection e with e
        omega
      have B4 := hid (below_mod B3.out (by have := B3.out.size; omega) HM.out (fun g e => by omega))
      have P4 := hid (P3.out.mod HM.out fun g _ hg e => by omega)
      have k4 := hid (Below.mod_lt k3.out HM.out (by omega))
      have HO4 := hid HO.out.rd
      have hz1 : Z1 < wr.heap.size := lt_of_block k4.out
      have Hav := hid (show maskL mk bs = av from hav)
      clear B3 P3 k3 HA hav HO HM
      -- the maps
      have hmm := @run_makeMap Tryd.prog
      go_wp2_with fail
      have hN0 := NumF.made wr
      obtain ⟨X5, hX, bX, _, sX⟩ := alloc_step wr (.map #[] 0)
      obtain ⟨ZM, hZM⟩ : ∃ z, wr.heap.size = z := ⟨_, rfl⟩
      rw [hX, hZM, alS_one] at hN0
      rw [hX, hZM]
      rw [hZM] at hz1 sX
      have HN0 := hid hN0
      have B5 := hid (B4.out.trans (bX.mono B4.out.size))
      have P5 := hid ((P4.out.mono (G := fun g => g < ZM) fun g hg _ => by omega).below bX)
      have k5 := hid (keep_blk k4.out bX)
      have RA5 := hid ((HO4.out.mono (G := fun g => g < ZM) fun g hg _ => by omega).below bX)
      have hzM : w.heap.size ≤ ZM := by have := B4.out.size; omega
      clear hN0 hX bX hmm B4 P4 k4 HO4
      go_loopw [19] (fun iv W => ∃ q : Nat, 1 ≤ q ∧ q ≤ 7 ∧ iv = .int .i64 q ∧ Hid (NumF W ZM (q * 2) (alS q)) ∧ Hid (Mod (fun g => g = ZM) X5 W)) (fun iv _ => 7 - (intOf iv).toNat)
      case atStart => exact ⟨1, by omega, by omega, rfl, hid (HN0.out.mono (by omega)), hid (Mod.refl _ _)⟩
      case round =>
        obtain ⟨q, hq1, hq7, rfl, HN, HM⟩ := hrel
        by_cases hlt : q < 7
        · have x1 : (q : Int) ≤ 6 := by omega
          have hwq : IntKind.i64.wrap (-(q : Int)) = -(q : Int) := iw' (by omega) (by omega)
          have hstep := alS_step q hq1
          have Hstep := hid hstep
          clear hstep
          go_wp2_with (first
            | (at_mapUpdate; refine wpList_update_f rfl _ _ _ rfl (k := (q : Int)) HN.out (by omega) (by unfold I64; omega) (by unfold I64; omega) rfl rfl rfl ?_; intro w6 hN6 hM6; have HN6 := hid hN6; have HM6 := hid hM6; clear hN6 hM6)
            | (at_mapUpdate; refine wpList_update_f rfl _ _ _ rfl (k := -(q : Int)) HN6.out (by omega) (by unfold I64; omega) (by unfold I64; omega) rfl rfl rfl ?_; intro w7 hN7 hM7; have HN7 := hid hN7; have HM7 := hid hM7; clear hN7 hM7))
          go_roundw
          case rel => exact ⟨q + 1, by omega, by omega, by go_num, hid ((HN7.out.fn Hstep.out).mono (by omega)), hid ((HM.out.trans (HM6.out.mono fun g _ e => .inl e)).trans (HM7.out.mono fun g _ e => .inl e))⟩
          case measure => simp [intOf]; omega
        · have hq7e : q = 7 := by omega
          have HN := hid (hq7e ▸ HN.out : NumF wr ZM (7 * 2) (alS 7))
          clear hq7e
          obtain ⟨W6, rfl⟩ : ∃ W : World, W = wr := ⟨_, rfl⟩
          have hN6 := HN.out.fn (alX_start (g := mixA N mk bs 0) fun _ => rfl)
          have HN6 := hid hN6
          have B6 := hid (below_mod B5.out (by have := B5.out.size; omega) HM.out (fun g e => by omega))
          have P6 := hid (P5.out.mod HM.out fun g _ hg e => by omega)
          have k6 := hid (Below.mod_lt k5.out HM.out (by omega))
          have RA6 := hid (RA5.out.mod HM.out fun g _ hg e => by omega)
          clear HN0 HN hN6 B5 P5 k5 RA5 HM
          go_wp2_with fail
          go_loopw [17, 73] (fun sv iv W => ∃ x : Nat, x ≤ 64 ∧ iv = .int .i64 x ∧ sv = .bool ((List.range x).any (mixH N mk bs)) ∧ Hid (NumF W ZM (14 + x * 6) (alX (mixA N mk bs x))) ∧ Hid (Mod (fun g => g = ZM) W6 W)) (fun _ iv _ => 64 - (intOf iv).toNat)
          case atStart => exact ⟨0, by omega, rfl, rfl, HN6, hid (Mod.refl _ _)⟩
          case round =>
            obtain ⟨x, hx, rfl, rfl, HN, HM⟩ := hrel
            have P7 := hid (P6.out.mod HM.out fun g _ hg e => by omega)
            have k7 := hid (Below.mod_lt k6.out HM.out (by omega))
            have hlM := HN.out.lt
            by_cases hltx : x < 64
            · have x1 : (x : Int) < 64 := by omega
              have hw8 : IntKind.u8.wrap (x : Int) = (x : Int) := IntWalk.u8_in _ ⟨by omega, by omega⟩
              have hany : (List.range (x + 1)).any (mixH N mk bs) = ((List.range x).any (mixH N mk bs) || mixH N mk bs x) := by rw [List.range_succ, List.any_append]; simp
              have hms := fun l => mixA_succ (c := N) (m := mk) (b := bs) x l
              obtain ⟨so, hso⟩ : ∃ so, (List.range x).any (mixH N mk bs) = so := ⟨_, rfl⟩
              rw [hso] at hany ⊢
              have Hany := hid hany
              have Hms := hid hms
              clear hany hms hso
              go_wp2_with fail
              refine total_any.mono ?_
              rintro r w8 ⟨Z8, hZ8, rfl, ho8, b8⟩
              have ho9 : Own w8 (fun g => g = Z8) 37 1 (.slice (some ⟨Z8, 0, none⟩) 6 6) 6 (i8s (totUp (mixN x mk bs) 6)) := ho8
              have RB8 := hid ho9.rd
              have P8 := hid (P7.out.below b8)
              have k8 := hid (keep_blk k7.out b8)
              have HN8 := hid (HN.out.below b8)
              have HM8 := hid (HM.out.trans (Mod.of_below b8))
              have hz8 : ZM < Z8 := by omega
              obtain ⟨e0, e1, e2⟩ := box3 k8.out
              clear ho8 ho9 b8 P7 k7 HN HM hZ8
              go_wp2_with fail
              refine (holds_any P8.out Hok.out.i64 RB8.out).mono ?_
              rintro r w9 ⟨rfl, b9⟩
              obtain ⟨qh, hqh⟩ : ∃ q, N.holdsB (totUp (mixN x mk bs) 6) = q := ⟨_, rfl⟩
              rw [hqh]
              have Hqh := hid (show mixH N mk bs x = qh from hqh)
              have RB9 := hid (RB8.out.below b9)
              have HN9 := hid (HN8.out.below b9)
              have HM9 := hid (HM8.out.trans (Mod.of_below b9))
              have hlM9 := HN9.out.lt
              clear e0 e1 e2 hqh b9 RB8 HN8 HM8 P8 k8
              cases qh
              · go_wp2_with fail
                go_roundw
                case rel => exact ⟨x + 1, by omega, by go_num, by rw [Hany.out, Hqh.out, Bool.or_false], hid ((HN9.out.fn (alX_cong fun l => by rw [Hms.out, Hqh.out]; simp)).mono (by omega)), HM9⟩
                case measure => simp [intOf]; omega
              · go_wp2_with fail
                go_loopw [91] (fun iv W => ∃ i : Nat, i ≤ 6 ∧ iv = .int .i64 i ∧ Hid (NumF W ZM (14 + x * 6 + i) (alI (mixA N mk bs x) (sOf (totUp (mixN x mk bs) 6)) i)) ∧ Hid (Mod (fun g => g = ZM) w9 W)) (fun iv _ => 6 - (intOf iv).toNat)
                case atStart => exact ⟨0, by omega, rfl, hid (HN9.out.fn (alI_zero _ _)), hid (Mod.refl _ _)⟩
                case round =>
                  obtain ⟨i, hi, rfl, HNi, HMi⟩ := hrel
                  by_cases hlti : i < 6
                  · have x2 : (i : Int) < 6 := by omega
                    obtain ⟨g2, o2, e4, hgF, hg2, hc2⟩ := RB9.out.cell8.2 i hlti
                    injection e4 with e4
                    injection e4 with e4 e5
                    subst e4 e5
                    have e6 := (World.cell?_of_block (a := ⟨Z8, 0 + i, none⟩) (HMi.out.block Z8 hg2 (by omega))).trans hc2
                    rw [Nat.zero_add, totUp_nth _ 6 hlti, if_pos hlti] at e6
                    have htb := tr_bit (x := mixN x mk bs) hlti
                    obtain ⟨bt, hbt⟩ : ∃ q, bitOf (mixN x mk bs) i = q := ⟨_, rfl⟩
                    rw [hbt] at htb e6
                    have hwi : IntKind.i64.wrap (-(i : Int)) = -(i : Int) := iw' (by omega) (by omega)
                    have hwi2 : IntKind.i64.wrap (-(i : Int) - 1) = -(i : Int) - 1 := iw' (by omega) (by omega)
                    clear hc2 hbt
                    cases bt
                    · have e7 : wr.cell? ⟨Z8, i, none⟩ = some (.int .i8 (-1)) := e6
                      have Hst := hid (alI_step (g := mixA N mk bs x) (s := sOf (totUp (mixN x mk bs) 6)) (i := i) (k := (i : Int) + 1) (by omega) htb.1)
                      clear e6 htb
                      go_wp2_with (first
                        | (at_mapUpdate; refine wpList_update_f rfl _ _ _ rfl (k := (i : Int) + 1) HNi.out (by omega) (by unfold I64; omega) (by unfold I64; omega) rfl rfl rfl ?_; intro w6 hN6 hM6; have HN10 := hid hN6; have HM10 := hid hM6; clear hN6 hM6))
                      go_roundw
                      case rel => exact ⟨i + 1, by omega, by go_num, hid ((HN10.out.fn Hst.out).mono (by omega)), hid (HMi.out.trans (HM10.out.mono fun g _ e => .inl e))⟩
                      case measure => simp [intOf]; omega
                    · have e7 : wr.cell? ⟨Z8, i, none⟩ = some (.int .i8 1) := e6
                      have Hst := hid (alI_step (g := mixA N mk bs x) (s := sOf (totUp (mixN x mk bs) 6)) (i := i) (k := -(i : Int) - 1) (by omega) htb.2)
                      clear e6 htb
                      go_wp2_with (first
                        | (at_mapUpdate; refine wpList_update_f rfl _ _ _ rfl (k := -(i : Int) - 1) HNi.out (by omega) (by unfold I64; omega) (by unfold I64; omega) rfl rfl rfl ?_; intro w6 hN6 hM6; have HN10 := hid hN6; have HM10 := hid hM6; clear hN6 hM6))
                      go_roundw
                      case rel => exact ⟨i + 1, by omega, by go_num, hid ((HN10.out.fn Hst.out).mono (by omega)), hid (HMi.out.trans (HM10.out.mono fun g _ e => .inl e))⟩
                      case measure => simp [intOf]; omega
                  · obtain rfl : i = 6 := by omega
                    have HN10 := hid (HNi.out.fn (alI_six (h := mixA N mk bs (x + 1)) fun l => by rw [Hms.out, Hqh.out]; rfl))
                    have HM10 := hid (HM9.out.trans (HMi.out.mono fun g _ e => .inl e))
                    clear HNi HMi HM9 HN9
                    go_wp2_with fail
                    go_roundw
                    case rel => exact ⟨x + 1, by omega, by go_num, by rw [Hany.out, Hqh.out, Bool.or_true], hid (HN10.out.mono (by omega)), HM10⟩
                    case measure => simp [intOf]; omega
            · have hx64 : x = 64 := by omega
              have HN := hid (show NumF wr ZM (14 + 64 * 6) (alX (mixA N mk bs 64)) by have h := HN.out; rw [hx64] at h; exact h)
              rw [show (List.range x).any (mixH N mk bs) = (List.range 64).any (mixH N mk bs) by rw [hx64]]
              clear hx64
              have hsome := some_is Hok.out H6.out Hk.out Hs.out
              rw [← hsome, Hav.out]
              have hslk := N.slackB av
              obtain ⟨sa, hsa⟩ : ∃ s, N.slackB av = s := ⟨_, rfl⟩
              rw [hsa]
              have Hsa := hid hsa
              have RA7 := hid (RA6.out.mod HM.out fun g _ hg e => by omega)
              have B7 := hid (below_mod B6.out (by have := B6.out.size; omega) HM.out (fun g e => by omega))
              have HN7 := HN
              obtain ⟨W7, rfl⟩ : ∃ W : World, W = wr := ⟨_, rfl⟩
              obtain ⟨e0, e1, e2⟩ := box3 k7.out
              clear hslk hsome hsa HM HN
              by_cases hneg : 0 ≤ sa
              · rw [decide_eq_true hneg]
                -- YES
                have hge : decide (0 ≤ sa) = true := decide_eq_true hneg
                go_wp2_with fail
                refine (slack_any P7.out Hok.out.i64 RA7.out).mono ?_
                rintro r w10 ⟨rfl, b10⟩
                rw [Hsa.out]
                have B10 := hid (B7.out.trans (b10.mono B7.out.size))
                have P10 := hid (P7.out.below b10)
                have k10 := hid (keep_blk k7.out b10)
                have RA10 := hid (RA7.out.below b10)
                have HN10 := hid (HN7.out.below b10)
                clear e0 e1 e2 b10 P7 k7 RA7 HN7 B7
                obtain ⟨e0, e1, e2⟩ := box3 k10.out
                go_wp2_with fail
                refine (units_any P10.out Hok.out.i64 RA10.out).mono ?_
                rintro r w11 ⟨⟨R, cr, rfl, hoR⟩, b11⟩
                have hul : (N.unitsB av).length ≤ N.lits.length := units_len av
                have Hnd := hid (units_nodup Hok.out av)
                have Hui := hid (fun (i : Nat) (hi : i < N.lits.length) => unit_is Hok.out H6.out Hk.out Hs.out (by rw [Hav.out, Hsa.out]; exact hneg) hi)
                have Hun := hid (fun (i : Nat) (hi : i < N.lits.length) => units_neg Hok.out (a := av) hi)
                have Hur := hid (fun (l : Int) (hl : l ∈ N.unitsB av) => units_lit hl)
                have hfew := Hok.out.few
                obtain ⟨U, hU⟩ : ∃ U, N.unitsB av = U := ⟨_, rfl⟩
                rw [Hav.out, hU] at Hui
                rw [hU] at hul Hnd Hun Hur hoR ⊢
                have B11 := hid (B10.out.trans (b11.mono B10.out.size))
                have P11 := hid (P10.out.below b11)
                have k11 := hid (keep_blk k10.out b11)
                have RA11 := hid (RA10.out.below b11)
                have HN11 := hid (HN10.out.below b11)
                have RU11 := hid hoR.rd
                have hnl : N.lits.length = n1' := by have := P11.out.lits.1; simpa [ints_length] using this
                have hw11 : w.heap.size ≤ w11.heap.size := B11.out.size
                clear e0 e1 e2 b11 hoR hU P10 k10 RA10 HN10 B10
                have hmm := @run_makeMap Tryd.prog
                go_wp2_with fail
                have hN0 := NumF.made w11
                obtain ⟨X12, hX, bX, _, sX⟩ := alloc_step w11 (.map #[] 0)
                obtain ⟨ZT, hZT⟩ : ∃ z, w11.heap.size = z := ⟨_, rfl⟩
                rw [hX, hZT, metT_none U] at hN0
                rw [hX, hZT]
                rw [hZT] at sX hw11
                have HT0 := hid hN0
                have hzMT : ZM < ZT := by have := HN11.out.lt; omega
                have B12 := hid (B11.out.trans (bX.mono B11.out.size))
                have P12 := hid ((P11.out.mono (G := fun g => g < ZT) fun g hg _ => by omega).below bX)
                have k12 := hid (keep_blk k11.out bX)
                have RA12 := hid ((RA11.out.mono (G := fun g => g < ZT) fun g hg _ => by omega).below bX)
                have RU12 := hid ((RU11.out.mono (G := fun g => g < ZT) fun g hg _ => by omega).below bX)
                have HN12 := hid (HN11.out.below bX)
                have hz1T : Z1 < ZT := by have := lt_of_block k11.out; omega
                clear hN0 hX bX hmm B11 P11 k11 RA11 RU11 HN11
                go_loopw [127] (fun iv W => ∃ j : Nat, j ≤ U.length ∧ iv = .int .i64 j ∧ Hid (NumF W ZT j (metT U j)) ∧ Hid (Mod (fun g => g = ZT) X12 W)) (fun iv _ => U.length - (intOf iv).toNat)
                case atStart => exact ⟨0, by omega, rfl, HT0, hid (Mod.refl _ _)⟩
                case round =>
                  obtain ⟨j, hj, rfl, HT, HM⟩ := hrel
                  by_cases hlt : j < U.length
                  · have x1 : (j : Int) < (U.length : Int) := by omega
                    obtain ⟨gU, oU, e4, hgF, hgU, hcU⟩ := RU12.out.cell.2 j hlt
                    subst e4
                    have e3 := (World.cell?_of_block (a := ⟨gU, oU + j, none⟩) (HM.out.block gU hgU (by omega))).trans hcU
                    obtain ⟨jj, hjj, hjl⟩ := Hur.out _ (nth_mem hlt)
                    have hx6 := H6.out jj hjj
                    rw [hjl] at hx6
                    have hm0 := metT_new Hnd.out hlt
                    have Hms := hid (metT_step hlt)
                    obtain ⟨x, hx⟩ : ∃ x, nth U j = x := ⟨_, rfl⟩
                    rw [hx] at hx6 hm0 Hms e3
                    have hlook := HT.out.look (v := x) (by unfold I64; omega) hm0
                    clear hcU hjj hjl hx hm0
                    go_wp2_with (first
                      | (at_mapUpdate; refine wpList_update_f rfl _ _ _ rfl (k := x) (y := 1) HT.out (by omega) (by unfold I64; omega) (by unfold I64; omega) rfl rfl rfl ?_; intro w6 hN6 hM6; have HT6 := hid hN6; have HM6 := hid hM6; clear hN6 hM6 hlook))
                    go_roundw
                    case rel => exact ⟨j + 1, by omega, by go_num, hid (HT6.out.fn Hms.out), hid (HM.out.trans (HM6.out.mono fun g _ e => .inl e))⟩
                    case measure => simp [intOf]; omega
                  · obtain rfl : j = U.length := by omega
                    have B13 := hid (below_mod B12.out (by have := B12.out.size; omega) HM.out (fun g e => by omega))
                    have P13 := hid (P12.out.mod HM.out fun g _ hg e => by omega)
                    have k13 := hid (Below.mod_lt k12.out HM.out (by omega))
                    have RA13 := hid (RA12.out.mod HM.out fun g _ hg e => by omega)
                    have HN13 := hid (HN12.out.mod HM.out (by omega))
                    have HT13 := HT
                    obtain ⟨W13, rfl⟩ : ∃ W : World, W = wr := ⟨_, rfl⟩
                    obtain ⟨e0, e1, e2⟩ := box3 k13.out
                    clear HM HT B12 P12 k12 RA12 RU12 HN12 HT0
                    go_wp2_with fail
                    clear e0 e1 e2
                    go_loopw [139] (fun iv W => ∃ j : Nat, j ≤ n1' ∧ iv = .int .i64 j ∧ Hid (Below W13.heap.size W13 W)) (fun iv _ => n1' - (intOf iv).toNat)
                    case atStart => exact ⟨0, by omega, rfl, hid (Below.refl _ _)⟩
                    case round =>
                      obtain ⟨j, hj, rfl, HB⟩ := hrel
                      by_cases hlt : j < n1'
                      · have x1 : (j : Int) < (n1' : Int) := by omega
                        obtain ⟨gL, oL, e4, _, hgL, hcL⟩ := P13.out.lits.cell.2 j hlt
                        subst e4
                        have e3 := (HB.out.cell (p := ⟨gL, oL + j, none⟩) hgL).trans hcL
                        have hx6 := H6.out j (by omega)
                        have hx0 := (Hok.out.lit j (by omega)).1
                        have hui := Hui.out j (by omega)
                        have hun := Hun.out j (by omega)
                        obtain ⟨x, hx⟩ : ∃ x, nth N.lits j = x := ⟨_, rfl⟩
                        rw [hx] at hx6 hx0 hui hun e3
                        obtain ⟨p, hp1⟩ : ∃ p : Nat, x.natAbs = p + 1 := ⟨x.natAbs - 1, by omega⟩
                        have hp6 : p < 6 := by omega
                        rw [hp1, Nat.add_sub_cancel] at hui
                        obtain ⟨g2, o2, e4, _, hg2, hc2⟩ := RA13.out.cell8.2 p hp6
                        injection e4 with e4
                        injection e4 with e4 e5
                        subst e4 e5
                        have e6 := (HB.out.cell (p := ⟨ZA, 0 + p, none⟩) hg2).trans hc2
                        rw [Nat.zero_add] at e6
                        obtain ⟨y, hy⟩ : ∃ y, nth av p = y := ⟨_, rfl⟩
                        rw [hy] at e6 hui
                        have hwx : IntKind.i64.wrap (-x) = -x := iw' (by omega) (by omega)
                        have hT := HT13.out.below HB.out
                        have hA := HN13.out.below HB.out
                        have hal := alX_at (g := mixA N mk bs 64) hx0 hx6
                        have hmt := metT_all (U := U) x
                        have hmn := metT_all (U := U) (-x)
                        rw [if_neg hun] at hmn
                        have HT := hid hT
                        have HA := hid hA
                        have Hmn := hid hmn
                        have Hui := hid hui
                        have Hal := hid hal
                        have Hmt := hid hmt
                        clear hcL hx hc2 hy hT hA hmn hui hal hmt hun
                        by_cases hp : 0 < x
                        · obtain rfl : x = (p : Int) + 1 := by omega
                          obtain ⟨nx, hnx⟩ : ∃ nx, IntKind.i64.wrap (-((p : Int) + 1)) = nx := ⟨_, rfl⟩
                          have Hnx := hid (show nx = -((p : Int) + 1) by rw [← hnx]; exact hwx)
                          have hmx := run_max_pos p Hnx.out
                          clear hwx
                          have hl3 := HT.out.look (v := nx) (c := 0) (by have := Hnx.out; unfold I64; omega) (by rw [Hnx.out]; exact Hmn.out)
                          by_cases hy0 : y = 0
                          · subst hy0
                            by_cases hU : ((p : Int) + 1) ∈ U
                            · have hl1 := HT.out.look (v := ((p : Int) + 1)) (c := 1) (by unfold I64; omega) (by rw [Hmt.out, if_pos hU])
                              have hl2 := HA.out.look (v := ((p : Int) + 1)) (c := 1) (by unfold I64; omega) (by rw [Hal.out, if_pos (Hui.out.1 hU).2])
                              go_wp2_with fail
                              go_roundw
                              case rel => exact ⟨j + 1, by omega, by go_num, HB⟩
                              case measure => simp [intOf]; omega
                            · have hl1 := HT.out.look (v := ((p : Int) + 1)) (c := 0) (by unfold I64; omega) (by rw [Hmt.out, if_neg hU])
                              have hl2 := HA.out.look (v := ((p : Int) + 1)) (c := 0) (by unfold I64; omega) (by rw [Hal.out, if_neg fun h => hU (Hui.out.2 ⟨rfl, h⟩)])
                              go_wp2_with fail
                              go_roundw
                              case rel => exact ⟨j + 1, by omega, by go_num, HB⟩
                              case measure => simp [intOf]; omega
                          · have hyb : (y == 0) = false := by simpa using hy0
                            have hl1 := HT.out.look (v := ((p : Int) + 1)) (c := 0) (by unfold I64; omega) (by rw [Hmt.out, if_neg fun h => hy0 (Hui.out.1 h).1])
                            go_wp2_with fail
                            go_roundw
                            case rel => exact ⟨j + 1, by omega, by go_num, HB⟩
                            case measure => simp [intOf]; omega
                        · have hw2 : IntKind.i64.wrap (-x) = (p : Int) + 1 := by rw [hwx]; omega
                          have hlz : x < 0 := by omega
                          have hmx := run_max_neg p hlz
                          clear hwx
                          have hl3 := HT.out.look (v := ((p : Int) + 1)) (c := 0) (by have := hp1; unfold I64; omega) (by rw [show (p : Int) + 1 = -x by omega]; exact Hmn.out)
                          by_cases hy0 : y = 0
                          · subst hy0
                            by_cases hU : x ∈ U
                            · have hl1 := HT.out.look (v := x) (c := 1) (by unfold I64; omega) (by rw [Hmt.out, if_pos hU])
                              have hl2 := HA.out.look (v := x) (c := 1) (by unfold I64; omega) (by rw [Hal.out, if_pos (Hui.out.1 hU).2])
                              go_wp2_with fail
                              go_roundw
                              case rel => exact ⟨j + 1, by omega, by go_num, HB⟩
                              case measure => simp [intOf]; omega
                            · have hl1 := HT.out.look (v := x) (c := 0) (by unfold I64; omega) (by rw [Hmt.out, if_neg hU])
                              have hl2 := HA.out.look (v := x) (c := 0) (by unfold I64; omega) (by rw [Hal.out, if_neg fun h => hU (Hui.out.2 ⟨rfl, h⟩)])
                              go_wp2_with fail
                              go_roundw
                              case rel => exact ⟨j + 1, by omega, by go_num, HB⟩
                              case measure => simp [intOf]; omega
                          · have hyb : (y == 0) = false := by simpa using hy0
                            have hl1 := HT.out.look (v := x) (c := 0) (by unfold I64; omega) (by rw [Hmt.out, if_neg fun h => hy0 (Hui.out.1 h).1])
                            go_wp2_with fail
                            go_roundw
                            case rel => exact ⟨j + 1, by omega, by go_num, HB⟩
                            case measure => simp [intOf]; omega
                      · obtain rfl : j = n1' := by omega
                        obtain ⟨e0, e1, e2⟩ := box3 (keep_blk k13.out HB.out)
                        have hlen : (U.length : Int) ≤ (j : Int) := by omega
                        go_wp2_with fail
                        refine awake_any.mono ?_
                        rintro r w14 ⟨rfl, b14⟩
                        have B14 := hid (B13.out.trans ((HB.out.trans (b14.mono HB.out.size)).mono B13.out.size))
                        clear b14 e0 e1 e2
                        go_wp2_with fail
                        go_ret
                        exact ⟨rfl, B14.out⟩
                -- END YES
              · rw [decide_eq_false hneg]
                -- NO
                have hge : decide (0 ≤ sa) = false := decide_eq_false hneg
                go_wp2_with fail
                refine (slack_any P7.out Hok.out.i64 RA7.out).mono ?_
                rintro r w10 ⟨rfl, b10⟩
                rw [Hsa.out]
                have B10 := hid (B7.out.trans (b10.mono B7.out.size))
                have P10 := hid (P7.out.below b10)
                have k10 := hid (keep_blk k7.out b10)
                have RA10 := hid (RA7.out.below b10)
                have HN10 := hid (HN7.out.below b10)
                clear e0 e1 e2 b10 P7 k7 RA7 HN7 B7
                obtain ⟨e0, e1, e2⟩ := box3 k10.out
                go_wp2_with fail
                refine (units_any P10.out Hok.out.i64 RA10.out).mono ?_
                rintro r w11 ⟨⟨R, cr, rfl, hoR⟩, b11⟩
                have hnil : N.unitsB av = [] := units_low (by rw [Hsa.out]; omega)
                rw [hnil, List.length_nil]
                have B11 := hid (B10.out.trans (b11.mono B10.out.size))
                clear hnil e0 e1 e2 b11 hoR
                go_wp2_with fail
                refine awake_any.mono ?_
                rintro r w12 ⟨rfl, b12⟩
                have B12 := hid (B11.out.trans (b12.mono B11.out.size))
                clear b12
                go_wp2_with fail
                go_ret
                exact ⟨rfl, B12.out⟩
                -- END NO
end Go.Proofs.YtbibjlaepmfoeaaDoor
