/-
  Chapter 24: the walk of PbClause.
-/
import Derived.Test.YtbibjlaepmfoeaaDoorPlF
import Derived.Maps.RangeWalk
import Derived.Test.YtbibjlaepmfoeaaDoorPbS
namespace Go.Proofs.YtbibjlaepmfoeaaDoor
open Go.RowKit Go.Maps

set_option maxRecDepth 100000 in
set_option maxHeartbeats 4000000 in
theorem clause_walk {w : World} {F : Nat → Prop} {u : Value} {n : Nat} {ls : List Int} (hu : Rd w F 1 u n (ints ls)) :
    Calls Tryd.prog 5 #[u] w fun r w' => r = .returned (.bool true) ∧ Below w.heap.size w w' := by
  have Hsm := hid (sm_is ls [])
  go_enter Tryd.func5, Tryd.ntmps5
  go_wp2_with fail
  refine (small_any (ks := []) hu (Own.nil w (fun _ => True) 3 1).rd).mono ?_
  rintro r w1 ⟨⟨A, n1, c1, B, n2, c2, rfl, ho1, ho2⟩, b1⟩
  obtain ⟨L, hL⟩ : ∃ L, smL ls [] = L := ⟨_, rfl⟩
  obtain ⟨C, hC⟩ : ∃ C, smC ls [] = C := ⟨_, rfl⟩
  rw [hL] at ho1 Hsm
  rw [hC] at Hsm
  have hl1 : L.length = n1 := by have := ho1.rd.1; simpa [ints_length] using this
  have s1 := b1.size
  have B1 := hid b1
  have RL := hid ho1.rd
  have hlb : ∀ l ∈ L, litB l = true := fun l hl => litB_iff.2 (by have := Hsm.out.lit l hl; exact ⟨this.1, by omega, by omega⟩)
  have hn8 : n1 ≤ 8 := by rw [← hl1]; exact Hsm.out.few
  have Hlb := hid hlb
  clear ho1 ho2 hL hC b1 hu hlb
  go_wp2_with fail
  refine (clause_any RL.out (fun x hx => by have := Hsm.out.lit x hx; unfold I64; omega) (by omega) (by have := once_len L; rw [hl1] at this; exact this) (fun x hx => mem_once.1 hx)).mono ?_
  rintro r w2 ⟨⟨pv, rfl, hpv⟩, b2⟩
  rw [once_small Hlb.out Hsm.out.few]
  have Hok := hid (clause_ok Hsm.out)
  have Hh := hid (fun av (hv : Tot av) => clause_tot Hsm.out hv)
  have Hca := hid (fun av (hv : Tot av) => clash_any Hsm.out (av := av) hv)
  have Hb1 := hid (fun e => clause_both Hlb.out Hsm.out.few e)
  have Hb2 := hid (fun e => clause_one Hlb.out Hsm.out.few e)
  obtain ⟨N, hN⟩ : ∃ N, (clauseB L).1 = N := ⟨_, rfl⟩
  rw [hN] at hpv Hok Hh Hb1 Hb2
  have B2 := hid (B1.out.trans (b2.mono s1))
  have RL2 := hid (RL.out.below b2)
  have P1 := hid hpv
  have s2 := b2.size
  obtain ⟨⟨A1, n1', c1', A2, n2', c2', rfl, rr1, rr2⟩, hb1⟩ := hpv
  have hln : N.lits.length = n1' := by have := rr1.1; simpa [ints_length] using this
  have Hln := hid hln
  obtain ⟨Z1, hZ1⟩ : ∃ z, w2.heap.size = z := ⟨_, rfl⟩
  clear hN b2 RL B1 rr1 rr2 hb1 hln
  go_wp2_with fail
  obtain ⟨X3, hX, bX, k1, sX⟩ := alloc_step w2 (.cells #[.slice A1 n1' c1', .slice A2 n2' c2', .int .i64 N.bound] 26)
  rw [hX]
  refine (valid_any (P1.out.below bX) Hok.out.i64).mono ?_
  rintro r w4 ⟨rfl, b4⟩
  rw [(Pb.ok_iff _).2 Hok.out]
  have bb := bX.trans (b4.mono bX.size)
  have sB := bb.size
  have B4 := hid (B2.out.trans (bb.mono B2.out.size))
  have RL4 := hid (RL2.out.below bb)
  have P4 := hid (P1.out.below bb)
  have k4 := hid (hZ1 ▸ keep_blk k1 b4)
  have hz1 : Z1 < w4.heap.size := lt_of_block k4.out
  obtain ⟨Z2, hZ2⟩ : ∃ z, w4.heap.size = z := ⟨_, rfl⟩
  clear bb bX b4 hX sX hZ1 k1 RL2 P1 B2
  have hmm := @run_makeMap Tryd.prog
  go_wp2_with fail
  have hN0 := NumIs.made w4
  obtain ⟨X5, hX, bX, _, sX⟩ := alloc_step w4 (.map #[] 0)
  rw [hX] at hN0 ⊢
  rw [hZ2] at hN0 sX hz1
  have HN0 := hid hN0
  have RL5 := hid ((RL4.out.mono (G := fun g => g < Z2) fun g hg _ => by omega).below bX)
  have BX := hid bX
  have hs14 : w1.heap.size ≤ Z2 := by omega
  clear hN0 hX bX hmm
  go_loopw [7, 36] (fun bv iv W => ∃ j : Nat, j ≤ n1 ∧ iv = .int .i64 j ∧ bv = .bool (bothUp L j) ∧ Hid (NumIs W Z2 j (fun v => if v ∈ L.take j then 1 else 0) (keysOf (L.take j))) ∧ Hid (Mod (fun g => g = Z2) X5 W)) (fun _ iv _ => n1 - (intOf iv).toNat)
  case atStart => exact ⟨0, by omega, rfl, rfl, HN0, Mod.refl _ _⟩
  case round =>
    obtain ⟨j, hj, rfl, rfl, HN, HM⟩ := hrel
    by_cases hlt : j < n1
    · have x1 : (j : Int) < (n1 : Int) := by omega
      obtain ⟨g, o, rfl, _, hg, e0⟩ := (RL5.out.mod HM.out fun g _ hf hg => by omega).cell.2 j hlt
      have hx6 := Hsm.out.lit _ (nth_mem (show j < L.length by omega))
      have hbs := bothUp_succ L j
      have htk := take_nth (xs := L) (k := j) (by omega)
      obtain ⟨x, hx⟩ : ∃ x, nth L j = x := ⟨_, rfl⟩
      rw [hx] at e0 hx6 hbs htk
      obtain ⟨q, hq⟩ : ∃ q, bothUp L j = q := ⟨_, rfl⟩
      rw [hq] at hbs ⊢
      obtain ⟨D, hown, hD⟩ := HN.out
      have Hown := hid hown
      have HD := hid (hD.put (x := x) (by unfold I64; omega) 1)
      have hwn : IntKind.i64.wrap (-x) = -x := iw' (by omega) (by omega)
      have hkey : keyOf Tryd.prog 3 (.int .i64 x) = some (.int .i64 x) := key_num (by unfold I64; omega)
      have hkey2 : keyOf Tryd.prog 3 (.int .i64 (-x)) = some (.int .i64 (-x)) := key_num (by unfold I64; omega)
      have hpe : plainElem (H := Unit) Tryd.prog 3 (.int .i64 1) = some (.lit (.int .i64 1), []) := plainElem_int Tryd.underlying3 (i64_wf (by unfold I64; omega))
      have hfun : upd (fun v => if v ∈ L.take j then 1 else 0) x 1 = fun v => if v ∈ L.take (j + 1) then 1 else 0 := by
        funext v
        unfold upd
        rw [htk]
        by_cases e : v = x
        · rw [if_pos e, if_pos (by simp [e])]
        · rw [if_neg e]; simp [e]
      have hkeys : addK x (keysOf (L.take j)) = keysOf (L.take (j + 1)) := by rw [htk, keysOf_snoc]
      rw [hfun, hkeys] at HD
      have hval : (fun v => if v ∈ L.take (j + 1) then (1 : Int) else 0) (-x) = (if -x ∈ L.take (j + 1) then 1 else 0) := rfl
      clear hown hD hq hx htk hfun hkeys
      by_cases hy : -x ∈ L.take (j + 1)
      · rw [if_pos hy] at hval
        rw [decide_eq_true hy] at hbs
        have Hbs := hid hbs
        clear hy hbs
        cases q
        · go_wp2_with (first
            | (at_mapUpdate; refine wpList_mapUpdate_own _ rfl _ _ _ 38 rfl 3 3 keyed_int Tryd.underlying38 (plainElem (H := Unit) Tryd.prog 3) Z2 _ D rfl Hown.out (by unfold maxLen; omega) _ _ _ rfl rfl hkey _ [] hpe ?_; intro w3 hown3 hgrow3; have Hown3 := hid hown3; have hlook := NumD.look hown3 HD.out (v := -x) (by unfold I64; omega) hval))
          go_roundw
          case rel => exact ⟨j + 1, by omega, by go_num, by rw [Hbs.out]; rfl, hid ⟨_, Hown3.out, HD.out⟩, hid (HM.out.trans ((Mod.of_grown hgrow3).mono fun k _ hk => by injection hk with hk; exact .inl hk.symm))⟩
          case measure => simp [intOf]; omega
        · go_wp2_with (first
            | (at_mapUpdate; refine wpList_mapUpdate_own _ rfl _ _ _ 38 rfl 3 3 keyed_int Tryd.underlying38 (plainElem (H := Unit) Tryd.prog 3) Z2 _ D rfl Hown.out (by unfold maxLen; omega) _ _ _ rfl rfl hkey _ [] hpe ?_; intro w3 hown3 hgrow3; have Hown3 := hid hown3; have hlook := NumD.look hown3 HD.out (v := -x) (by unfold I64; omega) hval))
          go_roundw
          case rel => exact ⟨j + 1, by omega, by go_num, by rw [Hbs.out]; rfl, hid ⟨_, Hown3.out, HD.out⟩, hid (HM.out.trans ((Mod.of_grown hgrow3).mono fun k _ hk => by injection hk with hk; exact .inl hk.symm))⟩
          case measure => simp [intOf]; omega
      · rw [if_neg hy] at hval
        rw [decide_eq_false hy] at hbs
        have Hbs := hid hbs
        clear hy hbs
        cases q
        · go_wp2_with (first
            | (at_mapUpdate; refine wpList_mapUpdate_own _ rfl _ _ _ 38 rfl 3 3 keyed_int Tryd.underlying38 (plainElem (H := Unit) Tryd.prog 3) Z2 _ D rfl Hown.out (by unfold maxLen; omega) _ _ _ rfl rfl hkey _ [] hpe ?_; intro w3 hown3 hgrow3; have Hown3 := hid hown3; have hlook := NumD.look hown3 HD.out (v := -x) (by unfold I64; omega) hval))
          go_roundw
          case rel => exact ⟨j + 1, by omega, by go_num, by rw [Hbs.out]; rfl, hid ⟨_, Hown3.out, HD.out⟩, hid (HM.out.trans ((Mod.of_grown hgrow3).mono fun k _ hk => by injection hk with hk; exact .inl hk.symm))⟩
          case measure => simp [intOf]; omega
        · go_wp2_with (first
            | (at_mapUpdate; refine wpList_mapUpdate_own _ rfl _ _ _ 38 rfl 3 3 keyed_int Tryd.underlying38 (plainElem (H := Unit) Tryd.prog 3) Z2 _ D rfl Hown.out (by unfold maxLen; omega) _ _ _ rfl rfl hkey _ [] hpe ?_; intro w3 hown3 hgrow3; have Hown3 := hid hown3; have hlook := NumD.look hown3 HD.out (v := -x) (by unfold I64; omega) hval))
          go_roundw
          case rel => exact ⟨j + 1, by omega, by go_num, by rw [Hbs.out]; rfl, hid ⟨_, Hown3.out, HD.out⟩, hid (HM.out.trans ((Mod.of_grown hgrow3).mono fun k _ hk => by injection hk with hk; exact .inl hk.symm))⟩
          case measure => simp [intOf]; omega
    · obtain rfl : j = n1 := by omega
      have hbu : bothUp L j = clash L := by rw [← hl1]; exact bothUp_all fun l hl => (Hsm.out.lit l hl).1
      have htk : L.take j = L := List.take_of_length_le (by omega)
      have HN2 := HN.out
      rw [htk] at HN2
      obtain ⟨D, hown, hD⟩ := HN2
      have hsz : (Maps.size D : Int) = ((once L).length : Nat) := by rw [hD.size, keys_once]
      have hlen := fun ty => hown.len Tryd.underlying38 ty
      rw [hsz] at hlen
      have Bw := hid (below_mod BX.out (by have := BX.out.size; omega) HM.out fun g e => by omega)
      have k6 := hid (keep_blk k4.out Bw.out)
      obtain ⟨e0, e1, e2⟩ := box3 k6.out
      clear hown hD hsz HN htk
      rw [hbu]
      by_cases hc : clash L = true
      · have hb0 := Hb1.out hc
        rw [hb0] at e2
        rw [hc]
        go_wp2_with fail
        clear e0 e1 e2 hlen k6 hbu
        have Hcl : Hid (clash L = true) := hid (by assumption)
        have P4' := P4
        clear hb0
        go_loopw [73] (fun iv W => ∃ x : Nat, x ≤ 64 ∧ iv = .int .i64 x ∧ Hid (Below w4.heap.size w4 W)) (fun iv _ => 64 - (intOf iv).toNat)
        case atStart => exact ⟨0, by omega, rfl, Bw⟩
        case round =>
          obtain ⟨x, hx, rfl, HB⟩ := hrel
          by_cases hlt3 : x < 64
          · have x1 : (x : Int) < 64 := by omega
            have hw8 : IntKind.u8.wrap (x : Int) = (x : Int) := IntWalk.u8_in _ ⟨by omega, by omega⟩
            go_wp2_with fail
            refine total_any.mono ?_
            rintro r w5 ⟨Z5, hZ5, rfl, ho5, b5⟩
            have bw5 := HB.out.trans (b5.mono HB.out.size)
            obtain ⟨av, hav⟩ : ∃ av, totUp x 6 = av := ⟨_, rfl⟩
            rw [hav] at ho5
            have Hav := hid (show Tot av from hav ▸ tot_total x)
            have RA7 := hid ho5.rd
            have HB5 := hid bw5
            have RL7 := hid (RL4.out.below bw5)
            clear b5 ho5 bw5 hav
            go_wp2_with fail
            go_loopw [13, 81] (fun sv iv W => ∃ k : Nat, k ≤ j ∧ iv = .int .i64 k ∧ sv = .bool ((L.take k).any (litT av)) ∧ Hid (Below w5.heap.size w5 W)) (fun _ iv _ => j - (intOf iv).toNat)
            case atStart => exact ⟨0, by omega, rfl, by simp, hid (Below.refl _ _)⟩
            case round =>
              obtain ⟨k, hk, rfl, rfl, hb⟩ := hrel
              by_cases hlt4 : k < j
              · obtain ⟨g, o, rfl, _, hg, hc1⟩ := RL7.out.cell.2 k hlt4
                have e0 := (hb.out.cell (p := ⟨g, o + k, none⟩) hg).trans hc1
                have x2 : (k : Int) < (j : Int) := by omega
                have hx6 := Hsm.out.lit _ (nth_mem (show k < L.length by omega))
                have hst : (L.take (k + 1)).any (litT av) = ((L.take k).any (litT av) || litT av (nth L k)) := by rw [take_nth (by omega), List.any_append]; simp
                obtain ⟨li, hli⟩ : ∃ l, nth L k = l := ⟨_, rfl⟩
                rw [hli] at e0 hx6 hst
                obtain ⟨q, hq⟩ : ∃ q, (L.take k).any (litT av) = q := ⟨_, rfl⟩
                rw [hq] at hst ⊢
                clear hc1 hli hq
                cases q
                · by_cases hp : 0 < li
                  · obtain ⟨p, hp1⟩ : ∃ p : Nat, li.natAbs = p + 1 := ⟨li.natAbs - 1, by omega⟩
                    have hli : li = (p : Int) + 1 := by omega
                    have hpl : p < 6 := by omega
                    subst hli
                    have hnp : nth av (((p : Int) + 1).natAbs - 1) = nth av p := by rw [hp1, Nat.add_sub_cancel]
                    have hp2 : (p : Int) < 6 := by omega
                    obtain ⟨g2, o2, e2, _, hg2, hc3⟩ := RA7.out.cell8.2 p hpl
                    injection e2 with e2
                    injection e2 with e2 e4
                    subst e2 e4
                    have e3 := (hb.out.cell (p := ⟨Z5, 0 + p, none⟩) hg2).trans hc3
                    rw [Nat.zero_add] at e3
                    obtain ⟨y, hy⟩ : ∃ y, nth av p = y := ⟨_, rfl⟩
                    rw [hy] at e3 hnp
                    clear hc3 hy hp1 hx6
                    by_cases hx0 : 0 < y
                    · have hT : litT av ((p : Int) + 1) = true := by unfold litT; rw [hnp]; simp <;> omega
                      rw [hT] at hst
                      have Hst := hid hst
                      clear hT hnp hst
                      go_wp2_with fail
                      go_roundw
                      case rel => exact ⟨k + 1, by omega, by go_num, by rw [Hst.out]; rfl, hb⟩
                      case measure => simp [intOf]; omega
                    · have hT : litT av ((p : Int) + 1) = false := by unfold litT; rw [hnp]; simp <;> omega
                      rw [hT] at hst
                      have Hst := hid hst
                      clear hT hnp hst
                      go_wp2_with fail
                      go_roundw
                      case rel => exact ⟨k + 1, by omega, by go_num, by rw [Hst.out]; rfl, hb⟩
                      case measure => simp [intOf]; omega
                  · obtain ⟨p, hp1⟩ : ∃ p : Nat, li.natAbs = p + 1 := ⟨li.natAbs - 1, by omega⟩
                    have hli : li = -((p : Int) + 1) := by omega
                    have hpl : p < 6 := by omega
                    subst hli
                    have hnp : nth av ((-((p : Int) + 1)).natAbs - 1) = nth av p := by rw [hp1, Nat.add_sub_cancel]
                    have hp2 : (p : Int) < 6 := by omega
                    have hw2 : IntKind.i64.wrap (-(-((p : Int) + 1))) = (p : Int) + 1 := by rw [iw' (by omega) (by omega)]; omega
                    have hlz : -((p : Int) + 1) < 0 := by omega
                    obtain ⟨g2, o2, e2, _, hg2, hc3⟩ := RA7.out.cell8.2 p hpl
                    injection e2 with e2
                    injection e2 with e2 e4
                    subst e2 e4
                    have e3 := (hb.out.cell (p := ⟨Z5, 0 + p, none⟩) hg2).trans hc3
                    rw [Nat.zero_add] at e3
                    obtain ⟨y, hy⟩ : ∃ y, nth av p = y := ⟨_, rfl⟩
                    rw [hy] at e3 hnp
                    obtain ⟨mi, hmi⟩ : ∃ m, -((p : Int) + 1) = m := ⟨_, rfl⟩
                    rw [hmi] at e0 hw2 hlz hnp hst hp
                    clear hc3 hy hp1 hx6
                    by_cases hx0 : y < 0
                    · have hT : litT av mi = true := by unfold litT; rw [hnp]; simp <;> omega
                      rw [hT] at hst
                      have Hst := hid hst
                      clear hT hnp hst
                      go_wp2_with fail
                      go_roundw
                      case rel => exact ⟨k + 1, by omega, by go_num, by rw [Hst.out]; rfl, hb⟩
                      case measure => simp [intOf]; omega
                    · have hT : litT av mi = false := by unfold litT; rw [hnp]; simp <;> omega
                      rw [hT] at hst
                      have Hst := hid hst
                      clear hT hnp hst
                      go_wp2_with fail
                      go_roundw
                      case rel => exact ⟨k + 1, by omega, by go_num, by rw [Hst.out]; rfl, hb⟩
                      case measure => simp [intOf]; omega
                · have Hst := hid hst
                  clear hst
                  go_wp2_with fail
                  go_roundw
                  case rel => exact ⟨k + 1, by omega, by go_num, by rw [Hst.out]; rfl, hb⟩
                  case measure => simp [intOf]; omega
              · obtain rfl : k = j := by omega
                have hany : (L.take k).any (litT av) = N.holdsB av := by rw [List.take_of_length_le (by omega), Hh.out av Hav.out]
                have hclash : true = true → N.holdsB av = true := fun e => by rw [Hh.out av Hav.out]; exact Hca.out av Hav.out (Hcl.out.trans e)
                have bw7 := HB5.out.trans (hb.out.mono HB5.out.size)
                have k7 := keep_blk k4.out bw7
                obtain ⟨e0, e1, e2⟩ := box3 k7
                rw [hany]
                obtain ⟨q, hq⟩ : ∃ q, N.holdsB av = q := ⟨_, rfl⟩
                rw [hq] at hclash ⊢
                have HB7 := hid bw7
                have Hq := hid hq
                have Hcs := hid hclash
                clear hany hclash bw7 k7 hq
                cases q
                · exact absurd (Hcs.out rfl) (by decide)
                · clear Hcs
                  go_wp2_with fail
                  refine (holds_any (P4'.out.below HB7.out) Hok.out.i64 (RA7.out.below hb.out)).mono ?_
                  rintro r w7 ⟨rfl, b7⟩
                  rw [Hq.out]
                  have bw8 := hid (HB7.out.trans (b7.mono HB7.out.size))
                  clear b7 e0 e1 e2
                  go_wp2_with fail
                  go_roundw
                  case rel => exact ⟨x + 1, by omega, by go_num, bw8⟩
                  case measure => simp [intOf]; omega
          · obtain rfl : x = 64 := by omega
            go_wp2_with fail
            refine awake_any.mono ?_
            rintro r w8 ⟨rfl, b8⟩
            have B8 := hid (B4.out.trans ((HB.out.trans (b8.mono HB.out.size)).mono B4.out.size))
            clear b8
            go_wp2_with fail
            go_ret
            exact ⟨rfl, B8.out⟩
      · have hc2 : clash L = false := by simpa using hc
        obtain ⟨hb0, hb1⟩ := Hb2.out hc2
        rw [hb0] at e2
        rw [hc2]
        have hq1 : (n1' : Int) = ((once L).length : Nat) := by rw [← Hln.out, hb1]
        go_wp2_with fail
        clear e0 e1 e2 hlen k6 hbu
        have Hcl : Hid (clash L = false) := hid (by assumption)
        have P4' := P4
        clear hb0
        go_loopw [73] (fun iv W => ∃ x : Nat, x ≤ 64 ∧ iv = .int .i64 x ∧ Hid (Below w4.heap.size w4 W)) (fun iv _ => 64 - (intOf iv).toNat)
        case atStart => exact ⟨0, by omega, rfl, Bw⟩
        case round =>
          obtain ⟨x, hx, rfl, HB⟩ := hrel
          by_cases hlt3 : x < 64
          · have x1 : (x : Int) < 64 := by omega
            have hw8 : IntKind.u8.wrap (x : Int) = (x : Int) := IntWalk.u8_in _ ⟨by omega, by omega⟩
            go_wp2_with fail
            refine total_any.mono ?_
            rintro r w5 ⟨Z5, hZ5, rfl, ho5, b5⟩
            have bw5 := HB.out.trans (b5.mono HB.out.size)
            obtain ⟨av, hav⟩ : ∃ av, totUp x 6 = av := ⟨_, rfl⟩
            rw [hav] at ho5
            have Hav := hid (show Tot av from hav ▸ tot_total x)
            have RA7 := hid ho5.rd
            have HB5 := hid bw5
            have RL7 := hid (RL4.out.below bw5)
            clear b5 ho5 bw5 hav
            go_wp2_with fail
            go_loopw [13, 81] (fun sv iv W => ∃ k : Nat, k ≤ j ∧ iv = .int .i64 k ∧ sv = .bool ((L.take k).any (litT av)) ∧ Hid (Below w5.heap.size w5 W)) (fun _ iv _ => j - (intOf iv).toNat)
            case atStart => exact ⟨0, by omega, rfl, by simp, hid (Below.refl _ _)⟩
            case round =>
              obtain ⟨k, hk, rfl, rfl, hb⟩ := hrel
              by_cases hlt4 : k < j
              · obtain ⟨g, o, rfl, _, hg, hc1⟩ := RL7.out.cell.2 k hlt4
                have e0 := (hb.out.cell (p := ⟨g, o + k, none⟩) hg).trans hc1
                have x2 : (k : Int) < (j : Int) := by omega
                have hx6 := Hsm.out.lit _ (nth_mem (show k < L.length by omega))
                have hst : (L.take (k + 1)).any (litT av) = ((L.take k).any (litT av) || litT av (nth L k)) := by rw [take_nth (by omega), List.any_append]; simp
                obtain ⟨li, hli⟩ : ∃ l, nth L k = l := ⟨_, rfl⟩
                rw [hli] at e0 hx6 hst
                obtain ⟨q, hq⟩ : ∃ q, (L.take k).any (litT av) = q := ⟨_, rfl⟩
                rw [hq] at hst ⊢
                clear hc1 hli hq
                cases q
                · by_cases hp : 0 < li
                  · obtain ⟨p, hp1⟩ : ∃ p : Nat, li.natAbs = p + 1 := ⟨li.natAbs - 1, by omega⟩
                    have hli : li = (p : Int) + 1 := by omega
                    have hpl : p < 6 := by omega
                    subst hli
                    have hnp : nth av (((p : Int) + 1).natAbs - 1) = nth av p := by rw [hp1, Nat.add_sub_cancel]
                    have hp2 : (p : Int) < 6 := by omega
                    obtain ⟨g2, o2, e2, _, hg2, hc3⟩ := RA7.out.cell8.2 p hpl
                    injection e2 with e2
                    injection e2 with e2 e4
                    subst e2 e4
                    have e3 := (hb.out.cell (p := ⟨Z5, 0 + p, none⟩) hg2).trans hc3
                    rw [Nat.zero_add] at e3
                    obtain ⟨y, hy⟩ : ∃ y, nth av p = y := ⟨_, rfl⟩
                    rw [hy] at e3 hnp
                    clear hc3 hy hp1 hx6
                    by_cases hx0 : 0 < y
                    · have hT : litT av ((p : Int) + 1) = true := by unfold litT; rw [hnp]; simp <;> omega
                      rw [hT] at hst
                      have Hst := hid hst
                      clear hT hnp hst
                      go_wp2_with fail
                      go_roundw
                      case rel => exact ⟨k + 1, by omega, by go_num, by rw [Hst.out]; rfl, hb⟩
                      case measure => simp [intOf]; omega
                    · have hT : litT av ((p : Int) + 1) = false := by unfold litT; rw [hnp]; simp <;> omega
                      rw [hT] at hst
                      have Hst := hid hst
                      clear hT hnp hst
                      go_wp2_with fail
                      go_roundw
                      case rel => exact ⟨k + 1, by omega, by go_num, by rw [Hst.out]; rfl, hb⟩
                      case measure => simp [intOf]; omega
                  · obtain ⟨p, hp1⟩ : ∃ p : Nat, li.natAbs = p + 1 := ⟨li.natAbs - 1, by omega⟩
                    have hli : li = -((p : Int) + 1) := by omega
                    have hpl : p < 6 := by omega
                    subst hli
                    have hnp : nth av ((-((p : Int) + 1)).natAbs - 1) = nth av p := by rw [hp1, Nat.add_sub_cancel]
                    have hp2 : (p : Int) < 6 := by omega
                    have hw2 : IntKind.i64.wrap (-(-((p : Int) + 1))) = (p : Int) + 1 := by rw [iw' (by omega) (by omega)]; omega
                    have hlz : -((p : Int) + 1) < 0 := by omega
                    obtain ⟨g2, o2, e2, _, hg2, hc3⟩ := RA7.out.cell8.2 p hpl
                    injection e2 with e2
                    injection e2 with e2 e4
                    subst e2 e4
                    have e3 := (hb.out.cell (p := ⟨Z5, 0 + p, none⟩) hg2).trans hc3
                    rw [Nat.zero_add] at e3
                    obtain ⟨y, hy⟩ : ∃ y, nth av p = y := ⟨_, rfl⟩
                    rw [hy] at e3 hnp
                    obtain ⟨mi, hmi⟩ : ∃ m, -((p : Int) + 1) = m := ⟨_, rfl⟩
                    rw [hmi] at e0 hw2 hlz hnp hst hp
                    clear hc3 hy hp1 hx6
                    by_cases hx0 : y < 0
                    · have hT : litT av mi = true := by unfold litT; rw [hnp]; simp <;> omega
                      rw [hT] at hst
                      have Hst := hid hst
                      clear hT hnp hst
                      go_wp2_with fail
                      go_roundw
                      case rel => exact ⟨k + 1, by omega, by go_num, by rw [Hst.out]; rfl, hb⟩
                      case measure => simp [intOf]; omega
                    · have hT : litT av mi = false := by unfold litT; rw [hnp]; simp <;> omega
                      rw [hT] at hst
                      have Hst := hid hst
                      clear hT hnp hst
                      go_wp2_with fail
                      go_roundw
                      case rel => exact ⟨k + 1, by omega, by go_num, by rw [Hst.out]; rfl, hb⟩
                      case measure => simp [intOf]; omega
                · have Hst := hid hst
                  clear hst
                  go_wp2_with fail
                  go_roundw
                  case rel => exact ⟨k + 1, by omega, by go_num, by rw [Hst.out]; rfl, hb⟩
                  case measure => simp [intOf]; omega
              · obtain rfl : k = j := by omega
                have hany : (L.take k).any (litT av) = N.holdsB av := by rw [List.take_of_length_le (by omega), Hh.out av Hav.out]
                have hclash : false = true → N.holdsB av = true := fun e => by rw [Hh.out av Hav.out]; exact Hca.out av Hav.out (Hcl.out.trans e)
                have bw7 := HB5.out.trans (hb.out.mono HB5.out.size)
                have k7 := keep_blk k4.out bw7
                obtain ⟨e0, e1, e2⟩ := box3 k7
                rw [hany]
                obtain ⟨q, hq⟩ : ∃ q, N.holdsB av = q := ⟨_, rfl⟩
                rw [hq] at hclash ⊢
                have HB7 := hid bw7
                have Hq := hid hq
                have Hcs := hid hclash
                clear hany hclash bw7 k7 hq
                clear Hcs
                cases q
                · go_wp2_with fail
                  refine (holds_any (P4'.out.below HB7.out) Hok.out.i64 (RA7.out.below hb.out)).mono ?_
                  rintro r w7 ⟨rfl, b7⟩
                  rw [Hq.out]
                  have bw8 := hid (HB7.out.trans (b7.mono HB7.out.size))
                  clear b7 e0 e1 e2
                  go_wp2_with fail
                  go_roundw
                  case rel => exact ⟨x + 1, by omega, by go_num, bw8⟩
                  case measure => simp [intOf]; omega
                · go_wp2_with fail
                  refine (holds_any (P4'.out.below HB7.out) Hok.out.i64 (RA7.out.below hb.out)).mono ?_
                  rintro r w7 ⟨rfl, b7⟩
                  rw [Hq.out]
                  have bw8 := hid (HB7.out.trans (b7.mono HB7.out.size))
                  clear b7 e0 e1 e2
                  go_wp2_with fail
                  go_roundw
                  case rel => exact ⟨x + 1, by omega, by go_num, bw8⟩
                  case measure => simp [intOf]; omega
          · obtain rfl : x = 64 := by omega
            go_wp2_with fail
            refine awake_any.mono ?_
            rintro r w8 ⟨rfl, b8⟩
            have B8 := hid (B4.out.trans ((HB.out.trans (b8.mono HB.out.size)).mono B4.out.size))
            clear b8
            go_wp2_with fail
            go_ret
            exact ⟨rfl, B8.out⟩
end Go.Proofs.YtbibjlaepmfoeaaDoor
