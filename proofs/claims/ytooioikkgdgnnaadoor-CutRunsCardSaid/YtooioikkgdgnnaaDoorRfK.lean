/-
  Chapter 24, the reference: Equal.
-/
import Derived.Test.YtooioikkgdgnnaaDoorRfI
namespace Go.Proofs.YtooioikkgdgnnaaDoor
open Go.RowKit

set_option maxRecDepth 100000 in
set_option maxHeartbeats 4000000 in
theorem requal_any {w : World} {F G : Nat → Prop} {v u : Value} {c d : Pb} (hc : PbRd w F v c) (hd : PbRd w G u d) :
    Calls Tryd.prog 38 #[v, u] w fun r w' => r = .returned (.bool (c.same d)) ∧ Below w.heap.size w w' := by
  obtain ⟨⟨L, n, cn, K, m, cm, rfl, hx, hk⟩, hb⟩ := hc
  obtain ⟨⟨L2, n2, cn2, K2, m2, cm2, rfl, hx2, hk2⟩, hb2⟩ := hd
  have hxc : c.lits.length = n := by have := hx.1; simpa [ints_length] using this
  have hkc : c.coefs.length = m := by have := hk.1; simpa [ints_length] using this
  have hxd : d.lits.length = n2 := by have := hx2.1; simpa [ints_length] using this
  have hkd : d.coefs.length = m2 := by have := hk2.1; simpa [ints_length] using this
  have hn9 : n ≤ 9223372036854775807 := by have := hx.len; unfold maxLen at this; omega
  have hm9 : m ≤ 9223372036854775807 := by have := hk.len; unfold maxLen at this; omega
  obtain ⟨X, hX, bX, kX, sX⟩ := alloc_step w (.cells #[.slice L n cn, .slice K m cm, .int .i64 c.bound] 24)
  obtain ⟨Y, hY, bY, kY, sY⟩ := alloc_step X (.cells #[.slice L2 n2 cn2, .slice K2 m2 cm2, .int .i64 d.bound] 24)
  obtain ⟨Z, hZ⟩ : ∃ z, w.heap.size = z := ⟨_, rfl⟩
  have Hx1 := hid ((hx.below bX).below bY)
  have Hk1 := hid ((hk.below bX).below bY)
  have Hx2 := hid ((hx2.below bX).below bY)
  have Hk2 := hid ((hk2.below bX).below bY)
  have HB := hid (bX.trans (bY.mono bX.size))
  have kX2 := keep_blk kX bY
  rw [sX] at kY
  rw [hZ] at kX2 kY
  have KX := hid kX2
  have KY := hid kY
  have HX := hid hX
  have HY := hid hY
  have HZ := hid hZ
  have Hxc := hid hxc
  have Hkc := hid hkc
  have Hxd := hid hxd
  have Hkd := hid hkd
  clear hx hk hx2 hk2 bX bY kX kX2 kY hX hY hZ sX sY hxc hkc hxd hkd hb hb2
  obtain ⟨e0, e1, e2⟩ := box3 KX.out
  obtain ⟨d0, d1, d2⟩ := box3 KY.out
  have hbne : c.bound ≠ d.bound → c.same d = false := fun h => by unfold Pb.same; rw [decide_eq_false h]; rfl
  have hlne : n ≠ n2 → c.same d = false := fun h => by unfold Pb.same; rw [decide_eq_false (p := c.lits = d.lits) (fun e => h (by rw [← Hxc.out, ← Hxd.out, e]))]; simp
  have hkne : m ≠ m2 → c.same d = false := fun h => by unfold Pb.same; rw [decide_eq_false (p := c.coefs = d.coefs) (fun e => h (by rw [← Hkc.out, ← Hkd.out, e]))]; simp
  have Hbe0 := hid (fun (h : c.bound = d.bound) => h)
  obtain ⟨b1, hb1⟩ : ∃ x, c.bound = x := ⟨_, rfl⟩
  obtain ⟨b2, hb2⟩ : ∃ x, d.bound = x := ⟨_, rfl⟩
  rw [hb1] at e2 hbne Hbe0 HX KX
  rw [hb2] at d2 hbne Hbe0 HY KY
  have Hb1 := hid hb1
  have Hb2 := hid hb2
  have Hbne := hid hbne
  have Hlne := hid hlne
  have Hkne := hid hkne
  rw [hb1, hb2]
  clear hbne hlne hkne hb1 hb2 Hbe0
  by_cases hbq : b1 = b2
  · subst hbq
    have q1 : (b1 != b1) = false := by simp
    have Hbe := hid (show c.bound = d.bound by rw [Hb1.out, Hb2.out])
    by_cases hnn : n = n2
    · subst hnn
      by_cases hmm : m = m2
      · subst hmm
        go_enter Tryd.func38, Tryd.ntmps38
        go_wp2_with fail
        rw [HX.out, HY.out, HZ.out]
        go_loopw [5] (fun iv W => ∃ j : Nat, j ≤ n ∧ iv = .int .i64 j ∧ Hid (c.lits.take j = d.lits.take j) ∧ Hid (Below Y.heap.size Y W)) (fun iv _ => n - (intOf iv).toNat)
        case atStart => exact ⟨0, by omega, rfl, hid rfl, hid (Below.refl _ _)⟩
        case round =>
          obtain ⟨j, hj, rfl, Ht, HBj⟩ := hrel
          clear e0 e1 e2 d0 d1 d2
          obtain ⟨e0, e1, e2⟩ := box3 (keep_blk KX.out HBj.out)
          obtain ⟨d0, d1, d2⟩ := box3 (keep_blk KY.out HBj.out)
          by_cases hlt : j < n
          · have x1 : (j : Int) < (n : Int) := by omega
            obtain ⟨g, o, rfl, _, hg, hcx⟩ := (Hx1.out.below HBj.out).cell.2 j hlt
            obtain ⟨g', o', rfl, _, hg', hcy⟩ := (Hx2.out.below HBj.out).cell.2 j hlt
            have htc := take_nth (xs := c.lits) (k := j) (by rw [Hxc.out]; exact hlt)
            have htd := take_nth (xs := d.lits) (k := j) (by rw [Hxd.out]; exact hlt)
            have hne : nth c.lits j ≠ nth d.lits j → c.same d = false := fun h => by
              unfold Pb.same
              rw [decide_eq_false (p := c.lits = d.lits) (fun e => h (by rw [e]))]
              simp
            obtain ⟨x, hx⟩ : ∃ x, nth c.lits j = x := ⟨_, rfl⟩
            obtain ⟨y, hy⟩ : ∃ x, nth d.lits j = x := ⟨_, rfl⟩
            rw [hx] at hcx htc hne
            rw [hy] at hcy htd hne
            have Htc := hid htc
            have Htd := hid htd
            have Hne := hid hne
            clear hx hy htc htd hne hg hg'
            by_cases hxy : x = y
            · subst hxy
              have hq : (x != x) = false := by simp
              go_wp2_with fail
              go_quiet (fail)
              go_wp2_with fail
              go_roundw
              case rel => exact ⟨j + 1, by omega, by go_num, hid (by rw [Htc.out, Htd.out, Ht.out]), hid (Bl.drewN HBj.out _)⟩
              case measure => simp [intOf]; omega
            · have hq : (x != y) = true := by simpa using hxy
              have Hf := hid (Hne.out hxy)
              clear Hne hxy
              go_wp2_with fail
              go_quiet (fail)
              go_wp2_with fail
              go_ret
              exact ⟨retB Hf.out, HB.out.trans ((Bl.drewN HBj.out _).mono HB.out.size)⟩
          · have hjn : j = n := by omega
            have Hlit := hid (show c.lits = d.lits by have h := Ht.out; rwa [List.take_of_length_le (by rw [Hxc.out]; omega), List.take_of_length_le (by rw [Hxd.out]; omega)] at h)
            clear hjn
            obtain ⟨W7, rfl⟩ : ∃ W : World, W = wr := ⟨_, rfl⟩
            have KX7 := hid (keep_blk KX.out HBj.out)
            have KY7 := hid (keep_blk KY.out HBj.out)
            have HC7 := hid (Hk1.out.below HBj.out)
            have HD7 := hid (Hk2.out.below HBj.out)
            have HB7 := hid (HB.out.trans (HBj.out.mono HB.out.size))
            clear HBj Ht
            go_wp2_with fail
            go_loopw [6] (fun iv W => ∃ j : Nat, j ≤ m ∧ iv = .int .i64 j ∧ Hid (c.coefs.take j = d.coefs.take j) ∧ Hid (Below W7.heap.size W7 W)) (fun iv _ => m - (intOf iv).toNat)
            case atStart => exact ⟨0, by omega, rfl, hid rfl, hid (Below.refl _ _)⟩
            case round =>
              obtain ⟨j, hj, rfl, Ht, HBj⟩ := hrel
              clear e0 e1 e2 d0 d1 d2
              obtain ⟨e0, e1, e2⟩ := box3 (keep_blk KX7.out HBj.out)
              obtain ⟨d0, d1, d2⟩ := box3 (keep_blk KY7.out HBj.out)
              by_cases hlt : j < m
              · have x1 : (j : Int) < (m : Int) := by omega
                obtain ⟨g, o, rfl, _, hg, hcx⟩ := (HC7.out.below HBj.out).cell.2 j hlt
                obtain ⟨g', o', rfl, _, hg', hcy⟩ := (HD7.out.below HBj.out).cell.2 j hlt
                have htc := take_nth (xs := c.coefs) (k := j) (by rw [Hkc.out]; exact hlt)
                have htd := take_nth (xs := d.coefs) (k := j) (by rw [Hkd.out]; exact hlt)
                have hne : nth c.coefs j ≠ nth d.coefs j → c.same d = false := fun h => by
                  unfold Pb.same
                  rw [decide_eq_false (p := c.coefs = d.coefs) (fun e => h (by rw [e]))]
                  simp
                obtain ⟨x, hx⟩ : ∃ x, nth c.coefs j = x := ⟨_, rfl⟩
                obtain ⟨y, hy⟩ : ∃ x, nth d.coefs j = x := ⟨_, rfl⟩
                rw [hx] at hcx htc hne
                rw [hy] at hcy htd hne
                have Htc := hid htc
                have Htd := hid htd
                have Hne := hid hne
                clear hx hy htc htd hne hg hg'
                by_cases hxy : x = y
                · subst hxy
                  have hq : (x != x) = false := by simp
                  go_wp2_with fail
                  go_quiet (fail)
                  go_wp2_with fail
                  go_roundw
                  case rel => exact ⟨j + 1, by omega, by go_num, hid (by rw [Htc.out, Htd.out, Ht.out]), hid (Bl.drewN HBj.out _)⟩
                  case measure => simp [intOf]; omega
                · have hq : (x != y) = true := by simpa using hxy
                  have Hf := hid (Hne.out hxy)
                  clear Hne hxy
                  go_wp2_with fail
                  go_quiet (fail)
                  go_wp2_with fail
                  go_ret
                  exact ⟨retB Hf.out, HB7.out.trans ((Bl.drewN HBj.out _).mono HB7.out.size)⟩
              · have hjn : j = m := by omega
                have Hcof := hid (show c.coefs = d.coefs by have h := Ht.out; rwa [List.take_of_length_le (by rw [Hkc.out]; omega), List.take_of_length_le (by rw [Hkd.out]; omega)] at h)
                clear hjn
                have Hf := hid (show c.same d = true by unfold Pb.same; rw [decide_eq_true Hlit.out, decide_eq_true Hcof.out, decide_eq_true Hbe.out]; rfl)
                go_wp2_with fail
                go_ret
                exact ⟨retB Hf.out, HB7.out.trans (HBj.out.mono HB7.out.size)⟩
      · have Hf := hid (Hkne.out hmm)
        have q2 : ((m : Int) != (m2 : Int)) = true := by simp; omega
        have q3 : (m != m2) = true := by simpa using hmm
        clear hmm
        go_enter Tryd.func38, Tryd.ntmps38
        go_wp2_with fail
        rw [HX.out, HY.out]
        go_ret
        exact ⟨retB Hf.out, HB.out⟩
    · have Hf := hid (Hlne.out hnn)
      have q2 : ((n : Int) != (n2 : Int)) = true := by simp; omega
      have q3 : (n != n2) = true := by simpa using hnn
      clear hnn
      go_enter Tryd.func38, Tryd.ntmps38
      go_wp2_with fail
      rw [HX.out, HY.out]
      go_ret
      exact ⟨retB Hf.out, HB.out⟩
  · have Hf := hid (Hbne.out hbq)
    have q1 : (b1 != b2) = true := by simpa using hbq
    clear hbq
    go_enter Tryd.func38, Tryd.ntmps38
    go_wp2_with fail
    rw [HX.out, HY.out]
    go_ret
    exact ⟨retB Hf.out, HB.out⟩
end Go.Proofs.YtooioikkgdgnnaaDoor
