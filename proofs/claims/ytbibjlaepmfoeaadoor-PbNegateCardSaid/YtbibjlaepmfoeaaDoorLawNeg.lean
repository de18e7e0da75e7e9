/-
  Chapter 24: the walk of PbNegate.
-/
import Derived.Test.YtbibjlaepmfoeaaDoorPlE
import Derived.Test.YtbibjlaepmfoeaaDoorPbS
import Derived.Deep.RegionHeld
import Derived.BigRegion
namespace Go.Proofs.YtbibjlaepmfoeaaDoor
open Go.RowKit

set_option maxRecDepth 100000 in
set_option maxHeartbeats 4000000 in
theorem negate_walk {w : World} {F G : Nat → Prop} {u v : Value} {n m : Nat} {ls ks : List Int} {b : Int} (hu : Rd w F 1 u n (ints ls)) (hv : Rd w G 1 v m (ints ks)) :
    Calls Tryd.prog 3 #[u, v, .int .i64 b] w fun r w' => r = .returned (.bool true) ∧ Below w.heap.size w w' := by
  obtain ⟨b', hb'⟩ : ∃ b', Int.tmod b 101 = b' := ⟨_, rfl⟩
  have hbr : -100 ≤ b' ∧ b' ≤ 100 := by have := tmod_in b (m := 101) (by decide); omega
  have Hsm := hid (sm_is ls ks)
  go_enter Tryd.func3, Tryd.ntmps3
  go_wp2_with fail
  refine (small_any hu hv).mono ?_
  rintro r w1 ⟨⟨A, n1, c1, B, n2, c2, rfl, ho1, ho2⟩, b1⟩
  obtain ⟨L, hL⟩ : ∃ L, smL ls ks = L := ⟨_, rfl⟩
  obtain ⟨C, hC⟩ : ∃ C, smC ls ks = C := ⟨_, rfl⟩
  rw [hL] at ho1 Hsm
  rw [hC] at ho2 Hsm
  have s1 := b1.size
  have B1 := hid b1
  have RL := hid ho1.rd
  have RC := hid ho2.rd
  clear ho1 ho2 hL hC b1 hu hv
  go_wp2_with fail
  refine (norm_any RL.out RC.out (fun x hx => by have := Hsm.out.lit x hx; unfold I64; omega) (fun x hx => by have := Hsm.out.co x hx; unfold I64; omega) (by unfold I64; omega)).mono ?_
  rintro r w2 ⟨⟨pv, rfl, hpv⟩, b2⟩
  have hok := Hsm.out.ok hbr.1 hbr.2
  have Hh := hid (fun av (hv : Tot av) => Hsm.out.holds hbr.1 hbr.2 hv)
  rw [Hsm.out.err hbr.1 hbr.2]
  obtain ⟨N, hN⟩ : ∃ N, (normed L C b').1 = N := ⟨_, rfl⟩
  have hlow := Hsm.out.low (C := C) hbr.2
  have hsix := fun j hj => (Hsm.out.six hbr.1 hbr.2 (j := j) hj).2
  rw [hN] at hpv hok Hh hlow hsix
  have Hok := hid hok
  have h6 := hok.few6 hsix
  have hneg := hok.neg_in hlow (by decide) (by omega) (by decide)
  have hmok := hid ((Pb.ok_iff _).1 (norm_valid hneg.1 (by have := hneg.2; unfold Pb.negB at this; rw [if_pos ((Pb.ok_iff _).2 hok)] at this; exact this)))
  have hnb : N.negB = normed (N.lits.map fun l => -l) N.coefs (N.coefs.sum - N.bound + 1) := by unfold Pb.negB; rw [if_pos ((Pb.ok_iff _).2 hok)]
  rw [← hnb] at hmok
  have Hm := hid (fun av (hv : Tot av) => neg_total hok hlow hsix hv)
  have hn2 := hid hneg.2
  have s2 := b2.size
  have B2 := hid (B1.out.trans (b2.mono s1))
  have RL2 := hid (RL.out.below b2)
  have RC2 := hid (RC.out.below b2)
  have P1 := hid hpv
  obtain ⟨⟨A1, n1', c1', A2, n2', c2', rfl, rr1, rr2⟩, hb1⟩ := hpv
  have R1 := hid rr1
  have R2 := hid rr2
  have Hb1 := hid hb1
  obtain ⟨Z1, hZ1⟩ : ∃ z, w2.heap.size = z := ⟨_, rfl⟩
  clear hN b2 hok RL RC B1 hneg hnb hlow hsix h6 rr1 rr2 hb1
  go_wp2_with fail
  obtain ⟨X3, hX, bX, k1, sX⟩ := alloc_step w2 (.cells #[.slice A1 n1' c1', .slice A2 n2' c2', .int .i64 N.bound] 26)
  rw [hX]
  refine (negate_any (P1.out.below bX) Hok.out.i64).mono ?_
  rintro r w4 ⟨⟨p2, rfl, hp2⟩, b4⟩
  rw [hn2.out]
  obtain ⟨M, hM⟩ : ∃ M, N.negB.1 = M := ⟨_, rfl⟩
  rw [hM] at hp2 hmok Hm
  have bb := bX.trans (b4.mono bX.size)
  have sB := bb.size
  have B4 := hid (B2.out.trans (bb.mono B2.out.size))
  have P4 := hid (P1.out.below bb)
  have k4 := hid (hZ1 ▸ keep_blk k1 b4)
  have hz1 : Z1 < w4.heap.size := lt_of_block k4.out
  have Q4 := hid hp2
  obtain ⟨⟨D1, m1, d1, D2, m2, d2, rfl, _, _⟩, _⟩ := hp2
  obtain ⟨Z2, hZ2⟩ : ∃ z, w4.heap.size = z := ⟨_, rfl⟩
  have hz2 : Z1 < Z2 := by omega
  clear bb bX b4 hX sX hZ1 k1 RL2 RC2 P1 B2 R1 R2 hM hn2
  go_wp2_with fail
  obtain ⟨X5, hX, bX, k5, sX⟩ := alloc_step w4 (.cells #[.slice D1 m1 d1, .slice D2 m2 d2, .int .i64 M.bound] 26)
  rw [hX]
  refine (valid_any (Q4.out.below bX) hmok.out.i64).mono ?_
  rintro r w6 ⟨rfl, b6⟩
  rw [(Pb.ok_iff _).2 hmok.out]
  have bb := bX.trans (b6.mono bX.size)
  have B6 := hid (B4.out.trans (bb.mono B4.out.size))
  have P6 := hid (P4.out.below bb)
  have Q6 := hid (Q4.out.below bb)
  have k6 := hid (keep_blk k4.out bb)
  have k7 := hid (hZ2 ▸ keep_blk k5 b6)
  clear bb bX b6 hX sX hZ2 k5 k4 P4 Q4 B4 sB
  go_wp2_with fail
  go_loopw [45] (fun iv W => ∃ x : Nat, x ≤ 64 ∧ iv = .int .i64 x ∧ Hid (Below w6.heap.size w6 W)) (fun iv _ => 64 - (intOf iv).toNat)
  case atStart => exact ⟨0, by omega, rfl, hid (Below.refl _ _)⟩
  case round =>
    obtain ⟨x, hx, rfl, HB⟩ := hrel
    by_cases hlt : x < 64
    · have x1 : (x : Int) < 64 := by omega
      have hw8 : IntKind.u8.wrap (x : Int) = (x : Int) := IntWalk.u8_in _ ⟨by omega, by omega⟩
      go_wp2_with fail
      refine total_any.mono ?_
      rintro r w5 ⟨Z5, hZ5, rfl, ho5, b5⟩
      have bw5 := HB.out.trans (b5.mono HB.out.size)
      have RA := hid ho5.rd
      have HB5 := hid bw5
      clear b5 ho5 bw5
      go_wp2_with fail
      obtain ⟨q, hq⟩ : ∃ q, N.holdsB (totUp x 6) = q := ⟨_, rfl⟩
      have hq2 := Hm.out _ (tot_total x)
      rw [hq] at hq2
      -- HOLDS
      have HBd := HB5.out.drew
      refine wp_region_held_drew (S := fun w' => (w'.cell? ⟨Z1, 0, none⟩ = some (.slice A1 n1' c1') ∧ w'.cell? ⟨Z1, 1, none⟩ = some (.slice A2 n2' c2') ∧ w'.cell? ⟨Z1, 2, none⟩ = some (.int .i64 N.bound)) ∧ (w'.cell? ⟨Z2, 0, none⟩ = some (.slice D1 m1 d1) ∧ w'.cell? ⟨Z2, 1, none⟩ = some (.slice D2 m2 d2) ∧ w'.cell? ⟨Z2, 2, none⟩ = some (.int .i64 M.bound)) ∧ Hid (Below w6.heap.size w6 w') ∧ Hid (Rd w' (fun g => g = Z5) 1 (.slice (some ⟨Z5, 0, none⟩) 6 6) 6 (i8s (totUp x 6)))) (by kernel_rfl) ⟨box3 (keep_blk k6.out HBd), box3 (keep_blk k7.out HBd), hid HBd, hid RA.out.drew⟩ (fun hHeld => ?_)
      refine wpAnyH_take (i := 0) (oi := ⟨_, _, _, _, _, _⟩) (v := ?_) rfl (by kernel_rfl) (by kernel_rfl) (by kernel_rfl) (fun _ _ _ h => h) (Or.inl ⟨by rfl, ?_⟩) (by assumption) ?_
      rotate_left
      · intro w hSw
        try dsimp only at hSw
        go_simp
        try with_reducible rfl
      simp only [Act.put, List.setIfInBounds_toArray, List.set_cons_zero, List.set_cons_succ]
      refine wpAnyH_take (i := 1) (oi := ⟨_, _, _, _, _, _⟩) (v := ?_) rfl (by kernel_rfl) (by kernel_rfl) (by kernel_rfl) (fun _ _ _ h => h) (Or.inl ⟨by rfl, ?_⟩) (by assumption) ?_
      rotate_left
      · intro w hSw
        try dsimp only at hSw
        go_simp
        try with_reducible rfl
      simp only [Act.put, List.setIfInBounds_toArray, List.set_cons_zero, List.set_cons_succ]
      refine wpAnyH_take (i := 3) (oi := ⟨_, _, _, _, _, _⟩) (v := ?_) rfl (by kernel_rfl) (by kernel_rfl) (by kernel_rfl) (fun _ _ _ h => h) (Or.inl ⟨by rfl, ?_⟩) (by assumption) ?_
      rotate_left
      · intro w hSw
        try dsimp only at hSw
        go_simp
        try with_reducible rfl
      simp only [Act.put, List.setIfInBounds_toArray, List.set_cons_zero, List.set_cons_succ]
      refine wpAnyH_take (i := 4) (oi := ⟨_, _, _, _, _, _⟩) (v := ?_) rfl (by kernel_rfl) (by kernel_rfl) (by kernel_rfl) (fun _ _ _ h => h) (Or.inl ⟨by rfl, ?_⟩) (by assumption) ?_
      rotate_left
      · intro w hSw
        try dsimp only at hSw
        go_simp
        try with_reducible rfl
      simp only [Act.put, List.setIfInBounds_toArray, List.set_cons_zero, List.set_cons_succ]
      refine wpAnyH_ready (rs := [2]) (by kernel_rfl) (by simp) (AllReadyH.cons (o := ⟨_, _, _, _, _, _⟩) rfl (fun K hK => ?_) AllReadyH.nil)
      go_simp
      refine (holds_any (P6.out.below hHeld.2.2.1.out) Hok.out.i64 hHeld.2.2.2.out).mono ?_
      rintro r w7 ⟨rfl, b7⟩
      rw [hq]
      go_simp
      refine hK.out _ _ ⟨box3 (keep_blk k6.out (hHeld.2.2.1.out.trans (b7.mono hHeld.2.2.1.out.size))), box3 (keep_blk k7.out (hHeld.2.2.1.out.trans (b7.mono hHeld.2.2.1.out.size))), hid (hHeld.2.2.1.out.trans (b7.mono hHeld.2.2.1.out.size)), hid (hHeld.2.2.2.out.below b7)⟩ (fun hHeld => ?_)
      clear hK K
      try simp only [Act.put, List.setIfInBounds_toArray, List.set_cons_zero, List.set_cons_succ]
      refine wpAnyH_ready (rs := [5]) (by kernel_rfl) (by simp) (AllReadyH.cons (o := ⟨_, _, _, _, _, _⟩) rfl (fun K hK => ?_) AllReadyH.nil)
      go_simp
      refine (holds_any (Q6.out.below hHeld.2.2.1.out) hmok.out.i64 hHeld.2.2.2.out).mono ?_
      rintro r w8 ⟨rfl, b8⟩
      rw [hq2]
      go_simp
      refine hK.out _ _ ⟨box3 (keep_blk k6.out (hHeld.2.2.1.out.trans (b8.mono hHeld.2.2.1.out.size))), box3 (keep_blk k7.out (hHeld.2.2.1.out.trans (b8.mono hHeld.2.2.1.out.size))), hid (hHeld.2.2.1.out.trans (b8.mono hHeld.2.2.1.out.size)), hid (hHeld.2.2.2.out.below b8)⟩ (fun hHeld => ?_)
      clear hK K
      try simp only [Act.put, List.setIfInBounds_toArray, List.set_cons_zero, List.set_cons_succ]
      refine wpAnyH_take (i := 6) (oi := ⟨_, _, _, _, _, _⟩) (v := ?_) rfl (by kernel_rfl) (by kernel_rfl) (by kernel_rfl) (fun _ _ _ h => h) (Or.inl ⟨by rfl, ?_⟩) (by assumption) ?_
      rotate_left
      · intro w hSw
        try dsimp only at hSw
        go_simp
        try with_reducible rfl
      simp only [Act.put, List.setIfInBounds_toArray, List.set_cons_zero, List.set_cons_succ]
      refine wpAnyH_done (by kernel_rfl) ?_ _
      -- END HOLDS
      have bw8 := hHeld.2.2.1
      have hqq : (q == !q) = false := by cases q <;> rfl
      clear hHeld hq hq2 HB5 RA
      go_wp2_with fail
      go_roundw
      case rel => exact ⟨x + 1, by omega, by go_num, bw8⟩
      case measure => simp [intOf]; omega
    · obtain rfl : x = 64 := by omega
      go_wp2_with fail
      refine awake_any.mono ?_
      rintro r w8 ⟨rfl, b8⟩
      have B8 := hid (B6.out.trans ((HB.out.trans (b8.mono HB.out.size)).mono B6.out.size))
      clear b8
      go_wp2_with fail
      go_ret
      exact ⟨rfl, B8.out⟩
end Go.Proofs.YtbibjlaepmfoeaaDoor
