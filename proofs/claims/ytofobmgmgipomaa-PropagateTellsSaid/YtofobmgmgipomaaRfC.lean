/-
  Chapter 24, the reference: Slack, Holds, Units.
-/
import Derived.Test.YtofobmgmgipomaaRfB
namespace Go.Proofs.Ytofobmgmgipomaa
open Go.RowKit

set_option maxRecDepth 100000 in
set_option maxHeartbeats 2000000 in
theorem rslack_any {w : World} {F G : Nat → Prop} {v : Value} {c : Pb} {A : Option Addr} {na ca : Nat} {av : List Int} (hc : PbRd w F v c) (hi : ∀ k ∈ c.coefs, I64 k) (h40 : c.lits.length ≤ 65536) (ha : Rd w G 1 (.slice A na ca) na (i8s av)) :
    Calls Try.prog 50 #[v, .slice A na ca] w fun r w' => r = .returned (.int .i64 (c.slackB av)) ∧ Below w.heap.size w w' := by
  have Hc := hid hc
  obtain ⟨⟨L, n, cn, K, m, cm, rfl, hx, hk⟩, hb⟩ := hc
  obtain ⟨X, hX, bX, kX, sX⟩ := alloc_step w (.cells #[.slice L n cn, .slice K m cm, .int .i64 c.bound] 36)
  obtain ⟨Z, hZ⟩ : ∃ z, w.heap.size = z := ⟨_, rfl⟩
  have Hc2 := hid (Hc.out.below bX)
  have Ha2 := hid (ha.below bX)
  have HB := hid bX
  rw [hZ] at kX
  have KX := hid kX
  have HX := hid hX
  have HZ := hid hZ
  have Hi := hid hi
  unfold I64 at hb
  clear hx hk ha bX kX hX hZ sX hi Hc
  obtain ⟨e0, e1, e2⟩ := box3 KX.out
  go_enter Try.func50, Try.ntmps50
  go_wp2_with fail
  rw [HX.out, HZ.out]
  refine (rvalid_any Hc2.out Hi.out h40).mono ?_
  rintro r w1 ⟨rfl, b1⟩
  have k1 := hid (keep_blk KX.out b1)
  have Hc3 := hid (Hc2.out.below b1)
  have Ha3 := hid (Ha2.out.below b1)
  have HB1 := hid (HB.out.trans (b1.mono HB.out.size))
  clear b1 e0 e1 e2
  obtain ⟨e0, e1, e2⟩ := box3 k1.out
  by_cases hok : c.ok = true
  · have Hok := hid ((Pb.ok_iff _).1 hok)
    have Hsl := hid (show c.slackB av = c.total (fun l => decide (0 ≤ valB av l)) - c.bound by unfold Pb.slackB; rw [if_pos hok])
    have hpb := Pb.part_bounds Hok.out (fun l => decide (0 ≤ valB av l)) (List.range c.lits.length) (fun i hi => List.mem_range.1 hi)
    rw [List.length_range] at hpb
    obtain ⟨s, hs⟩ : ∃ s, c.total (fun l => decide (0 ≤ valB av l)) = s := ⟨_, rfl⟩
    rw [show c.part (fun l => decide (0 ≤ valB av l)) (List.range c.lits.length) = s from hs] at hpb
    have Hs := hid hs
    have hfw := Hok.out.few
    have hlo := Hok.out.low
    have hwr : IntKind.i64.wrap (s - c.bound) = s - c.bound := iw' (by omega) (by omega)
    rw [hok]
    clear hs hok hpb
    obtain ⟨bd, hbd⟩ : ∃ x, c.bound = x := ⟨_, rfl⟩
    have Hbd := hid hbd
    rw [hbd] at hwr e2
    clear hbd hb
    go_wp2_with fail
    -- SLACK
    have Hc4 := hid (show PbRd w1 F (.agg #[.slice L n cn, .slice K m cm, .int .i64 bd]) c by have h := Hc3.out; rw [Hbd.out] at h; exact h)
    have HBd := Bl.drew (Below.refl w1.heap.size w1)
    refine wp_region_held_drew (S := fun w' => (w'.cell? ⟨Z, 0, none⟩ = some (.slice L n cn) ∧ w'.cell? ⟨Z, 1, none⟩ = some (.slice K m cm) ∧ w'.cell? ⟨Z, 2, none⟩ = some (.int .i64 bd)) ∧ Hid (Below w1.heap.size w1 w')) (by kernel_rfl) ⟨⟨keep_cell e0 HBd, keep_cell e1 HBd, keep_cell e2 HBd⟩, hid HBd⟩ (fun hHeld => ?_)
    refine wpAnyH_take (i := 0) (oi := ⟨_, _, _, _, _, _⟩) (v := ?_) rfl (by kernel_rfl) (by kernel_rfl) (by kernel_rfl) (fun _ _ _ h => h) (Or.inl ⟨by rfl, ?_⟩) (by assumption) ?_
    rotate_left
    · intro w hSw
      try dsimp only at hSw
      go_simp
      try with_reducible rfl
    simp only [Act.put, List.setIfInBounds_toArray, List.set_cons_zero, List.set_cons_succ]
    refine wpAnyH_take (i := 1) (oi := ⟨_, _, _, _, _, _⟩) (v := ?_) rfl (by kernel_rfl) (by kernel_rfl) (by kernel_rfl) (fun _ _ _ h => h) (Or.inl ⟨by rfl, ?_⟩) (by assumption) ?_
    rotate_left
    · intro w hSw
      try dsimp only at hSw
      go_simp
      try with_reducible rfl
    simp only [Act.put, List.setIfInBounds_toArray, List.set_cons_zero, List.set_cons_succ]
    refine wpAnyH_take (i := 3) (oi := ⟨_, _, _, _, _, _⟩) (v := ?_) rfl (by kernel_rfl) (by kernel_rfl) (by kernel_rfl) (fun _ _ _ h => h) (Or.inl ⟨by rfl, ?_⟩) (by assumption) ?_
    rotate_left
    · intro w hSw
      try dsimp only at hSw
      go_simp
      try with_reducible rfl
    simp only [Act.put, List.setIfInBounds_toArray, List.set_cons_zero, List.set_cons_succ]
    refine wpAnyH_take (i := 4) (oi := ⟨_, _, _, _, _, _⟩) (v := ?_) rfl (by kernel_rfl) (by kernel_rfl) (by kernel_rfl) (fun _ _ _ h => h) (Or.inl ⟨by rfl, ?_⟩) (by assumption) ?_
    rotate_left
    · intro w hSw
      try dsimp only at hSw
      go_simp
      try with_reducible rfl
    simp only [Act.put, List.setIfInBounds_toArray, List.set_cons_zero, List.set_cons_succ]
    refine wpAnyH_ready (rs := [2]) (by kernel_rfl) (by simp) (AllReadyH.cons (o := ⟨_, _, _, _, _, _⟩) rfl (fun K hK => ?_) AllReadyH.nil)
    go_simp
    refine (rsum_any (Hc4.out.below hHeld.2.out) Hok.out (Ha3.out.below hHeld.2.out)).mono ?_
    rintro r w7 ⟨rfl, b7⟩
    rw [Hs.out]
    go_simp
    refine hK.out _ _ ⟨⟨keep_cell hHeld.1.1 b7, keep_cell hHeld.1.2.1 b7, keep_cell hHeld.1.2.2 b7⟩, hid (hHeld.2.out.trans (b7.mono hHeld.2.out.size))⟩ (fun hHeld => ?_)
    clear hK K
    try simp only [Act.put, List.setIfInBounds_toArray, List.set_cons_zero, List.set_cons_succ]
    refine wpAnyH_take (i := 5) (oi := ⟨_, _, _, _, _, _⟩) (v := ?_) rfl (by kernel_rfl) (by kernel_rfl) (by kernel_rfl) (fun _ _ _ h => h) (Or.inl ⟨by rfl, ?_⟩) (by assumption) ?_
    rotate_left
    · intro w hSw
      try dsimp only at hSw
      go_simp
      try with_reducible rfl
    simp only [Act.put, List.setIfInBounds_toArray, List.set_cons_zero, List.set_cons_succ]
    refine wpAnyH_take (i := 6) (oi := ⟨_, _, _, _, _, _⟩) (v := ?_) rfl (by kernel_rfl) (by kernel_rfl) (by kernel_rfl) (fun _ _ _ h => h) (Or.inl ⟨by rfl, ?_⟩) (by assumption) ?_
    rotate_left
    · intro w hSw
      try dsimp only at hSw
      go_simp
      try with_reducible rfl
    simp only [Act.put, List.setIfInBounds_toArray, List.set_cons_zero, List.set_cons_succ]
    refine wpAnyH_done (by kernel_rfl) ?_ _
    -- END SLACK
    have HB9 := hHeld.2
    clear hHeld
    go_wp2_with fail
    go_ret
    exact ⟨by show Ending.returned (Value.int IntKind.i64 _) = _; rw [Hsl.out, Hs.out, Hbd.out], HB1.out.trans (HB9.out.mono HB1.out.size)⟩
  · have Hsl := hid (show c.slackB av = 0 by unfold Pb.slackB; rw [if_neg hok])
    have hok : c.ok = false := by simpa using hok
    rw [hok]
    clear hok
    go_wp2_with fail
    go_ret
    exact ⟨by show Ending.returned (Value.int IntKind.i64 _) = _; rw [Hsl.out], HB1.out⟩
end Go.Proofs.Ytofobmgmgipomaa
