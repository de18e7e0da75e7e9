/-
  Chapter 24: the walk of PbNorm.
-/
import Derived.Test.YtbibjlaepmfoeaaDoorPlE
import Derived.Test.YtbibjlaepmfoeaaDoorPbS
namespace Go.Proofs.YtbibjlaepmfoeaaDoor
open Go.RowKit

set_option maxRecDepth 100000 in
set_option maxHeartbeats 4000000 in
theorem norm_walk {w : World} {F G : Nat → Prop} {u v : Value} {n m : Nat} {ls ks : List Int} {b : Int} (hu : Rd w F 1 u n (ints ls)) (hv : Rd w G 1 v m (ints ks)) :
    Calls Tryd.prog 9 #[u, v, .int .i64 b] w fun r w' => r = .returned (.bool true) ∧ Below w.heap.size w w' := by
  obtain ⟨b', hb'⟩ : ∃ b', Int.tmod b 101 = b' := ⟨_, rfl⟩
  have hbr : -100 ≤ b' ∧ b' ≤ 100 := by have := tmod_in b (m := 101) (by decide); omega
  have Hsm := hid (sm_is ls ks)
  go_enter Tryd.func9, Tryd.ntmps9
  go_wp2_with fail
  refine (small_any hu hv).mono ?_
  rintro r w1 ⟨⟨A, n1, c1, B, n2, c2, rfl, ho1, ho2⟩, b1⟩
  obtain ⟨L, hL⟩ : ∃ L, smL ls ks = L := ⟨_, rfl⟩
  obtain ⟨C, hC⟩ : ∃ C, smC ls ks = C := ⟨_, rfl⟩
  rw [hL] at ho1 Hsm
  rw [hC] at ho2 Hsm
  have s1 := b1.size
  have B1 := hid b1
  have RL := hid ho1.rd
  have RC := hid ho2.rd
  clear ho1 ho2 hL hC b1 hu hv
  go_wp2_with fail
  refine (norm_any RL.out RC.out (fun x hx => by have := Hsm.out.lit x hx; unfold I64; omega) (fun x hx => by have := Hsm.out.co x hx; unfold I64; omega) (by unfold I64; omega)).mono ?_
  rintro r w2 ⟨⟨pv, rfl, hpv⟩, b2⟩
  have hok := Hsm.out.ok hbr.1 hbr.2
  have Hh := hid (fun av (hv : Tot av) => Hsm.out.holds hbr.1 hbr.2 hv)
  rw [Hsm.out.err hbr.1 hbr.2]
  obtain ⟨N, hN⟩ : ∃ N, (normed L C b').1 = N := ⟨_, rfl⟩
  rw [hN] at hpv hok Hh
  have Hok := hid hok
  have s2 := b2.size
  have B2 := hid (B1.out.trans (b2.mono s1))
  have RL2 := hid (RL.out.below b2)
  have RC2 := hid (RC.out.below b2)
  have P1 := hid hpv
  obtain ⟨⟨A1, n1', c1', A2, n2', c2', rfl, rr1, rr2⟩, hb1⟩ := hpv
  have R1 := hid rr1
  have R2 := hid rr2
  have Hb1 := hid hb1
  obtain ⟨Z1, hZ1⟩ : ∃ z, w2.heap.size = z := ⟨_, rfl⟩
  clear hN b2 hok RL RC B1 rr1 rr2 hb1
  go_wp2_with fail
  obtain ⟨X3, hX, bX, k1, sX⟩ := alloc_step w2 (.cells #[.slice A1 n1' c1', .slice A2 n2' c2', .int .i64 N.bound] 26)
  rw [hX]
  refine (valid_any (P1.out.below bX) Hok.out.i64).mono ?_
  rintro r w4 ⟨rfl, b4⟩
  rw [(Pb.ok_iff _).2 Hok.out]
  have bb := bX.trans (b4.mono bX.size)
  have sB := bb.size
  have B4 := hid (B2.out.trans (bb.mono B2.out.size))
  have RL4 := hid (RL2.out.below bb)
  have R14 := hid (R1.out.below bb)
  have R24 := hid (R2.out.below bb)
  have RC4 := hid (RC2.out.below bb)
  have P4 := hid (P1.out.below bb)
  have k4 := hid (hZ1 ▸ keep_blk k1 b4)
  have hz1 : Z1 < w4.heap.size := lt_of_block k4.out
  have hz0 : w1.heap.size ≤ Z1 := by omega
  clear bb bX b4 hX sX hZ1 k1 RL2 RC2 P1 B2 R1 R2
  go_wp2_with fail
  go_loopw [37] (fun iv W => ∃ x : Nat, x ≤ 64 ∧ iv = .int .i64 x ∧ Hid (Below w4.heap.size w4 W)) (fun iv _ => 64 - (intOf iv).toNat)
  case atStart => exact ⟨0, by omega, rfl, hid (Below.refl _ _)⟩
  case round =>
    obtain ⟨x, hx, rfl, HB⟩ := hrel
    have k5 := hid (keep_blk k4.out HB.out)
    obtain ⟨e0, e1, e2⟩ := box3 k5.out
    have sr := HB.out.size
    by_cases hlt : x < 64
    · have x1 : (x : Int) < 64 := by omega
      have hw8 : IntKind.u8.wrap (x : Int) = (x : Int) := IntWalk.u8_in _ ⟨by omega, by omega⟩
      go_wp2_with fail
      refine total_any.mono ?_
      rintro r w5 ⟨Z5, hZ5, rfl, ho5, b5⟩
      have k6 := hid (keep_blk k5.out b5)
      have s5 := b5.size
      have b5' := hid b5
      have RA := hid ho5.rd
      clear e0 e1 e2 b5 ho5 k5
      obtain ⟨e0, e1, e2⟩ := box3 k6.out
      go_wp2_with fail
      have bw5 := HB.out.trans (b5'.out.mono HB.out.size)
      refine (holds_any (P4.out.below bw5) Hok.out.i64 RA.out).mono ?_
      rintro r w6 ⟨rfl, b6⟩
      rw [Hh.out _ (tot_total x)]
      have s6 := b6.size
      have bw6 := hid (bw5.trans (b6.mono bw5.size))
      have RA6 := hid (RA.out.below b6)
      clear bw5 b6 e0 e1 e2 k6 RA b5'
      obtain ⟨bb, hbb⟩ : ∃ q, decide (b' ≤ gotT (totUp x 6) L C L.length) = q := ⟨_, rfl⟩
      have Hbb := hid hbb
      rw [hbb]
      clear hbb
      go_wp2_with fail
      refine (lawHolds_any (RL4.out.below bw6.out) (RC4.out.below bw6.out) RA6.out Hsm.out.len Hsm.out.few (fun l hl => by have := Hsm.out.lit l hl; rw [totUp_len]; omega) (fun k hk => Hsm.out.co k hk)).mono ?_
      rintro r w7 ⟨rfl, b7⟩
      rw [Hbb.out]
      have bw7 := hid (bw6.out.trans (b7.mono bw6.out.size))
      clear b7 bw6 RA6
      go_wp2_with fail
      go_roundw
      case rel => exact ⟨x + 1, by omega, by go_num, bw7⟩
      case measure => simp [intOf]; omega
    · obtain rfl : x = 64 := by omega
      go_wp2_with fail
      refine (norm_any (R14.out.below HB.out) (R24.out.below HB.out) Hok.out.i64l Hok.out.i64 Hb1.out).mono ?_
      rintro r w5 ⟨⟨p2, rfl, hp2⟩, b5⟩
      rw [Hok.out.again] at hp2 ⊢
      have P5 := hid ((P4.out.below HB.out).below b5)
      have B5 := hid (B4.out.trans ((HB.out.trans (b5.mono HB.out.size)).mono B4.out.size))
      have k6 := hid (keep_blk k5.out b5)
      have Q5 := hid hp2
      have s5 := b5.size
      obtain ⟨⟨D1, m1, d1, D2, m2, d2, rfl, _, _⟩, _⟩ := hp2
      obtain ⟨Z2, hZ2⟩ : ∃ z, w5.heap.size = z := ⟨_, rfl⟩
      have hz2 : Z1 < Z2 := by omega
      clear b5 e0 e1 e2 k5
      obtain ⟨e0, e1, e2⟩ := box3 k6.out
      go_wp2_with fail
      obtain ⟨X6, hX, bX, k7, sX⟩ := alloc_step w5 (.cells #[.slice D1 m1 d1, .slice D2 m2 d2, .int .i64 N.bound] 26)
      rw [hX]
      refine (equal_any (P5.out.below bX) (Q5.out.below bX)).mono ?_
      rintro r w7 ⟨rfl, b7⟩
      rw [show N.same N = true by simp [Pb.same]]
      have bb := bX.trans (b7.mono bX.size)
      have B7 := hid (B5.out.trans (bb.mono B5.out.size))
      clear b7 bb e0 e1 e2 k6 k7 bX hX sX
      go_wp2_with fail
      refine awake_any.mono ?_
      rintro r w8 ⟨rfl, b8⟩
      have B8 := hid (B7.out.trans (b8.mono B7.out.size))
      clear b8
      go_wp2_with fail
      go_ret
      exact ⟨rfl, B8.out⟩
end Go.Proofs.YtbibjlaepmfoeaaDoor
