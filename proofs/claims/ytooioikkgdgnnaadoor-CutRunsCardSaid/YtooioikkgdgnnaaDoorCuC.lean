/-
  Chapter 25: several texts in one (merge.py: CtH CtI CtJ).
-/
import Derived.Test.YtooioikkgdgnnaaDoorCuB
namespace Go.Proofs.YtooioikkgdgnnaaDoor
section
open Go.RowKit

theorem PbRd.zero (w : World) (F : Nat → Prop) : PbRd w F (.agg #[.slice none 0 0, .slice none 0 0, .int .i64 0]) ⟨[], [], 0⟩ := ⟨⟨none, 0, 0, none, 0, 0, rfl, Rd.empty _ _ _, Rd.empty _ _ _⟩, by unfold I64; decide⟩
/-- What an operation gives back. -/
def Gives (w w' : World) (r : Ending) (R : Pb × Int) : Prop := (∃ pv, r = .returned (.tuple #[pv, .int .i64 R.2]) ∧ PbRd w' (fun g => w.heap.size ≤ g) pv R.1) ∧ Below w.heap.size w w'

set_option maxRecDepth 100000 in
set_option maxHeartbeats 4000000 in
theorem add_any {w : World} {F G : Nat → Prop} {va vb : Value} {a b : Pb} (ha : PbRd w F va a) (hb : PbRd w G vb b) (hia : ∀ k ∈ a.coefs, I64 k) (hib : ∀ k ∈ b.coefs, I64 k) :
    Calls Tryd.prog 12 #[va, vb] w fun r w' => Gives w w' r (a.addB b) := by
  obtain ⟨R, hR⟩ : ∃ R, a.addB b = R := ⟨_, rfl⟩
  rw [hR]
  have HR0 := hid hR
  clear hR
  have Ha := hid ha
  have Hb := hid hb
  obtain ⟨⟨L, n, cn, Q, m, cm, rfl, hx, hk⟩, hbd⟩ := ha
  obtain ⟨⟨L2, n2, cn2, Q2, m2, cm2, rfl, hy, hj⟩, hbd2⟩ := hb
  obtain ⟨bd, hbd3⟩ : ∃ b, a.bound = b := ⟨_, rfl⟩
  obtain ⟨bd2, hbd4⟩ : ∃ c, b.bound = c := ⟨_, rfl⟩
  rw [hbd3] at Ha ⊢
  rw [hbd4] at Hb ⊢
  obtain ⟨X0, hX0, bX0, k0, s0⟩ := alloc_step w (.cells #[.slice L n cn, .slice Q m cm, .int .i64 bd] 24)
  obtain ⟨X1, hX1, bX1, k1, s1⟩ := alloc_step X0 (.cells #[.slice L2 n2 cn2, .slice Q2 m2 cm2, .int .i64 bd2] 24)
  obtain ⟨X2, hX2, bX2, k2, s2⟩ := alloc_step X1 (.cells #[.slice none 0 0, .slice none 0 0, .int .i64 0] 24)
  have hB2 : Below w.heap.size w X2 := bX0.trans ((bX1.mono bX0.size).trans (bX2.mono (Nat.le_trans bX0.size bX1.size)))
  have KA := hid (keep_blk (keep_blk k0 bX1) bX2)
  have KB := hid (keep_blk k1 bX2)
  have KO := hid k2
  have HB2 := hid hB2
  have HX := hid hX0
  have HX1 := hid hX1
  have HX2 := hid hX2
  rw [s0] at KB
  rw [s1, s0] at KO
  rw [s1, s0] at s2
  have Hx := hid hx
  have Hk := hid hk
  have Hy := hid hy
  have Hj := hid hj
  have Hbd3 := hid hbd3
  have Hbd4 := hid hbd4
  clear k0 k1 k2 bX0 bX1 bX2 s0 s1 hX0 hX1 hX2 hB2 hx hk hy hj hbd3 hbd4
  go_enter Tryd.func12, Tryd.ntmps12
  go_wp2_with fail
  rw [HX.out, HX1.out, HX2.out]
  clear HX HX1 HX2
  obtain ⟨sz, hsz⟩ : ∃ s, w.heap.size = s := ⟨_, rfl⟩
  rw [hsz] at KA KB KO HB2 s2
  rw [hsz]
  obtain ⟨a0, a1, a2⟩ := box3 KA.out
  obtain ⟨b0, b1, b2⟩ := box3 KB.out
  refine (valid_any (Ha.out.below (hsz ▸ HB2.out)) hia).mono ?_
  rintro r W1 ⟨rfl, bv⟩
  have KA1 := hid (keep_blk KA.out bv)
  have KB1 := hid (keep_blk KB.out bv)
  have KO1 := hid (keep_blk KO.out bv)
  have B1 := hid (HB2.out.trans (bv.mono (by omega)))
  have sv := bv.size
  clear KA KB KO a0 a1 a2 b0 b1 b2 bv HB2
  obtain ⟨a0, a1, a2⟩ := box3 KA1.out
  obtain ⟨b0, b1, b2⟩ := box3 KB1.out
  by_cases hok : a.ok = true
  · rw [hok]
    go_wp2_with fail
    refine (valid_any (Hb.out.below (hsz ▸ B1.out)) hib).mono ?_
    rintro r W2 ⟨rfl, bv⟩
    have KA := hid (keep_blk KA1.out bv)
    have KB := hid (keep_blk KB1.out bv)
    have KO2 := hid (keep_blk KO1.out bv)
    have B2 := hid (B1.out.trans (bv.mono (by omega)))
    have sv2 := bv.size
    clear KA1 KB1 KO1 a0 a1 a2 b0 b1 b2 bv B1
    by_cases hok2 : b.ok = true
    · rw [hok2]
      have hA := (Pb.ok_iff a).1 hok
      have hBk := (Pb.ok_iff b).1 hok2
      obtain rfl : n = m := by have h1 := hA.len; have h2 := Hx.out.1; have h3 := Hk.out.1; simp [ints_length] at h2 h3; omega
      obtain rfl : n2 = m2 := by have h1 := hBk.len; have h2 := Hy.out.1; have h3 := Hj.out.1; simp [ints_length] at h2 h3; omega
      have hn : n ≤ 65536 := by have h1 := hA.few; have h2 := Hx.out.1; simp [ints_length] at h2; omega
      have hn2 : n2 ≤ 65536 := by have h1 := hBk.few; have h2 := Hy.out.1; simp [ints_length] at h2; omega
      have hbr := hA.low; have hbr2 := hA.high; have hbr3 := hBk.low; have hbr4 := hBk.high
      rw [Hbd3.out] at hbr hbr2
      rw [Hbd4.out] at hbr3 hbr4
      have hw : IntKind.i64.wrap (bd + bd2) = bd + bd2 := iw' (by omega) (by omega)
      have HI1 : Hid (∀ x ∈ a.lits ++ b.lits, I64 x) := hid fun x hx => (List.mem_append.1 hx).elim (hA.i64l x) (hBk.i64l x)
      have HI2 : Hid (∀ x ∈ a.coefs ++ b.coefs, I64 x) := hid fun x hx => (List.mem_append.1 hx).elim (hA.i64 x) (hBk.i64 x)
      have HI3 : I64 (bd + bd2) := by unfold I64; omega
      have hR0 := addB_is hA hBk
      rw [Hbd3.out, Hbd4.out] at hR0
      rw [HR0.out] at hR0
      have HR := hid hR0.symm
      have hx0 := hid ((Hx.out.mono (G := fun g => g < sz) fun g hg _ => by omega).below (hsz ▸ B2.out))
      have hk0 := hid ((Hk.out.mono (G := fun g => g < sz) fun g hg _ => by omega).below (hsz ▸ B2.out))
      have hy0 := hid ((Hy.out.mono (G := fun g => g < sz) fun g hg _ => by omega).below (hsz ▸ B2.out))
      have hj0 := hid ((Hj.out.mono (G := fun g => g < sz) fun g hg _ => by omega).below (hsz ▸ B2.out))
      obtain ⟨Ob, hOb⟩ : ∃ o, sz + 1 + 1 = o := ⟨_, rfl⟩
      rw [hOb] at KO2 ⊢
      clear hok hok2 hA hBk Ha Hb Hx Hk Hy Hj Hbd3 Hbd4 hR0 HR0 hia hib hbd hbd2
      go_upto_region 3 with fail
      -- ADD
      refine wp_region_held_drew (S := fun w' => (w'.cell? ⟨sz, 0, none⟩ = some (.slice L n cn) ∧ w'.cell? ⟨sz, 1, none⟩ = some (.slice Q n cm) ∧ w'.cell? ⟨sz, 2, none⟩ = some (.int .i64 bd)) ∧ (w'.cell? ⟨sz + 1, 0, none⟩ = some (.slice L2 n2 cn2) ∧ w'.cell? ⟨sz + 1, 1, none⟩ = some (.slice Q2 n2 cm2) ∧ w'.cell? ⟨sz + 1, 2, none⟩ = some (.int .i64 bd2)) ∧ Hid (Mod (fun g => g = Ob) W2 w')) (by kernel_rfl) ⟨box3 KA.out, box3 KB.out, hid (Mod.refl _ _).drew⟩ (fun hHeld => ?_)
      have kO : W2.drew.heap[Ob]? = _ := KO2.out
      obtain ⟨WD, hWD⟩ : ∃ W, W2.drew = W := ⟨_, rfl⟩
      rw [hWD] at hHeld kO ⊢
      clear hWD
      have KO := hid kO
      clear kO
      refine wpAnyH_take (i := 0) (oi := ⟨_, _, _, _, _, _⟩) (v := ?_) rfl (by kernel_rfl) (by kernel_rfl) (by kernel_rfl) (fun _ _ _ h => h) (Or.inl ⟨by rfl, ?_⟩) (by assumption) ?_
      rotate_left
      · intro w hSw
        try dsimp only at hSw
        go_simp
        try with_reducible rfl
      simp only [Act.put, List.setIfInBounds_toArray, List.set_cons_zero, List.set_cons_succ]
      refine wpAnyH_take (i := 2) (oi := ⟨_, _, _, _, _, _⟩) (v := ?_) rfl (by kernel_rfl) (by kernel_rfl) (by kernel_rfl) (fun _ _ _ h => h) (Or.inl ⟨by rfl, ?_⟩) (by assumption) ?_
      rotate_left
      · intro w hSw
        try dsimp only at hSw
        go_simp
        try with_reducible rfl
      simp only [Act.put, List.setIfInBounds_toArray, List.set_cons_zero, List.set_cons_succ]
      refine wpAnyH_take (i := 6) (oi := ⟨_, _, _, _, _, _⟩) (v := ?_) rfl (by kernel_rfl) (by kernel_rfl) (by kernel_rfl) (fun _ _ _ h => h) (Or.inl ⟨by rfl, ?_⟩) (by assumption) ?_
      rotate_left
      · intro w hSw
        try dsimp only at hSw
        go_simp
        try with_reducible rfl
      simp only [Act.put, List.setIfInBounds_toArray, List.set_cons_zero, List.set_cons_succ]
      refine wpAnyH_take (i := 8) (oi := ⟨_, _, _, _, _, _⟩) (v := ?_) rfl (by kernel_rfl) (by kernel_rfl) (by kernel_rfl) (fun _ _ _ h => h) (Or.inl ⟨by rfl, ?_⟩) (by assumption) ?_
      rotate_left
      · intro w hSw
        try dsimp only at hSw
        go_simp
        try with_reducible rfl
      simp only [Act.put, List.setIfInBounds_toArray, List.set_cons_zero, List.set_cons_succ]
      refine wpAnyH_take (i := 12) (oi := ⟨_, _, _, _, _, _⟩) (v := ?_) rfl (by kernel_rfl) (by kernel_rfl) (by kernel_rfl) (fun _ _ _ h => h) (Or.inl ⟨by rfl, ?_⟩) (by assumption) ?_
      rotate_left
      · intro w hSw
        try dsimp only at hSw
        go_simp
        try with_reducible rfl
      simp only [Act.put, List.setIfInBounds_toArray, List.set_cons_zero, List.set_cons_succ]
      refine wpAnyH_take (i := 14) (oi := ⟨_, _, _, _, _, _⟩) (v := ?_) rfl (by kernel_rfl) (by kernel_rfl) (by kernel_rfl) (fun _ _ _ h => h) (Or.inl ⟨by rfl, ?_⟩) (by assumption) ?_
      rotate_left
      · intro w hSw
        try dsimp only at hSw
        go_simp
        try with_reducible rfl
      simp only [Act.put, List.setIfInBounds_toArray, List.set_cons_zero, List.set_cons_succ]
      refine wpAnyH_take (i := 1) (oi := ⟨_, _, _, _, _, _⟩) (v := ?_) rfl (by kernel_rfl) (by kernel_rfl) (by kernel_rfl) (fun _ _ _ h => h) (Or.inl ⟨by rfl, ?_⟩) (by assumption) ?_
      rotate_left
      · intro w hSw
        try dsimp only at hSw
        go_simp
        try with_reducible rfl
      simp only [Act.put, List.setIfInBounds_toArray, List.set_cons_zero, List.set_cons_succ]
      refine wpAnyH_take (i := 3) (oi := ⟨_, _, _, _, _, _⟩) (v := ?_) rfl (by kernel_rfl) (by kernel_rfl) (by kernel_rfl) (fun _ _ _ h => h) (Or.inl ⟨by rfl, ?_⟩) (by assumption) ?_
      rotate_left
      · intro w hSw
        try dsimp only at hSw
        go_simp
        try with_reducible rfl
      simp only [Act.put, List.setIfInBounds_toArray, List.set_cons_zero, List.set_cons_succ]
      refine wpAnyH_take (i := 7) (oi := ⟨_, _, _, _, _, _⟩) (v := ?_) rfl (by kernel_rfl) (by kernel_rfl) (by kernel_rfl) (fun _ _ _ h => h) (Or.inl ⟨by rfl, ?_⟩) (by assumption) ?_
      rotate_left
      · intro w hSw
        try dsimp only at hSw
        go_simp
        try with_reducible rfl
      simp only [Act.put, List.setIfInBounds_toArray, List.set_cons_zero, List.set_cons_succ]
      refine wpAnyH_take (i := 9) (oi := ⟨_, _, _, _, _, _⟩) (v := ?_) rfl (by kernel_rfl) (by kernel_rfl) (by kernel_rfl) (fun _ _ _ h => h) (Or.inl ⟨by rfl, ?_⟩) (by assumption) ?_
      rotate_left
      · intro w hSw
        try dsimp only at hSw
        go_simp
        try with_reducible rfl
      simp only [Act.put, List.setIfInBounds_toArray, List.set_cons_zero, List.set_cons_succ]
      refine wpAnyH_take (i := 13) (oi := ⟨_, _, _, _, _, _⟩) (v := ?_) rfl (by kernel_rfl) (by kernel_rfl) (by kernel_rfl) (fun _ _ _ h => h) (Or.inl ⟨by rfl, ?_⟩) (by assumption) ?_
      rotate_left
      · intro w hSw
        try dsimp only at hSw
        go_simp
        try with_reducible rfl
      simp only [Act.put, List.setIfInBounds_toArray, List.set_cons_zero, List.set_cons_succ]
      refine wpAnyH_take (i := 15) (oi := ⟨_, _, _, _, _, _⟩) (v := ?_) rfl (by kernel_rfl) (by kernel_rfl) (by kernel_rfl) (fun _ _ _ h => h) (Or.inl ⟨by rfl, ?_⟩) (by assumption) ?_
      rotate_left
      · intro w hSw
        try dsimp only at hSw
        go_simp
        try with_reducible rfl
      simp only [Act.put, List.setIfInBounds_toArray, List.set_cons_zero, List.set_cons_succ]
      refine wpAnyH_take (i := 16) (oi := ⟨_, _, _, _, _, _⟩) (v := ?_) rfl (by kernel_rfl) (by kernel_rfl) (by kernel_rfl) (fun _ _ _ h => h) (Or.inl ⟨by rfl, ?_⟩) (by assumption) ?_
      rotate_left
      · intro w hSw
        try dsimp only at hSw
        go_simp
        try with_reducible rfl
      simp only [Act.put, List.setIfInBounds_toArray, List.set_cons_zero, List.set_cons_succ]
      refine wpAnyH_ready (rs := [4, 10]) (by kernel_rfl) (by simp) (AllReadyH.cons (o := ⟨_, _, _, _, _, _⟩) rfl (fun K hK => ?_) (AllReadyH.cons (o := ⟨_, _, _, _, _, _⟩) rfl (fun K hK => ?_) AllReadyH.nil))
      · go_simp
        obtain ⟨X4, hX, bX, kX, sX⟩ := alloc_step WD (.cells #[.slice L n cn, .slice L2 n2 cn2] 22)
        rw [hX]
        have hM := hHeld.2.2.out.then_below bX
        refine hK.out _ _ ⟨box3 ((hM.block (sz) (by omega) (by omega)).trans KA.out), box3 ((hM.block (sz + 1) (by omega) (by omega)).trans KB.out), hid hM⟩ (fun hHeld => ?_)
        clear hK K
        have KO := hid (keep_blk KO.out bX)
        have K4 := hid kX
        clear hX bX kX sX
        try simp only [Act.put, List.setIfInBounds_toArray, List.set_cons_zero, List.set_cons_succ]
        refine wpAnyH_ready (rs := [5, 10]) (by kernel_rfl) (by simp) (AllReadyH.cons (o := ⟨_, _, _, _, _, _⟩) rfl (fun K hK => ?_) (AllReadyH.cons (o := ⟨_, _, _, _, _, _⟩) rfl (fun K hK => ?_) AllReadyH.nil))
        · go_simp
          refine (concat_any (box2 K4.out).1 (box2 K4.out).2 (hx0.out.mod hHeld.2.2.out fun g _ hg e => by omega) (hy0.out.mod hHeld.2.2.out fun g _ hg e => by omega) (by omega) (by omega)).mono ?_
          rintro r w5 ⟨⟨R5, c5, rfl, ho⟩, b⟩
          have hM := hHeld.2.2.out.then_below b
          have sM := hHeld.2.2.out.size
          refine hK.out _ _ ⟨box3 ((hM.block (sz) (by omega) (by omega)).trans KA.out), box3 ((hM.block (sz + 1) (by omega) (by omega)).trans KB.out), hid hM⟩ (fun hHeld => ?_)
          clear hK K
          have KO := hid (keep_blk KO.out b)
          have K4 := hid (keep_blk K4.out b)
          have L5 := hid (ho.rd.mono (G := fun g => W2.heap.size ≤ g) fun g _ (hg : X4.heap.size ≤ g) => Nat.le_trans sM hg)
          clear ho b
          try simp only [Act.put, List.setIfInBounds_toArray, List.set_cons_zero, List.set_cons_succ]
          refine wpAnyH_ready (rs := [10]) (by kernel_rfl) (by simp) (AllReadyH.cons (o := ⟨_, _, _, _, _, _⟩) rfl (fun K hK => ?_) AllReadyH.nil)
          go_simp
          obtain ⟨X10, hX, bX, kX, sX⟩ := alloc_step w5 (.cells #[.slice Q n cm, .slice Q2 n2 cm2] 22)
          rw [hX]
          have hM := hHeld.2.2.out.then_below bX
          refine hK.out _ _ ⟨box3 ((hM.block (sz) (by omega) (by omega)).trans KA.out), box3 ((hM.block (sz + 1) (by omega) (by omega)).trans KB.out), hid hM⟩ (fun hHeld => ?_)
          clear hK K
          have KO := hid (keep_blk KO.out bX)
          have K4 := hid (keep_blk K4.out bX)
          have L5 := hid (L5.out.below bX)
          have K10 := hid kX
          clear hX bX kX sX
          try simp only [Act.put, List.setIfInBounds_toArray, List.set_cons_zero, List.set_cons_succ]
          refine wpAnyH_ready (rs := [11]) (by kernel_rfl) (by simp) (AllReadyH.cons (o := ⟨_, _, _, _, _, _⟩) rfl (fun K hK => ?_) AllReadyH.nil)
          go_simp
          refine (concat_any (box2 K10.out).1 (box2 K10.out).2 (hk0.out.mod hHeld.2.2.out fun g _ hg e => by omega) (hj0.out.mod hHeld.2.2.out fun g _ hg e => by omega) (by omega) (by omega)).mono ?_
          rintro r w11 ⟨⟨R11, c11, rfl, ho⟩, b⟩
          have hM := hHeld.2.2.out.then_below b
          have sM := hHeld.2.2.out.size
          refine hK.out _ _ ⟨box3 ((hM.block (sz) (by omega) (by omega)).trans KA.out), box3 ((hM.block (sz + 1) (by omega) (by omega)).trans KB.out), hid hM⟩ (fun hHeld => ?_)
          clear hK K
          have KO := hid (keep_blk KO.out b)
          have K4 := hid (keep_blk K4.out b)
          have L5 := hid (L5.out.below b)
          have K10 := hid (keep_blk K10.out b)
          have L11 := hid (ho.rd.mono (G := fun g => W2.heap.size ≤ g) fun g _ (hg : X10.heap.size ≤ g) => Nat.le_trans sM hg)
          clear ho b
          try simp only [Act.put, List.setIfInBounds_toArray, List.set_cons_zero, List.set_cons_succ]
          refine wpAnyH_ready (rs := [17]) (by kernel_rfl) (by simp) (AllReadyH.cons (o := ⟨_, _, _, _, _, _⟩) rfl (fun K hK => ?_) AllReadyH.nil)
          go_simp
          have sM : W2.heap.size ≤ w11.heap.size := hHeld.2.2.out.size
          refine (norm_any L5.out L11.out HI1.out HI2.out HI3).mono ?_
          rintro r w17 ⟨⟨pv, rfl, hpv⟩, b⟩
          have hM := hHeld.2.2.out.then_below b
          rw [HR.out] at hpv ⊢
          obtain ⟨⟨A1, n1, c1, A2, n2, c2, rfl, r1, r2⟩, hb1⟩ := hpv
          refine hK.out _ _ ⟨box3 ((hM.block (sz) (by omega) (by omega)).trans KA.out), box3 ((hM.block (sz + 1) (by omega) (by omega)).trans KB.out), hid hM⟩ (fun hHeld => ?_)
          clear hK K
          have KO := hid (keep_blk KO.out b)
          have R1 := hid (r1.mono (G := fun g => W2.heap.size ≤ g) fun g _ (hg : w11.heap.size ≤ g) => Nat.le_trans sM hg)
          have R2 := hid (r2.mono (G := fun g => W2.heap.size ≤ g) fun g _ (hg : w11.heap.size ≤ g) => Nat.le_trans sM hg)
          have Hb1 := hid hb1
          obtain ⟨t0, t1, t2⟩ := box3 KO.out
          obtain ⟨f0, f1, f2⟩ := froz3 KO.out
          clear r1 r2 hb1 b
          try simp only [Act.put, List.setIfInBounds_toArray, List.set_cons_zero, List.set_cons_succ]
          refine wpAnyH_take (i := 18) (oi := ⟨_, _, _, _, _, _⟩) (v := ?_) rfl (by kernel_rfl) (by kernel_rfl) (by kernel_rfl) (fun _ _ _ h => h) (Or.inl ⟨by rfl, ?_⟩) (by assumption) ?_
          rotate_left
          · intro w hSw
            try dsimp only at hSw
            go_simp
            try with_reducible rfl
          simp only [Act.put, List.setIfInBounds_toArray, List.set_cons_zero, List.set_cons_succ]
          refine wpAnyH_take (i := 19) (oi := ⟨_, _, _, _, _, _⟩) (v := ?_) rfl (by kernel_rfl) (by kernel_rfl) (by kernel_rfl) (fun _ _ _ h => h) (Or.inl ⟨by rfl, ?_⟩) (by assumption) ?_
          rotate_left
          · intro w hSw
            try dsimp only at hSw
            go_simp
            try with_reducible rfl
          simp only [Act.put, List.setIfInBounds_toArray, List.set_cons_zero, List.set_cons_succ]
          refine wpAnyH_ready (rs := [20]) (by kernel_rfl) (by simp) (AllReadyH.cons (o := ⟨_, _, _, _, _, _⟩) rfl (fun K hK => ?_) AllReadyH.nil)
          go_simp
          obtain ⟨u0, u1, u2, m3⟩ := set3 t0 t1 t2 (.slice A1 n1 c1) (.slice A2 n2 c2) (.int .i64 R.1.bound)
          have hM := hHeld.2.2.out.trans (m3.mono fun g _ hg => Or.inl hg)
          refine hK.out _ _ ⟨box3 ((hM.block (sz) (by omega) (by omega)).trans KA.out), box3 ((hM.block (sz + 1) (by omega) (by omega)).trans KB.out), hid hM⟩ (fun hHeld => ?_)
          clear hK K
          try simp only [Act.put, List.setIfInBounds_toArray, List.set_cons_zero, List.set_cons_succ]
          refine wpAnyH_ready (rs := [21]) (by kernel_rfl) (by simp) (AllReadyH.cons (o := ⟨_, _, _, _, _, _⟩) rfl (fun K hK => ?_) AllReadyH.nil)
          go_simp
          refine hK.out _ _ hHeld (fun hHeld => ?_)
          clear hK K
          try simp only [Act.put, List.setIfInBounds_toArray, List.set_cons_zero, List.set_cons_succ]
          refine wpAnyH_done (by kernel_rfl) ?_ _
          go_wp2_with fail
          have hfin := below_mod B2.out (by omega) hHeld.2.2.out fun g hg => by omega
          refine bodyPost_ret (v := .tuple #[.agg #[.slice A1 n1 c1, .slice A2 n2 c2, .int .i64 R.1.bound], .int .i64 R.2]) (by simp [results, Tryd.f12, go_sem, u0, u1, u2]) rfl ⟨⟨_, rfl, ⟨A1, n1, c1, A2, n2, c2, rfl, ?_, ?_⟩, Hb1.out⟩, by rw [hsz]; exact hfin⟩
          · exact (R1.out.mod m3 fun g _ hf e => by omega).mono fun g _ hf => by omega
          · exact (R2.out.mod m3 fun g _ hf e => by omega).mono fun g _ hf => by omega
        · go_simp
          obtain ⟨X10, hX, bX, kX, sX⟩ := alloc_step X4 (.cells #[.slice Q n cm, .slice Q2 n2 cm2] 22)
          rw [hX]
          have hM := hHeld.2.2.out.then_below bX
          refine hK.out _ _ ⟨box3 ((hM.block (sz) (by omega) (by omega)).trans KA.out), box3 ((hM.block (sz + 1) (by omega) (by omega)).trans KB.out), hid hM⟩ (fun hHeld => ?_)
          clear hK K
          have KO := hid (keep_blk KO.out bX)
          have K4 := hid (keep_blk K4.out bX)
          have K10 := hid kX
          clear hX bX kX sX
          try simp only [Act.put, List.setIfInBounds_toArray, List.set_cons_zero, List.set_cons_succ]
          refine wpAnyH_ready (rs := [5]) (by kernel_rfl) (by simp) (AllReadyH.cons (o := ⟨_, _, _, _, _, _⟩) rfl (fun K hK => ?_) AllReadyH.nil)
          go_simp
          refine (concat_any (box2 K4.out).1 (box2 K4.out).2 (hx0.out.mod hHeld.2.2.out fun g _ hg e => by omega) (hy0.out.mod hHeld.2.2.out fun g _ hg e => by omega) (by omega) (by omega)).mono ?_
          rintro r w5 ⟨⟨R5, c5, rfl, ho⟩, b⟩
          have hM := hHeld.2.2.out.then_below b
          have sM := hHeld.2.2.out.size
          refine hK.out _ _ ⟨box3 ((hM.block (sz) (by omega) (by omega)).trans KA.out), box3 ((hM.block (sz + 1) (by omega) (by omega)).trans KB.out), hid hM⟩ (fun hHeld => ?_)
          clear hK K
          have KO := hid (keep_blk KO.out b)
          have K4 := hid (keep_blk K4.out b)
          have K10 := hid (keep_blk K10.out b)
          have L5 := hid (ho.rd.mono (G := fun g => W2.heap.size ≤ g) fun g _ (hg : X10.heap.size ≤ g) => Nat.le_trans sM hg)
          clear ho b
          try simp only [Act.put, List.setIfInBounds_toArray, List.set_cons_zero, List.set_cons_succ]
          refine wpAnyH_ready (rs := [11]) (by kernel_rfl) (by simp) (AllReadyH.cons (o := ⟨_, _, _, _, _, _⟩) rfl (fun K hK => ?_) AllReadyH.nil)
          go_simp
          refine (concat_any (box2 K10.out).1 (box2 K10.out).2 (hk0.out.mod hHeld.2.2.out fun g _ hg e => by omega) (hj0.out.mod hHeld.2.2.out fun g _ hg e => by omega) (by omega) (by omega)).mono ?_
          rintro r w11 ⟨⟨R11, c11, rfl, ho⟩, b⟩
          have hM := hHeld.2.2.out.then_below b
          have sM := hHeld.2.2.out.size
          refine hK.out _ _ ⟨box3 ((hM.block (sz) (by omega) (by omega)).trans KA.out), box3 ((hM.block (sz + 1) (by omega) (by omega)).trans KB.out), hid hM⟩ (fun hHeld => ?_)
          clear hK K
          have KO := hid (keep_blk KO.out b)
          have K4 := hid (keep_blk K4.out b)
          have K10 := hid (keep_blk K10.out b)
          have L5 := hid (L5.out.below b)
          have L11 := hid (ho.rd.mono (G := fun g => W2.heap.size ≤ g) fun g _ (hg : w5.heap.size ≤ g) => Nat.le_trans sM hg)
          clear ho b
          try simp only [Act.put, List.setIfInBounds_toArray, List.set_cons_zero, List.set_cons_succ]
          refine wpAnyH_ready (rs := [17]) (by kernel_rfl) (by simp) (AllReadyH.cons (o := ⟨_, _, _, _, _, _⟩) rfl (fun K hK => ?_) AllReadyH.nil)
          go_simp
          have sM : W2.heap.size ≤ w11.heap.size := hHeld.2.2.out.size
          refine (norm_any L5.out L11.out HI1.out HI2.out HI3).mono ?_
          rintro r w17 ⟨⟨pv, rfl, hpv⟩, b⟩
          have hM := hHeld.2.2.out.then_below b
          rw [HR.out] at hpv ⊢
          obtain ⟨⟨A1, n1, c1, A2, n2, c2, rfl, r1, r2⟩, hb1⟩ := hpv
          refine hK.out _ _ ⟨box3 ((hM.block (sz) (by omega) (by omega)).trans KA.out), box3 ((hM.block (sz + 1) (by omega) (by omega)).trans KB.out), hid hM⟩ (fun hHeld => ?_)
          clear hK K
          have KO := hid (keep_blk KO.out b)
          have R1 := hid (r1.mono (G := fun g => W2.heap.size ≤ g) fun g _ (hg : w11.heap.size ≤ g) => Nat.le_trans sM hg)
          have R2 := hid (r2.mono (G := fun g => W2.heap.size ≤ g) fun g _ (hg : w11.heap.size ≤ g) => Nat.le_trans sM hg)
          have Hb1 := hid hb1
          obtain ⟨t0, t1, t2⟩ := box3 KO.out
          obtain ⟨f0, f1, f2⟩ := froz3 KO.out
          clear r1 r2 hb1 b
          try simp only [Act.put, List.setIfInBounds_toArray, List.set_cons_zero, List.set_cons_succ]
          refine wpAnyH_take (i := 18) (oi := ⟨_, _, _, _, _, _⟩) (v := ?_) rfl (by kernel_rfl) (by kernel_rfl) (by kernel_rfl) (fun _ _ _ h => h) (Or.inl ⟨by rfl, ?_⟩) (by assumption) ?_
          rotate_left
          · intro w hSw
            try dsimp only at hSw
            go_simp
            try with_reducible rfl
          simp only [Act.put, List.setIfInBounds_toArray, List.set_cons_zero, List.set_cons_succ]
          refine wpAnyH_take (i := 19) (oi := ⟨_, _, _, _, _, _⟩) (v := ?_) rfl (by kernel_rfl) (by kernel_rfl) (by kernel_rfl) (fun _ _ _ h => h) (Or.inl ⟨by rfl, ?_⟩) (by assumption) ?_
          rotate_left
          · intro w hSw
            try dsimp only at hSw
            go_simp
            try with_reducible rfl
          simp only [Act.put, List.setIfInBounds_toArray, List.set_cons_zero, List.set_cons_succ]
          refine wpAnyH_ready (rs := [20]) (by kernel_rfl) (by simp) (AllReadyH.cons (o := ⟨_, _, _, _, _, _⟩) rfl (fun K hK => ?_) AllReadyH.nil)
          go_simp
          obtain ⟨u0, u1, u2, m3⟩ := set3 t0 t1 t2 (.slice A1 n1 c1) (.slice A2 n2 c2) (.int .i64 R.1.bound)
          have hM := hHeld.2.2.out.trans (m3.mono fun g _ hg => Or.inl hg)
          refine hK.out _ _ ⟨box3 ((hM.block (sz) (by omega) (by omega)).trans KA.out), box3 ((hM.block (sz + 1) (by omega) (by omega)).trans KB.out), hid hM⟩ (fun hHeld => ?_)
          clear hK K
          try simp only [Act.put, List.setIfInBounds_toArray, List.set_cons_zero, List.set_cons_succ]
          refine wpAnyH_ready (rs := [21]) (by kernel_rfl) (by simp) (AllReadyH.cons (o := ⟨_, _, _, _, _, _⟩) rfl (fun K hK => ?_) AllReadyH.nil)
          go_simp
          refine hK.out _ _ hHeld (fun hHeld => ?_)
          clear hK K
          try simp only [Act.put, List.setIfInBounds_toArray, List.set_cons_zero, List.set_cons_succ]
          refine wpAnyH_done (by kernel_rfl) ?_ _
          go_wp2_with fail
          have hfin := below_mod B2.out (by omega) hHeld.2.2.out fun g hg => by omega
          refine bodyPost_ret (v := .tuple #[.agg #[.slice A1 n1 c1, .slice A2 n2 c2, .int .i64 R.1.bound], .int .i64 R.2]) (by simp [results, Tryd.f12, go_sem, u0, u1, u2]) rfl ⟨⟨_, rfl, ⟨A1, n1, c1, A2, n2, c2, rfl, ?_, ?_⟩, Hb1.out⟩, by rw [hsz]; exact hfin⟩
          · exact (R1.out.mod m3 fun g _ hf e => by omega).mono fun g _ hf => by omega
          · exact (R2.out.mod m3 fun g _ hf e => by omega).mono fun g _ hf => by omega
      · go_simp
        obtain ⟨X10, hX, bX, kX, sX⟩ := alloc_step WD (.cells #[.slice Q n cm, .slice Q2 n2 cm2] 22)
        rw [hX]
        have hM := hHeld.2.2.out.then_below bX
        refine hK.out _ _ ⟨box3 ((hM.block (sz) (by omega) (by omega)).trans KA.out), box3 ((hM.block (sz + 1) (by omega) (by omega)).trans KB.out), hid hM⟩ (fun hHeld => ?_)
        clear hK K
        have KO := hid (keep_blk KO.out bX)
        have K10 := hid kX
        clear hX bX kX sX
        try simp only [Act.put, List.setIfInBounds_toArray, List.set_cons_zero, List.set_cons_succ]
        refine wpAnyH_ready (rs := [4]) (by kernel_rfl) (by simp) (AllReadyH.cons (o := ⟨_, _, _, _, _, _⟩) rfl (fun K hK => ?_) AllReadyH.nil)
        go_simp
        obtain ⟨X4, hX, bX, kX, sX⟩ := alloc_step X10 (.cells #[.slice L n cn, .slice L2 n2 cn2] 22)
        rw [hX]
        have hM := hHeld.2.2.out.then_below bX
        refine hK.out _ _ ⟨box3 ((hM.block (sz) (by omega) (by omega)).trans KA.out), box3 ((hM.block (sz + 1) (by omega) (by omega)).trans KB.out), hid hM⟩ (fun hHeld => ?_)
        clear hK K
        have KO := hid (keep_blk KO.out bX)
        have K10 := hid (keep_blk K10.out bX)
        have K4 := hid kX
        clear hX bX kX sX
        try simp only [Act.put, List.setIfInBounds_toArray, List.set_cons_zero, List.set_cons_succ]
        refine wpAnyH_ready (rs := [5]) (by kernel_rfl) (by simp) (AllReadyH.cons (o := ⟨_, _, _, _, _, _⟩) rfl (fun K hK => ?_) AllReadyH.nil)
        go_simp
        refine (concat_any (box2 K4.out).1 (box2 K4.out).2 (hx0.out.mod hHeld.2.2.out fun g _ hg e => by omega) (hy0.out.mod hHeld.2.2.out fun g _ hg e => by omega) (by omega) (by omega)).mono ?_
        rintro r w5 ⟨⟨R5, c5, rfl, ho⟩, b⟩
        have hM := hHeld.2.2.out.then_below b
        have sM := hHeld.2.2.out.size
        refine hK.out _ _ ⟨box3 ((hM.block (sz) (by omega) (by omega)).trans KA.out), box3 ((hM.block (sz + 1) (by omega) (by omega)).trans KB.out), hid hM⟩ (fun hHeld => ?_)
        clear hK K
        have KO := hid (keep_blk KO.out b)
        have K10 := hid (keep_blk K10.out b)
        have K4 := hid (keep_blk K4.out b)
        have L5 := hid (ho.rd.mono (G := fun g => W2.heap.size ≤ g) fun g _ (hg : X4.heap.size ≤ g) => Nat.le_trans sM hg)
        clear ho b
        try simp only [Act.put, List.setIfInBounds_toArray, List.set_cons_zero, List.set_cons_succ]
        refine wpAnyH_ready (rs := [11]) (by kernel_rfl) (by simp) (AllReadyH.cons (o := ⟨_, _, _, _, _, _⟩) rfl (fun K hK => ?_) AllReadyH.nil)
        go_simp
        refine (concat_any (box2 K10.out).1 (box2 K10.out).2 (hk0.out.mod hHeld.2.2.out fun g _ hg e => by omega) (hj0.out.mod hHeld.2.2.out fun g _ hg e => by omega) (by omega) (by omega)).mono ?_
        rintro r w11 ⟨⟨R11, c11, rfl, ho⟩, b⟩
        have hM := hHeld.2.2.out.then_below b
        have sM := hHeld.2.2.out.size
        refine hK.out _ _ ⟨box3 ((hM.block (sz) (by omega) (by omega)).trans KA.out), box3 ((hM.block (sz + 1) (by omega) (by omega)).trans KB.out), hid hM⟩ (fun hHeld => ?_)
        clear hK K
        have KO := hid (keep_blk KO.out b)
        have K10 := hid (keep_blk K10.out b)
        have K4 := hid (keep_blk K4.out b)
        have L5 := hid (L5.out.below b)
        have L11 := hid (ho.rd.mono (G := fun g => W2.heap.size ≤ g) fun g _ (hg : w5.heap.size ≤ g) => Nat.le_trans sM hg)
        clear ho b
        try simp only [Act.put, List.setIfInBounds_toArray, List.set_cons_zero, List.set_cons_succ]
        refine wpAnyH_ready (rs := [17]) (by kernel_rfl) (by simp) (AllReadyH.cons (o := ⟨_, _, _, _, _, _⟩) rfl (fun K hK => ?_) AllReadyH.nil)
        go_simp
        have sM : W2.heap.size ≤ w11.heap.size := hHeld.2.2.out.size
        refine (norm_any L5.out L11.out HI1.out HI2.out HI3).mono ?_
        rintro r w17 ⟨⟨pv, rfl, hpv⟩, b⟩
        have hM := hHeld.2.2.out.then_below b
        rw [HR.out] at hpv ⊢
        obtain ⟨⟨A1, n1, c1, A2, n2, c2, rfl, r1, r2⟩, hb1⟩ := hpv
        refine hK.out _ _ ⟨box3 ((hM.block (sz) (by omega) (by omega)).trans KA.out), box3 ((hM.block (sz + 1) (by omega) (by omega)).trans KB.out), hid hM⟩ (fun hHeld => ?_)
        clear hK K
        have KO := hid (keep_blk KO.out b)
        have R1 := hid (r1.mono (G := fun g => W2.heap.size ≤ g) fun g _ (hg : w11.heap.size ≤ g) => Nat.le_trans sM hg)
        have R2 := hid (r2.mono (G := fun g => W2.heap.size ≤ g) fun g _ (hg : w11.heap.size ≤ g) => Nat.le_trans sM hg)
        have Hb1 := hid hb1
        obtain ⟨t0, t1, t2⟩ := box3 KO.out
        obtain ⟨f0, f1, f2⟩ := froz3 KO.out
        clear r1 r2 hb1 b
        try simp only [Act.put, List.setIfInBounds_toArray, List.set_cons_zero, List.set_cons_succ]
        refine wpAnyH_take (i := 18) (oi := ⟨_, _, _, _, _, _⟩) (v := ?_) rfl (by kernel_rfl) (by kernel_rfl) (by kernel_rfl) (fun _ _ _ h => h) (Or.inl ⟨by rfl, ?_⟩) (by assumption) ?_
        rotate_left
        · intro w hSw
          try dsimp only at hSw
          go_simp
          try with_reducible rfl
        simp only [Act.put, List.setIfInBounds_toArray, List.set_cons_zero, List.set_cons_succ]
        refine wpAnyH_take (i := 19) (oi := ⟨_, _, _, _, _, _⟩) (v := ?_) rfl (by kernel_rfl) (by kernel_rfl) (by kernel_rfl) (fun _ _ _ h => h) (Or.inl ⟨by rfl, ?_⟩) (by assumption) ?_
        rotate_left
        · intro w hSw
          try dsimp only at hSw
          go_simp
          try with_reducible rfl
        simp only [Act.put, List.setIfInBounds_toArray, List.set_cons_zero, List.set_cons_succ]
        refine wpAnyH_ready (rs := [20]) (by kernel_rfl) (by simp) (AllReadyH.cons (o := ⟨_, _, _, _, _, _⟩) rfl (fun K hK => ?_) AllReadyH.nil)
        go_simp
        obtain ⟨u0, u1, u2, m3⟩ := set3 t0 t1 t2 (.slice A1 n1 c1) (.slice A2 n2 c2) (.int .i64 R.1.bound)
        have hM := hHeld.2.2.out.trans (m3.mono fun g _ hg => Or.inl hg)
        refine hK.out _ _ ⟨box3 ((hM.block (sz) (by omega) (by omega)).trans KA.out), box3 ((hM.block (sz + 1) (by omega) (by omega)).trans KB.out), hid hM⟩ (fun hHeld => ?_)
        clear hK K
        try simp only [Act.put, List.setIfInBounds_toArray, List.set_cons_zero, List.set_cons_succ]
        refine wpAnyH_ready (rs := [21]) (by kernel_rfl) (by simp) (AllReadyH.cons (o := ⟨_, _, _, _, _, _⟩) rfl (fun K hK => ?_) AllReadyH.nil)
        go_simp
        refine hK.out _ _ hHeld (fun hHeld => ?_)
        clear hK K
        try simp only [Act.put, List.setIfInBounds_toArray, List.set_cons_zero, List.set_cons_succ]
        refine wpAnyH_done (by kernel_rfl) ?_ _
        go_wp2_with fail
        have hfin := below_mod B2.out (by omega) hHeld.2.2.out fun g hg => by omega
        refine bodyPost_ret (v := .tuple #[.agg #[.slice A1 n1 c1, .slice A2 n2 c2, .int .i64 R.1.bound], .int .i64 R.2]) (by simp [results, Tryd.f12, go_sem, u0, u1, u2]) rfl ⟨⟨_, rfl, ⟨A1, n1, c1, A2, n2, c2, rfl, ?_, ?_⟩, Hb1.out⟩, by rw [hsz]; exact hfin⟩
        · exact (R1.out.mod m3 fun g _ hf e => by omega).mono fun g _ hf => by omega
        · exact (R2.out.mod m3 fun g _ hf e => by omega).mono fun g _ hf => by omega
      -- END ADD
    · have hf : b.ok = false := by simpa using hok2
      rw [hf]
      obtain rfl : R = (⟨[], [], 0⟩, 2) := by rw [← HR0.out]; unfold Pb.addB; rw [if_neg (by simp [hok2])]; rfl
      obtain ⟨t0, t1, t2⟩ := box3 KO2.out
      obtain ⟨f0, f1, f2⟩ := froz3 KO2.out
      clear HR0 hf hok2 hok hbd hbd2
      go_wp2_with fail
      obtain ⟨u0, u1, u2, m3⟩ := set3 t0 t1 t2 (.slice none 0 0) (.slice none 0 0) (.int .i64 0)
      exact bodyPost_ret (v := .tuple #[.agg #[.slice none 0 0, .slice none 0 0, .int .i64 0], .int .i64 2]) (by simp [results, Tryd.f12, go_sem, u0, u1, u2]) rfl ⟨⟨_, rfl, PbRd.zero _ _⟩, by rw [hsz]; exact below_mod B2.out (by omega) m3 fun g hg => by omega⟩
  · have hf : a.ok = false := by simpa using hok
    rw [hf]
    obtain rfl : R = (⟨[], [], 0⟩, 2) := by rw [← HR0.out]; unfold Pb.addB; rw [if_neg (by simp [hok])]; rfl
    obtain ⟨t0, t1, t2⟩ := box3 KO1.out
    obtain ⟨f0, f1, f2⟩ := froz3 KO1.out
    clear HR0 hf hok hbd hbd2
    go_wp2_with fail
    obtain ⟨u0, u1, u2, m3⟩ := set3 t0 t1 t2 (.slice none 0 0) (.slice none 0 0) (.int .i64 0)
    exact bodyPost_ret (v := .tuple #[.agg #[.slice none 0 0, .slice none 0 0, .int .i64 0], .int .i64 2]) (by simp [results, Tryd.f12, go_sem, u0, u1, u2]) rfl ⟨⟨_, rfl, PbRd.zero _ _⟩, by rw [hsz]; exact below_mod B1.out (by omega) m3 fun g hg => by omega⟩
end

section
open Go.RowKit

set_option maxRecDepth 100000 in
set_option maxHeartbeats 4000000 in
theorem mul_any {w : World} {F : Nat → Prop} {va : Value} {a : Pb} {k : Int} (ha : PbRd w F va a) (hia : ∀ k ∈ a.coefs, I64 k) :
    Calls Tryd.prog 15 #[va, .int .i64 k] w fun r w' => Gives w w' r (a.mulB k) := by
  obtain ⟨R, hR⟩ : ∃ R, a.mulB k = R := ⟨_, rfl⟩
  rw [hR]
  have HR0 := hid hR
  clear hR
  have Ha := hid ha
  obtain ⟨⟨L, n, cn, Q, m, cm, rfl, hx, hk⟩, hbd⟩ := ha
  obtain ⟨bd, hbd3⟩ : ∃ b, a.bound = b := ⟨_, rfl⟩
  rw [hbd3] at Ha ⊢
  obtain ⟨X0, hX0, bX0, k0, s0⟩ := alloc_step w (.cells #[.slice L n cn, .slice Q m cm, .int .i64 bd] 24)
  obtain ⟨X1, hX1, bX1, k1, s1⟩ := alloc_step X0 (.cells #[.int .i64 k] 3)
  obtain ⟨X2, hX2, bX2, k2, s2⟩ := alloc_step X1 (.cells #[.slice none 0 0, .slice none 0 0, .int .i64 0] 24)
  have hB2 : Below w.heap.size w X2 := bX0.trans ((bX1.mono bX0.size).trans (bX2.mono (Nat.le_trans bX0.size bX1.size)))
  have KA := hid (keep_blk (keep_blk k0 bX1) bX2)
  have KB := hid (keep_blk k1 bX2)
  have KO := hid k2
  have HB2 := hid hB2
  have HX := hid hX0
  have HX1 := hid hX1
  have HX2 := hid hX2
  rw [s0] at KB
  rw [s1, s0] at KO
  rw [s1, s0] at s2
  have Hx := hid hx
  have Hk := hid hk
  have Hbd3 := hid hbd3
  clear k0 k1 k2 bX0 bX1 bX2 s0 s1 hX0 hX1 hX2 hB2 hx hk hbd3
  go_enter Tryd.func15, Tryd.ntmps15
  go_wp2_with fail
  rw [HX.out, HX1.out, HX2.out]
  clear HX HX1 HX2
  obtain ⟨sz, hsz⟩ : ∃ s, w.heap.size = s := ⟨_, rfl⟩
  rw [hsz] at KA KB KO HB2 s2
  rw [hsz]
  refine (valid_any (Ha.out.below (hsz ▸ HB2.out)) hia).mono ?_
  rintro r W2 ⟨rfl, bv⟩
  have KA1 := hid (keep_blk KA.out bv)
  have KB1 := hid (keep_blk KB.out bv)
  have KO2 := hid (keep_blk KO.out bv)
  have B2 := hid (HB2.out.trans (bv.mono (by omega)))
  have sv := bv.size
  clear KA KB KO bv HB2
  obtain ⟨a0, a1, a2⟩ := box3 KA1.out
  have kb := box1 KB1.out
  by_cases hok : a.ok = true
  · rw [hok]
    by_cases h1 : k < 1
    · have h1' : ¬ (1 ≤ k) := by omega
      obtain rfl : R = (⟨[], [], 0⟩, 2) := by rw [← HR0.out]; unfold Pb.mulB; rw [if_pos (by simp [h1'])]; rfl
      obtain ⟨t0, t1, t2⟩ := box3 KO2.out
      obtain ⟨f0, f1, f2⟩ := froz3 KO2.out
      clear HR0 hok hbd
      go_wp2_with fail
      obtain ⟨u0, u1, u2, m3⟩ := set3 t0 t1 t2 (.slice none 0 0) (.slice none 0 0) (.int .i64 0)
      exact bodyPost_ret (v := .tuple #[.agg #[.slice none 0 0, .slice none 0 0, .int .i64 0], .int .i64 2]) (by simp [results, Tryd.f15, go_sem, u0, u1, u2]) rfl ⟨⟨_, rfl, PbRd.zero _ _⟩, by rw [hsz]; exact below_mod B2.out (by omega) m3 fun g hg => by omega⟩
    · by_cases h2 : 16777216 < k
      · have h2' : ¬ (k ≤ 16777216) := by omega
        have h2g : k > 16777216 := h2
        obtain rfl : R = (⟨[], [], 0⟩, 2) := by rw [← HR0.out]; unfold Pb.mulB; rw [if_pos (by simp [h2'])]; rfl
        obtain ⟨t0, t1, t2⟩ := box3 KO2.out
        obtain ⟨f0, f1, f2⟩ := froz3 KO2.out
        clear HR0 hok hbd
        go_wp2_with fail
        obtain ⟨u0, u1, u2, m3⟩ := set3 t0 t1 t2 (.slice none 0 0) (.slice none 0 0) (.int .i64 0)
        exact bodyPost_ret (v := .tuple #[.agg #[.slice none 0 0, .slice none 0 0, .int .i64 0], .int .i64 2]) (by simp [results, Tryd.f15, go_sem, u0, u1, u2]) rfl ⟨⟨_, rfl, PbRd.zero _ _⟩, by rw [hsz]; exact below_mod B2.out (by omega) m3 fun g hg => by omega⟩
      · have h3 : 1 ≤ k ∧ k ≤ 16777216 := by omega
        have hA := (Pb.ok_iff a).1 hok
        obtain rfl : n = m := by have h1 := hA.len; have h2 := Hx.out.1; have h3 := Hk.out.1; simp [ints_length] at h2 h3; omega
        have hn : n ≤ 65536 := by have h1 := hA.few; have h2 := Hx.out.1; simp [ints_length] at h2; omega
        have hbr := hA.low; have hbr2 := hA.high
        rw [Hbd3.out] at hbr hbr2
        have hp : 0 ≤ bd * k := Int.mul_nonneg hbr (by omega)
        have hq : bd * k ≤ 16777216 * 16777216 := Int.mul_le_mul hbr2 h3.2 (by omega) (by omega)
        have hw : IntKind.i64.wrap (bd * k) = bd * k := iw' (by omega) (by omega)
        by_cases h4 : 16777216 < bd * k
        · have h4g : bd * k > 16777216 := h4
          obtain rfl : R = (⟨[], [], 0⟩, 3) := by rw [← HR0.out]; unfold Pb.mulB; rw [if_neg (by simp [hok, h3.1, h3.2]), Hbd3.out, if_pos h4]
          obtain ⟨t0, t1, t2⟩ := box3 KO2.out
          obtain ⟨f0, f1, f2⟩ := froz3 KO2.out
          clear HR0 hok hbd hA
          go_wp2_with fail
          obtain ⟨u0, u1, u2, m3⟩ := set3 t0 t1 t2 (.slice none 0 0) (.slice none 0 0) (.int .i64 0)
          exact bodyPost_ret (v := .tuple #[.agg #[.slice none 0 0, .slice none 0 0, .int .i64 0], .int .i64 3]) (by simp [results, Tryd.f15, go_sem, u0, u1, u2]) rfl ⟨⟨_, rfl, PbRd.zero _ _⟩, by rw [hsz]; exact below_mod B2.out (by omega) m3 fun g hg => by omega⟩
        · have hR0 := mulB_is hA h3.1 h3.2 (by rw [Hbd3.out]; omega)
          rw [HR0.out, Hbd3.out] at hR0
          have HR := hid hR0.symm
          have HA := hid hA
          have hfi : ∀ x, 0 ≤ x ∧ x ≤ 16777216 → I64 (x * k) := fun x hx => by have e1 := Int.mul_nonneg hx.1 (show 0 ≤ k by omega); have e2 := Int.mul_le_mul hx.2 h3.2 (by omega) (by omega); unfold I64; omega
          have Hfi := hid hfi
          clear hR0 hok hA Hx Hk HR0 hfi hia hbd
          go_wp2_with fail
          clear a0 a1 a2
          have Hcl : Hid (∀ W x, Below W2.heap.size W2 W → 0 ≤ x ∧ x ≤ 16777216 → Calls Tryd.prog 40 (#[.int .i64 x] ++ #[.pointer (some ⟨sz + 1, 0, none⟩)]) W fun r W' => r = .returned (.int .i64 ((fun x => x * k) x)) ∧ W = W') := hid fun W x hW hx => by
            have e : (#[Value.int .i64 x] ++ #[Value.pointer (some ⟨sz + 1, 0, none⟩)] : Array Value) = #[.int .i64 x, .pointer (some ⟨sz + 1, 0, none⟩)] := by simp
            rw [e]
            exact mul1_any ((hW.cell (World.block_lt_of_cell? _ _ kb)).trans kb) hx (by omega)
          have Heg : Hid (∀ args w, (callFunc 40 args).run Tryd.prog w = .ok (.enter 40 args) w) := hid fun args w => by first | rfl | kernel_rfl
          refine (scaled_any (g := 40) (lb := #[.pointer (some ⟨sz + 1, 0, none⟩)]) (f := fun x => x * k) (Ha.out.below (hsz ▸ B2.out)) HA.out Heg.out Hcl.out Hfi.out).mono ?_
          rintro r W3 ⟨⟨pv, rfl, hpv⟩, b3⟩
          have hE : normed a.lits (a.coefs.map fun x => x * k) ((fun x => x * k) a.bound) = R := by rw [Hbd3.out]; exact HR.out
          rw [hE] at hpv ⊢
          obtain ⟨⟨A1, n1, c1, A2, n2, c2, rfl, r1, r2⟩, hb1⟩ := hpv
          have KO3 := hid (keep_blk KO2.out b3)
          have B3 := hid (B2.out.trans (b3.mono (by omega)))
          have s3 := b3.size
          have R1 := hid r1
          have R2 := hid r2
          have Hb1 := hid hb1
          clear r1 r2 hb1 b3 hE
          obtain ⟨t0, t1, t2⟩ := box3 KO3.out
          obtain ⟨f0, f1, f2⟩ := froz3 KO3.out
          go_wp2_with fail
          obtain ⟨u0, u1, u2, m3⟩ := set3 t0 t1 t2 (.slice A1 n1 c1) (.slice A2 n2 c2) (.int .i64 R.1.bound)
          refine bodyPost_ret (v := .tuple #[.agg #[.slice A1 n1 c1, .slice A2 n2 c2, .int .i64 R.1.bound], .int .i64 R.2]) (by simp [results, Tryd.f15, go_sem, u0, u1, u2]) rfl ⟨⟨_, rfl, ⟨A1, n1, c1, A2, n2, c2, rfl, ?_, ?_⟩, Hb1.out⟩, by rw [hsz]; exact below_mod B3.out (by omega) m3 fun g hg => by omega⟩
          · exact (R1.out.mod m3 fun g _ hf e => by omega).mono fun g _ hf => by omega
          · exact (R2.out.mod m3 fun g _ hf e => by omega).mono fun g _ hf => by omega
  · have hf : a.ok = false := by simpa using hok
    rw [hf]
    obtain rfl : R = (⟨[], [], 0⟩, 2) := by rw [← HR0.out]; unfold Pb.mulB; rw [if_pos (by simp [hok])]; rfl
    obtain ⟨t0, t1, t2⟩ := box3 KO2.out
    obtain ⟨f0, f1, f2⟩ := froz3 KO2.out
    clear HR0 hf hok hbd
    go_wp2_with fail
    obtain ⟨u0, u1, u2, m3⟩ := set3 t0 t1 t2 (.slice none 0 0) (.slice none 0 0) (.int .i64 0)
    exact bodyPost_ret (v := .tuple #[.agg #[.slice none 0 0, .slice none 0 0, .int .i64 0], .int .i64 2]) (by simp [results, Tryd.f15, go_sem, u0, u1, u2]) rfl ⟨⟨_, rfl, PbRd.zero _ _⟩, by rw [hsz]; exact below_mod B2.out (by omega) m3 fun g hg => by omega⟩

set_option maxRecDepth 100000 in
set_option maxHeartbeats 4000000 in
theorem div_any {w : World} {F : Nat → Prop} {va : Value} {a : Pb} {k : Int} (ha : PbRd w F va a) (hia : ∀ k ∈ a.coefs, I64 k) :
    Calls Tryd.prog 17 #[va, .int .i64 k] w fun r w' => Gives w w' r (a.divB k) := by
  obtain ⟨R, hR⟩ : ∃ R, a.divB k = R := ⟨_, rfl⟩
  rw [hR]
  have HR0 := hid hR
  clear hR
  have Ha := hid ha
  obtain ⟨⟨L, n, cn, Q, m, cm, rfl, hx, hk⟩, hbd⟩ := ha
  obtain ⟨bd, hbd3⟩ : ∃ b, a.bound = b := ⟨_, rfl⟩
  rw [hbd3] at Ha ⊢
  obtain ⟨X0, hX0, bX0, k0, s0⟩ := alloc_step w (.cells #[.slice L n cn, .slice Q m cm, .int .i64 bd] 24)
  obtain ⟨X1, hX1, bX1, k1, s1⟩ := alloc_step X0 (.cells #[.int .i64 k] 3)
  obtain ⟨X2, hX2, bX2, k2, s2⟩ := alloc_step X1 (.cells #[.slice none 0 0, .slice none 0 0, .int .i64 0] 24)
  have hB2 : Below w.heap.size w X2 := bX0.trans ((bX1.mono bX0.size).trans (bX2.mono (Nat.le_trans bX0.size bX1.size)))
  have KA := hid (keep_blk (keep_blk k0 bX1) bX2)
  have KB := hid (keep_blk k1 bX2)
  have KO := hid k2
  have HB2 := hid hB2
  have HX := hid hX0
  have HX1 := hid hX1
  have HX2 := hid hX2
  rw [s0] at KB
  rw [s1, s0] at KO
  rw [s1, s0] at s2
  have Hx := hid hx
  have Hk := hid hk
  have Hbd3 := hid hbd3
  clear k0 k1 k2 bX0 bX1 bX2 s0 s1 hX0 hX1 hX2 hB2 hx hk hbd3
  go_enter Tryd.func17, Tryd.ntmps17
  go_wp2_with fail
  rw [HX.out, HX1.out, HX2.out]
  clear HX HX1 HX2
  obtain ⟨sz, hsz⟩ : ∃ s, w.heap.size = s := ⟨_, rfl⟩
  rw [hsz] at KA KB KO HB2 s2
  rw [hsz]
  refine (valid_any (Ha.out.below (hsz ▸ HB2.out)) hia).mono ?_
  rintro r W2 ⟨rfl, bv⟩
  have KA1 := hid (keep_blk KA.out bv)
  have KB1 := hid (keep_blk KB.out bv)
  have KO2 := hid (keep_blk KO.out bv)
  have B2 := hid (HB2.out.trans (bv.mono (by omega)))
  have sv := bv.size
  clear KA KB KO bv HB2
  obtain ⟨a0, a1, a2⟩ := box3 KA1.out
  have kb := box1 KB1.out
  by_cases hok : a.ok = true
  · rw [hok]
    by_cases h1 : k < 1
    · have h1' : ¬ (1 ≤ k) := by omega
      obtain rfl : R = (⟨[], [], 0⟩, 2) := by rw [← HR0.out]; unfold Pb.divB; rw [if_pos (by simp [h1'])]; rfl
      obtain ⟨t0, t1, t2⟩ := box3 KO2.out
      obtain ⟨f0, f1, f2⟩ := froz3 KO2.out
      clear HR0 hok hbd
      go_wp2_with fail
      obtain ⟨u0, u1, u2, m3⟩ := set3 t0 t1 t2 (.slice none 0 0) (.slice none 0 0) (.int .i64 0)
      exact bodyPost_ret (v := .tuple #[.agg #[.slice none 0 0, .slice none 0 0, .int .i64 0], .int .i64 2]) (by simp [results, Tryd.f17, go_sem, u0, u1, u2]) rfl ⟨⟨_, rfl, PbRd.zero _ _⟩, by rw [hsz]; exact below_mod B2.out (by omega) m3 fun g hg => by omega⟩
    · by_cases h2 : 16777216 < k
      · have h2' : ¬ (k ≤ 16777216) := by omega
        have h2g : k > 16777216 := h2
        obtain rfl : R = (⟨[], [], 0⟩, 2) := by rw [← HR0.out]; unfold Pb.divB; rw [if_pos (by simp [h2'])]; rfl
        obtain ⟨t0, t1, t2⟩ := box3 KO2.out
        obtain ⟨f0, f1, f2⟩ := froz3 KO2.out
        clear HR0 hok hbd
        go_wp2_with fail
        obtain ⟨u0, u1, u2, m3⟩ := set3 t0 t1 t2 (.slice none 0 0) (.slice none 0 0) (.int .i64 0)
        exact bodyPost_ret (v := .tuple #[.agg #[.slice none 0 0, .slice none 0 0, .int .i64 0], .int .i64 2]) (by simp [results, Tryd.f17, go_sem, u0, u1, u2]) rfl ⟨⟨_, rfl, PbRd.zero _ _⟩, by rw [hsz]; exact below_mod B2.out (by omega) m3 fun g hg => by omega⟩
      · have h3 : 1 ≤ k ∧ k ≤ 16777216 := by omega
        have hA := (Pb.ok_iff a).1 hok
        obtain rfl : n = m := by have h1 := hA.len; have h2 := Hx.out.1; have h3 := Hk.out.1; simp [ints_length] at h2 h3; omega
        have hn : n ≤ 65536 := by have h1 := hA.few; have h2 := Hx.out.1; simp [ints_length] at h2; omega
        have hbr := hA.low; have hbr2 := hA.high
        rw [Hbd3.out] at hbr hbr2
        have hR0 := divB_is hA h3.1 h3.2
        rw [HR0.out, Hbd3.out] at hR0
        have HR := hid hR0.symm
        have HA := hid hA
        have hfi : ∀ x, 0 ≤ x ∧ x ≤ 16777216 → I64 (upN x k) := fun x hx => by have e1 := upN_bounds hx.1 h3.1; unfold I64; omega
        have Hfi := hid hfi
        clear hR0 hok hA Hx Hk HR0 hfi hia hbd
        go_wp2_with fail
        clear a0 a1 a2
        have Hcl : Hid (∀ W x, Below W2.heap.size W2 W → 0 ≤ x ∧ x ≤ 16777216 → Calls Tryd.prog 41 (#[.int .i64 x] ++ #[.pointer (some ⟨sz + 1, 0, none⟩)]) W fun r W' => r = .returned (.int .i64 ((fun x => upN x k) x)) ∧ W = W') := hid fun W x hW hx => by
          have e : (#[Value.int .i64 x] ++ #[Value.pointer (some ⟨sz + 1, 0, none⟩)] : Array Value) = #[.int .i64 x, .pointer (some ⟨sz + 1, 0, none⟩)] := by simp
          rw [e]
          exact div1_any ((hW.cell (World.block_lt_of_cell? _ _ kb)).trans kb) hx (by omega)
        have Heg : Hid (∀ args w, (callFunc 41 args).run Tryd.prog w = .ok (.enter 41 args) w) := hid fun args w => by first | rfl | kernel_rfl
        refine (scaled_any (g := 41) (lb := #[.pointer (some ⟨sz + 1, 0, none⟩)]) (f := fun x => upN x k) (Ha.out.below (hsz ▸ B2.out)) HA.out Heg.out Hcl.out Hfi.out).mono ?_
        rintro r W3 ⟨⟨pv, rfl, hpv⟩, b3⟩
        have hE : normed a.lits (a.coefs.map fun x => upN x k) ((fun x => upN x k) a.bound) = R := by rw [Hbd3.out]; exact HR.out
        rw [hE] at hpv ⊢
        obtain ⟨⟨A1, n1, c1, A2, n2, c2, rfl, r1, r2⟩, hb1⟩ := hpv
        have KO3 := hid (keep_blk KO2.out b3)
        have B3 := hid (B2.out.trans (b3.mono (by omega)))
        have s3 := b3.size
        have R1 := hid r1
        have R2 := hid r2
        have Hb1 := hid hb1
        clear r1 r2 hb1 b3 hE
        obtain ⟨t0, t1, t2⟩ := box3 KO3.out
        obtain ⟨f0, f1, f2⟩ := froz3 KO3.out
        go_wp2_with fail
        obtain ⟨u0, u1, u2, m3⟩ := set3 t0 t1 t2 (.slice A1 n1 c1) (.slice A2 n2 c2) (.int .i64 R.1.bound)
        refine bodyPost_ret (v := .tuple #[.agg #[.slice A1 n1 c1, .slice A2 n2 c2, .int .i64 R.1.bound], .int .i64 R.2]) (by simp [results, Tryd.f17, go_sem, u0, u1, u2]) rfl ⟨⟨_, rfl, ⟨A1, n1, c1, A2, n2, c2, rfl, ?_, ?_⟩, Hb1.out⟩, by rw [hsz]; exact below_mod B3.out (by omega) m3 fun g hg => by omega⟩
        · exact (R1.out.mod m3 fun g _ hf e => by omega).mono fun g _ hf => by omega
        · exact (R2.out.mod m3 fun g _ hf e => by omega).mono fun g _ hf => by omega
  · have hf : a.ok = false := by simpa using hok
    rw [hf]
    obtain rfl : R = (⟨[], [], 0⟩, 2) := by rw [← HR0.out]; unfold Pb.divB; rw [if_pos (by simp [hok])]; rfl
    obtain ⟨t0, t1, t2⟩ := box3 KO2.out
    obtain ⟨f0, f1, f2⟩ := froz3 KO2.out
    clear HR0 hf hok hbd
    go_wp2_with fail
    obtain ⟨u0, u1, u2, m3⟩ := set3 t0 t1 t2 (.slice none 0 0) (.slice none 0 0) (.int .i64 0)
    exact bodyPost_ret (v := .tuple #[.agg #[.slice none 0 0, .slice none 0 0, .int .i64 0], .int .i64 2]) (by simp [results, Tryd.f17, go_sem, u0, u1, u2]) rfl ⟨⟨_, rfl, PbRd.zero _ _⟩, by rw [hsz]; exact below_mod B2.out (by omega) m3 fun g hg => by omega⟩
end

section
open Go.RowKit

theorem posB_is (c : Pb) (v : Int) : posB (fun x => x == v || x == -v) c.lits = if c.at v < c.lits.length then ((c.at v : Nat) : Int) else -1 := by
  unfold posB Pb.at
  cases h : c.lits.findIdx? fun x => x == v || x == -v with
  | none =>
    rw [List.findIdx?_eq_none_iff_findIdx_eq] at h
    simp only [h]
    rw [if_neg (by omega)]
  | some i =>
    obtain ⟨h1, h2⟩ := List.findIdx?_eq_some_iff_findIdx_eq.1 h
    simp only [h2]
    rw [if_pos h1]
theorem rd_cap {w : World} {F : Nat → Prop} {A : Option Addr} {n c : Nat} {xs : List Value} (h : Rd w F 1 (.slice A n c) n xs) : n ≤ c := by
  obtain ⟨_, _, c', hv, h1, _⟩ := h
  injection hv with _ _ h3
  omega
theorem rd_take {w : World} {F : Nat → Prop} {A : Option Addr} {n c i : Nat} {xs : List Int} (h : Rd w F 1 (.slice A n c) n (ints xs)) (hi : i ≤ n) : Rd w F 1 (.slice A i c) i (ints (xs.take i)) := by
  have := h.take hi
  rw [Nat.mul_one, ← ints_take] at this
  exact this
theorem slice_to {g o n c i : Nat} (hi : i ≤ n) (hc : n ≤ c) (W : World) : (Instr.slice 22 (.slice (some ⟨g, o, none⟩) n c) none (some (.int .i64 (i : Int))) none).run Tryd.prog W = .ok (.slice (some ⟨g, o, none⟩) i c) W := by
  have h1 : (0 : Int) ≤ (i : Int) ∧ (i : Int) ≤ (c : Int) := by omega
  have h2 : (⟨g, o, none⟩ : Addr).add 0 = ⟨g, o, none⟩ := addr_add g o 0
  simp [Instr.slice, Instr.sliceBounds, Instr.sliceBound, run_underlying Tryd.underlying22, asIntOf, h1, h2, Tryd.sizeOf3]
  exact fun h => absurd h (by omega)
theorem slice_from {g o n c i : Nat} (hi : i + 1 ≤ n) (hc : n ≤ c) : ∃ A', (∀ W : World, (Instr.slice 22 (.slice (some ⟨g, o, none⟩) n c) (some (.int .i64 ((i : Int) + 1))) none none).run Tryd.prog W = .ok (.slice A' (n - (i + 1)) (c - (i + 1))) W) ∧
    ∀ (w : World) (F : Nat → Prop) (xs : List Int), Rd w F 1 (.slice (some ⟨g, o, none⟩) n c) n (ints xs) → Rd w F 1 (.slice A' (n - (i + 1)) (c - (i + 1))) (n - (i + 1)) (ints (xs.drop (i + 1))) := by
  have h1 : (0 : Int) ≤ (i : Int) + 1 ∧ (i : Int) + 1 ≤ (n : Int) := by omega
  have h3 : ((i : Int) + 1).toNat = i + 1 := by omega
  have h2 : (⟨g, o, none⟩ : Addr).add (i + 1) = ⟨g, o + (i + 1), none⟩ := addr_add g o (i + 1)
  refine ⟨some (if c = i + 1 then ⟨g, o, none⟩ else ⟨g, o + (i + 1), none⟩), fun W => ?_, fun w F xs h => ?_⟩
  · by_cases e : c = i + 1
    · simp [Instr.slice, Instr.sliceBounds, Instr.sliceBound, run_underlying Tryd.underlying22, asIntOf, h1, h3, e, Tryd.sizeOf3]
    · simp [Instr.slice, Instr.sliceBounds, Instr.sliceBound, run_underlying Tryd.underlying22, asIntOf, h1, h2, h3, e, Tryd.sizeOf3]
  · obtain ⟨hl, A', c', hv, hc2, hm, hA⟩ := h
    injection hv with e1 _ e3
    subst e1
    subst e3
    refine ⟨by simp [ints_length] at hl ⊢; omega, _, _, rfl, by omega, by omega, fun hp => ?_⟩
    obtain ⟨g', o', e4, hF, hg, hcell⟩ := hA (by omega)
    injection e4 with e4
    injection e4 with e5 e6
    subst e5
    subst e6
    rw [if_neg (by omega)]
    refine ⟨g, o + (i + 1), rfl, hF, hg, fun j u hj => ?_⟩
    rw [Nat.add_assoc]
    refine hcell (i + 1 + j) u ?_
    rw [← hj]
    simp [ints, List.getElem?_drop]

set_option maxRecDepth 100000 in
set_option maxHeartbeats 4000000 in
theorem weak_any {w : World} {F : Nat → Prop} {va : Value} {a : Pb} {k : Int} (ha : PbRd w F va a) (hia : ∀ k ∈ a.coefs, I64 k) :
    Calls Tryd.prog 19 #[va, .int .i64 k] w fun r w' => Gives w w' r (a.weakB k) := by
  obtain ⟨R, hR⟩ : ∃ R, a.weakB k = R := ⟨_, rfl⟩
  rw [hR]
  have HR0 := hid hR
  clear hR
  have Ha := hid ha
  obtain ⟨⟨L, n, cn, Q, m, cm, rfl, hx, hk⟩, hbd⟩ := ha
  obtain ⟨bd, hbd3⟩ : ∃ b, a.bound = b := ⟨_, rfl⟩
  rw [hbd3] at Ha ⊢
  obtain ⟨X0, hX0, bX0, k0, s0⟩ := alloc_step w (.cells #[.slice L n cn, .slice Q m cm, .int .i64 bd] 24)
  obtain ⟨X1, hX1, bX1, k1, s1⟩ := alloc_step X0 (.cells #[.int .i64 k] 3)
  obtain ⟨X2, hX2, bX2, k2, s2⟩ := alloc_step X1 (.cells #[.slice none 0 0, .slice none 0 0, .int .i64 0] 24)
  have hB2 : Below w.heap.size w X2 := bX0.trans ((bX1.mono bX0.size).trans (bX2.mono (Nat.le_trans bX0.size bX1.size)))
  have KA := hid (keep_blk (keep_blk k0 bX1) bX2)
  have KB := hid (keep_blk k1 bX2)
  have KO := hid k2
  have HB2 := hid hB2
  have HX := hid hX0
  have HX1 := hid hX1
  have HX2 := hid hX2
  rw [s0] at KB
  rw [s1, s0] at KO
  rw [s1, s0] at s2
  have Hx := hid hx
  have Hk := hid hk
  have Hbd3 := hid hbd3
  clear k0 k1 k2 bX0 bX1 bX2 s0 s1 hX0 hX1 hX2 hB2 hx hk hbd3
  go_enter Tryd.func19, Tryd.ntmps19
  go_wp2_with fail
  rw [HX.out, HX1.out, HX2.out]
  clear HX HX1 HX2
  obtain ⟨sz, hsz⟩ : ∃ s, w.heap.size = s := ⟨_, rfl⟩
  rw [hsz] at KA KB KO HB2 s2
  rw [hsz]
  refine (valid_any (Ha.out.below (hsz ▸ HB2.out)) hia).mono ?_
  rintro r W2 ⟨rfl, bv⟩
  have KA1 := hid (keep_blk KA.out bv)
  have KB1 := hid (keep_blk KB.out bv)
  have KO2 := hid (keep_blk KO.out bv)
  have B2 := hid (HB2.out.trans (bv.mono (by omega)))
  have sv := bv.size
  clear KA KB KO bv HB2
  obtain ⟨a0, a1, a2⟩ := box3 KA1.out
  have kb := box1 KB1.out
  by_cases hok : a.ok = true
  · rw [hok]
    by_cases h1 : k < 1
    · have h1' : ¬ (1 ≤ k) := by omega
      obtain rfl : R = (⟨[], [], 0⟩, 2) := by rw [← HR0.out]; unfold Pb.weakB; rw [if_pos (by simp [h1'])]; rfl
      obtain ⟨t0, t1, t2⟩ := box3 KO2.out
      obtain ⟨f0, f1, f2⟩ := froz3 KO2.out
      clear HR0 hok hbd
      go_wp2_with fail
      obtain ⟨u0, u1, u2, m3⟩ := set3 t0 t1 t2 (.slice none 0 0) (.slice none 0 0) (.int .i64 0)
      exact bodyPost_ret (v := .tuple #[.agg #[.slice none 0 0, .slice none 0 0, .int .i64 0], .int .i64 2]) (by simp [results, Tryd.f19, go_sem, u0, u1, u2]) rfl ⟨⟨_, rfl, PbRd.zero _ _⟩, by rw [hsz]; exact below_mod B2.out (by omega) m3 fun g hg => by omega⟩
    · by_cases h2 : 65536 < k
      · have h2' : ¬ (k ≤ 65536) := by omega
        have h2g : k > 65536 := h2
        obtain rfl : R = (⟨[], [], 0⟩, 2) := by rw [← HR0.out]; unfold Pb.weakB; rw [if_pos (by simp [h2'])]; rfl
        obtain ⟨t0, t1, t2⟩ := box3 KO2.out
        obtain ⟨f0, f1, f2⟩ := froz3 KO2.out
        clear HR0 hok hbd
        go_wp2_with fail
        obtain ⟨u0, u1, u2, m3⟩ := set3 t0 t1 t2 (.slice none 0 0) (.slice none 0 0) (.int .i64 0)
        exact bodyPost_ret (v := .tuple #[.agg #[.slice none 0 0, .slice none 0 0, .int .i64 0], .int .i64 2]) (by simp [results, Tryd.f19, go_sem, u0, u1, u2]) rfl ⟨⟨_, rfl, PbRd.zero _ _⟩, by rw [hsz]; exact below_mod B2.out (by omega) m3 fun g hg => by omega⟩
      · have h3 : 1 ≤ k ∧ k ≤ 65536 := by omega
        have hA := (Pb.ok_iff a).1 hok
        obtain rfl : n = m := by have h1 := hA.len; have h2 := Hx.out.1; have h3 := Hk.out.1; simp [ints_length] at h2 h3; omega
        have hn : n ≤ 65536 := by have h1 := hA.few; have h2 := Hx.out.1; simp [ints_length] at h2; omega
        have hbr := hA.low; have hbr2 := hA.high
        rw [Hbd3.out] at hbr hbr2
        have hlen := hA.len
        have hxl : a.lits.length = n := by have := Hx.out.1; simpa [ints_length] using this
        have hkl : a.coefs.length = n := by omega
        have hx0 := hid ((Hx.out.mono (G := fun g => g < sz) fun g hg _ => by omega).below (hsz ▸ B2.out))
        have hk0 := hid ((Hk.out.mono (G := fun g => g < sz) fun g hg _ => by omega).below (hsz ▸ B2.out))
        have hR0 := weakB_is hA h3.1 h3.2
        have hpos := posB_is a k
        rw [HR0.out, Hbd3.out] at hR0
        have HI4 := hid hA.i64l
        have HI5 := hid hA.i64
        have hag := hA.again
        rw [Hbd3.out] at hag
        have hco := hA.coef
        obtain ⟨i, hi⟩ : ∃ i, a.at k = i := ⟨_, rfl⟩
        rw [hi, hxl] at hpos hR0
        have HPos := hid hpos
        have HR1 := hid hR0
        have Hag := hid hag
        have hkv : -65536 ≤ k ∧ k ≤ 65536 := by omega
        clear hpos hR0 hag hok hia hbd hi
        go_wp2_with fail
        refine (indexFunc_any hx0.out kb hkv).mono ?_
        rintro r W3 ⟨rfl, rfl⟩
        obtain ⟨Ob, hOb⟩ : ∃ o, sz + 1 + 1 = o := ⟨_, rfl⟩
        rw [hOb] at KO2 ⊢
        by_cases hlt : i < n
        · have hp := HPos.out
          rw [if_pos hlt] at hp
          rw [hp]
          have hR2 := HR1.out
          rw [if_pos hlt] at hR2
          have HR := hid hR2.symm
          have hck := hco i (by omega)
          rw [Hbd3.out] at hck
          obtain ⟨gL, oL, rfl, _, hgL, _⟩ := hx0.out.cell.2 i hlt
          obtain ⟨gQ, oQ, rfl, hgQ, hgQ2, ec⟩ := hk0.out.cell.2 i hlt
          obtain ⟨kk, hkk⟩ : ∃ x, nth a.coefs i = x := ⟨_, rfl⟩
          rw [hkk] at hck ec
          have hR3 := HR.out
          rw [hkk] at hR3
          have HR := hid hR3
          have hw : IntKind.i64.wrap (bd - kk) = bd - kk := iw' (by omega) (by omega)
          have hw1 : IntKind.i64.wrap ((i : Int) + 1) = (i : Int) + 1 := iw' (by omega) (by omega)
          have hsl := slice_to (g := gL) (o := oL) (n := n) (c := cn) (i := i) (by omega) (rd_cap hx0.out)
          have hsq := slice_to (g := gQ) (o := oQ) (n := n) (c := cm) (i := i) (by omega) (rd_cap hk0.out)
          obtain ⟨L3, hsl2, hL3⟩ := slice_from (g := gL) (o := oL) (n := n) (c := cn) (i := i) (by omega) (rd_cap hx0.out)
          obtain ⟨Q3, hsq2, hQ3⟩ := slice_from (g := gQ) (o := oQ) (n := n) (c := cm) (i := i) (by omega) (rd_cap hk0.out)
          have hx1 := hid (rd_take hx0.out (show i ≤ n by omega))
          have hx2 := hid (hL3 _ _ _ hx0.out)
          have hk1 := hid (rd_take hk0.out (show i ≤ n by omega))
          have hk2 := hid (hQ3 _ _ _ hk0.out)
          have HI1 : Hid (∀ x ∈ a.lits.take i ++ a.lits.drop (i + 1), I64 x) := hid fun x hx => HI4.out x ((List.mem_append.1 hx).elim List.mem_of_mem_take List.mem_of_mem_drop)
          have HI2 : Hid (∀ x ∈ a.coefs.take i ++ a.coefs.drop (i + 1), I64 x) := hid fun x hx => HI5.out x ((List.mem_append.1 hx).elim List.mem_of_mem_take List.mem_of_mem_drop)
          have HI3 : I64 (bd - kk) := by unfold I64; omega
          have xn : ¬ ((i : Int) < 0) := by omega
          have xn2 : (i : Int) < (n : Int) := by omega
          clear hp hR2 hR3 hkk hL3 hQ3 HPos HR1 Hag hco hA Ha Hx Hk HR0 hkl hlen hxl kb a0 a1 a2
          go_upto_region 6 with fail
          refine wp_region_held_drew (S := fun w' => (w'.cell? ⟨sz, 0, none⟩ = some (.slice (some ⟨gL, oL, none⟩) n cn) ∧ w'.cell? ⟨sz, 1, none⟩ = some (.slice (some ⟨gQ, oQ, none⟩) n cm) ∧ w'.cell? ⟨sz, 2, none⟩ = some (.int .i64 bd)) ∧ w'.cell? ⟨gQ, oQ + i, none⟩ = some (.int .i64 kk) ∧ Hid (Mod (fun g => g = Ob) W2 w')) (by kernel_rfl) ⟨box3 KA1.out, ec, hid (Mod.refl _ _).drew⟩ (fun hHeld => ?_)
          have kO : W2.drew.heap[Ob]? = _ := KO2.out
          obtain ⟨WD, hWD⟩ : ∃ W, W2.drew = W := ⟨_, rfl⟩
          rw [hWD] at hHeld kO ⊢
          clear hWD
          have KO := hid kO
          clear kO
          refine wpAnyH_take (i := 0) (oi := ⟨_, _, _, _, _, _⟩) (v := ?_) rfl (by kernel_rfl) (by kernel_rfl) (by kernel_rfl) (fun _ _ _ h => h) (Or.inl ⟨by rfl, ?_⟩) (by assumption) ?_
          rotate_left
          · intro w hSw
            try dsimp only at hSw
            go_simp
            try with_reducible rfl
          simp only [Act.put, List.setIfInBounds_toArray, List.set_cons_zero, List.set_cons_succ]
          refine wpAnyH_take (i := 2) (oi := ⟨_, _, _, _, _, _⟩) (v := ?_) rfl (by kernel_rfl) (by kernel_rfl) (by kernel_rfl) (fun _ _ _ h => h) (Or.inl ⟨by rfl, ?_⟩) (by assumption) ?_
          rotate_left
          · intro w hSw
            try dsimp only at hSw
            go_simp
            try with_reducible rfl
          simp only [Act.put, List.setIfInBounds_toArray, List.set_cons_zero, List.set_cons_succ]
          refine wpAnyH_take (i := 4) (oi := ⟨_, _, _, _, _, _⟩) (v := ?_) rfl (by kernel_rfl) (by kernel_rfl) (by kernel_rfl) (fun _ _ _ h => h) (Or.inl ⟨by rfl, ?_⟩) (by assumption) ?_
          rotate_left
          · intro w hSw
            try dsimp only at hSw
            go_simp
            try with_reducible rfl
          simp only [Act.put, List.setIfInBounds_toArray, List.set_cons_zero, List.set_cons_succ]
          refine wpAnyH_take (i := 6) (oi := ⟨_, _, _, _, _, _⟩) (v := ?_) rfl (by kernel_rfl) (by kernel_rfl) (by kernel_rfl) (fun _ _ _ h => h) (Or.inl ⟨by rfl, ?_⟩) (by assumption) ?_
          rotate_left
          · intro w hSw
            try dsimp only at hSw
            go_simp
            try with_reducible rfl
          simp only [Act.put, List.setIfInBounds_toArray, List.set_cons_zero, List.set_cons_succ]
          refine wpAnyH_take (i := 11) (oi := ⟨_, _, _, _, _, _⟩) (v := ?_) rfl (by kernel_rfl) (by kernel_rfl) (by kernel_rfl) (fun _ _ _ h => h) (Or.inl ⟨by rfl, ?_⟩) (by assumption) ?_
          rotate_left
          · intro w hSw
            try dsimp only at hSw
            go_simp
            try with_reducible rfl
          simp only [Act.put, List.setIfInBounds_toArray, List.set_cons_zero, List.set_cons_succ]
          refine wpAnyH_take (i := 13) (oi := ⟨_, _, _, _, _, _⟩) (v := ?_) rfl (by kernel_rfl) (by kernel_rfl) (by kernel_rfl) (fun _ _ _ h => h) (Or.inl ⟨by rfl, ?_⟩) (by assumption) ?_
          rotate_left
          · intro w hSw
            try dsimp only at hSw
            go_simp
            try with_reducible rfl
          simp only [Act.put, List.setIfInBounds_toArray, List.set_cons_zero, List.set_cons_succ]
          refine wpAnyH_take (i := 15) (oi := ⟨_, _, _, _, _, _⟩) (v := ?_) rfl (by kernel_rfl) (by kernel_rfl) (by kernel_rfl) (fun _ _ _ h => h) (Or.inl ⟨by rfl, ?_⟩) (by assumption) ?_
          rotate_left
          · intro w hSw
            try dsimp only at hSw
            go_simp
            try with_reducible rfl
          simp only [Act.put, List.setIfInBounds_toArray, List.set_cons_zero, List.set_cons_succ]
          refine wpAnyH_take (i := 17) (oi := ⟨_, _, _, _, _, _⟩) (v := ?_) rfl (by kernel_rfl) (by kernel_rfl) (by kernel_rfl) (fun _ _ _ h => h) (Or.inl ⟨by rfl, ?_⟩) (by assumption) ?_
          rotate_left
          · intro w hSw
            try dsimp only at hSw
            go_simp
            try with_reducible rfl
          simp only [Act.put, List.setIfInBounds_toArray, List.set_cons_zero, List.set_cons_succ]
          refine wpAnyH_take (i := 22) (oi := ⟨_, _, _, _, _, _⟩) (v := ?_) rfl (by kernel_rfl) (by kernel_rfl) (by kernel_rfl) (fun _ _ _ h => h) (Or.inl ⟨by rfl, ?_⟩) (by assumption) ?_
          rotate_left
          · intro w hSw
            try dsimp only at hSw
            go_simp
            try with_reducible rfl
          simp only [Act.put, List.setIfInBounds_toArray, List.set_cons_zero, List.set_cons_succ]
          refine wpAnyH_take (i := 24) (oi := ⟨_, _, _, _, _, _⟩) (v := ?_) rfl (by kernel_rfl) (by kernel_rfl) (by kernel_rfl) (fun _ _ _ h => h) (Or.inl ⟨by rfl, ?_⟩) (by assumption) ?_
          rotate_left
          · intro w hSw
            try dsimp only at hSw
            go_simp
            try with_reducible rfl
          simp only [Act.put, List.setIfInBounds_toArray, List.set_cons_zero, List.set_cons_succ]
          refine wpAnyH_take (i := 26) (oi := ⟨_, _, _, _, _, _⟩) (v := ?_) rfl (by kernel_rfl) (by kernel_rfl) (by kernel_rfl) (fun _ _ _ h => h) (Or.inl ⟨by rfl, ?_⟩) (by assumption) ?_
          rotate_left
          · intro w hSw
            try dsimp only at hSw
            go_simp
            try with_reducible rfl
          simp only [Act.put, List.setIfInBounds_toArray, List.set_cons_zero, List.set_cons_succ]
          refine wpAnyH_take (i := 1) (oi := ⟨_, _, _, _, _, _⟩) (v := ?_) rfl (by kernel_rfl) (by kernel_rfl) (by kernel_rfl) (fun _ _ _ h => h) (Or.inl ⟨by rfl, ?_⟩) (by assumption) ?_
          rotate_left
          · intro w hSw
            try dsimp only at hSw
            go_simp
            try with_reducible rfl
          simp only [Act.put, List.setIfInBounds_toArray, List.set_cons_zero, List.set_cons_succ]
          refine wpAnyH_take (i := 5) (oi := ⟨_, _, _, _, _, _⟩) (v := ?_) rfl (by kernel_rfl) (by kernel_rfl) (by kernel_rfl) (fun _ _ _ h => h) (Or.inl ⟨by rfl, ?_⟩) (by assumption) ?_
          rotate_left
          · intro w hSw
            try dsimp only at hSw
            go_simp
            try with_reducible rfl
          simp only [Act.put, List.setIfInBounds_toArray, List.set_cons_zero, List.set_cons_succ]
          refine wpAnyH_take (i := 7) (oi := ⟨_, _, _, _, _, _⟩) (v := ?_) rfl (by kernel_rfl) (by kernel_rfl) (by kernel_rfl) (fun _ _ _ h => h) (Or.inl ⟨by rfl, ?_⟩) (by assumption) ?_
          rotate_left
          · intro w hSw
            try dsimp only at hSw
            go_simp
            try with_reducible rfl
          simp only [Act.put, List.setIfInBounds_toArray, List.set_cons_zero, List.set_cons_succ]
          refine wpAnyH_take (i := 12) (oi := ⟨_, _, _, _, _, _⟩) (v := ?_) rfl (by kernel_rfl) (by kernel_rfl) (by kernel_rfl) (fun _ _ _ h => h) (Or.inl ⟨by rfl, ?_⟩) (by assumption) ?_
          rotate_left
          · intro w hSw
            try dsimp only at hSw
            go_simp
            try with_reducible rfl
          simp only [Act.put, List.setIfInBounds_toArray, List.set_cons_zero, List.set_cons_succ]
          refine wpAnyH_take (i := 16) (oi := ⟨_, _, _, _, _, _⟩) (v := ?_) rfl (by kernel_rfl) (by kernel_rfl) (by kernel_rfl) (fun _ _ _ h => h) (Or.inl ⟨by rfl, ?_⟩) (by assumption) ?_
          rotate_left
          · intro w hSw
            try dsimp only at hSw
            go_simp
            try with_reducible rfl
          simp only [Act.put, List.setIfInBounds_toArray, List.set_cons_zero, List.set_cons_succ]
          refine wpAnyH_take (i := 18) (oi := ⟨_, _, _, _, _, _⟩) (v := ?_) rfl (by kernel_rfl) (by kernel_rfl) (by kernel_rfl) (fun _ _ _ h => h) (Or.inl ⟨by rfl, ?_⟩) (by assumption) ?_
          rotate_left
          · intro w hSw
            try dsimp only at hSw
            go_simp
            try with_reducible rfl
          simp only [Act.put, List.setIfInBounds_toArray, List.set_cons_zero, List.set_cons_succ]
          refine wpAnyH_take (i := 23) (oi := ⟨_, _, _, _, _, _⟩) (v := ?_) rfl (by kernel_rfl) (by kernel_rfl) (by kernel_rfl) (fun _ _ _ h => h) (Or.inl ⟨by rfl, ?_⟩) (by assumption) ?_
          rotate_left
          · intro w hSw
            try dsimp only at hSw
            go_simp
            try with_reducible rfl
          simp only [Act.put, List.setIfInBounds_toArray, List.set_cons_zero, List.set_cons_succ]
          refine wpAnyH_take (i := 25) (oi := ⟨_, _, _, _, _, _⟩) (v := ?_) rfl (by kernel_rfl) (by kernel_rfl) (by kernel_rfl) (fun _ _ _ h => h) (Or.inl ⟨by rfl, ?_⟩) (by assumption) ?_
          rotate_left
          · intro w hSw
            try dsimp only at hSw
            go_simp
            try with_reducible rfl
          simp only [Act.put, List.setIfInBounds_toArray, List.set_cons_zero, List.set_cons_succ]
          refine wpAnyH_take (i := 3) (oi := ⟨_, _, _, _, _, _⟩) (v := ?_) rfl (by kernel_rfl) (by kernel_rfl) (by kernel_rfl) (fun _ _ _ h => h) (Or.inl ⟨by rfl, ?_⟩) (by assumption) ?_
          rotate_left
          · intro w hSw
            try dsimp only at hSw
            go_simp
            try with_reducible rfl
          simp only [Act.put, List.setIfInBounds_toArray, List.set_cons_zero, List.set_cons_succ]
          refine wpAnyH_take (i := 8) (oi := ⟨_, _, _, _, _, _⟩) (v := ?_) rfl (by kernel_rfl) (by kernel_rfl) (by kernel_rfl) (fun _ _ _ h => h) (Or.inl ⟨by rfl, ?_⟩) (by assumption) ?_
          rotate_left
          · intro w hSw
            try dsimp only at hSw
            go_simp
            try with_reducible rfl
          simp only [Act.put, List.setIfInBounds_toArray, List.set_cons_zero, List.set_cons_succ]
          refine wpAnyH_take (i := 14) (oi := ⟨_, _, _, _, _, _⟩) (v := ?_) rfl (by kernel_rfl) (by kernel_rfl) (by kernel_rfl) (fun _ _ _ h => h) (Or.inl ⟨by rfl, ?_⟩) (by assumption) ?_
          rotate_left
          · intro w hSw
            try dsimp only at hSw
            go_simp
            try with_reducible rfl
          simp only [Act.put, List.setIfInBounds_toArray, List.set_cons_zero, List.set_cons_succ]
          refine wpAnyH_take (i := 19) (oi := ⟨_, _, _, _, _, _⟩) (v := ?_) rfl (by kernel_rfl) (by kernel_rfl) (by kernel_rfl) (fun _ _ _ h => h) (Or.inl ⟨by rfl, ?_⟩) (by assumption) ?_
          rotate_left
          · intro w hSw
            try dsimp only at hSw
            go_simp
            try with_reducible rfl
          simp only [Act.put, List.setIfInBounds_toArray, List.set_cons_zero, List.set_cons_succ]
          refine wpAnyH_take (i := 27) (oi := ⟨_, _, _, _, _, _⟩) (v := ?_) rfl (by kernel_rfl) (by kernel_rfl) (by kernel_rfl) (fun _ _ _ h => h) (Or.inl ⟨by rfl, ?_⟩) (by assumption) ?_
          rotate_left
          · intro w hSw
            try dsimp only at hSw
            go_simp
            try with_reducible rfl
          simp only [Act.put, List.setIfInBounds_toArray, List.set_cons_zero, List.set_cons_succ]
          refine wpAnyH_take (i := 28) (oi := ⟨_, _, _, _, _, _⟩) (v := ?_) rfl (by kernel_rfl) (by kernel_rfl) (by kernel_rfl) (fun _ _ _ h => h) (Or.inl ⟨by rfl, ?_⟩) (by assumption) ?_
          rotate_left
          · intro w hSw
            try dsimp only at hSw
            go_simp
            try with_reducible rfl
          simp only [Act.put, List.setIfInBounds_toArray, List.set_cons_zero, List.set_cons_succ]
          refine wpAnyH_take (i := 29) (oi := ⟨_, _, _, _, _, _⟩) (v := ?_) rfl (by kernel_rfl) (by kernel_rfl) (by kernel_rfl) (fun _ _ _ h => h) (Or.inl ⟨by rfl, ?_⟩) (by assumption) ?_
          rotate_left
          · intro w hSw
            try dsimp only at hSw
            go_simp
            try with_reducible rfl
          simp only [Act.put, List.setIfInBounds_toArray, List.set_cons_zero, List.set_cons_succ]
          refine wpAnyH_ready (rs := [9, 20]) (by kernel_rfl) (by simp) (AllReadyH.cons (o := ⟨_, _, _, _, _, _⟩) rfl (fun K hK => ?_) (AllReadyH.cons (o := ⟨_, _, _, _, _, _⟩) rfl (fun K hK => ?_) AllReadyH.nil))
          · go_simp
            obtain ⟨X9, hX, bX, kX, sX⟩ := alloc_step WD (.cells #[.slice (some ⟨gL, oL, none⟩) i cn, .slice L3 (n - (i + 1)) (cn - (i + 1))] 22)
            rw [hX]
            have hM := hHeld.2.2.out.then_below bX
            refine hK.out _ _ ⟨box3 ((hM.block (sz) (by omega) (by omega)).trans KA1.out), (World.cell?_of_block (hM.block gQ (by omega) (by omega))).trans ec, hid hM⟩ (fun hHeld => ?_)
            clear hK K
            have KO := hid (keep_blk KO.out bX)
            have K9 := hid kX
            clear hX bX kX sX
            try simp only [Act.put, List.setIfInBounds_toArray, List.set_cons_zero, List.set_cons_succ]
            refine wpAnyH_ready (rs := [10, 20]) (by kernel_rfl) (by simp) (AllReadyH.cons (o := ⟨_, _, _, _, _, _⟩) rfl (fun K hK => ?_) (AllReadyH.cons (o := ⟨_, _, _, _, _, _⟩) rfl (fun K hK => ?_) AllReadyH.nil))
            · go_simp
              refine (concat_any (box2 K9.out).1 (box2 K9.out).2 (hx1.out.mod hHeld.2.2.out fun g _ hg e => by omega) (hx2.out.mod hHeld.2.2.out fun g _ hg e => by omega) (by omega) (by omega)).mono ?_
              rintro r w10 ⟨⟨R10, c10, rfl, ho⟩, b⟩
              have hM := hHeld.2.2.out.then_below b
              have sM := hHeld.2.2.out.size
              refine hK.out _ _ ⟨box3 ((hM.block (sz) (by omega) (by omega)).trans KA1.out), (World.cell?_of_block (hM.block gQ (by omega) (by omega))).trans ec, hid hM⟩ (fun hHeld => ?_)
              clear hK K
              have KO := hid (keep_blk KO.out b)
              have K9 := hid (keep_blk K9.out b)
              have L10 := hid (ho.rd.mono (G := fun g => W2.heap.size ≤ g) fun g _ (hg : X9.heap.size ≤ g) => Nat.le_trans sM hg)
              clear ho b
              try simp only [Act.put, List.setIfInBounds_toArray, List.set_cons_zero, List.set_cons_succ]
              refine wpAnyH_ready (rs := [20]) (by kernel_rfl) (by simp) (AllReadyH.cons (o := ⟨_, _, _, _, _, _⟩) rfl (fun K hK => ?_) AllReadyH.nil)
              go_simp
              obtain ⟨X20, hX, bX, kX, sX⟩ := alloc_step w10 (.cells #[.slice (some ⟨gQ, oQ, none⟩) i cm, .slice Q3 (n - (i + 1)) (cm - (i + 1))] 22)
              rw [hX]
              have hM := hHeld.2.2.out.then_below bX
              refine hK.out _ _ ⟨box3 ((hM.block (sz) (by omega) (by omega)).trans KA1.out), (World.cell?_of_block (hM.block gQ (by omega) (by omega))).trans ec, hid hM⟩ (fun hHeld => ?_)
              clear hK K
              have KO := hid (keep_blk KO.out bX)
              have K9 := hid (keep_blk K9.out bX)
              have L10 := hid (L10.out.below bX)
              have K20 := hid kX
              clear hX bX kX sX
              try simp only [Act.put, List.setIfInBounds_toArray, List.set_cons_zero, List.set_cons_succ]
              refine wpAnyH_ready (rs := [21]) (by kernel_rfl) (by simp) (AllReadyH.cons (o := ⟨_, _, _, _, _, _⟩) rfl (fun K hK => ?_) AllReadyH.nil)
              go_simp
              refine (concat_any (box2 K20.out).1 (box2 K20.out).2 (hk1.out.mod hHeld.2.2.out fun g _ hg e => by omega) (hk2.out.mod hHeld.2.2.out fun g _ hg e => by omega) (by omega) (by omega)).mono ?_
              rintro r w21 ⟨⟨R21, c21, rfl, ho⟩, b⟩
              have hM := hHeld.2.2.out.then_below b
              have sM := hHeld.2.2.out.size
              refine hK.out _ _ ⟨box3 ((hM.block (sz) (by omega) (by omega)).trans KA1.out), (World.cell?_of_block (hM.block gQ (by omega) (by omega))).trans ec, hid hM⟩ (fun hHeld => ?_)
              clear hK K
              have KO := hid (keep_blk KO.out b)
              have K9 := hid (keep_blk K9.out b)
              have L10 := hid (L10.out.below b)
              have K20 := hid (keep_blk K20.out b)
              have L21 := hid (ho.rd.mono (G := fun g => W2.heap.size ≤ g) fun g _ (hg : X20.heap.size ≤ g) => Nat.le_trans sM hg)
              clear ho b
              try simp only [Act.put, List.setIfInBounds_toArray, List.set_cons_zero, List.set_cons_succ]
              refine wpAnyH_ready (rs := [30]) (by kernel_rfl) (by simp) (AllReadyH.cons (o := ⟨_, _, _, _, _, _⟩) rfl (fun K hK => ?_) AllReadyH.nil)
              go_simp
              have sM : W2.heap.size ≤ w21.heap.size := hHeld.2.2.out.size
              refine (norm_any L10.out L21.out HI1.out HI2.out HI3).mono ?_
              rintro r w30 ⟨⟨pv, rfl, hpv⟩, b⟩
              have hM := hHeld.2.2.out.then_below b
              rw [HR.out] at hpv ⊢
              obtain ⟨⟨A1, n1, c1, A2, n2, c2, rfl, r1, r2⟩, hb1⟩ := hpv
              refine hK.out _ _ ⟨box3 ((hM.block (sz) (by omega) (by omega)).trans KA1.out), (World.cell?_of_block (hM.block gQ (by omega) (by omega))).trans ec, hid hM⟩ (fun hHeld => ?_)
              clear hK K
              have KO := hid (keep_blk KO.out b)
              have R1 := hid (r1.mono (G := fun g => W2.heap.size ≤ g) fun g _ (hg : w21.heap.size ≤ g) => Nat.le_trans sM hg)
              have R2 := hid (r2.mono (G := fun g => W2.heap.size ≤ g) fun g _ (hg : w21.heap.size ≤ g) => Nat.le_trans sM hg)
              have Hb1 := hid hb1
              obtain ⟨t0, t1, t2⟩ := box3 KO.out
              obtain ⟨f0, f1, f2⟩ := froz3 KO.out
              clear r1 r2 hb1 b
              try simp only [Act.put, List.setIfInBounds_toArray, List.set_cons_zero, List.set_cons_succ]
              refine wpAnyH_take (i := 31) (oi := ⟨_, _, _, _, _, _⟩) (v := ?_) rfl (by kernel_rfl) (by kernel_rfl) (by kernel_rfl) (fun _ _ _ h => h) (Or.inl ⟨by rfl, ?_⟩) (by assumption) ?_
              rotate_left
              · intro w hSw
                try dsimp only at hSw
                go_simp
                try with_reducible rfl
              simp only [Act.put, List.setIfInBounds_toArray, List.set_cons_zero, List.set_cons_succ]
              refine wpAnyH_take (i := 32) (oi := ⟨_, _, _, _, _, _⟩) (v := ?_) rfl (by kernel_rfl) (by kernel_rfl) (by kernel_rfl) (fun _ _ _ h => h) (Or.inl ⟨by rfl, ?_⟩) (by assumption) ?_
              rotate_left
              · intro w hSw
                try dsimp only at hSw
                go_simp
                try with_reducible rfl
              simp only [Act.put, List.setIfInBounds_toArray, List.set_cons_zero, List.set_cons_succ]
              refine wpAnyH_ready (rs := [33]) (by kernel_rfl) (by simp) (AllReadyH.cons (o := ⟨_, _, _, _, _, _⟩) rfl (fun K hK => ?_) AllReadyH.nil)
              go_simp
              obtain ⟨u0, u1, u2, m3⟩ := set3 t0 t1 t2 (.slice A1 n1 c1) (.slice A2 n2 c2) (.int .i64 R.1.bound)
              have hM := hHeld.2.2.out.trans (m3.mono fun g _ hg => Or.inl hg)
              refine hK.out _ _ ⟨box3 ((hM.block (sz) (by omega) (by omega)).trans KA1.out), (World.cell?_of_block (hM.block gQ (by omega) (by omega))).trans ec, hid hM⟩ (fun hHeld => ?_)
              clear hK K
              try simp only [Act.put, List.setIfInBounds_toArray, List.set_cons_zero, List.set_cons_succ]
              refine wpAnyH_ready (rs := [34]) (by kernel_rfl) (by simp) (AllReadyH.cons (o := ⟨_, _, _, _, _, _⟩) rfl (fun K hK => ?_) AllReadyH.nil)
              go_simp
              refine hK.out _ _ hHeld (fun hHeld => ?_)
              clear hK K
              try simp only [Act.put, List.setIfInBounds_toArray, List.set_cons_zero, List.set_cons_succ]
              refine wpAnyH_done (by kernel_rfl) ?_ _
              go_wp2_with fail
              have hfin := below_mod B2.out (by omega) hHeld.2.2.out fun g hg => by omega
              refine bodyPost_ret (v := .tuple #[.agg #[.slice A1 n1 c1, .slice A2 n2 c2, .int .i64 R.1.bound], .int .i64 R.2]) (by simp [results, Tryd.f19, go_sem, u0, u1, u2]) rfl ⟨⟨_, rfl, ⟨A1, n1, c1, A2, n2, c2, rfl, ?_, ?_⟩, Hb1.out⟩, by rw [hsz]; exact hfin⟩
              · exact (R1.out.mod m3 fun g _ hf e => by omega).mono fun g _ hf => by omega
              · exact (R2.out.mod m3 fun g _ hf e => by omega).mono fun g _ hf => by omega
            · go_simp
              obtain ⟨X20, hX, bX, kX, sX⟩ := alloc_step X9 (.cells #[.slice (some ⟨gQ, oQ, none⟩) i cm, .slice Q3 (n - (i + 1)) (cm - (i + 1))] 22)
              rw [hX]
              have hM := hHeld.2.2.out.then_below bX
              refine hK.out _ _ ⟨box3 ((hM.block (sz) (by omega) (by omega)).trans KA1.out), (World.cell?_of_block (hM.block gQ (by omega) (by omega))).trans ec, hid hM⟩ (fun hHeld => ?_)
              clear hK K
              have KO := hid (keep_blk KO.out bX)
              have K9 := hid (keep_blk K9.out bX)
              have K20 := hid kX
              clear hX bX kX sX
              try simp only [Act.put, List.setIfInBounds_toArray, List.set_cons_zero, List.set_cons_succ]
              refine wpAnyH_ready (rs := [10]) (by kernel_rfl) (by simp) (AllReadyH.cons (o := ⟨_, _, _, _, _, _⟩) rfl (fun K hK => ?_) AllReadyH.nil)
              go_simp
              refine (concat_any (box2 K9.out).1 (box2 K9.out).2 (hx1.out.mod hHeld.2.2.out fun g _ hg e => by omega) (hx2.out.mod hHeld.2.2.out fun g _ hg e => by omega) (by omega) (by omega)).mono ?_
              rintro r w10 ⟨⟨R10, c10, rfl, ho⟩, b⟩
              have hM := hHeld.2.2.out.then_below b
              have sM := hHeld.2.2.out.size
              refine hK.out _ _ ⟨box3 ((hM.block (sz) (by omega) (by omega)).trans KA1.out), (World.cell?_of_block (hM.block gQ (by omega) (by omega))).trans ec, hid hM⟩ (fun hHeld => ?_)
              clear hK K
              have KO := hid (keep_blk KO.out b)
              have K9 := hid (keep_blk K9.out b)
              have K20 := hid (keep_blk K20.out b)
              have L10 := hid (ho.rd.mono (G := fun g => W2.heap.size ≤ g) fun g _ (hg : X20.heap.size ≤ g) => Nat.le_trans sM hg)
              clear ho b
              try simp only [Act.put, List.setIfInBounds_toArray, List.set_cons_zero, List.set_cons_succ]
              refine wpAnyH_ready (rs := [21]) (by kernel_rfl) (by simp) (AllReadyH.cons (o := ⟨_, _, _, _, _, _⟩) rfl (fun K hK => ?_) AllReadyH.nil)
              go_simp
              refine (concat_any (box2 K20.out).1 (box2 K20.out).2 (hk1.out.mod hHeld.2.2.out fun g _ hg e => by omega) (hk2.out.mod hHeld.2.2.out fun g _ hg e => by omega) (by omega) (by omega)).mono ?_
              rintro r w21 ⟨⟨R21, c21, rfl, ho⟩, b⟩
              have hM := hHeld.2.2.out.then_below b
              have sM := hHeld.2.2.out.size
              refine hK.out _ _ ⟨box3 ((hM.block (sz) (by omega) (by omega)).trans KA1.out), (World.cell?_of_block (hM.block gQ (by omega) (by omega))).trans ec, hid hM⟩ (fun hHeld => ?_)
              clear hK K
              have KO := hid (keep_blk KO.out b)
              have K9 := hid (keep_blk K9.out b)
              have K20 := hid (keep_blk K20.out b)
              have L10 := hid (L10.out.below b)
              have L21 := hid (ho.rd.mono (G := fun g => W2.heap.size ≤ g) fun g _ (hg : w10.heap.size ≤ g) => Nat.le_trans sM hg)
              clear ho b
              try simp only [Act.put, List.setIfInBounds_toArray, List.set_cons_zero, List.set_cons_succ]
              refine wpAnyH_ready (rs := [30]) (by kernel_rfl) (by simp) (AllReadyH.cons (o := ⟨_, _, _, _, _, _⟩) rfl (fun K hK => ?_) AllReadyH.nil)
              go_simp
              have sM : W2.heap.size ≤ w21.heap.size := hHeld.2.2.out.size
              refine (norm_any L10.out L21.out HI1.out HI2.out HI3).mono ?_
              rintro r w30 ⟨⟨pv, rfl, hpv⟩, b⟩
              have hM := hHeld.2.2.out.then_below b
              rw [HR.out] at hpv ⊢
              obtain ⟨⟨A1, n1, c1, A2, n2, c2, rfl, r1, r2⟩, hb1⟩ := hpv
              refine hK.out _ _ ⟨box3 ((hM.block (sz) (by omega) (by omega)).trans KA1.out), (World.cell?_of_block (hM.block gQ (by omega) (by omega))).trans ec, hid hM⟩ (fun hHeld => ?_)
              clear hK K
              have KO := hid (keep_blk KO.out b)
              have R1 := hid (r1.mono (G := fun g => W2.heap.size ≤ g) fun g _ (hg : w21.heap.size ≤ g) => Nat.le_trans sM hg)
              have R2 := hid (r2.mono (G := fun g => W2.heap.size ≤ g) fun g _ (hg : w21.heap.size ≤ g) => Nat.le_trans sM hg)
              have Hb1 := hid hb1
              obtain ⟨t0, t1, t2⟩ := box3 KO.out
              obtain ⟨f0, f1, f2⟩ := froz3 KO.out
              clear r1 r2 hb1 b
              try simp only [Act.put, List.setIfInBounds_toArray, List.set_cons_zero, List.set_cons_succ]
              refine wpAnyH_take (i := 31) (oi := ⟨_, _, _, _, _, _⟩) (v := ?_) rfl (by kernel_rfl) (by kernel_rfl) (by kernel_rfl) (fun _ _ _ h => h) (Or.inl ⟨by rfl, ?_⟩) (by assumption) ?_
              rotate_left
              · intro w hSw
                try dsimp only at hSw
                go_simp
                try with_reducible rfl
              simp only [Act.put, List.setIfInBounds_toArray, List.set_cons_zero, List.set_cons_succ]
              refine wpAnyH_take (i := 32) (oi := ⟨_, _, _, _, _, _⟩) (v := ?_) rfl (by kernel_rfl) (by kernel_rfl) (by kernel_rfl) (fun _ _ _ h => h) (Or.inl ⟨by rfl, ?_⟩) (by assumption) ?_
              rotate_left
              · intro w hSw
                try dsimp only at hSw
                go_simp
                try with_reducible rfl
              simp only [Act.put, List.setIfInBounds_toArray, List.set_cons_zero, List.set_cons_succ]
              refine wpAnyH_ready (rs := [33]) (by kernel_rfl) (by simp) (AllReadyH.cons (o := ⟨_, _, _, _, _, _⟩) rfl (fun K hK => ?_) AllReadyH.nil)
              go_simp
              obtain ⟨u0, u1, u2, m3⟩ := set3 t0 t1 t2 (.slice A1 n1 c1) (.slice A2 n2 c2) (.int .i64 R.1.bound)
              have hM := hHeld.2.2.out.trans (m3.mono fun g _ hg => Or.inl hg)
              refine hK.out _ _ ⟨box3 ((hM.block (sz) (by omega) (by omega)).trans KA1.out), (World.cell?_of_block (hM.block gQ (by omega) (by omega))).trans ec, hid hM⟩ (fun hHeld => ?_)
              clear hK K
              try simp only [Act.put, List.setIfInBounds_toArray, List.set_cons_zero, List.set_cons_succ]
              refine wpAnyH_ready (rs := [34]) (by kernel_rfl) (by simp) (AllReadyH.cons (o := ⟨_, _, _, _, _, _⟩) rfl (fun K hK => ?_) AllReadyH.nil)
              go_simp
              refine hK.out _ _ hHeld (fun hHeld => ?_)
              clear hK K
              try simp only [Act.put, List.setIfInBounds_toArray, List.set_cons_zero, List.set_cons_succ]
              refine wpAnyH_done (by kernel_rfl) ?_ _
              go_wp2_with fail
              have hfin := below_mod B2.out (by omega) hHeld.2.2.out fun g hg => by omega
              refine bodyPost_ret (v := .tuple #[.agg #[.slice A1 n1 c1, .slice A2 n2 c2, .int .i64 R.1.bound], .int .i64 R.2]) (by simp [results, Tryd.f19, go_sem, u0, u1, u2]) rfl ⟨⟨_, rfl, ⟨A1, n1, c1, A2, n2, c2, rfl, ?_, ?_⟩, Hb1.out⟩, by rw [hsz]; exact hfin⟩
              · exact (R1.out.mod m3 fun g _ hf e => by omega).mono fun g _ hf => by omega
              · exact (R2.out.mod m3 fun g _ hf e => by omega).mono fun g _ hf => by omega
          · go_simp
            obtain ⟨X20, hX, bX, kX, sX⟩ := alloc_step WD (.cells #[.slice (some ⟨gQ, oQ, none⟩) i cm, .slice Q3 (n - (i + 1)) (cm - (i + 1))] 22)
            rw [hX]
            have hM := hHeld.2.2.out.then_below bX
            refine hK.out _ _ ⟨box3 ((hM.block (sz) (by omega) (by omega)).trans KA1.out), (World.cell?_of_block (hM.block gQ (by omega) (by omega))).trans ec, hid hM⟩ (fun hHeld => ?_)
            clear hK K
            have KO := hid (keep_blk KO.out bX)
            have K20 := hid kX
            clear hX bX kX sX
            try simp only [Act.put, List.setIfInBounds_toArray, List.set_cons_zero, List.set_cons_succ]
            refine wpAnyH_ready (rs := [9]) (by kernel_rfl) (by simp) (AllReadyH.cons (o := ⟨_, _, _, _, _, _⟩) rfl (fun K hK => ?_) AllReadyH.nil)
            go_simp
            obtain ⟨X9, hX, bX, kX, sX⟩ := alloc_step X20 (.cells #[.slice (some ⟨gL, oL, none⟩) i cn, .slice L3 (n - (i + 1)) (cn - (i + 1))] 22)
            rw [hX]
            have hM := hHeld.2.2.out.then_below bX
            refine hK.out _ _ ⟨box3 ((hM.block (sz) (by omega) (by omega)).trans KA1.out), (World.cell?_of_block (hM.block gQ (by omega) (by omega))).trans ec, hid hM⟩ (fun hHeld => ?_)
            clear hK K
            have KO := hid (keep_blk KO.out bX)
            have K20 := hid (keep_blk K20.out bX)
            have K9 := hid kX
            clear hX bX kX sX
            try simp only [Act.put, List.setIfInBounds_toArray, List.set_cons_zero, List.set_cons_succ]
            refine wpAnyH_ready (rs := [10]) (by kernel_rfl) (by simp) (AllReadyH.cons (o := ⟨_, _, _, _, _, _⟩) rfl (fun K hK => ?_) AllReadyH.nil)
            go_simp
            refine (concat_any (box2 K9.out).1 (box2 K9.out).2 (hx1.out.mod hHeld.2.2.out fun g _ hg e => by omega) (hx2.out.mod hHeld.2.2.out fun g _ hg e => by omega) (by omega) (by omega)).mono ?_
            rintro r w10 ⟨⟨R10, c10, rfl, ho⟩, b⟩
            have hM := hHeld.2.2.out.then_below b
            have sM := hHeld.2.2.out.size
            refine hK.out _ _ ⟨box3 ((hM.block (sz) (by omega) (by omega)).trans KA1.out), (World.cell?_of_block (hM.block gQ (by omega) (by omega))).trans ec, hid hM⟩ (fun hHeld => ?_)
            clear hK K
            have KO := hid (keep_blk KO.out b)
            have K20 := hid (keep_blk K20.out b)
            have K9 := hid (keep_blk K9.out b)
            have L10 := hid (ho.rd.mono (G := fun g => W2.heap.size ≤ g) fun g _ (hg : X9.heap.size ≤ g) => Nat.le_trans sM hg)
            clear ho b
            try simp only [Act.put, List.setIfInBounds_toArray, List.set_cons_zero, List.set_cons_succ]
            refine wpAnyH_ready (rs := [21]) (by kernel_rfl) (by simp) (AllReadyH.cons (o := ⟨_, _, _, _, _, _⟩) rfl (fun K hK => ?_) AllReadyH.nil)
            go_simp
            refine (concat_any (box2 K20.out).1 (box2 K20.out).2 (hk1.out.mod hHeld.2.2.out fun g _ hg e => by omega) (hk2.out.mod hHeld.2.2.out fun g _ hg e => by omega) (by omega) (by omega)).mono ?_
            rintro r w21 ⟨⟨R21, c21, rfl, ho⟩, b⟩
            have hM := hHeld.2.2.out.then_below b
            have sM := hHeld.2.2.out.size
            refine hK.out _ _ ⟨box3 ((hM.block (sz) (by omega) (by omega)).trans KA1.out), (World.cell?_of_block (hM.block gQ (by omega) (by omega))).trans ec, hid hM⟩ (fun hHeld => ?_)
            clear hK K
            have KO := hid (keep_blk KO.out b)
            have K20 := hid (keep_blk K20.out b)
            have K9 := hid (keep_blk K9.out b)
            have L10 := hid (L10.out.below b)
            have L21 := hid (ho.rd.mono (G := fun g => W2.heap.size ≤ g) fun g _ (hg : w10.heap.size ≤ g) => Nat.le_trans sM hg)
            clear ho b
            try simp only [Act.put, List.setIfInBounds_toArray, List.set_cons_zero, List.set_cons_succ]
            refine wpAnyH_ready (rs := [30]) (by kernel_rfl) (by simp) (AllReadyH.cons (o := ⟨_, _, _, _, _, _⟩) rfl (fun K hK => ?_) AllReadyH.nil)
            go_simp
            have sM : W2.heap.size ≤ w21.heap.size := hHeld.2.2.out.size
            refine (norm_any L10.out L21.out HI1.out HI2.out HI3).mono ?_
            rintro r w30 ⟨⟨pv, rfl, hpv⟩, b⟩
            have hM := hHeld.2.2.out.then_below b
            rw [HR.out] at hpv ⊢
            obtain ⟨⟨A1, n1, c1, A2, n2, c2, rfl, r1, r2⟩, hb1⟩ := hpv
            refine hK.out _ _ ⟨box3 ((hM.block (sz) (by omega) (by omega)).trans KA1.out), (World.cell?_of_block (hM.block gQ (by omega) (by omega))).trans ec, hid hM⟩ (fun hHeld => ?_)
            clear hK K
            have KO := hid (keep_blk KO.out b)
            have R1 := hid (r1.mono (G := fun g => W2.heap.size ≤ g) fun g _ (hg : w21.heap.size ≤ g) => Nat.le_trans sM hg)
            have R2 := hid (r2.mono (G := fun g => W2.heap.size ≤ g) fun g _ (hg : w21.heap.size ≤ g) => Nat.le_trans sM hg)
            have Hb1 := hid hb1
            obtain ⟨t0, t1, t2⟩ := box3 KO.out
            obtain ⟨f0, f1, f2⟩ := froz3 KO.out
            clear r1 r2 hb1 b
            try simp only [Act.put, List.setIfInBounds_toArray, List.set_cons_zero, List.set_cons_succ]
            refine wpAnyH_take (i := 31) (oi := ⟨_, _, _, _, _, _⟩) (v := ?_) rfl (by kernel_rfl) (by kernel_rfl) (by kernel_rfl) (fun _ _ _ h => h) (Or.inl ⟨by rfl, ?_⟩) (by assumption) ?_
            rotate_left
            · intro w hSw
              try dsimp only at hSw
              go_simp
              try with_reducible rfl
            simp only [Act.put, List.setIfInBounds_toArray, List.set_cons_zero, List.set_cons_succ]
            refine wpAnyH_take (i := 32) (oi := ⟨_, _, _, _, _, _⟩) (v := ?_) rfl (by kernel_rfl) (by kernel_rfl) (by kernel_rfl) (fun _ _ _ h => h) (Or.inl ⟨by rfl, ?_⟩) (by assumption) ?_
            rotate_left
            · intro w hSw
              try dsimp only at hSw
              go_simp
              try with_reducible rfl
            simp only [Act.put, List.setIfInBounds_toArray, List.set_cons_zero, List.set_cons_succ]
            refine wpAnyH_ready (rs := [33]) (by kernel_rfl) (by simp) (AllReadyH.cons (o := ⟨_, _, _, _, _, _⟩) rfl (fun K hK => ?_) AllReadyH.nil)
            go_simp
            obtain ⟨u0, u1, u2, m3⟩ := set3 t0 t1 t2 (.slice A1 n1 c1) (.slice A2 n2 c2) (.int .i64 R.1.bound)
            have hM := hHeld.2.2.out.trans (m3.mono fun g _ hg => Or.inl hg)
            refine hK.out _ _ ⟨box3 ((hM.block (sz) (by omega) (by omega)).trans KA1.out), (World.cell?_of_block (hM.block gQ (by omega) (by omega))).trans ec, hid hM⟩ (fun hHeld => ?_)
            clear hK K
            try simp only [Act.put, List.setIfInBounds_toArray, List.set_cons_zero, List.set_cons_succ]
            refine wpAnyH_ready (rs := [34]) (by kernel_rfl) (by simp) (AllReadyH.cons (o := ⟨_, _, _, _, _, _⟩) rfl (fun K hK => ?_) AllReadyH.nil)
            go_simp
            refine hK.out _ _ hHeld (fun hHeld => ?_)
            clear hK K
            try simp only [Act.put, List.setIfInBounds_toArray, List.set_cons_zero, List.set_cons_succ]
            refine wpAnyH_done (by kernel_rfl) ?_ _
            go_wp2_with fail
            have hfin := below_mod B2.out (by omega) hHeld.2.2.out fun g hg => by omega
            refine bodyPost_ret (v := .tuple #[.agg #[.slice A1 n1 c1, .slice A2 n2 c2, .int .i64 R.1.bound], .int .i64 R.2]) (by simp [results, Tryd.f19, go_sem, u0, u1, u2]) rfl ⟨⟨_, rfl, ⟨A1, n1, c1, A2, n2, c2, rfl, ?_, ?_⟩, Hb1.out⟩, by rw [hsz]; exact hfin⟩
            · exact (R1.out.mod m3 fun g _ hf e => by omega).mono fun g _ hf => by omega
            · exact (R2.out.mod m3 fun g _ hf e => by omega).mono fun g _ hf => by omega
        · have hp := HPos.out
          rw [if_neg hlt] at hp
          rw [hp]
          have hR2 := HR1.out
          rw [if_neg hlt] at hR2
          have hR3 := Hag.out
          rw [← hR2] at hR3
          have HR := hid hR3
          clear hp hR2 hR3 HPos HR1 Hag hco hA Ha Hx Hk HR0
          go_wp2_with fail
          refine (norm_any hx0.out hk0.out HI4.out HI5.out (by unfold I64; omega)).mono ?_
          rintro r W4 ⟨⟨pv, rfl, hpv⟩, b3⟩
          rw [HR.out] at hpv ⊢
          obtain ⟨⟨A1, n1, c1, A2, n2, c2, rfl, r1, r2⟩, hb1⟩ := hpv
          have KO3 := hid (keep_blk KO2.out b3)
          have B3 := hid (B2.out.trans (b3.mono (by omega)))
          have s3 := b3.size
          have R1 := hid r1
          have R2 := hid r2
          have Hb1 := hid hb1
          clear r1 r2 hb1 b3 a0 a1 a2
          obtain ⟨t0, t1, t2⟩ := box3 KO3.out
          obtain ⟨f0, f1, f2⟩ := froz3 KO3.out
          go_wp2_with fail
          obtain ⟨u0, u1, u2, m3⟩ := set3 t0 t1 t2 (.slice A1 n1 c1) (.slice A2 n2 c2) (.int .i64 R.1.bound)
          refine bodyPost_ret (v := .tuple #[.agg #[.slice A1 n1 c1, .slice A2 n2 c2, .int .i64 R.1.bound], .int .i64 R.2]) (by simp [results, Tryd.f19, go_sem, u0, u1, u2]) rfl ⟨⟨_, rfl, ⟨A1, n1, c1, A2, n2, c2, rfl, ?_, ?_⟩, Hb1.out⟩, by rw [hsz]; exact below_mod B3.out (by omega) m3 fun g hg => by omega⟩
          · exact (R1.out.mod m3 fun g _ hf e => by omega).mono fun g _ hf => by omega
          · exact (R2.out.mod m3 fun g _ hf e => by omega).mono fun g _ hf => by omega
  · have hf : a.ok = false := by simpa using hok
    rw [hf]
    obtain rfl : R = (⟨[], [], 0⟩, 2) := by rw [← HR0.out]; unfold Pb.weakB; rw [if_pos (by simp [hok])]; rfl
    obtain ⟨t0, t1, t2⟩ := box3 KO2.out
    obtain ⟨f0, f1, f2⟩ := froz3 KO2.out
    clear HR0 hf hok hbd
    go_wp2_with fail
    obtain ⟨u0, u1, u2, m3⟩ := set3 t0 t1 t2 (.slice none 0 0) (.slice none 0 0) (.int .i64 0)
    exact bodyPost_ret (v := .tuple #[.agg #[.slice none 0 0, .slice none 0 0, .int .i64 0], .int .i64 2]) (by simp [results, Tryd.f19, go_sem, u0, u1, u2]) rfl ⟨⟨_, rfl, PbRd.zero _ _⟩, by rw [hsz]; exact below_mod B2.out (by omega) m3 fun g hg => by omega⟩
end
end Go.Proofs.YtooioikkgdgnnaaDoor
