/-
  Chapter 25: several texts in one (merge.py: CvA CvB CvC).
-/
import Derived.Test.YtooioikkgdgnnaaDoorCuE
import Derived.Test.YtooioikkgdgnnaaDoorRfG
import Derived.Test.YtooioikkgdgnnaaDoorRfA
namespace Go.Proofs.YtooioikkgdgnnaaDoor
section
open Go.RowKit

theorem upN_two {n k : Int} (hk : 1 ≤ k) : (if n / k * k < n then n / k + 1 else n / k) = upN n k := by
  have h1 := Int.emod_add_mul_ediv n k
  have h2 := Int.emod_nonneg n (show k ≠ 0 by omega)
  have h3 := Int.emod_lt_of_pos n (show 0 < k by omega)
  have h4 : n / k * k = k * (n / k) := Int.mul_comm _ _
  split
  · have h5 : upN n k ≤ n / k + 1 := (upN_le hk).2 (by rw [Int.add_mul]; omega)
    have h6 : ¬ upN n k ≤ n / k := fun h => by have := (upN_le hk).1 h; omega
    omega
  · have h5 : upN n k ≤ n / k := (upN_le hk).2 (by omega)
    have h6 : ¬ upN n k ≤ n / k - 1 := fun h => by have := (upN_le hk).1 h; rw [Int.sub_mul] at this; omega
    omega
theorem rup_any {w : World} {n k : Int} (hn : 0 ≤ n ∧ n ≤ 16777216) (hk : 1 ≤ k ∧ k ≤ 16777216) :
    Calls Tryd.prog 43 #[.int .i64 n, .int .i64 k] w fun r w' => r = .returned (.int .i64 (upN n k)) ∧ w = w' := by
  have h3 : ¬ k = 0 := by omega
  obtain ⟨q, hq⟩ : ∃ q, n / k = q := ⟨_, rfl⟩
  have hq0 : 0 ≤ q := by rw [← hq]; exact Int.ediv_nonneg hn.1 (by omega)
  have hq1 : q ≤ n := by rw [← hq]; exact Int.ediv_le_self _ hn.1
  have h5 : Int.tdiv n k = q := by rw [Int.tdiv_eq_ediv_of_nonneg hn.1]; exact hq
  have h4 : IntKind.i64.wrap q = q := iw' (by omega) (by omega)
  have hu := upN_two (n := n) hk.1
  rw [hq] at hu
  have h6 : 0 ≤ q * k := Int.mul_nonneg hq0 (by omega)
  have h7 : q * k ≤ n := by rw [← hq]; exact Int.ediv_mul_le n (by omega)
  have h8 : IntKind.i64.wrap (q * k) = q * k := iw' (by omega) (by omega)
  have h9 : IntKind.i64.wrap (q + 1) = q + 1 := iw' (by omega) (by omega)
  have h10 : n / k = q := hq
  rw [← hu]
  clear hu hq
  go_enter Tryd.func43, Tryd.ntmps43
  by_cases e : q * k < n
  · rw [if_pos e]
    go_wp2_with fail
    go_ret
    simp
  · rw [if_neg e]
    go_wp2_with fail
    go_ret
    simp

set_option maxRecDepth 100000 in
set_option maxHeartbeats 4000000 in
theorem rmul_any {w : World} {F : Nat → Prop} {va : Value} {a : Pb} {k : Int} (ha : PbRd w F va a) (hia : ∀ k ∈ a.coefs, I64 k) (h16 : a.lits.length ≤ 65536) :
    Calls Tryd.prog 16 #[va, .int .i64 k] w fun r w' => Gives w w' r (a.mulB k) := by
  obtain ⟨R, hR⟩ : ∃ R, a.mulB k = R := ⟨_, rfl⟩
  rw [hR]
  have HR0 := hid hR
  clear hR
  have Ha := hid ha
  obtain ⟨⟨L, n, cn, Q, m, cm, rfl, hx, hk⟩, hbd⟩ := ha
  obtain ⟨bd, hbd3⟩ : ∃ b, a.bound = b := ⟨_, rfl⟩
  rw [hbd3] at Ha ⊢
  obtain ⟨X0, hX0, bX0, k0, s0⟩ := alloc_step w (.cells #[.slice L n cn, .slice Q m cm, .int .i64 bd] 24)
  obtain ⟨X2, hX2, bX2, k2, s2⟩ := alloc_step X0 (.cells #[.slice none 0 0, .slice none 0 0, .int .i64 0] 24)
  have hB2 : Below w.heap.size w X2 := bX0.trans (bX2.mono bX0.size)
  have KA := hid (keep_blk k0 bX2)
  have KO := hid k2
  have HB2 := hid hB2
  have HX := hid hX0
  have HX2 := hid hX2
  rw [s0] at KO
  rw [s0] at s2
  have Hx := hid hx
  have Hk := hid hk
  have Hbd3 := hid hbd3
  clear k0 k2 bX0 bX2 s0 hX0 hX2 hB2 hx hk hbd3
  go_enter Tryd.func16, Tryd.ntmps16
  go_wp2_with fail
  rw [HX.out, HX2.out]
  clear HX HX2
  obtain ⟨sz, hsz⟩ : ∃ s, w.heap.size = s := ⟨_, rfl⟩
  rw [hsz] at KA KO HB2 s2
  rw [hsz]
  refine (rvalid_any (Ha.out.below (hsz ▸ HB2.out)) hia h16).mono ?_
  rintro r W2 ⟨rfl, bv⟩
  have KA1 := hid (keep_blk KA.out bv)
  have KO2 := hid (keep_blk KO.out bv)
  have B2 := hid (HB2.out.trans (bv.mono (by omega)))
  have sv := bv.size
  clear KA KO bv HB2
  obtain ⟨a0, a1, a2⟩ := box3 KA1.out
  by_cases hok : a.ok = true
  · rw [hok]
    by_cases h1 : k < 1
    · have h1' : ¬ (1 ≤ k) := by omega
      obtain rfl : R = (⟨[], [], 0⟩, 2) := by rw [← HR0.out]; unfold Pb.mulB; rw [if_pos (by simp [h1'])]; rfl
      obtain ⟨t0, t1, t2⟩ := box3 KO2.out
      obtain ⟨f0, f1, f2⟩ := froz3 KO2.out
      clear HR0 hok hbd
      go_wp2_with fail
      obtain ⟨u0, u1, u2, m3⟩ := set3 t0 t1 t2 (.slice none 0 0) (.slice none 0 0) (.int .i64 0)
      exact bodyPost_ret (v := .tuple #[.agg #[.slice none 0 0, .slice none 0 0, .int .i64 0], .int .i64 2]) (by simp [results, Tryd.f16, go_sem, u0, u1, u2]) rfl ⟨⟨_, rfl, PbRd.zero _ _⟩, by rw [hsz]; exact below_mod B2.out (by omega) m3 fun g hg => by omega⟩
    · by_cases h2 : 16777216 < k
      · have h2' : ¬ (k ≤ 16777216) := by omega
        have h2g : k > 16777216 := h2
        obtain rfl : R = (⟨[], [], 0⟩, 2) := by rw [← HR0.out]; unfold Pb.mulB; rw [if_pos (by simp [h2'])]; rfl
        obtain ⟨t0, t1, t2⟩ := box3 KO2.out
        obtain ⟨f0, f1, f2⟩ := froz3 KO2.out
        clear HR0 hok hbd
        go_wp2_with fail
        obtain ⟨u0, u1, u2, m3⟩ := set3 t0 t1 t2 (.slice none 0 0) (.slice none 0 0) (.int .i64 0)
        exact bodyPost_ret (v := .tuple #[.agg #[.slice none 0 0, .slice none 0 0, .int .i64 0], .int .i64 2]) (by simp [results, Tryd.f16, go_sem, u0, u1, u2]) rfl ⟨⟨_, rfl, PbRd.zero _ _⟩, by rw [hsz]; exact below_mod B2.out (by omega) m3 fun g hg => by omega⟩
      · have h3 : 1 ≤ k ∧ k ≤ 16777216 := by omega
        have hA := (Pb.ok_iff a).1 hok
        obtain rfl : n = m := by have h1 := hA.len; have h2 := Hx.out.1; have h3 := Hk.out.1; simp [ints_length] at h2 h3; omega
        have hn : n ≤ 65536 := by have h1 := hA.few; have h2 := Hx.out.1; simp [ints_length] at h2; omega
        have hbr := hA.low
        have hbr2 := hA.high
        rw [Hbd3.out] at hbr hbr2
        have hxl : a.lits.length = n := by have := Hx.out.1; simpa [ints_length] using this
        have hkl : a.coefs.length = n := by have := Hk.out.1; simpa [ints_length] using this
        have hx0 := hid ((Hx.out.mono (G := fun g => g < sz) fun g hg _ => by omega).below (hsz ▸ B2.out))
        have hk0 := hid ((Hk.out.mono (G := fun g => g < sz) fun g hg _ => by omega).below (hsz ▸ B2.out))
        have Hl := hid hA.i64l
        have Hc := hid hA.i64
        have Hco := hid hA.coef
        have Hxl := hid hxl
        have Hkl := hid hkl
        have hp : 0 ≤ bd * k := Int.mul_nonneg hbr (by omega)
        have hq : bd * k ≤ 16777216 * 16777216 := Int.mul_le_mul hbr2 h3.2 (by omega) (by omega)
        have hw : IntKind.i64.wrap (bd * k) = bd * k := iw' (by omega) (by omega)
        by_cases h4 : 16777216 < bd * k
        · have h4g : bd * k > 16777216 := h4
          obtain rfl : R = (⟨[], [], 0⟩, 3) := by rw [← HR0.out]; unfold Pb.mulB; rw [if_neg (by simp [hok, h3.1, h3.2]), Hbd3.out, if_pos h4]
          obtain ⟨t0, t1, t2⟩ := box3 KO2.out
          obtain ⟨f0, f1, f2⟩ := froz3 KO2.out
          clear HR0 hok hbd hA
          go_wp2_with fail
          obtain ⟨u0, u1, u2, m3⟩ := set3 t0 t1 t2 (.slice none 0 0) (.slice none 0 0) (.int .i64 0)
          exact bodyPost_ret (v := .tuple #[.agg #[.slice none 0 0, .slice none 0 0, .int .i64 0], .int .i64 3]) (by simp [results, Tryd.f16, go_sem, u0, u1, u2]) rfl ⟨⟨_, rfl, PbRd.zero _ _⟩, by rw [hsz]; exact below_mod B2.out (by omega) m3 fun g hg => by omega⟩
        · have hR0 := mulB_is hA h3.1 h3.2 (by rw [Hbd3.out]; omega)
          rw [HR0.out, Hbd3.out] at hR0
          have HR := hid hR0.symm
          clear hR0 hok hA Hx Hk HR0 hia hbd hxl hkl Ha
          go_wp2_with fail
          go_loopw [7, 6] (fun iv ov W => ∃ (i : Nat) (A : Option Addr) (cc : Nat), i ≤ n ∧ iv = .int .i64 i ∧ ov = .slice A i cc ∧ Hid (Own W (fun g => W2.heap.size ≤ g) 3 1 (.slice A i cc) i (ints ((a.coefs.take i).map fun x => x * k))) ∧ Hid (Below W2.heap.size W2 W)) (fun iv _ _ => n - (intOf iv).toNat)
          case atStart => exact ⟨0, none, 0, by omega, rfl, rfl, by simp only [List.take_zero, List.map_nil]; exact Own.nil _ _ _ _, Below.refl _ _⟩
          case round =>
            obtain ⟨i, A, cc, hi, rfl, rfl, Ho, HB⟩ := hrel
            have sw := HB.out.size
            have kaw := hid (keep_blk KA1.out HB.out)
            have kow := hid (keep_blk KO2.out HB.out)
            obtain ⟨a0, a1, a2⟩ := box3 kaw.out
            by_cases hlt : i < n
            · have x1 : (i : Int) < (n : Int) := by omega
              obtain ⟨gQ, oQ, rfl, hgQ, hgQ2, ec⟩ := (hk0.out.below HB.out).cell.2 i hlt
              obtain ⟨x, hx⟩ : ∃ x, nth a.coefs i = x := ⟨_, rfl⟩
              have hco := Hco.out i (by rw [Hxl.out]; exact hlt)
              rw [hx, Hbd3.out] at hco
              rw [hx] at ec
              have hnx : (a.coefs.take (i + 1)).map (fun x => x * k) = (a.coefs.take i).map (fun x => x * k) ++ [x * k] := by rw [take_nth (by rw [Hkl.out]; exact hlt), List.map_append, hx]; rfl
              have Hnx := hid hnx
              clear hnx hx
              have hxk1 : 0 ≤ x * k := Int.mul_nonneg (by omega) (by omega)
              have hxk2 : x * k ≤ bd * k := Int.mul_le_mul_of_nonneg_right hco.2 (by omega)
              have hwx : IntKind.i64.wrap (x * k) = x * k := iw' (by omega) (by omega)
              go_wp2_with (at_builtin; refine wpList_append_ints rfl _ _ rfl (Ho.out.below ((Below.refl _ _).alloc (Nat.le_refl _) _)) (own_one wr (.int .i64 (x * k))).rd rfl rfl (by simp [Value.oneCell']) (by omega) fun A3 c3 w3 ho3 m3 hr3 => ?_)
              have Ho3 := hid ho3
              have B4 := hid (below_mod (HB.out.trans (((Below.refl _ _).alloc (Nat.le_refl _) _).mono sw)) (by rw [World.size_alloc]; omega) m3 fun g hg => (Ho.out.row hg).1)
              clear ho3 m3 hr3
              go_wp2_with fail
              go_roundw
              case rel =>
                refine ⟨i + 1, A3, c3, by omega, by go_num, rfl, ?_, B4⟩
                rw [Hnx.out, ints_append]
                exact hid (Ho3.out.mono fun g hg _ h => h.elim id fun h => by rw [World.size_alloc] at h; omega)
              case measure => simp [intOf]; omega
            · have hin : i = n := by omega
              have x1 : ¬ ((i : Int) < (n : Int)) := by omega
              have hr5 := hid Ho.out.rd
              have htk : a.coefs.take i = a.coefs := by rw [hin, ← Hkl.out, List.take_length]
              rw [htk] at hr5
              clear htk
              have BW := hid (B2.out.trans (HB.out.mono (by omega)))
              have lit5 := hid (hx0.out.below HB.out)
              clear Ho hin 
              have hI2 : ∀ y ∈ a.coefs.map (fun x => x * k), I64 y := fun y hy => by
                obtain ⟨x, hx, rfl⟩ := List.mem_map.1 hy
                obtain ⟨j, hj, rfl⟩ := nth_of_mem hx
                have h5 := Hco.out j (by rw [Hxl.out, ← Hkl.out]; exact hj)
                rw [Hbd3.out] at h5
                have h6 : 0 ≤ nth a.coefs j * k := Int.mul_nonneg (by omega) (by omega)
                have h7 : nth a.coefs j * k ≤ bd * k := Int.mul_le_mul_of_nonneg_right h5.2 (by omega)
                unfold I64
                omega
              have HI2 := hid hI2
              clear hI2
              go_wp2_with fail
              refine (rnorm_any lit5.out hr5.out Hl.out HI2.out (by unfold I64; omega)).mono ?_
              rintro r W3 ⟨⟨pv, rfl, hpv⟩, b3⟩
              rw [HR.out] at hpv ⊢
              obtain ⟨⟨A1, n1, c1, A2, n2, c2, rfl, r1, r2⟩, hb1⟩ := hpv
              have KO3 := hid (keep_blk kow.out b3)
              have B3 := hid (BW.out.trans (b3.mono (by omega)))
              have s3 := b3.size
              have R1 := hid r1
              have R2 := hid r2
              have Hb1 := hid hb1
              clear r1 r2 hb1 b3
              obtain ⟨t0, t1, t2⟩ := box3 KO3.out
              obtain ⟨f0, f1, f2⟩ := froz3 KO3.out
              go_wp2_with fail
              obtain ⟨u0, u1, u2, m3⟩ := set3 t0 t1 t2 (.slice A1 n1 c1) (.slice A2 n2 c2) (.int .i64 R.1.bound)
              refine bodyPost_ret (v := .tuple #[.agg #[.slice A1 n1 c1, .slice A2 n2 c2, .int .i64 R.1.bound], .int .i64 R.2]) (by simp [results, Tryd.f16, go_sem, u0, u1, u2]) rfl ⟨⟨_, rfl, ⟨A1, n1, c1, A2, n2, c2, rfl, ?_, ?_⟩, Hb1.out⟩, by rw [hsz]; exact below_mod B3.out (by omega) m3 fun g hg => by omega⟩
              · exact (R1.out.mod m3 fun g _ hf e => by omega).mono fun g _ hf => by omega
              · exact (R2.out.mod m3 fun g _ hf e => by omega).mono fun g _ hf => by omega
  · have hf : a.ok = false := by simpa using hok
    rw [hf]
    obtain rfl : R = (⟨[], [], 0⟩, 2) := by rw [← HR0.out]; unfold Pb.mulB; rw [if_pos (by simp [hok])]; rfl
    obtain ⟨t0, t1, t2⟩ := box3 KO2.out
    obtain ⟨f0, f1, f2⟩ := froz3 KO2.out
    clear HR0 hf hok hbd
    go_wp2_with fail
    obtain ⟨u0, u1, u2, m3⟩ := set3 t0 t1 t2 (.slice none 0 0) (.slice none 0 0) (.int .i64 0)
    exact bodyPost_ret (v := .tuple #[.agg #[.slice none 0 0, .slice none 0 0, .int .i64 0], .int .i64 2]) (by simp [results, Tryd.f16, go_sem, u0, u1, u2]) rfl ⟨⟨_, rfl, PbRd.zero _ _⟩, by rw [hsz]; exact below_mod B2.out (by omega) m3 fun g hg => by omega⟩

set_option maxRecDepth 100000 in
set_option maxHeartbeats 4000000 in
theorem rdiv_any {w : World} {F : Nat → Prop} {va : Value} {a : Pb} {k : Int} (ha : PbRd w F va a) (hia : ∀ k ∈ a.coefs, I64 k) (h16 : a.lits.length ≤ 65536) :
    Calls Tryd.prog 18 #[va, .int .i64 k] w fun r w' => Gives w w' r (a.divB k) := by
  obtain ⟨R, hR⟩ : ∃ R, a.divB k = R := ⟨_, rfl⟩
  rw [hR]
  have HR0 := hid hR
  clear hR
  have Ha := hid ha
  obtain ⟨⟨L, n, cn, Q, m, cm, rfl, hx, hk⟩, hbd⟩ := ha
  obtain ⟨bd, hbd3⟩ : ∃ b, a.bound = b := ⟨_, rfl⟩
  rw [hbd3] at Ha ⊢
  obtain ⟨X0, hX0, bX0, k0, s0⟩ := alloc_step w (.cells #[.slice L n cn, .slice Q m cm, .int .i64 bd] 24)
  obtain ⟨X2, hX2, bX2, k2, s2⟩ := alloc_step X0 (.cells #[.slice none 0 0, .slice none 0 0, .int .i64 0] 24)
  have hB2 : Below w.heap.size w X2 := bX0.trans (bX2.mono bX0.size)
  have KA := hid (keep_blk k0 bX2)
  have KO := hid k2
  have HB2 := hid hB2
  have HX := hid hX0
  have HX2 := hid hX2
  rw [s0] at KO
  rw [s0] at s2
  have Hx := hid hx
  have Hk := hid hk
  have Hbd3 := hid hbd3
  clear k0 k2 bX0 bX2 s0 hX0 hX2 hB2 hx hk hbd3
  go_enter Tryd.func18, Tryd.ntmps18
  go_wp2_with fail
  rw [HX.out, HX2.out]
  clear HX HX2
  obtain ⟨sz, hsz⟩ : ∃ s, w.heap.size = s := ⟨_, rfl⟩
  rw [hsz] at KA KO HB2 s2
  rw [hsz]
  refine (rvalid_any (Ha.out.below (hsz ▸ HB2.out)) hia h16).mono ?_
  rintro r W2 ⟨rfl, bv⟩
  have KA1 := hid (keep_blk KA.out bv)
  have KO2 := hid (keep_blk KO.out bv)
  have B2 := hid (HB2.out.trans (bv.mono (by omega)))
  have sv := bv.size
  clear KA KO bv HB2
  obtain ⟨a0, a1, a2⟩ := box3 KA1.out
  by_cases hok : a.ok = true
  · rw [hok]
    by_cases h1 : k < 1
    · have h1' : ¬ (1 ≤ k) := by omega
      obtain rfl : R = (⟨[], [], 0⟩, 2) := by rw [← HR0.out]; unfold Pb.divB; rw [if_pos (by simp [h1'])]; rfl
      obtain ⟨t0, t1, t2⟩ := box3 KO2.out
      obtain ⟨f0, f1, f2⟩ := froz3 KO2.out
      clear HR0 hok hbd
      go_wp2_with fail
      obtain ⟨u0, u1, u2, m3⟩ := set3 t0 t1 t2 (.slice none 0 0) (.slice none 0 0) (.int .i64 0)
      exact bodyPost_ret (v := .tuple #[.agg #[.slice none 0 0, .slice none 0 0, .int .i64 0], .int .i64 2]) (by simp [results, Tryd.f18, go_sem, u0, u1, u2]) rfl ⟨⟨_, rfl, PbRd.zero _ _⟩, by rw [hsz]; exact below_mod B2.out (by omega) m3 fun g hg => by omega⟩
    · by_cases h2 : 16777216 < k
      · have h2' : ¬ (k ≤ 16777216) := by omega
        have h2g : k > 16777216 := h2
        obtain rfl : R = (⟨[], [], 0⟩, 2) := by rw [← HR0.out]; unfold Pb.divB; rw [if_pos (by simp [h2'])]; rfl
        obtain ⟨t0, t1, t2⟩ := box3 KO2.out
        obtain ⟨f0, f1, f2⟩ := froz3 KO2.out
        clear HR0 hok hbd
        go_wp2_with fail
        obtain ⟨u0, u1, u2, m3⟩ := set3 t0 t1 t2 (.slice none 0 0) (.slice none 0 0) (.int .i64 0)
        exact bodyPost_ret (v := .tuple #[.agg #[.slice none 0 0, .slice none 0 0, .int .i64 0], .int .i64 2]) (by simp [results, Tryd.f18, go_sem, u0, u1, u2]) rfl ⟨⟨_, rfl, PbRd.zero _ _⟩, by rw [hsz]; exact below_mod B2.out (by omega) m3 fun g hg => by omega⟩
      · have h3 : 1 ≤ k ∧ k ≤ 16777216 := by omega
        have hA := (Pb.ok_iff a).1 hok
        obtain rfl : n = m := by have h1 := hA.len; have h2 := Hx.out.1; have h3 := Hk.out.1; simp [ints_length] at h2 h3; omega
        have hn : n ≤ 65536 := by have h1 := hA.few; have h2 := Hx.out.1; simp [ints_length] at h2; omega
        have hbr := hA.low
        have hbr2 := hA.high
        rw [Hbd3.out] at hbr hbr2
        have hxl : a.lits.length = n := by have := Hx.out.1; simpa [ints_length] using this
        have hkl : a.coefs.length = n := by have := Hk.out.1; simpa [ints_length] using this
        have hx0 := hid ((Hx.out.mono (G := fun g => g < sz) fun g hg _ => by omega).below (hsz ▸ B2.out))
        have hk0 := hid ((Hk.out.mono (G := fun g => g < sz) fun g hg _ => by omega).below (hsz ▸ B2.out))
        have Hl := hid hA.i64l
        have Hc := hid hA.i64
        have Hco := hid hA.coef
        have Hxl := hid hxl
        have Hkl := hid hkl
        have hR0 := divB_is hA h3.1 h3.2
        rw [HR0.out, Hbd3.out] at hR0
        have HR := hid hR0.symm
        clear hR0 hok hA Hx Hk HR0 hia hbd hxl hkl Ha
        go_wp2_with fail
        go_loopw [7, 6] (fun iv ov W => ∃ (i : Nat) (A : Option Addr) (cc : Nat), i ≤ n ∧ iv = .int .i64 i ∧ ov = .slice A i cc ∧ Hid (Own W (fun g => W2.heap.size ≤ g) 3 1 (.slice A i cc) i (ints ((a.coefs.take i).map fun x => upN x k))) ∧ Hid (Below W2.heap.size W2 W)) (fun iv _ _ => n - (intOf iv).toNat)
        case atStart => exact ⟨0, none, 0, by omega, rfl, rfl, by simp only [List.take_zero, List.map_nil]; exact Own.nil _ _ _ _, Below.refl _ _⟩
        case round =>
          obtain ⟨i, A, cc, hi, rfl, rfl, Ho, HB⟩ := hrel
          have sw := HB.out.size
          have kaw := hid (keep_blk KA1.out HB.out)
          have kow := hid (keep_blk KO2.out HB.out)
          obtain ⟨a0, a1, a2⟩ := box3 kaw.out
          by_cases hlt : i < n
          · have x1 : (i : Int) < (n : Int) := by omega
            obtain ⟨gQ, oQ, rfl, hgQ, hgQ2, ec⟩ := (hk0.out.below HB.out).cell.2 i hlt
            obtain ⟨x, hx⟩ : ∃ x, nth a.coefs i = x := ⟨_, rfl⟩
            have hco := Hco.out i (by rw [Hxl.out]; exact hlt)
            rw [hx, Hbd3.out] at hco
            rw [hx] at ec
            have hnx : (a.coefs.take (i + 1)).map (fun x => upN x k) = (a.coefs.take i).map (fun x => upN x k) ++ [upN x k] := by rw [take_nth (by rw [Hkl.out]; exact hlt), List.map_append, hx]; rfl
            have Hnx := hid hnx
            clear hnx hx
            go_wp2_with fail
            refine (rup_any (n := x) (k := k) (by omega) (by omega)).mono ?_
            rintro r w1 ⟨rfl, rfl⟩
            go_wp2_with (at_builtin; refine wpList_append_ints rfl _ _ rfl (Ho.out.below ((Below.refl _ _).alloc (Nat.le_refl _) _)) (own_one wr (.int .i64 (upN x k))).rd rfl rfl (by simp [Value.oneCell']) (by omega) fun A3 c3 w3 ho3 m3 hr3 => ?_)
            have Ho3 := hid ho3
            have B4 := hid (below_mod (HB.out.trans (((Below.refl _ _).alloc (Nat.le_refl _) _).mono sw)) (by rw [World.size_alloc]; omega) m3 fun g hg => (Ho.out.row hg).1)
            clear ho3 m3 hr3
            go_wp2_with fail
            go_roundw
            case rel =>
              refine ⟨i + 1, A3, c3, by omega, by go_num, rfl, ?_, B4⟩
              rw [Hnx.out, ints_append]
              exact hid (Ho3.out.mono fun g hg _ h => h.elim id fun h => by rw [World.size_alloc] at h; omega)
            case measure => simp [intOf]; omega
          · have hin : i = n := by omega
            have x1 : ¬ ((i : Int) < (n : Int)) := by omega
            have hr5 := hid Ho.out.rd
            have htk : a.coefs.take i = a.coefs := by rw [hin, ← Hkl.out, List.take_length]
            rw [htk] at hr5
            clear htk
            have BW := hid (B2.out.trans (HB.out.mono (by omega)))
            have lit5 := hid (hx0.out.below HB.out)
            clear Ho hin 
            have hI2 : ∀ y ∈ a.coefs.map (fun x => upN x k), I64 y := fun y hy => by
              obtain ⟨x, hx, rfl⟩ := List.mem_map.1 hy
              obtain ⟨j, hj, rfl⟩ := nth_of_mem hx
              have h5 := Hco.out j (by rw [Hxl.out, ← Hkl.out]; exact hj)
              rw [Hbd3.out] at h5
              have h6 := upN_bounds (n := nth a.coefs j) (k := k) (by omega) (by omega)
              unfold I64
              omega
            have HI2 := hid hI2
            clear hI2
            have hbk : 0 ≤ bd ∧ bd ≤ 16777216 := by omega
            have h7 := upN_bounds hbr h3.1
            have HI3 : I64 (upN bd k) := by unfold I64; omega
            have hr6 := hr5.out
            go_upto_region 8 with fail
            refine wp_region_held_drew (S := fun w' => (w'.cell? ⟨sz, 0, none⟩ = some (.slice L n cn) ∧ w'.cell? ⟨sz, 1, none⟩ = some (.slice Q n cm) ∧ w'.cell? ⟨sz, 2, none⟩ = some (.int .i64 bd)) ∧ Hid (Below sz w w') ∧ Hid (w'.heap[sz]? = some (.cells #[.slice L n cn, .slice Q n cm, .int .i64 bd] 24)) ∧ Hid (Rd w' (fun g => W2.heap.size ≤ g) 1 (.slice A i cc) i (ints (a.coefs.map fun x => upN x k)))) (by kernel_rfl) ⟨⟨a0, a1, a2⟩, hid BW.out.drew, kaw, hid hr6.drew⟩ (fun hHeld => ?_)
            have bD2 : Below wr.heap.size wr wr.drew := Bl.drew (Below.refl _ _)
            have kow2 := hid (show wr.drew.heap[sz + 1]? = _ from kow.out)
            have szD : wr.heap.size ≤ wr.drew.heap.size := Nat.le_refl _
            obtain ⟨WD, hWD⟩ : ∃ W, wr.drew = W := ⟨_, rfl⟩
            have kow3 := kow2.out
            rw [hWD] at hHeld bD2 kow3 szD ⊢
            clear hWD kow2
            have kow2 := hid kow3
            clear kow3
            refine wpAnyH_take (i := 0) (oi := ⟨_, _, _, _, _, _⟩) (v := ?_) rfl (by kernel_rfl) (by kernel_rfl) (by kernel_rfl) (fun _ _ _ h => h) (Or.inl ⟨by rfl, ?_⟩) (by assumption) ?_
            rotate_left
            · intro w hSw
              try dsimp only at hSw
              go_simp
              try with_reducible rfl
            simp only [Act.put, List.setIfInBounds_toArray, List.set_cons_zero, List.set_cons_succ]
            refine wpAnyH_take (i := 2) (oi := ⟨_, _, _, _, _, _⟩) (v := ?_) rfl (by kernel_rfl) (by kernel_rfl) (by kernel_rfl) (fun _ _ _ h => h) (Or.inl ⟨by rfl, ?_⟩) (by assumption) ?_
            rotate_left
            · intro w hSw
              try dsimp only at hSw
              go_simp
              try with_reducible rfl
            simp only [Act.put, List.setIfInBounds_toArray, List.set_cons_zero, List.set_cons_succ]
            refine wpAnyH_take (i := 3) (oi := ⟨_, _, _, _, _, _⟩) (v := ?_) rfl (by kernel_rfl) (by kernel_rfl) (by kernel_rfl) (fun _ _ _ h => h) (Or.inl ⟨by rfl, ?_⟩) (by assumption) ?_
            rotate_left
            · intro w hSw
              try dsimp only at hSw
              go_simp
              try with_reducible rfl
            simp only [Act.put, List.setIfInBounds_toArray, List.set_cons_zero, List.set_cons_succ]
            refine wpAnyH_take (i := 5) (oi := ⟨_, _, _, _, _, _⟩) (v := ?_) rfl (by kernel_rfl) (by kernel_rfl) (by kernel_rfl) (fun _ _ _ h => h) (Or.inl ⟨by rfl, ?_⟩) (by assumption) ?_
            rotate_left
            · intro w hSw
              try dsimp only at hSw
              go_simp
              try with_reducible rfl
            simp only [Act.put, List.setIfInBounds_toArray, List.set_cons_zero, List.set_cons_succ]
            refine wpAnyH_take (i := 1) (oi := ⟨_, _, _, _, _, _⟩) (v := ?_) rfl (by kernel_rfl) (by kernel_rfl) (by kernel_rfl) (fun _ _ _ h => h) (Or.inl ⟨by rfl, ?_⟩) (by assumption) ?_
            rotate_left
            · intro w hSw
              try dsimp only at hSw
              go_simp
              try with_reducible rfl
            simp only [Act.put, List.setIfInBounds_toArray, List.set_cons_zero, List.set_cons_succ]
            refine wpAnyH_take (i := 4) (oi := ⟨_, _, _, _, _, _⟩) (v := ?_) rfl (by kernel_rfl) (by kernel_rfl) (by kernel_rfl) (fun _ _ _ h => h) (Or.inl ⟨by rfl, ?_⟩) (by assumption) ?_
            rotate_left
            · intro w hSw
              try dsimp only at hSw
              go_simp
              try with_reducible rfl
            simp only [Act.put, List.setIfInBounds_toArray, List.set_cons_zero, List.set_cons_succ]
            refine wpAnyH_ready (rs := [6]) (by kernel_rfl) (by simp) (AllReadyH.cons (o := ⟨_, _, _, _, _, _⟩) rfl (fun K hK => ?_) AllReadyH.nil)
            go_simp
            refine (rup_any hbk (by omega)).mono ?_
            rintro r w6 ⟨rfl, rfl⟩
            refine hK.out _ _ hHeld (fun hHeld => ?_)
            clear hK K
            try simp only [Act.put, List.setIfInBounds_toArray, List.set_cons_zero, List.set_cons_succ]
            refine wpAnyH_ready (rs := [7]) (by kernel_rfl) (by simp) (AllReadyH.cons (o := ⟨_, _, _, _, _, _⟩) rfl (fun K hK => ?_) AllReadyH.nil)
            go_simp
            refine (rnorm_any (lit5.out.below bD2) hHeld.2.2.2.out Hl.out HI2.out HI3).mono ?_
            rintro r w7 ⟨⟨pv, rfl, hpv⟩, b7⟩
            have K7 := hid (keep_blk (show WD.heap[sz + 1]? = _ from kow2.out) b7)
            rw [HR.out] at hpv ⊢
            obtain ⟨⟨A1, n1, c1, A2, n2, c2, rfl, r1, r2⟩, hb1⟩ := hpv
            refine hK.out _ _ ⟨box3 (keep_blk hHeld.2.2.1.out b7), hid (hHeld.2.1.out.trans (b7.mono (by have := hHeld.2.1.out.size; omega))), hid (keep_blk hHeld.2.2.1.out b7), hid (hHeld.2.2.2.out.below b7)⟩ (fun hHeld => ?_)
            clear hK K
            have R1 := hid r1
            have R2 := hid r2
            have Hb1 := hid hb1
            have hsz7 : WD.heap.size ≤ w7.heap.size := b7.size
            obtain ⟨t0, t1, t2⟩ := box3 K7.out
            obtain ⟨f0, f1, f2⟩ := froz3 K7.out
            clear r1 r2 hb1 b7
            try simp only [Act.put, List.setIfInBounds_toArray, List.set_cons_zero, List.set_cons_succ]
            refine wpAnyH_take (i := 8) (oi := ⟨_, _, _, _, _, _⟩) (v := ?_) rfl (by kernel_rfl) (by kernel_rfl) (by kernel_rfl) (fun _ _ _ h => h) (Or.inl ⟨by rfl, ?_⟩) (by assumption) ?_
            rotate_left
            · intro w hSw
              try dsimp only at hSw
              go_simp
              try with_reducible rfl
            simp only [Act.put, List.setIfInBounds_toArray, List.set_cons_zero, List.set_cons_succ]
            refine wpAnyH_take (i := 9) (oi := ⟨_, _, _, _, _, _⟩) (v := ?_) rfl (by kernel_rfl) (by kernel_rfl) (by kernel_rfl) (fun _ _ _ h => h) (Or.inl ⟨by rfl, ?_⟩) (by assumption) ?_
            rotate_left
            · intro w hSw
              try dsimp only at hSw
              go_simp
              try with_reducible rfl
            simp only [Act.put, List.setIfInBounds_toArray, List.set_cons_zero, List.set_cons_succ]
            refine wpAnyH_ready (rs := [10]) (by kernel_rfl) (by simp) (AllReadyH.cons (o := ⟨_, _, _, _, _, _⟩) rfl (fun K hK => ?_) AllReadyH.nil)
            go_simp
            obtain ⟨u0, u1, u2, m3⟩ := set3 t0 t1 t2 (.slice A1 n1 c1) (.slice A2 n2 c2) (.int .i64 R.1.bound)
            have q3 := (m3.block sz (by omega) (by omega)).trans hHeld.2.2.1.out
            refine hK.out _ _ ⟨box3 q3, hid (below_mod hHeld.2.1.out (by have := hHeld.2.1.out.size; omega) m3 fun g hg => by omega), hid q3, hid (hHeld.2.2.2.out.mod m3 fun g _ hf e => by omega)⟩ (fun hHeld => ?_)
            clear hK K
            try simp only [Act.put, List.setIfInBounds_toArray, List.set_cons_zero, List.set_cons_succ]
            refine wpAnyH_ready (rs := [11]) (by kernel_rfl) (by simp) (AllReadyH.cons (o := ⟨_, _, _, _, _, _⟩) rfl (fun K hK => ?_) AllReadyH.nil)
            go_simp
            refine hK.out _ _ hHeld (fun hHeld => ?_)
            clear hK K
            try simp only [Act.put, List.setIfInBounds_toArray, List.set_cons_zero, List.set_cons_succ]
            refine wpAnyH_done (by kernel_rfl) ?_ _
            go_wp2_with fail
            have hfin := hHeld.2.1.out
            refine bodyPost_ret (v := .tuple #[.agg #[.slice A1 n1 c1, .slice A2 n2 c2, .int .i64 R.1.bound], .int .i64 R.2]) (by simp [results, Tryd.f18, go_sem, u0, u1, u2]) rfl ⟨⟨_, rfl, ⟨A1, n1, c1, A2, n2, c2, rfl, ?_, ?_⟩, Hb1.out⟩, by rw [hsz]; exact hfin⟩
            · exact (R1.out.mod m3 fun g _ hf e => by have : WD.heap.size ≤ g := hf; omega).mono fun g _ hf => by have : WD.heap.size ≤ g := hf; omega
            · exact (R2.out.mod m3 fun g _ hf e => by have : WD.heap.size ≤ g := hf; omega).mono fun g _ hf => by have : WD.heap.size ≤ g := hf; omega
  · have hf : a.ok = false := by simpa using hok
    rw [hf]
    obtain rfl : R = (⟨[], [], 0⟩, 2) := by rw [← HR0.out]; unfold Pb.divB; rw [if_pos (by simp [hok])]; rfl
    obtain ⟨t0, t1, t2⟩ := box3 KO2.out
    obtain ⟨f0, f1, f2⟩ := froz3 KO2.out
    clear HR0 hf hok hbd
    go_wp2_with fail
    obtain ⟨u0, u1, u2, m3⟩ := set3 t0 t1 t2 (.slice none 0 0) (.slice none 0 0) (.int .i64 0)
    exact bodyPost_ret (v := .tuple #[.agg #[.slice none 0 0, .slice none 0 0, .int .i64 0], .int .i64 2]) (by simp [results, Tryd.f18, go_sem, u0, u1, u2]) rfl ⟨⟨_, rfl, PbRd.zero _ _⟩, by rw [hsz]; exact below_mod B2.out (by omega) m3 fun g hg => by omega⟩
end

section
open Go.RowKit

set_option maxRecDepth 100000 in
set_option maxHeartbeats 8000000 in
theorem radd_any {w : World} {F G : Nat → Prop} {va vb : Value} {a b : Pb} (ha : PbRd w F va a) (hb : PbRd w G vb b) (hia : ∀ k ∈ a.coefs, I64 k) (hib : ∀ k ∈ b.coefs, I64 k) (h16 : a.lits.length ≤ 65536) (h17 : b.lits.length ≤ 65536) :
    Calls Tryd.prog 13 #[va, vb] w fun r w' => Gives w w' r (a.addB b) := by
  obtain ⟨R, hR⟩ : ∃ R, a.addB b = R := ⟨_, rfl⟩
  rw [hR]
  have HR0 := hid hR
  clear hR
  have Ha := hid ha
  have Hb := hid hb
  obtain ⟨⟨L, n, cn, Q, m, cm, rfl, hx, hk⟩, hbd⟩ := ha
  obtain ⟨⟨L2, n2, cn2, Q2, m2, cm2, rfl, hy, hj⟩, hbd2⟩ := hb
  obtain ⟨bd, hbd3⟩ : ∃ b, a.bound = b := ⟨_, rfl⟩
  obtain ⟨bd2, hbd4⟩ : ∃ c, b.bound = c := ⟨_, rfl⟩
  rw [hbd3] at Ha ⊢
  rw [hbd4] at Hb ⊢
  obtain ⟨X0, hX0, bX0, k0, s0⟩ := alloc_step w (.cells #[.slice L n cn, .slice Q m cm, .int .i64 bd] 24)
  obtain ⟨X1, hX1, bX1, k1, s1⟩ := alloc_step X0 (.cells #[.slice L2 n2 cn2, .slice Q2 m2 cm2, .int .i64 bd2] 24)
  obtain ⟨X2, hX2, bX2, k2, s2⟩ := alloc_step X1 (.cells #[.slice none 0 0, .slice none 0 0, .int .i64 0] 24)
  have hB2 : Below w.heap.size w X2 := bX0.trans ((bX1.mono bX0.size).trans (bX2.mono (Nat.le_trans bX0.size bX1.size)))
  have KA := hid (keep_blk (keep_blk k0 bX1) bX2)
  have KB := hid (keep_blk k1 bX2)
  have KO := hid k2
  have HB2 := hid hB2
  have HX := hid hX0
  have HX1 := hid hX1
  have HX2 := hid hX2
  rw [s0] at KB
  rw [s1, s0] at KO
  rw [s1, s0] at s2
  have Hx := hid hx
  have Hk := hid hk
  have Hy := hid hy
  have Hj := hid hj
  have Hbd3 := hid hbd3
  have Hbd4 := hid hbd4
  clear k0 k1 k2 bX0 bX1 bX2 s0 s1 hX0 hX1 hX2 hB2 hx hk hy hj hbd3 hbd4
  go_enter Tryd.func13, Tryd.ntmps13
  go_wp2_with fail
  rw [HX.out, HX1.out, HX2.out]
  clear HX HX1 HX2
  obtain ⟨sz, hsz⟩ : ∃ s, w.heap.size = s := ⟨_, rfl⟩
  rw [hsz] at KA KB KO HB2 s2
  rw [hsz]
  obtain ⟨a0, a1, a2⟩ := box3 KA.out
  obtain ⟨b0, b1, b2⟩ := box3 KB.out
  refine (rvalid_any (Ha.out.below (hsz ▸ HB2.out)) hia h16).mono ?_
  rintro r W1 ⟨rfl, bv⟩
  have KA1 := hid (keep_blk KA.out bv)
  have KB1 := hid (keep_blk KB.out bv)
  have KO1 := hid (keep_blk KO.out bv)
  have B1 := hid (HB2.out.trans (bv.mono (by omega)))
  have sv := bv.size
  clear KA KB KO a0 a1 a2 b0 b1 b2 bv HB2
  obtain ⟨a0, a1, a2⟩ := box3 KA1.out
  obtain ⟨b0, b1, b2⟩ := box3 KB1.out
  by_cases hok : a.ok = true
  · rw [hok]
    go_wp2_with fail
    refine (rvalid_any (Hb.out.below (hsz ▸ B1.out)) hib h17).mono ?_
    rintro r W2 ⟨rfl, bv⟩
    have KA := hid (keep_blk KA1.out bv)
    have KB := hid (keep_blk KB1.out bv)
    have KO2 := hid (keep_blk KO1.out bv)
    have B2 := hid (B1.out.trans (bv.mono (by omega)))
    have sv2 := bv.size
    clear KA1 KB1 KO1 a0 a1 a2 b0 b1 b2 bv B1
    by_cases hok2 : b.ok = true
    · rw [hok2]
      have hA := (Pb.ok_iff a).1 hok
      have hBk := (Pb.ok_iff b).1 hok2
      obtain rfl : n = m := by have h1 := hA.len; have h2 := Hx.out.1; have h3 := Hk.out.1; simp [ints_length] at h2 h3; omega
      obtain rfl : n2 = m2 := by have h1 := hBk.len; have h2 := Hy.out.1; have h3 := Hj.out.1; simp [ints_length] at h2 h3; omega
      have hn : n ≤ 65536 := by have h1 := hA.few; have h2 := Hx.out.1; simp [ints_length] at h2; omega
      have hn2 : n2 ≤ 65536 := by have h1 := hBk.few; have h2 := Hy.out.1; simp [ints_length] at h2; omega
      have hbr := hA.low; have hbr2 := hA.high; have hbr3 := hBk.low; have hbr4 := hBk.high
      rw [Hbd3.out] at hbr hbr2
      rw [Hbd4.out] at hbr3 hbr4
      have hw : IntKind.i64.wrap (bd + bd2) = bd + bd2 := iw' (by omega) (by omega)
      have HI1 : Hid (∀ x ∈ a.lits ++ b.lits, I64 x) := hid fun x hx => (List.mem_append.1 hx).elim (hA.i64l x) (hBk.i64l x)
      have HI2 : Hid (∀ x ∈ a.coefs ++ b.coefs, I64 x) := hid fun x hx => (List.mem_append.1 hx).elim (hA.i64 x) (hBk.i64 x)
      have HI3 : I64 (bd + bd2) := by unfold I64; omega
      have hR0 := addB_is hA hBk
      rw [Hbd3.out, Hbd4.out] at hR0
      rw [HR0.out] at hR0
      have HR := hid hR0.symm
      have hx0 := hid ((Hx.out.mono (G := fun g => g < sz) fun g hg _ => by omega).below (hsz ▸ B2.out))
      have hk0 := hid ((Hk.out.mono (G := fun g => g < sz) fun g hg _ => by omega).below (hsz ▸ B2.out))
      have hy0 := hid ((Hy.out.mono (G := fun g => g < sz) fun g hg _ => by omega).below (hsz ▸ B2.out))
      have hj0 := hid ((Hj.out.mono (G := fun g => g < sz) fun g hg _ => by omega).below (hsz ▸ B2.out))
      obtain ⟨Ob, hOb⟩ : ∃ o, sz + 1 + 1 = o := ⟨_, rfl⟩
      rw [hOb] at KO2 ⊢
      have hxl : a.lits.length = n := by have := Hx.out.1; simpa [ints_length] using this
      have hkl : a.coefs.length = n := by have := Hk.out.1; simpa [ints_length] using this
      have hyl : b.lits.length = n2 := by have := Hy.out.1; simpa [ints_length] using this
      have hjl : b.coefs.length = n2 := by have := Hj.out.1; simpa [ints_length] using this
      have Hxl := hid hxl
      have Hkl := hid hkl
      have Hyl := hid hyl
      have Hjl := hid hjl
      clear hxl hkl hyl hjl
      clear hok hok2 hA hBk Ha Hb Hx Hk Hy Hj Hbd3 Hbd4 hR0 HR0 hia hib hbd hbd2
      go_wp2_with fail
      go_loopw [8, 6, 7] (fun iv lv cv W => ∃ (i : Nat) (A1 : Option Addr) (d1 : Nat) (A2 : Option Addr) (d2 : Nat), i ≤ n ∧ iv = .int .i64 i ∧ lv = .slice A1 i d1 ∧ cv = .slice A2 i d2 ∧ Hid (Pr W2.heap.size W2 W (.slice A1 i d1) (.slice A2 i d2) i i (ints (a.lits.take i)) (ints (a.coefs.take i)))) (fun iv _ _ _ => n - (intOf iv).toNat)
      case atStart => exact ⟨0, none, 0, none, 0, by omega, rfl, rfl, rfl, hid (Pr.start W2)⟩
      case round =>
        obtain ⟨i, A1, d1, A2, d2, hi, rfl, rfl, rfl, HT⟩ := hrel
        have HB := hid HT.out.2.2.2.1
        have kaw := hid (keep_blk KA.out HB.out)
        have kbw := hid (keep_blk KB.out HB.out)
        have kow := hid (keep_blk KO2.out HB.out)
        obtain ⟨a0, a1, a2⟩ := box3 kaw.out
        by_cases hlt : i < n
        · have x1 : (i : Int) < (n : Int) := by omega
          obtain ⟨gL, oL, rfl, hgL, hgL2, el⟩ := hx0.out.cell.2 i hlt
          obtain ⟨gQ, oQ, rfl, hgQ, hgQ2, eq⟩ := hk0.out.cell.2 i hlt
          obtain ⟨x, hx⟩ : ∃ x, nth a.lits i = x := ⟨_, rfl⟩
          obtain ⟨y, hy⟩ : ∃ y, nth a.coefs i = y := ⟨_, rfl⟩
          have hnl := hid (take_nth (xs := a.lits) (k := i) (by rw [Hxl.out]; exact hlt))
          have hnk := hid (take_nth (xs := a.coefs) (k := i) (by rw [Hkl.out]; exact hlt))
          rw [hx] at el
          rw [hy] at eq
          have Hxx := hid hx
          have Hyy := hid hy
          have hBD : Below W2.heap.size W2 wr.drew := HB.out.drew
          clear hx hy
          go_upto_region 7 with fail
          refine wp_region_held_drew (S := fun w' => (w'.cell? ⟨sz, 0, none⟩ = some (.slice (some ⟨gL, oL, none⟩) n cn) ∧ w'.cell? ⟨sz, 1, none⟩ = some (.slice (some ⟨gQ, oQ, none⟩) n cm) ∧ w'.cell? ⟨sz, 2, none⟩ = some (.int .i64 bd)) ∧ w'.cell? ⟨gL, oL + i, none⟩ = some (.int .i64 x) ∧ w'.cell? ⟨gQ, oQ + i, none⟩ = some (.int .i64 y) ∧ Hid (Below W2.heap.size W2 w')) (by kernel_rfl) ⟨box3 (keep_blk KA.out hBD), (hBD.cell (by omega)).trans el, (hBD.cell (by omega)).trans eq, hid hBD⟩ (fun hHeld => ?_)
          have T := hid HT.out.drew
          obtain ⟨WD, hWD⟩ : ∃ W, wr.drew = W := ⟨_, rfl⟩
          rw [hWD] at hHeld T ⊢
          clear hWD
          refine wpAnyH_take (i := 0) (oi := ⟨_, _, _, _, _, _⟩) (v := ?_) rfl (by kernel_rfl) (by kernel_rfl) (by kernel_rfl) (fun _ _ _ h => h) (Or.inl ⟨by rfl, ?_⟩) (by assumption) ?_
          rotate_left
          · intro w hSw
            try dsimp only at hSw
            go_simp
            try with_reducible rfl
          simp only [Act.put, List.setIfInBounds_toArray, List.set_cons_zero, List.set_cons_succ]
          refine wpAnyH_take (i := 1) (oi := ⟨_, _, _, _, _, _⟩) (v := ?_) rfl (by kernel_rfl) (by kernel_rfl) (by kernel_rfl) (fun _ _ _ h => h) (Or.inl ⟨by rfl, ?_⟩) (by assumption) ?_
          rotate_left
          · intro w hSw
            try dsimp only at hSw
            go_simp
            try with_reducible rfl
          simp only [Act.put, List.setIfInBounds_toArray, List.set_cons_zero, List.set_cons_succ]
          refine wpAnyH_take (i := 3) (oi := ⟨_, _, _, _, _, _⟩) (v := ?_) rfl (by kernel_rfl) (by kernel_rfl) (by kernel_rfl) (fun _ _ _ h => h) (Or.inl ⟨by rfl, ?_⟩) (by assumption) ?_
          rotate_left
          · intro w hSw
            try dsimp only at hSw
            go_simp
            try with_reducible rfl
          simp only [Act.put, List.setIfInBounds_toArray, List.set_cons_zero, List.set_cons_succ]
          refine wpAnyH_take (i := 8) (oi := ⟨_, _, _, _, _, _⟩) (v := ?_) rfl (by kernel_rfl) (by kernel_rfl) (by kernel_rfl) (fun _ _ _ h => h) (Or.inl ⟨by rfl, ?_⟩) (by assumption) ?_
          rotate_left
          · intro w hSw
            try dsimp only at hSw
            go_simp
            try with_reducible rfl
          simp only [Act.put, List.setIfInBounds_toArray, List.set_cons_zero, List.set_cons_succ]
          refine wpAnyH_take (i := 9) (oi := ⟨_, _, _, _, _, _⟩) (v := ?_) rfl (by kernel_rfl) (by kernel_rfl) (by kernel_rfl) (fun _ _ _ h => h) (Or.inl ⟨by rfl, ?_⟩) (by assumption) ?_
          rotate_left
          · intro w hSw
            try dsimp only at hSw
            go_simp
            try with_reducible rfl
          simp only [Act.put, List.setIfInBounds_toArray, List.set_cons_zero, List.set_cons_succ]
          refine wpAnyH_take (i := 11) (oi := ⟨_, _, _, _, _, _⟩) (v := ?_) rfl (by kernel_rfl) (by kernel_rfl) (by kernel_rfl) (fun _ _ _ h => h) (Or.inl ⟨by rfl, ?_⟩) (by assumption) ?_
          rotate_left
          · intro w hSw
            try dsimp only at hSw
            go_simp
            try with_reducible rfl
          simp only [Act.put, List.setIfInBounds_toArray, List.set_cons_zero, List.set_cons_succ]
          refine wpAnyH_take (i := 2) (oi := ⟨_, _, _, _, _, _⟩) (v := ?_) rfl (by kernel_rfl) (by kernel_rfl) (by kernel_rfl) (fun _ _ _ h => h) (Or.inl ⟨by rfl, ?_⟩) (by assumption) ?_
          rotate_left
          · intro w hSw
            try dsimp only at hSw
            go_simp
            try with_reducible rfl
          simp only [Act.put, List.setIfInBounds_toArray, List.set_cons_zero, List.set_cons_succ]
          refine wpAnyH_take (i := 10) (oi := ⟨_, _, _, _, _, _⟩) (v := ?_) rfl (by kernel_rfl) (by kernel_rfl) (by kernel_rfl) (fun _ _ _ h => h) (Or.inl ⟨by rfl, ?_⟩) (by assumption) ?_
          rotate_left
          · intro w hSw
            try dsimp only at hSw
            go_simp
            try with_reducible rfl
          simp only [Act.put, List.setIfInBounds_toArray, List.set_cons_zero, List.set_cons_succ]
          refine wpAnyH_take (i := 4) (oi := ⟨_, _, _, _, _, _⟩) (v := ?_) rfl (by kernel_rfl) (by kernel_rfl) (by kernel_rfl) (fun _ _ _ h => h) (Or.inl ⟨by rfl, ?_⟩) (by assumption) ?_
          rotate_left
          · intro w hSw
            try dsimp only at hSw
            go_simp
            try with_reducible rfl
          simp only [Act.put, List.setIfInBounds_toArray, List.set_cons_zero, List.set_cons_succ]
          refine wpAnyH_take (i := 12) (oi := ⟨_, _, _, _, _, _⟩) (v := ?_) rfl (by kernel_rfl) (by kernel_rfl) (by kernel_rfl) (fun _ _ _ h => h) (Or.inl ⟨by rfl, ?_⟩) (by assumption) ?_
          rotate_left
          · intro w hSw
            try dsimp only at hSw
            go_simp
            try with_reducible rfl
          simp only [Act.put, List.setIfInBounds_toArray, List.set_cons_zero, List.set_cons_succ]
          refine wpAnyH_take (i := 5) (oi := ⟨_, _, _, _, _, _⟩) (v := ?_) rfl (by kernel_rfl) (by kernel_rfl) (by kernel_rfl) (fun _ _ _ h => h) (Or.inl ⟨by rfl, ?_⟩) (by assumption) ?_
          rotate_left
          · intro w hSw
            try dsimp only at hSw
            go_simp
            try with_reducible rfl
          simp only [Act.put, List.setIfInBounds_toArray, List.set_cons_zero, List.set_cons_succ]
          refine wpAnyH_take (i := 13) (oi := ⟨_, _, _, _, _, _⟩) (v := ?_) rfl (by kernel_rfl) (by kernel_rfl) (by kernel_rfl) (fun _ _ _ h => h) (Or.inl ⟨by rfl, ?_⟩) (by assumption) ?_
          rotate_left
          · intro w hSw
            try dsimp only at hSw
            go_simp
            try with_reducible rfl
          simp only [Act.put, List.setIfInBounds_toArray, List.set_cons_zero, List.set_cons_succ]
          refine wpAnyH_ready (rs := [6, 14]) (by kernel_rfl) (by simp) (AllReadyH.cons (o := ⟨_, _, _, _, _, _⟩) rfl (fun K hK => ?_) (AllReadyH.cons (o := ⟨_, _, _, _, _, _⟩) rfl (fun K hK => ?_) AllReadyH.nil))
          · go_simp
            obtain ⟨X6, hX, bX, kX, sX⟩ := alloc_step WD (.cells #[.int .i64 x] 3)
            rw [hX]
            have hBn := hHeld.2.2.2.out.trans (bX.mono hHeld.2.2.2.out.size)
            refine hK.out _ _ ⟨box3 (keep_blk KA.out hBn), (hBn.cell (by omega)).trans el, (hBn.cell (by omega)).trans eq, hid hBn⟩ (fun hHeld => ?_)
            clear hK K
            have R6 := hid (show Rd X6 (fun g => g = WD.heap.size) 1 (.slice (some ⟨WD.heap.size, 0, none⟩) 1 1) 1 [.int .i64 x] by rw [← hX]; exact (own_one WD _).rd)
            have l6 := T.out.rows
            have q6 := T.out.swap.rows
            have T := hid (show Pr W2.heap.size W2 X6 _ _ _ _ _ _ by rw [← hX]; exact T.out.alloc _)
            clear hX bX kX sX hBn
            try simp only [Act.put, List.setIfInBounds_toArray, List.set_cons_zero, List.set_cons_succ]
            refine wpAnyH_ready (rs := [7, 14]) (by kernel_rfl) (by simp) (AllReadyH.cons (o := ⟨_, _, _, _, _, _⟩) rfl (fun K hK => ?_) (AllReadyH.cons (o := ⟨_, _, _, _, _, _⟩) rfl (fun K hK => ?_) AllReadyH.nil))
            · refine step_append_ints (m := 1) rfl _ _ rfl T.out.1 R6.out rfl rfl (by simp [Value.oneCell']) (by omega) ?_
              intro Av7 cv7 W7 ho hm hr
              have hBn := below_mod hHeld.2.2.2.out hHeld.2.2.2.out.size hm fun g hg => (T.out.1.row hg).1
              refine hK.out _ _ ⟨box3 (keep_blk KA.out hBn), (hBn.cell (by omega)).trans el, (hBn.cell (by omega)).trans eq, hid hBn⟩ (fun hHeld => ?_)
              clear hK K
              have T := hid (T.out.push ho hm hr)
              clear ho hm hr hBn
              try simp only [Act.put, List.setIfInBounds_toArray, List.set_cons_zero, List.set_cons_succ]
              refine wpAnyH_ready (rs := [14]) (by kernel_rfl) (by simp) (AllReadyH.cons (o := ⟨_, _, _, _, _, _⟩) rfl (fun K hK => ?_) AllReadyH.nil)
              go_simp
              obtain ⟨X14, hX, bX, kX, sX⟩ := alloc_step W7 (.cells #[.int .i64 y] 3)
              rw [hX]
              have hBn := hHeld.2.2.2.out.trans (bX.mono hHeld.2.2.2.out.size)
              refine hK.out _ _ ⟨box3 (keep_blk KA.out hBn), (hBn.cell (by omega)).trans el, (hBn.cell (by omega)).trans eq, hid hBn⟩ (fun hHeld => ?_)
              clear hK K
              have R14 := hid (show Rd X14 (fun g => g = W7.heap.size) 1 (.slice (some ⟨W7.heap.size, 0, none⟩) 1 1) 1 [.int .i64 y] by rw [← hX]; exact (own_one W7 _).rd)
              have l14 := T.out.rows
              have q14 := T.out.swap.rows
              have T := hid (show Pr W2.heap.size W2 X14 _ _ _ _ _ _ by rw [← hX]; exact T.out.alloc _)
              clear hX bX kX sX hBn
              try simp only [Act.put, List.setIfInBounds_toArray, List.set_cons_zero, List.set_cons_succ]
              refine wpAnyH_ready (rs := [15]) (by kernel_rfl) (by simp) (AllReadyH.cons (o := ⟨_, _, _, _, _, _⟩) rfl (fun K hK => ?_) AllReadyH.nil)
              refine step_append_ints (m := 1) rfl _ _ rfl T.out.swap.1 R14.out rfl rfl (by simp [Value.oneCell']) (by omega) ?_
              intro Av15 cv15 W15 ho hm hr
              have hBn := below_mod hHeld.2.2.2.out hHeld.2.2.2.out.size hm fun g hg => (T.out.swap.1.row hg).1
              refine hK.out _ _ ⟨box3 (keep_blk KA.out hBn), (hBn.cell (by omega)).trans el, (hBn.cell (by omega)).trans eq, hid hBn⟩ (fun hHeld => ?_)
              clear hK K
              have T := hid (T.out.swap.push ho hm hr)
              have T := hid T.out.swap
              clear ho hm hr hBn
              try simp only [Act.put, List.setIfInBounds_toArray, List.set_cons_zero, List.set_cons_succ]
              refine wpAnyH_ready (rs := [16]) (by kernel_rfl) (by simp) (AllReadyH.cons (o := ⟨_, _, _, _, _, _⟩) rfl (fun K hK => ?_) AllReadyH.nil)
              go_simp
              go_simp
              refine hK.out _ _ hHeld (fun hHeld => ?_)
              clear hK K
              try simp only [Act.put, List.setIfInBounds_toArray, List.set_cons_zero, List.set_cons_succ]
              refine wpAnyH_ready (rs := [17]) (by kernel_rfl) (by simp) (AllReadyH.cons (o := ⟨_, _, _, _, _, _⟩) rfl (fun K hK => ?_) AllReadyH.nil)
              go_simp
              go_simp
              refine hK.out _ _ hHeld (fun hHeld => ?_)
              clear hK K
              try simp only [Act.put, List.setIfInBounds_toArray, List.set_cons_zero, List.set_cons_succ]
              refine wpAnyH_done (by kernel_rfl) ?_ _
              go_wp2_with fail
              go_roundw
              case rel => exact ⟨i + 1, Av7, cv7, Av15, cv15, by omega, by go_num, by first | rfl | trivial, by first | rfl | trivial, hid (by rw [hnl.out, hnk.out, Hxx.out, Hyy.out, ints_append, ints_append]; exact T.out)⟩
              case measure => simp [intOf]; omega
            · go_simp
              obtain ⟨X14, hX, bX, kX, sX⟩ := alloc_step X6 (.cells #[.int .i64 y] 3)
              rw [hX]
              have hBn := hHeld.2.2.2.out.trans (bX.mono hHeld.2.2.2.out.size)
              refine hK.out _ _ ⟨box3 (keep_blk KA.out hBn), (hBn.cell (by omega)).trans el, (hBn.cell (by omega)).trans eq, hid hBn⟩ (fun hHeld => ?_)
              clear hK K
              have R14 := hid (show Rd X14 (fun g => g = X6.heap.size) 1 (.slice (some ⟨X6.heap.size, 0, none⟩) 1 1) 1 [.int .i64 y] by rw [← hX]; exact (own_one X6 _).rd)
              have l14 := T.out.rows
              have q14 := T.out.swap.rows
              have T := hid (show Pr W2.heap.size W2 X14 _ _ _ _ _ _ by rw [← hX]; exact T.out.alloc _)
              have R6 := hid (R6.out.below bX)
              clear hX bX kX sX hBn
              try simp only [Act.put, List.setIfInBounds_toArray, List.set_cons_zero, List.set_cons_succ]
              refine wpAnyH_ready (rs := [7]) (by kernel_rfl) (by simp) (AllReadyH.cons (o := ⟨_, _, _, _, _, _⟩) rfl (fun K hK => ?_) AllReadyH.nil)
              refine step_append_ints (m := 1) rfl _ _ rfl T.out.1 R6.out rfl rfl (by simp [Value.oneCell']) (by omega) ?_
              intro Av7 cv7 W7 ho hm hr
              have hBn := below_mod hHeld.2.2.2.out hHeld.2.2.2.out.size hm fun g hg => (T.out.1.row hg).1
              refine hK.out _ _ ⟨box3 (keep_blk KA.out hBn), (hBn.cell (by omega)).trans el, (hBn.cell (by omega)).trans eq, hid hBn⟩ (fun hHeld => ?_)
              clear hK K
              have R14 := hid (R14.out.mod hm fun g _ hg hrow => by have := l14 g hrow; omega)
              have T := hid (T.out.push ho hm hr)
              clear ho hm hr hBn
              try simp only [Act.put, List.setIfInBounds_toArray, List.set_cons_zero, List.set_cons_succ]
              refine wpAnyH_ready (rs := [15]) (by kernel_rfl) (by simp) (AllReadyH.cons (o := ⟨_, _, _, _, _, _⟩) rfl (fun K hK => ?_) AllReadyH.nil)
              refine step_append_ints (m := 1) rfl _ _ rfl T.out.swap.1 R14.out rfl rfl (by simp [Value.oneCell']) (by omega) ?_
              intro Av15 cv15 W15 ho hm hr
              have hBn := below_mod hHeld.2.2.2.out hHeld.2.2.2.out.size hm fun g hg => (T.out.swap.1.row hg).1
              refine hK.out _ _ ⟨box3 (keep_blk KA.out hBn), (hBn.cell (by omega)).trans el, (hBn.cell (by omega)).trans eq, hid hBn⟩ (fun hHeld => ?_)
              clear hK K
              have T := hid (T.out.swap.push ho hm hr)
              have T := hid T.out.swap
              clear ho hm hr hBn
              try simp only [Act.put, List.setIfInBounds_toArray, List.set_cons_zero, List.set_cons_succ]
              refine wpAnyH_ready (rs := [16]) (by kernel_rfl) (by simp) (AllReadyH.cons (o := ⟨_, _, _, _, _, _⟩) rfl (fun K hK => ?_) AllReadyH.nil)
              go_simp
              go_simp
              refine hK.out _ _ hHeld (fun hHeld => ?_)
              clear hK K
              try simp only [Act.put, List.setIfInBounds_toArray, List.set_cons_zero, List.set_cons_succ]
              refine wpAnyH_ready (rs := [17]) (by kernel_rfl) (by simp) (AllReadyH.cons (o := ⟨_, _, _, _, _, _⟩) rfl (fun K hK => ?_) AllReadyH.nil)
              go_simp
              go_simp
              refine hK.out _ _ hHeld (fun hHeld => ?_)
              clear hK K
              try simp only [Act.put, List.setIfInBounds_toArray, List.set_cons_zero, List.set_cons_succ]
              refine wpAnyH_done (by kernel_rfl) ?_ _
              go_wp2_with fail
              go_roundw
              case rel => exact ⟨i + 1, Av7, cv7, Av15, cv15, by omega, by go_num, by first | rfl | trivial, by first | rfl | trivial, hid (by rw [hnl.out, hnk.out, Hxx.out, Hyy.out, ints_append, ints_append]; exact T.out)⟩
              case measure => simp [intOf]; omega
          · go_simp
            obtain ⟨X14, hX, bX, kX, sX⟩ := alloc_step WD (.cells #[.int .i64 y] 3)
            rw [hX]
            have hBn := hHeld.2.2.2.out.trans (bX.mono hHeld.2.2.2.out.size)
            refine hK.out _ _ ⟨box3 (keep_blk KA.out hBn), (hBn.cell (by omega)).trans el, (hBn.cell (by omega)).trans eq, hid hBn⟩ (fun hHeld => ?_)
            clear hK K
            have R14 := hid (show Rd X14 (fun g => g = WD.heap.size) 1 (.slice (some ⟨WD.heap.size, 0, none⟩) 1 1) 1 [.int .i64 y] by rw [← hX]; exact (own_one WD _).rd)
            have l14 := T.out.rows
            have q14 := T.out.swap.rows
            have T := hid (show Pr W2.heap.size W2 X14 _ _ _ _ _ _ by rw [← hX]; exact T.out.alloc _)
            clear hX bX kX sX hBn
            try simp only [Act.put, List.setIfInBounds_toArray, List.set_cons_zero, List.set_cons_succ]
            refine wpAnyH_ready (rs := [6]) (by kernel_rfl) (by simp) (AllReadyH.cons (o := ⟨_, _, _, _, _, _⟩) rfl (fun K hK => ?_) AllReadyH.nil)
            go_simp
            obtain ⟨X6, hX, bX, kX, sX⟩ := alloc_step X14 (.cells #[.int .i64 x] 3)
            rw [hX]
            have hBn := hHeld.2.2.2.out.trans (bX.mono hHeld.2.2.2.out.size)
            refine hK.out _ _ ⟨box3 (keep_blk KA.out hBn), (hBn.cell (by omega)).trans el, (hBn.cell (by omega)).trans eq, hid hBn⟩ (fun hHeld => ?_)
            clear hK K
            have R6 := hid (show Rd X6 (fun g => g = X14.heap.size) 1 (.slice (some ⟨X14.heap.size, 0, none⟩) 1 1) 1 [.int .i64 x] by rw [← hX]; exact (own_one X14 _).rd)
            have l6 := T.out.rows
            have q6 := T.out.swap.rows
            have T := hid (show Pr W2.heap.size W2 X6 _ _ _ _ _ _ by rw [← hX]; exact T.out.alloc _)
            have R14 := hid (R14.out.below bX)
            clear hX bX kX sX hBn
            try simp only [Act.put, List.setIfInBounds_toArray, List.set_cons_zero, List.set_cons_succ]
            refine wpAnyH_ready (rs := [7]) (by kernel_rfl) (by simp) (AllReadyH.cons (o := ⟨_, _, _, _, _, _⟩) rfl (fun K hK => ?_) AllReadyH.nil)
            refine step_append_ints (m := 1) rfl _ _ rfl T.out.1 R6.out rfl rfl (by simp [Value.oneCell']) (by omega) ?_
            intro Av7 cv7 W7 ho hm hr
            have hBn := below_mod hHeld.2.2.2.out hHeld.2.2.2.out.size hm fun g hg => (T.out.1.row hg).1
            refine hK.out _ _ ⟨box3 (keep_blk KA.out hBn), (hBn.cell (by omega)).trans el, (hBn.cell (by omega)).trans eq, hid hBn⟩ (fun hHeld => ?_)
            clear hK K
            have R14 := hid (R14.out.mod hm fun g _ hg hrow => by have := l14 g hrow; omega)
            have T := hid (T.out.push ho hm hr)
            clear ho hm hr hBn
            try simp only [Act.put, List.setIfInBounds_toArray, List.set_cons_zero, List.set_cons_succ]
            refine wpAnyH_ready (rs := [15]) (by kernel_rfl) (by simp) (AllReadyH.cons (o := ⟨_, _, _, _, _, _⟩) rfl (fun K hK => ?_) AllReadyH.nil)
            refine step_append_ints (m := 1) rfl _ _ rfl T.out.swap.1 R14.out rfl rfl (by simp [Value.oneCell']) (by omega) ?_
            intro Av15 cv15 W15 ho hm hr
            have hBn := below_mod hHeld.2.2.2.out hHeld.2.2.2.out.size hm fun g hg => (T.out.swap.1.row hg).1
            refine hK.out _ _ ⟨box3 (keep_blk KA.out hBn), (hBn.cell (by omega)).trans el, (hBn.cell (by omega)).trans eq, hid hBn⟩ (fun hHeld => ?_)
            clear hK K
            have T := hid (T.out.swap.push ho hm hr)
            have T := hid T.out.swap
            clear ho hm hr hBn
            try simp only [Act.put, List.setIfInBounds_toArray, List.set_cons_zero, List.set_cons_succ]
            refine wpAnyH_ready (rs := [16]) (by kernel_rfl) (by simp) (AllReadyH.cons (o := ⟨_, _, _, _, _, _⟩) rfl (fun K hK => ?_) AllReadyH.nil)
            go_simp
            go_simp
            refine hK.out _ _ hHeld (fun hHeld => ?_)
            clear hK K
            try simp only [Act.put, List.setIfInBounds_toArray, List.set_cons_zero, List.set_cons_succ]
            refine wpAnyH_ready (rs := [17]) (by kernel_rfl) (by simp) (AllReadyH.cons (o := ⟨_, _, _, _, _, _⟩) rfl (fun K hK => ?_) AllReadyH.nil)
            go_simp
            go_simp
            refine hK.out _ _ hHeld (fun hHeld => ?_)
            clear hK K
            try simp only [Act.put, List.setIfInBounds_toArray, List.set_cons_zero, List.set_cons_succ]
            refine wpAnyH_done (by kernel_rfl) ?_ _
            go_wp2_with fail
            go_roundw
            case rel => exact ⟨i + 1, Av7, cv7, Av15, cv15, by omega, by go_num, by first | rfl | trivial, by first | rfl | trivial, hid (by rw [hnl.out, hnk.out, Hxx.out, Hyy.out, ints_append, ints_append]; exact T.out)⟩
            case measure => simp [intOf]; omega
        · have hin : i = n := by omega
          have x1 : ¬ ((i : Int) < (n : Int)) := by omega
          have hT := HT.out
          have htl : a.lits.take i = a.lits := by rw [hin, ← Hxl.out, List.take_length]
          have htk : a.coefs.take i = a.coefs := by rw [hin, ← Hkl.out, List.take_length]
          rw [htl, htk] at hT
          have HT0 := hid hT
          have hin2 : i ≤ 65536 := by omega
          clear htl htk hT HT HB kbw kow hin
          have kbw := hid (keep_blk KB.out HT0.out.2.2.2.1)
          obtain ⟨b0, b1, b2⟩ := box3 kbw.out
          go_wp2_with fail
          go_loopw [9, 6, 7] (fun jv lv cv W => ∃ (j : Nat) (A1 : Option Addr) (d1 : Nat) (A2 : Option Addr) (d2 : Nat), j ≤ n2 ∧ jv = .int .i64 j ∧ lv = .slice A1 (i + j) d1 ∧ cv = .slice A2 (i + j) d2 ∧ Hid (Pr W2.heap.size W2 W (.slice A1 (i + j) d1) (.slice A2 (i + j) d2) (i + j) (i + j) (ints (a.lits ++ b.lits.take j)) (ints (a.coefs ++ b.coefs.take j)))) (fun jv _ _ _ => n2 - (intOf jv).toNat)
          case atStart => exact ⟨0, A1, d1, A2, d2, by omega, rfl, rfl, rfl, hid (by simp only [List.take_zero, List.append_nil]; exact HT0.out)⟩
          case round =>
            obtain ⟨j, A1, d1, A2, d2, hj, rfl, rfl, rfl, HT⟩ := hrel
            have HB := hid HT.out.2.2.2.1
            have kaw := hid (keep_blk KA.out HB.out)
            have kbw := hid (keep_blk KB.out HB.out)
            have kow := hid (keep_blk KO2.out HB.out)
            obtain ⟨b0, b1, b2⟩ := box3 kbw.out
            by_cases hlt2 : j < n2
            · have y1 : (j : Int) < (n2 : Int) := by omega
              obtain ⟨gL, oL, rfl, hgL, hgL2, el⟩ := hy0.out.cell.2 j hlt2
              obtain ⟨gQ, oQ, rfl, hgQ, hgQ2, eq⟩ := hj0.out.cell.2 j hlt2
              obtain ⟨x, hx⟩ : ∃ x, nth b.lits j = x := ⟨_, rfl⟩
              obtain ⟨y, hy⟩ : ∃ y, nth b.coefs j = y := ⟨_, rfl⟩
              have hnl := hid (take_nth (xs := b.lits) (k := j) (by rw [Hyl.out]; exact hlt2))
              have hnk := hid (take_nth (xs := b.coefs) (k := j) (by rw [Hjl.out]; exact hlt2))
              rw [hx] at el
              rw [hy] at eq
              have Hxx := hid hx
              have Hyy := hid hy
              have hBD : Below W2.heap.size W2 wr.drew := HB.out.drew
              clear hx hy
              go_upto_region 11 with fail
              refine wp_region_held_drew (S := fun w' => (w'.cell? ⟨sz + 1, 0, none⟩ = some (.slice (some ⟨gL, oL, none⟩) n2 cn2) ∧ w'.cell? ⟨sz + 1, 1, none⟩ = some (.slice (some ⟨gQ, oQ, none⟩) n2 cm2) ∧ w'.cell? ⟨sz + 1, 2, none⟩ = some (.int .i64 bd2)) ∧ w'.cell? ⟨gL, oL + j, none⟩ = some (.int .i64 x) ∧ w'.cell? ⟨gQ, oQ + j, none⟩ = some (.int .i64 y) ∧ Hid (Below W2.heap.size W2 w')) (by kernel_rfl) ⟨box3 (keep_blk KB.out hBD), (hBD.cell (by omega)).trans el, (hBD.cell (by omega)).trans eq, hid hBD⟩ (fun hHeld => ?_)
              have T := hid HT.out.drew
              obtain ⟨WD, hWD⟩ : ∃ W, wr.drew = W := ⟨_, rfl⟩
              rw [hWD] at hHeld T ⊢
              clear hWD
              refine wpAnyH_take (i := 0) (oi := ⟨_, _, _, _, _, _⟩) (v := ?_) rfl (by kernel_rfl) (by kernel_rfl) (by kernel_rfl) (fun _ _ _ h => h) (Or.inl ⟨by rfl, ?_⟩) (by assumption) ?_
              rotate_left
              · intro w hSw
                try dsimp only at hSw
                go_simp
                try with_reducible rfl
              simp only [Act.put, List.setIfInBounds_toArray, List.set_cons_zero, List.set_cons_succ]
              refine wpAnyH_take (i := 1) (oi := ⟨_, _, _, _, _, _⟩) (v := ?_) rfl (by kernel_rfl) (by kernel_rfl) (by kernel_rfl) (fun _ _ _ h => h) (Or.inl ⟨by rfl, ?_⟩) (by assumption) ?_
              rotate_left
              · intro w hSw
                try dsimp only at hSw
                go_simp
                try with_reducible rfl
              simp only [Act.put, List.setIfInBounds_toArray, List.set_cons_zero, List.set_cons_succ]
              refine wpAnyH_take (i := 3) (oi := ⟨_, _, _, _, _, _⟩) (v := ?_) rfl (by kernel_rfl) (by kernel_rfl) (by kernel_rfl) (fun _ _ _ h => h) (Or.inl ⟨by rfl, ?_⟩) (by assumption) ?_
              rotate_left
              · intro w hSw
                try dsimp only at hSw
                go_simp
                try with_reducible rfl
              simp only [Act.put, List.setIfInBounds_toArray, List.set_cons_zero, List.set_cons_succ]
              refine wpAnyH_take (i := 8) (oi := ⟨_, _, _, _, _, _⟩) (v := ?_) rfl (by kernel_rfl) (by kernel_rfl) (by kernel_rfl) (fun _ _ _ h => h) (Or.inl ⟨by rfl, ?_⟩) (by assumption) ?_
              rotate_left
              · intro w hSw
                try dsimp only at hSw
                go_simp
                try with_reducible rfl
              simp only [Act.put, List.setIfInBounds_toArray, List.set_cons_zero, List.set_cons_succ]
              refine wpAnyH_take (i := 9) (oi := ⟨_, _, _, _, _, _⟩) (v := ?_) rfl (by kernel_rfl) (by kernel_rfl) (by kernel_rfl) (fun _ _ _ h => h) (Or.inl ⟨by rfl, ?_⟩) (by assumption) ?_
              rotate_left
              · intro w hSw
                try dsimp only at hSw
                go_simp
                try with_reducible rfl
              simp only [Act.put, List.setIfInBounds_toArray, List.set_cons_zero, List.set_cons_succ]
              refine wpAnyH_take (i := 11) (oi := ⟨_, _, _, _, _, _⟩) (v := ?_) rfl (by kernel_rfl) (by kernel_rfl) (by kernel_rfl) (fun _ _ _ h => h) (Or.inl ⟨by rfl, ?_⟩) (by assumption) ?_
              rotate_left
              · intro w hSw
                try dsimp only at hSw
                go_simp
                try with_reducible rfl
              simp only [Act.put, List.setIfInBounds_toArray, List.set_cons_zero, List.set_cons_succ]
              refine wpAnyH_take (i := 2) (oi := ⟨_, _, _, _, _, _⟩) (v := ?_) rfl (by kernel_rfl) (by kernel_rfl) (by kernel_rfl) (fun _ _ _ h => h) (Or.inl ⟨by rfl, ?_⟩) (by assumption) ?_
              rotate_left
              · intro w hSw
                try dsimp only at hSw
                go_simp
                try with_reducible rfl
              simp only [Act.put, List.setIfInBounds_toArray, List.set_cons_zero, List.set_cons_succ]
              refine wpAnyH_take (i := 10) (oi := ⟨_, _, _, _, _, _⟩) (v := ?_) rfl (by kernel_rfl) (by kernel_rfl) (by kernel_rfl) (fun _ _ _ h => h) (Or.inl ⟨by rfl, ?_⟩) (by assumption) ?_
              rotate_left
              · intro w hSw
                try dsimp only at hSw
                go_simp
                try with_reducible rfl
              simp only [Act.put, List.setIfInBounds_toArray, List.set_cons_zero, List.set_cons_succ]
              refine wpAnyH_take (i := 4) (oi := ⟨_, _, _, _, _, _⟩) (v := ?_) rfl (by kernel_rfl) (by kernel_rfl) (by kernel_rfl) (fun _ _ _ h => h) (Or.inl ⟨by rfl, ?_⟩) (by assumption) ?_
              rotate_left
              · intro w hSw
                try dsimp only at hSw
                go_simp
                try with_reducible rfl
              simp only [Act.put, List.setIfInBounds_toArray, List.set_cons_zero, List.set_cons_succ]
              refine wpAnyH_take (i := 12) (oi := ⟨_, _, _, _, _, _⟩) (v := ?_) rfl (by kernel_rfl) (by kernel_rfl) (by kernel_rfl) (fun _ _ _ h => h) (Or.inl ⟨by rfl, ?_⟩) (by assumption) ?_
              rotate_left
              · intro w hSw
                try dsimp only at hSw
                go_simp
                try with_reducible rfl
              simp only [Act.put, List.setIfInBounds_toArray, List.set_cons_zero, List.set_cons_succ]
              refine wpAnyH_take (i := 5) (oi := ⟨_, _, _, _, _, _⟩) (v := ?_) rfl (by kernel_rfl) (by kernel_rfl) (by kernel_rfl) (fun _ _ _ h => h) (Or.inl ⟨by rfl, ?_⟩) (by assumption) ?_
              rotate_left
              · intro w hSw
                try dsimp only at hSw
                go_simp
                try with_reducible rfl
              simp only [Act.put, List.setIfInBounds_toArray, List.set_cons_zero, List.set_cons_succ]
              refine wpAnyH_take (i := 13) (oi := ⟨_, _, _, _, _, _⟩) (v := ?_) rfl (by kernel_rfl) (by kernel_rfl) (by kernel_rfl) (fun _ _ _ h => h) (Or.inl ⟨by rfl, ?_⟩) (by assumption) ?_
              rotate_left
              · intro w hSw
                try dsimp only at hSw
                go_simp
                try with_reducible rfl
              simp only [Act.put, List.setIfInBounds_toArray, List.set_cons_zero, List.set_cons_succ]
              refine wpAnyH_ready (rs := [6, 14]) (by kernel_rfl) (by simp) (AllReadyH.cons (o := ⟨_, _, _, _, _, _⟩) rfl (fun K hK => ?_) (AllReadyH.cons (o := ⟨_, _, _, _, _, _⟩) rfl (fun K hK => ?_) AllReadyH.nil))
              · go_simp
                obtain ⟨X6, hX, bX, kX, sX⟩ := alloc_step WD (.cells #[.int .i64 x] 3)
                rw [hX]
                have hBn := hHeld.2.2.2.out.trans (bX.mono hHeld.2.2.2.out.size)
                refine hK.out _ _ ⟨box3 (keep_blk KB.out hBn), (hBn.cell (by omega)).trans el, (hBn.cell (by omega)).trans eq, hid hBn⟩ (fun hHeld => ?_)
                clear hK K
                have R6 := hid (show Rd X6 (fun g => g = WD.heap.size) 1 (.slice (some ⟨WD.heap.size, 0, none⟩) 1 1) 1 [.int .i64 x] by rw [← hX]; exact (own_one WD _).rd)
                have l6 := T.out.rows
                have q6 := T.out.swap.rows
                have T := hid (show Pr W2.heap.size W2 X6 _ _ _ _ _ _ by rw [← hX]; exact T.out.alloc _)
                clear hX bX kX sX hBn
                try simp only [Act.put, List.setIfInBounds_toArray, List.set_cons_zero, List.set_cons_succ]
                refine wpAnyH_ready (rs := [7, 14]) (by kernel_rfl) (by simp) (AllReadyH.cons (o := ⟨_, _, _, _, _, _⟩) rfl (fun K hK => ?_) (AllReadyH.cons (o := ⟨_, _, _, _, _, _⟩) rfl (fun K hK => ?_) AllReadyH.nil))
                · refine step_append_ints (m := 1) rfl _ _ rfl T.out.1 R6.out rfl rfl (by simp [Value.oneCell']) (by omega) ?_
                  intro Av7 cv7 W7 ho hm hr
                  have hBn := below_mod hHeld.2.2.2.out hHeld.2.2.2.out.size hm fun g hg => (T.out.1.row hg).1
                  refine hK.out _ _ ⟨box3 (keep_blk KB.out hBn), (hBn.cell (by omega)).trans el, (hBn.cell (by omega)).trans eq, hid hBn⟩ (fun hHeld => ?_)
                  clear hK K
                  have T := hid (T.out.push ho hm hr)
                  clear ho hm hr hBn
                  try simp only [Act.put, List.setIfInBounds_toArray, List.set_cons_zero, List.set_cons_succ]
                  refine wpAnyH_ready (rs := [14]) (by kernel_rfl) (by simp) (AllReadyH.cons (o := ⟨_, _, _, _, _, _⟩) rfl (fun K hK => ?_) AllReadyH.nil)
                  go_simp
                  obtain ⟨X14, hX, bX, kX, sX⟩ := alloc_step W7 (.cells #[.int .i64 y] 3)
                  rw [hX]
                  have hBn := hHeld.2.2.2.out.trans (bX.mono hHeld.2.2.2.out.size)
                  refine hK.out _ _ ⟨box3 (keep_blk KB.out hBn), (hBn.cell (by omega)).trans el, (hBn.cell (by omega)).trans eq, hid hBn⟩ (fun hHeld => ?_)
                  clear hK K
                  have R14 := hid (show Rd X14 (fun g => g = W7.heap.size) 1 (.slice (some ⟨W7.heap.size, 0, none⟩) 1 1) 1 [.int .i64 y] by rw [← hX]; exact (own_one W7 _).rd)
                  have l14 := T.out.rows
                  have q14 := T.out.swap.rows
                  have T := hid (show Pr W2.heap.size W2 X14 _ _ _ _ _ _ by rw [← hX]; exact T.out.alloc _)
                  clear hX bX kX sX hBn
                  try simp only [Act.put, List.setIfInBounds_toArray, List.set_cons_zero, List.set_cons_succ]
                  refine wpAnyH_ready (rs := [15]) (by kernel_rfl) (by simp) (AllReadyH.cons (o := ⟨_, _, _, _, _, _⟩) rfl (fun K hK => ?_) AllReadyH.nil)
                  refine step_append_ints (m := 1) rfl _ _ rfl T.out.swap.1 R14.out rfl rfl (by simp [Value.oneCell']) (by omega) ?_
                  intro Av15 cv15 W15 ho hm hr
                  have hBn := below_mod hHeld.2.2.2.out hHeld.2.2.2.out.size hm fun g hg => (T.out.swap.1.row hg).1
                  refine hK.out _ _ ⟨box3 (keep_blk KB.out hBn), (hBn.cell (by omega)).trans el, (hBn.cell (by omega)).trans eq, hid hBn⟩ (fun hHeld => ?_)
                  clear hK K
                  have T := hid (T.out.swap.push ho hm hr)
                  have T := hid T.out.swap
                  clear ho hm hr hBn
                  try simp only [Act.put, List.setIfInBounds_toArray, List.set_cons_zero, List.set_cons_succ]
                  refine wpAnyH_ready (rs := [16]) (by kernel_rfl) (by simp) (AllReadyH.cons (o := ⟨_, _, _, _, _, _⟩) rfl (fun K hK => ?_) AllReadyH.nil)
                  go_simp
                  go_simp
                  refine hK.out _ _ hHeld (fun hHeld => ?_)
                  clear hK K
                  try simp only [Act.put, List.setIfInBounds_toArray, List.set_cons_zero, List.set_cons_succ]
                  refine wpAnyH_ready (rs := [17]) (by kernel_rfl) (by simp) (AllReadyH.cons (o := ⟨_, _, _, _, _, _⟩) rfl (fun K hK => ?_) AllReadyH.nil)
                  go_simp
                  go_simp
                  refine hK.out _ _ hHeld (fun hHeld => ?_)
                  clear hK K
                  try simp only [Act.put, List.setIfInBounds_toArray, List.set_cons_zero, List.set_cons_succ]
                  refine wpAnyH_done (by kernel_rfl) ?_ _
                  go_wp2_with fail
                  go_roundw
                  case rel => exact ⟨j + 1, Av7, cv7, Av15, cv15, by omega, by go_num, by first | rfl | trivial, by first | rfl | trivial, hid (by rw [hnl.out, hnk.out, Hxx.out, Hyy.out, ← List.append_assoc, ← List.append_assoc, ints_append, ints_append (a.coefs ++ List.take j b.coefs)]; exact T.out)⟩
                  case measure => simp [intOf]; omega
                · go_simp
                  obtain ⟨X14, hX, bX, kX, sX⟩ := alloc_step X6 (.cells #[.int .i64 y] 3)
                  rw [hX]
                  have hBn := hHeld.2.2.2.out.trans (bX.mono hHeld.2.2.2.out.size)
                  refine hK.out _ _ ⟨box3 (keep_blk KB.out hBn), (hBn.cell (by omega)).trans el, (hBn.cell (by omega)).trans eq, hid hBn⟩ (fun hHeld => ?_)
                  clear hK K
                  have R14 := hid (show Rd X14 (fun g => g = X6.heap.size) 1 (.slice (some ⟨X6.heap.size, 0, none⟩) 1 1) 1 [.int .i64 y] by rw [← hX]; exact (own_one X6 _).rd)
                  have l14 := T.out.rows
                  have q14 := T.out.swap.rows
                  have T := hid (show Pr W2.heap.size W2 X14 _ _ _ _ _ _ by rw [← hX]; exact T.out.alloc _)
                  have R6 := hid (R6.out.below bX)
                  clear hX bX kX sX hBn
                  try simp only [Act.put, List.setIfInBounds_toArray, List.set_cons_zero, List.set_cons_succ]
                  refine wpAnyH_ready (rs := [7]) (by kernel_rfl) (by simp) (AllReadyH.cons (o := ⟨_, _, _, _, _, _⟩) rfl (fun K hK => ?_) AllReadyH.nil)
                  refine step_append_ints (m := 1) rfl _ _ rfl T.out.1 R6.out rfl rfl (by simp [Value.oneCell']) (by omega) ?_
                  intro Av7 cv7 W7 ho hm hr
                  have hBn := below_mod hHeld.2.2.2.out hHeld.2.2.2.out.size hm fun g hg => (T.out.1.row hg).1
                  refine hK.out _ _ ⟨box3 (keep_blk KB.out hBn), (hBn.cell (by omega)).trans el, (hBn.cell (by omega)).trans eq, hid hBn⟩ (fun hHeld => ?_)
                  clear hK K
                  have R14 := hid (R14.out.mod hm fun g _ hg hrow => by have := l14 g hrow; omega)
                  have T := hid (T.out.push ho hm hr)
                  clear ho hm hr hBn
                  try simp only [Act.put, List.setIfInBounds_toArray, List.set_cons_zero, List.set_cons_succ]
                  refine wpAnyH_ready (rs := [15]) (by kernel_rfl) (by simp) (AllReadyH.cons (o := ⟨_, _, _, _, _, _⟩) rfl (fun K hK => ?_) AllReadyH.nil)
                  refine step_append_ints (m := 1) rfl _ _ rfl T.out.swap.1 R14.out rfl rfl (by simp [Value.oneCell']) (by omega) ?_
                  intro Av15 cv15 W15 ho hm hr
                  have hBn := below_mod hHeld.2.2.2.out hHeld.2.2.2.out.size hm fun g hg => (T.out.swap.1.row hg).1
                  refine hK.out _ _ ⟨box3 (keep_blk KB.out hBn), (hBn.cell (by omega)).trans el, (hBn.cell (by omega)).trans eq, hid hBn⟩ (fun hHeld => ?_)
                  clear hK K
                  have T := hid (T.out.swap.push ho hm hr)
                  have T := hid T.out.swap
                  clear ho hm hr hBn
                  try simp only [Act.put, List.setIfInBounds_toArray, List.set_cons_zero, List.set_cons_succ]
                  refine wpAnyH_ready (rs := [16]) (by kernel_rfl) (by simp) (AllReadyH.cons (o := ⟨_, _, _, _, _, _⟩) rfl (fun K hK => ?_) AllReadyH.nil)
                  go_simp
                  go_simp
                  refine hK.out _ _ hHeld (fun hHeld => ?_)
                  clear hK K
                  try simp only [Act.put, List.setIfInBounds_toArray, List.set_cons_zero, List.set_cons_succ]
                  refine wpAnyH_ready (rs := [17]) (by kernel_rfl) (by simp) (AllReadyH.cons (o := ⟨_, _, _, _, _, _⟩) rfl (fun K hK => ?_) AllReadyH.nil)
                  go_simp
                  go_simp
                  refine hK.out _ _ hHeld (fun hHeld => ?_)
                  clear hK K
                  try simp only [Act.put, List.setIfInBounds_toArray, List.set_cons_zero, List.set_cons_succ]
                  refine wpAnyH_done (by kernel_rfl) ?_ _
                  go_wp2_with fail
                  go_roundw
                  case rel => exact ⟨j + 1, Av7, cv7, Av15, cv15, by omega, by go_num, by first | rfl | trivial, by first | rfl | trivial, hid (by rw [hnl.out, hnk.out, Hxx.out, Hyy.out, ← List.append_assoc, ← List.append_assoc, ints_append, ints_append (a.coefs ++ List.take j b.coefs)]; exact T.out)⟩
                  case measure => simp [intOf]; omega
              · go_simp
                obtain ⟨X14, hX, bX, kX, sX⟩ := alloc_step WD (.cells #[.int .i64 y] 3)
                rw [hX]
                have hBn := hHeld.2.2.2.out.trans (bX.mono hHeld.2.2.2.out.size)
                refine hK.out _ _ ⟨box3 (keep_blk KB.out hBn), (hBn.cell (by omega)).trans el, (hBn.cell (by omega)).trans eq, hid hBn⟩ (fun hHeld => ?_)
                clear hK K
                have R14 := hid (show Rd X14 (fun g => g = WD.heap.size) 1 (.slice (some ⟨WD.heap.size, 0, none⟩) 1 1) 1 [.int .i64 y] by rw [← hX]; exact (own_one WD _).rd)
                have l14 := T.out.rows
                have q14 := T.out.swap.rows
                have T := hid (show Pr W2.heap.size W2 X14 _ _ _ _ _ _ by rw [← hX]; exact T.out.alloc _)
                clear hX bX kX sX hBn
                try simp only [Act.put, List.setIfInBounds_toArray, List.set_cons_zero, List.set_cons_succ]
                refine wpAnyH_ready (rs := [6]) (by kernel_rfl) (by simp) (AllReadyH.cons (o := ⟨_, _, _, _, _, _⟩) rfl (fun K hK => ?_) AllReadyH.nil)
                go_simp
                obtain ⟨X6, hX, bX, kX, sX⟩ := alloc_step X14 (.cells #[.int .i64 x] 3)
                rw [hX]
                have hBn := hHeld.2.2.2.out.trans (bX.mono hHeld.2.2.2.out.size)
                refine hK.out _ _ ⟨box3 (keep_blk KB.out hBn), (hBn.cell (by omega)).trans el, (hBn.cell (by omega)).trans eq, hid hBn⟩ (fun hHeld => ?_)
                clear hK K
                have R6 := hid (show Rd X6 (fun g => g = X14.heap.size) 1 (.slice (some ⟨X14.heap.size, 0, none⟩) 1 1) 1 [.int .i64 x] by rw [← hX]; exact (own_one X14 _).rd)
                have l6 := T.out.rows
                have q6 := T.out.swap.rows
                have T := hid (show Pr W2.heap.size W2 X6 _ _ _ _ _ _ by rw [← hX]; exact T.out.alloc _)
                have R14 := hid (R14.out.below bX)
                clear hX bX kX sX hBn
                try simp only [Act.put, List.setIfInBounds_toArray, List.set_cons_zero, List.set_cons_succ]
                refine wpAnyH_ready (rs := [7]) (by kernel_rfl) (by simp) (AllReadyH.cons (o := ⟨_, _, _, _, _, _⟩) rfl (fun K hK => ?_) AllReadyH.nil)
                refine step_append_ints (m := 1) rfl _ _ rfl T.out.1 R6.out rfl rfl (by simp [Value.oneCell']) (by omega) ?_
                intro Av7 cv7 W7 ho hm hr
                have hBn := below_mod hHeld.2.2.2.out hHeld.2.2.2.out.size hm fun g hg => (T.out.1.row hg).1
                refine hK.out _ _ ⟨box3 (keep_blk KB.out hBn), (hBn.cell (by omega)).trans el, (hBn.cell (by omega)).trans eq, hid hBn⟩ (fun hHeld => ?_)
                clear hK K
                have R14 := hid (R14.out.mod hm fun g _ hg hrow => by have := l14 g hrow; omega)
                have T := hid (T.out.push ho hm hr)
                clear ho hm hr hBn
                try simp only [Act.put, List.setIfInBounds_toArray, List.set_cons_zero, List.set_cons_succ]
                refine wpAnyH_ready (rs := [15]) (by kernel_rfl) (by simp) (AllReadyH.cons (o := ⟨_, _, _, _, _, _⟩) rfl (fun K hK => ?_) AllReadyH.nil)
                refine step_append_ints (m := 1) rfl _ _ rfl T.out.swap.1 R14.out rfl rfl (by simp [Value.oneCell']) (by omega) ?_
                intro Av15 cv15 W15 ho hm hr
                have hBn := below_mod hHeld.2.2.2.out hHeld.2.2.2.out.size hm fun g hg => (T.out.swap.1.row hg).1
                refine hK.out _ _ ⟨box3 (keep_blk KB.out hBn), (hBn.cell (by omega)).trans el, (hBn.cell (by omega)).trans eq, hid hBn⟩ (fun hHeld => ?_)
                clear hK K
                have T := hid (T.out.swap.push ho hm hr)
                have T := hid T.out.swap
                clear ho hm hr hBn
                try simp only [Act.put, List.setIfInBounds_toArray, List.set_cons_zero, List.set_cons_succ]
                refine wpAnyH_ready (rs := [16]) (by kernel_rfl) (by simp) (AllReadyH.cons (o := ⟨_, _, _, _, _, _⟩) rfl (fun K hK => ?_) AllReadyH.nil)
                go_simp
                go_simp
                refine hK.out _ _ hHeld (fun hHeld => ?_)
                clear hK K
                try simp only [Act.put, List.setIfInBounds_toArray, List.set_cons_zero, List.set_cons_succ]
                refine wpAnyH_ready (rs := [17]) (by kernel_rfl) (by simp) (AllReadyH.cons (o := ⟨_, _, _, _, _, _⟩) rfl (fun K hK => ?_) AllReadyH.nil)
                go_simp
                go_simp
                refine hK.out _ _ hHeld (fun hHeld => ?_)
                clear hK K
                try simp only [Act.put, List.setIfInBounds_toArray, List.set_cons_zero, List.set_cons_succ]
                refine wpAnyH_done (by kernel_rfl) ?_ _
                go_wp2_with fail
                go_roundw
                case rel => exact ⟨j + 1, Av7, cv7, Av15, cv15, by omega, by go_num, by first | rfl | trivial, by first | rfl | trivial, hid (by rw [hnl.out, hnk.out, Hxx.out, Hyy.out, ← List.append_assoc, ← List.append_assoc, ints_append, ints_append (a.coefs ++ List.take j b.coefs)]; exact T.out)⟩
                case measure => simp [intOf]; omega
            · have hjn : j = n2 := by omega
              have y1 : ¬ ((j : Int) < (n2 : Int)) := by omega
              have hT := HT.out
              have htl : b.lits.take j = b.lits := by rw [hjn, ← Hyl.out, List.take_length]
              have htk : b.coefs.take j = b.coefs := by rw [hjn, ← Hjl.out, List.take_length]
              rw [htl, htk] at hT
              have q1 := hid hT.1.rd
              have q2 := hid hT.2.1.rd
              have BW := hid (B2.out.trans (HB.out.mono (by omega)))
              have sw := HB.out.size
              obtain ⟨a0, a1, a2⟩ := box3 kaw.out
              clear htl htk hT HT hjn HB
              go_wp2_with fail
              refine (rnorm_any q1.out q2.out HI1.out HI2.out HI3).mono ?_
              rintro r W3 ⟨⟨pv, rfl, hpv⟩, b3⟩
              rw [HR.out] at hpv ⊢
              obtain ⟨⟨A1, n1, c1, A2, n2, c2, rfl, r1, r2⟩, hb1⟩ := hpv
              have KO3 := hid (keep_blk kow.out b3)
              have B3 := hid (BW.out.trans (b3.mono (by omega)))
              have s3 := b3.size
              have R1 := hid r1
              have R2 := hid r2
              have Hb1 := hid hb1
              clear r1 r2 hb1 b3
              obtain ⟨t0, t1, t2⟩ := box3 KO3.out
              obtain ⟨f0, f1, f2⟩ := froz3 KO3.out
              go_wp2_with fail
              obtain ⟨u0, u1, u2, m3⟩ := set3 t0 t1 t2 (.slice A1 n1 c1) (.slice A2 n2 c2) (.int .i64 R.1.bound)
              refine bodyPost_ret (v := .tuple #[.agg #[.slice A1 n1 c1, .slice A2 n2 c2, .int .i64 R.1.bound], .int .i64 R.2]) (by simp [results, Tryd.f13, go_sem, u0, u1, u2]) rfl ⟨⟨_, rfl, ⟨A1, n1, c1, A2, n2, c2, rfl, ?_, ?_⟩, Hb1.out⟩, by rw [hsz]; exact below_mod B3.out (by omega) m3 fun g hg => by omega⟩
              · exact (R1.out.mod m3 fun g _ hf e => by omega).mono fun g _ hf => by omega
              · exact (R2.out.mod m3 fun g _ hf e => by omega).mono fun g _ hf => by omega
    · have hf : b.ok = false := by simpa using hok2
      rw [hf]
      obtain rfl : R = (⟨[], [], 0⟩, 2) := by rw [← HR0.out]; unfold Pb.addB; rw [if_neg (by simp [hok2])]; rfl
      obtain ⟨t0, t1, t2⟩ := box3 KO2.out
      obtain ⟨f0, f1, f2⟩ := froz3 KO2.out
      clear HR0 hf hok2 hok hbd hbd2
      go_wp2_with fail
      obtain ⟨u0, u1, u2, m3⟩ := set3 t0 t1 t2 (.slice none 0 0) (.slice none 0 0) (.int .i64 0)
      exact bodyPost_ret (v := .tuple #[.agg #[.slice none 0 0, .slice none 0 0, .int .i64 0], .int .i64 2]) (by simp [results, Tryd.f13, go_sem, u0, u1, u2]) rfl ⟨⟨_, rfl, PbRd.zero _ _⟩, by rw [hsz]; exact below_mod B2.out (by omega) m3 fun g hg => by omega⟩
  · have hf : a.ok = false := by simpa using hok
    rw [hf]
    obtain rfl : R = (⟨[], [], 0⟩, 2) := by rw [← HR0.out]; unfold Pb.addB; rw [if_neg (by simp [hok])]; rfl
    obtain ⟨t0, t1, t2⟩ := box3 KO1.out
    obtain ⟨f0, f1, f2⟩ := froz3 KO1.out
    clear HR0 hf hok hbd hbd2
    go_wp2_with fail
    obtain ⟨u0, u1, u2, m3⟩ := set3 t0 t1 t2 (.slice none 0 0) (.slice none 0 0) (.int .i64 0)
    exact bodyPost_ret (v := .tuple #[.agg #[.slice none 0 0, .slice none 0 0, .int .i64 0], .int .i64 2]) (by simp [results, Tryd.f13, go_sem, u0, u1, u2]) rfl ⟨⟨_, rfl, PbRd.zero _ _⟩, by rw [hsz]; exact below_mod B1.out (by omega) m3 fun g hg => by omega⟩
end

section
open Go.RowKit

/-- The first i, without the p-th. -/
def cutUp (xs : List Int) (p i : Nat) : List Int := if p < i then xs.take p ++ (xs.take i).drop (p + 1) else xs.take i
def cutLen (p i : Nat) : Nat := if p < i then i - 1 else i
theorem cutLen_le (p i : Nat) : cutLen p i ≤ i := by unfold cutLen; split <;> omega
theorem cutLen_at {p i : Nat} (h : i = p) : cutLen p (i + 1) = cutLen p i := by unfold cutLen; rw [if_pos (by omega), if_neg (by omega)]; omega
theorem cutLen_next {p i : Nat} (h : ¬ i = p) : cutLen p (i + 1) = cutLen p i + 1 := by
  unfold cutLen
  by_cases e : p < i
  · rw [if_pos e, if_pos (by omega)]; omega
  · rw [if_neg e, if_neg (by omega)]
theorem cutUp_at {xs : List Int} {p i : Nat} (h : i = p) : cutUp xs p (i + 1) = cutUp xs p i := by
  subst h
  unfold cutUp
  rw [if_pos (by omega), if_neg (by omega), List.drop_eq_nil_of_le (by simp; omega), List.append_nil]
theorem cutUp_next {xs : List Int} {p i : Nat} (h : ¬ i = p) (hi : i < xs.length) : cutUp xs p (i + 1) = cutUp xs p i ++ [nth xs i] := by
  unfold cutUp
  by_cases e : p < i
  · rw [if_pos e, if_pos (by omega), take_nth hi, List.drop_append_of_le_length (by simp; omega), List.append_assoc]
  · rw [if_neg e, if_neg (by omega), take_nth hi]
theorem cutUp_all {xs : List Int} {p n : Nat} (h : p < n) (hn : xs.length = n) : cutUp xs p n = xs.take p ++ xs.drop (p + 1) := by
  subst hn
  unfold cutUp
  rw [if_pos h, List.take_length]
theorem cutUp_none {xs : List Int} {p n : Nat} (h : ¬ p < n) (hn : xs.length = n) : cutUp xs p n = xs := by
  unfold cutUp
  rw [if_neg h, List.take_of_length_le (by omega)]
theorem cutUp_mem {xs : List Int} {p i : Nat} {x : Int} (h : x ∈ cutUp xs p i) : x ∈ xs := by
  unfold cutUp at h
  split at h
  · rcases List.mem_append.1 h with h | h
    · exact List.mem_of_mem_take h
    · exact List.mem_of_mem_take (List.mem_of_mem_drop h)
  · exact List.mem_of_mem_take h
theorem at_iff {a : Pb} {v : Int} (ha : a.Ok) (hv : 1 ≤ v) {i : Nat} (hi : i < a.lits.length) : (((nth a.lits i).natAbs : Nat) : Int) = v ↔ i = a.at v := by
  have hp : ∀ l : Int, (l == v || l == -v) = true ↔ ((l.natAbs : Nat) : Int) = v := fun l => by simp; omega
  constructor
  · intro h
    have h1 : a.at v ≤ i := by
      unfold Pb.at
      exact Nat.le_of_not_lt fun hlt => by
        have := List.not_of_lt_findIdx hlt
        rw [← nth_eq hi] at this
        exact absurd ((hp _).2 h) (by rw [Bool.not_eq_true]; simpa using this)
    rcases Nat.lt_or_ge (a.at v) i with e | e
    · exfalso
      have h2 : a.at v < a.lits.length := by omega
      have h3 := List.findIdx_getElem (p := fun l : Int => l == v || l == -v) (xs := a.lits) (w := h2)
      have h4 := (hp _).1 h3
      have h5 := ha.differ (show a.at v ≠ i by omega) h2 hi
      unfold Pb.av at h5
      rw [nth_eq h2] at h5
      exact h5 (by rw [h]; exact h4)
    · omega
  · intro h
    have h2 : a.at v < a.lits.length := by omega
    have h3 := List.findIdx_getElem (p := fun l : Int => l == v || l == -v) (xs := a.lits) (w := h2)
    have h4 := (hp _).1 h3
    rw [h, nth_eq h2]
    exact h4

set_option maxRecDepth 100000 in
set_option maxHeartbeats 4000000 in
theorem rweak_any {w : World} {F : Nat → Prop} {va : Value} {a : Pb} {k : Int} (ha : PbRd w F va a) (hia : ∀ k ∈ a.coefs, I64 k) (h16 : a.lits.length ≤ 65536) :
    Calls Tryd.prog 20 #[va, .int .i64 k] w fun r w' => Gives w w' r (a.weakB k) := by
  obtain ⟨R, hR⟩ : ∃ R, a.weakB k = R := ⟨_, rfl⟩
  rw [hR]
  have HR0 := hid hR
  clear hR
  have Ha := hid ha
  obtain ⟨⟨L, n, cn, Q, m, cm, rfl, hx, hk⟩, hbd⟩ := ha
  obtain ⟨bd, hbd3⟩ : ∃ b, a.bound = b := ⟨_, rfl⟩
  rw [hbd3] at Ha ⊢
  obtain ⟨X0, hX0, bX0, k0, s0⟩ := alloc_step w (.cells #[.slice L n cn, .slice Q m cm, .int .i64 bd] 24)
  obtain ⟨X2, hX2, bX2, k2, s2⟩ := alloc_step X0 (.cells #[.slice none 0 0, .slice none 0 0, .int .i64 0] 24)
  have hB2 : Below w.heap.size w X2 := bX0.trans (bX2.mono bX0.size)
  have KA := hid (keep_blk k0 bX2)
  have KO := hid k2
  have HB2 := hid hB2
  have HX := hid hX0
  have HX2 := hid hX2
  rw [s0] at KO
  rw [s0] at s2
  have Hx := hid hx
  have Hk := hid hk
  have Hbd3 := hid hbd3
  clear k0 k2 bX0 bX2 s0 hX0 hX2 hB2 hx hk hbd3
  go_enter Tryd.func20, Tryd.ntmps20
  go_wp2_with fail
  rw [HX.out, HX2.out]
  clear HX HX2
  obtain ⟨sz, hsz⟩ : ∃ s, w.heap.size = s := ⟨_, rfl⟩
  rw [hsz] at KA KO HB2 s2
  rw [hsz]
  refine (rvalid_any (Ha.out.below (hsz ▸ HB2.out)) hia h16).mono ?_
  rintro r W2 ⟨rfl, bv⟩
  have KA1 := hid (keep_blk KA.out bv)
  have KO2 := hid (keep_blk KO.out bv)
  have B2 := hid (HB2.out.trans (bv.mono (by omega)))
  have sv := bv.size
  clear KA KO bv HB2
  obtain ⟨a0, a1, a2⟩ := box3 KA1.out
  by_cases hok : a.ok = true
  · rw [hok]
    by_cases h1 : k < 1
    · have h1' : ¬ (1 ≤ k) := by omega
      obtain rfl : R = (⟨[], [], 0⟩, 2) := by rw [← HR0.out]; unfold Pb.weakB; rw [if_pos (by simp [h1'])]; rfl
      obtain ⟨t0, t1, t2⟩ := box3 KO2.out
      obtain ⟨f0, f1, f2⟩ := froz3 KO2.out
      clear HR0 hok hbd
      go_wp2_with fail
      obtain ⟨u0, u1, u2, m3⟩ := set3 t0 t1 t2 (.slice none 0 0) (.slice none 0 0) (.int .i64 0)
      exact bodyPost_ret (v := .tuple #[.agg #[.slice none 0 0, .slice none 0 0, .int .i64 0], .int .i64 2]) (by simp [results, Tryd.f20, go_sem, u0, u1, u2]) rfl ⟨⟨_, rfl, PbRd.zero _ _⟩, by rw [hsz]; exact below_mod B2.out (by omega) m3 fun g hg => by omega⟩
    · by_cases h2 : 65536 < k
      · have h2' : ¬ (k ≤ 65536) := by omega
        have h2g : k > 65536 := h2
        obtain rfl : R = (⟨[], [], 0⟩, 2) := by rw [← HR0.out]; unfold Pb.weakB; rw [if_pos (by simp [h2'])]; rfl
        obtain ⟨t0, t1, t2⟩ := box3 KO2.out
        obtain ⟨f0, f1, f2⟩ := froz3 KO2.out
        clear HR0 hok hbd
        go_wp2_with fail
        obtain ⟨u0, u1, u2, m3⟩ := set3 t0 t1 t2 (.slice none 0 0) (.slice none 0 0) (.int .i64 0)
        exact bodyPost_ret (v := .tuple #[.agg #[.slice none 0 0, .slice none 0 0, .int .i64 0], .int .i64 2]) (by simp [results, Tryd.f20, go_sem, u0, u1, u2]) rfl ⟨⟨_, rfl, PbRd.zero _ _⟩, by rw [hsz]; exact below_mod B2.out (by omega) m3 fun g hg => by omega⟩
      · have h3 : 1 ≤ k ∧ k ≤ 65536 := by omega
        have hA := (Pb.ok_iff a).1 hok
        obtain rfl : n = m := by have h1 := hA.len; have h2 := Hx.out.1; have h3 := Hk.out.1; simp [ints_length] at h2 h3; omega
        have hn : n ≤ 65536 := by have h1 := hA.few; have h2 := Hx.out.1; simp [ints_length] at h2; omega
        have hbr := hA.low
        have hbr2 := hA.high
        rw [Hbd3.out] at hbr hbr2
        have hxl : a.lits.length = n := by have := Hx.out.1; simpa [ints_length] using this
        have hkl : a.coefs.length = n := by have := Hk.out.1; simpa [ints_length] using this
        have hx0 := hid ((Hx.out.mono (G := fun g => g < sz) fun g hg _ => by omega).below (hsz ▸ B2.out))
        have hk0 := hid ((Hk.out.mono (G := fun g => g < sz) fun g hg _ => by omega).below (hsz ▸ B2.out))
        have Hl := hid hA.i64l
        have Hc := hid hA.i64
        have Hco := hid hA.coef
        have Hxl := hid hxl
        have Hkl := hid hkl
        have hlt0 := hA
        have hat := fun i (hi : i < a.lits.length) => at_iff hA h3.1 hi
        obtain ⟨p, hp⟩ : ∃ p, a.at k = p := ⟨_, rfl⟩
        have hR0 : normed (cutUp a.lits p n) (cutUp a.coefs p n) (if p < n then bd - nth a.coefs p else bd) = R := by
          rw [← HR0.out, weakB_is hA h3.1 h3.2, hp, hxl]
          by_cases e : p < n
          · rw [if_pos e, if_pos e, cutUp_all (by omega) (by omega), cutUp_all (by omega) (by omega), Hbd3.out]
          · rw [if_neg e, if_neg e, cutUp_none (by omega) (by omega), cutUp_none (by omega) (by omega), ← Hbd3.out]; exact hA.again
        have HR := hid hR0
        have Hat := hid (hp ▸ hat : ∀ i, i < a.lits.length → ((((nth a.lits i).natAbs : Nat) : Int) = k ↔ i = p))
        have Hlit := hid hA.lit
        clear hR0 hok hA Hx Hk HR0 hia hbd hxl hkl Ha hat hlt0 hp
        go_wp2_with fail
        go_loopw [9, 6, 7, 8] (fun iv lv cv bv W => ∃ (i : Nat) (A1 : Option Addr) (d1 : Nat) (A2 : Option Addr) (d2 : Nat), i ≤ n ∧ iv = .int .i64 i ∧ lv = .slice A1 (cutLen p i) d1 ∧ cv = .slice A2 (cutLen p i) d2 ∧ bv = .int .i64 (if p < i then bd - nth a.coefs p else bd) ∧ Hid (Pr W2.heap.size W2 W (.slice A1 (cutLen p i) d1) (.slice A2 (cutLen p i) d2) (cutLen p i) (cutLen p i) (ints (cutUp a.lits p i)) (ints (cutUp a.coefs p i)))) (fun iv _ _ _ _ => n - (intOf iv).toNat)
        case atStart => exact ⟨0, none, 0, none, 0, by omega, rfl, rfl, rfl, by rw [if_neg (by omega)], hid (Pr.start W2)⟩
        case round =>
          obtain ⟨i, A1, d1, A2, d2, hi, rfl, rfl, rfl, rfl, HT⟩ := hrel
          have HB := hid HT.out.2.2.2.1
          have kaw := hid (keep_blk KA1.out HB.out)
          have kow := hid (keep_blk KO2.out HB.out)
          obtain ⟨a0, a1, a2⟩ := box3 kaw.out
          by_cases hlt : i < n
          · have x1 : (i : Int) < (n : Int) := by omega
            obtain ⟨gL, oL, rfl, hgL, hgL2, el⟩ := hx0.out.cell.2 i hlt
            obtain ⟨gQ, oQ, rfl, hgQ, hgQ2, eq⟩ := hk0.out.cell.2 i hlt
            obtain ⟨x, hx⟩ : ∃ x, nth a.lits i = x := ⟨_, rfl⟩
            obtain ⟨y, hy⟩ : ∃ y, nth a.coefs i = y := ⟨_, rfl⟩
            have hcx := Hlit.out i (by rw [Hxl.out]; exact hlt)
            have hcy := Hco.out i (by rw [Hxl.out]; exact hlt)
            have hti := Hat.out i (by rw [Hxl.out]; exact hlt)
            rw [hx] at el hcx hti
            rw [hy, Hbd3.out] at hcy
            rw [hy] at eq
            have Hti := hid hti
            have elw := (HB.out.cell (p := ⟨gL, oL + i, none⟩) (by omega)).trans el
            have eqw := (HB.out.cell (p := ⟨gQ, oQ + i, none⟩) (by omega)).trans eq
            have Hxx := hid hx
            have Hyy := hid hy
            have hclen := cutLen_le p i
            clear hx hy hti
            obtain ⟨bb, hbb⟩ : ∃ z, (if p < i then bd - nth a.coefs p else bd) = z := ⟨_, rfl⟩
            have Hbb := hid hbb
            rw [hbb]
            clear hbb
            obtain ⟨nx, hnx⟩ : ∃ z : Int, ((x.natAbs : Nat) : Int) = z := ⟨_, rfl⟩
            go_wp2_with fail
            refine (rvar_any (l := x) (by omega) (by omega)).mono ?_
            rintro r w1 ⟨rfl, rfl⟩
            rw [hnx]
            have Hnx := hid hnx
            clear hnx
            by_cases hpi : i = p
            · have hnk : nx = k := by rw [← Hnx.out]; exact Hti.out.2 hpi
              have hb1 : bb = bd := by rw [← Hbb.out, if_neg (by omega)]
              have hw : IntKind.i64.wrap (bb - y) = bb - y := iw' (by omega) (by omega)
              have e1 := hid (cutUp_at (xs := a.lits) (p := p) (i := i) hpi)
              have e2 := hid (cutUp_at (xs := a.coefs) (p := p) (i := i) hpi)
              have e3 := hid (cutLen_at (p := p) (i := i) hpi)
              have e4 : (if p < i + 1 then bd - nth a.coefs p else bd) = bb - y := by rw [if_pos (by omega), hb1, ← Hyy.out, hpi]
              have E4 := hid e4
              have Hpi := hid hpi
              have Hb1 := hid hb1
              clear hpi hb1 e4
              go_wp2_with fail
              go_roundw
              case rel => exact ⟨i + 1, A1, d1, A2, d2, by omega, by go_num, by rw [e3.out], by rw [e3.out], by rw [E4.out], hid (by rw [e1.out, e2.out, e3.out]; exact HT.out)⟩
              case measure => simp [intOf]; omega
            · have hnk0 : ¬ nx = k := fun e => hpi (Hti.out.1 (by rw [Hnx.out]; exact e))
              have hnk : (nx = k) = False := by simp [hnk0]
              have hnk3 : decide (nx = k) = false := by simp [hnk0]
              have hnk4 : (nx == k) = false := by simp [hnk0]
              have e1 := hid (cutUp_next (xs := a.lits) (p := p) (i := i) hpi (by rw [Hxl.out]; exact hlt))
              have e2 := hid (cutUp_next (xs := a.coefs) (p := p) (i := i) hpi (by rw [Hkl.out]; exact hlt))
              have e3 := hid (cutLen_next (p := p) (i := i) hpi)
              have e4 : (if p < i + 1 then bd - nth a.coefs p else bd) = bb := by rw [← Hbb.out]; by_cases h : p < i; rw [if_pos h, if_pos (by omega)]; rw [if_neg h, if_neg (by omega)]
              have E4 := hid e4
              have Hpi := hid hpi
              clear hpi e4
              have hBD : Below W2.heap.size W2 wr.drew := HB.out.drew
              go_upto_region 10 with fail
              refine wp_region_held_drew (S := fun w' => (w'.cell? ⟨sz, 0, none⟩ = some (.slice (some ⟨gL, oL, none⟩) n cn) ∧ w'.cell? ⟨sz, 1, none⟩ = some (.slice (some ⟨gQ, oQ, none⟩) n cm) ∧ w'.cell? ⟨sz, 2, none⟩ = some (.int .i64 bd)) ∧ w'.cell? ⟨gL, oL + i, none⟩ = some (.int .i64 x) ∧ w'.cell? ⟨gQ, oQ + i, none⟩ = some (.int .i64 y) ∧ Hid (Below W2.heap.size W2 w')) (by kernel_rfl) ⟨box3 (keep_blk KA1.out hBD), (hBD.cell (by omega)).trans el, (hBD.cell (by omega)).trans eq, hid hBD⟩ (fun hHeld => ?_)
              have T := hid HT.out.drew
              obtain ⟨WD, hWD⟩ : ∃ W, wr.drew = W := ⟨_, rfl⟩
              rw [hWD] at hHeld T ⊢
              clear hWD
              refine wpAnyH_take (i := 0) (oi := ⟨_, _, _, _, _, _⟩) (v := ?_) rfl (by kernel_rfl) (by kernel_rfl) (by kernel_rfl) (fun _ _ _ h => h) (Or.inl ⟨by rfl, ?_⟩) (by assumption) ?_
              rotate_left
              · intro w hSw
                try dsimp only at hSw
                go_simp
                try with_reducible rfl
              simp only [Act.put, List.setIfInBounds_toArray, List.set_cons_zero, List.set_cons_succ]
              refine wpAnyH_take (i := 1) (oi := ⟨_, _, _, _, _, _⟩) (v := ?_) rfl (by kernel_rfl) (by kernel_rfl) (by kernel_rfl) (fun _ _ _ h => h) (Or.inl ⟨by rfl, ?_⟩) (by assumption) ?_
              rotate_left
              · intro w hSw
                try dsimp only at hSw
                go_simp
                try with_reducible rfl
              simp only [Act.put, List.setIfInBounds_toArray, List.set_cons_zero, List.set_cons_succ]
              refine wpAnyH_take (i := 3) (oi := ⟨_, _, _, _, _, _⟩) (v := ?_) rfl (by kernel_rfl) (by kernel_rfl) (by kernel_rfl) (fun _ _ _ h => h) (Or.inl ⟨by rfl, ?_⟩) (by assumption) ?_
              rotate_left
              · intro w hSw
                try dsimp only at hSw
                go_simp
                try with_reducible rfl
              simp only [Act.put, List.setIfInBounds_toArray, List.set_cons_zero, List.set_cons_succ]
              refine wpAnyH_take (i := 8) (oi := ⟨_, _, _, _, _, _⟩) (v := ?_) rfl (by kernel_rfl) (by kernel_rfl) (by kernel_rfl) (fun _ _ _ h => h) (Or.inl ⟨by rfl, ?_⟩) (by assumption) ?_
              rotate_left
              · intro w hSw
                try dsimp only at hSw
                go_simp
                try with_reducible rfl
              simp only [Act.put, List.setIfInBounds_toArray, List.set_cons_zero, List.set_cons_succ]
              refine wpAnyH_take (i := 9) (oi := ⟨_, _, _, _, _, _⟩) (v := ?_) rfl (by kernel_rfl) (by kernel_rfl) (by kernel_rfl) (fun _ _ _ h => h) (Or.inl ⟨by rfl, ?_⟩) (by assumption) ?_
              rotate_left
              · intro w hSw
                try dsimp only at hSw
                go_simp
                try with_reducible rfl
              simp only [Act.put, List.setIfInBounds_toArray, List.set_cons_zero, List.set_cons_succ]
              refine wpAnyH_take (i := 11) (oi := ⟨_, _, _, _, _, _⟩) (v := ?_) rfl (by kernel_rfl) (by kernel_rfl) (by kernel_rfl) (fun _ _ _ h => h) (Or.inl ⟨by rfl, ?_⟩) (by assumption) ?_
              rotate_left
              · intro w hSw
                try dsimp only at hSw
                go_simp
                try with_reducible rfl
              simp only [Act.put, List.setIfInBounds_toArray, List.set_cons_zero, List.set_cons_succ]
              refine wpAnyH_take (i := 2) (oi := ⟨_, _, _, _, _, _⟩) (v := ?_) rfl (by kernel_rfl) (by kernel_rfl) (by kernel_rfl) (fun _ _ _ h => h) (Or.inl ⟨by rfl, ?_⟩) (by assumption) ?_
              rotate_left
              · intro w hSw
                try dsimp only at hSw
                go_simp
                try with_reducible rfl
              simp only [Act.put, List.setIfInBounds_toArray, List.set_cons_zero, List.set_cons_succ]
              refine wpAnyH_take (i := 10) (oi := ⟨_, _, _, _, _, _⟩) (v := ?_) rfl (by kernel_rfl) (by kernel_rfl) (by kernel_rfl) (fun _ _ _ h => h) (Or.inl ⟨by rfl, ?_⟩) (by assumption) ?_
              rotate_left
              · intro w hSw
                try dsimp only at hSw
                go_simp
                try with_reducible rfl
              simp only [Act.put, List.setIfInBounds_toArray, List.set_cons_zero, List.set_cons_succ]
              refine wpAnyH_take (i := 4) (oi := ⟨_, _, _, _, _, _⟩) (v := ?_) rfl (by kernel_rfl) (by kernel_rfl) (by kernel_rfl) (fun _ _ _ h => h) (Or.inl ⟨by rfl, ?_⟩) (by assumption) ?_
              rotate_left
              · intro w hSw
                try dsimp only at hSw
                go_simp
                try with_reducible rfl
              simp only [Act.put, List.setIfInBounds_toArray, List.set_cons_zero, List.set_cons_succ]
              refine wpAnyH_take (i := 12) (oi := ⟨_, _, _, _, _, _⟩) (v := ?_) rfl (by kernel_rfl) (by kernel_rfl) (by kernel_rfl) (fun _ _ _ h => h) (Or.inl ⟨by rfl, ?_⟩) (by assumption) ?_
              rotate_left
              · intro w hSw
                try dsimp only at hSw
                go_simp
                try with_reducible rfl
              simp only [Act.put, List.setIfInBounds_toArray, List.set_cons_zero, List.set_cons_succ]
              refine wpAnyH_take (i := 5) (oi := ⟨_, _, _, _, _, _⟩) (v := ?_) rfl (by kernel_rfl) (by kernel_rfl) (by kernel_rfl) (fun _ _ _ h => h) (Or.inl ⟨by rfl, ?_⟩) (by assumption) ?_
              rotate_left
              · intro w hSw
                try dsimp only at hSw
                go_simp
                try with_reducible rfl
              simp only [Act.put, List.setIfInBounds_toArray, List.set_cons_zero, List.set_cons_succ]
              refine wpAnyH_take (i := 13) (oi := ⟨_, _, _, _, _, _⟩) (v := ?_) rfl (by kernel_rfl) (by kernel_rfl) (by kernel_rfl) (fun _ _ _ h => h) (Or.inl ⟨by rfl, ?_⟩) (by assumption) ?_
              rotate_left
              · intro w hSw
                try dsimp only at hSw
                go_simp
                try with_reducible rfl
              simp only [Act.put, List.setIfInBounds_toArray, List.set_cons_zero, List.set_cons_succ]
              refine wpAnyH_ready (rs := [6, 14]) (by kernel_rfl) (by simp) (AllReadyH.cons (o := ⟨_, _, _, _, _, _⟩) rfl (fun K hK => ?_) (AllReadyH.cons (o := ⟨_, _, _, _, _, _⟩) rfl (fun K hK => ?_) AllReadyH.nil))
              · go_simp
                obtain ⟨X6, hX, bX, kX, sX⟩ := alloc_step WD (.cells #[.int .i64 x] 3)
                rw [hX]
                have hBn := hHeld.2.2.2.out.trans (bX.mono hHeld.2.2.2.out.size)
                refine hK.out _ _ ⟨box3 (keep_blk KA1.out hBn), (hBn.cell (by omega)).trans el, (hBn.cell (by omega)).trans eq, hid hBn⟩ (fun hHeld => ?_)
                clear hK K
                have R6 := hid (show Rd X6 (fun g => g = WD.heap.size) 1 (.slice (some ⟨WD.heap.size, 0, none⟩) 1 1) 1 [.int .i64 x] by rw [← hX]; exact (own_one WD _).rd)
                have l6 := T.out.rows
                have q6 := T.out.swap.rows
                have T := hid (show Pr W2.heap.size W2 X6 _ _ _ _ _ _ by rw [← hX]; exact T.out.alloc _)
                clear hX bX kX sX hBn
                try simp only [Act.put, List.setIfInBounds_toArray, List.set_cons_zero, List.set_cons_succ]
                refine wpAnyH_ready (rs := [7, 14]) (by kernel_rfl) (by simp) (AllReadyH.cons (o := ⟨_, _, _, _, _, _⟩) rfl (fun K hK => ?_) (AllReadyH.cons (o := ⟨_, _, _, _, _, _⟩) rfl (fun K hK => ?_) AllReadyH.nil))
                · refine step_append_ints (m := 1) rfl _ _ rfl T.out.1 R6.out rfl rfl (by simp [Value.oneCell']) (by omega) ?_
                  intro Av7 cv7 W7 ho hm hr
                  have hBn := below_mod hHeld.2.2.2.out hHeld.2.2.2.out.size hm fun g hg => (T.out.1.row hg).1
                  refine hK.out _ _ ⟨box3 (keep_blk KA1.out hBn), (hBn.cell (by omega)).trans el, (hBn.cell (by omega)).trans eq, hid hBn⟩ (fun hHeld => ?_)
                  clear hK K
                  have T := hid (T.out.push ho hm hr)
                  clear ho hm hr hBn
                  try simp only [Act.put, List.setIfInBounds_toArray, List.set_cons_zero, List.set_cons_succ]
                  refine wpAnyH_ready (rs := [14]) (by kernel_rfl) (by simp) (AllReadyH.cons (o := ⟨_, _, _, _, _, _⟩) rfl (fun K hK => ?_) AllReadyH.nil)
                  go_simp
                  obtain ⟨X14, hX, bX, kX, sX⟩ := alloc_step W7 (.cells #[.int .i64 y] 3)
                  rw [hX]
                  have hBn := hHeld.2.2.2.out.trans (bX.mono hHeld.2.2.2.out.size)
                  refine hK.out _ _ ⟨box3 (keep_blk KA1.out hBn), (hBn.cell (by omega)).trans el, (hBn.cell (by omega)).trans eq, hid hBn⟩ (fun hHeld => ?_)
                  clear hK K
                  have R14 := hid (show Rd X14 (fun g => g = W7.heap.size) 1 (.slice (some ⟨W7.heap.size, 0, none⟩) 1 1) 1 [.int .i64 y] by rw [← hX]; exact (own_one W7 _).rd)
                  have l14 := T.out.rows
                  have q14 := T.out.swap.rows
                  have T := hid (show Pr W2.heap.size W2 X14 _ _ _ _ _ _ by rw [← hX]; exact T.out.alloc _)
                  clear hX bX kX sX hBn
                  try simp only [Act.put, List.setIfInBounds_toArray, List.set_cons_zero, List.set_cons_succ]
                  refine wpAnyH_ready (rs := [15]) (by kernel_rfl) (by simp) (AllReadyH.cons (o := ⟨_, _, _, _, _, _⟩) rfl (fun K hK => ?_) AllReadyH.nil)
                  refine step_append_ints (m := 1) rfl _ _ rfl T.out.swap.1 R14.out rfl rfl (by simp [Value.oneCell']) (by omega) ?_
                  intro Av15 cv15 W15 ho hm hr
                  have hBn := below_mod hHeld.2.2.2.out hHeld.2.2.2.out.size hm fun g hg => (T.out.swap.1.row hg).1
                  refine hK.out _ _ ⟨box3 (keep_blk KA1.out hBn), (hBn.cell (by omega)).trans el, (hBn.cell (by omega)).trans eq, hid hBn⟩ (fun hHeld => ?_)
                  clear hK K
                  have T := hid (T.out.swap.push ho hm hr)
                  have T := hid T.out.swap
                  clear ho hm hr hBn
                  try simp only [Act.put, List.setIfInBounds_toArray, List.set_cons_zero, List.set_cons_succ]
                  refine wpAnyH_ready (rs := [16]) (by kernel_rfl) (by simp) (AllReadyH.cons (o := ⟨_, _, _, _, _, _⟩) rfl (fun K hK => ?_) AllReadyH.nil)
                  go_simp
                  go_simp
                  refine hK.out _ _ hHeld (fun hHeld => ?_)
                  clear hK K
                  try simp only [Act.put, List.setIfInBounds_toArray, List.set_cons_zero, List.set_cons_succ]
                  refine wpAnyH_ready (rs := [17]) (by kernel_rfl) (by simp) (AllReadyH.cons (o := ⟨_, _, _, _, _, _⟩) rfl (fun K hK => ?_) AllReadyH.nil)
                  go_simp
                  go_simp
                  refine hK.out _ _ hHeld (fun hHeld => ?_)
                  clear hK K
                  try simp only [Act.put, List.setIfInBounds_toArray, List.set_cons_zero, List.set_cons_succ]
                  refine wpAnyH_done (by kernel_rfl) ?_ _
                  go_wp2_with fail
                  go_roundw
                  case rel => exact ⟨i + 1, Av7, cv7, Av15, cv15, by omega, by go_num, by rw [e3.out], by rw [e3.out], by rw [E4.out], hid (by rw [e1.out, e2.out, e3.out, Hxx.out, Hyy.out, ints_append, ints_append]; exact T.out)⟩
                  case measure => simp [intOf]; omega
                · go_simp
                  obtain ⟨X14, hX, bX, kX, sX⟩ := alloc_step X6 (.cells #[.int .i64 y] 3)
                  rw [hX]
                  have hBn := hHeld.2.2.2.out.trans (bX.mono hHeld.2.2.2.out.size)
                  refine hK.out _ _ ⟨box3 (keep_blk KA1.out hBn), (hBn.cell (by omega)).trans el, (hBn.cell (by omega)).trans eq, hid hBn⟩ (fun hHeld => ?_)
                  clear hK K
                  have R14 := hid (show Rd X14 (fun g => g = X6.heap.size) 1 (.slice (some ⟨X6.heap.size, 0, none⟩) 1 1) 1 [.int .i64 y] by rw [← hX]; exact (own_one X6 _).rd)
                  have l14 := T.out.rows
                  have q14 := T.out.swap.rows
                  have T := hid (show Pr W2.heap.size W2 X14 _ _ _ _ _ _ by rw [← hX]; exact T.out.alloc _)
                  have R6 := hid (R6.out.below bX)
                  clear hX bX kX sX hBn
                  try simp only [Act.put, List.setIfInBounds_toArray, List.set_cons_zero, List.set_cons_succ]
                  refine wpAnyH_ready (rs := [7]) (by kernel_rfl) (by simp) (AllReadyH.cons (o := ⟨_, _, _, _, _, _⟩) rfl (fun K hK => ?_) AllReadyH.nil)
                  refine step_append_ints (m := 1) rfl _ _ rfl T.out.1 R6.out rfl rfl (by simp [Value.oneCell']) (by omega) ?_
                  intro Av7 cv7 W7 ho hm hr
                  have hBn := below_mod hHeld.2.2.2.out hHeld.2.2.2.out.size hm fun g hg => (T.out.1.row hg).1
                  refine hK.out _ _ ⟨box3 (keep_blk KA1.out hBn), (hBn.cell (by omega)).trans el, (hBn.cell (by omega)).trans eq, hid hBn⟩ (fun hHeld => ?_)
                  clear hK K
                  have R14 := hid (R14.out.mod hm fun g _ hg hrow => by have := l14 g hrow; omega)
                  have T := hid (T.out.push ho hm hr)
                  clear ho hm hr hBn
                  try simp only [Act.put, List.setIfInBounds_toArray, List.set_cons_zero, List.set_cons_succ]
                  refine wpAnyH_ready (rs := [15]) (by kernel_rfl) (by simp) (AllReadyH.cons (o := ⟨_, _, _, _, _, _⟩) rfl (fun K hK => ?_) AllReadyH.nil)
                  refine step_append_ints (m := 1) rfl _ _ rfl T.out.swap.1 R14.out rfl rfl (by simp [Value.oneCell']) (by omega) ?_
                  intro Av15 cv15 W15 ho hm hr
                  have hBn := below_mod hHeld.2.2.2.out hHeld.2.2.2.out.size hm fun g hg => (T.out.swap.1.row hg).1
                  refine hK.out _ _ ⟨box3 (keep_blk KA1.out hBn), (hBn.cell (by omega)).trans el, (hBn.cell (by omega)).trans eq, hid hBn⟩ (fun hHeld => ?_)
                  clear hK K
                  have T := hid (T.out.swap.push ho hm hr)
                  have T := hid T.out.swap
                  clear ho hm hr hBn
                  try simp only [Act.put, List.setIfInBounds_toArray, List.set_cons_zero, List.set_cons_succ]
                  refine wpAnyH_ready (rs := [16]) (by kernel_rfl) (by simp) (AllReadyH.cons (o := ⟨_, _, _, _, _, _⟩) rfl (fun K hK => ?_) AllReadyH.nil)
                  go_simp
                  go_simp
                  refine hK.out _ _ hHeld (fun hHeld => ?_)
                  clear hK K
                  try simp only [Act.put, List.setIfInBounds_toArray, List.set_cons_zero, List.set_cons_succ]
                  refine wpAnyH_ready (rs := [17]) (by kernel_rfl) (by simp) (AllReadyH.cons (o := ⟨_, _, _, _, _, _⟩) rfl (fun K hK => ?_) AllReadyH.nil)
                  go_simp
                  go_simp
                  refine hK.out _ _ hHeld (fun hHeld => ?_)
                  clear hK K
                  try simp only [Act.put, List.setIfInBounds_toArray, List.set_cons_zero, List.set_cons_succ]
                  refine wpAnyH_done (by kernel_rfl) ?_ _
                  go_wp2_with fail
                  go_roundw
                  case rel => exact ⟨i + 1, Av7, cv7, Av15, cv15, by omega, by go_num, by rw [e3.out], by rw [e3.out], by rw [E4.out], hid (by rw [e1.out, e2.out, e3.out, Hxx.out, Hyy.out, ints_append, ints_append]; exact T.out)⟩
                  case measure => simp [intOf]; omega
              · go_simp
                obtain ⟨X14, hX, bX, kX, sX⟩ := alloc_step WD (.cells #[.int .i64 y] 3)
                rw [hX]
                have hBn := hHeld.2.2.2.out.trans (bX.mono hHeld.2.2.2.out.size)
                refine hK.out _ _ ⟨box3 (keep_blk KA1.out hBn), (hBn.cell (by omega)).trans el, (hBn.cell (by omega)).trans eq, hid hBn⟩ (fun hHeld => ?_)
                clear hK K
                have R14 := hid (show Rd X14 (fun g => g = WD.heap.size) 1 (.slice (some ⟨WD.heap.size, 0, none⟩) 1 1) 1 [.int .i64 y] by rw [← hX]; exact (own_one WD _).rd)
                have l14 := T.out.rows
                have q14 := T.out.swap.rows
                have T := hid (show Pr W2.heap.size W2 X14 _ _ _ _ _ _ by rw [← hX]; exact T.out.alloc _)
                clear hX bX kX sX hBn
                try simp only [Act.put, List.setIfInBounds_toArray, List.set_cons_zero, List.set_cons_succ]
                refine wpAnyH_ready (rs := [6]) (by kernel_rfl) (by simp) (AllReadyH.cons (o := ⟨_, _, _, _, _, _⟩) rfl (fun K hK => ?_) AllReadyH.nil)
                go_simp
                obtain ⟨X6, hX, bX, kX, sX⟩ := alloc_step X14 (.cells #[.int .i64 x] 3)
                rw [hX]
                have hBn := hHeld.2.2.2.out.trans (bX.mono hHeld.2.2.2.out.size)
                refine hK.out _ _ ⟨box3 (keep_blk KA1.out hBn), (hBn.cell (by omega)).trans el, (hBn.cell (by omega)).trans eq, hid hBn⟩ (fun hHeld => ?_)
                clear hK K
                have R6 := hid (show Rd X6 (fun g => g = X14.heap.size) 1 (.slice (some ⟨X14.heap.size, 0, none⟩) 1 1) 1 [.int .i64 x] by rw [← hX]; exact (own_one X14 _).rd)
                have l6 := T.out.rows
                have q6 := T.out.swap.rows
                have T := hid (show Pr W2.heap.size W2 X6 _ _ _ _ _ _ by rw [← hX]; exact T.out.alloc _)
                have R14 := hid (R14.out.below bX)
                clear hX bX kX sX hBn
                try simp only [Act.put, List.setIfInBounds_toArray, List.set_cons_zero, List.set_cons_succ]
                refine wpAnyH_ready (rs := [7]) (by kernel_rfl) (by simp) (AllReadyH.cons (o := ⟨_, _, _, _, _, _⟩) rfl (fun K hK => ?_) AllReadyH.nil)
                refine step_append_ints (m := 1) rfl _ _ rfl T.out.1 R6.out rfl rfl (by simp [Value.oneCell']) (by omega) ?_
                intro Av7 cv7 W7 ho hm hr
                have hBn := below_mod hHeld.2.2.2.out hHeld.2.2.2.out.size hm fun g hg => (T.out.1.row hg).1
                refine hK.out _ _ ⟨box3 (keep_blk KA1.out hBn), (hBn.cell (by omega)).trans el, (hBn.cell (by omega)).trans eq, hid hBn⟩ (fun hHeld => ?_)
                clear hK K
                have R14 := hid (R14.out.mod hm fun g _ hg hrow => by have := l14 g hrow; omega)
                have T := hid (T.out.push ho hm hr)
                clear ho hm hr hBn
                try simp only [Act.put, List.setIfInBounds_toArray, List.set_cons_zero, List.set_cons_succ]
                refine wpAnyH_ready (rs := [15]) (by kernel_rfl) (by simp) (AllReadyH.cons (o := ⟨_, _, _, _, _, _⟩) rfl (fun K hK => ?_) AllReadyH.nil)
                refine step_append_ints (m := 1) rfl _ _ rfl T.out.swap.1 R14.out rfl rfl (by simp [Value.oneCell']) (by omega) ?_
                intro Av15 cv15 W15 ho hm hr
                have hBn := below_mod hHeld.2.2.2.out hHeld.2.2.2.out.size hm fun g hg => (T.out.swap.1.row hg).1
                refine hK.out _ _ ⟨box3 (keep_blk KA1.out hBn), (hBn.cell (by omega)).trans el, (hBn.cell (by omega)).trans eq, hid hBn⟩ (fun hHeld => ?_)
                clear hK K
                have T := hid (T.out.swap.push ho hm hr)
                have T := hid T.out.swap
                clear ho hm hr hBn
                try simp only [Act.put, List.setIfInBounds_toArray, List.set_cons_zero, List.set_cons_succ]
                refine wpAnyH_ready (rs := [16]) (by kernel_rfl) (by simp) (AllReadyH.cons (o := ⟨_, _, _, _, _, _⟩) rfl (fun K hK => ?_) AllReadyH.nil)
                go_simp
                go_simp
                refine hK.out _ _ hHeld (fun hHeld => ?_)
                clear hK K
                try simp only [Act.put, List.setIfInBounds_toArray, List.set_cons_zero, List.set_cons_succ]
                refine wpAnyH_ready (rs := [17]) (by kernel_rfl) (by simp) (AllReadyH.cons (o := ⟨_, _, _, _, _, _⟩) rfl (fun K hK => ?_) AllReadyH.nil)
                go_simp
                go_simp
                refine hK.out _ _ hHeld (fun hHeld => ?_)
                clear hK K
                try simp only [Act.put, List.setIfInBounds_toArray, List.set_cons_zero, List.set_cons_succ]
                refine wpAnyH_done (by kernel_rfl) ?_ _
                go_wp2_with fail
                go_roundw
                case rel => exact ⟨i + 1, Av7, cv7, Av15, cv15, by omega, by go_num, by rw [e3.out], by rw [e3.out], by rw [E4.out], hid (by rw [e1.out, e2.out, e3.out, Hxx.out, Hyy.out, ints_append, ints_append]; exact T.out)⟩
                case measure => simp [intOf]; omega
          · have hin : i = n := by omega
            have x1 : ¬ ((i : Int) < (n : Int)) := by omega
            have hT := HT.out
            have q1 := hid hT.1.rd
            have q2 := hid hT.2.1.rd
            have hRn := HR.out
            rw [← hin] at hRn
            have HR := hid hRn
            have BW := hid (B2.out.trans (HB.out.mono (by omega)))
            have sw := HB.out.size
            have hbo : I64 (if p < i then bd - nth a.coefs p else bd) := by
              split
              · rename_i h
                have h5 := Hco.out p (by rw [Hxl.out]; omega)
                rw [Hbd3.out] at h5
                unfold I64
                omega
              · unfold I64; omega
            have HBo := hid hbo
            have HL := hid (fun x (hx : x ∈ cutUp a.lits p i) => Hl.out x (cutUp_mem hx))
            have HC := hid (fun x (hx : x ∈ cutUp a.coefs p i) => Hc.out x (cutUp_mem hx))
            clear hT HT hin hRn hbo
            obtain ⟨bb, hbb⟩ : ∃ z, (if p < i then bd - nth a.coefs p else bd) = z := ⟨_, rfl⟩
            rw [hbb] at HR HBo
            rw [hbb]
            clear hbb
            go_wp2_with fail
            refine (rnorm_any q1.out q2.out HL.out HC.out HBo.out).mono ?_
            rintro r W3 ⟨⟨pv, rfl, hpv⟩, b3⟩
            rw [HR.out] at hpv ⊢
            obtain ⟨⟨A1, n1, c1, A2, n2, c2, rfl, r1, r2⟩, hb1⟩ := hpv
            have KO3 := hid (keep_blk kow.out b3)
            have B3 := hid (BW.out.trans (b3.mono (by omega)))
            have s3 := b3.size
            have R1 := hid r1
            have R2 := hid r2
            have Hb1 := hid hb1
            clear r1 r2 hb1 b3
            obtain ⟨t0, t1, t2⟩ := box3 KO3.out
            obtain ⟨f0, f1, f2⟩ := froz3 KO3.out
            go_wp2_with fail
            obtain ⟨u0, u1, u2, m3⟩ := set3 t0 t1 t2 (.slice A1 n1 c1) (.slice A2 n2 c2) (.int .i64 R.1.bound)
            refine bodyPost_ret (v := .tuple #[.agg #[.slice A1 n1 c1, .slice A2 n2 c2, .int .i64 R.1.bound], .int .i64 R.2]) (by simp [results, Tryd.f20, go_sem, u0, u1, u2]) rfl ⟨⟨_, rfl, ⟨A1, n1, c1, A2, n2, c2, rfl, ?_, ?_⟩, Hb1.out⟩, by rw [hsz]; exact below_mod B3.out (by omega) m3 fun g hg => by omega⟩
            · exact (R1.out.mod m3 fun g _ hf e => by omega).mono fun g _ hf => by omega
            · exact (R2.out.mod m3 fun g _ hf e => by omega).mono fun g _ hf => by omega
  · have hf : a.ok = false := by simpa using hok
    rw [hf]
    obtain rfl : R = (⟨[], [], 0⟩, 2) := by rw [← HR0.out]; unfold Pb.weakB; rw [if_pos (by simp [hok])]; rfl
    obtain ⟨t0, t1, t2⟩ := box3 KO2.out
    obtain ⟨f0, f1, f2⟩ := froz3 KO2.out
    clear HR0 hf hok hbd
    go_wp2_with fail
    obtain ⟨u0, u1, u2, m3⟩ := set3 t0 t1 t2 (.slice none 0 0) (.slice none 0 0) (.int .i64 0)
    exact bodyPost_ret (v := .tuple #[.agg #[.slice none 0 0, .slice none 0 0, .int .i64 0], .int .i64 2]) (by simp [results, Tryd.f20, go_sem, u0, u1, u2]) rfl ⟨⟨_, rfl, PbRd.zero _ _⟩, by rw [hsz]; exact below_mod B2.out (by omega) m3 fun g hg => by omega⟩
end
end Go.Proofs.YtooioikkgdgnnaaDoor
