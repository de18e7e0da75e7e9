/-
  The statement HeapCounts.
-/
import Derived.Test.YtdkbchpogmiohaaHeapN
import Derived.Deep.OwnRows
namespace Go.Proofs.Ytdkbchpogmiohaa
open Go.RowKit

/-- How many of the elements before the i-th are 2^j. -/
def lcnt (j : Nat) : Nat → Nat
  | 0 => 0
  | i + 1 => lcnt j i + (if 1 ≤ i ∧ luby i = 2 ^ j then 1 else 0)
theorem pow_small {n : Nat} (h : n ≤ 20) : 1 ≤ 2 ^ n ∧ 2 ^ n ≤ 1048576 :=
  ⟨Nat.two_pow_pos n, Nat.pow_le_pow_right (n := 2) (by decide) h⟩
theorem zeros_nth' (n k : Nat) : nth (List.replicate n (0 : Int)) k = 0 := by
  unfold nth
  rw [List.getElem?_replicate]
  split <;> rfl
theorem pow_inj {a b : Nat} (e : 2 ^ a = 2 ^ b) : a = b := by
  rcases Nat.lt_trichotomy a b with h | h | h
  · have := Nat.pow_lt_pow_right (a := 2) (by decide) h; omega
  · exact h
  · have := Nat.pow_lt_pow_right (a := 2) (by decide) h; omega
theorem luby_last {n : Nat} (h : n ≤ 15) : luby (2 ^ (n + 1) - 1) = 2 ^ n := by
  have h1 := pow_small (n := n) (by omega)
  have h2 : 2 ^ (n + 1) = 2 * 2 ^ n := by rw [Nat.pow_succ]; omega
  have ht : top (2 ^ (n + 1) - 1) = 2 ^ n := top_of (by omega) (by omega) (by omega)
  rw [luby_eq (by omega) (by omega) (by rw [ht]; omega), ht]
theorem luby_mid {n i : Nat} (h : n ≤ 15) (h1 : 2 ^ n ≤ i) (h2 : i < 2 * 2 ^ n - 1) : luby i = luby (i - 2 ^ n + 1) := by
  have h3 := pow_small (n := n) (by omega)
  have ht : top i = 2 ^ n := top_of h1 (by omega) (by omega)
  rw [luby_next (by omega) (by omega) (by rw [ht]; omega), ht]
  congr 1
  omega
theorem luby_pow : ∀ (i : Nat), 1 ≤ i → i < 9223372036854775808 → (∃ j, luby i = 2 ^ j) ∧ luby i ≤ i := by
  intro i
  induction i using Nat.strongRecOn with
  | _ i ih =>
    intro h1 h2
    obtain ⟨a, b, _, _⟩ := top_spec h1 h2
    by_cases e : i + 1 = 2 * top i
    · rw [luby_eq h1 h2 e]
      exact ⟨⟨_, rfl⟩, a⟩
    · rw [luby_next h1 h2 e]
      obtain ⟨c, d⟩ := ih (i + 1 - top i) (by omega) (by omega) (by omega)
      exact ⟨c, by omega⟩
theorem lcnt_mid {n : Nat} (h : n ≤ 15) (j : Nat) : ∀ d, d < 2 ^ n → lcnt j (2 ^ n + d) = lcnt j (2 ^ n) + lcnt j (d + 1) := by
  intro d
  induction d with
  | zero => intro _; simp [lcnt]
  | succ d ih =>
    intro hd
    have h3 := pow_small (n := n) (by omega)
    have e1 : lcnt j (2 ^ n + (d + 1)) = lcnt j (2 ^ n + d) + (if 1 ≤ 2 ^ n + d ∧ luby (2 ^ n + d) = 2 ^ j then 1 else 0) := rfl
    have e2 : lcnt j (d + 1 + 1) = lcnt j (d + 1) + (if 1 ≤ d + 1 ∧ luby (d + 1) = 2 ^ j then 1 else 0) := rfl
    have e3 : luby (2 ^ n + d) = luby (d + 1) := by
      rw [luby_mid h (by omega) (by omega)]
      congr 1
      omega
    rw [e1, e2, ih (by omega), e3]
    by_cases hl : luby (d + 1) = 2 ^ j
    · rw [if_pos ⟨by omega, hl⟩, if_pos ⟨by omega, hl⟩]; omega
    · rw [if_neg (fun x => hl x.2), if_neg (fun x => hl x.2)]; omega
theorem lcnt_all : ∀ (n : Nat), n ≤ 15 → ∀ j, lcnt j (2 ^ n) = if j < n then 2 ^ (n - 1 - j) else 0 := by
  intro n
  induction n with
  | zero =>
    intro _ j
    rw [if_neg (by omega)]
    simp [lcnt]
  | succ n ih =>
    intro hn j
    have h3 := pow_small (n := n) (by omega)
    have h2 : 2 ^ (n + 1) = 2 ^ n + (2 ^ n - 1) + 1 := by rw [Nat.pow_succ]; omega
    have e1 : lcnt j (2 ^ (n + 1)) = lcnt j (2 ^ n + (2 ^ n - 1)) + (if 1 ≤ 2 ^ n + (2 ^ n - 1) ∧ luby (2 ^ n + (2 ^ n - 1)) = 2 ^ j then 1 else 0) := by rw [h2]; rfl
    have e2 : luby (2 ^ n + (2 ^ n - 1)) = 2 ^ n := by
      have := luby_last (n := n) (by omega)
      rw [show 2 ^ n + (2 ^ n - 1) = 2 ^ (n + 1) - 1 by omega]
      exact this
    rw [e1, lcnt_mid (by omega) j (2 ^ n - 1) (by omega), e2, show 2 ^ n - 1 + 1 = 2 ^ n by omega, ih (by omega) j]
    rcases Nat.lt_trichotomy j n with hj | hj | hj
    · have : ¬ (2 ^ n = 2 ^ j) := fun e => by have := pow_inj e; omega
      rw [if_pos hj, if_neg (fun x => this x.2), if_pos (by omega), show n + 1 - 1 - j = n - 1 - j + 1 by omega, Nat.pow_succ]
      omega
    · subst hj
      rw [if_neg (by omega), if_pos ⟨by omega, rfl⟩, if_pos (by omega)]
      simp
    · have : ¬ (2 ^ n = 2 ^ j) := fun e => by have := pow_inj e; omega
      rw [if_neg (by omega), if_neg (fun x => this x.2), if_neg (by omega)]

theorem lcnt_le (j : Nat) : ∀ i, lcnt j i ≤ i := by
  intro i
  induction i with
  | zero => exact Nat.le_refl _
  | succ i ih =>
    unfold lcnt
    split <;> omega

set_option maxRecDepth 100000 in
set_option maxHeartbeats 4000000 in
theorem counts_walk {w : World} {k : Int} (hk : 0 ≤ k ∧ k ≤ 255) :
    Calls Try.prog 5 #[.int .u8 k] w fun r w' => r = .returned (.bool true) ∧ Below w.heap.size w w' := by
  obtain ⟨k, rfl⟩ : ∃ x : Nat, k = x := ⟨k.toNat, by omega⟩
  obtain ⟨n1, hn1⟩ : ∃ n1, k % 12 = n1 := ⟨_, rfl⟩
  obtain ⟨n, hn⟩ : ∃ n, n1 + 1 = n := ⟨_, rfl⟩
  have z1 : (k : Int).tmod 12 = (n1 : Int) := by rw [Int.tmod_eq_emod_of_nonneg (by omega)]; omega
  have z2 : IntKind.i64.wrap (n1 : Int) = (n1 : Int) := iw (by omega) (by omega)
  have z3 : (n1 : Int) + 1 = (n : Int) := by omega
  have n12 : 1 ≤ n ∧ n ≤ 12 := by omega
  have zw1 : wrap64 (k : Int) = (k : Int) := IntWalk.wrap64_in _ ⟨by omega, by omega⟩
  have zw2 : wrap64 (n1 : Int) = (n1 : Int) := IntWalk.wrap64_in _ ⟨by omega, by omega⟩
  have zw3 : wrap64 (n : Int) = (n : Int) := IntWalk.wrap64_in _ ⟨by omega, by omega⟩
  have kb : k ≤ 255 := by omega
  obtain ⟨N2, hN2⟩ : ∃ N2, 2 ^ n = N2 := ⟨_, rfl⟩
  obtain ⟨H, hH⟩ : ∃ H, 2 ^ n1 = H := ⟨_, rfl⟩
  have hNH : N2 = 2 * H := by rw [← hN2, ← hH, ← hn, Nat.pow_succ]; omega
  have hHb := pow_small (n := n1) (by omega)
  rw [hH] at hHb
  have p1 : (2 : Int) ^ n = (N2 : Int) := by rw [← hN2]; simp
  have p2 : IntKind.i64.wrap (N2 : Int) = (N2 : Int) := iw (by omega) (by omega)
  have p3 : (2 : Int) ^ n1 = (H : Int) := by rw [← hH]; simp
  have p4 : IntKind.i64.wrap (H : Int) = (H : Int) := iw (by omega) (by omega)
  have p5 : (n : Int) - 1 = (n1 : Int) := by omega
  have hLast : Hid (lubyI ((N2 : Int) - 1) = H) := by
    have h1 := luby_last (n := n1) (by omega)
    rw [hn, hN2, hH] at h1
    refine hid ?_
    unfold lubyI
    rw [show ((N2 : Int) - 1).toNat = N2 - 1 by omega, h1]
  have hmk : ∀ W : World, (Instr.makeSlice 37 (.int .i64 13) (.int .i64 13)).run Try.prog W = .ok (.slice (some ⟨W.heap.size, 0, none⟩) 13 13) (W.alloc (.cells (madeCells #[.int .i64 0] 13) 3)) := fun W =>
    run_make_row' (P := Try.prog) 37 3 (.int .i64 0) 8 Try.underlying37 info_int rfl .i64 .i64 13 (by omega) (by omega) W
  obtain ⟨B, hB⟩ : ∃ B, w.heap.size = B := ⟨_, rfl⟩
  rw [hB]
  have hNb : N2 ≤ 2097152 := by omega
  have hN1 : 1 ≤ N2 := by omega
  have HNH := hid hNH
  have HN2 := hid hN2
  have HH := hid hH
  have Hn := hid hn
  clear hN2 hH hn hn1 hk hNH
  go_enter Try.func5, Try.ntmps5
  go_wp2_with fail
  refine awake_any.mono ?_
  rintro r w1 ⟨rfl, b1⟩
  rw [hB] at b1
  have s1 := b1.size
  go_wp2_with fail
  have o2 := own_made w1 13 (by omega)
  have b2 : Below B w (w1.alloc (.cells (madeCells #[.int .i64 0] 13) 3)) := b1.alloc (by omega) _
  generalize w1.alloc (.cells (madeCells #[.int .i64 0] 13) 3) = w2 at *
  obtain ⟨g, hg⟩ : ∃ g, w1.heap.size = g := ⟨_, rfl⟩
  rw [hg] at o2 ⊢
  have gB : B ≤ g := by omega
  have O2 := hid o2
  have B2 := hid b2
  clear o2 b2 b1 hg hmk s1
  go_loopw [5] (fun iv W => ∃ (i : Nat) (xs : List Int), 1 ≤ i ∧ i ≤ N2 ∧ iv = .int .i64 i ∧ Hid (Own W (fun k => k = g) 3 1 (.slice (some ⟨g, 0, none⟩) 13 13) 13 (ints xs)) ∧ Hid (∀ j, j < 13 → nth xs j = lcnt j i) ∧ Hid (Below B w W)) (fun iv _ => N2 - (intOf iv).toNat)
  case atStart => exact ⟨1, List.replicate 13 0, by omega, by omega, rfl, O2, hid fun j hj => (zeros_nth' 13 j).trans (by simp [lcnt]), B2⟩
  case round =>
    obtain ⟨i, xs, i1, i2, rfl, O, C, B3⟩ := hrel
    generalize wr = w3 at *
    have s3 := B3.out.size
    by_cases hlt : i < N2
    · have x1 : (i : Int) < (N2 : Int) := by omega
      obtain ⟨⟨j0, hj0⟩, hle⟩ := luby_pow i i1 (by omega)
      obtain ⟨X, hX⟩ : ∃ X, luby i = X := ⟨_, rfl⟩
      rw [hX] at hj0 hle
      have j0n : j0 < n := by
        refine Classical.byContradiction fun h => ?_
        have h1 : 2 ^ n ≤ 2 ^ j0 := Nat.pow_le_pow_right (by decide) (by omega)
        have := HN2.out
        omega
      have hXI : Hid (lubyI (i : Int) = X) := by unfold lubyI; rw [Int.toNat_natCast, hX]; exact hid rfl
      have HX := hid hX
      have Hj0 := hid hj0
      clear hX hj0
      go_wp2_with fail
      refine (luby_any (i := i) (by unfold I64; omega)).mono ?_
      rw [hXI.out]
      rintro r w' ⟨rfl, rfl⟩
      go_wp2_with fail
      go_loopw [7] (fun jv W => ∃ j : Nat, j ≤ j0 ∧ jv = .int .i64 j ∧ Hid (W = w')) (fun jv _ => j0 - (intOf jv).toNat)
      case atStart => exact ⟨0, by omega, rfl, rfl⟩
      case round =>
        obtain ⟨j, hj, rfl, EW⟩ := hrel
        obtain ⟨Q, hQ⟩ : ∃ Q, 2 ^ j = Q := ⟨_, rfl⟩
        have hQb := pow_small (n := j) (by omega)
        rw [hQ] at hQb
        have y1 : (2 : Int) ^ j = (Q : Int) := by rw [← hQ]; simp
        have y2 : IntKind.i64.wrap (Q : Int) = (Q : Int) := iw (by omega) (by omega)
        by_cases hjj : j < j0
        · have y3 : (j : Int) < 12 := by omega
          have y4 : (Q : Int) < (X : Int) := by
            have := Nat.pow_lt_pow_right (a := 2) (by decide) hjj
            have := Hj0.out
            omega
          have HQ := hid hQ
          clear hQ
          go_wp2_with fail
          go_roundw
          case rel => exact ⟨j + 1, by omega, by go_num, EW⟩
          case measure => simp [intOf]; omega
        · obtain rfl : j = j0 := by omega
          obtain rfl : Q = X := by rw [← hQ]; exact Hj0.out.symm
          have y3 : (j : Int) < 12 := by omega
          have y4 : ((Q : Int) != (Q : Int)) = false := by simp
          obtain rfl := EW.out
          obtain ⟨_, he, _, _, e1, f1⟩ := O.out.cell (j := j) (by omega)
          injection he with he; injection he with he _ _; subst he
          have lx : xs.length = 13 := by have := O.out.1; simpa [ints_length] using this
          rw [ints_nth (by omega), C.out j (by omega)] at e1
          have y5 : (j : Int) < 13 := by omega
          have HQ := hid hQ
          obtain ⟨c, hc⟩ : ∃ c, lcnt j i = c := ⟨_, rfl⟩
          rw [hc] at e1
          have cb : c ≤ 4194304 := by have := lcnt_le j i; omega
          have y6 : IntKind.i64.wrap ((c : Int) + 1) = (c : Int) + 1 := iw (by omega) (by omega)
          have Hc := hid hc
          have Hlx := hid lx
          clear hQ hc lx
          have Fin : Hid (Own (wr.setCell ⟨g, j, none⟩ (.int .i64 ((c : Int) + 1))) (fun k => k = g) 3 1 (.slice (some ⟨g, 0, none⟩) 13 13) 13 (ints (xs.set j ((c : Int) + 1))) ∧ (∀ jj, jj < 13 → nth (xs.set j ((c : Int) + 1)) jj = lcnt jj (i + 1)) ∧ Below B w (wr.setCell ⟨g, j, none⟩ (.int .i64 ((c : Int) + 1)))) := by
            refine ⟨by rw [ints_set]; exact O.out.stored _, fun jj hjj => ?_, B3.out.trans (((Mod.refl (fun k => B ≤ k) _).setCell (p := ⟨g, j, none⟩) (.inl gB) _).base (by omega))⟩
            have lx := Hlx.out
            rw [nth_set _ _ _ _ (by omega)]
            have el : lcnt jj (i + 1) = lcnt jj i + (if 1 ≤ i ∧ luby i = 2 ^ jj then 1 else 0) := rfl
            by_cases e : j = jj
            · subst e
              rw [if_pos rfl, el, if_pos ⟨i1, by rw [HX.out, HQ.out]⟩, Hc.out]
              omega
            · rw [if_neg e, el, if_neg (fun x => e (pow_inj (by rw [← x.2, HX.out, HQ.out]))), C.out jj hjj]
              omega
          clear C O
          by_cases hH1 : H ≤ i
          · have x2 : (H : Int) ≤ (i : Int) := by omega
            by_cases hH2 : i < 2 * H - 1
            · have x3 : (i : Int) < 2 * (H : Int) - 1 := by omega
              have hL : Hid (lubyI ((i : Int) - (H : Int) + 1) = Q) := by
                have h1 := luby_mid (n := n1) (i := i) (by omega) (by rw [HH.out]; exact hH1) (by rw [HH.out]; exact hH2)
                rw [HH.out, HX.out] at h1
                refine hid ?_
                unfold lubyI
                rw [show ((i : Int) - (H : Int) + 1).toNat = i - H + 1 by omega, ← h1]
              go_wp2_with fail
              refine (luby_any (i := (i : Int) - (H : Int) + 1) (by unfold I64; omega)).mono ?_
              rw [hL.out]
              rintro r w9 ⟨rfl, rfl⟩
              go_wp2_with fail
              go_roundw
              case rel => exact ⟨i + 1, _, by omega, by omega, by go_num, hid Fin.out.1, hid Fin.out.2.1, hid Fin.out.2.2⟩
              case measure => simp [intOf]; omega
            · have x3 : 2 * (H : Int) - 1 ≤ (i : Int) := by omega
              go_wp2_with fail
              go_roundw
              case rel => exact ⟨i + 1, _, by omega, by omega, by go_num, hid Fin.out.1, hid Fin.out.2.1, hid Fin.out.2.2⟩
              case measure => simp [intOf]; omega
          · have x2 : (i : Int) < (H : Int) := by omega
            go_wp2_with fail
            go_roundw
            case rel => exact ⟨i + 1, _, by omega, by omega, by go_num, hid Fin.out.1, hid Fin.out.2.1, hid Fin.out.2.2⟩
            case measure => simp [intOf]; omega
    · have x1 : (N2 : Int) ≤ (i : Int) := by omega
      obtain rfl : i = N2 := by omega
      go_wp2_with fail
      go_loopw [9] (fun jv W => ∃ j : Nat, j ≤ n ∧ jv = .int .i64 j ∧ Hid (∃ z, W = w3.drewN z)) (fun jv _ => n - (intOf jv).toNat)
      case atStart => exact ⟨0, by omega, rfl, 0, rfl⟩
      case round =>
        obtain ⟨j, hj, rfl, Z⟩ := hrel
        by_cases hjn : j < n
        · have x4 : (j : Int) < (n : Int) := by omega
          obtain ⟨d, hd⟩ : ∃ d, n1 - j = d := ⟨_, rfl⟩
          have hnn := Hn.out
          have x5 : (n1 : Int) - (j : Int) = (d : Int) := by omega
          obtain ⟨D, hD⟩ : ∃ D, 2 ^ d = D := ⟨_, rfl⟩
          have hDb := pow_small (n := d) (by omega)
          rw [hD] at hDb
          have y1 : (2 : Int) ^ d = (D : Int) := by rw [← hD]; simp
          have y2 : IntKind.i64.wrap (D : Int) = (D : Int) := iw (by omega) (by omega)
          have y4 : ((D : Int) != (D : Int)) = false := by simp
          have y5 : (j : Int) < 13 := by omega
          have lx : xs.length = 13 := by have := O.out.1; simpa [ints_length] using this
          have e1 : wr.cell? ⟨g, j, none⟩ = some (.int .i64 D) := by
            obtain ⟨_, he, _, _, e1, _⟩ := O.out.cell (j := j) (by omega)
            injection he with he; injection he with he _ _; subst he
            obtain ⟨z, rfl⟩ := Z.out
            rw [ints_nth (by omega), C.out j (by omega), ← HN2.out, lcnt_all n (by omega) j, if_pos hjn, show n - 1 - j = d by omega, hD] at e1
            exact e1
          clear lx hD hd hnn
          go_wp2_with fail
          go_quiet (fail)
          go_wp2_with fail
          go_roundw
          case rel =>
            obtain ⟨z, rfl⟩ := Z.out
            exact ⟨j + 1, by omega, by go_num, z + nq, World.drewN_drewN _ _ _⟩
          case measure => simp [intOf]; omega
        · have x4 : (n : Int) ≤ (j : Int) := by omega
          have hI : I64 ((i : Int) - 1) := by unfold I64; omega
          have B8 : Hid (Below B w wr) := by
            obtain ⟨z, e⟩ := Z.out
            rw [e]
            exact B3.out.trans ⟨rfl, rfl, rfl, Nat.le_refl _, fun _ _ => rfl⟩
          have Lq : Hid (∀ q, Calls Try.prog 11 #[.int .i64 ((i : Int) - 1)] (wr.drewN q) fun e w'' => e = .returned (.int .i64 H) ∧ ∃ m, w'' = wr.drewN m) := fun q => by
            rw [← hLast.out]
            exact Calls.quiet_of_same (luby_any hI)
          have y4 : ((H : Int) == (H : Int)) = true := by simp
          clear Z hI
          go_wp2_with fail
          go_quiet (first | (go_at_call 11; exact Lq.out _))
          go_wp2_with fail
          go_ret
          exact ⟨rfl, B8.out.trans ⟨rfl, rfl, rfl, Nat.le_refl _, fun _ _ => rfl⟩⟩
end Go.Proofs.Ytdkbchpogmiohaa
