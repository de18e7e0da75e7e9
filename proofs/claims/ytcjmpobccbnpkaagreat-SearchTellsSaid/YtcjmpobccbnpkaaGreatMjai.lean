/-
 Chapter 32: several texts in one (HeapL).
-/
import Derived.Test.YtcjmpobccbnpkaaGreatMjae
import Derived.Test.YtcjmpobccbnpkaaGreatMjah
import Derived.Laws.BitsAllLaws
namespace Go.Proofs.YtcjmpobccbnpkaaGreat
section
open Go.RowKit
/-! ### the sequence -/
theorem bitLen_spec : ∀ (n : Nat), 1 ≤ n → n < 2 ^ 64 → 1 ≤ Lib.bitLen n ∧ 2 ^ (Lib.bitLen n - 1) ≤ n ∧ n < 2 ^ (Lib.bitLen n) := by
 intro n
 induction n using Nat.strongRecOn with
 | _ n ih =>
  intro h1 h2
  have e := Lib.bitLen_half n (by omega) h2
  rcases Nat.lt_or_ge n 2 with h | h
  ·obtain rfl : n = 1 := by omega
   exact ⟨by decide, by decide, by decide⟩
  ·obtain ⟨a, b, c⟩ := ih (n / 2) (by omega) (by omega) (by omega)
   rw [e]
   refine ⟨by omega, ?_, ?_⟩
   ·rw [show 1 + Lib.bitLen (n / 2) - 1 = Lib.bitLen (n / 2) - 1 + 1 by omega, Nat.pow_succ]
    omega
   ·rw [show 1 + Lib.bitLen (n / 2) = Lib.bitLen (n / 2) + 1 by omega, Nat.pow_succ]
    omega
def top (n : Nat) : Nat := 2 ^ (Lib.bitLen n - 1)
theorem top_spec {n : Nat} (h1 : 1 ≤ n) (h2 : n < 9223372036854775808) : top n ≤ n ∧ n < 2 * top n ∧ Lib.bitLen n - 1 < 63 ∧ 1 ≤ Lib.bitLen n := by
 obtain ⟨a, b, c⟩ := bitLen_spec n h1 (by omega)
 refine ⟨b, ?_, ?_, a⟩
 ·rw [show Lib.bitLen n = Lib.bitLen n - 1 + 1 by omega, Nat.pow_succ] at c
  unfold top
  omega
 ·have := Lib.bitLen_le n 63 (by omega) (by omega)
  omega
theorem and_next {n : Nat} (h1 : 1 ≤ n) (h2 : n < 9223372036854775808) : (n &&& (n + 1) = 0) ↔ n + 1 = 2 * top n := by
 obtain ⟨a, b, c, d⟩ := top_spec h1 h2
 unfold top at *
 generalize Lib.bitLen n - 1 = j at *
 constructor
 ·intro e
  rcases Nat.lt_or_ge (n + 1) (2 * 2 ^ j) with h | h
  ·have t1 : n.testBit j = true := by
    rw [Nat.testBit_eq_decide_div_mod_eq]
    have : n / 2 ^ j = 1 := by
     rw [Nat.div_eq_of_lt_le] <;> omega
    simp [this]
   have t2 : (n + 1).testBit j = true := by
    rw [Nat.testBit_eq_decide_div_mod_eq]
    have : (n + 1) / 2 ^ j = 1 := by
     rw [Nat.div_eq_of_lt_le] <;> omega
    simp [this]
   have : (n &&& (n + 1)).testBit j = true := by rw [Nat.testBit_and, t1, t2]; rfl
   rw [e] at this
   simp at this
  ·omega
 ·intro e
  have e1 : n = 2 ^ (j + 1) - 1 := by rw [Nat.pow_succ]; omega
  have e2 : n + 1 = 2 ^ (j + 1) := by rw [Nat.pow_succ]; omega
  rw [e2, e1, Nat.and_comm, Nat.and_two_pow_sub_one_eq_mod]
  exact Nat.mod_self _
def luby (n : Nat) : Nat :=
 if h : n = 0 ∨ 9223372036854775808 ≤ n then 0
 else if h2 : n + 1 = 2 * top n then top n
 else luby (n + 1 - top n)
termination_by n
decreasing_by
 obtain ⟨a, b, _, _⟩ := top_spec (n := n) (by omega) (by omega)
 omega
theorem luby_eq {n : Nat} (h1 : 1 ≤ n) (h2 : n < 9223372036854775808) (e : n + 1 = 2 * top n) : luby n = top n := by
 rw [luby, dif_neg (by omega), dif_pos e]
theorem luby_next {n : Nat} (h1 : 1 ≤ n) (h2 : n < 9223372036854775808) (e : n + 1 ≠ 2 * top n) : luby n = luby (n + 1 - top n) := by
 rw [luby, dif_neg (by omega), dif_neg e]
def lubyI (i : Int) : Int := luby i.toNat
set_option maxRecDepth 100000 in
set_option maxHeartbeats 4000000 in
theorem luby_any {w : World} {i : Int} (hi : I64 i) :
  Calls Tryz.prog 39 #[.int .i64 i] w fun r w' => r = .returned (.int .i64 (lubyI i)) ∧ w' = w := by
 unfold I64 at hi
 rcases Int.lt_or_le i 1 with h1 | h1
 ·have e0 : lubyI i = 0 := by
   have : i.toNat = 0 := by omega
   unfold lubyI
   rw [this, luby, dif_pos (.inl rfl)]
   rfl
  rw [e0]
  go_enter Tryz.func39, Tryz.ntmps39
  go_wp2_with fail
  go_ret
  exact ⟨rfl, rfl⟩
 ·obtain ⟨m0, rfl⟩ : ∃ m : Nat, i = m := ⟨i.toNat, by omega⟩
  have y0 : IntKind.u64.wrap (m0 : Int) = (m0 : Int) := IntWalk.u64_in _ ⟨by omega, by omega⟩
  go_enter Tryz.func39, Tryz.ntmps39
  go_wp2_with fail
  go_loopw [3] (fun v W => ∃ m : Nat, 1 ≤ m ∧ m < 9223372036854775808 ∧ v = .int .u64 m ∧ Hid (luby m = luby m0) ∧ W = w) (fun v _ => (intOf v).toNat)
  case atStart => exact ⟨m0, by omega, by omega, rfl, hid rfl, rfl⟩
  case round =>
   obtain ⟨m, a1, a2, rfl, E, rfl⟩ := hrel
   obtain ⟨t1, t2, t3, t4⟩ := top_spec a1 a2
   obtain ⟨j, hj⟩ : ∃ j, Lib.bitLen m - 1 = j := ⟨_, rfl⟩
   have htop : top m = 2 ^ j := by unfold top; rw [hj]
   have hb : (Lib.bitLen m : Int) - 1 = (j : Int) := by omega
   have Hand := hid (and_next a1 a2)
   obtain ⟨q, hq⟩ : ∃ q, m &&& (m + 1) = q := ⟨_, rfl⟩
   have hbits : bits BinOp.and IntKind.u64 (m : Int) ((m : Int) + 1) = (q : Int) := by
    rw [show ((m : Int) + 1) = ((m + 1 : Nat) : Int) by omega, u64_and_nat m (m + 1) (by omega) (by omega), hq]
   by_cases hq0 : q = 0
   ·subst hq0
    have e := Hand.o.1 hq
    have e0 := e
    have L := hid (luby_eq a1 a2 e)
    have hT := hid htop
    clear hq htop hj t1 t2 e
    have hres : Hid (((m : Int) + 1) / 2 = lubyI m0) := by
     refine hid ?_
     unfold lubyI
     rw [Int.toNat_natCast, ← E.o, L.o, show (m : Int) + 1 = 2 * (top m : Int) by omega]
     omega
    clear e0
    go_wp2_with fail
    go_ret
    exact ⟨by rw [← hres.o]; rfl, rfl⟩
   ·have hz : ((q : Int) != 0) = true := by simp; omega
    go_wp2_with fail
    refine (bits_Len m _ (by omega) (by omega)).mono ?_
    rintro r w1 ⟨rfl, rfl⟩
    go_wp2_with fail
    have e : m + 1 ≠ 2 * top m := fun e => hq0 (by rw [← hq]; exact Hand.o.2 e)
    have en := luby_next a1 a2 e
    have hval : IntKind.u64.wrap ((m : Int) - IntKind.u64.wrap (IntKind.u64.wrap ((2 : Int) ^ j) - 1)) = ((m + 1 - top m : Nat) : Int) := by
     have hp : ((2 : Int) ^ j) = ((2 ^ j : Nat) : Int) := by simp
     rw [hp, ← htop]
     have hpos : 0 < top m := by rw [htop]; exact Nat.two_pow_pos j
     rw [IntWalk.u64_in ((top m : Nat) : Int) ⟨by omega, by omega⟩, IntWalk.u64_in ((top m : Nat) - 1 : Int) ⟨by omega, by omega⟩, IntWalk.u64_in _ ⟨by omega, by omega⟩]
     omega
    have h2 : 2 ≤ top m := by omega
    rw [hval]
    go_roundw
    case rel => exact ⟨m + 1 - top m, by omega, by omega, rfl, hid (by rw [← en]; exact E.o), by first | rfl | trivial⟩
    case measure => simp [intOf]; omega
end
end Go.Proofs.YtcjmpobccbnpkaaGreat
