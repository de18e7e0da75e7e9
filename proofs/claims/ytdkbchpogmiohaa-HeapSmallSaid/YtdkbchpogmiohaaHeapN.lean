/-
  The example of the chapter.
-/
import Derived.Test.YtdkbchpogmiohaaHeapM
import Derived.Test.YtdkbchpogmiohaaHeapK
namespace Go.Proofs.Ytdkbchpogmiohaa
open Go.RowKit

section
variable {w w' : World} {B b n tb : Nat} {o : Om} {T : Tr}
theorem two_next (e : Two w B b n o tb T) : Calls Try.prog 18 #[.pointer (some ⟨b, 0, none⟩), .pointer (some ⟨tb, 0, none⟩)] w fun r w' =>
    r = .returned (.tuple #[.int .i64 (nextBest o.acts T.value n : Nat), .bool (decide (0 < nextBest o.acts T.value n))]) ∧ Two w' B b n o tb T ∧ Below w.heap.size w w' := by
  have e0 := e
  obtain ⟨Fo, Ft, h1, h2, h3, h4, h5⟩ := e
  refine (next_any (F := fun g => Fo g ∨ Ft g) (h1.mono fun g _ h => .inl h) (h2.mono fun g h => .inr h)).mono ?_
  rintro r w' ⟨⟨v, is, rfl, hn⟩, hb⟩
  obtain ⟨rfl, rfl⟩ := hn.best
  exact ⟨rfl, e0.below hb, hb⟩
theorem two_next_at (e : Two w B b n o tb T) {k : Int} {q : Bool} (h1 : (nextBest o.acts T.value n : Nat) = k) (h2 : decide (0 < nextBest o.acts T.value n) = q) : Calls Try.prog 18 #[.pointer (some ⟨b, 0, none⟩), .pointer (some ⟨tb, 0, none⟩)] w fun r w' =>
    r = .returned (.tuple #[.int .i64 k, .bool q]) ∧ Two w' B b n o tb T ∧ Below w.heap.size w w' := by
  rw [← h1, ← h2]; exact two_next e
theorem two_activity_at (e : Two w B b n o tb T) {v k : Int} (h : actv o.acts n v = k) : Calls Try.prog 19 #[.pointer (some ⟨b, 0, none⟩), .int .i64 v] w fun r w' => r = .returned (.int .i64 k) ∧ w' = w := by
  rw [← h]; exact two_activity e v
end

def exA : Om := Om.new 3
def exB : Om := exA.bumpI 3 3
def exC : Om := exB.decay
def exD : Om := exC.bumpI 3 2
def exT : Tr := ⟨3, [], []⟩
theorem ex1 : nextBest exA.acts exT.value 3 = 1 := by decide
theorem ex2 : nextBest exB.acts exT.value 3 = 3 := by decide
theorem ex3 : nextBest exD.acts exT.value 3 = 2 := by decide
theorem ex4 : nextBest exD.acts (exT.dec (-2)).value 3 = 3 := by decide
theorem ex5 : actv exD.acts 3 1 = 0 := by decide
theorem ex6 : actv exD.acts 3 2 = 2 := by decide
theorem ex7 : actv exD.acts 3 3 = 1 := by decide
def exL : List Int := [1, 1, 2, 1, 1, 2, 4, 1]
theorem ex8 (k : Nat) (hk : k < 8) : lubyI ((k : Int) + 1) = nth exL k := by
  have l1 : luby 1 = 1 := by rw [luby_eq (by decide) (by decide) (by decide)]; decide
  have l3 : luby 3 = 2 := by rw [luby_eq (by decide) (by decide) (by decide)]; decide
  have l7 : luby 7 = 4 := by rw [luby_eq (by decide) (by decide) (by decide)]; decide
  have l2 : luby 2 = 1 := by rw [luby_next (by decide) (by decide) (by decide), show 2 + 1 - top 2 = 1 by decide, l1]
  have l4 : luby 4 = 1 := by rw [luby_next (by decide) (by decide) (by decide), show 4 + 1 - top 4 = 1 by decide, l1]
  have l5 : luby 5 = 1 := by rw [luby_next (by decide) (by decide) (by decide), show 5 + 1 - top 5 = 2 by decide, l2]
  have l6 : luby 6 = 2 := by rw [luby_next (by decide) (by decide) (by decide), show 6 + 1 - top 6 = 3 by decide, l3]
  have l8 : luby 8 = 1 := by rw [luby_next (by decide) (by decide) (by decide), show 8 + 1 - top 8 = 1 by decide, l1]
  unfold lubyI
  rw [show ((k : Int) + 1).toNat = k + 1 by omega]
  rcases (by omega : k = 0 ∨ k = 1 ∨ k = 2 ∨ k = 3 ∨ k = 4 ∨ k = 5 ∨ k = 6 ∨ k = 7) with rfl | rfl | rfl | rfl | rfl | rfl | rfl | rfl
  · rw [l1]; rfl
  · rw [l2]; rfl
  · rw [l3]; rfl
  · rw [l4]; rfl
  · rw [l5]; rfl
  · rw [l6]; rfl
  · rw [l7]; rfl
  · rw [l8]; rfl

set_option maxRecDepth 100000 in
set_option maxHeartbeats 4000000 in
theorem awake_any {w : World} : Calls Try.prog 13 #[] w fun r w' => r = .returned (.bool true) ∧ Below w.heap.size w w' := by
  obtain ⟨B, hB⟩ : ∃ B, w.heap.size = B := ⟨_, rfl⟩
  rw [hB]
  go_enter Try.func13, Try.ntmps13
  go_wp2_with fail
  refine (onew_any (n := 3) (by decide)).mono ?_
  rintro r w1 ⟨b, rfl, o1, b1⟩
  rw [hB] at o1 b1
  have s1 := b1.size
  go_wp2_with fail
  refine (new_ok (vars := 3) (by decide)).mono ?_
  rintro r w2 ⟨⟨tb, rfl, t2⟩, b2⟩
  have W2 : Hid (Two w2 B b 3 exA tb exT) := Two.make (B1 := w1.heap.size) o1 rfl t2 b2 (by omega)
  have B2 : Hid (Below B w w2) := b1.trans ⟨b2.os, b2.tape, b2.output, b2.size, fun k hk => b2.block k (by omega)⟩
  have s2 := B2.out.size
  clear o1 b1 t2 b2
  go_wp2_with fail
  refine (two_len W2.out).mono ?_
  rintro r w' ⟨rfl, rfl⟩
  go_wp2_with fail
  refine (two_next_at W2.out (k := 1) (q := true) (by rw [ex1]; rfl) (by rw [ex1]; rfl)).mono ?_
  rintro r w3 ⟨rfl, W3, b3⟩
  have B3 : Hid (Below B w w3) := B2.out.trans (b3.mono (by omega))
  have s3 := B3.out.size
  have W3 := hid W3
  clear b3
  go_wp2_with fail
  refine (two_bump W3.out (by omega) 3).mono ?_
  rintro r w4 ⟨rfl, W4, b4⟩
  have B4 : Hid (Below B w w4) := B3.out.trans b4
  have s4 := B4.out.size
  have W4 : Hid (Two w4 B b 3 exB tb exT) := W4
  clear b4
  go_wp2_with fail
  refine (two_next_at W4.out (k := 3) (q := true) (by rw [ex2]; rfl) (by rw [ex2]; rfl)).mono ?_
  rintro r w5 ⟨rfl, W5, b5⟩
  have B5 : Hid (Below B w w5) := B4.out.trans (b5.mono (by omega))
  have s5 := B5.out.size
  have W5 := hid W5
  clear b5
  go_wp2_with fail
  refine (two_decay W5.out (by omega)).mono ?_
  rintro r w6 ⟨rfl, W6, b6⟩
  have B6 : Hid (Below B w w6) := B5.out.trans b6
  have s6 := B6.out.size
  have W6 : Hid (Two w6 B b 3 exC tb exT) := W6
  clear b6
  go_wp2_with fail
  refine (two_bump W6.out (by omega) 2).mono ?_
  rintro r w7 ⟨rfl, W7, b7⟩
  have B7 : Hid (Below B w w7) := B6.out.trans b7
  have s7 := B7.out.size
  have W7 : Hid (Two w7 B b 3 exD tb exT) := W7
  clear b7
  go_wp2_with fail
  refine (two_next_at W7.out (k := 2) (q := true) (by rw [ex3]; rfl) (by rw [ex3]; rfl)).mono ?_
  rintro r w8 ⟨rfl, W8, b8⟩
  have B8 : Hid (Below B w w8) := B7.out.trans (b8.mono (by omega))
  have s8 := B8.out.size
  have W8 := hid W8
  clear b8
  go_wp2_with fail
  refine (two_activity_at W8.out ex5).mono ?_
  rintro r w' ⟨rfl, rfl⟩
  go_wp2_with fail
  refine (two_activity_at W8.out ex6).mono ?_
  rintro r w' ⟨rfl, rfl⟩
  go_wp2_with fail
  refine (two_activity_at W8.out ex7).mono ?_
  rintro r w' ⟨rfl, rfl⟩
  go_wp2_with fail
  refine (two_decide W8.out (by omega) (l := -2) (by unfold I64; omega)).mono ?_
  rintro r w9 ⟨rfl, W9, b9⟩
  have B9 : Hid (Below B w w9) := B8.out.trans b9
  have s9 := B9.out.size
  have W9 := hid W9
  clear b9
  go_wp2_with fail
  refine (two_next_at W9.out (k := 3) (q := true) (by rw [ex4]; rfl) (by rw [ex4]; rfl)).mono ?_
  rintro r w10 ⟨rfl, W10, b10⟩
  have B10 : Hid (Below B w w10) := B9.out.trans (b10.mono (by omega))
  have s10 := B10.out.size
  clear b10 W10
  go_wp2_with fail
  have cs : ∀ j, j < 8 → (w10.alloc (.cells #[.int .i64 1, .int .i64 1, .int .i64 2, .int .i64 1, .int .i64 1, .int .i64 2, .int .i64 4, .int .i64 1] 3)).cell? ⟨w10.heap.size, j, none⟩ = some (.int .i64 (nth exL j)) := fun j hj => by
    rw [cell_of_row _ w10.heap.size j _ _ _ (heap_alloc_new w10 _)]
    rcases (by omega : j = 0 ∨ j = 1 ∨ j = 2 ∨ j = 3 ∨ j = 4 ∨ j = 5 ∨ j = 6 ∨ j = 7) with rfl | rfl | rfl | rfl | rfl | rfl | rfl | rfl <;> rfl
  have B11 : Hid (Below B w (w10.alloc (.cells #[.int .i64 1, .int .i64 1, .int .i64 2, .int .i64 1, .int .i64 1, .int .i64 2, .int .i64 4, .int .i64 1] 3))) := B10.out.alloc (by omega) _
  generalize w10.alloc (.cells #[.int .i64 1, .int .i64 1, .int .i64 2, .int .i64 1, .int .i64 1, .int .i64 2, .int .i64 4, .int .i64 1] 3) = w11 at *
  generalize w10.heap.size = g at *
  have Cs := hid cs
  clear cs
  go_loopw [15] (fun iv W => ∃ j : Nat, j ≤ 8 ∧ iv = .int .i64 j ∧ Hid (∃ z, W = w11.drewN z)) (fun iv _ => 8 - (intOf iv).toNat)
  case atStart => exact ⟨0, by omega, rfl, 0, rfl⟩
  case round =>
    obtain ⟨j, hj, rfl, Z⟩ := hrel
    by_cases hlt : j < 8
    · have x1 : (j : Int) < 8 := by omega
      have e1 : wr.cell? ⟨g, j, none⟩ = some (.int .i64 (nth exL j)) := by
        obtain ⟨z, rfl⟩ := Z.out
        exact Cs.out j hlt
      have Lq : Hid (∀ z, Calls Try.prog 11 #[.int .i64 ((j : Int) + 1)] (wr.drewN z) fun e w'' => e = .returned (.int .i64 (nth exL j)) ∧ ∃ m, w'' = wr.drewN m) := fun z => by
        rw [← ex8 j hlt]
        exact Calls.quiet_of_same (luby_any (by unfold I64; omega))
      generalize nth exL j = v at *
      have hvv : (v != v) = false := by simp
      go_wp2_with fail
      go_quiet (first | (go_at_call 11; exact Lq.out _))
      go_wp2_with fail
      go_roundw
      case rel =>
        obtain ⟨z, rfl⟩ := Z.out
        exact ⟨j + 1, by omega, by go_num, z + nq, World.drewN_drewN _ _ _⟩
      case measure => simp [intOf]; omega
    · obtain rfl : j = 8 := by omega
      obtain ⟨z, rfl⟩ := Z.out
      go_wp2_with fail
      go_ret
      exact ⟨rfl, B11.out.trans ⟨rfl, rfl, rfl, Nat.le_refl _, fun _ _ => rfl⟩⟩
end Go.Proofs.Ytdkbchpogmiohaa
