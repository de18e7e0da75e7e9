/-
  Pointers that New did not return: the statement HeapNone.
-/
import Derived.Test.YtdkbchpogmiohaaHeapN
namespace Go.Proofs.Ytdkbchpogmiohaa
open Go.RowKit

/-- No order is behind the pointer. -/
def NoOrder (w : World) (q : Option Addr) : Prop := q = none ∨ ∃ b, q = some ⟨b, 0, none⟩ ∧ b < w.heap.size ∧ w.cell? ⟨b, 1, none⟩ = some (.int .i64 0)
theorem NoOrder.below {w w' : World} {q : Option Addr} (e : NoOrder w q) (hb : Below w.heap.size w w') : NoOrder w' q := by
  rcases e with e | ⟨b, e, h1, h2⟩
  · exact .inl e
  · exact .inr ⟨b, e, by have := hb.size; omega, (hb.cell (p := ⟨b, 1, none⟩) h1).trans h2⟩
theorem NoOrder.made {w : World} {q : Option Addr} (e : NoOrder w q) : Calls Try.prog 29 #[.pointer q] w fun r w' => r = .returned (.bool false) ∧ w' = w := by
  rcases e with rfl | ⟨b, rfl, _, h2⟩
  · exact made_nil
  · refine (made_any h2).mono ?_
    rintro r w' ⟨rfl, rfl⟩
    exact ⟨rfl, rfl⟩
theorem next_none {w : World} {q : Option Addr} {t : Value} (e : NoOrder w q) :
    Calls Try.prog 18 #[.pointer q, t] w fun r w' => r = .returned (.tuple #[.int .i64 0, .bool false]) ∧ Below w.heap.size w w' := by
  have E := hid e
  clear e
  go_enter Try.func18, Try.ntmps18
  go_wp2_with fail
  refine (len_none (E.out.below ((Below.refl _ _).alloc (Nat.le_refl _) _)).made).mono ?_
  rintro r w' ⟨rfl, rfl⟩
  go_wp2_with fail
  go_ret2
  exact ⟨rfl, (Below.refl _ _).alloc (Nat.le_refl _) _⟩

set_option maxRecDepth 100000 in
set_option maxHeartbeats 4000000 in
theorem none_walk {w : World} {v : Int} :
    Calls Try.prog 6 #[.int .i64 v] w fun r w' => r = .returned (.bool true) ∧ Below w.heap.size w w' := by
  obtain ⟨B, hB⟩ : ∃ B, w.heap.size = B := ⟨_, rfl⟩
  rw [hB]
  go_enter Try.func6, Try.ntmps6
  go_wp2_with fail
  refine awake_any.mono ?_
  rintro r w1 ⟨rfl, b1⟩
  rw [hB] at b1
  have s1 := b1.size
  go_wp2_with fail
  have c0 : ((w1.alloc (.cells #[.slice none 0 0, .int .i64 0, .slice none 0 0, .slice none 0 0] 42)).alloc (.cells #[.pointer none, .pointer (some ⟨w1.heap.size, 0, none⟩)] 25)).heap[w1.heap.size + 1]? = some (.cells #[.pointer none, .pointer (some ⟨w1.heap.size, 0, none⟩)] 25 (0, 0)) := heap_alloc2_new w1 _ _
  have c1 : ((w1.alloc (.cells #[.slice none 0 0, .int .i64 0, .slice none 0 0, .slice none 0 0] 42)).alloc (.cells #[.pointer none, .pointer (some ⟨w1.heap.size, 0, none⟩)] 25)).heap[w1.heap.size]? = some (.cells #[.slice none 0 0, .int .i64 0, .slice none 0 0, .slice none 0 0] 42 (0, 0)) := heap_alloc2_old w1 _ _
  have B2 : Hid (Below B w ((w1.alloc (.cells #[.slice none 0 0, .int .i64 0, .slice none 0 0, .slice none 0 0] 42)).alloc (.cells #[.pointer none, .pointer (some ⟨w1.heap.size, 0, none⟩)] 25))) := (b1.alloc (by omega) _).alloc (by simp; omega) _
  have z2 : w1.heap.size + 1 < ((w1.alloc (.cells #[.slice none 0 0, .int .i64 0, .slice none 0 0, .slice none 0 0] 42)).alloc (.cells #[.pointer none, .pointer (some ⟨w1.heap.size, 0, none⟩)] 25)).heap.size := lt_of_block c0
  generalize (w1.alloc (.cells #[.slice none 0 0, .int .i64 0, .slice none 0 0, .slice none 0 0] 42)).alloc (.cells #[.pointer none, .pointer (some ⟨w1.heap.size, 0, none⟩)] 25) = w2 at *
  obtain ⟨g1, hg1⟩ : ∃ g1, w1.heap.size + 1 = g1 := ⟨_, rfl⟩
  rw [hg1] at c0 z2 ⊢
  generalize w1.heap.size = g0 at *
  have C0 := hid c0
  have C1 := hid c1
  have Hg1 := hid hg1
  clear c0 c1 hg1 b1
  have s2 := B2.out.size
  refine (new_ok (vars := 3) (by decide)).mono ?_
  rintro r w3 ⟨⟨tb, rfl, _⟩, b3⟩
  have B3 := hid b3
  have B03 : Hid (Below B w w3) := B2.out.trans (b3.mono (by omega))
  have s3 := b3.size
  clear b3
  go_wp2_with fail
  go_loopw [7] (fun iv W => ∃ j : Nat, j ≤ 2 ∧ iv = .int .i64 j ∧ Hid (Below w3.heap.size w3 W)) (fun iv _ => 2 - (intOf iv).toNat)
  case atStart => exact ⟨0, by omega, rfl, hid (Below.refl _ _)⟩
  case round =>
    obtain ⟨j, hj, rfl, B4⟩ := hrel
    have s4 := B4.out.size
    by_cases hlt : j < 2
    · have x1 : (j : Int) < 2 := by omega
      have kk : Hid (∀ k, k < w2.heap.size → wr.heap[k]? = w2.heap[k]?) := fun k hk => (B4.out.block k (by omega)).trans (B3.out.block k hk)
      obtain ⟨q, hq, e1⟩ : ∃ q, Hid (NoOrder wr q) ∧ wr.cell? ⟨g1, j, none⟩ = some (.pointer q) := by
        have d0 := (kk.out g1 z2).trans C0.out
        have d1 := (kk.out g0 (by have := Hg1.out; omega)).trans C1.out
        rcases (by omega : j = 0 ∨ j = 1) with rfl | rfl
        · exact ⟨none, hid (.inl rfl), by rw [cell_of_row _ g1 0 _ _ _ d0]; rfl⟩
        · exact ⟨some ⟨g0, 0, none⟩, hid (.inr ⟨g0, rfl, lt_of_block d1, by rw [cell_of_row _ g0 1 _ _ _ d1]; rfl⟩), by rw [cell_of_row _ g1 1 _ _ _ d0]; rfl⟩
      go_wp2_with fail
      refine (next_none hq.out).mono ?_
      rintro r w5 ⟨rfl, b5⟩
      have hq5 := hid (hq.out.below b5)
      have e5 := (b5.cell (p := ⟨g1, j, none⟩) (show g1 < wr.heap.size by omega)).trans e1
      have B5 := hid b5
      clear b5
      go_wp2_with fail
      refine (len_none hq5.out.made).mono ?_
      rintro r w' ⟨rfl, rfl⟩
      go_wp2_with fail
      refine (activity_none hq5.out.made v).mono ?_
      rintro r w' ⟨rfl, rfl⟩
      go_wp2_with fail
      refine (bump_none hq5.out.made v).mono ?_
      rintro r w' ⟨rfl, rfl⟩
      go_wp2_with fail
      refine (decay_none hq5.out.made).mono ?_
      rintro r w' ⟨rfl, rfl⟩
      go_wp2_with fail
      go_roundw
      case rel => exact ⟨j + 1, by omega, by go_num, hid (B4.out.trans (B5.out.mono (by omega)))⟩
      case measure => simp [intOf]; omega
    · obtain rfl : j = 2 := by omega
      go_wp2_with fail
      go_ret
      exact ⟨rfl, B03.out.trans (B4.out.mono (by omega))⟩
end Go.Proofs.Ytdkbchpogmiohaa
