/-
  The reference's Next.
-/
import Derived.Test.YtdkbchpogmiohaaHeapY
namespace Go.Proofs.Ytdkbchpogmiohaa
open Go.RowKit

theorem i8s_cell {T : Tr} {j : Nat} (h : j < T.vars) : (i8s T.assign)[j]? = some (.int .i8 (T.value ((j : Int) + 1))) := by
  unfold i8s Tr.assign
  rw [List.getElem?_map, List.getElem?_map, List.getElem?_range h]
  rfl
theorem nextBest_le (acts : List Int) (val : Int → Int) (k : Nat) : nextBest acts val k ≤ k := by
  rcases nextBest_spec acts val k with ⟨h, _⟩ | ⟨_, h, _⟩ <;> omega

set_option maxRecDepth 100000 in
set_option maxHeartbeats 4000000 in
theorem rnext_ord {w : World} {F G : Nat → Prop} {v u : Value} {n : Nat} {o : Om} {T : Tr} (hv : RefAt w F v n (wasL o.acts n) o.inc) (hu : Own w G 89 1 u n (i8s T.assign)) (hT : T.vars = n) (hn : n ≤ 65536) :
    Calls Try.prog 45 #[v, u] w fun r w' => r = .returned (.tuple #[.int .i64 (nextBest o.acts T.value n : Nat), .bool (decide (0 < nextBest o.acts T.value n))]) ∧ Below w.heap.size w w' := by
  obtain ⟨A, cap, rfl, O0⟩ := hv
  obtain ⟨A2, c2, rfl, _⟩ := hu.form
  have b1 : Below w.heap.size w (w.alloc (.cells #[.slice A n cap, .int .i64 o.inc] 52)) := (Below.refl _ _).alloc (Nat.le_refl _) _
  have Oh := hid (O0.below b1)
  have Uh := hid (hu.below b1)
  have B1 := hid b1
  have G1 : (w.alloc (.cells #[.slice A n cap, .int .i64 o.inc] 52)).heap[w.heap.size]? = some (.cells #[.slice A n cap, .int .i64 o.inc] 52 (0, 0)) := heap_alloc_new w _
  have HT := hid hT
  clear hT O0 hu b1
  go_enter Try.func45, Try.ntmps45
  go_wp2_with fail
  generalize (w.alloc (.cells #[.slice A n cap, .int .i64 o.inc] 52)) = w1 at *
  obtain ⟨b, hb⟩ : ∃ b, w.heap.size = b := ⟨_, rfl⟩
  rw [hb] at G1 B1 ⊢
  obtain ⟨c0, _, _, _⟩ := box2 G1
  clear G1
  have C0 := hid c0
  clear c0
  go_loopw [7, 6] (fun iv bv W => ∃ (j : Nat), j ≤ n ∧ iv = .int .i64 ((j : Int) + 1) ∧ bv = .int .i64 (nextBest o.acts T.value j : Nat) ∧ Hid (∃ z, W = w1.drewN z)) (fun iv _ _ => n + 1 - (intOf iv).toNat)
  case atStart => exact ⟨0, by omega, rfl, rfl, 0, rfl⟩
  case round =>
    obtain ⟨j, hj, rfl, rfl, Z⟩ := hrel
    have c0 : wr.cell? ⟨b, 0, none⟩ = some (.slice A n cap) := by obtain ⟨z, rfl⟩ := Z.out; exact C0.out
    by_cases hjn : j < n
    · have x1 : (j : Int) + 1 ≤ (n : Int) := by omega
      have x2 : (j : Int) < (n : Int) := by omega
      obtain ⟨g2, rfl, _, _, e2, _⟩ := Uh.out.cell (j := j) (by omega)
      rw [i8s_cell (by have := HT.out; omega)] at e2
      obtain ⟨x, hx⟩ : ∃ x, T.value ((j : Int) + 1) = x := ⟨_, rfl⟩
      rw [hx] at e2
      have e2 : wr.cell? ⟨g2, j, none⟩ = some (.int .i8 x) := by obtain ⟨z, rfl⟩ := Z.out; exact e2
      obtain ⟨g, rfl, _, _, e1, _⟩ := Oh.out.cell (j := j) (by omega)
      rw [ints_nth (by rw [wasL_length]; exact hjn), wasL_nth hjn] at e1
      obtain ⟨a, ha⟩ : ∃ a, nth o.acts (j + 1) = a := ⟨_, rfl⟩
      rw [ha] at e1
      have e1 : wr.cell? ⟨g, j, none⟩ = some (.int .i64 a) := by obtain ⟨z, rfl⟩ := Z.out; exact e1
      obtain ⟨nb, hnb⟩ : ∃ nb, nextBest o.acts T.value j = nb := ⟨_, rfl⟩
      have hnbj := nextBest_le o.acts T.value j
      have hstep : Hid (nextBest o.acts T.value (j + 1) = if x ≠ 0 then nb else if nb = 0 ∨ nth o.acts nb < a then j + 1 else nb) := by
        have : nextBest o.acts T.value (j + 1) = if T.value ((j + 1 : Nat) : Int) ≠ 0 then nextBest o.acts T.value j else if nextBest o.acts T.value j = 0 ∨ nth o.acts (nextBest o.acts T.value j) < nth o.acts (j + 1) then j + 1 else nextBest o.acts T.value j := rfl
        rw [this, show ((j + 1 : Nat) : Int) = (j : Int) + 1 by omega, hx, hnb, ha]
        exact hid rfl
      rw [hnb] at hnbj ⊢
      have Ha := hid ha
      clear hx ha hnb
      cases q : (x != 0)
      · have hq : x = 0 := by simpa using q
        by_cases h0 : nb = 0
        · subst h0
          have e : Hid (nextBest o.acts T.value (j + 1) = j + 1) := by rw [hstep.out, if_neg (by omega), if_pos (.inl rfl)]; exact hid rfl
          clear hq
          go_wp2_with fail
          go_quiet (fail)
          go_wp2_with fail
          go_roundw
          case rel =>
            obtain ⟨z, rfl⟩ := Z.out
            exact ⟨j + 1, by omega, by go_num, by rw [e.out]; go_num, z + nq, World.drewN_drewN _ _ _⟩
          case measure => simp [intOf]; omega
        · obtain ⟨k, rfl⟩ : ∃ k, nb = k + 1 := ⟨nb - 1, by omega⟩
          have hkn : k < n := by omega
          have x3 : (k : Int) < (n : Int) := by omega
          have x4 : ((k : Int) + 1 == 0) = false := by simp; omega
          obtain ⟨_, he, _, _, e3, _⟩ := Oh.out.cell (j := k) (by omega)
          injection he with he; injection he with he _ _; subst he
          rw [ints_nth (by rw [wasL_length]; exact hkn), wasL_nth hkn] at e3
          obtain ⟨c, hc⟩ : ∃ c, nth o.acts (k + 1) = c := ⟨_, rfl⟩
          rw [hc] at e3
          have e3 : wr.cell? ⟨g, k, none⟩ = some (.int .i64 c) := by obtain ⟨z, rfl⟩ := Z.out; exact e3
          rw [hc] at hstep
          have Hc := hid hc
          clear hc
          by_cases hca : c < a
          · have e : Hid (nextBest o.acts T.value (j + 1) = j + 1) := by rw [hstep.out, if_neg (by omega), if_pos (.inr hca)]; exact hid rfl
            clear hq
            go_wp2_with fail
            go_quiet (fail)
            go_wp2_with fail
            go_roundw
            case rel =>
              obtain ⟨z, rfl⟩ := Z.out
              exact ⟨j + 1, by omega, by go_num, by rw [e.out]; go_num, z + nq, World.drewN_drewN _ _ _⟩
            case measure => simp [intOf]; omega
          · have e : Hid (nextBest o.acts T.value (j + 1) = k + 1) := by rw [hstep.out, if_neg (by omega), if_neg (by omega)]; exact hid rfl
            have hca : (c < a) = False := by simp; omega
            clear hq
            go_wp2_with fail
            go_quiet (fail)
            go_wp2_with fail
            go_roundw
            case rel =>
              obtain ⟨z, rfl⟩ := Z.out
              exact ⟨j + 1, by omega, by go_num, by rw [e.out]; go_num, z + nq, World.drewN_drewN _ _ _⟩
            case measure => simp [intOf]; omega
      · have hq : x ≠ 0 := by simpa using q
        have e : Hid (nextBest o.acts T.value (j + 1) = nb) := by rw [hstep.out, if_pos hq]; exact hid rfl
        clear hq
        go_wp2_with fail
        go_roundw
        case rel =>
          exact ⟨j + 1, by omega, by go_num, by rw [e.out], Z⟩
        case measure => simp [intOf]; omega
    · have x1 : (n : Int) < (j : Int) + 1 := by omega
      have ejn : j = n := by omega
      rw [ejn] at x1 ⊢
      clear ejn hj hjn
      clear j
      obtain ⟨nb, hnb⟩ : ∃ nb, nextBest o.acts T.value n = nb := ⟨_, rfl⟩
      rw [hnb]
      go_wp2_with fail
      go_ret2
      obtain ⟨z, rfl⟩ := Z.out
      refine ⟨by simp [hnb], ?_⟩
      rw [hb]
      exact B1.out.trans (Below.drewsN _ _ _)
end Go.Proofs.Ytdkbchpogmiohaa
