/-
  A pointer at which no trail is: what the functions answer.
-/
import Derived.Test.YtbghfdhijlpogaaTwalkK
namespace Go.Proofs.Ytbghfdhijlpogaa
open Go.RowKit

/-- No trail there: the nil pointer, or a trail that New did not return. -/
def NoTrail (w : World) (p : Option Addr) : Prop := p = none ∨ ∃ b, p = some ⟨b, 0, none⟩ ∧ w.cell? ⟨b, 1, none⟩ = some (.map none)
section
variable {w : World} {p : Option Addr}
theorem NoTrail.below {w' : World} (h : NoTrail w p) (hb : Below w.heap.size w w') : NoTrail w' p := by
  rcases h with rfl | ⟨b, rfl, hc⟩
  · exact .inl rfl
  · exact .inr ⟨b, rfl, (hb.cell (p := ⟨b, 1, none⟩) (World.block_lt_of_cell? w _ hc)).trans hc⟩
set_option maxHeartbeats 400000 in
theorem none_dead (h : NoTrail w p) : Calls Try.prog 30 #[.pointer p] w fun e w' => e = .returned (.bool true) ∧ w = w' := by
  rcases h with rfl | ⟨b, rfl, hc⟩
  · exact none_nil
  · go_enter Try.func30, Try.ntmps30
    go_wp2
    go_ret
    exact ⟨rfl, rfl⟩
set_option maxHeartbeats 400000 in
theorem find_dead (h : NoTrail w p) {v : Int} : Calls Try.prog 32 #[.pointer p, .int .i64 v] w fun e w' =>
    e = .returned (.tuple #[.agg #[.int .i64 0, .int .i64 0, .int .i64 0, .slice none 0 0], .bool false]) ∧ Below w.heap.size w w' := by
  have h' := hid (h.below ((Below.refl _ _).alloc (Nat.le_refl _) (.cells #[.int .i64 0, .int .i64 0, .int .i64 0, .slice none 0 0] 65)))
  clear h
  go_enter Try.func32, Try.ntmps32
  go_wp2_with (go_at_call 30; refine (none_dead h'.out).mono ?_; rintro e w' ⟨rfl, rfl⟩)
  exact bodyPost_ret (v := .tuple #[.agg #[.int .i64 0, .int .i64 0, .int .i64 0, .slice none 0 0], .bool false]) (by simp [results, Try.results32, go_sem]) rfl ⟨rfl, (Below.refl _ _).alloc (Nat.le_refl _) _⟩
set_option maxHeartbeats 400000 in
theorem value_dead (h : NoTrail w p) {v : Int} : Calls Try.prog 18 #[.pointer p, .int .i64 v] w fun r w' => r = .returned (.int .i64 0) ∧ Below w.heap.size w w' := by
  have h' := hid h
  clear h
  go_enter Try.func18, Try.ntmps18
  go_wp2_with (go_at_call 32; refine (find_dead h'.out).mono ?_; rintro r w1 ⟨rfl, hb⟩)
  all_goals (go_ret; exact ⟨rfl, hb.alloc hb.size _⟩)
set_option maxHeartbeats 400000 in
theorem level_dead (h : NoTrail w p) {v : Int} : Calls Try.prog 11 #[.pointer p, .int .i64 v] w fun r w' => r = .returned (.int .i64 (-1)) ∧ Below w.heap.size w w' := by
  have h' := hid h
  clear h
  go_enter Try.func11, Try.ntmps11
  go_wp2_with (go_at_call 32; refine (find_dead h'.out).mono ?_; rintro r w1 ⟨rfl, hb⟩)
  all_goals (go_ret; exact ⟨rfl, hb.alloc hb.size _⟩)
set_option maxHeartbeats 400000 in
theorem index_dead (h : NoTrail w p) {v : Int} : Calls Try.prog 20 #[.pointer p, .int .i64 v] w fun r w' => r = .returned (.int .i64 (-1)) ∧ Below w.heap.size w w' := by
  have h' := hid h
  clear h
  go_enter Try.func20, Try.ntmps20
  go_wp2_with (go_at_call 32; refine (find_dead h'.out).mono ?_; rintro r w1 ⟨rfl, hb⟩)
  all_goals (go_ret; exact ⟨rfl, hb.alloc hb.size _⟩)
set_option maxHeartbeats 400000 in
theorem reason_dead (h : NoTrail w p) {v : Int} : Calls Try.prog 19 #[.pointer p, .int .i64 v] w fun r w' => (∃ A c, r = .returned (.slice A 0 c)) ∧ Below w.heap.size w w' := by
  have h' := hid h
  clear h
  go_enter Try.func19, Try.ntmps19
  go_wp2_with (first | (go_at_call 32; refine (find_dead h'.out).mono ?_; rintro r w1 ⟨rfl, hb⟩) | (go_at_call 31; refine (clone_any (xs := []) (Own.nil _ (fun _ => False) 0 1).rd (by omega)).mono ?_; rintro r w2 ⟨⟨u, rfl, ho⟩, hb2⟩; obtain ⟨A, c, rfl, _⟩ := ho.form))
  go_ret
  exact ⟨⟨_, _, rfl⟩, (hb.alloc hb.size _).trans (hb2.mono (by have := hb.size; simp; omega))⟩
set_option maxHeartbeats 400000 in
theorem undo_dead (h : NoTrail w p) {k : Int} : Calls Try.prog 13 #[.pointer p, .int .i64 k] w fun r w' => r = .returned (.slice none 0 0) ∧ w = w' := by
  have h' := hid h
  clear h
  go_enter Try.func13, Try.ntmps13
  go_wp2_with (go_at_call 30; refine (none_dead h'.out).mono ?_; rintro r w1 ⟨rfl, rfl⟩)
  all_goals (go_ret; exact ⟨rfl, rfl⟩)
set_option maxHeartbeats 400000 in
theorem lits_dead (h : NoTrail w p) : Calls Try.prog 10 #[.pointer p] w fun r w' => r = .returned (.slice none 0 0) ∧ w = w' := by
  have h' := hid h
  clear h
  go_enter Try.func10, Try.ntmps10
  go_wp2_with (go_at_call 30; refine (none_dead h'.out).mono ?_; rintro r w1 ⟨rfl, rfl⟩)
  all_goals (go_ret; exact ⟨rfl, rfl⟩)
set_option maxHeartbeats 400000 in
theorem assign_dead (h : NoTrail w p) : Calls Try.prog 21 #[.pointer p] w fun r w' => r = .returned (.slice none 0 0) ∧ w = w' := by
  have h' := hid h
  clear h
  go_enter Try.func21, Try.ntmps21
  go_wp2_with (go_at_call 30; refine (none_dead h'.out).mono ?_; rintro r w1 ⟨rfl, rfl⟩)
  all_goals (go_ret; exact ⟨rfl, rfl⟩)
set_option maxHeartbeats 400000 in
theorem depth_dead (h : NoTrail w p) : Calls Try.prog 12 #[.pointer p] w fun r w' => r = .returned (.int .i64 0) ∧ w = w' := by
  have h' := hid h
  clear h
  go_enter Try.func12, Try.ntmps12
  go_wp2_with (go_at_call 30; refine (none_dead h'.out).mono ?_; rintro r w1 ⟨rfl, rfl⟩)
  all_goals (go_ret; exact ⟨rfl, rfl⟩)
set_option maxHeartbeats 400000 in
theorem decide_dead (h : NoTrail w p) {l : Int} : Calls Try.prog 16 #[.pointer p, .int .i64 l] w fun r w' => r = .returned (.int .i64 1) ∧ w = w' := by
  have h' := hid h
  clear h
  go_enter Try.func16, Try.ntmps16
  go_wp2_with (go_at_call 30; refine (none_dead h'.out).mono ?_; rintro r w1 ⟨rfl, rfl⟩)
  all_goals (go_ret; exact ⟨rfl, rfl⟩)
set_option maxHeartbeats 400000 in
theorem imply_dead (h : NoTrail w p) {l : Int} {v : Value} : Calls Try.prog 17 #[.pointer p, .int .i64 l, v] w fun r w' => r = .returned (.int .i64 1) ∧ Below w.heap.size w w' := by
  have hb0 := ((Below.refl w.heap.size w).alloc (Nat.le_refl _) (.cells #[.pointer p] 23)).alloc (by simp) (.cells #[.int .i64 l] 3)
  have h' := hid (h.below hb0)
  clear h hb0
  go_enter Try.func17, Try.ntmps17
  go_wp2_with (go_at_call 30; refine (none_dead h'.out).mono ?_; rintro r w1 ⟨rfl, rfl⟩)
  all_goals (go_ret; exact ⟨rfl, ((Below.refl w.heap.size w).alloc (Nat.le_refl _) (.cells #[.pointer p] 23)).alloc (by simp) (.cells #[.int .i64 l] 3)⟩)
end

set_option maxHeartbeats 1000000 in
theorem negated_any {w : World} {F : Nat → Prop} {v : Value} {n : Nat} {xs : List Int} (hv : Rd w F 1 v n (ints xs)) (hn : n ≤ 65536) (hx : ∀ x ∈ xs, -65536 ≤ x ∧ x ≤ 65536) :
    Calls Try.prog 29 #[v] w fun r w' => (∃ u, r = .returned u ∧ Own w' (fun g => w.heap.size ≤ g) 3 1 u n (ints (xs.map fun x => -x))) ∧ Below w.heap.size w w' := by
  obtain ⟨_, A, cap, rfl, hc, _, _⟩ := id hv
  obtain ⟨hln, hcell⟩ := hv.cell
  subst hln
  have Hcell := hid hcell
  have Hx := hid hx
  clear hv hcell hx
  go_enter Try.func29, Try.ntmps29
  go_wp2_with fail
  go_loopw [8, 3, 5] (fun i out _ W => ∃ j : Nat, j ≤ xs.length ∧ i = .int .i64 j ∧ Own W (fun g => w.heap.size ≤ g) 3 1 out j (ints ((xs.take j).map fun x => -x)) ∧ Below w.heap.size w W) (fun i _ _ _ => xs.length - (intOf i).toNat)
  case atStart => exact ⟨0, by omega, rfl, by simpa [ints] using Own.nil w _ _ _, Below.refl _ _⟩
  case round =>
    obtain ⟨j, hj, rfl, ho, hb⟩ := hrel
    have s1 := hb.size
    by_cases hlt : j < xs.length
    · obtain ⟨g, o, rfl, _, hg, hc0⟩ := Hcell.out j hlt
      have hc1 := (hb.cell (p := ⟨g, o + j, none⟩) hg).trans hc0
      obtain ⟨x, hxx⟩ : ∃ x, nth xs j = x := ⟨_, rfl⟩
      obtain ⟨x1, x2⟩ := Hx.out x (by rw [← hxx]; exact nth_mem hlt)
      rw [hxx] at hc1
      have Htk : Hid ((xs.take (j + 1)).map (fun x => -x) = (xs.take j).map (fun x => -x) ++ [-x]) := by rw [take_nth hlt, hxx]; exact hid (by simp)
      have Ho := hid ho
      clear hc0 hxx ho
      go_wp2_with (at_builtin; refine wpList_append_ints rfl _ _ rfl (Ho.out.below ((Below.refl _ _).alloc (Nat.le_refl _) _)) (own_one wr (.int .i64 (-x))).rd rfl rfl (by simp [Value.oneCell']) (by omega) ?_; intro A5 c5 w5 ho5 hm5 hr5)
      go_roundw
      case rel => exact ⟨j + 1, by omega, by go_num, by
        rw [Htk.out, ints_append]
        exact ho5.mono fun g _ _ hg => by simp at hg; omega, hb.trans (((Below.refl _ wr).alloc (by omega) _).trans ⟨hm5.os, hm5.tape, hm5.output, hm5.size, fun g hg => hm5.block g (by simp; omega) fun hr => by
          have := (Ho.out.row hr).1
          omega⟩)⟩
      case measure => simp [intOf]; omega
    · have hall : xs.take j = xs := List.take_of_length_le (by omega)
      have hjl : j = xs.length := by omega
      rw [hall, hjl] at ho
      have Ho := hid ho
      clear hall ho hjl
      go_wp2_with fail
      go_ret
      exact ⟨⟨_, rfl, Ho.out⟩, hb⟩

end Go.Proofs.Ytbghfdhijlpogaa
