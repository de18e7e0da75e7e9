/-
  Chapter 24, the reference: insert.
-/
import Derived.Test.YtooioikkgdgnnaaDoorRfB
import Derived.Test.YtooioikkgdgnnaaDoorRfE
namespace Go.Proofs.YtooioikkgdgnnaaDoor
open Go.RowKit

set_option maxRecDepth 100000 in
set_option maxHeartbeats 4000000 in
theorem ins_any {w : World} {F : Nat → Prop} {A : Option Addr} {n c : Nat} {xs : List Int} {v : Int} (hu : Rd w F 1 (.slice A n c) n (ints xs)) (hn : n ≤ 1000000) :
    Calls Tryd.prog 67 #[.slice A n c, .int .i64 v] w fun r w' => (∃ R cc, r = .returned (.slice R (insR v xs).length cc) ∧ Own w' (fun g => w.heap.size ≤ g) 3 1 (.slice R (insR v xs).length cc) (insR v xs).length (ints (insR v xs))) ∧ Below w.heap.size w w' := by
  have Hu := hid hu
  have Hxl := hid hu.cell.1
  clear hu
  go_enter Tryd.func67, Tryd.ntmps67
  go_wp2_with fail
  go_loopw [5, 6, 7] (fun ov pv iv W => ∃ (j : Nat) (P : List Int) (pl : Bool) (A1 : Option Addr) (c1 : Nat), j ≤ n ∧ iv = .int .i64 j ∧ pv = .bool pl ∧ ov = .slice A1 P.length c1 ∧ Hid (insFold v (xs.take j) = (P, pl)) ∧ Hid (Grw w.heap.size w W (.slice A1 P.length c1) P.length P)) (fun _ _ iv _ => n - (intOf iv).toNat)
  case atStart => exact ⟨0, [], false, none, 0, by omega, rfl, rfl, rfl, hid rfl, hid (Grw.start w)⟩
  case round =>
    obtain ⟨j, P, pl, A1, c1, hj, rfl, rfl, rfl, HP, HG⟩ := hrel
    have hpl := insFold_len v (xs.take j)
    rw [HP.out, List.length_take] at hpl
    have hpl : P.length ≤ 2 * j := by have : P.length ≤ 2 * min j xs.length := hpl; omega
    by_cases hlt : j < n
    · have x1 : (j : Int) < (n : Int) := by omega
      obtain ⟨g, o, rfl, _, hg, hcw⟩ := Hu.out.cell.2 j hlt
      have hst := insFold_snoc v (xs.take j) (nth xs j)
      rw [← take_nth (by rw [Hxl.out]; exact hlt), HP.out] at hst
      obtain ⟨x, hx⟩ : ∃ x, nth xs j = x := ⟨_, rfl⟩
      rw [hx] at hcw hst
      have hcx := (HG.out.2.1.cell (p := ⟨g, o + j, none⟩) hg).trans hcw
      unfold insStep at hst
      have Hst0 := hid hst
      clear hst hx
      by_cases hvx : v ≤ x
      · have d1 : decide (v ≤ x) = true := by simpa using hvx
        cases pl
        · by_cases hxv : x = v
          · subst hxv
            have Hst := hid (show insFold x (xs.take (j + 1)) = (P ++ [x], true) by rw [Hst0.out]; simp)
            have d2 : (x != x) = false := by simp
            go_wp2_with (first
              | (at_builtin; refine wpList_append_ints rfl _ _ rfl (HG.out.alloc (.cells #[.int .i64 x] 3)).1 (own_one wr (.int .i64 x)).rd rfl rfl (by simp [Value.oneCell']) (by first | omega | (simp only [List.length_append, List.length_singleton]; omega)) ?_; intro Av3 cv3 W3 ho3 hm3 hr3; have T3 := hid ((HG.out.alloc (.cells #[.int .i64 x] 3)).push (ys := P ++ [x]) (by rw [ints_append]; exact ho3) hm3); clear ho3 hm3 hr3; have e3 := (T3.out.2.1.cell (p := ⟨g, o + j, none⟩) hg).trans hcw))
            go_roundw
            case rel => exact ⟨j + 1, P ++ [x], true, Av3, cv3, by omega, by go_num, rfl, by simp, Hst, by simpa using T3⟩
            case measure => simp [intOf]; omega
          · have d2 : (x != v) = true := by simpa using hxv
            have Hst := hid (show insFold v (xs.take (j + 1)) = (P ++ [v] ++ [x], true) by rw [Hst0.out]; simp [d1, d2])
            go_wp2_with (first
              | (at_builtin; refine wpList_append_ints rfl _ _ rfl (HG.out.alloc (.cells #[.int .i64 v] 3)).1 (own_one wr (.int .i64 v)).rd rfl rfl (by simp [Value.oneCell']) (by first | omega | (simp only [List.length_append, List.length_singleton]; omega)) ?_; intro Av3 cv3 W3 ho3 hm3 hr3; have T3 := hid ((HG.out.alloc (.cells #[.int .i64 v] 3)).push (ys := P ++ [v]) (by rw [ints_append]; exact ho3) hm3); clear ho3 hm3 hr3; have e3 := (T3.out.2.1.cell (p := ⟨g, o + j, none⟩) hg).trans hcw)
              | (at_builtin; refine wpList_append_ints rfl _ _ rfl (T3.out.alloc (.cells #[.int .i64 x] 3)).1 (own_one W3 (.int .i64 x)).rd rfl rfl (by simp [Value.oneCell']) (by first | omega | (simp only [List.length_append, List.length_singleton]; omega)) ?_; intro Av4 cv4 W4 ho4 hm4 hr4; have T4 := hid ((T3.out.alloc (.cells #[.int .i64 x] 3)).push (ys := (P ++ [v]) ++ [x]) (by rw [ints_append]; exact ho4) hm4); clear ho4 hm4 hr4))
            go_roundw
            case rel => exact ⟨j + 1, P ++ [v] ++ [x], true, Av4, cv4, by omega, by go_num, rfl, by simp, Hst, by simpa using T4⟩
            case measure => simp [intOf]; omega
        · by_cases hxv : x = v
          · subst hxv
            have Hst := hid (show insFold x (xs.take (j + 1)) = (P, true) by rw [Hst0.out]; simp)
            have d2 : (x != x) = false := by simp
            go_wp2_with fail
            go_roundw
            case rel => exact ⟨j + 1, P, true, A1, c1, by omega, by go_num, rfl, rfl, Hst, HG⟩
            case measure => simp [intOf]; omega
          · have d2 : (x != v) = true := by simpa using hxv
            have Hst := hid (show insFold v (xs.take (j + 1)) = (P ++ [x], true) by rw [Hst0.out]; simp [d1, d2])
            go_wp2_with (first
              | (at_builtin; refine wpList_append_ints rfl _ _ rfl (HG.out.alloc (.cells #[.int .i64 x] 3)).1 (own_one wr (.int .i64 x)).rd rfl rfl (by simp [Value.oneCell']) (by first | omega | (simp only [List.length_append, List.length_singleton]; omega)) ?_; intro Av4 cv4 W4 ho4 hm4 hr4; have T4 := hid ((HG.out.alloc (.cells #[.int .i64 x] 3)).push (ys := P ++ [x]) (by rw [ints_append]; exact ho4) hm4); clear ho4 hm4 hr4))
            go_roundw
            case rel => exact ⟨j + 1, P ++ [x], true, Av4, cv4, by omega, by go_num, rfl, by simp, Hst, by simpa using T4⟩
            case measure => simp [intOf]; omega
      · have d1 : decide (v ≤ x) = false := by simpa using hvx
        have d2 : (x != v) = true := by simp; omega
        have Hst := hid (show insFold v (xs.take (j + 1)) = (P ++ [x], pl) by rw [Hst0.out, d1, d2]; simp)
        clear hvx
        go_wp2_with (first
          | (at_builtin; refine wpList_append_ints rfl _ _ rfl (HG.out.alloc (.cells #[.int .i64 x] 3)).1 (own_one wr (.int .i64 x)).rd rfl rfl (by simp [Value.oneCell']) (by first | omega | (simp only [List.length_append, List.length_singleton]; omega)) ?_; intro Av4 cv4 W4 ho4 hm4 hr4; have T4 := hid ((HG.out.alloc (.cells #[.int .i64 x] 3)).push (ys := P ++ [x]) (by rw [ints_append]; exact ho4) hm4); clear ho4 hm4 hr4))
        go_roundw
        case rel => exact ⟨j + 1, P ++ [x], pl, Av4, cv4, by omega, by go_num, rfl, by simp, Hst, by simpa using T4⟩
        case measure => simp [intOf]; omega
    · have hjn : j = n := by omega
      have HP2 := hid (show insFold v xs = (P, pl) by have := HP.out; rwa [List.take_of_length_le (by rw [Hxl.out]; omega)] at this)
      clear hjn
      cases pl
      · have Hr := hid (show insR v xs = P ++ [v] by unfold insR; rw [HP2.out]; simp)
        go_wp2_with (first
          | (at_builtin; refine wpList_append_ints rfl _ _ rfl (HG.out.alloc (.cells #[.int .i64 v] 3)).1 (own_one wr (.int .i64 v)).rd rfl rfl (by simp [Value.oneCell']) (by first | omega | (simp only [List.length_append, List.length_singleton]; omega)) ?_; intro Av3 cv3 W3 ho3 hm3 hr3; have T3 := hid ((HG.out.alloc (.cells #[.int .i64 v] 3)).push (ys := P ++ [v]) (by rw [ints_append]; exact ho3) hm3); clear ho3 hm3 hr3))
        go_ret
        have T4 : Grw w.heap.size w W3 (.slice Av3 (P ++ [v]).length cv3) (P ++ [v]).length (P ++ [v]) := by have := T3.out; simpa using this
        exact ⟨⟨Av3, cv3, by rw [Hr.out]; show Ending.returned (Value.slice _ _ _) = _; simp, by rw [Hr.out]; exact T4.1⟩, T4.2.1⟩
      · have Hr := hid (show insR v xs = P by unfold insR; rw [HP2.out]; simp)
        go_wp2_with fail
        go_ret
        exact ⟨⟨A1, c1, by rw [Hr.out]; rfl, by rw [Hr.out]; exact HG.out.1⟩, HG.out.2.1⟩
end Go.Proofs.YtooioikkgdgnnaaDoor
