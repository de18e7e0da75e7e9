/-
  Walks: slices.IndexFunc, ContainsFunc, Reverse.
-/
import Derived.Test.YtbghfdhijlpogaaTwalkB
namespace Go.Proofs.Ytbghfdhijlpogaa
open Go.RowKit

set_option maxHeartbeats 400000 in
/-- slices.IndexFunc. -/
theorem indexfunc_slice {w : World} {F : Nat → Prop} {v : Value} {n : Nat} {xs : List Int} {f : FuncId} {first captured : Array Value} {p : Int → Bool} (hv : Rd w F 1 v n (ints xs))
    (hcf : ∀ args W, (callFunc f args).run Try.prog W = .ok (.enter f args) W)
    (hf : ∀ W x, Below w.heap.size w W → x ∈ xs → Calls Try.prog f (first ++ #[.int .i64 x] ++ captured) W fun r W' => r = .returned (.bool (p x)) ∧ Below W.heap.size W W') :
    Calls Try.prog 43 #[v, .func (.func f) first captured] w fun r w' => r = .returned (.int .i64 (posB p xs)) ∧ Below w.heap.size w w' := by
  have Hf := hid hf
  clear hf
  have hv0 := hv
  obtain ⟨hl, A, c, rfl, hc, hm, hA⟩ := hv
  obtain ⟨rfl, hcell⟩ := hv0.cell
  have hn : xs.length ≤ 9223372036854775807 := by unfold maxLen at hm; omega
  clear hl hm hA hv0
  go_enter Try.func43, Try.ntmps43
  go_wp2
  go_loopw [8, 5] (fun i _ W => ∃ k : Nat, k ≤ xs.length ∧ i = .int .i64 k ∧ (∀ y ∈ xs.take k, p y = false) ∧ Below w.heap.size w W) (fun i _ _ => xs.length - (intOf i).toNat)
  case atStart => exact ⟨0, Nat.zero_le _, rfl, by simp, Below.refl _ _⟩
  case round =>
    obtain ⟨k, hk, rfl, hno, hb⟩ := hrel
    have Hno := hid hno
    clear hno
    by_cases hlt : k < xs.length
    · obtain ⟨g, o, rfl, _, hg, hcl0⟩ := hcell k hlt
      have hcl := (hb.cell (p := ⟨g, o + k, none⟩) hg).trans hcl0
      clear hcell hcl0
      cases hq : p (nth xs k)
      · have hq' := hid hq
        clear hq
        go_wp2_with fail
        refine (by simpa using Hf.out wr (nth xs k) hb (nth_mem hlt) : Calls Try.prog f (first.push (.int .i64 (nth xs k)) ++ captured) wr _).mono ?_
        rintro r w1 ⟨rfl, hb1⟩
        rw [hq'.out]
        go_wp2
        go_roundw
        case rel => exact ⟨k + 1, by omega, by go_num, fun y hy => by
          rw [take_nth hlt] at hy
          rcases List.mem_append.1 hy with hy | hy
          · exact Hno.out y hy
          · rw [List.mem_singleton.1 hy]; exact hq'.out, hb.trans (hb1.mono hb.size)⟩
        case measure => simp [intOf]; omega
      · have hq' := hid hq
        clear hq
        go_wp2_with fail
        refine (by simpa using Hf.out wr (nth xs k) hb (nth_mem hlt) : Calls Try.prog f (first.push (.int .i64 (nth xs k)) ++ captured) wr _).mono ?_
        rintro r w1 ⟨rfl, hb1⟩
        rw [hq'.out]
        go_wp2
        go_ret
        rw [posB_at hlt Hno.out hq'.out]
        exact ⟨rfl, hb.trans (hb1.mono hb.size)⟩
    · clear hcell
      have hall : xs.take k = xs := List.take_of_length_le (by omega)
      have H := Hno.out
      rw [hall] at H
      have Hn := hid (posB_none H)
      clear H hall
      go_wp2
      go_ret
      rw [Hn.out]
      exact ⟨rfl, hb⟩
set_option maxHeartbeats 400000 in
/-- slices.ContainsFunc. -/
theorem containsfunc_any {w : World} {F : Nat → Prop} {v : Value} {n : Nat} {xs : List Int} {f : FuncId} {first captured : Array Value} {p : Int → Bool} (hv : Rd w F 1 v n (ints xs))
    (hcf : ∀ args W, (callFunc f args).run Try.prog W = .ok (.enter f args) W)
    (hf : ∀ W x, Below w.heap.size w W → x ∈ xs → Calls Try.prog f (first ++ #[.int .i64 x] ++ captured) W fun r W' => r = .returned (.bool (p x)) ∧ Below W.heap.size W W') :
    Calls Try.prog 37 #[v, .func (.func f) first captured] w fun r w' => r = .returned (.bool (xs.any p)) ∧ Below w.heap.size w w' := by
  have He : Hid (decide (0 ≤ posB p xs) = xs.any p) := hid posB_ge
  have Hv := hid hv
  have Hf := hid hf
  have Hcf := hid hcf
  clear hv hf hcf
  go_enter Try.func37, Try.ntmps37
  go_wp2_with (go_at_call 43; refine (indexfunc_slice Hv.out Hcf.out Hf.out).mono ?_; rintro r w1 ⟨rfl, hb⟩)
  go_ret
  rw [← He.out]
  exact ⟨rfl, hb⟩
theorem reversed {xs ys : List Int} {k : Nat} (hl : ys.length = xs.length) (hy : ∀ i, i < xs.length → nth ys i = if i < k ∨ xs.length - k ≤ i then nth xs (xs.length - 1 - i) else nth xs i) (hk : xs.length ≤ 2 * k + 1) : ys = xs.reverse := by
  apply List.ext_getElem (by simpa using hl)
  intro i h1 h2
  have hi : i < xs.length := by omega
  have h3 := hy i hi
  rw [nth_eq h1] at h3
  rw [h3, List.getElem_reverse]
  split
  · rw [nth_eq (by omega)]
  · rw [nth_eq hi]
    congr 1
    omega
set_option maxHeartbeats 1000000 in
/-- slices.Reverse, of a slice of the call's own. -/
theorem reverse_any {w : World} {F : Nat → Prop} {v : Value} {n : Nat} {xs : List Int} (hv : Own w F 3 1 v n (ints xs)) :
    Calls Try.prog 33 #[v] w fun r w' => r = .returned (.tuple #[]) ∧ Own w' F 3 1 v n (ints xs.reverse) ∧ Mod (row v) w w' := by
  obtain ⟨A, c, rfl, hc, hm, hA⟩ := hv.form
  have hln : xs.length = n := by have := hv.1; simpa [ints_length] using this
  subst hln
  have hn : xs.length ≤ 9223372036854775807 := by unfold maxLen at hm; omega
  have Hv := hid hv
  clear hv hA hm
  go_enter Try.func33, Try.ntmps33
  go_wp2
  go_loopw [2, 3] (fun i j W => ∃ (k : Nat) (ys : List Int), k ≤ xs.length ∧ i = .int .i64 k ∧ j = .int .i64 (xs.length - 1 - k) ∧ ys.length = xs.length ∧
    (∀ i, i < xs.length → nth ys i = if i < k ∨ xs.length - k ≤ i then nth xs (xs.length - 1 - i) else nth xs i) ∧ 2 * k ≤ xs.length + 1 ∧
    Own W F 3 1 (.slice A xs.length c) xs.length (ints ys) ∧ Mod (row (.slice A xs.length c)) w W) (fun i _ _ => xs.length - (intOf i).toNat)
  case atStart => exact ⟨0, xs, by omega, rfl, by go_num, rfl, fun i hi => by rw [if_neg (by omega)], by omega, Hv.out, Mod.refl _ _⟩
  case round =>
    obtain ⟨k, ys, hk, rfl, rfl, hl, hy, h2k, ho, hmod⟩ := hrel
    have Hy := hid hy
    have Hl := hid hl
    have Ho := hid ho
    clear hy hl ho
    by_cases hlt : (k : Int) < (xs.length : Int) - 1 - k
    · obtain ⟨j, hj⟩ : ∃ j : Nat, (xs.length : Int) - 1 - k = j := ⟨((xs.length : Int) - 1 - k).toNat, by omega⟩
      have hjn : xs.length - 1 - k = j := by omega
      rw [hj] at hlt ⊢
      have hlj : j < xs.length := by omega
      have hkj : k < j := by omega
      have hkl : k < xs.length := by omega
      have Hj := hid hj
      have Hjn := hid hjn
      clear hj hjn hlt
      obtain ⟨g, rfl, hFg, hg, c1, f1⟩ := Ho.out.cell (j := k) (by omega)
      obtain ⟨g', hA', _, _, c2, f2⟩ := Ho.out.cell (j := j) (by omega)
      injection hA' with hA'
      injection hA' with hA' _ _
      subst hA'
      rw [ints_nth (by rw [Hl.out]; omega)] at c1
      rw [ints_nth (by rw [Hl.out]; omega)] at c2
      go_wp2
      go_region
      go_wp2
      go_roundw
      case rel =>
        have hs1 := (Ho.out.stored (j := k) (.int .i64 (nth ys j))).stored (j := j) (.int .i64 (nth ys k))
        rw [← ints_set, ← ints_set] at hs1
        have e1 := Hj.out
        have e2 := Hjn.out
        refine ⟨k + 1, (ys.set k (nth ys j)).set j (nth ys k), by omega, by go_num, by rw [show (j : Int) - 1 = (xs.length : Int) - 1 - ((k + 1 : Nat) : Int) from by omega], by simp [Hl.out], fun i hi => ?_, by omega, hs1,
          ((hmod.setCell (p := ⟨g, k, none⟩) (.inl ⟨by omega, rfl⟩) _).setCell (p := ⟨g, j, none⟩) (.inl ⟨by omega, rfl⟩) _).drew⟩
        have hl := Hl.out
        rw [nth_set _ _ _ _ (by simp; omega), nth_set _ _ _ _ (by omega), Hy.out k (by omega), Hy.out j hlj, Hy.out i hi]
        by_cases a1 : j = i
        · subst a1; rw [if_pos rfl, if_neg (by omega), if_pos (by omega)]; congr 1; omega
        · rw [if_neg a1]
          by_cases a2 : k = i
          · subst a2; rw [if_pos rfl, if_neg (by omega), if_pos (by omega)]; congr 1; omega
          · rw [if_neg a2]
            by_cases a3 : i < k ∨ xs.length - k ≤ i
            · rw [if_pos a3, if_pos (by omega)]
            · rw [if_neg a3, if_neg (by omega)]
      case measure => simp [intOf]; omega
    · have hge : decide ((k : Int) < (xs.length : Int) - 1 - k) = false := by simpa using hlt
      have hrev := hid (reversed Hl.out Hy.out (by omega))
      clear hlt
      go_wp2
      go_end0
      refine ⟨rfl, ?_, hmod⟩
      rw [← hrev.out]
      exact Ho.out

end Go.Proofs.Ytbghfdhijlpogaa
