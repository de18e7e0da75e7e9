/-
  Chapter 24: the statements' own lists: Small, holds.
-/
import Derived.Test.YtooioikkgdgnnaaDoorPbR
import Derived.Test.YtooioikkgdgnnaaDoorPbN
namespace Go.Proofs.YtooioikkgdgnnaaDoor
open Go.RowKit

/-- What Small makes of the first j numbers. -/
def smallAt (ls ks : List Int) (i : Nat) : Int × Int := (Int.tmod (nth ls i) 7, if i < ks.length then Int.tmod (nth ks i) 9 else 0)
def smalls (ls ks : List Int) (j : Nat) : List (Int × Int) := ((List.range j).map (smallAt ls ks)).filter fun p => decide (p.1 ≠ 0)
theorem smalls_succ (ls ks : List Int) (j : Nat) : smalls ls ks (j + 1) = smalls ls ks j ++ (if (smallAt ls ks j).1 ≠ 0 then [smallAt ls ks j] else []) := by
  unfold smalls
  rw [List.range_succ, List.map_append, List.filter_append]
  congr 1
  by_cases e : (smallAt ls ks j).1 = 0
  · simp [e]
  · simp [e]
theorem smalls_len (ls ks : List Int) (j : Nat) : (smalls ls ks j).length ≤ j := by
  unfold smalls
  have := List.length_filter_le (fun p : Int × Int => decide (p.1 ≠ 0)) ((List.range j).map (smallAt ls ks))
  simpa using this
def smL (ls ks : List Int) : List Int := (smalls ls ks (min ls.length 8)).map Prod.fst
def smC (ls ks : List Int) : List Int := (smalls ls ks (min ls.length 8)).map Prod.snd

/-- Two slices that grow side by side. -/
def Pr (B : Nat) (W0 W : World) (vL vC : Value) (n m : Nat) (xs ys : List Value) : Prop :=
  Own W (fun g => B ≤ g) 3 1 vL n xs ∧ Own W (fun g => B ≤ g) 3 1 vC m ys ∧ (∀ g, row vL g → ¬ row vC g) ∧ Below B W0 W ∧ B ≤ W.heap.size
section
variable {B : Nat} {W0 W W' : World} {vL vC : Value} {n m : Nat} {xs ys : List Value}
theorem Pr.start (w : World) : Pr w.heap.size w w (.slice none 0 0) (.slice none 0 0) 0 0 (ints []) (ints []) := ⟨Own.nil _ _ _ _, Own.nil _ _ _ _, fun g hg => by simp [row] at hg, Below.refl _ _, Nat.le_refl _⟩
theorem Pr.drew (h : Pr B W0 W vL vC n m xs ys) : Pr B W0 W.drew vL vC n m xs ys := ⟨h.1, h.2.1, h.2.2.1, ⟨h.2.2.2.1.os, h.2.2.2.1.tape, h.2.2.2.1.output, h.2.2.2.1.size, h.2.2.2.1.block⟩, h.2.2.2.2⟩
theorem Pr.swap (h : Pr B W0 W vL vC n m xs ys) : Pr B W0 W vC vL m n ys xs := ⟨h.2.1, h.1, fun g a b => h.2.2.1 g b a, h.2.2.2⟩
theorem Pr.alloc (h : Pr B W0 W vL vC n m xs ys) (o : Obj) : Pr B W0 (W.alloc o) vL vC n m xs ys := by
  have b : Below W.heap.size W (W.alloc o) := (Below.refl _ _).alloc (Nat.le_refl _) _
  exact ⟨h.1.below b, h.2.1.below b, h.2.2.1, h.2.2.2.1.alloc h.2.2.2.2 _, by rw [World.size_alloc]; have := h.2.2.2.2; omega⟩
theorem Pr.rows (h : Pr B W0 W vL vC n m xs ys) : ∀ g, row vL g → g < W.heap.size := fun g hg => by
  obtain ⟨_, cur, hc⟩ := h.1.row hg
  exact lt_of_block hc
theorem Pr.push {u : Value} {n' : Nat} {xs' : List Value} (h : Pr B W0 W vL vC n m xs ys) (ho : Own W' (fun b => B ≤ b ∨ W.heap.size ≤ b) 3 1 u n' xs') (hm : Mod (row vL) W W') (hr : ∀ b, row u b → row vL b ∨ W.heap.size ≤ b) :
    Pr B W0 W' u vC n' m xs' ys := by
  have hB := h.2.2.2.2
  have hrow : ∀ g, row vL g → B ≤ g := fun g hg => (h.1.row hg).1
  have hrowC := h.swap.rows
  refine ⟨ho.mono (fun g _ _ hF => hF.elim id fun hF => by omega), h.2.1.mod hm (fun g _ hrC _ hrL => h.2.2.1 g hrL hrC), fun g hg hC => ?_, below_mod h.2.2.2.1 hB hm hrow, Nat.le_trans hB hm.size⟩
  rcases hr g hg with h1 | h1
  · exact h.2.2.1 g h1 hC
  · have := hrowC g hC; omega
end

set_option maxRecDepth 100000 in
set_option maxHeartbeats 4000000 in
theorem small_any {w : World} {F G : Nat → Prop} {u v : Value} {n m : Nat} {ls ks : List Int} (hu : Rd w F 1 u n (ints ls)) (hv : Rd w G 1 v m (ints ks)) :
    Calls Tryd.prog 28 #[u, v] w fun r w' => (∃ A n1 c1 B n2 c2, r = .returned (.tuple #[.slice A n1 c1, .slice B n2 c2]) ∧ Own w' (fun g => w.heap.size ≤ g) 3 1 (.slice A n1 c1) n1 (ints (smL ls ks)) ∧
      Own w' (fun g => w.heap.size ≤ g) 3 1 (.slice B n2 c2) n2 (ints (smC ls ks))) ∧ Below w.heap.size w w' := by
  obtain ⟨A, c, rfl, hc, hcm, _⟩ := hu.2
  obtain ⟨B, d, rfl, hd, hdm, _⟩ := hv.2
  obtain ⟨rfl, hA⟩ := hu.cell
  obtain ⟨rfl, hB⟩ := hv.cell
  have hn : ls.length ≤ 9223372036854775807 := by unfold maxLen at hcm; omega
  have hm : ks.length ≤ 9223372036854775807 := by unfold maxLen at hdm; omega
  clear hcm hdm
  go_enter Tryd.func28, Tryd.ntmps28
  go_wp2_with fail
  have hAA := hid hA
  have hBB := hid hB
  clear hA hB
  go_loopw [6, 7, 8] (fun vl vc iv W => ∃ (i : Nat) (sm : List (Int × Int)) (A1 : Option Addr) (c1 : Nat) (A2 : Option Addr) (c2 : Nat), i ≤ min ls.length 8 ∧ iv = .int .i64 i ∧ vl = .slice A1 sm.length c1 ∧ vc = .slice A2 sm.length c2 ∧ Hid (sm = smalls ls ks i) ∧
      Hid (Pr w.heap.size w W (.slice A1 sm.length c1) (.slice A2 sm.length c2) sm.length sm.length (ints (sm.map Prod.fst)) (ints (sm.map Prod.snd)))) (fun _ _ iv _ => 8 - (intOf iv).toNat)
  case atStart => exact ⟨0, [], none, 0, none, 0, by omega, rfl, rfl, rfl, hid rfl, hid (Pr.start w)⟩
  case round =>
    obtain ⟨i, sm, A1, c1, A2, c2, hi8, rfl, rfl, rfl, Hsm, Tr⟩ := hrel
    have hb := Tr.out.2.2.2.1
    have hslen : sm.length ≤ i := by rw [Hsm.out]; exact smalls_len _ _ _
    by_cases hlt : i < min ls.length 8
    · have x1 : (i : Int) < (ls.length : Int) := by omega
      have x2 : (i : Int) < 8 := by omega
      obtain ⟨g, o, rfl, _, hg, hc1⟩ := hAA.out i (by omega)
      have e1 := (hb.cell (p := ⟨g, o + i, none⟩) hg).trans hc1
      obtain ⟨vv, hvv⟩ : ∃ v, Int.tmod (nth ls i) 7 = v := ⟨_, rfl⟩
      have hss := smalls_succ ls ks i
      clear hc1 hb
      by_cases hlk : i < ks.length
      · have x3 : (i : Int) < (ks.length : Int) := by omega
        obtain ⟨g', o', rfl, _, hg', hc2⟩ := hBB.out i hlk
        have e2 := (Tr.out.2.2.2.1.cell (p := ⟨g', o' + i, none⟩) hg').trans hc2
        obtain ⟨kk, hkk⟩ : ∃ v, Int.tmod (nth ks i) 9 = v := ⟨_, rfl⟩
        have hat : smallAt ls ks i = (vv, kk) := by unfold smallAt; rw [if_pos hlk, hvv, hkk]
        have Hat := hid hat
        clear hc2 hat
        by_cases hv0 : vv = 0
        · subst hv0
          have Hs := hid hss
          clear hss
          go_wp2_with fail
          go_roundw
          case rel => exact ⟨i + 1, sm, A1, c1, A2, c2, by omega, by go_num, rfl, rfl, hid (by rw [Hs.out, Hsm.out, Hat.out]; simp), Tr⟩
          case measure => simp [intOf]; omega
        · have t3 : (vv != 0) = true := by simpa using hv0
          have Hs := hid hss
          clear hss
          go_wp2_with (first
                      | (at_builtin; refine wpList_append_ints rfl _ _ rfl (Tr.out.alloc (.cells #[.int .i64 vv] 3)).1 (own_one wr (.int .i64 vv)).rd rfl rfl (by simp [Value.oneCell']) (by omega) ?_; intro Av3 cv3 W3 ho3 hm3 hr3; have T3 := hid ((Tr.out.alloc (.cells #[.int .i64 vv] 3)).push ho3 hm3 hr3); clear ho3 hm3 hr3)
                      | (at_builtin; refine wpList_append_ints rfl _ _ rfl (T3.out.alloc (.cells #[.int .i64 kk] 3)).swap.1 (own_one W3 (.int .i64 kk)).rd rfl rfl (by simp [Value.oneCell']) (by omega) ?_; intro Av7 cv7 W7 ho7 hm7 hr7; have T7 := hid ((T3.out.alloc (.cells #[.int .i64 kk] 3)).swap.push ho7 hm7 hr7).swap; clear ho7 hm7 hr7))
          go_roundw
          case rel =>
            have e9 : smalls ls ks (i + 1) = sm ++ [(vv, kk)] := by rw [Hs.out, Hat.out, if_pos hv0, Hsm.out]
            refine ⟨i + 1, smalls ls ks (i + 1), Av3, cv3, Av7, cv7, by omega, by go_num, ?_, ?_, hid rfl, ?_⟩
            · rw [e9, List.length_append]; rfl
            · rw [e9, List.length_append]; rfl
            · rw [e9, List.length_append, List.map_append, List.map_append, ints_append, ints_append]
              exact T7
          case measure => simp [intOf]; omega
      · have x3 : ¬ ((i : Int) < (ks.length : Int)) := by omega
        have hat : smallAt ls ks i = (vv, 0) := by unfold smallAt; rw [if_neg hlk, hvv]
        have Hat := hid hat
        clear hat
        by_cases hv0 : vv = 0
        · subst hv0
          have Hs := hid hss
          clear hss
          go_wp2_with fail
          go_roundw
          case rel => exact ⟨i + 1, sm, A1, c1, A2, c2, by omega, by go_num, rfl, rfl, hid (by rw [Hs.out, Hsm.out, Hat.out]; simp), Tr⟩
          case measure => simp [intOf]; omega
        · have t3 : (vv != 0) = true := by simpa using hv0
          have Hs := hid hss
          clear hss
          go_wp2_with (first
                      | (at_builtin; refine wpList_append_ints rfl _ _ rfl (Tr.out.alloc (.cells #[.int .i64 vv] 3)).1 (own_one wr (.int .i64 vv)).rd rfl rfl (by simp [Value.oneCell']) (by omega) ?_; intro Av3 cv3 W3 ho3 hm3 hr3; have T3 := hid ((Tr.out.alloc (.cells #[.int .i64 vv] 3)).push ho3 hm3 hr3); clear ho3 hm3 hr3)
                      | (at_builtin; refine wpList_append_ints rfl _ _ rfl (T3.out.alloc (.cells #[.int .i64 0] 3)).swap.1 (own_one W3 (.int .i64 0)).rd rfl rfl (by simp [Value.oneCell']) (by omega) ?_; intro Av7 cv7 W7 ho7 hm7 hr7; have T7 := hid ((T3.out.alloc (.cells #[.int .i64 0] 3)).swap.push ho7 hm7 hr7).swap; clear ho7 hm7 hr7))
          go_roundw
          case rel =>
            have e9 : smalls ls ks (i + 1) = sm ++ [(vv, 0)] := by rw [Hs.out, Hat.out, if_pos hv0, Hsm.out]
            refine ⟨i + 1, smalls ls ks (i + 1), Av3, cv3, Av7, cv7, by omega, by go_num, ?_, ?_, hid rfl, ?_⟩
            · rw [e9, List.length_append]; rfl
            · rw [e9, List.length_append]; rfl
            · rw [e9, List.length_append, List.map_append, List.map_append, ints_append, ints_append]
              exact T7
          case measure => simp [intOf]; omega
    · have hend : i = min ls.length 8 := by omega
      have Hend := hid hend
      clear hend
      have hfin : Pr w.heap.size w wr (.slice A1 sm.length c1) (.slice A2 sm.length c2) sm.length sm.length (ints (smL ls ks)) (ints (smC ls ks)) := by
        have := Tr.out
        unfold smL smC
        rw [← Hend.out, ← Hsm.out]
        exact this
      have Hfin := hid hfin
      clear hfin
      by_cases hl8 : i < ls.length
      · have x1 : (i : Int) < (ls.length : Int) := by omega
        have x2 : ¬ ((i : Int) < 8) := by omega
        go_wp2_with fail
        go_ret2
        exact ⟨⟨_, _, _, _, _, _, rfl, Hfin.out.1, Hfin.out.2.1⟩, Hfin.out.2.2.2.1⟩
      · have x1 : ¬ ((i : Int) < (ls.length : Int)) := by omega
        go_wp2_with fail
        go_ret2
        exact ⟨⟨_, _, _, _, _, _, rfl, Hfin.out.1, Hfin.out.2.1⟩, Hfin.out.2.2.2.1⟩
end Go.Proofs.YtooioikkgdgnnaaDoor
