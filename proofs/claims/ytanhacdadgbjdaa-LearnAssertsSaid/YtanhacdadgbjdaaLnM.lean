/-
  SameInts; the chapter's example.
-/
import Derived.Test.YtanhacdadgbjdaaLnL
namespace Go.Proofs.Ytanhacdadgbjdaa
open Go.RowKit

set_option maxRecDepth 100000 in
set_option maxHeartbeats 4000000 in
theorem same_any {w : World} {F G : Nat → Prop} {u v : Value} {n m : Nat} {xs ys : List Int} (hu : Rd w F 1 u n (ints xs)) (hv : Rd w G 1 v m (ints ys)) :
    Calls Try.prog 16 #[u, v] w fun r w' => r = .returned (.bool (decide (xs = ys))) ∧ Below w.heap.size w w' := by
  obtain ⟨A, c, rfl, hc, hcm, _⟩ := hu.2
  obtain ⟨B, d, rfl, hd, hdm, _⟩ := hv.2
  obtain ⟨rfl, hA⟩ := hu.cell
  obtain ⟨rfl, hB⟩ := hv.cell
  have hn : xs.length ≤ 9223372036854775807 := by unfold maxLen at hcm; omega
  by_cases hl : xs.length = ys.length
  · have hq : (xs.length != ys.length) = false := by simpa using hl
    have hq' : ((xs.length : Int) != (ys.length : Int)) = false := by simp [hl]
    have Hl := hid hl
    clear hl hcm hdm
    go_enter Try.func16, Try.ntmps16
    go_wp2_with fail
    go_loopw [5] (fun i W => ∃ k : Nat, k ≤ xs.length ∧ i = .int .i64 k ∧ (∀ j, j < k → nth xs j = nth ys j) ∧ Below w.heap.size w W) (fun i _ => xs.length - (intOf i).toNat)
    case atStart => exact ⟨0, by omega, rfl, fun j hj => by omega, Below.refl _ _⟩
    case round =>
      obtain ⟨k, hk, rfl, hno, hb⟩ := hrel
      have Hno := hid hno
      clear hno
      by_cases hlt : k < xs.length
      · obtain ⟨g, o, rfl, _, hg, hc1⟩ := hA k hlt
        obtain ⟨g', o', rfl, _, hg', hc2⟩ := hB k (by rw [← Hl.out]; exact hlt)
        have e1 := (hb.cell (p := ⟨g, o + k, none⟩) hg).trans hc1
        have e2 := (hb.cell (p := ⟨g', o' + k, none⟩) hg').trans hc2
        have hk1 : (k : Int) < (xs.length : Int) := by omega
        have hk2 : (k : Int) < (ys.length : Int) := by have := Hl.out; omega
        clear hA hB hc1 hc2
        cases hx : (nth xs k != nth ys k)
        · go_wp2_with fail
          go_quiet (fail)
          have Hx := hid hx
          clear hx
          go_wp2_with fail
          go_roundw
          case rel => exact ⟨k + 1, by omega, by go_num, fun j hj => by
            by_cases hjk : j = k
            · subst hjk; simpa using Hx.out
            · exact Hno.out j (by omega), below_drewN hb _⟩
          case measure => simp [intOf]; omega
        · have He : Hid (decide (xs = ys) = false) := by
            have : xs ≠ ys := fun h => by subst h; simp at hx
            exact hid (by simpa using this)
          go_wp2_with fail
          go_quiet (fail)
          clear hx
          go_wp2_with fail
          go_ret
          rw [He.out]
          exact ⟨rfl, below_drewN hb _⟩
      · clear hA hB
        have He : Hid (decide (xs = ys) = true) := by
          have : xs = ys := List.ext_getElem Hl.out fun j h1 h2 => by
            rw [← nth_eq h1, ← nth_eq h2]; exact Hno.out j (by omega)
          exact hid (by simpa using this)
        go_wp2_with fail
        go_ret
        rw [He.out]
        exact ⟨rfl, hb⟩
  · have hq' : ((xs.length : Int) != (ys.length : Int)) = true := by simp; omega
    have hq : (xs.length != ys.length) = true := by simpa using hl
    have He : decide (xs = ys) = false := by simp; intro h; exact hl (by rw [h])
    rw [He]
    clear hl hA hB hcm hdm He
    go_enter Try.func16, Try.ntmps16
    go_wp2_with fail
    go_ret
    exact ⟨rfl, Below.refl _ _⟩

def awl : Nat → List Int | 0 => [1] | 1 => [2, -1] | 2 => [3] | 3 => [4, -3] | 4 => [5, -4, -2] | 5 => [6, -4] | _ => []
def awStep (T : Tr) (ls : List Int) : Tr := if ls.length = 1 then T.dec (nth ls 0) else T.imp (nth ls 0) ls
def awT : Nat → Tr | 0 => ⟨6, [], []⟩ | j + 1 => awStep (awT j) (awl j)
def awE (T : Tr) (ls : List Int) : Bool := if ls.length = 1 then T.freeB (nth ls 0) else T.can (nth ls 0) ls
theorem aw_ok : ∀ j, j < 6 → awE (awT j) (awl j) = true := by decide +kernel
theorem aw_small : ∀ j, j < 6 → ∀ x ∈ awl j, -10 ≤ x ∧ x ≤ 10 := by decide +kernel
theorem aw_len : ∀ j, j < 6 → 1 ≤ (awl j).length ∧ (awl j).length ≤ 3 := by decide +kernel
theorem aw_facts : okFor (awT 6) [-5, -6] = true ∧ (awT 6).ans [-5, -6] = [-4, -2] ∧ (awT 6).ansLv [-5, -6] = 1 := by decide +kernel

def awObj (xs : List Int) : Obj := .cells (ints xs).toArray 3 (0, 0)
theorem aw_row {W : World} {F : Nat → Prop} {j n : Nat} {xs : List Int} (hb : W.heap[j]? = some (awObj xs)) (hl : xs.length = n) (hF : F j) (hn : n ≤ 1000) : Rd W F 1 (.slice (some ⟨j, 0, none⟩) n n) n (ints xs) := by
  refine ⟨by rw [ints_length]; omega, _, n, rfl, Nat.le_refl _, by unfold maxLen; omega, fun _ => ⟨j, 0, rfl, hF, lt_of_block hb, fun i u hu => ?_⟩⟩
  rw [Nat.zero_add, cell_of_row W j i _ _ _ hb]
  simpa using hu
theorem aw_table {w1 Wa : World}
    (hW : ((((((w1.alloc (awObj [1])).alloc (awObj [2, -1])).alloc (awObj [3])).alloc (awObj [4, -3])).alloc (awObj [5, -4, -2])).alloc (awObj [6, -4])).alloc
      (.cells #[.slice (some ⟨w1.heap.size, 0, none⟩) 1 1, .slice (some ⟨w1.heap.size + 1, 0, none⟩) 2 2, .slice (some ⟨w1.heap.size + 1 + 1, 0, none⟩) 1 1, .slice (some ⟨w1.heap.size + 1 + 1 + 1, 0, none⟩) 2 2,
        .slice (some ⟨w1.heap.size + 1 + 1 + 1 + 1, 0, none⟩) 3 3, .slice (some ⟨w1.heap.size + 1 + 1 + 1 + 1 + 1, 0, none⟩) 2 2] 23 (0, 0)) = Wa) :
    Below w1.heap.size w1 Wa ∧ Wa.heap.size = w1.heap.size + 7 ∧
      ∀ j, j < 6 → ∃ g, w1.heap.size ≤ g ∧ g < w1.heap.size + 7 ∧ Wa.cell? ⟨w1.heap.size + 1 + 1 + 1 + 1 + 1 + 1, j, none⟩ = some (.slice (some ⟨g, 0, none⟩) (awl j).length (awl j).length) ∧ Rd Wa (fun g => w1.heap.size ≤ g ∧ g < w1.heap.size + 7) 1 (.slice (some ⟨g, 0, none⟩) (awl j).length (awl j).length) (awl j).length (ints (awl j)) := by
  have hh : Wa.heap = ((((((w1.heap.push (awObj [1])).push (awObj [2, -1])).push (awObj [3])).push (awObj [4, -3])).push (awObj [5, -4, -2])).push (awObj [6, -4])).push (.cells #[.slice (some ⟨w1.heap.size, 0, none⟩) 1 1, .slice (some ⟨w1.heap.size + 1, 0, none⟩) 2 2, .slice (some ⟨w1.heap.size + 1 + 1, 0, none⟩) 1 1, .slice (some ⟨w1.heap.size + 1 + 1 + 1, 0, none⟩) 2 2, .slice (some ⟨w1.heap.size + 1 + 1 + 1 + 1, 0, none⟩) 3 3, .slice (some ⟨w1.heap.size + 1 + 1 + 1 + 1 + 1, 0, none⟩) 2 2] 23 (0, 0)) := by
    subst hW
    rfl
  have h0 : Wa.heap[w1.heap.size]? = some (awObj [1]) := by
    rw [hh]
    rw [Array.getElem?_push, if_neg (by simp only [Array.size_push]; omega)]
    rw [Array.getElem?_push, if_neg (by simp only [Array.size_push]; omega)]
    rw [Array.getElem?_push, if_neg (by simp only [Array.size_push]; omega)]
    rw [Array.getElem?_push, if_neg (by simp only [Array.size_push]; omega)]
    rw [Array.getElem?_push, if_neg (by simp only [Array.size_push]; omega)]
    rw [Array.getElem?_push, if_neg (by simp only [Array.size_push]; omega)]
    rw [Array.getElem?_push, if_pos rfl]
  have h1 : Wa.heap[w1.heap.size + 1]? = some (awObj [2, -1]) := by
    rw [hh]
    rw [Array.getElem?_push, if_neg (by simp only [Array.size_push]; omega)]
    rw [Array.getElem?_push, if_neg (by simp only [Array.size_push]; omega)]
    rw [Array.getElem?_push, if_neg (by simp only [Array.size_push]; omega)]
    rw [Array.getElem?_push, if_neg (by simp only [Array.size_push]; omega)]
    rw [Array.getElem?_push, if_neg (by simp only [Array.size_push]; omega)]
    rw [Array.getElem?_push, if_pos (by simp only [Array.size_push])]
  have h2 : Wa.heap[w1.heap.size + 1 + 1]? = some (awObj [3]) := by
    rw [hh]
    rw [Array.getElem?_push, if_neg (by simp only [Array.size_push]; omega)]
    rw [Array.getElem?_push, if_neg (by simp only [Array.size_push]; omega)]
    rw [Array.getElem?_push, if_neg (by simp only [Array.size_push]; omega)]
    rw [Array.getElem?_push, if_neg (by simp only [Array.size_push]; omega)]
    rw [Array.getElem?_push, if_pos (by simp only [Array.size_push])]
  have h3 : Wa.heap[w1.heap.size + 1 + 1 + 1]? = some (awObj [4, -3]) := by
    rw [hh]
    rw [Array.getElem?_push, if_neg (by simp only [Array.size_push]; omega)]
    rw [Array.getElem?_push, if_neg (by simp only [Array.size_push]; omega)]
    rw [Array.getElem?_push, if_neg (by simp only [Array.size_push]; omega)]
    rw [Array.getElem?_push, if_pos (by simp only [Array.size_push])]
  have h4 : Wa.heap[w1.heap.size + 1 + 1 + 1 + 1]? = some (awObj [5, -4, -2]) := by
    rw [hh]
    rw [Array.getElem?_push, if_neg (by simp only [Array.size_push]; omega)]
    rw [Array.getElem?_push, if_neg (by simp only [Array.size_push]; omega)]
    rw [Array.getElem?_push, if_pos (by simp only [Array.size_push])]
  have h5 : Wa.heap[w1.heap.size + 1 + 1 + 1 + 1 + 1]? = some (awObj [6, -4]) := by
    rw [hh]
    rw [Array.getElem?_push, if_neg (by simp only [Array.size_push]; omega)]
    rw [Array.getElem?_push, if_pos (by simp only [Array.size_push])]
  have h6 : Wa.heap[w1.heap.size + 1 + 1 + 1 + 1 + 1 + 1]? = some (.cells #[.slice (some ⟨w1.heap.size, 0, none⟩) 1 1, .slice (some ⟨w1.heap.size + 1, 0, none⟩) 2 2, .slice (some ⟨w1.heap.size + 1 + 1, 0, none⟩) 1 1, .slice (some ⟨w1.heap.size + 1 + 1 + 1, 0, none⟩) 2 2, .slice (some ⟨w1.heap.size + 1 + 1 + 1 + 1, 0, none⟩) 3 3, .slice (some ⟨w1.heap.size + 1 + 1 + 1 + 1 + 1, 0, none⟩) 2 2] 23 (0, 0)) := by
    rw [hh]
    rw [Array.getElem?_push, if_pos (by simp only [Array.size_push])]
  refine ⟨?_, by rw [hh]; simp, ?_⟩
  · subst hW
    exact Bl.alloc (Bl.alloc (Bl.alloc (Bl.alloc (Bl.alloc (Bl.alloc (Bl.alloc (Below.refl _ _)))))))
  · intro j hj
    rcases (show j = 0 ∨ j = 1 ∨ j = 2 ∨ j = 3 ∨ j = 4 ∨ j = 5 by omega) with rfl | rfl | rfl | rfl | rfl | rfl
    · exact ⟨_, by omega, by omega, (cell_of_row _ _ 0 _ _ _ h6).trans rfl, aw_row h0 rfl (by omega) (by decide)⟩
    · exact ⟨_, by omega, by omega, (cell_of_row _ _ 1 _ _ _ h6).trans rfl, aw_row h1 rfl (by omega) (by decide)⟩
    · exact ⟨_, by omega, by omega, (cell_of_row _ _ 2 _ _ _ h6).trans rfl, aw_row h2 rfl (by omega) (by decide)⟩
    · exact ⟨_, by omega, by omega, (cell_of_row _ _ 3 _ _ _ h6).trans rfl, aw_row h3 rfl (by omega) (by decide)⟩
    · exact ⟨_, by omega, by omega, (cell_of_row _ _ 4 _ _ _ h6).trans rfl, aw_row h4 rfl (by omega) (by decide)⟩
    · exact ⟨_, by omega, by omega, (cell_of_row _ _ 5 _ _ _ h6).trans rfl, aw_row h5 rfl (by omega) (by decide)⟩
set_option maxRecDepth 100000 in
set_option maxHeartbeats 4000000 in
theorem awake_any {w : World} : Calls Try.prog 7 #[] w fun r w' => r = .returned (.bool true) ∧ Below w.heap.size w w' := by
  go_enter Try.func7, Try.ntmps7
  go_wp2_with fail
  refine (new_b (B := w.heap.size) (vars := 6) (by omega) (Nat.le_refl _)).mono ?_
  rintro r w1 ⟨b, rfl, ht, b1⟩
  have Ht := hid ht.restrict
  have B1 := hid b1
  have s1 := b1.size
  clear ht b1
  go_wp2_with fail
  generalize hWa : World.alloc _ _ = Wa
  obtain ⟨Ba, sa, tab⟩ := aw_table hWa
  clear hWa
  have Tab := hid tab
  clear tab
  have T0 := hid ((Ht.out.below Ba).mono (G := fun g => w.heap.size ≤ g ∧ ¬ (w1.heap.size ≤ g ∧ g < w1.heap.size + 7)) fun g hg => by omega)
  go_loopw [2, 4] (fun ev jv W => ∃ j : Nat, j ≤ 6 ∧ jv = .int .i64 j ∧ ev = .int .i64 0 ∧ Hid (Trail W (fun g => w.heap.size ≤ g ∧ ¬ (w1.heap.size ≤ g ∧ g < w1.heap.size + 7)) b (awT j)) ∧ Hid (Mod (fun g => w.heap.size ≤ g ∧ ¬ (w1.heap.size ≤ g ∧ g < w1.heap.size + 7)) Wa W)) (fun _ jv _ => 6 - (intOf jv).toNat)
  case atStart => exact ⟨0, by omega, rfl, rfl, T0, Mod.refl _ _⟩
  case round =>
    obtain ⟨j, hj, rfl, rfl, Tj, Mj⟩ := hrel
    have hsz := Mj.out.size
    by_cases hlt : j < 6
    · have x1 : (j : Int) < 6 := by omega
      obtain ⟨g, hg1, hg2, hc, hr⟩ := Tab.out j hlt
      have hsm := aw_small j hlt
      have hle := aw_len j hlt
      obtain ⟨ls, hls⟩ : ∃ ls, awl j = ls := ⟨_, rfl⟩
      have hok := aw_ok j hlt
      have hnx : Hid (awT (j + 1) = awStep (awT j) ls) := by rw [← hls]; exact hid rfl
      rw [hls] at hc hr hok hsm hle
      obtain ⟨T, hT⟩ : ∃ T, awT j = T := ⟨_, rfl⟩
      rw [hT] at Tj hok hnx
      obtain ⟨n, hn⟩ : ∃ n, ls.length = n := ⟨_, rfl⟩
      rw [hn] at hc hr hle
      have hc1 := (World.cell?_of_block (Mj.out.block (w1.heap.size + 1 + 1 + 1 + 1 + 1 + 1) (by omega) (by omega))).trans hc
      have hr1 := hr.mod Mj.out fun k _ hk hf => by omega
      obtain ⟨g', o', e1, _, hgl, e0⟩ := hr1.cell.2 0 (by omega)
      injection e1 with e1
      injection e1 with e1 e2
      subst e1 e2
      rw [Nat.zero_add] at e0
      obtain ⟨l, hl⟩ : ∃ l, nth ls 0 = l := ⟨_, rfl⟩
      have hlm : l ∈ ls := by rw [← hl]; exact nth_mem (by omega)
      rw [hl] at e0
      have hIl := hsm l hlm
      have Hsm := hid hsm
      have Hr1 := hid hr1
      have Hok := hid hok
      have Hn := hid hn
      have Hl := hid hl
      have hwl := Tj.out.wf.len
      clear hls hT hn hl hlm hsm hr hr1 hok hc
      by_cases hn1 : n = 1
      · subst hn1
        have hst : Hid (awStep T ls = T.dec l) := by unfold awStep; rw [if_pos Hn.out, Hl.out]; exact hid rfl
        have hfb : T.freeB l = true := by have := Hok.out; unfold awE at this; rwa [if_pos Hn.out, Hl.out] at this
        go_wp2_with fail
        refine (decide_e Tj.out (l := l) (by unfold I64; omega)).mono ?_
        rw [hfb]
        rintro r w3 ⟨rfl, T3, M3⟩
        have T3 := hid (T3.mono (G := fun g => w.heap.size ≤ g ∧ ¬ (w1.heap.size ≤ g ∧ g < w1.heap.size + 7)) fun k hk => by omega)
        have M4 := hid (Mj.out.trans (M3.mono fun k _ hk => .inl hk))
        clear M3
        simp only [err, if_true]
        go_wp2_with fail
        go_roundw
        case rel => exact ⟨j + 1, by omega, by go_num, rfl, by rw [hnx.out, hst.out]; exact T3, M4⟩
        case measure => simp [intOf]; omega
      · have hn2 : ((n : Int) = 1) = False := by simp; omega
        have hn3 : ((n : Int) == 1) = false := by simp; omega
        have hn4 : (0 : Int) < (n : Int) := by omega
        have hn5 : 0 < n := by omega
        have hn6 : (n = 0) = False := by simp; omega
        have hst : Hid (awStep T ls = T.imp l ls) := by unfold awStep; rw [if_neg (by rw [Hn.out]; exact hn1), Hl.out]; exact hid rfl
        have hfb : T.can l ls = true := by have := Hok.out; unfold awE at this; rwa [if_neg (by rw [Hn.out]; exact hn1), Hl.out] at this
        have Hfb := hid hfb
        have Hnx := hid hn1
        clear hfb hn1
        have hgw : w1.heap.size + 7 ≤ wr.heap.size := by omega
        go_wp2_with fail
        go_region_held3 (fun w' => w'.cell? ⟨w1.heap.size + 1 + 1 + 1 + 1 + 1 + 1, j, none⟩ = some (.slice (some ⟨g, 0, none⟩) n n) ∧ w'.cell? ⟨g, 0, none⟩ = some (.int .i64 l))
          (first | go_keep | exact ⟨(World.cell?_of_block (m4.block (w1.heap.size + 1 + 1 + 1 + 1 + 1 + 1) (by simp; omega) (by omega))).trans hc1, (World.cell?_of_block (m4.block g (by simp; omega) (by omega))).trans e0⟩)
          ((go_at_call 21; refine (imply_e Tj.out.drew (l := l) (by unfold I64; omega) Hr1.out.drew (by omega) (fun x hx => by have := Hsm.out x hx; unfold I64; omega)).mono ?_; rw [Hfb.out]; rintro r w4 ⟨rfl, T4, m4⟩))
        have T3 := hid (T4.mono (G := fun g => w.heap.size ≤ g ∧ ¬ (w1.heap.size ≤ g ∧ g < w1.heap.size + 7)) fun k hk => by
          rcases hk with hk | hk
          · exact hk
          · simp only [World.heap_drew] at hk
            omega)
        have M4 := hid (Mj.out.trans ((Mod.mk (F := fun g => (w.heap.size ≤ g ∧ ¬ (w1.heap.size ≤ g ∧ g < w1.heap.size + 7)) ∨ Wa.heap.size ≤ g) m4.os m4.tape m4.output m4.size (fun k hk hF => m4.block k hk (fun hx => hF (.inl hx)))) : Mod _ wr w4))
        clear m4 T4
        simp only [err, if_true]
        go_wp2_with fail
        go_roundw
        case rel => exact ⟨j + 1, by omega, by go_num, rfl, by rw [hnx.out, hst.out]; exact T3, M4⟩
        case measure => simp [intOf]; omega
    · have x1 : ((j : Int) < 6) = False := by simp; omega
      have ej : j = 6 := by omega
      subst ej
      have h30 : (awT 6).vars ≤ 1000 := by decide +kernel
      have hR : ∀ m ∈ (awT 6).lits, ((awT 6).reasonOf (m.natAbs : Nat)).length ≤ 100 := by decide +kernel
      obtain ⟨f1, f2, f3⟩ := aw_facts
      have F1 := hid f1
      have F2 := hid f2
      have F3 := hid f3
      have BA : Below wr.heap.size wr (wr.alloc (.cells #[.int .i64 (-5), .int .i64 (-6)] 3)) := (Below.refl _ _).alloc (Nat.le_refl _) _
      have T6 := hid (Tj.out.below BA)
      have M6 : Hid (Mod (fun g => w.heap.size ≤ g ∧ ¬ (w1.heap.size ≤ g ∧ g < w1.heap.size + 7)) Wa (wr.alloc (.cells #[.int .i64 (-5), .int .i64 (-6)] 3))) := Mj.out.alloc _
      have R6 : Hid (Rd (wr.alloc (.cells #[.int .i64 (-5), .int .i64 (-6)] 3)) (fun _ => True) 1 (.slice (some ⟨wr.heap.size, 0, none⟩) 2 2) 2 (ints [-5, -6])) := aw_row (xs := [-5, -6]) (heap_alloc_new wr _) rfl trivial (by omega)
      have H30 := hid h30
      have HR := hid hR
      clear f1 f2 f3 h30 hR BA Tj Mj
      go_wp2_with fail
      refine (learn_any T6.out R6.out (fun x hx => by simp at hx; unfold I64; omega) (by omega) H30.out HR.out).mono ?_
      rintro r w5 ⟨⟨R', c', rfl, hr5⟩, b5⟩
      rw [F1.out, F2.out, F3.out]
      rw [F2.out] at hr5
      have Hr5 := hid hr5
      have B5 : Hid (Below w.heap.size w w5) := hid ((below_mod (B1.out.trans (Ba.mono (by omega))) (by omega) M6.out fun g hg => hg.1).trans (b5.mono (by simp; omega)))
      have s5 := b5.size
      clear hr5 b5
      simp only [lerr, if_true, List.length_cons, List.length_nil, Nat.reduceAdd]
      go_wp2_with fail
      have R7 : Rd (w5.alloc (.cells #[.int .i64 (-4), .int .i64 (-2)] 3)) (fun _ => True) 1 (.slice (some ⟨w5.heap.size, 0, none⟩) 2 2) 2 (ints [-4, -2]) := aw_row (xs := [-4, -2]) (heap_alloc_new w5 _) rfl trivial (by omega)
      refine (same_any (Hr5.out.below ((Below.refl _ _).alloc (Nat.le_refl _) _)) R7).mono ?_
      rintro r w6 ⟨rfl, b6⟩
      rw [show decide (([-4, -2] : List Int) = [-4, -2]) = true by decide]
      have B6 : Hid (Below w.heap.size w w6) := hid ((Bl.alloc B5.out).trans (b6.mono (by simp only [World.size_alloc] at *; omega)))
      clear b6 R7
      go_wp2_with fail
      go_ret
      exact ⟨rfl, B6.out⟩
end Go.Proofs.Ytanhacdadgbjdaa
