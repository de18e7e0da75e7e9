/-
  ostlerlaw28.TrailWrong returns true, whatever comes in, and writes nothing that was there.
-/
import Derived.Test.YtbghfdhijlpogaaTwalkN
namespace Go.Proofs.Ytbghfdhijlpogaa
open Go.RowKit

/-! ### plain -/
theorem value_of_mem {T : Tr} {l : Int} (h : l ∈ T.lits ∨ -l ∈ T.lits) : T.value l ≠ 0 := by
  unfold Tr.value
  split
  · simp
  · split
    · simp
    · rename_i h1 h2
      exact absurd h (by simp [h1, h2])
theorem value_neg0 {T : Tr} {l : Int} (h : T.value l = 0) : T.value (-l) = 0 := by
  obtain ⟨h1, h2⟩ := Tr.value_zero h
  simp [Tr.value, h1, h2]
theorem freeB_value {T : Tr} {l : Int} (h : T.value l ≠ 0) : T.freeB l = false := by
  simp [Tr.freeB, h]
theorem freeB_out {T : Tr} (hv : T.vars = 8) {l : Int} (h : l = 0 ∨ 9 ≤ l ∨ l ≤ -9) : T.freeB l = false := by
  unfold Tr.freeB
  rw [hv]
  rcases h with h | h | h
  · simp [h]
  · have : ¬ l ≤ 8 := by omega
    simp [this]
  · have : ¬ -8 ≤ l := by omega
    simp [this]
theorem can_no {T : Tr} {l : Int} {r : List Int} (h : T.freeB l = false) : T.can l r = false := by simp [Tr.can, h]
theorem can_nil (T : Tr) (l : Int) : T.can l [] = false := by simp [Tr.can]
theorem can_other {T : Tr} {l : Int} (h : l ≠ 0) : T.can l [-l] = false := by
  have : ¬ l = -l := by omega
  simp [Tr.can, this]
theorem can_both {T : Tr} {l : Int} (h : l ≠ 0) (h0 : T.value l = 0) : T.can l [l, -l] = false := by
  have h1 : ¬ -l = l := by omega
  simp [Tr.can, badB, h1, value_neg0 h0]

/-! ### the walk -/
set_option maxRecDepth 100000 in
set_option maxHeartbeats 8000000 in
theorem wrong_walk {w : World} {v : Value} {os : List Opd} (hv : OpsRd w v os) {n : Int} (hn : I64 n) :
    Calls Try.prog 8 #[v, .int .i64 n] w fun r w' => r = .returned (.bool true) ∧ Below w.heap.size w w' := by
  obtain ⟨a1, ha1⟩ : ∃ a1, (if (-1 : Int) < n then (-1 : Int) else n) = a1 := ⟨_, rfl⟩
  obtain ⟨a2, ha2⟩ : ∃ a2, (if n < (65537 : Int) then (65537 : Int) else n) = a2 := ⟨_, rfl⟩
  obtain ⟨a3, ha3⟩ : ∃ a3, (if n < (9 : Int) then (9 : Int) else n) = a3 := ⟨_, rfl⟩
  obtain ⟨a4, ha4⟩ : ∃ a4, (if (-9 : Int) < n then (-9 : Int) else n) = a4 := ⟨_, rfl⟩
  have hb1 : a1 < 0 := by rw [← ha1]; split <;> omega
  have hb2 : 65536 < a2 := by rw [← ha2]; split <;> omega
  have Ha3 : Hid (I64 a3 ∧ 9 ≤ a3) := by unfold I64 at *; rw [Hid, ← ha3]; split <;> omega
  have Ha4 : Hid (I64 a4 ∧ a4 ≤ -9) := by unfold I64 at *; rw [Hid, ← ha4]; split <;> omega
  have Hn := hid hn
  have Hv := hid hv
  clear hn hv
  go_enter Try.func8, Try.ntmps8
  go_wp2_with fail
  obtain ⟨wB, hwB⟩ : ∃ wB, wB = (w.alloc (.cells #[.int .i64 0, .map none, .slice none 0 0, .slice none 0 0] 59)).alloc (.cells #[.pointer none, .pointer (some ⟨w.heap.size, 0, none⟩)] 23) := ⟨_, rfl⟩
  rw [← hwB]
  have BB : Below w.heap.size w wB := by rw [hwB]; exact ((Below.refl _ _).alloc (Nat.le_refl _) _).alloc (by simp) _
  have sB : wB.heap.size = w.heap.size + 2 := by rw [hwB]; simp
  have cB : ∀ j, j < 2 → ∃ p, wB.cell? ⟨w.heap.size + 1, j, none⟩ = some (.pointer p) ∧ NoTrail wB p := by
    intro j hj
    match j, hj with
    | 0, _ => exact ⟨none, by rw [hwB]; simp, .inl rfl⟩
    | 1, _ => exact ⟨some ⟨w.heap.size, 0, none⟩, by rw [hwB]; simp, .inr ⟨_, rfl, by rw [hwB, World.cell?_alloc_ne _ _ _ _ (by simp)]; simp⟩⟩
  have CB := hid cB
  obtain ⟨gB, hgB⟩ : ∃ gB, w.heap.size + 1 = gB := ⟨_, rfl⟩
  rw [hgB]
  clear hwB cB
  go_wp2_with fail
  go_loopw [21, 6] (fun i _ W => ∃ j : Nat, j ≤ 2 ∧ i = .int .i64 j ∧ Below wB.heap.size wB W) (fun i _ _ => 2 - (intOf i).toNat)
  case atStart => exact ⟨0, by omega, rfl, Below.refl _ _⟩
  case round =>
    obtain ⟨j, hj, rfl, hb⟩ := hrel
    have s1 := hb.size
    by_cases hlt : j < 2
    · obtain ⟨p, hp0, hnp⟩ := CB.out j hlt
      rw [hgB] at hp0
      have hp := (hb.cell (p := ⟨gB, j, none⟩) (by simp; omega)).trans hp0
      have N1 := hid (hnp.below hb)
      clear hp0 hnp
      go_wp2_with fail
      refine (decide_dead N1.out).mono ?_
      rintro r w1 ⟨rfl, rfl⟩
      go_wp2_with fail
      refine (imply_dead (N1.out.below ((Below.refl _ _).alloc (Nat.le_refl _) _))).mono ?_
      rintro r w2 ⟨rfl, b2⟩
      have N2 := hid ((N1.out.below ((Below.refl _ _).alloc (Nat.le_refl _) (.cells #[.int .i64 1] 3))).below b2)
      have s2 := b2.size
      have B2 := (hb.alloc s1 _).trans (b2.mono (by simp; omega))
      simp only [World.size_alloc] at s2
      clear b2 N1 hb
      go_wp2_with fail
      refine (value_dead N2.out).mono ?_
      rintro r w3 ⟨rfl, b3⟩
      have N3 := hid (N2.out.below b3)
      have s3 := b3.size
      have B3 := B2.trans (b3.mono (by omega))
      clear b3 N2 B2
      go_wp2_with fail
      refine (depth_dead N3.out).mono ?_
      rintro r w4 ⟨rfl, rfl⟩
      go_wp2_with fail
      refine (level_dead N3.out).mono ?_
      rintro r w5 ⟨rfl, b5⟩
      have N5 := hid (N3.out.below b5)
      have s5 := b5.size
      have B5 := B3.trans (b5.mono (by omega))
      clear b5 N3 B3
      go_wp2_with fail
      refine (index_dead N5.out).mono ?_
      rintro r w6 ⟨rfl, b6⟩
      have N6 := hid (N5.out.below b6)
      have s6 := b6.size
      have B6 := B5.trans (b6.mono (by omega))
      clear b6 N5 B5
      go_wp2_with fail
      refine (reason_dead N6.out).mono ?_
      rintro r w7 ⟨⟨A7, c7, rfl⟩, b7⟩
      have N7 := hid (N6.out.below b7)
      have s7 := b7.size
      have B7 := B6.trans (b7.mono (by omega))
      clear b7 N6 B6
      go_wp2_with fail
      refine (undo_dead N7.out).mono ?_
      rintro r w8 ⟨rfl, rfl⟩
      go_wp2_with fail
      refine (lits_dead N7.out).mono ?_
      rintro r w8 ⟨rfl, rfl⟩
      go_wp2_with fail
      refine (assign_dead N7.out).mono ?_
      rintro r w8 ⟨rfl, rfl⟩
      go_wp2_with fail
      go_roundw
      case rel => exact ⟨j + 1, by omega, by go_num, B7⟩
      case measure => simp [intOf]; omega
    · clear CB
      have B1 := BB.trans (hb.mono (by omega))
      go_wp2_with fail
      refine (new_bad (vars := a1) (.inl hb1)).mono ?_
      rintro r w1 ⟨rfl, rfl⟩
      go_wp2_with fail
      refine (new_bad (vars := a2) (.inr hb2)).mono ?_
      rintro r w1 ⟨rfl, rfl⟩
      go_wp2_with fail
      refine (played_any (Hv.out.below B1)).mono ?_
      rintro r w2 ⟨b, rfl, t2, b2⟩
      have hvs : ((⟨8, [], []⟩ : Tr).ops (os.take 40)).vars = 8 := Tr.ops_vars _ _
      generalize (⟨8, [], []⟩ : Tr).ops (os.take 40) = T at t2 hvs
      have s2 := b2.size
      have B2 := B1.trans (b2.mono (by omega))
      go_wp2_with fail
      refine (lits_any t2).mono ?_
      rintro r w3 ⟨⟨u3, rfl, o3⟩, b3⟩
      obtain ⟨A3, c3, rfl, hc3, _⟩ := o3.form
      have t3 := t2.below b3
      have s3 := b3.size
      have B3 := B2.trans (b3.mono (by omega))
      have h8 := t2.wf.len
      have h9 : T.L.length ≤ 8 := by omega
      have Hwf := hid t2.wf
      have T3 := hid t3
      have hlb : ∀ l ∈ T.lits, -65536 ≤ l ∧ l ≤ 65536 := fun l hl => by
        obtain ⟨e, he, rfl⟩ := List.mem_map.1 hl
        have := (t2.wf.lit e he).2
        have := t2.wf.vars
        unfold Ent.v at *
        omega
      have Hlb := hid hlb
      have O3 := hid o3
      have Hvs := hid hvs
      clear t2 o3 t3 h8 hvs b2 b3 hb hlb
      have oL : Own (w3.alloc (.cells (ints [0, a3, a4]).toArray 3)) (fun g => g = w3.heap.size) 3 1 (.slice (some ⟨w3.heap.size, 0, none⟩) 3 3) 3 (ints [0, a3, a4]) := own_list w3 [0, a3, a4] (by simp)
      go_wp2_with (at_builtin; refine wpList_append_ints rfl _ _ rfl oL (O3.out.rd.below ((Below.refl _ _).alloc (Nat.le_refl _) _)) rfl rfl (ints_one _) (by omega) ?_; intro A4 c4 w4 o4 m4 r4)
      have b4 : Below w3.heap.size w3 w4 := ((Below.refl _ w3).alloc (Nat.le_refl _) (.cells (ints [0, a3, a4]).toArray 3)).trans ⟨m4.os, m4.tape, m4.output, m4.size, fun g hg => m4.block g (by simp; omega) fun hr => by
        have := hr.2
        dsimp only at this
        omega⟩
      have s4 := b4.size
      have O4 := hid o4
      clear o4 m4 r4 oL
      refine (negated_any (O3.out.below b4).rd (by omega) Hlb.out).mono ?_
      rintro r w5 ⟨⟨u5, rfl, o5⟩, b5⟩
      obtain ⟨A5, c5, rfl, hc5, _⟩ := o5.form
      have s5 := b5.size
      have O5 := hid o5
      clear o5
      obtain ⟨N, hN⟩ : ∃ N, 3 + T.L.length + T.L.length = N := ⟨_, rfl⟩
      go_wp2_with (at_builtin; refine wpList_append_ints rfl _ _ rfl (O4.out.below b5) O5.out.rd rfl rfl (ints_one _) (by omega) ?_; intro A6 c6 w6 o6 m6 r6; rw [hN] at o6 ⊢)
      have b6 : Below w3.heap.size w3 w6 := b4.trans ((b5.mono s4).trans ⟨m6.os, m6.tape, m6.output, m6.size, fun g hg => m6.block g (by omega) fun hr => by
        have := (O4.out.row hr).1
        simp at this
        omega⟩)
      rw [← ints_append, ← ints_append] at o6
      obtain ⟨L, hL⟩ : ∃ L, [0, a3, a4] ++ T.lits ++ T.lits.map (fun x => -x) = L := ⟨_, rfl⟩
      have hLb : ∀ l ∈ L, I64 l ∧ T.freeB l = false := by
        intro l hl
        rw [← hL] at hl
        simp only [List.mem_append, List.mem_cons, List.not_mem_nil, or_false, List.mem_map] at hl
        rcases hl with ((h | h | h) | h) | ⟨y, hy, h⟩
        · subst h; exact ⟨by unfold I64; omega, freeB_out Hvs.out (.inl rfl)⟩
        · subst h; exact ⟨Ha3.out.1, freeB_out Hvs.out (.inr (.inl Ha3.out.2))⟩
        · subst h; exact ⟨Ha4.out.1, freeB_out Hvs.out (.inr (.inr Ha4.out.2))⟩
        · have := Hlb.out l h; exact ⟨by unfold I64; omega, freeB_value (value_of_mem (.inl h))⟩
        · have := Hlb.out y hy; subst h; exact ⟨by unfold I64; omega, freeB_value (value_of_mem (.inr (by simpa using hy)))⟩
      rw [hL] at o6
      have HLb := hid hLb
      have O6 := hid o6
      have T6 := hid (T3.out.below b6)
      have O36 := hid (O3.out.below b6)
      have B6 := B3.trans (b6.mono (by have := B3.size; omega))
      have s6 := b6.size
      have hN2 : N ≤ 65536 := by omega
      clear hL hLb o6 hN b4 b5 b6 m6 r6 O4 O5
      go_wp2_with fail
      go_loopw [124, 15] (fun i _ W => ∃ j : Nat, j ≤ N ∧ i = .int .i64 j ∧ Below w6.heap.size w6 W) (fun i _ _ => N - (intOf i).toNat)
      case atStart => exact ⟨0, by omega, rfl, Below.refl _ _⟩
      case round =>
        obtain ⟨j, hj, rfl, hb⟩ := hrel
        have s7 := hb.size
        have Tj := hid (T6.out.below hb)
        by_cases hlt : j < N
        · obtain ⟨_, hcell⟩ := O6.out.rd.cell
          obtain ⟨g, o, rfl, _, hg, hc0⟩ := hcell j hlt
          have hc := (hb.cell (p := ⟨g, o + j, none⟩) hg).trans hc0
          have hLl : L.length = N := by have := O6.out.rd.1; simpa [ints_length] using this
          obtain ⟨l, hl⟩ : ∃ l, nth L j = l := ⟨_, rfl⟩
          obtain ⟨l1, l2⟩ := HLb.out l (by rw [← hl]; exact nth_mem (by omega))
          rw [hl] at hc
          have L1 := hid l1
          have L2 := hid l2
          clear hcell hc0 hLl hl l1 l2
          go_wp2_with fail
          refine (decide_bad Tj.out L1.out (fun hf => by have := L2.out; rw [Tr.free_iff.2 hf] at this; cases this)).mono ?_
          rintro r w7 ⟨rfl, b7⟩
          have T7 := hid (Tj.out.below b7)
          have s8 := b7.size
          go_wp2_with fail
          refine (imply_bad (r := [l]) (T7.out.below ((Below.refl _ _).alloc (Nat.le_refl _) _)) L1.out (own_list w7 [l] (by simp)).rd (by intro x hx; rw [List.mem_singleton.1 hx]; exact L1.out) (can_no L2.out)).mono ?_
          rintro r w8 ⟨rfl, b8⟩
          have s9 := b8.size
          have B8 := (hb.trans ((b7.mono s7).alloc (by omega) _)).trans (b8.mono (by simp; omega))
          go_wp2_with fail
          go_roundw
          case rel => exact ⟨j + 1, by omega, by go_num, B8⟩
          case measure => simp [intOf]; omega
        · clear O6
          go_wp2_with fail
          go_loopw [16] (fun i W => ∃ j : Nat, 1 ≤ j ∧ j ≤ 9 ∧ i = .int .i64 j ∧ Below w6.heap.size w6 W) (fun i _ => 9 - (intOf i).toNat)
          case atStart => exact ⟨1, by omega, by omega, rfl, hb⟩
          case round =>
            obtain ⟨j, hj1, hj9, rfl, hb⟩ := hrel
            have s7 := hb.size
            have Tj := hid (T6.out.below hb)
            by_cases hlt : j ≤ 8
            · obtain ⟨x, hx⟩ : ∃ x, T.value j = x := ⟨_, rfl⟩
              have Hx := hid hx
              have hjI : I64 j := by unfold I64; omega
              have hjN : I64 (-(j : Int)) := by unfold I64; omega
              have HjI := hid hjI
              have HjN := hid hjN
              clear hx hjI hjN
              cases hq : (x == 0)
              · go_wp2_with fail
                refine (value_any Tj.out HjI.out).mono ?_
                rintro r w7 ⟨rfl, b7⟩
                rw [Hx.out]
                go_wp2_with fail
                go_roundw
                case rel => exact ⟨j + 1, by omega, by omega, by go_num, hb.trans (b7.mono (by omega))⟩
                case measure => simp [intOf]; omega
              · have Hx0 : Hid (T.value j = 0) := Hx.out.trans (by simpa using hq)
                go_wp2_with fail
                refine (value_any Tj.out HjI.out).mono ?_
                rintro r w7 ⟨rfl, b7⟩
                rw [Hx.out]
                have T7 := hid (Tj.out.below b7)
                have s8 := b7.size
                have B7 := hb.trans (b7.mono s7)
                clear b7
                go_wp2_with fail
                refine (imply_bad (r := []) T7.out HjI.out (Own.nil w7 (fun _ => False) 0 1).rd (by simp) (can_nil _ _)).mono ?_
                rintro r w8 ⟨rfl, b8⟩
                have T8 := hid (T7.out.below b8)
                have s9 := b8.size
                have B8 := B7.trans (b8.mono (by omega))
                clear b8 B7
                go_wp2_with fail
                refine (imply_bad (r := [-(j : Int)]) (T8.out.below ((Below.refl _ _).alloc (Nat.le_refl _) _)) HjI.out (own_list w8 [-(j : Int)] (by simp)).rd (by intro y hy; rw [List.mem_singleton.1 hy]; exact HjN.out) (can_other (by omega))).mono ?_
                rintro r w9 ⟨rfl, b9⟩
                have T9 := hid ((T8.out.below ((Below.refl _ _).alloc (Nat.le_refl _) (.cells (ints [-(j : Int)]).toArray 3))).below b9)
                have s10 := b9.size
                have B9 := (B8.alloc (by omega) _).trans (b9.mono (by simp; omega))
                simp only [World.size_alloc] at s10
                clear b9 B8
                go_wp2_with fail
                refine (imply_bad (r := [(j : Int), -(j : Int)]) (T9.out.below ((Below.refl _ _).alloc (Nat.le_refl _) _)) HjI.out (own_list w9 [(j : Int), -(j : Int)] (by simp)).rd (by intro y hy; simp at hy; rcases hy with rfl | rfl; exact HjI.out; exact HjN.out) (can_both (by omega) Hx0.out)).mono ?_
                rintro r w10 ⟨rfl, b10⟩
                have B10 := (B9.alloc (by omega) _).trans (b10.mono (by simp; omega))
                go_wp2_with fail
                go_roundw
                case rel => exact ⟨j + 1, by omega, by omega, by go_num, B10⟩
                case measure => simp [intOf]; omega
            · clear hj9
              go_wp2_with fail
              refine (lits_any Tj.out).mono ?_
              rintro r w7 ⟨⟨u7, rfl, o7⟩, b7⟩
              have s8 := b7.size
              have O7 := hid ((O36.out.below hb).below b7)
              go_wp2_with fail
              refine (ints_eq o7.rd O7.out.rd).mono ?_
              rintro r w8 ⟨rfl, b8⟩
              rw [decide_eq_true (rfl : T.lits = T.lits)]
              go_wp2_with fail
              refine awake_any.mono ?_
              rintro r w9 ⟨rfl, b9⟩
              have s9 := b8.size
              go_wp2_with fail
              go_ret
              have := B6.size
              exact ⟨rfl, B6.trans ((hb.mono this).trans ((b7.mono (by omega)).trans ((b8.mono (by omega)).trans (b9.mono (by omega)))))⟩

end Go.Proofs.Ytbghfdhijlpogaa
