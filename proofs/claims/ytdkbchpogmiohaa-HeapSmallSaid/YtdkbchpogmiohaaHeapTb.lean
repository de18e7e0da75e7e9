/-
  The law's next.
-/
import Derived.Test.YtdkbchpogmiohaaHeapTa
namespace Go.Proofs.Ytdkbchpogmiohaa
open Go.RowKit

theorem three_assign {w : World} {P : Nat → Prop} {B b n tb : Nat} {o o' : Om} {T : Tr} {v : Value} (e : Three w P B b n o tb T v o') (hT : T.vars = n) :
    Calls Try.prog 46 #[.pointer (some ⟨tb, 0, none⟩)] w fun r w' => (∃ u, r = .returned u ∧ Own w' (fun g => w.heap.size ≤ g) 89 1 u n (i8s T.assign)) ∧ Below w.heap.size w w' := by
  obtain ⟨Fo, Ft, _, h2, _⟩ := e
  rw [← hT]
  exact assign_any h2
theorem three_next {w : World} {P : Nat → Prop} {B b n tb : Nat} {o o' : Om} {T : Tr} {v : Value} (e : Three w P B b n o tb T v o') {k : Nat} {q : Bool} (hk : nextBest o.acts T.value n = k) (hq : decide (0 < k) = q) :
    Calls Try.prog 18 #[.pointer (some ⟨b, 0, none⟩), .pointer (some ⟨tb, 0, none⟩)] w fun r w' => r = .returned (.tuple #[.int .i64 k, .bool q]) ∧ Below w.heap.size w w' := by
  have := two_next e.two
  rw [hk, hq] at this
  exact this.mono fun r w' h => ⟨h.1, h.2.2⟩
theorem three_rnext {w : World} {P : Nat → Prop} {B b n tb : Nat} {o : Om} {T : Tr} {v u : Value} {G : Nat → Prop} (e : Three w P B b n o tb T v o) (hu : Own w G 89 1 u n (i8s T.assign)) (hT : T.vars = n) (hn : n ≤ 65536) {k : Nat} {q : Bool} (hk : nextBest o.acts T.value n = k) (hq : decide (0 < k) = q) :
    Calls Try.prog 45 #[v, u] w fun r w' => r = .returned (.tuple #[.int .i64 k, .bool q]) ∧ Below w.heap.size w w' := by
  obtain ⟨Fo, Ft, _, _, _, _, _, h6, _⟩ := e
  have := rnext_ord h6 hu hT hn
  rw [hk, hq] at this
  exact this

set_option maxRecDepth 100000 in
set_option maxHeartbeats 4000000 in
theorem lnext_any {w : World} {P : Nat → Prop} {B b n tb : Nat} {o : Om} {T : Tr} {v : Value} (e : Three w P B b n o tb T v o) (hT : T.vars = n) (hn : n ≤ 200) :
    Calls Try.prog 27 #[.pointer (some ⟨b, 0, none⟩), v, .pointer (some ⟨tb, 0, none⟩)] w fun r w' => r = .returned (.bool true) ∧ Below w.heap.size w w' := by
  obtain ⟨A, cap, rfl⟩ := e.form
  obtain ⟨k, hk⟩ : ∃ k, nextBest o.acts T.value n = k := ⟨_, rfl⟩
  obtain ⟨q, hq⟩ : ∃ q, decide (0 < k) = q := ⟨_, rfl⟩
  have b1 : Below w.heap.size w (w.alloc (.cells #[.slice A n cap, .int .i64 o.inc] 52)) := (Below.refl _ _).alloc (Nat.le_refl _) _
  have G1 : (w.alloc (.cells #[.slice A n cap, .int .i64 o.inc] 52)).heap[w.heap.size]? = some (.cells #[.slice A n cap, .int .i64 o.inc] 52 (0, 0)) := heap_alloc_new w _
  have E1 := hid (e.below b1)
  have B1 := hid b1
  have HG1 := hid G1
  have HT := hid hT
  have Hk := hid hk
  have Hq := hid hq
  clear hT b1 G1 e hk hq
  go_enter Try.func27, Try.ntmps27
  go_wp2_with fail
  generalize (w.alloc (.cells #[.slice A n cap, .int .i64 o.inc] 52)) = w1 at *
  obtain ⟨x, hx⟩ : ∃ x, w.heap.size = x := ⟨_, rfl⟩
  rw [hx] at B1 HG1 ⊢
  refine (three_next E1.out Hk.out Hq.out).mono ?_
  rintro r w2 ⟨rfl, b2⟩
  have hlt := lt_of_block HG1.out
  have G2 := (b2.block x hlt).trans HG1.out
  have E2 := hid (E1.out.below b2)
  have B2 : Hid (Below x w w2) := B1.out.trans (b2.mono (by omega))
  obtain ⟨c0, c1, k0, k1⟩ := box2 G2
  have hlt2 := lt_of_block G2
  clear b2 E1 B1 HG1
  go_wp2_with fail
  have E2d : Hid (Three w2.drew P B b n o tb T (.agg #[.slice A n cap, .int .i64 o.inc]) o) := E2.out.below (Below.refl _ _).drew
  go_region_held3 (fun w' => w'.cell? ⟨x, 0, none⟩ = some (.slice A n cap) ∧ w'.cell? ⟨x, 1, none⟩ = some (.int .i64 o.inc))
    (first | go_keep | exact ⟨(b4.cell (p := ⟨x, 0, none⟩) (by have := b3.size; simp at this ⊢; omega)).trans ((b3.cell (p := ⟨x, 0, none⟩) (by simp; omega)).trans c0), (b4.cell (p := ⟨x, 1, none⟩) (by have := b3.size; simp at this ⊢; omega)).trans ((b3.cell (p := ⟨x, 1, none⟩) (by simp; omega)).trans c1)⟩ | exact ⟨(b3.cell (p := ⟨x, 0, none⟩) (by simp; omega)).trans c0, (b3.cell (p := ⟨x, 1, none⟩) (by simp; omega)).trans c1⟩)
    (first | (go_at_call 46; refine (three_assign E2d.out HT.out).mono ?_; rintro r w3 ⟨⟨u, rfl, o3⟩, b3⟩) | (go_at_call 45; refine (three_rnext (E2d.out.below b3) o3 HT.out (by omega) Hk.out Hq.out).mono ?_; rintro r w4 ⟨rfl, b4⟩))
  have b5 : Below w2.drew.heap.size w2.drew w4 := b3.trans (b4.mono b3.size)
  have E4 := hid (E2d.out.below b5)
  have G4 := (b5.block x (by simp; omega)).trans G2
  have B4 : Hid (Below x w w4) := B2.out.drew.trans (b5.mono (by simp; omega))
  clear c0 c1 k0 k1 b3 b4 b5 o3 G2 E2 E2d B2 hlt2
  obtain ⟨c0, c1, k0, k1⟩ := box2 G4
  have hlt4 := lt_of_block G4
  have G4h := hid G4
  have Lq : Hid (∀ q, Calls Try.prog 20 #[.pointer (some ⟨b, 0, none⟩)] (w4.drewN q) fun e w'' => e = .returned (.int .i64 n) ∧ ∃ m, w'' = w4.drewN m) := fun q =>
    Calls.quiet_of_same (two_len (E4.out.below (Below.drewsN _ _ q)).two)
  clear G4
  go_wp2_with fail
  go_quiet (first | (go_at_call 20; exact Lq.out _))
  have E5 := hid (E4.out.below (Below.drewsN _ _ nq))
  have B5 : Hid (Below x w (w4.drewN nq)) := B4.out.trans (Below.drewsN _ _ nq)
  have C0 : Hid ((w4.drewN nq).cell? ⟨x, 0, none⟩ = some (.slice A n cap)) := c0
  clear c0 c1 k0 k1 hlt4 G4h Lq E4 B4
  generalize w4.drewN nq = w5 at *
  go_wp2_with fail
  go_loopw [11] (fun iv W => ∃ i : Int, -1 ≤ i ∧ i ≤ n + 2 ∧ iv = .int .i64 i ∧ Hid (W = w5)) (fun iv _ => n + 3 - (intOf iv + 1).toNat)
  case atStart => exact ⟨-1, by omega, by omega, rfl, rfl⟩
  case round =>
    obtain ⟨i, i1, i2, rfl, Z⟩ := hrel
    obtain rfl := Z.out
    have c0 := C0.out
    by_cases hin : i ≤ n + 1
    · by_cases h1 : 1 ≤ i
      · obtain ⟨j, rfl⟩ : ∃ j : Nat, i = (j : Int) + 1 := ⟨(i - 1).toNat, by omega⟩
        by_cases h2 : j < n
        · have x1 : (j : Int) < (n : Int) := by omega
          obtain ⟨a, ha⟩ : ∃ a, nth o.acts (j + 1) = a := ⟨_, rfl⟩
          have hact : Hid (actv o.acts n ((j : Int) + 1) = a) := by
            rw [actv, if_pos (by simp [hasv]; omega), show ((j : Int) + 1).toNat = j + 1 by omega, ha]; exact hid rfl
          obtain ⟨_, _, _, _, _, _, _, ⟨A', cap', hv', O⟩, _⟩ := E5.out
          injection hv' with hv'; injection hv' with hv'; injection hv' with hv' _; injection hv' with hv' _ hv''; subst hv' hv''
          obtain ⟨g, rfl, _, _, e1, _⟩ := O.cell (j := j) (by omega)
          rw [ints_nth (by rw [wasL_length]; exact h2), wasL_nth h2, ha] at e1
          clear O ha
          go_wp2_with fail
          refine (two_activity_at E5.out.two hact.out).mono ?_
          rintro r w' ⟨rfl, rfl⟩
          go_wp2_with fail
          go_roundw
          case rel => exact ⟨(j : Int) + 1 + 1, by omega, by omega, by go_num, trivial⟩
          case measure => simp [intOf]; omega
        · have x1 : ((j : Int) + 1 ≤ (n : Int)) = False := by simp; omega
          have hact : Hid (actv o.acts n ((j : Int) + 1) = 0) := by
            rw [actv, if_neg (by simp [hasv]; omega)]; exact hid rfl
          go_wp2_with fail
          refine (two_activity_at E5.out.two hact.out).mono ?_
          rintro r w' ⟨rfl, rfl⟩
          go_wp2_with fail
          go_roundw
          case rel => exact ⟨(j : Int) + 1 + 1, by omega, by omega, by go_num, trivial⟩
          case measure => simp [intOf]; omega
      · have x1 : (1 ≤ i) = False := by simp; omega
        have hact : Hid (actv o.acts n i = 0) := by
          rw [actv, if_neg (by simp [hasv]; omega)]; exact hid rfl
        go_wp2_with fail
        refine (two_activity_at E5.out.two hact.out).mono ?_
        rintro r w' ⟨rfl, rfl⟩
        go_wp2_with fail
        go_roundw
        case rel => exact ⟨i + 1, by omega, by omega, by go_num, trivial⟩
        case measure => simp [intOf]; omega
    · have x1 : (i ≤ (n : Int) + 1) = False := by simp; omega
      go_wp2_with fail
      go_ret
      exact ⟨rfl, B5.out⟩
end Go.Proofs.Ytdkbchpogmiohaa
