/-
  The law's does; the statement HeapTells.
-/
import Derived.Test.YtdkbchpogmiohaaHeapTb
namespace Go.Proofs.Ytdkbchpogmiohaa
open Go.RowKit

theorem three_lnext {w : World} {P : Nat → Prop} {B b n tb : Nat} {o : Om} {T : Tr} {v : Value} (e : Three w P B b n o tb T v o) (hT : T.vars = n) (hn : n ≤ 200) :
    Calls Try.prog 27 #[.pointer (some ⟨b, 0, none⟩), v, .pointer (some ⟨tb, 0, none⟩)] w fun r w' => r = .returned (.bool true) ∧ Three w' P B b n o tb T v o ∧ Below w.heap.size w w' :=
  (lnext_any e hT hn).mono fun _ _ h => ⟨h.1, e.below h.2, h.2⟩
/-- The boxes of does. -/
def Boxes (W : World) (X : Nat) (A : Option Addr) (n cap : Nat) (inc kd xn : Int) : Prop :=
  W.heap[X]? = some (.cells #[.slice A n cap, .int .i64 inc] 52 (0, 0)) ∧ W.heap[X + 1]? = some (.cells #[.int .u8 kd, .int .i64 xn] 57 (0, 0)) ∧
    W.heap[X + 1 + 1]? = some (.cells #[.slice none 0 0, .int .i64 0] 52 (0, 0))
theorem Boxes.mod {W W' : World} {G : Nat → Prop} {X : Nat} {A : Option Addr} {n cap : Nat} {inc kd xn : Int} (e : Boxes W X A n cap inc kd xn) (m : Mod G W W') (h0 : ¬ G X) (h1 : ¬ G (X + 1)) (h2 : ¬ G (X + 1 + 1)) : Boxes W' X A n cap inc kd xn :=
  ⟨(m.block _ (lt_of_block e.1) h0).trans e.1, (m.block _ (lt_of_block e.2.1) h1).trans e.2.1, (m.block _ (lt_of_block e.2.2) h2).trans e.2.2⟩
theorem Boxes.below {W W' : World} {X : Nat} {A : Option Addr} {n cap : Nat} {inc kd xn : Int} (e : Boxes W X A n cap inc kd xn) (m : Below W.heap.size W W') : Boxes W' X A n cap inc kd xn :=
  ⟨(m.block _ (lt_of_block e.1)).trans e.1, (m.block _ (lt_of_block e.2.1)).trans e.2.1, (m.block _ (lt_of_block e.2.2)).trans e.2.2⟩
theorem Boxes.put {W : World} {X : Nat} {A A2 : Option Addr} {n cap cap2 : Nat} {inc inc2 kd xn : Int} (e : Boxes W X A n cap inc kd xn) : Boxes ((W.setCell ⟨X, 0, none⟩ (.slice A2 n cap2)).setCell ⟨X, 1, none⟩ (.int .i64 inc2)) X A2 n cap2 inc2 kd xn := by
  have m : Mod (fun g => g = X) W ((W.setCell ⟨X, 0, none⟩ (.slice A2 n cap2)).setCell ⟨X, 1, none⟩ (.int .i64 inc2)) := ((Mod.refl (fun g => g = X) _).setCell (p := ⟨X, 0, none⟩) (.inl rfl) _).setCell (p := ⟨X, 1, none⟩) (.inl rfl) _
  exact ⟨heap_setCell_same _ X 1 _ _ _ (heap_setCell_same _ X 0 _ _ _ e.1), (m.block _ (lt_of_block e.2.1) (by omega)).trans e.2.1, (m.block _ (lt_of_block e.2.2) (by omega)).trans e.2.2⟩
theorem Below.to_mod {w W : World} {F : Nat → Prop} (e : Below w.heap.size w W) : Mod F w W := ⟨e.os, e.tape, e.output, e.size, fun k hk _ => e.block k hk⟩
theorem mod_put {w W : World} {F : Nat → Prop} {X : Nat} {x y : Value} (e : Mod F w W) (h : F X) : Mod F w ((W.setCell ⟨X, 0, none⟩ x).setCell ⟨X, 1, none⟩ y) :=
  e.trans (((Mod.refl (fun i => F i ∨ w.heap.size ≤ i) _).setCell (p := ⟨X, 0, none⟩) (.inl (.inl h)) _).setCell (p := ⟨X, 1, none⟩) (.inl (.inl h)) _)

set_option maxRecDepth 100000 in
set_option maxHeartbeats 4000000 in
theorem does_any {w : World} {P : Nat → Prop} {B b n tb : Nat} {o : Om} {T : Tr} {v : Value} (e : Three w P B b n o tb T v o) {x : Dd} (hx : x.ok) :
    Calls Try.prog 26 #[.pointer (some ⟨b, 0, none⟩), v, .pointer (some ⟨tb, 0, none⟩), .agg #[.int .u8 x.kind, .int .i64 x.n]] w fun r w' => (∃ v2, r = .returned (.tuple #[v2, .bool true]) ∧ Three w' P B b n (deedO n o x) tb (deedT T x) v2 (deedO n o x)) ∧ Mod (fun g => B ≤ g ∧ ¬ P g) w w' := by
  obtain ⟨A, cap, rfl⟩ := e.form
  obtain ⟨kd, xn⟩ := x
  have hI : I64 xn := hx.2
  have hkd : 0 ≤ kd ∧ kd ≤ 255 := hx.1
  clear hx
  have hq := deed_kinds kd
  obtain ⟨q, hqe⟩ : ∃ q, kd % 5 = q := ⟨_, rfl⟩
  rw [hqe] at hq
  have z1 : kd.tmod 5 = q := by rw [Int.tmod_eq_emod_of_nonneg (by omega)]; exact hqe
  have Hq := hid hqe
  have HI := hid hI
  have hz := zero_ref
  obtain ⟨hPw, hBw⟩ := e.size
  have b1 : Below w.heap.size w (((w.alloc (.cells #[.slice A n cap, .int .i64 o.inc] 52)).alloc (.cells #[.int .u8 kd, .int .i64 xn] 57)).alloc (.cells #[.slice none 0 0, .int .i64 0] 52)) := (((Below.refl _ _).alloc (Nat.le_refl _) _).alloc (by simp) _).alloc (by simp; omega) _
  obtain ⟨Q, hQ⟩ : ∃ Q : Nat → Prop, Q = fun g => P g ∨ (w.heap.size ≤ g ∧ g < (((w.alloc (.cells #[.slice A n cap, .int .i64 o.inc] 52)).alloc (.cells #[.int .u8 kd, .int .i64 xn] 57)).alloc (.cells #[.slice none 0 0, .int .i64 0] 52)).heap.size) := ⟨_, rfl⟩
  have E1 := e.guard b1
  rw [← hQ] at E1
  have E1 := hid E1
  have hQ0 : Hid (Q w.heap.size ∧ Q (w.heap.size + 1) ∧ Q (w.heap.size + 1 + 1)) := by
    rw [hQ]
    have hs : (((w.alloc (.cells #[.slice A n cap, .int .i64 o.inc] 52)).alloc (.cells #[.int .u8 kd, .int .i64 xn] 57)).alloc (.cells #[.slice none 0 0, .int .i64 0] 52)).heap.size = w.heap.size + 3 := by simp
    rw [hs]
    exact ⟨.inr (by omega), .inr (by omega), .inr (by omega)⟩
  have hQP : Hid (∀ g, P g → Q g) := by rw [hQ]; exact fun g h => .inl h
  have hFX : Hid ((B ≤ w.heap.size ∧ ¬ P w.heap.size) ∧ (B ≤ w.heap.size + 1 + 1 ∧ ¬ P (w.heap.size + 1 + 1))) := by
    refine hid ⟨⟨hBw, fun h => ?_⟩, ⟨by omega, fun h => ?_⟩⟩
    · have := hPw _ h; omega
    · have := hPw _ h; omega
  have X1 : Hid (Boxes (((w.alloc (.cells #[.slice A n cap, .int .i64 o.inc] 52)).alloc (.cells #[.int .u8 kd, .int .i64 xn] 57)).alloc (.cells #[.slice none 0 0, .int .i64 0] 52)) w.heap.size A n cap o.inc kd xn) := by
    refine hid ⟨heap_up_alloc (heap_alloc2_old w _ _), heap_up_alloc (heap_alloc2_new w _ _), ?_⟩
    have := heap_alloc_new ((w.alloc (.cells #[.slice A n cap, .int .i64 o.inc] 52)).alloc (.cells #[.int .u8 kd, .int .i64 xn] 57)) (.cells #[.slice none 0 0, .int .i64 0] 52 (0, 0))
    simpa using this
  have B1 : Hid (Mod (fun g => B ≤ g ∧ ¬ P g) w (((w.alloc (.cells #[.slice A n cap, .int .i64 o.inc] 52)).alloc (.cells #[.int .u8 kd, .int .i64 xn] 57)).alloc (.cells #[.slice none 0 0, .int .i64 0] 52))) := Below.to_mod b1
  clear hqe hI hkd e b1 hQ hPw hBw
  rcases hq with rfl | rfl | rfl | rfl | rfl
  · have hO : Hid (deedO n o ⟨kd, xn⟩ = o.decays (xn % 60).toNat) := by unfold deedO; rw [if_pos Hq.out]; exact hid rfl
    have hT : Hid (deedT T ⟨kd, xn⟩ = T) := by have := Hq.out; unfold deedT; rw [if_neg (by dsimp only; omega), if_neg (by dsimp only; omega)]; exact hid rfl
    obtain ⟨Pk, hP⟩ : ∃ P, (xn % 60).toNat = P := ⟨_, rfl⟩
    rw [hP] at hO
    have hP60 : Pk < 60 := by omega
    have HP := hid hP
    clear hP
    go_enter Try.func26, Try.ntmps26
    go_wp2_with fail
    generalize (((w.alloc (.cells #[.slice A n cap, .int .i64 o.inc] 52)).alloc (.cells #[.int .u8 kd, .int .i64 xn] 57)).alloc (.cells #[.slice none 0 0, .int .i64 0] 52)) = w1 at *
    obtain ⟨X, hX⟩ : ∃ X, w.heap.size = X := ⟨_, rfl⟩
    rw [hX] at X1 hQ0 hFX ⊢
    go_loopw [10] (fun jv W => ∃ (j : Nat) (A : Option Addr) (cap : Nat), j ≤ Pk ∧ jv = .int .i64 j ∧ Hid (Three W Q B b n (o.decays j) tb T (.agg #[.slice A n cap, .int .i64 (o.decays j).inc]) (o.decays j)) ∧ Hid (Boxes W X A n cap (o.decays j).inc kd xn) ∧ Hid (Mod (fun g => B ≤ g ∧ ¬ P g) w W)) (fun jv _ => Pk - (intOf jv).toNat)
    case atStart => exact ⟨0, A, cap, by omega, rfl, E1, X1, B1⟩
    case round =>
      obtain ⟨j, A5, cap5, hj, rfl, E5, X5, B5⟩ := hrel
      obtain ⟨O5, hO5⟩ : ∃ O5, o.decays j = O5 := ⟨_, rfl⟩
      have hO6 : Hid (o.decays (j + 1) = O5.decay) := by rw [← hO5]; exact hid rfl
      rw [hO5] at E5 X5
      have HO5 := hid hO5
      clear hO5
      obtain ⟨c0, c1, k0, k1⟩ := box2 X5.out.1
      obtain ⟨e0, e1, _, _⟩ := box2 X5.out.2.1
      obtain ⟨d0, d1, g0, g1⟩ := box2 X5.out.2.2
      have hlt := lt_of_block X5.out.2.2
      by_cases hjP : j < Pk
      · have x3 : (j : Int) < (Pk : Int) := by omega
        go_wp2_with fail
        refine (pick60 HI.out).mono ?_
        rw [HP.out]
        rintro r w' ⟨rfl, rfl⟩
        go_wp2_with fail
        refine (three_decay E5.out).mono ?_
        rintro r w6 ⟨rfl, E6, m6⟩
        have X6 := X5.out.mod m6 (fun h => h.2 hQ0.out.1) (fun h => h.2 hQ0.out.2.1) (fun h => h.2 hQ0.out.2.2)
        have B6 : Hid (Mod (fun g => B ≤ g ∧ ¬ P g) w w6) := B5.out.trans (m6.mono fun g _ hg => .inl ⟨hg.1, fun h => hg.2 (hQP.out g h)⟩)
        clear c0 c1 k0 k1 e0 e1 d0 d1 g0 g1
        obtain ⟨c0, c1, k0, k1⟩ := box2 X6.1
        go_wp2_with fail
        refine (three_rdecay E6).mono ?_
        rintro r w7 ⟨⟨v2, rfl, E7⟩, b7⟩
        obtain ⟨A7, c7, rfl⟩ := E7.form
        have X7 := X6.below b7
        have B7 : Hid (Mod (fun g => B ≤ g ∧ ¬ P g) w w7) := B6.out.trans (Below.to_mod b7)
        clear c0 c1 k0 k1
        obtain ⟨c0, c1, k0, k1⟩ := box2 X7.1
        have hlt7 := lt_of_block X7.2.2
        have E8 := hid (E7.put (x' := .slice A7 n c7) (y' := .int .i64 O5.decay.inc) X7.1 hQ0.out.1)
        have X8 := hid (X7.put (A2 := A7) (cap2 := c7) (inc2 := O5.decay.inc))
        have B8 := hid (mod_put B7.out (X := X) (x := .slice A7 n c7) (y := .int .i64 O5.decay.inc) hFX.out.1)
        clear X7 E7 X6 E6 b7 m6
        go_wp2_with fail
        go_roundw
        case rel => exact ⟨j + 1, A7, c7, by omega, by go_num, by rw [hO6.out]; exact E8, by rw [hO6.out]; exact X8, B8⟩
        case measure => simp [intOf]; omega
      · obtain rfl : j = Pk := by omega
        go_wp2_with fail
        refine (pick60 HI.out).mono ?_
        rw [HP.out]
        rintro r w' ⟨rfl, rfl⟩
        go_wp2_with fail
        refine bodyPost_ret (v := .tuple #[.agg #[.slice A5 n cap5, .int .i64 O5.inc], .bool true]) (by simp [results, Try.results26, go_sem, d0, d1]) rfl ⟨⟨_, rfl, ?_⟩, ?_⟩
        · rw [hO.out, hT.out, HO5.out]
          exact (E5.out.put X5.out.2.2 hQ0.out.2.2).less hQP.out
        · exact mod_put B5.out hFX.out.2
  · have hO : Hid (deedO n o ⟨kd, xn⟩ = o.bumpI n xn) := by have := Hq.out; unfold deedO; rw [if_neg (by dsimp only; omega), if_pos (by dsimp only; omega)]; exact hid rfl
    have hT : Hid (deedT T ⟨kd, xn⟩ = T) := by have := Hq.out; unfold deedT; rw [if_neg (by dsimp only; omega), if_neg (by dsimp only; omega)]; exact hid rfl
    go_enter Try.func26, Try.ntmps26
    go_wp2_with fail
    generalize (((w.alloc (.cells #[.slice A n cap, .int .i64 o.inc] 52)).alloc (.cells #[.int .u8 kd, .int .i64 xn] 57)).alloc (.cells #[.slice none 0 0, .int .i64 0] 52)) = w1 at *
    obtain ⟨X, hX⟩ : ∃ X, w.heap.size = X := ⟨_, rfl⟩
    rw [hX] at X1 hQ0 hFX ⊢
    have hlt := lt_of_block X1.out.2.2
    refine (three_bump E1.out xn).mono ?_
    rintro r w6 ⟨rfl, E6, m6⟩
    have X6 := X1.out.mod m6 (fun h => h.2 hQ0.out.1) (fun h => h.2 hQ0.out.2.1) (fun h => h.2 hQ0.out.2.2)
    have hlt6 := lt_of_block X6.2.2
    have B6 : Hid (Mod (fun g => B ≤ g ∧ ¬ P g) w w6) := B1.out.trans (m6.mono fun g _ hg => .inl ⟨hg.1, fun h => hg.2 (hQP.out g h)⟩)
    clear m6
    obtain ⟨c0, c1, k0, k1⟩ := box2 X6.1
    obtain ⟨e0, e1, _, _⟩ := box2 X6.2.1
    go_wp2_with fail
    refine (three_rbump E6 xn).mono ?_
    rintro r w7 ⟨⟨v2, rfl, E7⟩, b7⟩
    obtain ⟨A7, c7, rfl⟩ := E7.form
    have X7 := X6.below b7
    have B7 : Hid (Mod (fun g => B ≤ g ∧ ¬ P g) w w7) := B6.out.trans (Below.to_mod b7)
    have hlt7 := lt_of_block X7.2.2
    obtain ⟨O7, hO7⟩ : ∃ O7, o.bumpI n xn = O7 := ⟨_, rfl⟩
    rw [hO7] at E7 hO ⊢
    have E8 := hid (E7.below ((Below.refl _ _).alloc (Nat.le_refl _) (.cells #[.slice A7 n c7, .int .i64 O7.inc] 52)))
    have X8 := hid (X7.below ((Below.refl _ _).alloc (Nat.le_refl _) (.cells #[.slice A7 n c7, .int .i64 O7.inc] 52)))
    have B8 : Hid (Mod (fun g => B ≤ g ∧ ¬ P g) w (w7.alloc (.cells #[.slice A7 n c7, .int .i64 O7.inc] 52))) := B7.out.alloc _
    have s8 : (w7.alloc (.cells #[.slice A7 n c7, .int .i64 O7.inc] 52)).heap.size = w7.heap.size + 1 := by simp
    clear c0 c1 k0 k1 e0 e1 E7 X6 E6 b7 hO7
    obtain ⟨c0, c1, k0, k1⟩ := box2 X7.1
    obtain ⟨d0, d1, g0, g1⟩ := box2 X7.2.2
    have n1 : (X = w7.heap.size) = False := by simp; omega
    have n2 : (w7.heap.size = X) = False := by simp; omega
    have n3 : (X + 1 + 1 = w7.heap.size) = False := by simp; omega
    have n4 : (w7.heap.size = X + 1 + 1) = False := by simp; omega
    have he1 : err false = 2 := rfl
    have he2 : err true = 0 := rfl
    clear X7
    cases hh : hasv n xn
    all_goals
      go_wp2_with fail
      refine bodyPost_ret (v := .tuple #[.agg #[.slice A7 n c7, .int .i64 O7.inc], .bool true]) (by simp [results, Try.results26, go_sem, d0, d1, n4]) rfl ⟨⟨_, rfl, ?_⟩, ?_⟩
      · rw [hO.out, hT.out]
        exact ((E8.out.put X8.out.1 hQ0.out.1).put (X8.out.put).2.2 hQ0.out.2.2).less hQP.out
      · exact mod_put (mod_put B8.out hFX.out.1) hFX.out.2
  · have hO : Hid (deedO n o ⟨kd, xn⟩ = o.bumpI n xn) := by have := Hq.out; unfold deedO; rw [if_neg (by dsimp only; omega), if_pos (by dsimp only; omega)]; exact hid rfl
    have hT : Hid (deedT T ⟨kd, xn⟩ = T) := by have := Hq.out; unfold deedT; rw [if_neg (by dsimp only; omega), if_neg (by dsimp only; omega)]; exact hid rfl
    go_enter Try.func26, Try.ntmps26
    go_wp2_with fail
    generalize (((w.alloc (.cells #[.slice A n cap, .int .i64 o.inc] 52)).alloc (.cells #[.int .u8 kd, .int .i64 xn] 57)).alloc (.cells #[.slice none 0 0, .int .i64 0] 52)) = w1 at *
    obtain ⟨X, hX⟩ : ∃ X, w.heap.size = X := ⟨_, rfl⟩
    rw [hX] at X1 hQ0 hFX ⊢
    have hlt := lt_of_block X1.out.2.2
    refine (three_bump E1.out xn).mono ?_
    rintro r w6 ⟨rfl, E6, m6⟩
    have X6 := X1.out.mod m6 (fun h => h.2 hQ0.out.1) (fun h => h.2 hQ0.out.2.1) (fun h => h.2 hQ0.out.2.2)
    have hlt6 := lt_of_block X6.2.2
    have B6 : Hid (Mod (fun g => B ≤ g ∧ ¬ P g) w w6) := B1.out.trans (m6.mono fun g _ hg => .inl ⟨hg.1, fun h => hg.2 (hQP.out g h)⟩)
    clear m6
    obtain ⟨c0, c1, k0, k1⟩ := box2 X6.1
    obtain ⟨e0, e1, _, _⟩ := box2 X6.2.1
    go_wp2_with fail
    refine (three_rbump E6 xn).mono ?_
    rintro r w7 ⟨⟨v2, rfl, E7⟩, b7⟩
    obtain ⟨A7, c7, rfl⟩ := E7.form
    have X7 := X6.below b7
    have B7 : Hid (Mod (fun g => B ≤ g ∧ ¬ P g) w w7) := B6.out.trans (Below.to_mod b7)
    have hlt7 := lt_of_block X7.2.2
    obtain ⟨O7, hO7⟩ : ∃ O7, o.bumpI n xn = O7 := ⟨_, rfl⟩
    rw [hO7] at E7 hO ⊢
    have E8 := hid (E7.below ((Below.refl _ _).alloc (Nat.le_refl _) (.cells #[.slice A7 n c7, .int .i64 O7.inc] 52)))
    have X8 := hid (X7.below ((Below.refl _ _).alloc (Nat.le_refl _) (.cells #[.slice A7 n c7, .int .i64 O7.inc] 52)))
    have B8 : Hid (Mod (fun g => B ≤ g ∧ ¬ P g) w (w7.alloc (.cells #[.slice A7 n c7, .int .i64 O7.inc] 52))) := B7.out.alloc _
    have s8 : (w7.alloc (.cells #[.slice A7 n c7, .int .i64 O7.inc] 52)).heap.size = w7.heap.size + 1 := by simp
    clear c0 c1 k0 k1 e0 e1 E7 X6 E6 b7 hO7
    obtain ⟨c0, c1, k0, k1⟩ := box2 X7.1
    obtain ⟨d0, d1, g0, g1⟩ := box2 X7.2.2
    have n1 : (X = w7.heap.size) = False := by simp; omega
    have n2 : (w7.heap.size = X) = False := by simp; omega
    have n3 : (X + 1 + 1 = w7.heap.size) = False := by simp; omega
    have n4 : (w7.heap.size = X + 1 + 1) = False := by simp; omega
    have he1 : err false = 2 := rfl
    have he2 : err true = 0 := rfl
    clear X7
    cases hh : hasv n xn
    all_goals
      go_wp2_with fail
      refine bodyPost_ret (v := .tuple #[.agg #[.slice A7 n c7, .int .i64 O7.inc], .bool true]) (by simp [results, Try.results26, go_sem, d0, d1, n4]) rfl ⟨⟨_, rfl, ?_⟩, ?_⟩
      · rw [hO.out, hT.out]
        exact ((E8.out.put X8.out.1 hQ0.out.1).put (X8.out.put).2.2 hQ0.out.2.2).less hQP.out
      · exact mod_put (mod_put B8.out hFX.out.1) hFX.out.2
  · have hO : Hid (deedO n o ⟨kd, xn⟩ = o) := by have := Hq.out; unfold deedO; rw [if_neg (by dsimp only; omega), if_neg (by dsimp only; omega)]; exact hid rfl
    have hT : Hid (deedT T ⟨kd, xn⟩ = T.dec xn) := by have := Hq.out; unfold deedT; rw [if_pos (by dsimp only; omega)]; exact hid rfl
    go_enter Try.func26, Try.ntmps26
    go_wp2_with fail
    generalize (((w.alloc (.cells #[.slice A n cap, .int .i64 o.inc] 52)).alloc (.cells #[.int .u8 kd, .int .i64 xn] 57)).alloc (.cells #[.slice none 0 0, .int .i64 0] 52)) = w1 at *
    obtain ⟨X, hX⟩ : ∃ X, w.heap.size = X := ⟨_, rfl⟩
    rw [hX] at X1 hQ0 hFX ⊢
    have hlt := lt_of_block X1.out.2.2
    refine (three_decide E1.out HI.out).mono ?_
    rintro r w6 ⟨rfl, E6, m6⟩
    have X6 := X1.out.mod m6 (fun h => h.2 hQ0.out.1) (fun h => h.2 hQ0.out.2.1) (fun h => h.2 hQ0.out.2.2)
    have hlt6 := lt_of_block X6.2.2
    have B6 : Hid (Mod (fun g => B ≤ g ∧ ¬ P g) w w6) := B1.out.trans (m6.mono fun g _ hg => .inl ⟨hg.1, fun h => hg.2 (hQP.out g h)⟩)
    clear m6
    obtain ⟨c0, c1, k0, k1⟩ := box2 X6.1
    obtain ⟨d0, d1, g0, g1⟩ := box2 X6.2.2
    go_wp2_with fail
    refine bodyPost_ret (v := .tuple #[.agg #[.slice A n cap, .int .i64 o.inc], .bool true]) (by simp [results, Try.results26, go_sem, d0, d1]) rfl ⟨⟨_, rfl, ?_⟩, ?_⟩
    · rw [hO.out, hT.out]
      exact (E6.put X6.2.2 hQ0.out.2.2).less hQP.out
    · exact mod_put B6.out hFX.out.2
  · have hO : Hid (deedO n o ⟨kd, xn⟩ = o) := by have := Hq.out; unfold deedO; rw [if_neg (by dsimp only; omega), if_neg (by dsimp only; omega)]; exact hid rfl
    have hT : Hid (deedT T ⟨kd, xn⟩ = T.back (lvl xn)) := by have := Hq.out; unfold deedT; rw [if_neg (by dsimp only; omega), if_pos (by dsimp only; omega)]; exact hid rfl
    go_enter Try.func26, Try.ntmps26
    go_wp2_with fail
    generalize (((w.alloc (.cells #[.slice A n cap, .int .i64 o.inc] 52)).alloc (.cells #[.int .u8 kd, .int .i64 xn] 57)).alloc (.cells #[.slice none 0 0, .int .i64 0] 52)) = w1 at *
    obtain ⟨X, hX⟩ : ∃ X, w.heap.size = X := ⟨_, rfl⟩
    rw [hX] at X1 hQ0 hFX ⊢
    have hlt := lt_of_block X1.out.2.2
    refine (three_undo E1.out xn).mono ?_
    rintro r w6 ⟨⟨u6, rfl⟩, E6, m6⟩
    have X6 := X1.out.mod m6 (fun h => h.2 hQ0.out.1) (fun h => h.2 hQ0.out.2.1) (fun h => h.2 hQ0.out.2.2)
    have hlt6 := lt_of_block X6.2.2
    have B6 : Hid (Mod (fun g => B ≤ g ∧ ¬ P g) w w6) := B1.out.trans (m6.mono fun g _ hg => .inl ⟨hg.1, fun h => hg.2 (hQP.out g h)⟩)
    clear m6
    obtain ⟨c0, c1, k0, k1⟩ := box2 X6.1
    obtain ⟨d0, d1, g0, g1⟩ := box2 X6.2.2
    go_wp2_with fail
    refine bodyPost_ret (v := .tuple #[.agg #[.slice A n cap, .int .i64 o.inc], .bool true]) (by simp [results, Try.results26, go_sem, d0, d1]) rfl ⟨⟨_, rfl, ?_⟩, ?_⟩
    · rw [hO.out, hT.out]
      exact (E6.put X6.2.2 hQ0.out.2.2).less hQP.out
    · exact mod_put B6.out hFX.out.2
end Go.Proofs.Ytdkbchpogmiohaa
