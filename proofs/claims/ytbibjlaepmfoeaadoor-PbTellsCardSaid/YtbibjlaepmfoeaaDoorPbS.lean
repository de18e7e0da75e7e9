/-
  Chapter 24: the chapter's examples (awake).
-/
import Derived.Test.YtbibjlaepmfoeaaDoorPbQ
import Derived.Test.YtbibjlaepmfoeaaDoorPbO
import Derived.Test.YtbibjlaepmfoeaaDoorPlD
namespace Go.Proofs.YtbibjlaepmfoeaaDoor
open Go.RowKit

theorem itoa_to (w : World) : ItoaTo w 99 := fun i h1 h2 W _ => by
  obtain ⟨k, rfl⟩ : ∃ k : Nat, i = k := ⟨i.toNat, by omega⟩
  refine (sh_strconv_Itoa_small k (by omega) W).mono ?_
  rintro r w' ⟨rfl, rfl⟩
  exact ⟨by rw [Lib.itoa_nonneg], Below.refl _ _⟩
theorem own_lit (w : World) (xs : List Int) (h0 : 0 < xs.length) (hn : xs.length ≤ 1000000) : Own (w.alloc (.cells (ints xs).toArray 3)) (fun g => g = w.heap.size) 3 1 (.slice (some ⟨w.heap.size, 0, none⟩) xs.length xs.length) xs.length (ints xs) :=
  own_new w _ 3 1 xs.length _ xs.length _ (by simp [ints]) (by omega) (Nat.le_refl _) (by unfold maxLen; omega) (by simp [ints]) (by rw [List.toList_toArray, Nat.mul_one]; exact List.take_of_length_le (by simp [ints])) rfl
theorem own_lit8 (w : World) (xs : List Int) (h0 : 0 < xs.length) (hn : xs.length ≤ 1000000) : Own (w.alloc (.cells (i8s xs).toArray 37)) (fun g => g = w.heap.size) 37 1 (.slice (some ⟨w.heap.size, 0, none⟩) xs.length xs.length) xs.length (i8s xs) :=
  own_new w _ 37 1 xs.length _ xs.length _ (by simp [i8s]) (by omega) (Nat.le_refl _) (by unfold maxLen; omega) (by simp [i8s]) (by rw [List.toList_toArray, Nat.mul_one]; exact List.take_of_length_le (by simp [i8s])) rfl
/-- A normal form, computed. -/
theorem normVars_eq {ls ks vs : List Int} (hr : vs.Pairwise (fun x y => x < y)) (h1 : ∀ v ∈ vs, 1 ≤ v ∧ v ≤ 65536 ∧ vsum ls ks ls.length v ≠ 0) (h2 : ∀ l ∈ ls, ((l.natAbs : Nat) : Int) ∈ vs ∨ vsum ls ks ls.length (l.natAbs : Nat) = 0) : normVars ls ks = vs := by
  have hn := normVars_rise ls ks
  refine List.Perm.eq_of_pairwise (le := fun x y : Int => x ≤ y) (fun a b _ _ h1 h2 => by omega) (hn.imp fun h => by omega) (hr.imp fun h => by omega) ((List.perm_ext_iff_of_nodup (hn.imp fun h => by omega) (hr.imp fun h => by omega)).2 fun v => ?_)
  rw [mem_normVars]
  refine ⟨fun ⟨q1, q2, q3⟩ => ?_, h1 v⟩
  by_cases e : ∃ l ∈ ls, ((l.natAbs : Nat) : Int) = v
  · obtain ⟨l, hl, rfl⟩ := e
    exact (h2 l hl).elim id fun h => absurd h q3
  · refine absurd (sum_zero _ fun i hi => ?_) q3
    have hi := List.mem_range.1 hi
    have : ¬ ((((nth ls i).natAbs : Nat) : Int) = v) := fun h => e ⟨_, nth_mem hi, h⟩
    unfold term
    rw [if_neg (by omega), if_neg (by omega)]
theorem ex1 : normed [1, 2, 3] [2, 1, 1] 2 = (⟨[1, 2, 3], [2, 1, 1], 2⟩, 0) := Pb.Ok.again (c := ⟨[1, 2, 3], [2, 1, 1], 2⟩) ((Pb.ok_iff _).1 (by decide))
theorem ex2 : Pb.negB ⟨[1, 2, 3], [2, 1, 1], 2⟩ = (⟨[-1, -2, -3], [2, 1, 1], 3⟩, 0) := by
  unfold Pb.negB
  rw [if_pos (by decide)]
  exact Pb.Ok.again (c := ⟨[-1, -2, -3], [2, 1, 1], 3⟩) ((Pb.ok_iff _).1 (by decide))
theorem ex3 : clauseB [3, -1, 3] = (⟨[-1, 3], [1, 1], 1⟩, 0) := by
  have e : once [3, -1, 3] = [-1, 3] := by
    refine List.Perm.eq_of_pairwise (le := fun x y : Int => x ≤ y) (fun a b _ _ h1 h2 => by omega) ((compactL_rise (sortL_sorted _)).imp fun h => by omega) (by decide) ((List.perm_ext_iff_of_nodup (once_nodup _) (by decide)).2 fun v => ?_)
    rw [mem_once]
    simp
    omega
  rw [clauseB_is, e]
  exact Pb.Ok.again (c := ⟨[-1, 3], [1, 1], 1⟩) ((Pb.ok_iff _).1 (by decide))
theorem ex4 : normed [1, 2, 1] [3, -2, 2] 4 = (⟨[1, -2], [5, 2], 6⟩, 0) := by
  have e : normVars [1, 2, 1] [3, -2, 2] = [1, 2] := normVars_eq (by decide) (by decide) (by decide)
  have e2 : normBd [1, 2, 1] [3, -2, 2] 4 = 6 := by unfold normBd; rw [e]; decide
  have e3 : normCoefs [1, 2, 1] [3, -2, 2] 4 = [5, 2] := by unfold normCoefs; rw [e, e2]; decide
  rw [normed_sg, if_neg (by decide), e2, e3, e, if_neg (by decide), if_neg (by decide), if_neg (by decide)]
  rfl
theorem ex5 : normed [1, -1] [1, 1] 1 = (⟨[], [], 0⟩, 0) := by
  have e : normVars [1, -1] [1, 1] = [] := normVars_eq (by decide) (by decide) (by decide)
  have e2 : normBd [1, -1] [1, 1] 1 = 0 := by unfold normBd; rw [e]; decide
  rw [normed_sg, if_neg (by decide), e2, if_pos (by decide)]
theorem ex6 : normed [1, 2] [1, 1] 3 = (⟨[], [], 1⟩, 0) := by
  have e : normVars [1, 2] [1, 1] = [1, 2] := normVars_eq (by decide) (by decide) (by decide)
  have e2 : normBd [1, 2] [1, 1] 3 = 3 := by unfold normBd; rw [e]; decide
  have e3 : normCoefs [1, 2] [1, 1] 3 = [1, 1] := by unfold normCoefs; rw [e, e2]; decide
  rw [normed_sg, if_neg (by decide), e2, e3, if_neg (by decide), if_pos (by decide)]
theorem itoa_one {k : Nat} (h : k < 10) : Lib.itoa k = [UInt8.ofNat (48 + k)] := by rw [Lib.itoa_nonneg, Lib.decDigits_one h]
theorem i0 : Lib.itoa 0 = [48] := itoa_one (k := 0) (by decide)
theorem i1 : Lib.itoa 1 = [49] := itoa_one (k := 1) (by decide)
theorem i2 : Lib.itoa 2 = [50] := itoa_one (k := 2) (by decide)
theorem i3 : Lib.itoa 3 = [51] := itoa_one (k := 3) (by decide)
theorem i5 : Lib.itoa 5 = [53] := itoa_one (k := 5) (by decide)
theorem i6 : Lib.itoa 6 = [54] := itoa_one (k := 6) (by decide)
theorem tx4 : (⟨[1, -2], [5, 2], 6⟩ : Pb).text = [53, 32, 120, 49, 32, 50, 32, 126, 120, 50, 32, 62, 61, 32, 54] := by
  unfold Pb.text
  rw [if_pos (by decide)]
  simp [Pb.words, Pb.word, nth, List.range_succ, i1, i2, i5, i6]
theorem tx5 : (⟨[], [], 0⟩ : Pb).text = [62, 61, 32, 48] := by
  unfold Pb.text
  rw [if_pos (by decide)]
  simp [Pb.words, i0]
theorem tx6 : (⟨[], [], 1⟩ : Pb).text = [62, 61, 32, 49] := by
  unfold Pb.text
  rw [if_pos (by decide)]
  simp [Pb.words, i1]
theorem tx2 : (⟨[-1, -2, -3], [2, 1, 1], 3⟩ : Pb).text = [50, 32, 126, 120, 49, 32, 49, 32, 126, 120, 50, 32, 49, 32, 126, 120, 51, 32, 62, 61, 32, 51] := by
  unfold Pb.text
  rw [if_pos (by decide)]
  simp [Pb.words, Pb.word, nth, List.range_succ, i1, i2, i3]
theorem tx3 : (⟨[-1, 3], [1, 1], 1⟩ : Pb).text = [49, 32, 126, 120, 49, 32, 49, 32, 120, 51, 32, 62, 61, 32, 49] := by
  unfold Pb.text
  rw [if_pos (by decide)]
  simp [Pb.words, Pb.word, nth, List.range_succ, i1, i3]
theorem sl1 : (⟨[1, 2, 3], [2, 1, 1], 2⟩ : Pb).slackB [-1] = 0 := by decide
theorem un1 : (⟨[1, 2, 3], [2, 1, 1], 2⟩ : Pb).unitsB [-1] = [2, 3] := by decide

/-- Two literals. -/
theorem lits_two {w : World} (xs ys : List Int) (h0 : 0 < xs.length) (h1 : 0 < ys.length) (hn : xs.length ≤ 1000000) (hm : ys.length ≤ 1000000) : ∃ W, (w.alloc (.cells (ints xs).toArray 3)).alloc (.cells (ints ys).toArray 3) = W ∧ Below w.heap.size w W ∧
    Rd W (fun g => g = w.heap.size) 1 (.slice (some ⟨w.heap.size, 0, none⟩) xs.length xs.length) xs.length (ints xs) ∧
    Rd W (fun g => g = w.heap.size + 1) 1 (.slice (some ⟨w.heap.size + 1, 0, none⟩) ys.length ys.length) ys.length (ints ys) := by
  have o1 := (own_lit w xs h0 hn).rd
  have o2 := (own_lit (w.alloc (.cells (ints xs).toArray 3)) ys h1 hm).rd
  rw [World.size_alloc] at o2
  exact ⟨_, rfl, ((Below.refl _ _).alloc (Nat.le_refl _) _).alloc (by rw [World.size_alloc]; omega) _, o1.below ((Below.refl _ _).alloc (Nat.le_refl _) _), o2⟩
theorem alloc_step (W : World) (o : Obj) : ∃ X, W.alloc o = X ∧ Below W.heap.size W X ∧ X.heap[W.heap.size]? = some o ∧ X.heap.size = W.heap.size + 1 :=
  ⟨_, rfl, (Below.refl _ _).alloc (Nat.le_refl _) _, heap_alloc_new _ _, World.size_alloc _ _⟩
theorem box3 {W : World} {b : Nat} {x y z : Value} {t : TypeId} {fz : Nat × Nat} (k : W.heap[b]? = some (.cells #[x, y, z] t fz)) : W.cell? ⟨b, 0, none⟩ = some x ∧ W.cell? ⟨b, 1, none⟩ = some y ∧ W.cell? ⟨b, 2, none⟩ = some z :=
  ⟨by rw [cell_of_row _ _ _ _ _ _ k]; rfl, by rw [cell_of_row _ _ _ _ _ _ k]; rfl, by rw [cell_of_row _ _ _ _ _ _ k]; rfl⟩
theorem keep_blk {W X : World} {b : Nat} {o : Obj} (k : W.heap[b]? = some o) (h : Below W.heap.size W X) : X.heap[b]? = some o := (h.block b (lt_of_block k)).trans k
theorem i64s {xs : List Int} (h : xs.all fun x => decide (-9223372036854775808 ≤ x) && decide (x ≤ 9223372036854775807)) : ∀ x ∈ xs, I64 x := fun x hx => by
  have := List.all_eq_true.1 h x hx
  rw [Bool.and_eq_true, decide_eq_true_eq, decide_eq_true_eq] at this
  exact this
set_option maxRecDepth 100000 in
set_option maxHeartbeats 4000000 in
theorem text_any {w : World} {M : Int} {F G : Nat → Prop} {A B : Option Addr} {n cA m cB : Nat} {ls ks : List Int} {b : Int} (hl : Rd w F 1 (.slice A n cA) n (ints ls)) (hk : Rd w G 1 (.slice B m cB) m (ints ks)) (hi : ∀ x ∈ ls, I64 x) (hik : ∀ x ∈ ks, I64 x) (hb : I64 b)
    (hit : ItoaTo w M) (hM : (normed ls ks b).1.Ok → (normed ls ks b).1.bound ≤ M ∧ ∀ j, j < (normed ls ks b).1.lits.length → ((nth (normed ls ks b).1.lits j).natAbs : Nat) ≤ M) (hco : ∀ k ∈ (normed ls ks b).1.coefs, I64 k) :
    Calls Tryd.prog 38 #[.slice A n cA, .slice B m cB, .int .i64 b] w fun r w' => r = .returned (.string ⟨(normed ls ks b).1.text.toArray⟩) ∧ Below w.heap.size w w' := by
  go_enter Tryd.func38, Tryd.ntmps38
  go_wp2_with fail
  refine (norm_any hl hk hi hik hb).mono ?_
  rintro r w2 ⟨⟨pv, rfl, hpv⟩, b2⟩
  have Hpv := hid hpv
  obtain ⟨⟨A1, n1, c1, A2, n2, c2, rfl, r1, r2⟩, hb1⟩ := hpv
  have B2 := hid b2
  clear r1 r2 hb1 b2
  go_wp2_with fail
  obtain ⟨X, hX, bX, _, _⟩ := alloc_step w2 (.cells #[.slice A1 n1 c1, .slice A2 n2 c2, .int .i64 (normed ls ks b).1.bound] 26)
  rw [hX]
  have sX := bX.size
  have B4 := hid (B2.out.trans (bX.mono B2.out.size))
  refine (string_any (Hpv.out.below bX) hco (fun i h1 h2 W hW => hit i h1 h2 W (B4.out.trans (hW.mono B4.out.size))) hM).mono ?_
  rintro r w3 ⟨rfl, b3⟩
  have B3 := hid (B4.out.trans (b3.mono B4.out.size))
  clear b3 hX bX sX
  go_wp2_with fail
  go_ret
  exact ⟨rfl, B3.out⟩
set_option maxRecDepth 100000 in
set_option maxHeartbeats 4000000 in
theorem awake_any {w : World} : Calls Tryd.prog 16 #[] w fun r w' => r = .returned (.bool true) ∧ Below w.heap.size w w' := by
  go_enter Tryd.func16, Tryd.ntmps16
  go_wp2_with fail
  obtain ⟨W1, hW1, b1, r1, r2⟩ := lits_two (w := w) [1, 2, 3] [2, 1, 1] (by decide) (by decide) (by decide) (by decide)
  rw [show (w.alloc (Obj.cells #[Value.int IntKind.i64 1, Value.int IntKind.i64 2, Value.int IntKind.i64 3] 3)).alloc (Obj.cells #[Value.int IntKind.i64 2, Value.int IntKind.i64 1, Value.int IntKind.i64 1] 3) = W1 from hW1]
  clear hW1
  refine (norm_any r1 r2 (i64s (by decide)) (i64s (by decide)) (by unfold I64; omega)).mono ?_
  rintro r w2 ⟨⟨p1, rfl, hp1⟩, b2⟩
  rw [ex1] at hp1
  rw [ex1]
  have s2 := b2.size
  have s1 := b1.size
  have B2 := hid (b1.trans (b2.mono s1))
  have P1 := hid hp1
  obtain ⟨⟨A1, n1, c1, A2, n2, c2, rfl, _, _⟩, _⟩ := hp1
  obtain ⟨Z1, hZ1⟩ : ∃ z, w2.heap.size = z := ⟨_, rfl⟩
  clear b1 b2 r1 r2
  go_wp2_with fail
  obtain ⟨X3, hX, bX, k1, sX⟩ := alloc_step w2 (.cells #[.slice A1 n1 c1, .slice A2 n2 c2, .int .i64 2] 26)
  rw [hX]
  refine (negate_any (P1.out.below bX) (i64s (by decide))).mono ?_
  rintro r w4 ⟨⟨p2, rfl, hp2⟩, b4⟩
  rw [ex2] at hp2
  rw [ex2]
  have s4 := b4.size
  have B4 := hid ((B2.out.trans (bX.mono (by omega))).trans (b4.mono (by omega)))
  have Q1 := hid ((P1.out.below bX).below b4)
  have P2 := hid hp2
  have k1 := hid (hZ1 ▸ keep_blk k1 b4)
  obtain ⟨⟨D1, m1, d1, D2, m2, d2, rfl, _, _⟩, _⟩ := hp2
  obtain ⟨Z2, hZ2⟩ : ∃ z, w4.heap.size = z := ⟨_, rfl⟩
  have hz12 : Z1 < Z2 := by omega
  clear B2 b4 P1 hX bX hZ1 sX s4 s2 s1
  go_wp2_with fail
  obtain ⟨X5, hX, bX, k2, sX⟩ := alloc_step w4 (.cells #[.slice D1 m1 d1, .slice D2 m2 d2, .int .i64 3] 26)
  rw [hX]
  have o1 := (own_lit X5 [3, -1, 3] (by decide) (by decide)).rd
  obtain ⟨X6, hX6, bX6, _, sX6⟩ := alloc_step X5 (.cells #[.int .i64 3, .int .i64 (-1), .int .i64 3] 3)
  rw [show X5.alloc (.cells (ints [3, -1, 3]).toArray 3) = X6 from hX6] at o1
  rw [hX6]
  rw [show Z2 + 1 = X5.heap.size by omega]
  refine (clause_any (F := fun g => g = X5.heap.size) (ls := [3, -1, 3]) o1 (i64s (by decide)) (by decide) (once_len _) (fun x hx => mem_once.1 hx)).mono ?_
  rintro r w7 ⟨⟨p3, rfl, hp3⟩, b7⟩
  rw [ex3] at hp3
  rw [ex3]
  have s7 := b7.size
  have bb := (bX.trans (bX6.mono (by omega))).trans (b7.mono (by omega))
  have B7 := hid (B4.out.trans (bb.mono B4.out.size))
  have R1 := hid (Q1.out.below bb)
  have R2 := hid (P2.out.below bb)
  have R3 := hid hp3
  have k1 := hid (keep_blk k1.out bb)
  have k2 := hid (hZ2 ▸ keep_blk (keep_blk k2 bX6) b7)
  obtain ⟨⟨E1, q1, e1, E2, q2, e2, rfl, _, _⟩, _⟩ := hp3
  obtain ⟨Z3, hZ3⟩ : ∃ z, w7.heap.size = z := ⟨_, rfl⟩
  have hz23 : Z2 < Z3 := by omega
  clear b7 Q1 P2 hX bX hZ2 sX s7 hX6 bX6 sX6 o1 bb B4
  go_wp2_with fail
  obtain ⟨X8, hX, bX, k3, sX⟩ := alloc_step w7 (.cells #[.slice E1 q1 e1, .slice E2 q2 e2, .int .i64 1] 26)
  rw [hX]
  obtain ⟨Y1, hY, bY, rY1, rY2⟩ := lits_two (w := X8) [1, 2, 1] [3, -2, 2] (by decide) (by decide) (by decide) (by decide)
  rw [show (X8.alloc (.cells #[.int .i64 1, .int .i64 2, .int .i64 1] 3)).alloc (.cells #[.int .i64 3, .int .i64 (-2), .int .i64 2] 3) = Y1 from hY]
  have sY := bY.size
  rw [show Z3 + 1 + 1 = X8.heap.size + 1 by omega, show Z3 + 1 = X8.heap.size by omega]
  have bb := bX.trans (bY.mono (by omega))
  have B8 := hid (B7.out.trans (bb.mono B7.out.size))
  have R1' := hid (R1.out.below bb)
  have R2' := hid (R2.out.below bb)
  have R3' := hid (R3.out.below bb)
  have k1' := hid (keep_blk k1.out bb)
  have k2' := hid (keep_blk k2.out bb)
  have k3' := hid (hZ3 ▸ keep_blk k3 bY)
  clear R1 R2 R3 k1 k2 k3 bX hX sX hZ3 bb B7 hY bY
  refine (text_any (F := fun g => g = X8.heap.size) (G := fun g => g = X8.heap.size + 1) (ls := [1, 2, 1]) (ks := [3, -2, 2]) (b := 4) rY1 rY2 (i64s (by decide)) (i64s (by decide)) (by unfold I64; omega) (itoa_to Y1) (by rw [ex4]; intro _; decide) (by rw [ex4]; exact i64s (by decide))).mono ?_
  rintro r w9 ⟨rfl, b9⟩
  rw [ex4, tx4]
  have s9 := b9.size
  have B9 := hid (B8.out.trans (b9.mono B8.out.size))
  have R1 := hid (R1'.out.below b9)
  have R2 := hid (R2'.out.below b9)
  have R3 := hid (R3'.out.below b9)
  have k1 := hid (keep_blk k1'.out b9)
  have k2 := hid (keep_blk k2'.out b9)
  have k3 := hid (keep_blk k3'.out b9)
  clear R1' R2' R3' k1' k2' k3' b9 B8 rY1 rY2
  go_wp2_with fail
  obtain ⟨Y2, hY, bY, rY1, rY2⟩ := lits_two (w := w9) [1, -1] [1, 1] (by decide) (by decide) (by decide) (by decide)
  rw [show (w9.alloc (.cells #[.int .i64 1, .int .i64 (-1)] 3)).alloc (.cells #[.int .i64 1, .int .i64 1] 3) = Y2 from hY]
  have sY := bY.size
  have B2y := hid (B9.out.trans (bY.mono B9.out.size))
  clear hY
  refine (text_any (F := fun g => g = w9.heap.size) (G := fun g => g = w9.heap.size + 1) (ls := [1, -1]) (ks := [1, 1]) (b := 1) rY1 rY2 (i64s (by decide)) (i64s (by decide)) (by unfold I64; omega) (itoa_to Y2) (by rw [ex5]; intro _; decide) (by rw [ex5]; exact i64s (by decide))).mono ?_
  rintro r w10 ⟨rfl, bt⟩
  rw [ex5, tx5]
  have bb := bY.trans (bt.mono bY.size)
  have B10 := hid (B9.out.trans (bb.mono B9.out.size))
  have R1' := hid (R1.out.below bb)
  have R2' := hid (R2.out.below bb)
  have R3' := hid (R3.out.below bb)
  have k1' := hid (keep_blk k1.out bb)
  have k2' := hid (keep_blk k2.out bb)
  have k3' := hid (keep_blk k3.out bb)
  have sB := bb.size
  clear R1 R2 R3 k1 k2 k3 bY bt bb B9 B2y rY1 rY2 sY
  have R1 := R1'
  have R2 := R2'
  have R3 := R3'
  have k1 := k1'
  have k2 := k2'
  have k3 := k3'
  clear R1' R2' R3' k1' k2' k3'
  go_wp2_with fail
  obtain ⟨Y3, hY, bY, rY1, rY2⟩ := lits_two (w := w10) [1, 2] [1, 1] (by decide) (by decide) (by decide) (by decide)
  rw [show (w10.alloc (.cells #[.int .i64 1, .int .i64 2] 3)).alloc (.cells #[.int .i64 1, .int .i64 1] 3) = Y3 from hY]
  have sY := bY.size
  have B3y := hid (B10.out.trans (bY.mono B10.out.size))
  clear hY
  refine (text_any (F := fun g => g = w10.heap.size) (G := fun g => g = w10.heap.size + 1) (ls := [1, 2]) (ks := [1, 1]) (b := 3) rY1 rY2 (i64s (by decide)) (i64s (by decide)) (by unfold I64; omega) (itoa_to Y3) (by rw [ex6]; intro _; decide) (by rw [ex6]; exact i64s (by decide))).mono ?_
  rintro r w11 ⟨rfl, bt⟩
  rw [ex6, tx6]
  have bb := bY.trans (bt.mono bY.size)
  have B11 := hid (B10.out.trans (bb.mono B10.out.size))
  have R1' := hid (R1.out.below bb)
  have R2' := hid (R2.out.below bb)
  have R3' := hid (R3.out.below bb)
  have k1' := hid (keep_blk k1.out bb)
  have k2' := hid (keep_blk k2.out bb)
  have k3' := hid (keep_blk k3.out bb)
  have sB := bb.size
  clear R1 R2 R3 k1 k2 k3 bY bt bb B10 B3y rY1 rY2 sY
  have R1 := R1'
  have R2 := R2'
  have R3 := R3'
  have k1 := k1'
  have k2 := k2'
  have k3 := k3'
  clear R1' R2' R3' k1' k2' k3'
  obtain ⟨u0, u1, u2⟩ := box3 k2.out
  go_wp2_with fail
  refine (string_any R2.out (i64s (by decide)) (itoa_to w11) (fun _ => by decide)).mono ?_
  rintro r w12 ⟨rfl, bt⟩
  rw [tx2]
  clear R2 k2 u0 u1 u2
  have B12 := hid (B11.out.trans (bt.mono B11.out.size))
  have R1' := hid (R1.out.below bt)
  have R3' := hid (R3.out.below bt)
  have k1' := hid (keep_blk k1.out bt)
  have k3' := hid (keep_blk k3.out bt)
  have sB := bt.size
  clear R1 R3 k1 k3 bt B11
  have R1 := R1'
  have R3 := R3'
  have k1 := k1'
  have k3 := k3'
  clear R1' R3' k1' k3'
  obtain ⟨u0, u1, u2⟩ := box3 k1.out
  have hlt1 := lt_of_block k1.out
  have hne1 := World.new_ne w12 ⟨Z1, 0, none⟩ u0
  go_wp2_with fail
  have o8 := (own_lit8 w12 [-1] (by decide) (by decide)).rd
  obtain ⟨X13, hX, bX, _, sX⟩ := alloc_step w12 (.cells #[.int .i8 (-1)] 37)
  rw [show w12.alloc (.cells (i8s [-1]).toArray 37) = X13 from hX] at o8
  rw [hX]
  refine (slack_any (G := fun g => g = w12.heap.size) (av := [-1]) (R1.out.below bX) (i64s (by decide)) o8).mono ?_
  rintro r w14 ⟨rfl, bt⟩
  rw [sl1]
  have bb := bX.trans (bt.mono bX.size)
  clear bX bt hX o8 sX u0 u1 u2 hlt1 hne1
  have B14 := hid (B12.out.trans (bb.mono B12.out.size))
  have R1' := hid (R1.out.below bb)
  have R3' := hid (R3.out.below bb)
  have k1' := hid (keep_blk k1.out bb)
  have k3' := hid (keep_blk k3.out bb)
  have sB := bb.size
  clear R1 R3 k1 k3 bb B12
  have R1 := R1'
  have R3 := R3'
  have k1 := k1'
  have k3 := k3'
  clear R1' R3' k1' k3'
  obtain ⟨u0, u1, u2⟩ := box3 k1.out
  have hlt1 := lt_of_block k1.out
  have hne1 := World.new_ne w14 ⟨Z1, 0, none⟩ u0
  go_wp2_with fail
  have o8 := (own_lit8 w14 [-1] (by decide) (by decide)).rd
  obtain ⟨X15, hX, bX, _, sX⟩ := alloc_step w14 (.cells #[.int .i8 (-1)] 37)
  rw [show w14.alloc (.cells (i8s [-1]).toArray 37) = X15 from hX] at o8
  rw [hX]
  refine (units_any (G := fun g => g = w14.heap.size) (av := [-1]) (R1.out.below bX) (i64s (by decide)) o8).mono ?_
  rintro r w16 ⟨⟨RR, rc, rfl, hou⟩, bt⟩
  rw [un1] at hou ⊢
  have bb := bX.trans (bt.mono bX.size)
  have Hou := hid hou.rd
  clear bX bt hX o8 sX u0 u1 u2 hlt1 hne1 hou
  have B16 := hid (B14.out.trans (bb.mono B14.out.size))
  have R1' := hid (R1.out.below bb)
  have R3' := hid (R3.out.below bb)
  have k1' := hid (keep_blk k1.out bb)
  have k3' := hid (keep_blk k3.out bb)
  have sB := bb.size
  clear R1 R3 k1 k3 bb B14
  have R1 := R1'
  have R3 := R3'
  have k1 := k1'
  have k3 := k3'
  clear R1' R3' k1' k3'
  go_wp2_with fail
  have o8 := (own_lit w16 [2, 3] (by decide) (by decide)).rd
  obtain ⟨X17, hX, bX, _, sX⟩ := alloc_step w16 (.cells #[.int .i64 2, .int .i64 3] 3)
  rw [show w16.alloc (.cells (ints [2, 3]).toArray 3) = X17 from hX] at o8
  rw [hX]
  refine (lists_any (F := fun g => X15.heap.size ≤ g) (G := fun g => g = w16.heap.size) (xs := [2, 3]) (ys := [2, 3]) (Hou.out.below bX) o8).mono ?_
  rintro r w18 ⟨rfl, bt⟩
  rw [show decide (([2, 3] : List Int) = [2, 3]) = true from by decide]
  have bb := bX.trans (bt.mono bX.size)
  have B18 := hid (B16.out.trans (bb.mono B16.out.size))
  have k3' := hid (keep_blk k3.out bb)
  have R3' := hid (R3.out.below bb)
  clear bX bt hX o8 sX bb k3 k1 R1 R3 B16
  obtain ⟨u0, u1, u2⟩ := box3 k3'.out
  go_wp2_with fail
  refine (string_any R3'.out (i64s (by decide)) (itoa_to w18) (fun _ => by decide)).mono ?_
  rintro r w19 ⟨rfl, bt⟩
  rw [tx3]
  have B19 := hid (B18.out.trans (bt.mono B18.out.size))
  clear bt u0 u1 u2 B18
  go_wp2_with fail
  go_ret
  exact ⟨rfl, B19.out⟩
end Go.Proofs.YtbibjlaepmfoeaaDoor
