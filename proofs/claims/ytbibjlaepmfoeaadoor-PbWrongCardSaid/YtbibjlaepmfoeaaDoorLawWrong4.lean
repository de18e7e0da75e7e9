/-
  Chapter 24: the walk of PbWrong, way % 6 = 4.
-/
import Derived.Test.YtbibjlaepmfoeaaDoorLawWrongH
namespace Go.Proofs.YtbibjlaepmfoeaaDoor
open Go.RowKit

set_option maxRecDepth 100000 in
set_option maxHeartbeats 4000000 in
theorem wrong_walk4 {w : World} {F G : Nat → Prop} {u v : Value} {n m : Nat} {ls ks : List Int} {b at' way : Int} (hu : Rd w F 1 u n (ints ls)) (hv : Rd w G 1 v m (ints ks)) (hn : n ≤ 17592186043904) (hm : m ≤ 17592186043904)
    (ha1 : 0 ≤ at') (ha2 : at' ≤ 255) (hwy : Int.tmod way 6 = 4) :
    Calls Tryd.prog 7 #[u, v, .int .i64 b, .int .u8 way, .int .u8 at'] w fun r w' => r = .returned (.bool true) ∧ Below w.heap.size w w' := by
  obtain ⟨A0, c0, rfl, hc0, hcm0, _⟩ := hu.2
  obtain ⟨B0, d0, rfl, hd0, hdm0, _⟩ := hv.2
  obtain ⟨b', hb'⟩ : ∃ b', Int.tmod b 101 = b' := ⟨_, rfl⟩
  have hbr : -100 ≤ b' ∧ b' ≤ 100 := by have := tmod_in b (m := 101) (by decide); omega
  go_enter Tryd.func7, Tryd.ntmps7
  have Hu := hid hu
  have Hv := hid hv
  clear hu hv
  go_wp2_with (first
    | (at_builtin; refine wpList_append_ints rfl _ _ rfl (own_one w (.int .i64 1)) (Hu.out.below ((Below.refl _ _).alloc (Nat.le_refl _) _)) rfl rfl (ints_one _) (by omega) ?_; intro Av1 cv1 W1 ho1 hm1 hr1; have T1 := hid (And.intro ho1.rd (below_mod ((Below.refl w.heap.size w).alloc (Nat.le_refl _) _) (by rw [World.size_alloc]; omega) hm1 (fun g hg => by obtain ⟨_, e⟩ := hg; rw [← e]; exact Nat.le_refl _))); clear ho1 hm1 hr1)
    | (at_builtin; refine wpList_append_ints rfl _ _ rfl (own_one W1 (.int .i64 1)) ((Hv.out.below T1.out.2).below ((Below.refl _ _).alloc (Nat.le_refl _) _)) rfl rfl (ints_one _) (by omega) ?_; intro Av2 cv2 W2 ho2 hm2 hr2; have T2 := hid (And.intro ho2.rd (below_mod ((Below.refl W1.heap.size W1).alloc (Nat.le_refl _) _) (by rw [World.size_alloc]; omega) hm2 (fun g hg => by obtain ⟨_, e⟩ := hg; rw [← e]; exact Nat.le_refl _))); clear ho2 hm2 hr2))
  have r1 := T1.out.1.below T2.out.2
  have B2 := hid (T1.out.2.trans (T2.out.2.mono T1.out.2.size))
  refine (small_any (ls := 1 :: ls) (ks := 1 :: ks) r1 T2.out.1).mono ?_
  rintro r w3 ⟨⟨A, n1, c1, B, n2, c2, rfl, ho1, ho2⟩, b3⟩
  have Hsm := hid (sm_is (1 :: ls) (1 :: ks))
  have hone := small_one ls ks
  obtain ⟨L, hL⟩ : ∃ L, smL (1 :: ls) (1 :: ks) = L := ⟨_, rfl⟩
  obtain ⟨C, hC⟩ : ∃ C, smC (1 :: ls) (1 :: ks) = C := ⟨_, rfl⟩
  rw [hL] at ho1 Hsm hone
  rw [hC] at ho2 Hsm
  have hl1 : L.length = n1 := by have := ho1.rd.1; simpa [ints_length] using this
  have hl2 : C.length = n2 := by have := ho2.rd.1; simpa [ints_length] using this
  have s3 := b3.size
  have B3 := hid (B2.out.trans (b3.mono B2.out.size))
  have RL := hid ho1.rd
  have RC := hid ho2.rd
  have hn12 : n1 = n2 := by rw [← hl1, ← hl2]; exact Hsm.out.len
  have hn8 : n1 ≤ 8 := by rw [← hl1]; exact Hsm.out.few
  rw [hl1] at hone
  obtain ⟨k, hk⟩ : ∃ k : Nat, (k : Int) = Int.tmod at' n1 := ⟨(Int.tmod at' n1).toNat, Int.toNat_of_nonneg (Int.tmod_nonneg _ ha1)⟩
  have hkn : k < n1 := by have := Int.tmod_lt_of_pos at' (show (0 : Int) < n1 by omega); omega
  have hk' := hk.symm
  have hz : (n1 : Int) ≠ 0 := by omega
  clear T1 T2 B2 r1 hL hC b3 hk ho1 ho2 hn hm hc0 hcm0 hd0 hdm0
  subst hn12
  have Hone := hid hone
  clear hone
  go_wp2_with (first
    | (at_builtin; refine wpList_append_ints rfl _ _ rfl (Own.none_ (w3.alloc (.cells #[] 3)) (fun g => w3.heap.size ≤ g) 3 1 (some ⟨w3.heap.size, 0, none⟩)) (RL.out.below ((Below.refl _ _).alloc (Nat.le_refl _) _)) rfl rfl (ints_one _) (by omega) ?_; intro Av3 cv3 W4 ho3 hm3 hr3; obtain ⟨g3, rfl⟩ : ∃ g, Av3 = some ⟨g, 0, none⟩ := (by obtain ⟨g, e, _⟩ := ho3.cell (j := 0) (by have := Hone.out; omega); exact ⟨g, e⟩); have T3 := hid (And.intro ho3 (below_mod ((Below.refl w3.heap.size w3).alloc (Nat.le_refl _) _) (by rw [World.size_alloc]; omega) hm3 (fun g hg => by obtain ⟨e, _⟩ := hg; omega))); clear ho3 hm3 hr3)
    | (at_builtin; refine wpList_append_ints rfl _ _ rfl (Own.none_ (W4.alloc (.cells #[] 3)) (fun g => W4.heap.size ≤ g) 3 1 (some ⟨W4.heap.size, 0, none⟩)) ((RC.out.below T3.out.2).below ((Below.refl _ _).alloc (Nat.le_refl _) _)) rfl rfl (ints_one _) (by omega) ?_; intro Av4 cv4 W5 ho4 hm4 hr4; obtain ⟨g4, rfl⟩ : ∃ g, Av4 = some ⟨g, 0, none⟩ := (by obtain ⟨g, e, _⟩ := ho4.cell (j := 0) (by have := Hone.out; omega); exact ⟨g, e⟩); have T4 := hid (And.intro ho4 (below_mod ((Below.refl W4.heap.size W4).alloc (Nat.le_refl _) _) (by rw [World.size_alloc]; omega) hm4 (fun g hg => by obtain ⟨e, _⟩ := hg; omega))); clear ho4 hm4 hr4
       obtain ⟨hc3, hf3, hF3, _⟩ := own_cell (T3.out.1.below T4.out.2) (k := k) (by omega)
       have hlt3 := (own_cell T3.out.1 (k := k) (by omega)).2.2.2
       obtain ⟨hc4, hf4, hF4, _⟩ := own_cell T4.out.1 (k := k) (by omega)))
  case inl =>
    rename cv4 = 1 => hcv
    have hnot : normOk L C.tail b' = false := tail_not (by have := Hsm.out.len; exact this) (by have := Hone.out; omega)
    have Hnot := hid hnot
    have Hi1 := hid (fun (x : Int) (hx : x ∈ L) => (by have := Hsm.out.lit x hx; unfold I64; omega : I64 x))
    have Hi2 := hid (fun (x : Int) (hx : x ∈ C.tail) => (by have := Hsm.out.co x (List.mem_of_mem_tail hx); unfold I64; omega : I64 x))
    have B5 := hid (B3.out.trans ((T3.out.2.trans (T4.out.2.mono T3.out.2.size)).mono B3.out.size))
    have RB := hid (T3.out.1.rd.below T4.out.2)
    have RW3 := T4.out.1.rd
    rw [Nat.zero_add] at RB RW3
    have RW2 := hid (rd_tail1 RW3 Hone.out hcv)
    clear hnot RW3
    refine (norm_any RB.out RW2.out Hi1.out Hi2.out (by unfold I64; omega)).mono ?_
    rintro r w6 ⟨⟨pv, rfl, hpv⟩, b6⟩
    rw [normed_not Hnot.out] at hpv ⊢
    have B6 := hid (B5.out.trans (b6.mono B5.out.size))
    obtain ⟨⟨X1, x1, y1, X2, x2, y2, rfl, rx1, _⟩, _⟩ := hpv
    obtain rfl : 0 = x1 := by have := rx1.1; simpa [ints] using this
    clear RB RW2 Hi1 Hi2 Hnot b6 rx1 B5
    go_wp2_with fail
    obtain ⟨X7, hX, bX, k7, sX⟩ := alloc_step w6 (.cells #[.slice X1 0 y1, .slice X2 x2 y2, .int .i64 0] 26)
    rw [hX]
    obtain ⟨Y1, hY, bY, rY1, rY2⟩ := lits_two (w := X7) [1, 2] [16777216, 16777216] (by decide) (by decide) (by decide) (by decide)
    rw [show (X7.alloc (.cells #[.int .i64 1, .int .i64 2] 3)).alloc (.cells #[.int .i64 16777216, .int .i64 16777216] 3) = Y1 from hY]
    rw [show w6.heap.size + 1 + 1 = X7.heap.size + 1 by omega, show w6.heap.size + 1 = X7.heap.size by omega]
    refine (norm_any (F := fun g => g = X7.heap.size) (G := fun g => g = X7.heap.size + 1) (ls := [1, 2]) (ks := [16777216, 16777216]) (b := 16777217) rY1 rY2 (i64s (by decide)) (i64s (by decide)) (by unfold I64; omega)).mono ?_
    rintro r w8 ⟨⟨pv2, rfl, hpv2⟩, b8⟩
    rw [ex7] at hpv2 ⊢
    have bb := (bX.trans (bY.mono bX.size)).trans (b8.mono (by have := bY.size; have := bX.size; omega))
    have B8 := hid (B6.out.trans (bb.mono B6.out.size))
    obtain ⟨⟨P1, p1, q1, P2, p2, q2, rfl, rp1, _⟩, _⟩ := hpv2
    obtain ⟨Z8, hZ8⟩ : ∃ z, w8.heap.size = z := ⟨_, rfl⟩
    clear hX bX k7 sX hY bY rY1 rY2 b8 bb B6 rp1
    go_wp2_with fail
    obtain ⟨X9, hX, bX, k9, sX⟩ := alloc_step w8 (.cells #[.slice P1 p1 q1, .slice P2 p2 q2, .int .i64 0] 26)
    rw [hX]
    obtain ⟨Y2, hY, bY, rY1, rY2⟩ := lits_two (w := X9) [1, 2] [16777216, 16777216] (by decide) (by decide) (by decide) (by decide)
    rw [show (X9.alloc (.cells #[.int .i64 1, .int .i64 2] 3)).alloc (.cells #[.int .i64 16777216, .int .i64 16777216] 3) = Y2 from hY]
    rw [show Z8 + 1 + 1 = X9.heap.size + 1 by omega, show Z8 + 1 = X9.heap.size by omega]
    refine (norm_any (F := fun g => g = X9.heap.size) (G := fun g => g = X9.heap.size + 1) (ls := [1, 2]) (ks := [16777216, 16777216]) (b := 33554433) rY1 rY2 (i64s (by decide)) (i64s (by decide)) (by unfold I64; omega)).mono ?_
    rintro r w10 ⟨⟨pv3, rfl, hpv3⟩, b10⟩
    rw [ex8] at hpv3 ⊢
    have b10' := bY.trans (b10.mono bY.size)
    have bb := bX.trans (b10'.mono bX.size)
    have sb := bb.size
    have B10 := hid (B8.out.trans (bb.mono B8.out.size))
    have k9' := hid (hZ8 ▸ keep_blk k9 b10')
    have hlt8 : Z8 < w10.heap.size := lt_of_block k9'.out
    obtain ⟨⟨S1, s1, u1, S2, s2, u2, rfl, rs1, _⟩, _⟩ := hpv3
    obtain rfl : 0 = s1 := by have := rs1.1; simpa [ints] using this
    obtain ⟨Z10, hZ10⟩ : ∃ z, w10.heap.size = z := ⟨_, rfl⟩
    rw [hZ10] at hlt8
    clear hX bX k9 sX hY bY rY1 rY2 b10 bb B8 rs1 b10' hZ8 sb
    go_wp2_with fail
    obtain ⟨X11, hX, bX, k11, sX⟩ := alloc_step w10 (.cells #[.slice S1 0 u1, .slice S2 s2 u2, .int .i64 1] 26)
    rw [hX]
    obtain ⟨Y3, hY, bY, rY1, rY2⟩ := lits_two (w := X11) [2, 1] [1, 1] (by decide) (by decide) (by decide) (by decide)
    rw [show (X11.alloc (.cells #[.int .i64 2, .int .i64 1] 3)).alloc (.cells #[.int .i64 1, .int .i64 1] 3) = Y3 from hY]
    have hYs : Y3.heap.size = X11.heap.size + 2 := by rw [← hY, World.size_alloc, World.size_alloc]
    obtain ⟨Z11, hZ11⟩ : ∃ z, X11.heap.size = z := ⟨_, rfl⟩
    rw [hZ11] at rY1 rY2 hYs sX
    rw [show Z10 + 1 + 1 + 1 = Z11 + 2 by omega, show Z10 + 1 + 1 = Z11 + 1 by omega, show Z10 + 1 = Z11 by omega]
    obtain ⟨X13, hX3, bX3, k13, sX3⟩ := alloc_step Y3 (.cells #[.slice (some ⟨Z11, 0, none⟩) 2 2, .slice (some ⟨Z11 + 1, 0, none⟩) 2 2, .int .i64 1] 26)
    rw [hX3]
    have hpw : PbRd X13 (fun _ => True) (.agg #[.slice (some ⟨Z11, 0, none⟩) 2 2, .slice (some ⟨Z11 + 1, 0, none⟩) 2 2, .int .i64 1]) ⟨[2, 1], [1, 1], 1⟩ :=
      ⟨⟨_, _, _, _, _, _, rfl, (rY1.mono fun _ _ _ => trivial).below bX3, (rY2.mono fun _ _ _ => trivial).below bX3⟩, by show I64 1; unfold I64; omega⟩
    refine (negate_any hpw (i64s (by decide))).mono ?_
    rintro r w14 ⟨⟨pv4, rfl, hpv4⟩, b14⟩
    rw [bad_neg] at hpv4 ⊢
    obtain ⟨⟨V1, v1, y3, V2, v2, y4, rfl, _, _⟩, _⟩ := hpv4
    have bb := (bX.trans ((bY.trans (bX3.mono (by omega))).mono (by omega))).trans (b14.mono (by omega))
    have B14 := hid (B10.out.trans (bb.mono B10.out.size))
    have k8 := hid (keep_blk k9'.out bb)
    have k10 := hid (hZ10 ▸ keep_blk (keep_blk (keep_blk k11 bY) bX3) b14)
    have k12 := hid (hYs ▸ keep_blk k13 b14)
    have PW := hid (hpw.below b14)
    clear hX bX k11 sX hY bY rY1 rY2 hX3 bX3 k13 sX3 hpw b14 bb B10 k9' hYs hZ11
    obtain ⟨e80, e81, e82⟩ := box3 k8.out
    obtain ⟨e10, e11, e12⟩ := box3 k10.out
    obtain ⟨e20, e21, e22⟩ := box3 k12.out
    have q1 := World.new_ne w14 ⟨Z8, 0, none⟩ e80
    have q2 := World.new_ne w14 ⟨Z10, 0, none⟩ e10
    have q3 := World.new_ne w14 ⟨Z11 + 2, 0, none⟩ e20
    go_wp2_with fail
    obtain ⟨X15, hX, bX, _, sX⟩ := alloc_step w14 (.cells #[.slice V1 v1 y3, .slice V2 v2 y4, .int .i64 0] 26)
    rw [hX]
    refine (valid_any (PW.out.below bX) (i64s (by decide))).mono ?_
    rintro r w16 ⟨rfl, bt⟩
    rw [bad_ok]
    have bb := bX.trans (bt.mono bX.size)
    clear bt bX hX sX q1 q2 q3 e80 e81 e82 e10 e11 e12
    have B16 := hid (B14.out.trans (bb.mono B14.out.size))
    have k12' := hid (keep_blk k12.out bb)
    have PW' := hid (PW.out.below bb)
    clear bb B14 k12 PW e20 e21 e22
    have k12 := k12'
    have PW := PW'
    clear k12' PW'
    obtain ⟨e20, e21, e22⟩ := box3 k12.out
    go_wp2_with fail
    refine (slack_any (av := []) PW.out (i64s (by decide)) (Own.nil w16 (fun _ => True) 37 1).rd).mono ?_
    rintro r w17 ⟨rfl, bt⟩
    rw [bad_slack]
    have B17 := hid (B16.out.trans (bt.mono B16.out.size))
    have k12' := hid (keep_blk k12.out bt)
    have PW' := hid (PW.out.below bt)
    clear bt B16 k12 PW e20 e21 e22
    have k12 := k12'
    have PW := PW'
    clear k12' PW'
    obtain ⟨e20, e21, e22⟩ := box3 k12.out
    go_wp2_with fail
    refine (units_any (av := []) PW.out (i64s (by decide)) (Own.nil w17 (fun _ => True) 37 1).rd).mono ?_
    rintro r w18 ⟨⟨RR, rc, rfl, _⟩, bt⟩
    rw [bad_units]
    have B18 := hid (B17.out.trans (bt.mono B17.out.size))
    have k12' := hid (keep_blk k12.out bt)
    have PW' := hid (PW.out.below bt)
    clear bt B17 k12 PW e20 e21 e22
    have k12 := k12'
    have PW := PW'
    clear k12' PW'
    obtain ⟨e20, e21, e22⟩ := box3 k12.out
    have q3 := World.new_ne w18 ⟨Z11 + 2, 0, none⟩ e20
    go_wp2_with fail
    have o8 := (own_lit8 w18 [1, 1] (by decide) (by decide)).rd
    obtain ⟨X19, hX, bX, _, sX⟩ := alloc_step w18 (.cells #[.int .i8 1, .int .i8 1] 37)
    rw [show w18.alloc (.cells (i8s [1, 1]).toArray 37) = X19 from hX] at o8
    rw [hX]
    refine (holds_any (G := fun g => g = w18.heap.size) (av := [1, 1]) (PW.out.below bX) (i64s (by decide)) o8).mono ?_
    rintro r w20 ⟨rfl, bt⟩
    rw [bad_holds]
    have bb := bX.trans (bt.mono bX.size)
    clear bt bX hX sX o8 q3
    have B20 := hid (B18.out.trans (bb.mono B18.out.size))
    have k12' := hid (keep_blk k12.out bb)
    have PW' := hid (PW.out.below bb)
    clear bb B18 k12 PW e20 e21 e22
    have k12 := k12'
    have PW := PW'
    clear k12' PW'
    obtain ⟨e20, e21, e22⟩ := box3 k12.out
    go_wp2_with fail
    refine (string_any PW.out (i64s (by decide)) (itoa_to w20) (fun hk => by have := (Pb.ok_iff _).2 hk; rw [bad_ok] at this; cases this)).mono ?_
    rintro r w21 ⟨rfl, bt⟩
    rw [bad_text]
    have B21 := hid (B20.out.trans (bt.mono B20.out.size))
    have k12' := hid (keep_blk k12.out bt)
    have PW' := hid (PW.out.below bt)
    clear bt B20 k12 PW e20 e21 e22
    have k12 := k12'
    have PW := PW'
    clear k12' PW'
    obtain ⟨e20, e21, e22⟩ := box3 k12.out
    go_wp2_with fail
    refine awake_any.mono ?_
    rintro r w22 ⟨rfl, bt⟩
    have B22 := hid (B21.out.trans (bt.mono B21.out.size))
    clear bt
    go_wp2_with fail
    go_ret
    exact ⟨rfl, B22.out⟩
  case inr =>
    have hnot : normOk L C.tail b' = false := tail_not (by have := Hsm.out.len; exact this) (by have := Hone.out; omega)
    have Hnot := hid hnot
    have Hi1 := hid (fun (x : Int) (hx : x ∈ L) => (by have := Hsm.out.lit x hx; unfold I64; omega : I64 x))
    have Hi2 := hid (fun (x : Int) (hx : x ∈ C.tail) => (by have := Hsm.out.co x (List.mem_of_mem_tail hx); unfold I64; omega : I64 x))
    have B5 := hid (B3.out.trans ((T3.out.2.trans (T4.out.2.mono T3.out.2.size)).mono B3.out.size))
    have RB := hid (T3.out.1.rd.below T4.out.2)
    have RW3 := T4.out.1.rd
    rw [Nat.zero_add] at RB RW3
    have RW2 := hid (rd_tail RW3 Hone.out)
    clear hnot RW3
    refine (norm_any RB.out RW2.out Hi1.out Hi2.out (by unfold I64; omega)).mono ?_
    rintro r w6 ⟨⟨pv, rfl, hpv⟩, b6⟩
    rw [normed_not Hnot.out] at hpv ⊢
    have B6 := hid (B5.out.trans (b6.mono B5.out.size))
    obtain ⟨⟨X1, x1, y1, X2, x2, y2, rfl, rx1, _⟩, _⟩ := hpv
    obtain rfl : 0 = x1 := by have := rx1.1; simpa [ints] using this
    clear RB RW2 Hi1 Hi2 Hnot b6 rx1 B5
    go_wp2_with fail
    obtain ⟨X7, hX, bX, k7, sX⟩ := alloc_step w6 (.cells #[.slice X1 0 y1, .slice X2 x2 y2, .int .i64 0] 26)
    rw [hX]
    obtain ⟨Y1, hY, bY, rY1, rY2⟩ := lits_two (w := X7) [1, 2] [16777216, 16777216] (by decide) (by decide) (by decide) (by decide)
    rw [show (X7.alloc (.cells #[.int .i64 1, .int .i64 2] 3)).alloc (.cells #[.int .i64 16777216, .int .i64 16777216] 3) = Y1 from hY]
    rw [show w6.heap.size + 1 + 1 = X7.heap.size + 1 by omega, show w6.heap.size + 1 = X7.heap.size by omega]
    refine (norm_any (F := fun g => g = X7.heap.size) (G := fun g => g = X7.heap.size + 1) (ls := [1, 2]) (ks := [16777216, 16777216]) (b := 16777217) rY1 rY2 (i64s (by decide)) (i64s (by decide)) (by unfold I64; omega)).mono ?_
    rintro r w8 ⟨⟨pv2, rfl, hpv2⟩, b8⟩
    rw [ex7] at hpv2 ⊢
    have bb := (bX.trans (bY.mono bX.size)).trans (b8.mono (by have := bY.size; have := bX.size; omega))
    have B8 := hid (B6.out.trans (bb.mono B6.out.size))
    obtain ⟨⟨P1, p1, q1, P2, p2, q2, rfl, rp1, _⟩, _⟩ := hpv2
    obtain ⟨Z8, hZ8⟩ : ∃ z, w8.heap.size = z := ⟨_, rfl⟩
    clear hX bX k7 sX hY bY rY1 rY2 b8 bb B6 rp1
    go_wp2_with fail
    obtain ⟨X9, hX, bX, k9, sX⟩ := alloc_step w8 (.cells #[.slice P1 p1 q1, .slice P2 p2 q2, .int .i64 0] 26)
    rw [hX]
    obtain ⟨Y2, hY, bY, rY1, rY2⟩ := lits_two (w := X9) [1, 2] [16777216, 16777216] (by decide) (by decide) (by decide) (by decide)
    rw [show (X9.alloc (.cells #[.int .i64 1, .int .i64 2] 3)).alloc (.cells #[.int .i64 16777216, .int .i64 16777216] 3) = Y2 from hY]
    rw [show Z8 + 1 + 1 = X9.heap.size + 1 by omega, show Z8 + 1 = X9.heap.size by omega]
    refine (norm_any (F := fun g => g = X9.heap.size) (G := fun g => g = X9.heap.size + 1) (ls := [1, 2]) (ks := [16777216, 16777216]) (b := 33554433) rY1 rY2 (i64s (by decide)) (i64s (by decide)) (by unfold I64; omega)).mono ?_
    rintro r w10 ⟨⟨pv3, rfl, hpv3⟩, b10⟩
    rw [ex8] at hpv3 ⊢
    have b10' := bY.trans (b10.mono bY.size)
    have bb := bX.trans (b10'.mono bX.size)
    have sb := bb.size
    have B10 := hid (B8.out.trans (bb.mono B8.out.size))
    have k9' := hid (hZ8 ▸ keep_blk k9 b10')
    have hlt8 : Z8 < w10.heap.size := lt_of_block k9'.out
    obtain ⟨⟨S1, s1, u1, S2, s2, u2, rfl, rs1, _⟩, _⟩ := hpv3
    obtain rfl : 0 = s1 := by have := rs1.1; simpa [ints] using this
    obtain ⟨Z10, hZ10⟩ : ∃ z, w10.heap.size = z := ⟨_, rfl⟩
    rw [hZ10] at hlt8
    clear hX bX k9 sX hY bY rY1 rY2 b10 bb B8 rs1 b10' hZ8 sb
    go_wp2_with fail
    obtain ⟨X11, hX, bX, k11, sX⟩ := alloc_step w10 (.cells #[.slice S1 0 u1, .slice S2 s2 u2, .int .i64 1] 26)
    rw [hX]
    obtain ⟨Y3, hY, bY, rY1, rY2⟩ := lits_two (w := X11) [2, 1] [1, 1] (by decide) (by decide) (by decide) (by decide)
    rw [show (X11.alloc (.cells #[.int .i64 2, .int .i64 1] 3)).alloc (.cells #[.int .i64 1, .int .i64 1] 3) = Y3 from hY]
    have hYs : Y3.heap.size = X11.heap.size + 2 := by rw [← hY, World.size_alloc, World.size_alloc]
    obtain ⟨Z11, hZ11⟩ : ∃ z, X11.heap.size = z := ⟨_, rfl⟩
    rw [hZ11] at rY1 rY2 hYs sX
    rw [show Z10 + 1 + 1 + 1 = Z11 + 2 by omega, show Z10 + 1 + 1 = Z11 + 1 by omega, show Z10 + 1 = Z11 by omega]
    obtain ⟨X13, hX3, bX3, k13, sX3⟩ := alloc_step Y3 (.cells #[.slice (some ⟨Z11, 0, none⟩) 2 2, .slice (some ⟨Z11 + 1, 0, none⟩) 2 2, .int .i64 1] 26)
    rw [hX3]
    have hpw : PbRd X13 (fun _ => True) (.agg #[.slice (some ⟨Z11, 0, none⟩) 2 2, .slice (some ⟨Z11 + 1, 0, none⟩) 2 2, .int .i64 1]) ⟨[2, 1], [1, 1], 1⟩ :=
      ⟨⟨_, _, _, _, _, _, rfl, (rY1.mono fun _ _ _ => trivial).below bX3, (rY2.mono fun _ _ _ => trivial).below bX3⟩, by show I64 1; unfold I64; omega⟩
    refine (negate_any hpw (i64s (by decide))).mono ?_
    rintro r w14 ⟨⟨pv4, rfl, hpv4⟩, b14⟩
    rw [bad_neg] at hpv4 ⊢
    obtain ⟨⟨V1, v1, y3, V2, v2, y4, rfl, _, _⟩, _⟩ := hpv4
    have bb := (bX.trans ((bY.trans (bX3.mono (by omega))).mono (by omega))).trans (b14.mono (by omega))
    have B14 := hid (B10.out.trans (bb.mono B10.out.size))
    have k8 := hid (keep_blk k9'.out bb)
    have k10 := hid (hZ10 ▸ keep_blk (keep_blk (keep_blk k11 bY) bX3) b14)
    have k12 := hid (hYs ▸ keep_blk k13 b14)
    have PW := hid (hpw.below b14)
    clear hX bX k11 sX hY bY rY1 rY2 hX3 bX3 k13 sX3 hpw b14 bb B10 k9' hYs hZ11
    obtain ⟨e80, e81, e82⟩ := box3 k8.out
    obtain ⟨e10, e11, e12⟩ := box3 k10.out
    obtain ⟨e20, e21, e22⟩ := box3 k12.out
    have q1 := World.new_ne w14 ⟨Z8, 0, none⟩ e80
    have q2 := World.new_ne w14 ⟨Z10, 0, none⟩ e10
    have q3 := World.new_ne w14 ⟨Z11 + 2, 0, none⟩ e20
    go_wp2_with fail
    obtain ⟨X15, hX, bX, _, sX⟩ := alloc_step w14 (.cells #[.slice V1 v1 y3, .slice V2 v2 y4, .int .i64 0] 26)
    rw [hX]
    refine (valid_any (PW.out.below bX) (i64s (by decide))).mono ?_
    rintro r w16 ⟨rfl, bt⟩
    rw [bad_ok]
    have bb := bX.trans (bt.mono bX.size)
    clear bt bX hX sX q1 q2 q3 e80 e81 e82 e10 e11 e12
    have B16 := hid (B14.out.trans (bb.mono B14.out.size))
    have k12' := hid (keep_blk k12.out bb)
    have PW' := hid (PW.out.below bb)
    clear bb B14 k12 PW e20 e21 e22
    have k12 := k12'
    have PW := PW'
    clear k12' PW'
    obtain ⟨e20, e21, e22⟩ := box3 k12.out
    go_wp2_with fail
    refine (slack_any (av := []) PW.out (i64s (by decide)) (Own.nil w16 (fun _ => True) 37 1).rd).mono ?_
    rintro r w17 ⟨rfl, bt⟩
    rw [bad_slack]
    have B17 := hid (B16.out.trans (bt.mono B16.out.size))
    have k12' := hid (keep_blk k12.out bt)
    have PW' := hid (PW.out.below bt)
    clear bt B16 k12 PW e20 e21 e22
    have k12 := k12'
    have PW := PW'
    clear k12' PW'
    obtain ⟨e20, e21, e22⟩ := box3 k12.out
    go_wp2_with fail
    refine (units_any (av := []) PW.out (i64s (by decide)) (Own.nil w17 (fun _ => True) 37 1).rd).mono ?_
    rintro r w18 ⟨⟨RR, rc, rfl, _⟩, bt⟩
    rw [bad_units]
    have B18 := hid (B17.out.trans (bt.mono B17.out.size))
    have k12' := hid (keep_blk k12.out bt)
    have PW' := hid (PW.out.below bt)
    clear bt B17 k12 PW e20 e21 e22
    have k12 := k12'
    have PW := PW'
    clear k12' PW'
    obtain ⟨e20, e21, e22⟩ := box3 k12.out
    have q3 := World.new_ne w18 ⟨Z11 + 2, 0, none⟩ e20
    go_wp2_with fail
    have o8 := (own_lit8 w18 [1, 1] (by decide) (by decide)).rd
    obtain ⟨X19, hX, bX, _, sX⟩ := alloc_step w18 (.cells #[.int .i8 1, .int .i8 1] 37)
    rw [show w18.alloc (.cells (i8s [1, 1]).toArray 37) = X19 from hX] at o8
    rw [hX]
    refine (holds_any (G := fun g => g = w18.heap.size) (av := [1, 1]) (PW.out.below bX) (i64s (by decide)) o8).mono ?_
    rintro r w20 ⟨rfl, bt⟩
    rw [bad_holds]
    have bb := bX.trans (bt.mono bX.size)
    clear bt bX hX sX o8 q3
    have B20 := hid (B18.out.trans (bb.mono B18.out.size))
    have k12' := hid (keep_blk k12.out bb)
    have PW' := hid (PW.out.below bb)
    clear bb B18 k12 PW e20 e21 e22
    have k12 := k12'
    have PW := PW'
    clear k12' PW'
    obtain ⟨e20, e21, e22⟩ := box3 k12.out
    go_wp2_with fail
    refine (string_any PW.out (i64s (by decide)) (itoa_to w20) (fun hk => by have := (Pb.ok_iff _).2 hk; rw [bad_ok] at this; cases this)).mono ?_
    rintro r w21 ⟨rfl, bt⟩
    rw [bad_text]
    have B21 := hid (B20.out.trans (bt.mono B20.out.size))
    have k12' := hid (keep_blk k12.out bt)
    have PW' := hid (PW.out.below bt)
    clear bt B20 k12 PW e20 e21 e22
    have k12 := k12'
    have PW := PW'
    clear k12' PW'
    obtain ⟨e20, e21, e22⟩ := box3 k12.out
    go_wp2_with fail
    refine awake_any.mono ?_
    rintro r w22 ⟨rfl, bt⟩
    have B22 := hid (B21.out.trans (bt.mono B21.out.size))
    clear bt
    go_wp2_with fail
    go_ret
    exact ⟨rfl, B22.out⟩

end Go.Proofs.YtbibjlaepmfoeaaDoor
