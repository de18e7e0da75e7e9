/-
  Chapter 25: the walk of CutProof.
-/
import Derived.Test.YtooioikkgdgnnaaDoorLwDb
namespace Go.Proofs.YtooioikkgdgnnaaDoor
open Go.RowKit

set_option maxRecDepth 100000 in
set_option maxHeartbeats 8000000 in
theorem proof_walk {w : World} {F1 F2 F3 F4 : Nat → Prop} {A1 A2 A3 A4 : Option Addr} {n1 n2 n3 n4 c1 c2 c3 c4 : Nat} {ks ns bs : List Int} {lls : List (List Int)}
    (h1 : Rd w F1 1 (.slice A1 n1 c1) n1 (u8s ks)) (hk8 : ∀ y ∈ ks, 0 ≤ y ∧ y ≤ 255) (h2 : Rd w F2 1 (.slice A2 n2 c2) n2 (ints ns)) (h3 : LsRd w F3 A3 n3 c3 lls) (h4 : Rd w F4 1 (.slice A4 n4 c4) n4 (ints bs)) :
    Calls Tryd.prog 7 #[.slice A1 n1 c1, .slice A2 n2 c2, .slice A3 n3 c3, .slice A4 n4 c4] w fun r w' => r = .returned (.bool true) ∧ Below w.heap.size w w' := by
  obtain ⟨m3, hm3⟩ : ∃ m : Nat, m = min n3 6 := ⟨_, rfl⟩
  obtain ⟨m1, hm1⟩ : ∃ m : Nat, m = min n1 30 := ⟨_, rfl⟩
  have e3 : min (n3 : Int) 6 = (m3 : Int) := by omega
  have e1 : min (n1 : Int) 30 = (m1 : Int) := by omega
  have hmn3 : ∀ w, (Builtin.min_ #[3, 3] 3 #[.int .i64 (n3 : Int), .int .i64 6]).run Tryd.prog w = .ok (.int .i64 (m3 : Int)) w := fun w => by rw [← e3]; exact run_min _ _ w
  have hmn1 : ∀ w, (Builtin.min_ #[3, 3] 3 #[.int .i64 (n1 : Int), .int .i64 30]).run Tryd.prog w = .ok (.int .i64 (m1 : Int)) w := fun w => by rw [← e1]; exact run_min _ _ w
  have hs1 := rd_spot h1
  have hs3 : n3 ≤ c3 ∧ (0 < n3 → ∃ g o, A3 = some ⟨g, o, none⟩) := by obtain ⟨rows, hr, _⟩ := h3; exact rd_spot hr
  obtain ⟨B3, hB3, hsl3⟩ := slices_to hs3.2 (show m3 ≤ n3 by omega) hs3.1
  obtain ⟨B1, hB1, hsl1⟩ := slice8_to hs1.2 (show m1 ≤ n1 by omega) hs1.1
  have R3 := hid (h3.to (show m3 ≤ n3 by omega) hB3)
  have R1 := hid (u8s_take ks m1 ▸ rd_to h1 (show m1 ≤ n1 by omega) hB1)
  have R2 := hid h2
  have R4 := hid h4
  have hk8 := hid fun y (hy : y ∈ ks.take m1) => hk8 y (List.mem_of_mem_take hy)
  have hn2 : n2 ≤ 9223372036854775807 := by have := h2.len; unfold maxLen at this; omega
  have hn4 : n4 ≤ 9223372036854775807 := by have := h4.len; unfold maxLen at this; omega
  have b3 : m3 ≤ 6 := by omega
  have b1 : m1 ≤ 30 := by omega
  obtain ⟨w0, hw0⟩ : ∃ z, w.heap.size = z := ⟨_, rfl⟩
  clear h1 h2 h3 h4 hs1 hs3 hB1 hB3 e1 e3 hm1 hm3
  go_enter Tryd.func7, Tryd.ntmps7
  go_wp2_with fail
  have hww : w0 ≤ w.heap.size := by omega
  have hww : w0 ≤ w.heap.size := by omega
  have hww : w0 ≤ w.heap.size := by omega
  have hww : w0 ≤ w.heap.size := by omega
  have hww : w0 ≤ w.heap.size := by omega
  have hww : w0 ≤ w.heap.size := by omega
  have hww : w0 ≤ w.heap.size := by omega
  go_loopw [25, 9] (fun iv dv W => ∃ (x : Nat) (A : Option Addr) (c : Nat) (ts : List (Value × Value × Value)) (db : List Pb), x ≤ m3 ∧ iv = .int .i64 x ∧ dv = .slice A x c ∧ Hid (Dbg w0 W A x c ts db) ∧ Hid (∀ p ∈ db, Sml p) ∧ Hid (Below w0 w W)) (fun iv _ _ => m3 - (intOf iv).toNat)
  case atStart => exact ⟨0, none, 0, [], [], by omega, rfl, rfl, hid (Dbg.nil _ _), hid (fun p hp => absurd hp (by simp)), hid (Below.refl _ _)⟩
  case round =>
    obtain ⟨x, A, c, ts, db, hx, rfl, rfl, D, S, HB⟩ := hrel
    have hsz : w0 ≤ wr.heap.size := by have := HB.out.size; omega
    by_cases hlt : x < m3
    · have x1 : (x : Int) < (m3 : Int) := by omega
      obtain ⟨g, o, l, R, d, rfl, hg, hl, hcl, hrl⟩ := (R3.out.below (hw0 ▸ HB.out)).cells hlt
      by_cases hb4 : x < n4
      · obtain ⟨g4, o4, rfl, _, hg4, hc4⟩ := R4.out.cell.2 x hb4
        have e4 := ((hw0 ▸ HB.out : Below w.heap.size w wr).cell (p := ⟨g4, o4 + x, none⟩) hg4).trans hc4
        obtain ⟨lim, hlim⟩ : ∃ z, nth bs x = z := ⟨_, rfl⟩
        rw [hlim] at e4
        have y1 : (x : Int) < (n4 : Int) := by omega
        clear hc4 hlim
        go_wp2_with fail
        obtain ⟨V1, hW, b, ho⟩ := lit_one (w := wr) [1, 2, 1, 3, 1, 2] (by decide) (by decide)
        rw [show wr.alloc (.cells #[.int .i64 1, .int .i64 2, .int .i64 1, .int .i64 3, .int .i64 1, .int .i64 2] 3) = V1 from hW]
        have D1 := hid (D.out.below b)
        have HB1 := hid (below_on HB.out hww b)
        refine (small25_any (hrl.below b) ho).mono ?_
        rintro r V2 ⟨⟨Ap, np, cp, Bp, mp, dp, rfl, hp⟩, bb⟩
        obtain ⟨p, hp0⟩ : ∃ p, (normed (smL l [1, 2, 1, 3, 1, 2]) (smC l [1, 2, 1, 3, 1, 2]) (Int.tmod lim 41)).1 = p := ⟨_, rfl⟩
        have Sp := hid (hp0 ▸ small_is l [1, 2, 1, 3, 1, 2] lim)
        rw [hp0] at hp ⊢
        have hrow : ∀ g, row (.slice A x c) g → g < V1.heap.size := fun g hg => (D1.out.row hg).2
        have Hp := hid (hp.mono (G := fun g => ¬ row (.slice A x c) g) fun g _ h2 e => by have := hrow g e; omega)
        have D2 := hid (D1.out.below bb)
        have HB2 := hid (below_on HB1.out hww bb)
        obtain ⟨X2, hX2, bX2, k2, s2⟩ := alloc_step V2 (.cells #[.slice Ap np cp, .slice Bp mp dp, .int .i64 p.bound] 24)
        have D3 := hid (D2.out.below bX2)
        have HB3 := hid (below_on HB2.out hww bX2)
        have Hp3 := hid (Hp.out.below bX2)
        rw [← hX2] at k2
        have K2 := hid (rd_lit3 k2)
        have HX2 := hid hX2
        have D3' := hid (hX2 ▸ D3.out.own)
        have hx6 : x + 1 ≤ 1000000 := by omega
        clear hW b ho hp bb hp0 hrow bX2 k2 s2 hX2 hrl hcl hl hg R3 e4
        go_wp2_with (at_builtin; refine wpList_append_pb rfl _ _ rfl D3'.out K2.out rfl rfl (pb_one Hp3.out) hx6 fun A' c' V3 ho hm hr => ?_)
        rw [HX2.out] at hm hr ho
        obtain ⟨D4, b4⟩ := D3.out.push (by have := HB3.out.size; omega) (t := (_, _, _)) ho hm hr Hp3.out
        have hB5 := hid (Go.RowKit.Below.trans HB3.out b4)
        have hD5 := hid D4
        have hS5 := hid (fun q (hq : q ∈ db ++ [p]) => (List.mem_append.1 hq).elim (S.out q) fun e => by rw [List.mem_singleton] at e; rw [e]; exact Sp.out)
        clear D4 b4 ho hm hr
        go_roundw
        case rel => exact ⟨x + 1, A', c', _, _, by omega, by go_num, rfl, hD5, hS5, hB5⟩
        case measure => simp [intOf]; omega
      · have y1 : ¬ ((x : Int) < (n4 : Int)) := by omega
        go_wp2_with fail
        obtain ⟨V1, hW, b, ho⟩ := lit_one (w := wr) [1, 2, 1, 3, 1, 2] (by decide) (by decide)
        rw [show wr.alloc (.cells #[.int .i64 1, .int .i64 2, .int .i64 1, .int .i64 3, .int .i64 1, .int .i64 2] 3) = V1 from hW]
        have D1 := hid (D.out.below b)
        have HB1 := hid (below_on HB.out hww b)
        refine (small25_any (hrl.below b) ho).mono ?_
        rintro r V2 ⟨⟨Ap, np, cp, Bp, mp, dp, rfl, hp⟩, bb⟩
        obtain ⟨p, hp0⟩ : ∃ p, (normed (smL l [1, 2, 1, 3, 1, 2]) (smC l [1, 2, 1, 3, 1, 2]) (Int.tmod 1 41)).1 = p := ⟨_, rfl⟩
        have Sp := hid (hp0 ▸ small_is l [1, 2, 1, 3, 1, 2] 1)
        rw [hp0] at hp ⊢
        have hrow : ∀ g, row (.slice A x c) g → g < V1.heap.size := fun g hg => (D1.out.row hg).2
        have Hp := hid (hp.mono (G := fun g => ¬ row (.slice A x c) g) fun g _ h2 e => by have := hrow g e; omega)
        have D2 := hid (D1.out.below bb)
        have HB2 := hid (below_on HB1.out hww bb)
        obtain ⟨X2, hX2, bX2, k2, s2⟩ := alloc_step V2 (.cells #[.slice Ap np cp, .slice Bp mp dp, .int .i64 p.bound] 24)
        have D3 := hid (D2.out.below bX2)
        have HB3 := hid (below_on HB2.out hww bX2)
        have Hp3 := hid (Hp.out.below bX2)
        rw [← hX2] at k2
        have K2 := hid (rd_lit3 k2)
        have HX2 := hid hX2
        have D3' := hid (hX2 ▸ D3.out.own)
        have hx6 : x + 1 ≤ 1000000 := by omega
        clear hW b ho hp bb hp0 hrow bX2 k2 s2 hX2 hrl hcl hl hg R3 
        go_wp2_with (at_builtin; refine wpList_append_pb rfl _ _ rfl D3'.out K2.out rfl rfl (pb_one Hp3.out) hx6 fun A' c' V3 ho hm hr => ?_)
        rw [HX2.out] at hm hr ho
        obtain ⟨D4, b4⟩ := D3.out.push (by have := HB3.out.size; omega) (t := (_, _, _)) ho hm hr Hp3.out
        have hB5 := hid (Go.RowKit.Below.trans HB3.out b4)
        have hD5 := hid D4
        have hS5 := hid (fun q (hq : q ∈ db ++ [p]) => (List.mem_append.1 hq).elim (S.out q) fun e => by rw [List.mem_singleton] at e; rw [e]; exact Sp.out)
        clear D4 b4 ho hm hr
        go_roundw
        case rel => exact ⟨x + 1, A', c', _, _, by omega, by go_num, rfl, hD5, hS5, hB5⟩
        case measure => simp [intOf]; omega
    · have x1 : ¬ ((x : Int) < (m3 : Int)) := by omega
      have hx6 : x ≤ 6 := by omega
      clear hlt hx R3 R4 hsl3
      go_wp2_with fail
      obtain ⟨v0, hv0⟩ : ∃ z, wr.heap.size = z := ⟨_, rfl⟩
      have R1 := hid (R1.out.below (hw0 ▸ HB.out))
      have R2 := hid (R2.out.below (hw0 ▸ HB.out))
      go_loopw [52, 13] (fun iv dv W => ∃ (y : Nat) (A' : Option Addr) (c' : Nat) (os : List Cop), y ≤ m1 ∧ iv = .int .i64 y ∧ dv = .slice A' y c' ∧ Hid (Opg v0 W A' y c' os) ∧ Hid (Below v0 wr W)) (fun iv _ _ => m1 - (intOf iv).toNat)
      case atStart => exact ⟨0, none, 0, [], by omega, rfl, rfl, hid (Opg.nil _ _), hid (Below.refl _ _)⟩
      case round =>
        obtain ⟨y, A', c', os, hy, rfl, rfl, O, HB2⟩ := hrel
        have hvw : v0 ≤ wr.heap.size := by have := HB2.out.size; omega
        by_cases hlt : y < m1
        · have x1 : (y : Int) < (m1 : Int) := by omega
          obtain ⟨g, o, rfl, _, hg, hc⟩ := (R1.out.below (below_eq HB2.out hv0)).cellu8.2 y hlt
          have hkr := hk8.out _ (nth_mem (show y < (ks.take m1).length by rw [R1.out.cellu8.1]; exact hlt))
          obtain ⟨k, hk⟩ : ∃ z, nth (ks.take m1) y = z := ⟨_, rfl⟩
          rw [hk] at hc hkr
          clear hk
          obtain ⟨kd, hkd⟩ : ∃ n : Nat, 1 + k % 5 = (n : Int) := ⟨(1 + k % 5).toNat, by omega⟩
          go_upto_region 15 with fail
          try rw [hkd]
          clear hkd
          obtain ⟨X, hX, bX, kX, sX⟩ := alloc_step wr (.cells #[.int .u8 (kd : Int), .int .i64 0] 44)
          rw [hX]
          obtain ⟨Z, hZ⟩ : ∃ z, wr.heap.size = z := ⟨_, rfl⟩
          rw [hZ] at kX sX
          try rw [hZ]
          have O4 := hid (O.out.below bX)
          have HB4 := hid (below_on HB2.out (by omega) bX)
          have hZr : ¬ row (.slice A' y c') Z := fun e => by
            obtain ⟨_, cur, h2⟩ := O.out.2.row e
            have := lt_of_block h2
            omega
          have hZr := hid hZr
          have hZv : v0 ≤ Z := by omega
          have hvX : v0 ≤ X.heap.size := by omega
          obtain ⟨t0, t1⟩ := box2c kX
          obtain ⟨_, f1⟩ := froz2c kX
          clear hX bX kX sX hc hg
          by_cases hb2 : y < n2
          · have y1 : (y : Int) < (n2 : Int) := by omega
            by_cases hk2 : (kd : Int) = 2
            · obtain rfl : kd = 2 := by omega
              clear hk2
              go_upto_region 17 with fail
              have O5 := O4
              have HB5 := HB4
              obtain ⟨X2, hX2, bX2, k2, s2⟩ := alloc_step X (.cells #[.int .u8 2, .int .i64 0] 44)
              have O6 := hid (O5.out.below bX2)
              have HB6 := hid (below_on HB5.out (by omega) bX2)
              rw [← hX2] at k2
              have K2 := hid (rd_lit2 k2)
              have HX2 := hid hX2
              have O6' := hid (hX2 ▸ O6.out.2)
              have hx6 : y + 1 ≤ 1000000 := by omega
              clear bX2 k2 s2 hX2 O R1 R2 hsl1
              go_wp2_with (at_builtin; refine wpList_append_op rfl _ _ rfl O6'.out K2.out rfl rfl (by simp [Value.oneCell']) hx6 fun A'' c'' V3 ho hm hr => ?_)
              rw [HX2.out] at hm ho
              obtain ⟨O7, b7⟩ := O6.out.push (by have := HB6.out.size; omega) ho hm
              have hO7 := hid O7
              have hB7 := hid (Go.RowKit.Below.trans HB6.out b7)
              clear O7 b7 ho hm hr
              go_roundw
              case rel => exact ⟨y + 1, A'', c'', _, by omega, by go_num, rfl, hO7, hB7⟩
              case measure => simp [intOf]; omega
            · obtain ⟨g2, o2, rfl, _, hg2, hc2⟩ := (R2.out.below (below_eq HB4.out hv0)).cell.2 y hb2
              obtain ⟨z, hz⟩ : ∃ z, nth ns y = z := ⟨_, rfl⟩
              rw [hz] at hc2
              clear hz hg2
              go_upto_region 17 with fail
              obtain ⟨u0, u1, m⟩ := set_snd t0 t1 (.int .i64 z)
              have O5 := hid (O4.out.mod m fun g e => by have e : g = Z := e; subst e; exact hZr.out)
              have HB5 := hid (below_mod HB4.out hvX m fun g e => by have e : g = Z := e; omega)
              have hY := hid m.size
              clear t0 t1 f1 m hc2
              obtain ⟨Y, hYe⟩ : ∃ Y, X.setCell ⟨Z, 1, none⟩ (.int .i64 z) = Y := ⟨_, rfl⟩
              rw [hYe] at u0 u1 O5 HB5 hY ⊢
              have hvY : v0 ≤ Y.heap.size := by have := hY.out; omega
              clear hYe
              obtain ⟨X2, hX2, bX2, k2, s2⟩ := alloc_step Y (.cells #[.int .u8 (kd : Int), .int .i64 z] 44)
              have O6 := hid (O5.out.below bX2)
              have HB6 := hid (below_on HB5.out (by omega) bX2)
              rw [← hX2] at k2
              have K2 := hid (rd_lit2 k2)
              have HX2 := hid hX2
              have O6' := hid (hX2 ▸ O6.out.2)
              have hx6 : y + 1 ≤ 1000000 := by omega
              clear bX2 k2 s2 hX2 O R1 R2 hsl1
              go_wp2_with (at_builtin; refine wpList_append_op rfl _ _ rfl O6'.out K2.out rfl rfl (by simp [Value.oneCell']) hx6 fun A'' c'' V3 ho hm hr => ?_)
              rw [HX2.out] at hm ho
              obtain ⟨O7, b7⟩ := O6.out.push (by have := HB6.out.size; omega) ho hm
              have hO7 := hid O7
              have hB7 := hid (Go.RowKit.Below.trans HB6.out b7)
              clear O7 b7 ho hm hr
              go_roundw
              case rel => exact ⟨y + 1, A'', c'', _, by omega, by go_num, rfl, hO7, hB7⟩
              case measure => simp [intOf]; omega
          · have y1 : ¬ ((y : Int) < (n2 : Int)) := by omega
            go_upto_region 17 with fail
            have O5 := O4
            have HB5 := HB4
            obtain ⟨X2, hX2, bX2, k2, s2⟩ := alloc_step X (.cells #[.int .u8 (kd : Int), .int .i64 0] 44)
            have O6 := hid (O5.out.below bX2)
            have HB6 := hid (below_on HB5.out (by omega) bX2)
            rw [← hX2] at k2
            have K2 := hid (rd_lit2 k2)
            have HX2 := hid hX2
            have O6' := hid (hX2 ▸ O6.out.2)
            have hx6 : y + 1 ≤ 1000000 := by omega
            clear bX2 k2 s2 hX2 O R1 R2 hsl1
            go_wp2_with (at_builtin; refine wpList_append_op rfl _ _ rfl O6'.out K2.out rfl rfl (by simp [Value.oneCell']) hx6 fun A'' c'' V3 ho hm hr => ?_)
            rw [HX2.out] at hm ho
            obtain ⟨O7, b7⟩ := O6.out.push (by have := HB6.out.size; omega) ho hm
            have hO7 := hid O7
            have hB7 := hid (Go.RowKit.Below.trans HB6.out b7)
            clear O7 b7 ho hm hr
            go_roundw
            case rel => exact ⟨y + 1, A'', c'', _, by omega, by go_num, rfl, hO7, hB7⟩
            case measure => simp [intOf]; omega
        · have x2 : ¬ ((y : Int) < (m1 : Int)) := by omega
          clear hlt hy R1 R2 hsl1
          have D5 := hid (D.out.below (below_eq HB2.out hv0))
          have HB5 := hid (below_on HB.out hww (below_eq HB2.out hv0))
          go_wp2_with fail
          refine (run_any O.out.2.rd O.out.1 D5.out.rd (fun p hp => (S.out p hp).o.ok.i64)).mono ?_
          rintro r V ⟨⟨pv, rfl, hp⟩, b⟩
          have hsnd := fun he => run_sound (ops := os) (db := db) (fun p hp => (S.out p hp).o) he
          have herr := fun he => run_err (ops := os) (db := db) he
          obtain ⟨R, hR⟩ : ∃ R, runB os db = R := ⟨_, rfl⟩
          rw [hR] at hp hsnd herr ⊢
          have D6 := hid (D5.out.below b)
          have HB6 := hid (below_on HB5.out hww b)
          have Hp := hid hp
          obtain ⟨⟨Ap, np, cp, Bp, mp, dp, rfl, hpl, _⟩, _⟩ := hp
          clear hR b O HB2 D HB hmn3 hmn1
          by_cases hz : R.2 = 0
          · obtain ⟨hO, hi⟩ := hsnd hz
            have hI := hid (implB_true hO.ok hi)
            have hO := hid hO
            rw [hz]
            clear hsnd herr hi hz hpl
            go_upto_region 20 with fail
            obtain ⟨X, hX, bX, kX, sX⟩ := alloc_step V (.cells #[.slice Ap np cp, .slice Bp mp dp, .int .i64 R.1.bound] 24)
            rw [hX]
            have D7 := hid (D6.out.below bX)
            have HB7 := hid (below_on HB6.out hww bX)
            have Hp7 := hid (Hp.out.below bX)
            obtain ⟨t0, t1, t2⟩ := box3 kX
            clear hX bX kX sX
            go_wp2_with fail
            refine (implied_any Hp7.out hO.out.ok.i64 D7.out.rd (fun p hp => (S.out p hp).o.ok.i64)).mono ?_
            rintro r V2 ⟨rfl, b⟩
            rw [hI.out]
            have HB8 := hid (below_on HB7.out hww b)
            clear b t0 t1 t2
            go_wp2_with fail
            refine awake25_any.mono ?_
            rintro r V3 ⟨rfl, b⟩
            have HB9 := hid (below_on HB8.out hww b)
            clear b
            go_wp2_with fail
            go_ret
            exact ⟨rfl, hw0.symm ▸ HB9.out⟩
          · have hnil := herr hz
            have hnp : np = 0 := by
              have := hpl.cell.1
              rw [hnil] at this
              exact this.symm
            have hbd : R.1.bound = 0 := by rw [hnil]; rfl
            subst hnp
            rw [hbd]
            obtain ⟨e, he⟩ : ∃ e, R.2 = e := ⟨_, rfl⟩
            rw [he] at hz ⊢
            clear hsnd herr hnil hpl hbd he
            go_upto_region 20 with fail
            obtain ⟨X, hX, bX, kX, sX⟩ := alloc_step V (.cells #[.slice Ap 0 cp, .slice Bp mp dp, .int .i64 0] 24)
            rw [hX]
            have HB7 := hid (below_on HB6.out hww bX)
            obtain ⟨t0, t1, t2⟩ := box3 kX
            clear hX bX kX sX
            go_wp2_with fail
            refine awake25_any.mono ?_
            rintro r V3 ⟨rfl, b⟩
            have HB9 := hid (below_on HB7.out hww b)
            clear b t0 t1 t2
            go_wp2_with fail
            go_ret
            exact ⟨rfl, hw0.symm ▸ HB9.out⟩
/-- The walk, of any arguments. -/
theorem proof_walk2 {w : World} {F1 F2 F3 F4 : Nat → Prop} {v1 v2 v3 v4 : Value} {A3 : Option Addr} {n1 n2 n3 n4 c3 : Nat} {ks ns bs : List Int} {lls : List (List Int)}
    (h1 : Rd w F1 1 v1 n1 (u8s ks)) (hk8 : ∀ y ∈ ks, 0 ≤ y ∧ y ≤ 255) (h2 : Rd w F2 1 v2 n2 (ints ns)) (h3 : LsRd w F3 A3 n3 c3 lls) (hv3 : v3 = .slice A3 n3 c3) (h4 : Rd w F4 1 v4 n4 (ints bs)) :
    Calls Tryd.prog 7 #[v1, v2, v3, v4] w fun r w' => r = .returned (.bool true) ∧ Below w.heap.size w w' := by
  obtain ⟨A1, c1, rfl⟩ : ∃ A c, v1 = .slice A n1 c := by obtain ⟨_, A, c, h, _⟩ := h1; exact ⟨A, c, h⟩
  obtain ⟨A2, c2, rfl⟩ : ∃ A c, v2 = .slice A n2 c := by obtain ⟨_, A, c, h, _⟩ := h2; exact ⟨A, c, h⟩
  obtain ⟨A4, c4, rfl⟩ : ∃ A c, v4 = .slice A n4 c := by obtain ⟨_, A, c, h, _⟩ := h4; exact ⟨A, c, h⟩
  subst hv3
  exact proof_walk h1 hk8 h2 h3 h4
end Go.Proofs.YtooioikkgdgnnaaDoor
