/-
  Chapter 25: the walk of CutPigeons (written by gen_pg.py).
-/
import Derived.Test.YtooioikkgdgnnaaDoorLwPgH
namespace Go.Proofs.YtooioikkgdgnnaaDoor
open Go.RowKit

theorem PbRd.one2 (w : World) (F : Nat → Prop) : PbRd w F (.agg #[.slice none 0 0, .slice none 0 0, .int .i64 1]) ⟨[], [], 1⟩ := ⟨⟨none, 0, 0, none, 0, 0, rfl, Rd.empty _ _ _, Rd.empty _ _ _⟩, by unfold I64; decide⟩
theorem at_any {W : World} {K H p h : Nat} {x : Int} (hx : ((1 + p * H + h : Nat) : Int) = x) (hK : W.cell? ⟨K, 0, none⟩ = some (.int .i64 (H : Int))) (hp : p ≤ 7) (hH : H ≤ 7) (hh : h ≤ 7) :
    Calls Tryd.prog 30 #[.int .i64 (p : Int), .int .i64 (h : Int), .pointer (some ⟨K, 0, none⟩)] W fun r w' => r = .returned (.int .i64 x) ∧ W = w' := by
  obtain ⟨q, hq⟩ : ∃ q : Nat, p * H = q := ⟨_, rfl⟩
  have hq2 : q ≤ 49 := by rw [← hq]; exact Nat.mul_le_mul hp hH
  have hw1 : IntKind.i64.wrap ((p : Int) * (H : Int)) = (q : Int) := by rw [← Int.natCast_mul, hq]; exact iw' (by omega) (by omega)
  have hw2 : IntKind.i64.wrap (1 + (q : Int)) = 1 + (q : Int) := iw' (by omega) (by omega)
  have hw3 : IntKind.i64.wrap (1 + (q : Int) + (h : Int)) = x := by rw [iw' (by omega) (by omega), ← hx, hq]; omega
  clear hq hx
  go_enter Tryd.func30, Tryd.ntmps30
  go_wp2_with fail
  go_ret
  simp
theorem rd_lit4 {w : World} {Z : Nat} {x y z t : Value} (k : w.heap[Z]? = some (.cells #[x, y, z, t] 44)) : Rd w (fun g => g = Z) 2 (.slice (some ⟨Z, 0, none⟩) 2 2) 2 [x, y, z, t] := by
  refine ⟨rfl, _, _, rfl, Nat.le_refl _, by decide, fun _ => ⟨Z, 0, rfl, rfl, lt_of_block k, fun j u hj => ?_⟩⟩
  rw [Nat.zero_add, cell_of_row _ _ _ _ _ _ k]
  rw [← hj]
  simp
theorem opg_start (w : World) : Opg w.heap.size (w.alloc (.cells #[.int .u8 1, .int .i64 0] 44)) (some ⟨w.heap.size, 0, none⟩) 1 1 (pgOps 0) :=
  ⟨rfl, own_new w _ 44 2 1 _ 1 _ rfl (by omega) (Nat.le_refl _) (by unfold maxLen; omega) rfl rfl (Nat.le_refl _)⟩
theorem Opg.push2 {w0 : Nat} {W W' : World} {A : Option Addr} {n c : Nat} {os : List Cop} (h : Opg w0 W A n c os) (hw : w0 ≤ W.heap.size) {A' : Option Addr} {c' k k2 : Nat} {z z2 : Int}
    (ho : Own W' (fun b => w0 ≤ b ∨ W.heap.size ≤ b) 44 2 (.slice A' (n + 2) c') (n + 2) (ocells os ++ [.int .u8 k, .int .i64 z, .int .u8 k2, .int .i64 z2])) (hm : Mod (row (.slice A n c)) W W') :
    Opg w0 W' A' (n + 2) c' (os ++ [⟨k, z⟩, ⟨k2, z2⟩]) ∧ Below w0 W W' := by
  refine ⟨⟨by simp [h.1], ?_⟩, below_mod (Below.refl _ _) hw hm fun g hg => (h.2.row hg).1⟩
  have e : ocells (os ++ [⟨k, z⟩, ⟨k2, z2⟩]) = ocells os ++ [.int .u8 k, .int .i64 z, .int .u8 k2, .int .i64 z2] := by simp [ocells]
  rw [e]
  exact ho.mono fun g _ _ hg => hg.elim id fun e => by omega
theorem range_snoc {f : Nat → Pb} (p : Nat) : (List.range (p + 1)).map f = (List.range p).map f ++ [f p] := by rw [List.range_succ, List.map_append]; rfl
theorem pg_x (H p h : Nat) (hp : p ≤ 7) (hH : H ≤ 7) (hh : h ≤ 7) : ∃ x : Int, ((1 + p * H + h : Nat) : Int) = x ∧ 1 ≤ x ∧ x ≤ 57 := by
  have : p * H ≤ 49 := Nat.mul_le_mul hp hH
  exact ⟨_, rfl, by omega, by omega⟩
set_option maxRecDepth 100000 in
set_option maxHeartbeats 8000000 in
theorem pigeons_walk {w : World} {nn : Int} (hnn : 0 ≤ nn ∧ nn ≤ 255) :
    Calls Tryd.prog 10 #[.int .u8 nn] w fun r w' => r = .returned (.bool true) ∧ Below w.heap.size w w' := by
  obtain ⟨H, hH⟩ : ∃ H : Nat, 1 + nn % 6 = (H : Int) := ⟨(1 + nn % 6).toNat, by omega⟩
  have h1 : 1 ≤ H := by omega
  have h6 : H ≤ 6 := by omega
  have P := hid (pg_is h1 h6)
  have hw1 : IntKind.i64.wrap (nn % 6) = nn % 6 := iw' (by omega) (by omega)
  have hw2 : IntKind.i64.wrap (H : Int) = (H : Int) := iw' (by omega) (by omega)
  have hw3 : IntKind.i64.wrap ((H : Int) + 1) = (H : Int) + 1 := iw' (by omega) (by omega)
  obtain ⟨K, hK⟩ : ∃ z, w.heap.size = z := ⟨_, rfl⟩
  go_enter Tryd.func10, Tryd.ntmps10
  go_upto_region 4 with fail
  obtain ⟨W0, hW0, bW, kW, sW⟩ := alloc_step w (.cells #[.int .i64 (H : Int)] 3)
  rw [hW0]
  rw [hK] at kW sW
  have kW := hid kW
  obtain ⟨b0, hb0⟩ : ∃ z, W0.heap.size = z := ⟨_, rfl⟩
  have hbK : b0 = K + 1 := by omega
  have B0 := hid bW
  clear bW sW hW0 hH hnn hw1 hw2 hK
  have c0 := box1 kW.out
  go_wp2_with fail
  go_loopw [26, 5] (fun iv dv W => ∃ (p : Nat) (A : Option Addr) (c : Nat) (ts : List (Value × Value × Value)), p ≤ H + 1 ∧ iv = .int .i64 p ∧ dv = .slice A p c ∧ Hid (Dbg b0 W A p c ts ((List.range p).map (pgDb H))) ∧ Hid (Below b0 W0 W)) (fun iv _ _ => H + 1 - (intOf iv).toNat)
  case atStart => exact ⟨0, none, 0, [], by omega, rfl, rfl, hid (Dbg.nil _ _), hid (Below.refl _ _)⟩
  case round =>
    obtain ⟨p, A, c, ts, hp, rfl, rfl, D, HB⟩ := hrel
    have hwr : b0 ≤ wr.heap.size := by have := HB.out.size; omega
    have kr := hid (keep_blk kW.out (below_eq HB.out hb0))
    clear c0
    have c0 := box1 kr.out
    by_cases hlt : p < H + 1
    · have y1 : (p : Int) < (H : Int) + 1 := by omega
      go_wp2_with fail
      obtain ⟨v0, hv0⟩ : ∃ z, wr.heap.size = z := ⟨_, rfl⟩
      go_loopw [30, 7] (fun iv lv W => ∃ (h : Nat) (A2 : Option Addr) (c2 : Nat), h ≤ H ∧ iv = .int .i64 h ∧ lv = .slice A2 h c2 ∧ Hid (Own W (fun g => v0 ≤ g) 3 1 (.slice A2 h c2) h (ints ((List.range h).map fun i => ((1 + p * H + i : Nat) : Int)))) ∧ Hid (Below v0 wr W)) (fun iv _ _ => H - (intOf iv).toNat)
      case atStart => exact ⟨0, none, 0, by omega, rfl, rfl, hid (Own.nil _ _ _ _), hid (Below.refl _ _)⟩
      case round =>
        obtain ⟨h, A2, c2, hh, rfl, rfl, O, HB2⟩ := hrel
        have c1 := keep_cell c0 (below_eq HB2.out hv0)
        have hvr : v0 ≤ wr.heap.size := by have := HB2.out.size; omega
        by_cases hlt2 : h < H
        · have y2 : (h : Int) < (H : Int) := by omega
          obtain ⟨x, hx, hx1, hx2⟩ := pg_x H p h (by omega) (by omega) (by omega)
          have Hx := hid hx
          clear hx
          have O1 := hid (O.out.below ((Below.refl _ _).alloc (Nat.le_refl _) (.cells #[.int .i64 x] 3)))
          go_wp2_with fail
          refine (at_any Hx.out c1 (by omega) (by omega) (by omega)).mono ?_
          rintro r w' ⟨rfl, rfl⟩
          go_wp2_with (at_builtin; refine wpList_append_ints rfl _ _ rfl O1.out (own_one wr (.int .i64 x)).rd rfl rfl (by simp [Value.oneCell']) (by omega) fun A3 c3 w3 ho3 m3 hr3 => ?_)
          have O3 := hid (ho3.mono (G := fun b => v0 ≤ b) fun g _ _ hg => hg.elim id fun e => by rw [World.size_alloc] at e; omega)
          have B3 := hid (below_mod (below_on HB2.out (by omega) ((Below.refl _ _).alloc (Nat.le_refl _) (.cells #[.int .i64 x] 3))) (by rw [World.size_alloc]; omega) m3 fun g hg => (O1.out.row hg).1)
          have hl : ints ((List.range h).map fun i => ((1 + p * H + i : Nat) : Int)) ++ [.int .i64 x] = ints ((List.range (h + 1)).map fun i => ((1 + p * H + i : Nat) : Int)) := by
            rw [List.range_succ, List.map_append, ints_append, ← Hx.out]; rfl
          rw [hl] at O3
          clear ho3 m3 hr3 hl
          go_roundw
          case rel => exact ⟨h + 1, A3, c3, by omega, by go_num, rfl, O3, B3⟩
          case measure => simp [intOf]; omega
        · have hhH : h = H := by omega
          have y2 : ¬ ((h : Int) < (H : Int)) := by omega
          have hcl : (clauseB ((List.range h).map fun i => ((1 + p * H + i : Nat) : Int))).1 = pgDb H p := by rw [hhH]; exact congrArg Prod.fst (P.out.pg p hlt)
          have hI : ∀ x ∈ (List.range h).map fun i => ((1 + p * H + i : Nat) : Int), I64 x := fun x hx => by
            obtain ⟨i, hi, rfl⟩ := List.mem_map.1 hx
            have hi := List.mem_range.1 hi
            have : p * H ≤ 49 := Nat.mul_le_mul (show p ≤ 7 by omega) (show H ≤ 7 by omega)
            unfold I64; omega
          have hI := hid hI
          have hcl := hid hcl
          have D1 := hid (D.out.below (below_eq HB2.out hv0))
          have HB1 := hid (below_on HB.out (by omega) (below_eq HB2.out hv0))
          have hh6 : h ≤ 1000000 := by omega
          clear c1 hhH hlt2 hh
          go_wp2_with fail
          refine (clause25_any O.out.rd hI.out hh6).mono ?_
          rintro r V2 ⟨⟨Ap, np, cp, Bp, mp, dp, rfl, hp⟩, bb⟩
          rw [hcl.out] at hp ⊢
          obtain ⟨pp, hpp⟩ : ∃ z, pgDb H p = z := ⟨_, rfl⟩
          rw [hpp] at hp ⊢
          have hrow : ∀ g, row (.slice A p c) g → g < wr.heap.size := fun g hg => (D1.out.row hg).2
          have Hp := hid (hp.mono (G := fun g => ¬ row (.slice A p c) g) fun g _ h2 e => by have := hrow g e; omega)
          have D2 := hid (D1.out.below bb)
          have HB2' := hid (below_on HB1.out (by omega) bb)
          have Hpp := hid hpp
          clear hp bb hrow hpp O HB2 D HB D1 HB1 hI hcl kr c0
          obtain ⟨X2, hX2, bX2, k2, s2⟩ := alloc_step V2 (.cells #[.slice Ap np cp, .slice Bp mp dp, .int .i64 pp.bound] 24)
          have D3 := hid (D2.out.below bX2)
          have HB3 := hid (below_on HB2'.out (by omega) bX2)
          have Hp3 := hid (Hp.out.below bX2)
          rw [← hX2] at k2
          have K2 := hid (rd_lit3 k2)
          have HX2 := hid hX2
          have D3' := hid (hX2 ▸ D3.out.own)
          have hk1 : p + 1 ≤ 1000000 := by omega
          clear bX2 k2 s2 hX2
          go_wp2_with (at_builtin; refine wpList_append_pb rfl _ _ rfl D3'.out K2.out rfl rfl (pb_one Hp3.out) hk1 fun A9 c9 V3 ho hm hr => ?_)
          rw [HX2.out] at hm hr ho
          obtain ⟨D4, b4⟩ := D3.out.push (by have := HB3.out.size; omega) (t := (_, _, _)) ho hm hr Hp3.out
          have hB5 := hid (Go.RowKit.Below.trans HB3.out b4)
          have hD5 := hid D4
          clear D4 b4 ho hm hr
          go_roundw
          case rel => exact ⟨p + 1, A9, c9, _, by omega, by go_num, rfl, hid (by have e := hD5.out; rw [← Hpp.out, ← range_snoc] at e; exact e), hB5⟩
          case measure => simp [intOf]; omega
    · have y1 : ¬ ((p : Int) < (H : Int) + 1) := by omega
      have HpH := hid (show p = H + 1 by omega)
      clear hlt hp
      go_wp2_with fail
      go_loopw [48, 5] (fun iv dv W => ∃ (g m : Nat) (A' : Option Addr) (c' : Nat) (ts' : List (Value × Value × Value)), g ≤ H ∧ Hid (m = H + 1 + g) ∧ iv = .int .i64 g ∧ dv = .slice A' m c' ∧ Hid (Dbg b0 W A' m c' ts' ((List.range m).map (pgDb H))) ∧ Hid (Below b0 W0 W)) (fun iv _ _ => H - (intOf iv).toNat)
      case atStart => exact ⟨0, p, A, c, ts, by omega, hid (by rw [HpH.out]), rfl, rfl, D, HB⟩
      case round =>
        clear c0 D HB hwr kr
        obtain ⟨g, m, A', c', ts', hg, Hm, rfl, rfl, D, HB⟩ := hrel
        have hwr : b0 ≤ wr.heap.size := by have := HB.out.size; omega
        have kr := hid (keep_blk kW.out (below_eq HB.out hb0))
        have c0 := box1 kr.out
        have hm6 : m ≤ 13 := by have := Hm.out; omega
        by_cases hlt : g < H
        · have y2 : (g : Int) < (H : Int) := by omega
          go_wp2_with fail
          obtain ⟨v0, hv0⟩ : ∃ z, wr.heap.size = z := ⟨_, rfl⟩
          go_loopw [53, 10, 11] (fun iv lv ov W => ∃ (q : Nat) (A2 : Option Addr) (c2 : Nat) (A3 : Option Addr) (c3 : Nat), q ≤ H + 1 ∧ iv = .int .i64 q ∧ lv = .slice A2 q c2 ∧ ov = .slice A3 q c3 ∧
            Hid (Pr v0 wr W (.slice A2 q c2) (.slice A3 q c3) q q (ints ((List.range q).map fun i => -((1 + i * H + g : Nat) : Int))) (ints (List.replicate q 1)))) (fun iv _ _ _ => H + 1 - (intOf iv).toNat)
          case atStart => exact ⟨0, none, 0, none, 0, by omega, rfl, rfl, rfl, hid (hv0 ▸ Pr.start wr)⟩
          case round =>
            obtain ⟨q, A2, c2, A3, c3, hq, rfl, rfl, rfl, Q⟩ := hrel
            have HB2 := hid Q.out.2.2.2.1
            have c1 := keep_cell c0 (below_eq HB2.out hv0)
            by_cases hlt2 : q < H + 1
            · have y3 : (q : Int) < (H : Int) + 1 := by omega
              obtain ⟨x, hx, hx1, hx2⟩ := pg_x H q g (by omega) (by omega) (by omega)
              have Hx := hid hx
              have hwn : IntKind.i64.wrap (-x) = -x := iw' (by omega) (by omega)
              clear hx
              have Q1 := hid (Q.out.alloc (.cells #[.int .i64 (-x)] 3))
              go_wp2_with fail
              refine (at_any Hx.out c1 (by omega) (by omega) (by omega)).mono ?_
              rintro r w' ⟨rfl, rfl⟩
              go_wp2_with (first
                | (at_builtin; refine wpList_append_ints rfl _ _ rfl Q1.out.1 (own_one wr (.int .i64 (-x))).rd rfl rfl (by simp [Value.oneCell']) (by omega) fun A4 c4 w4 ho4 m4 hr4 => ?_; have Q4 := hid ((Q1.out.push ho4 m4 hr4).alloc (.cells #[.int .i64 1] 3)); clear ho4 m4 hr4)
                | (at_builtin; refine wpList_append_ints rfl _ _ rfl Q4.out.2.1 (own_one w4 (.int .i64 1)).rd rfl rfl (by simp [Value.oneCell']) (by omega) fun A5 c5 w5 ho5 m5 hr5 => ?_; have Q5 := hid (Q4.out.swap.push ho5 m5 hr5).swap; clear ho5 m5 hr5))
              have hl1 : ints ((List.range q).map fun i => -((1 + i * H + g : Nat) : Int)) ++ [.int .i64 (-x)] = ints ((List.range (q + 1)).map fun i => -((1 + i * H + g : Nat) : Int)) := by
                rw [List.range_succ, List.map_append, ints_append, ← Hx.out]; rfl
              have hl2 : ints (List.replicate q 1) ++ [.int .i64 1] = ints (List.replicate (q + 1) 1) := by
                rw [List.replicate_succ', ints_append]; rfl
              rw [hl1, hl2] at Q5
              clear hl1 hl2 Q4 Q1 Q HB2
              go_roundw
              case rel => exact ⟨q + 1, A4, c4, A5, c5, by omega, by go_num, rfl, rfl, Q5⟩
              case measure => simp [intOf]; omega
            · have hqH : q = H + 1 := by omega
              have y3 : ¬ ((q : Int) < (H : Int) + 1) := by omega
              have hcl : (normed ((List.range q).map fun i => -((1 + i * H + g : Nat) : Int)) (List.replicate q 1) (H : Int)).1 = pgDb H m := by rw [hqH, Hm.out]; exact congrArg Prod.fst (P.out.hl g hlt)
              have hI : ∀ x ∈ (List.range q).map fun i => -((1 + i * H + g : Nat) : Int), I64 x := fun x hx => by
                obtain ⟨i, hi, rfl⟩ := List.mem_map.1 hx
                have hi := List.mem_range.1 hi
                have : i * H ≤ 49 := Nat.mul_le_mul (show i ≤ 7 by omega) (show H ≤ 7 by omega)
                unfold I64; omega
              have hI := hid hI
              have hI2 := hid (fun x (hx : x ∈ List.replicate q (1 : Int)) => (show I64 x by rw [(List.mem_replicate.1 hx).2]; unfold I64; omega))
              have hIH := hid (show I64 (H : Int) by unfold I64; omega)
              have hcl := hid hcl
              have D1 := hid (D.out.below (below_eq HB2.out hv0))
              have HB1 := hid (below_on HB.out (by omega) (below_eq HB2.out hv0))
              clear hqH hlt2 hq
              go_wp2_with fail
              refine (norm25_any Q.out.1.rd Q.out.2.1.rd hI.out hI2.out hIH.out).mono ?_
              rintro r V2 ⟨⟨Ap, np, cp, Bp, mp, dp, rfl, hp⟩, bb⟩
              rw [hcl.out] at hp ⊢
              obtain ⟨pp, hpp⟩ : ∃ z, pgDb H m = z := ⟨_, rfl⟩
              rw [hpp] at hp ⊢
              have hrow : ∀ g, row (.slice A' m c') g → g < wr.heap.size := fun g hg => (D1.out.row hg).2
              have Hp := hid (hp.mono (G := fun g => ¬ row (.slice A' m c') g) fun g _ h2 e => by have := hrow g e; omega)
              have D2 := hid (D1.out.below bb)
              have HB2' := hid (below_on HB1.out (by omega) bb)
              have Hpp := hid hpp
              clear hp bb hrow hpp Q HB2 D HB D1 HB1 hI hI2 hIH hcl kr c0 c1
              obtain ⟨X2, hX2, bX2, k2, s2⟩ := alloc_step V2 (.cells #[.slice Ap np cp, .slice Bp mp dp, .int .i64 pp.bound] 24)
              have D3 := hid (D2.out.below bX2)
              have HB3 := hid (below_on HB2'.out (by omega) bX2)
              have Hp3 := hid (Hp.out.below bX2)
              rw [← hX2] at k2
              have K2 := hid (rd_lit3 k2)
              have HX2 := hid hX2
              have D3' := hid (hX2 ▸ D3.out.own)
              have hk1 : m + 1 ≤ 1000000 := by omega
              clear bX2 k2 s2 hX2
              go_wp2_with (at_builtin; refine wpList_append_pb rfl _ _ rfl D3'.out K2.out rfl rfl (pb_one Hp3.out) hk1 fun A9 c9 V3 ho hm hr => ?_)
              rw [HX2.out] at hm hr ho
              obtain ⟨D4, b4⟩ := D3.out.push (by have := HB3.out.size; omega) (t := (_, _, _)) ho hm hr Hp3.out
              have hB5 := hid (Go.RowKit.Below.trans HB3.out b4)
              have hD5 := hid D4
              clear D4 b4 ho hm hr
              go_roundw
              case rel => exact ⟨g + 1, m + 1, A9, c9, _, by omega, hid (by rw [Hm.out]; omega), by go_num, rfl, hid (by have e := hD5.out; rw [← Hpp.out, ← range_snoc] at e; exact e), hB5⟩
              case measure => simp [intOf]; omega
        · have y2 : ¬ ((g : Int) < (H : Int)) := by omega
          have Hm2 := hid (show m = 2 * H + 1 by have := Hm.out; omega)
          clear hlt hg Hm
          go_upto_region 27 with fail
          have O0 := opg_start wr
          obtain ⟨w1, hw1, bw1, _, sw1⟩ := alloc_step wr (.cells #[.int .u8 1, .int .i64 0] 44)
          rw [hw1] at O0 ⊢
          obtain ⟨v1, hv1⟩ : ∃ z, wr.heap.size = z := ⟨_, rfl⟩
          rw [hv1] at O0 sw1 bw1 ⊢
          have bw1 := hid bw1
          have hv1w : v1 ≤ w1.heap.size := by omega
          have hb0v : b0 ≤ v1 := by omega
          have O0 := hid O0
          have HBo := HB
          clear hw1 HB c0
          go_wp2_with fail
          go_loopw [14, 13] (fun iv ov W => ∃ (i o : Nat) (A2 : Option Addr) (c2 : Nat), 1 ≤ i ∧ i ≤ m ∧ Hid (o = 2 * i - 1) ∧ iv = .int .i64 i ∧ ov = .slice A2 o c2 ∧ Hid (Opg v1 W A2 o c2 (pgOps (i - 1))) ∧ Hid (Below v1 w1 W)) (fun iv _ _ => m - (intOf iv).toNat)
          case atStart => exact ⟨1, 1, _, 1, by omega, by have := Hm2.out; omega, hid rfl, rfl, rfl, O0, hid (Below.refl _ _)⟩
          case round =>
            obtain ⟨i, o, A2, c2, hi1, hi, Ho, rfl, rfl, O, HB⟩ := hrel
            have hvr : v1 ≤ wr.heap.size := by have := HB.out.size; omega
            have ho6 : o + 2 ≤ 1000000 := by have := Ho.out; omega
            by_cases hlt : i < m
            · have y3 : (i : Int) < (m : Int) := by omega
              obtain ⟨X2, hX2, bX2, k2, s2⟩ := alloc_step wr (.cells #[.int .u8 1, .int .i64 (i : Int), .int .u8 2, .int .i64 0] 44)
              have O1 := hid (O.out.below bX2)
              have HB3 := hid (HB.out.trans (bX2.mono hvr))
              have HX2 := hid hX2
              rw [← hX2] at k2
              have K2 := hid (rd_lit4 k2)
              have O1' := hid (hX2 ▸ O1.out.2)
              have e := pgOps_succ (i - 1)
              rw [show i - 1 + 1 = i by omega] at e
              have He := hid e
              clear bX2 k2 s2 hX2 e
              go_wp2_with (at_builtin; refine wpList_append_op rfl _ _ rfl O1'.out K2.out rfl rfl (by simp [Value.oneCell']) ho6 fun A9 c9 V3 ho hm hr => ?_)
              rw [HX2.out] at hm ho
              obtain ⟨O4, b4⟩ := O1.out.push2 (k := 1) (z := (i : Int)) (k2 := 2) (z2 := 0) (by have := HB3.out.size; omega) ho hm
              have hO4 := hid (He.out.symm ▸ O4)
              have hB4 := hid (HB3.out.trans b4)
              clear O4 b4 ho hm hr O1 O1' HB3 K2 HX2 He
              go_roundw
              case rel => exact ⟨i + 1, o + 2, A9, c9, by omega, by omega, hid (by have := Ho.out; omega), by go_num, rfl, hO4, hB4⟩
              case measure => simp [intOf]; omega
            · have y3 : ¬ ((i : Int) < (m : Int)) := by omega
              have him : i = m := by omega
              have hrun := pg_run P.out h6 (db := (List.range m).map (pgDb H)) (by rw [Hm2.out])
              have hO := O.out
              rw [him, show m - 1 = 2 * H by have := Hm2.out; omega] at hO
              have hO := hid hO
              have hrun := hid hrun
              have bw2 := hid (below_eq (bw1.out.trans HB.out) hv1)
              have D2 := hid (D.out.below bw2.out)
              have HB2 := hid (below_on HBo.out (by omega) bw2.out)
              have kr2 := hid (keep_blk kr.out bw2.out)
              have hIp := hid (fun p (hp : p ∈ (List.range m).map (pgDb H)) => (show ∀ k ∈ p.coefs, I64 k by
                obtain ⟨j, hj, rfl⟩ := List.mem_map.1 hp
                exact (P.out.one j (by have := List.mem_range.1 hj; have := Hm2.out; omega)).ok.i64))
              clear hlt him O HB D HBo kr bw1 bw2
              go_wp2_with fail
              refine (run_any hO.out.2.rd (hO.out.1.trans (by have := Ho.out; have := Hm2.out; omega)) D2.out.rd hIp.out).mono ?_
              rintro r V ⟨⟨pv, rfl, hp⟩, b⟩
              rw [hrun.out] at hp ⊢
              dsimp only at hp
              have Hp := hid hp
              have D3 := hid (D2.out.below b)
              have HB3 := hid (below_on HB2.out (by omega) b)
              have kr3 := hid (keep_blk kr2.out b)
              obtain ⟨⟨Ap, np, cp, Bp, mp, dp, rfl, hpl, _⟩, _⟩ := hp
              clear b hpl D2 HB2 kr2 hO hrun
              go_upto_region 32 with fail
              obtain ⟨X, hX, bX, kX, sX⟩ := alloc_step V (.cells #[.slice Ap np cp, .slice Bp mp dp, .int .i64 1] 24)
              rw [hX]
              have D4 := hid (D3.out.below bX)
              have HB4 := hid (below_on HB3.out (by omega) bX)
              have Hp4 := hid (Hp.out.below bX)
              have kr4 := hid (keep_blk kr3.out bX)
              obtain ⟨t0, t1, t2⟩ := box3 kX
              clear hX bX kX sX D3 HB3 Hp kr3
              go_wp2_with fail
              refine (equal_any Hp4.out (PbRd.one2 _ (fun _ => True))).mono ?_
              rintro r w2 ⟨rfl, b⟩
              rw [show (⟨[], [], 1⟩ : Pb).same ⟨[], [], 1⟩ = true by decide]
              have D5 := hid (D4.out.below b)
              have HB5 := hid (below_on HB4.out (by omega) b)
              have kr5 := hid (keep_blk kr4.out b)
              clear b t0 t1 t2 D4 HB4 kr4 Hp4
              go_wp2_with fail
              obtain ⟨v2, hv2⟩ : ∃ z, w2.heap.size = z := ⟨_, rfl⟩
              go_loopw [106] (fun iv W => ∃ j : Nat, j ≤ m ∧ iv = .int .i64 j ∧ Hid (Below v2 w2 W)) (fun iv _ => m - (intOf iv).toNat)
              case atStart => exact ⟨0, by omega, rfl, hid (Below.refl _ _)⟩
              case round =>
                obtain ⟨j, hj, rfl, HB6⟩ := hrel
                have hvr2 : v2 ≤ wr.heap.size := by have := HB6.out.size; omega
                by_cases hlt : j < m
                · have y4 : (j : Int) < (m : Int) := by omega
                  have bw := below_eq HB6.out hv2
                  obtain ⟨gd, od, q, A5, n5, c5, A6, n6, c6, rfl, _, _, hpj, e0, e1, e2, hpr⟩ := (D5.out.below bw).rd.cells hlt
                  have hq : q = pgDb H j := by
                    rw [List.getElem?_map, List.getElem?_range hlt] at hpj
                    injection hpj with h
                    exact h.symm
                  obtain ⟨X7, hX7, bX7, k7, s7⟩ := alloc_step wr (.cells #[.slice A5 n5 c5, .slice A6 n6 c6, .int .i64 q.bound] 24)
                  have HX7 := hid hX7
                  have Hp7 := hid (hpr.below bX7)
                  have B7 := hid (HB6.out.trans (bX7.mono hvr2))
                  have c0 := box1 (keep_blk (keep_blk kr5.out bw) bX7)
                  have hqi := hid (hq ▸ (P.out.one j (by have := Hm2.out; omega)).ok.i64 : ∀ k ∈ q.coefs, I64 k)
                  obtain ⟨t0, t1, t2⟩ := box3 k7
                  rw [← hX7] at c0 t0 t1 t2
                  by_cases hH1 : 1 < H
                  · have z1 : (1 : Int) < (H : Int) := by omega
                    have hun := hid (hq ▸ P.out.units j (by have := Hm2.out; omega) hH1 : q.unitsB [] = [])
                    clear bw hpj hq hpr bX7 k7 s7 hX7 hH1
                    go_wp2_with fail
                    rw [HX7.out]
                    refine (units_any Hp7.out hqi.out (⟨rfl, none, 0, rfl, Nat.le_refl _, Nat.zero_le _, fun h => absurd h (by omega)⟩ : Rd X7 (fun _ => True) 1 (.slice none 0 0) 0 (i8s []))).mono ?_
                    rintro r w8 ⟨⟨R8, c8, rfl, _⟩, b8⟩
                    rw [hun.out]
                    have B8 := hid (B7.out.trans (b8.mono (by have := B7.out.size; omega)))
                    clear b8 e0 e1 e2 c0 t0 t1 t2
                    go_wp2_with fail
                    go_roundw
                    case rel => exact ⟨j + 1, by omega, by go_num, B8⟩
                    case measure => simp [intOf]; omega
                  · have z1 : ¬ ((1 : Int) < (H : Int)) := by omega
                    clear bw hpj hq hpr bX7 k7 s7 hX7 hH1
                    go_wp2_with fail
                    rw [HX7.out]
                    go_roundw
                    case rel => exact ⟨j + 1, by omega, by go_num, B7⟩
                    case measure => simp [intOf]; omega
                · have y4 : ¬ ((j : Int) < (m : Int)) := by omega
                  go_wp2_with fail
                  refine awake25_any.mono ?_
                  rintro r w9 ⟨rfl, b9⟩
                  have HB9 := hid (below_on HB5.out (by omega) ((below_eq HB6.out hv2).trans (b9.mono (by omega))))
                  clear b9
                  go_wp2_with fail
                  go_ret
                  exact ⟨rfl, B0.out.trans (HB9.out.mono (by have := B0.out.size; omega))⟩
end Go.Proofs.YtooioikkgdgnnaaDoor
