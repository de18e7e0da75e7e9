/-
  Chapter 32: SearchLazy parts the constraints into those given and those withheld.
-/
import Derived.Test.YtcjmpobccbnpkaaGreatSgQ
namespace Go.Proofs.YtcjmpobccbnpkaaGreat
open Go.RowKit

theorem StsRd.mod {w w' : World} {F G H : Nat → Prop} {A : Option Addr} {n c : Nat} {ss : List Stp} (h : StsRd w F G A n c ss) (hm : Mod H w w') (hF : ∀ g, g < w.heap.size → F g → ¬ H g) (hG : ∀ g, g < w.heap.size → G g → ¬ H g) : StsRd w' F G A n c ss := by
  obtain ⟨ts, h1, h2, h3⟩ := h
  exact ⟨ts, h1.mod hm hF, h2.mod hm hG, h3⟩
section
variable {w0 hb : Nat} {G : Nat → Prop} {W W' : World}
theorem Dbg.mod {A : Option Addr} {n c : Nat} {ts : List (Value × Value × Value)} {s : List Pb} {F : Nat → Prop} (h : Dbg w0 G W A n c ts s) (hm : Mod F W W') (hF : ∀ g, Go.Proofs.YtcjmpobccbnpkaaGreat.row (.slice A n c) g → ¬ F g) (hG : ∀ g, G g → ¬ F g) : Dbg w0 G W' A n c ts s :=
  ⟨h.len, h.own.mod hm fun g _ hr _ => hF g hr, h.ps.mod hm fun g _ h2 => hG g h2.1⟩
/-- The two lists while they grow: those given, those withheld (their slice lies in the box hb). -/
structure Split2 (w0 : Nat) (G : Nat → Prop) (hb : Nat) (W : World) (Xo : Option Addr) (no co : Nat) (os : List Pb) (Xh : Option Addr) (nh ch : Nat) (hs : List Pb) : Prop where
  low : ∀ g, G g → g < w0
  w0b : w0 ≤ hb
  fo : ∃ ts, Dbg w0 G W Xo no co ts os
  fh : ∃ ts, Dbg w0 G W Xh nh ch ts hs
  ap : ∀ g, row (.slice Xo no co) g → ¬ row (.slice Xh nh ch) g
  rob : ∀ g, row (.slice Xo no co) g → g ≠ hb
  rhb : ∀ g, row (.slice Xh nh ch) g → g ≠ hb
  box : W.heap[hb]? = some (.cells #[.slice Xh nh ch] 45)
variable {Xo Xh : Option Addr} {no co nh ch : Nat} {os hs : List Pb}
theorem Split2.below (h : Split2 w0 G hb W Xo no co os Xh nh ch hs) (b : Below W.heap.size W W') : Split2 w0 G hb W' Xo no co os Xh nh ch hs := by
  obtain ⟨ts, ho⟩ := h.fo
  obtain ⟨us, hh⟩ := h.fh
  exact ⟨h.low, h.w0b, ⟨ts, ho.below b⟩, ⟨us, hh.below b⟩, h.ap, h.rob, h.rhb, keep_blk h.box b⟩
theorem Split2.size (h : Split2 w0 G hb W Xo no co os Xh nh ch hs) : w0 < W.heap.size := by
  have := lt_of_block h.box
  have := h.w0b
  omega
theorem Split2.push_o (h : Split2 w0 G hb W Xo no co os Xh nh ch hs) {ts : List (Value × Value × Value)} (D : Dbg w0 G W Xo no co ts os) {A' : Option Addr} {c' : Nat} {t : Value × Value × Value} {p : Pb} (ho : Own W' (fun b => w0 ≤ b ∨ W.heap.size ≤ b) 41 3 (.slice A' (no + 1) c') (no + 1) (flat3 ts ++ [t.1, t.2.1, t.2.2]))
    (hm : Mod (row (.slice Xo no co)) W W') (hr : ∀ b, row (.slice A' (no + 1) c') b → row (.slice Xo no co) b ∨ W.heap.size ≤ b) (hp : PbRd W G (agg3 t) p) : Split2 w0 G hb W' A' (no + 1) c' (os ++ [p]) Xh nh ch hs ∧ Below w0 W W' := by
  have hsz := h.size
  obtain ⟨us, Dh⟩ := h.fh
  obtain ⟨D2, b2⟩ := D.push (by omega) ho hm hr (hp.mono fun g _ hg => ⟨hg, fun e => by have := (D.row e).1; have := h.low g hg; omega⟩)
  refine ⟨⟨h.low, h.w0b, ⟨_, D2⟩, ⟨us, Dh.mod hm (fun g hg ho => h.ap g ho hg) fun g hg e => by have := (D.row e).1; have := h.low g hg; omega⟩, fun g hg hh => ?_, fun g hg => ?_, h.rhb, ?_⟩, b2⟩
  · rcases hr g hg with e | e
    · exact h.ap g e hh
    · have := (Dh.row hh).2; omega
  · rcases hr g hg with e | e
    · exact h.rob g e
    · have := lt_of_block h.box; omega
  · exact (hm.block hb (lt_of_block h.box) fun e => h.rob hb e rfl).trans h.box
theorem Split2.push_h (h : Split2 w0 G hb W Xo no co os Xh nh ch hs) {ts : List (Value × Value × Value)} (D : Dbg w0 G W Xh nh ch ts hs) {A' : Option Addr} {c' : Nat} {t : Value × Value × Value} {p : Pb} (ho : Own W' (fun b => w0 ≤ b ∨ W.heap.size ≤ b) 41 3 (.slice A' (nh + 1) c') (nh + 1) (flat3 ts ++ [t.1, t.2.1, t.2.2]))
    (hm : Mod (row (.slice Xh nh ch)) W W') (hr : ∀ b, row (.slice A' (nh + 1) c') b → row (.slice Xh nh ch) b ∨ W.heap.size ≤ b) (hp : PbRd W G (agg3 t) p) : Split2 w0 G hb (W'.setCell ⟨hb, 0, none⟩ (.slice A' (nh + 1) c')) Xo no co os A' (nh + 1) c' (hs ++ [p]) ∧ Below w0 W (W'.setCell ⟨hb, 0, none⟩ (.slice A' (nh + 1) c')) := by
  have hsz := h.size
  obtain ⟨us, Do⟩ := h.fo
  obtain ⟨D2, b2⟩ := D.push (by omega) ho hm hr (hp.mono fun g _ hg => ⟨hg, fun e => by have := (D.row e).1; have := h.low g hg; omega⟩)
  have hbox : W'.heap[hb]? = some (.cells #[.slice Xh nh ch] 45) := (hm.block hb (lt_of_block h.box) fun e => h.rhb hb e rfl).trans h.box
  have hm2 : Mod (fun g => g = hb) W' (W'.setCell ⟨hb, 0, none⟩ (.slice A' (nh + 1) c')) := Mod.setCell (p := ⟨hb, 0, none⟩) (Mod.refl (fun g => g = hb) W') (.inl rfl) _
  have hw0b := h.w0b
  have hh2 : ∀ g, row (.slice A' (nh + 1) c') g → g ≠ hb := fun g hg => by
    rcases hr g hg with e | e
    · exact h.rhb g e
    · have := lt_of_block h.box; omega
  refine ⟨⟨h.low, h.w0b, ⟨us, (Do.mod hm (fun g hg hh => h.ap g hg hh) fun g hg e => by have := (D.row e).1; have := h.low g hg; omega).mod hm2 (fun g hg => h.rob g hg) fun g hg e => by have := h.low g hg; omega⟩, ⟨_, D2.mod hm2 hh2 fun g hg e => by have := h.low g hg; omega⟩, fun g hg hh => ?_, h.rob, hh2, one_set' hbox _⟩, b2.setCell hw0b _⟩
  rcases hr g hh with e | e
  · exact h.ap g hg e
  · have := (Do.row hg).2; omega
end
set_option maxRecDepth 100000 in
set_option maxHeartbeats 8000000 in
theorem lazy_walk {w : World} {A B C : Option Addr} {n cA m cB q cC : Nat} {lls kks : List (List Int)} {bs : List Int} {Dds : Option Addr} {dds cDds : Nat} {ds : List Int} {hide : Int} (hl : LsRd w (fun _ => True) A n cA lls) (hk : LsRd w (fun _ => True) B m cB kks) (hb : Rd w (fun _ => True) 1 (.slice C q cC) q (ints bs)) (hds : Rd w (fun _ => True) 1 (.slice Dds dds cDds) dds (ints ds)) (_hhd : 0 ≤ hide ∧ hide < 4294967296) :
    Calls Tryz.prog 4 #[.slice A n cA, .slice B m cB, .slice C q cC, .slice Dds dds cDds, .int .u32 hide] w fun r w' => r = .returned (.bool true) ∧ Below w.heap.size w w' := by
  have Hds := hid (hds.mono (G := fun g => g < w.heap.size) fun g hg _ => hg)
  have Hsm := hid (small32_any hl hk hb)
  clear hl hk hb hds
  go_enter Tryz.func4, Tryz.ntmps4
  go_wp2_with fail
  refine Hsm.out.mono ?_
  rintro r w1 ⟨⟨A1, n1, c1, ts1, rfl, hD⟩, b1⟩
  have hok1 : OkN 7 (small7 lls kks bs (min lls.length 24)) := fun p hp => small7_mem hp
  have hle1 := small7_len lls kks bs (min lls.length 24)
  obtain ⟨ps, hps⟩ : ∃ ps, small7 lls kks bs (min lls.length 24) = ps := ⟨_, rfl⟩
  rw [hps] at hD hok1 hle1
  have hn1 : n1 ≤ 24 := by rw [← hD.len]; omega
  have Hok := hid hok1
  have Hi64 := hid (fun p hp => (Hok.out p hp).1.i64)
  have HD := hid (hD.rd.mono (F' := fun g => w.heap.size ≤ g ∧ g < w1.heap.size) (G' := fun g => w.heap.size ≤ g ∧ g < w1.heap.size) (fun g hg h => ⟨h, hg⟩) fun g hg h => ⟨h, hg⟩)
  have Hlen := hid (show ps.length = n1 from hD.len)
  have B1 := hid b1
  have hw1 := b1.size
  have Hds := hid ((Hds.out.below b1).mono (G := fun g => g < w1.heap.size) fun g _ hg => by omega)
  clear hok1 hle1 hps hD b1 Hsm
  go_wp2_with fail
  refine (lits7_any Hds.out).mono ?_
  rintro r w2 ⟨⟨A2, c2, rfl, h2⟩, b2⟩
  have hlt := lits7B_ok (l := ds)
  obtain ⟨qs, has⟩ : ∃ qs, lits7B ds = qs := ⟨_, rfl⟩
  rw [has] at hlt h2 ⊢
  obtain ⟨na, hna⟩ : ∃ k, qs.length = k := ⟨_, rfl⟩
  rw [hna] at hlt h2 ⊢
  have Has := hid hlt
  have HA := hid (h2.mono (G := fun g => w1.heap.size ≤ g ∧ g < w2.heap.size) fun g hg h => ⟨h, hg⟩)
  have HD := hid (HD.out.below b2)
  have B2 := hid (B1.out.trans (b2.mono B1.out.size))
  have hw2 := B2.out.size
  have hw12 := b2.size
  clear hlt h2 b2 Hds has hna B1
  obtain ⟨V0, hV, bV, kV, sV⟩ := alloc_step w2 (.cells #[.slice none 0 0] 45)
  obtain ⟨zb, hzb⟩ : ∃ z, w2.heap.size = z := ⟨_, rfl⟩
  rw [hzb] at kV
  have HV := hid hV
  have HS := hid (show Split2 zb (fun g => w.heap.size ≤ g ∧ g < w1.heap.size) zb V0 none 0 0 [] none 0 0 [] from ⟨fun g hg => by omega, Nat.le_refl _, ⟨_, Dbg.nil _ _ _⟩, ⟨_, Dbg.nil _ _ _⟩, fun g h => h.elim, fun g h => h.elim, fun g h => h.elim, kV⟩)
  have BV := hid bV
  have hsV := bV.size
  clear hV bV kV
  go_wp2_with fail
  try rw [hzb]
  rw [HV.out]
  have Hzb := hid hzb
  clear hzb sV hsV HV
  go_loopw [13, 32] (fun ov iv W => ∃ (k no co nh ch : Nat) (Xo Xh : Option Addr) (os hs : List Pb), k ≤ n1 ∧ no ≤ k ∧ nh ≤ k ∧ ov = .slice Xo no co ∧ iv = .int .i64 k ∧ Hid (Split2 zb (fun g => w.heap.size ≤ g ∧ g < w1.heap.size) zb W Xo no co os Xh nh ch hs) ∧ Hid (∀ p, p ∈ ps.take k ↔ p ∈ os ∨ p ∈ hs) ∧ Hid (Below w2.heap.size w2 W)) (fun _ iv _ => n1 - (intOf iv).toNat)
  case atStart => exact ⟨0, 0, 0, 0, 0, none, none, [], [], Nat.zero_le _, Nat.le_refl _, Nat.le_refl _, rfl, rfl, HS, hid (by simp), BV⟩
  case round =>
    obtain ⟨V, rfl⟩ : ∃ V, V = wr := ⟨_, rfl⟩
    obtain ⟨k, no, co, nh, ch, Xo, Xh, os, hs, hk, hno, hnh, rfl, rfl, HS, Hmem, HB⟩ := hrel
    by_cases hlt : k < n1
    · have x1 : (k : Int) < (n1 : Int) := by omega
      obtain ⟨gA, oA, p, P1, m1, d1, P2, m2, d2, rfl, hgF, hgl, hpk, e0, e1, e2, hp⟩ := (HD.out.below HB.out).cells hlt
      obtain ⟨X1, hX1, bX1, kX1, sX1⟩ := alloc_step V (.cells #[.slice P1 m1 d1, .slice P2 m2 d2, .int .i64 p.bound] 41)
      obtain ⟨zc, hzc⟩ : ∃ z, V.heap.size = z := ⟨_, rfl⟩
      rw [hzc] at kX1
      obtain ⟨q0, q1, q2⟩ := box3 kX1
      have HS1 := hid (HS.out.below bX1)
      have HB1 := hid (HB.out.trans (bX1.mono HB.out.size))
      have HP1 := hid (hp.below bX1)
      have Hpk := hid hpk
      clear bX1 kX1 sX1 hp hpk HS HB
      cases hbt : (bits BinOp.and IntKind.u32 (hide / 2 ^ k) 1 == 1) with
      | true =>
        have hnx : Hid (∀ p', p' ∈ ps.take (k + 1) ↔ p' ∈ os ∨ p' ∈ hs ++ [p]) := hid fun p' => by rw [List.take_add_one, Hpk.out, Option.toList_some, List.mem_append, Hmem.out p', List.mem_append]; exact or_assoc
        obtain ⟨h0, h1⟩ := box1 HS1.out.box
        obtain ⟨X4, hX4, bX4, kX4, sX4⟩ := alloc_step X1 (.cells #[.slice P1 m1 d1, .slice P2 m2 d2, .int .i64 p.bound] 41)
        have K4 := hid (rd_lit3 kX4)
        have HS4 := hid (HS1.out.below bX4)
        have HP4 := hid (HP1.out.below bX4)
        have HB4 := hid (HB1.out.trans (bX4.mono HB1.out.size))
        obtain ⟨us, D4⟩ := HS4.out.fh
        have D4 := hid D4
        have D4o := hid D4.out.own
        have hno1 : nh + 1 ≤ 1000000 := by omega
        clear bX4 kX4 sX4
        go_wp2_with (at_builtin; refine wpList_append_pb rfl _ _ rfl D4o.out K4.out rfl rfl (pb_one HP4.out) hno1 fun A' c' V5 ho hm hr => ?_; have hb5 : V5.heap[zb]? = some (.cells #[.slice Xh nh ch] 45) := (hm.block zb (lt_of_block HS4.out.box) fun e => HS4.out.rhb zb e rfl).trans HS4.out.box; obtain ⟨h50, h51⟩ := box1 hb5)
        obtain ⟨HS5, b5⟩ := HS4.out.push_h D4.out (t := (.slice P1 m1 d1, .slice P2 m2 d2, .int .i64 p.bound)) ho hm hr HP4.out
        have HS5 := hid HS5
        have HB5 := hid (HB4.out.trans (b5.mono (Nat.le_of_eq Hzb.out)))
        clear ho hm hr b5
        go_roundw
        case rel => exact ⟨k + 1, no, co, nh + 1, c', Xo, A', os, hs ++ [p], by omega, by omega, by omega, rfl, by go_num, HS5, hnx, HB5⟩
        case measure => simp [intOf]; omega
      | false =>
        have hnx : Hid (∀ p', p' ∈ ps.take (k + 1) ↔ p' ∈ os ++ [p] ∨ p' ∈ hs) := hid fun p' => by rw [List.take_add_one, Hpk.out, Option.toList_some, List.mem_append, Hmem.out p', List.mem_append]; exact or_right_comm
        obtain ⟨X4, hX4, bX4, kX4, sX4⟩ := alloc_step X1 (.cells #[.slice P1 m1 d1, .slice P2 m2 d2, .int .i64 p.bound] 41)
        have K4 := hid (rd_lit3 kX4)
        have HS4 := hid (HS1.out.below bX4)
        have HP4 := hid (HP1.out.below bX4)
        have HB4 := hid (HB1.out.trans (bX4.mono HB1.out.size))
        obtain ⟨us, D4⟩ := HS4.out.fo
        have D4 := hid D4
        have D4o := hid D4.out.own
        have hno1 : no + 1 ≤ 1000000 := by omega
        clear bX4 kX4 sX4
        go_wp2_with (at_builtin; refine wpList_append_pb rfl _ _ rfl D4o.out K4.out rfl rfl (pb_one HP4.out) hno1 fun A' c' V5 ho hm hr => ?_)
        obtain ⟨HS5, b5⟩ := HS4.out.push_o D4.out (t := (.slice P1 m1 d1, .slice P2 m2 d2, .int .i64 p.bound)) ho hm hr HP4.out
        have HS5 := hid HS5
        have HB5 := hid (HB4.out.trans (b5.mono (Nat.le_of_eq Hzb.out)))
        clear ho hm hr b5
        go_roundw
        case rel => exact ⟨k + 1, no + 1, c', nh, ch, A', Xh, os ++ [p], hs, by omega, by omega, by omega, rfl, by go_num, HS5, hnx, HB5⟩
        case measure => simp [intOf]; omega
    · have x1 : ¬ ((k : Int) < (n1 : Int)) := by omega
      have Hmem := hid (show ∀ p, p ∈ ps ↔ p ∈ os ∨ p ∈ hs by have := Hmem.out; rwa [List.take_of_length_le (by have := Hlen.out; omega)] at this)
      have HO : Hid (PsRd V (fun g => zb ≤ g) (fun g => w.heap.size ≤ g ∧ g < w1.heap.size) Xo no co os) := hid (by obtain ⟨us, D⟩ := HS.out.fo; exact D.rd)
      have HH : Hid (PsRd V (fun g => zb ≤ g ∧ g < V.heap.size) (fun g => w.heap.size ≤ g ∧ g < w1.heap.size) Xh nh ch hs) := hid (by obtain ⟨us, D⟩ := HS.out.fh; exact D.rd.mono (fun g hg h => ⟨h, hg⟩) fun g _ h => h)
      have Hbx := hid HS.out.box
      have HokO := hid (show OkN 7 os from fun p hp => Hok.out p ((Hmem.out p).2 (.inl hp)))
      have HokH := hid (show OkN 7 hs from fun p hp => Hok.out p ((Hmem.out p).2 (.inr hp)))
      have hlO : os.length = no := by obtain ⟨us, D⟩ := HS.out.fo; exact D.len
      have hlH : hs.length = nh := by obtain ⟨us, D⟩ := HS.out.fh; exact D.len
      have HlO := hid hlO
      have HlH := hid hlH
      have HsV := hid (show zb < V.heap.size from HS.out.size)
      have HD := hid (HD.out.below HB.out)
      have HA := hid (HA.out.below HB.out)
      have HB := hid (B2.out.trans (HB.out.mono hw2))
      clear HS B2 BV hlO hlH
      go_wp2_with fail
      have hld := loaded32_any (n := 7) HO.out (fun p hp => (HokO.out p hp).1.i64) HokO.out.fits (by omega) (by omega)
      rw [show ((7 : Nat) : Int) = 7 from rfl] at hld
      refine hld.mono ?_
      rintro r w3 ⟨⟨sb, rfl, tb, eb, ob, pm, S, h1, h2, h3, h4⟩, b3⟩
      obtain ⟨F, hp1, hF⟩ := (h1.mono (fun _ h => .inr h) : SolP w3 (fun g => False ∨ V.heap.size ≤ g) sb tb eb ob pm S).pack (w := V)
      have hw3 := b3.size
      have HF := hid (show ∀ g, F g → V.heap.size ≤ g ∧ g < w3.heap.size from fun g hg => ⟨(hF g hg).2.elim (fun h => h.elim) id, (hF g hg).1⟩)
      have HK := hid (Kept.start h2 h3 h4 HokO.out)
      have Hcs := hid (show S.E.cs.length ≤ 400000 by rw [h3, HlO.out]; omega)
      have Hlg := hid (show S.log = [] from h4)
      obtain ⟨X6, hX6, bX6, kX6, sX6⟩ := alloc_step w3 (.cells #[.int .i64 0] 3)
      obtain ⟨gb, hgb⟩ : ∃ z, w3.heap.size = z := ⟨_, rfl⟩
      rw [hgb] at kX6
      have H := hid (hp1.below bX6)
      have HH := hid ((HH.out.below b3).below bX6)
      have HD := hid ((HD.out.below b3).below bX6)
      have HA := hid ((HA.out.below b3).below bX6)
      have Hbx := hid (keep_blk (keep_blk Hbx.out b3) bX6)
      have HB := hid ((HB.out.trans (b3.mono HB.out.size)).trans (bX6.mono (Nat.le_trans HB.out.size hw3)))
      have Hgb := hid kX6
      have Hgz := hid hgb
      have s6 := bX6.size
      have HX6 := hid hX6
      clear hX6 sX6 h1 h2 h3 h4 b3 hld hp1 hF bX6 kX6 HO
      go_wp2_with fail
      try rw [hgb]
      rw [HX6.out]
      obtain ⟨P, hP⟩ : ∃ P : Nat → Prop, P = fun g => (w.heap.size ≤ g ∧ g < w1.heap.size) ∨ (zb ≤ g ∧ g < V.heap.size) ∨ g = gb := ⟨_, rfl⟩
      have hzV := HsV.out
      have hz2 := Hzb.out
      have hPw : ∀ g, P g → w.heap.size ≤ g ∧ g < X6.heap.size ∧ ¬ F g := fun g hg => by
        rw [hP] at hg
        have hFg := HF.out g
        refine ⟨?_, ?_, fun h => ?_⟩ <;> (have hl := lt_of_block Hgb.out; rcases hg with h1 | h1 | h1 <;> first | omega | (have := hFg h; omega))
      have hPz : P zb ∧ P gb ∧ zb ≠ gb := by
        rw [hP]
        exact ⟨.inr (.inl ⟨Nat.le_refl _, hzV⟩), .inr (.inr rfl), by omega⟩
      have hAP : ∀ g, (w1.heap.size ≤ g ∧ g < w2.heap.size) → ¬ F g ∧ ¬ P g := fun g hg => ⟨fun h => by have := HF.out g h; omega, fun h => by rw [hP] at h; rcases h with h1 | h1 | h1 <;> omega⟩
      have hI : (hidLazy P zb gb Xh nh ch hs A1 n1 c1 ps).I X6 0 := ⟨(box1 Hbx.out).1, by rw [show wrap64 ((0 : Nat) : Int) = 0 by decide +kernel]; exact Hgb.out, HH.out.mono (fun g _ hg => ⟨by rw [hP]; exact .inr (.inl hg), by omega⟩) fun g _ hg => ⟨by rw [hP]; exact .inl hg, by omega⟩, HD.out.mono (fun g _ hg => ⟨by rw [hP]; exact .inl hg, by omega⟩) fun g _ hg => ⟨by rw [hP]; exact .inl hg, by omega⟩⟩
      have hsv := ssolve_lazy H.out HK.out Hcs.out Hlg.out hI (fun g hg => (hPw g hg).2) hPz HA.out hAP Has.out.1 (by have := Has.out.2; omega) Hok.out (by rw [HlH.out]; omega) (by omega) Hmem.out
      refine hsv.mono ?_
      rintro r w4 ⟨⟨sat, U1, u1, v1, U2, u2, v2, rfl, S4, F4, new, M, co, ht, hlog, hstep, hnl, h1, hF, hM, hco, hI1, hI2, hI3, hI4⟩, m1⟩
      have s1 := m1.size
      have Hcb := hid hI1
      have Hgb := hid (show w4.heap[gb]? = some (.cells #[.int .i64 ((new.countP fun s => s.kind == 3 : Nat) : Int)] 3) by
        have hcn : (new.countP fun s => s.kind == 3) ≤ 4001 := Nat.le_trans List.countP_le_length hnl
        have e : wrap64 ((new.countP fun s => s.kind == 3 : Nat) : Int) = ((new.countP fun s => s.kind == 3 : Nat) : Int) := IntWalk.wrap64_in _ ⟨by omega, by omega⟩
        rw [e] at hI2
        exact hI2)
      have HH := hid (hI3.mono (F' := fun g => g ≠ gb) (G' := fun g => g ≠ gb) (fun g _ h => h.2) fun g _ h => h.2)
      have HD := hid hI4
      have HA := hid (HA.out.mod m1 fun g _ hg hf => by have := hAP g hg; exact hf.elim this.1 this.2)
      have HB := hid (below_mod HB.out HB.out.size m1 fun g hg => hg.elim (fun h => by have := HF.out g h; have := HB.out.size; omega) fun h => (hPw g h).1)
      have HM := hid (hM.mono (G := fun g => g < w4.heap.size) fun g hg _ => hg)
      have HC := hid (hco.mono (G := fun g => g < w4.heap.size) fun g hg _ => hg)
      have Ht := hid ht
      have H4 := hid h1
      have Hlog := hid hlog
      have Hstep := hid hstep
      have Hnl := hid hnl
      have Hne := hid hPz.2.2
      have hgw : Hid (w.heap.size ≤ gb) := hid (hPw gb hPz.2.1).1
      have Hgl := hid (lt_of_block Hgb.out)
      have hMl : M.length = u1 := by have := hM.1; rw [i8s_length] at this; omega
      clear h1 hF hM hco hI1 hI2 hI3 hI4 ht hlog hstep hnl H HK Hcs Hlg HF hsv hI hPw hPz hAP hP m1 hgb Hbx
      obtain ⟨X5, hX, bX, kX, sX⟩ := alloc_step w4 (.cells #[.bool sat, .slice U1 u1 v1, .slice U2 u2 v2] 35)
      have HX5 := hid hX
      have H4 := hid (H4.out.below bX)
      have HA := hid (HA.out.below bX)
      have HM := hid (HM.out.below bX)
      have HC := hid (HC.out.below bX)
      have HD := hid (HD.out.below bX)
      have HH := hid (HH.out.below bX)
      have Hgb := hid (keep_blk Hgb.out bX)
      have Hcb := hid (keep_cell Hcb.out bX)
      have HB := hid (HB.out.trans (bX.mono HB.out.size))
      obtain ⟨zr, hzr⟩ : ∃ z, w4.heap.size = z := ⟨_, rfl⟩
      rw [hzr] at kX
      have KR := hid kX
      obtain ⟨t0, t1, t2⟩ := box3 kX
      rw [← hX] at t0 t1 t2
      clear hX bX kX sX hz2 hzV
      go_wp2_with fail
      try rw [hzr]
      rw [HX5.out] at t0 t1 t2 ⊢
      clear HX5 HX6
      cases sat with
      | false =>
        obtain ⟨hM0, hno', hsub, hnl'⟩ := Ht.out.no rfl
        have Hno := hid hno'
        have Hsub := hid hsub
        have hcl := hsub.length_le
        have hc7 := HC.out.cell.1
        have hAl := HA.out.cell.1
        clear hno' hsub hM0 hnl'
        refine wp_region_held_drew (S := fun w' => w'.cell? ⟨zr, 0, none⟩ = some (.bool false) ∧ w'.cell? ⟨zr, 1, none⟩ = some (.slice U1 u1 v1) ∧ w'.cell? ⟨zr, 2, none⟩ = some (.slice U2 u2 v2)) (by kernel_rfl) ⟨t0, t1, t2⟩ (fun hHeld => ?_)
        obtain ⟨WD, hWD⟩ : ∃ Y, X5.drew = Y := ⟨_, rfl⟩
        have bD : Below X5.heap.size X5 X5.drew := Bl.drew (Below.refl _ _)
        have H4 := hid (H4.out.below bD)
        have HA := hid (HA.out.below bD)
        have HM := hid (HM.out.below bD)
        have HC := hid (HC.out.below bD)
        have HD := hid (HD.out.below bD)
        have HH := hid (HH.out.below bD)
        have KR := hid (keep_blk KR.out bD)
        have Hgb := hid (keep_blk Hgb.out bD)
        have Hcb := hid (keep_cell Hcb.out bD)
        have HB := hid (HB.out.trans (bD.mono HB.out.size))
        rw [hWD] at hHeld H4 HA HM HC HD HH KR Hgb Hcb HB ⊢
        clear hWD bD
        refine tk 0 ?_
        refine tk 1 ?_
        refine tk 2 ?_
        refine tk 3 ?_
        refine tk 4 ?_
        refine tk 5 ?_
        refine tk 6 ?_
        refine wpAnyH_ready (rs := [7]) (by kernel_rfl) (by simp) (AllReadyH.cons (o := ⟨_, _, _, _, _, _⟩) rfl (fun K hK => ?_) AllReadyH.nil)
        go_simp
        refine (models_any HD.out Hi64.out HA.out Has.out.1 (by omega) (by have := Has.out.2; omega)).mono ?_
        rintro r w6 ⟨rfl, b6⟩
        have H4 := hid (H4.out.below b6)
        have HA := hid (HA.out.below b6)
        have HM := hid (HM.out.below b6)
        have HC := hid (HC.out.below b6)
        have HD := hid (HD.out.below b6)
        have HH := hid (HH.out.below b6)
        have KR := hid (keep_blk KR.out b6)
        have Hgb := hid (keep_blk Hgb.out b6)
        have Hcb := hid (keep_cell Hcb.out b6)
        have HB := hid (HB.out.trans (b6.mono HB.out.size))
        obtain ⟨t0, t1, t2⟩ := box3 KR.out
        obtain ⟨z, hz⟩ : ∃ z, modelsN ps qs 128 = z := ⟨_, rfl⟩
        rw [hz]
        have Hans := hid (show false = decide (0 < z) from hz ▸ Ht.out.ans)
        go_simp
        refine hK.out _ _ ⟨t0, t1, t2⟩ (fun hHeld => ?_)
        clear hK K
        clear b6 hz
        try simp only [Act.put, List.setIfInBounds_toArray, List.set_cons_zero, List.set_cons_succ]
        refine tk 8 ?_
        rw [← Hans.out]
        refine tk 9 ?_
        refine tk 10 ?_
        refine tk 11 ?_
        refine tk 12 ?_
        refine tk 13 ?_
        refine tk 14 ?_
        refine tn 15 ?_
        refine tn 16 ?_
        refine tn 17 ?_
        refine tn 18 ?_
        refine tn 19 ?_
        refine tn 20 ?_
        refine tn 21 ?_
        refine tn 22 ?_
        refine tn 23 ?_
        refine tn 24 ?_
        refine tn 25 ?_
        refine tn 26 ?_
        refine tk 27 ?_
        refine tk 28 ?_
        refine tk 29 ?_
        refine tk 30 ?_
        refine tk 31 ?_
        refine tk 32 ?_
        refine tk 33 ?_
        refine tk 34 ?_
        refine tk 35 ?_
        refine tk 36 ?_
        refine wpAnyH_ready (rs := [37]) (by kernel_rfl) (by simp) (AllReadyH.cons (o := ⟨_, _, _, _, _, _⟩) rfl (fun K hK => ?_) AllReadyH.nil)
        go_simp
        refine (models_any HD.out Hi64.out HC.out (fun x hx => Has.out.1 x (Hsub.out.subset hx)) (by omega) (by have := Has.out.2; omega)).mono ?_
        rintro r w7 ⟨rfl, b7⟩
        rw [Hno.out]
        have H4 := hid (H4.out.below b7)
        have HA := hid (HA.out.below b7)
        have HM := hid (HM.out.below b7)
        have HC := hid (HC.out.below b7)
        have HD := hid (HD.out.below b7)
        have HH := hid (HH.out.below b7)
        have KR := hid (keep_blk KR.out b7)
        have Hgb := hid (keep_blk Hgb.out b7)
        have Hcb := hid (keep_cell Hcb.out b7)
        have HB := hid (HB.out.trans (b7.mono HB.out.size))
        obtain ⟨t0, t1, t2⟩ := box3 KR.out
        go_simp
        refine hK.out _ _ ⟨t0, t1, t2⟩ (fun hHeld => ?_)
        clear hK K
        clear b7
        try simp only [Act.put, List.setIfInBounds_toArray, List.set_cons_zero, List.set_cons_succ]
        refine tk 38 ?_
        refine tk 39 ?_
        refine tk 40 ?_
        refine wpAnyH_done (by kernel_rfl) ?_ _
        clear hHeld t0 t1 t2
        have hnh24 : nh ≤ 24 := by omega
        clear Ht KR HM HC HA HD _hhd Hds hn1 Hi64 Hlen hw1 Has hw2 hw12 HsV Hmem HokO HlO Hgz s6 hw3 x1
        go_wp2_with fail
        have hsz : ∀ s ∈ S4.log, s.c.lits.length ≤ 1000000 ∧ s.c.coefs.length ≤ 1000000 ∧ s.set.length ≤ 1000000 := fun s hs => by
          rw [Hlog.out] at hs
          rcases Hstep.out s hs with ⟨_, k2, _, k4, k5⟩ | ⟨i, p, hip, rfl⟩
          · exact ⟨k4, k5, by rw [k2]; exact Nat.zero_le _⟩
          · obtain ⟨hpo, hpl⟩ := HokH.out p (List.mem_of_getElem? hip)
            have k8 := hpo.fewn hpl
            have k9 := hpo.len
            exact ⟨by show p.lits.length ≤ 1000000; omega, by show p.coefs.length ≤ 1000000; omega, by show 1 ≤ 1000000; omega⟩
        refine (slog_any H4.out hsz (by rw [Hlog.out]; have := Hnl.out; omega)).mono ?_
        rintro r w8 ⟨⟨A8, c8, rfl, hst⟩, b8⟩
        rw [Hlog.out] at hst ⊢
        obtain ⟨L, hL⟩ : ∃ L, new.length = L := ⟨_, rfl⟩
        rw [hL] at hst ⊢
        have hL4 : L ≤ 4001 := by have := Hnl.out; omega
        have hg7 := lt_of_block Hgb.out
        have HLg := hid (hst.mono (F' := fun g => g ≠ gb) (G' := fun g => g ≠ gb) (fun g _ (hg : w7.heap.size ≤ g) => by omega) fun g _ (hg : w7.heap.size ≤ g) => by omega)
        have Hgb := hid (keep_blk Hgb.out b8)
        have Hcb := hid (keep_cell Hcb.out b8)
        have HH := hid (HH.out.below b8)
        have HB := hid (HB.out.trans (b8.mono HB.out.size))
        have HL := hid hL
        clear hst b8 hsz hg7 hL H4 Hnl HokH Hlog Hok
        go_wp2_with fail
        go_loopw [109] (fun iv W => ∃ k : Nat, k ≤ L ∧ iv = .int .i64 k ∧ Hid (W.heap[gb]? = some (.cells #[.int .i64 (((new.drop k).countP fun s => s.kind == 3 : Nat) : Int)] 3)) ∧ Hid (Mod (fun g => g = gb) w8 W)) (fun iv _ => L - (intOf iv).toNat)
        case atStart => exact ⟨0, Nat.zero_le _, rfl, Hgb, hid (Mod.refl _ _)⟩
        case round =>
          obtain ⟨Y, rfl⟩ : ∃ Y, Y = wr := ⟨_, rfl⟩
          obtain ⟨j, hj, rfl, Hgr, HML⟩ := hrel
          by_cases hjl : j < L
          · have y1 : (j : Int) < (L : Int) := by omega
            obtain ⟨g, o, s, t, rfl, hgF, hgl, hsk, hst, hce⟩ := (HLg.out.mod HML.out (fun g _ h => h) (fun g _ h => h)).cells hjl
            obtain ⟨L1, l1, d1, L2, l2, d2, C1, f1, rfl, hpb, hset⟩ := hst
            have hdr : new.drop j = s :: new.drop (j + 1) := by
              rw [List.drop_eq_getElem_cons (by rw [HL.out]; omega)]
              congr 1
              rw [List.getElem?_eq_getElem (by rw [HL.out]; omega)] at hsk
              exact Option.some.inj hsk
            have e0 : Y.cell? ⟨g, o + j * 6, none⟩ = some (.int .u8 (s.kind : Int)) := hce 0 _ rfl
            have e1 : Y.cell? ⟨g, o + j * 6 + 1, none⟩ = some (.slice L1 l1 d1) := hce 1 _ rfl
            have e2 : Y.cell? ⟨g, o + j * 6 + 2, none⟩ = some (.slice L2 l2 d2) := hce 2 _ rfl
            have e3 : Y.cell? ⟨g, o + j * 6 + 3, none⟩ = some (.int .i64 s.c.bound) := hce 3 _ rfl
            have e4 : Y.cell? ⟨g, o + j * 6 + 4, none⟩ = some (.slice C1 s.set.length f1) := hce 4 _ rfl
            have e5 : Y.cell? ⟨g, o + j * 6 + 5, none⟩ = some (.slice none 0 0) := hce 5 _ rfl
            have hls := Hstep.out s (List.mem_of_getElem? hsk)
            obtain ⟨N, hN⟩ : ∃ N, ((new.drop (j + 1)).countP fun s => s.kind == 3) = N := ⟨_, rfl⟩
            have hN4 : N ≤ 4001 := by rw [← hN]; exact Nat.le_trans List.countP_le_length (by rw [List.length_drop, HL.out]; omega)
            rw [hdr, List.countP_cons, hN] at Hgr
            have HN := hid hN
            obtain ⟨zx, hzx⟩ : ∃ z, Y.heap.size = z := ⟨_, rfl⟩
            have hgy := lt_of_block Hgr.out
            clear hce hsk hdr hN
            rcases hls with ⟨k1, k2, k3, k4, k5⟩ | ⟨i, p, hip, rfl⟩
            · rw [k1] at e0 Hgr
              rw [k2] at e4
              have e0 : Y.cell? ⟨g, o + j * 6, none⟩ = some (.int .u8 1) := e0
              have e4 : Y.cell? ⟨g, o + j * 6 + 4, none⟩ = some (.slice C1 0 f1) := e4
              have Hgr : Hid (Y.heap[gb]? = some (.cells #[.int .i64 (N : Int)] 3)) := Hgr
              obtain ⟨X, hX, bX, kX, sX⟩ := alloc_step Y (.cells #[.int .u8 1, .slice L1 l1 d1, .slice L2 l2 d2, .int .i64 s.c.bound, .slice C1 0 f1, .slice none 0 0] 52)
              rw [hzx] at kX
              obtain ⟨s0, s1, s2, s3, s4, s5⟩ := sbox6 kX
              have HpX := hid (hpb.below bX)
              have Hgr := hid (keep_blk Hgr.out bX)
              have HML := hid (HML.out.trans (Mod.of_below bX))
              have Hi6 := hid k3.i64
              have Hko := hid ((Pb.ok_iff s.c).2 k3)
              have HX := hid hX
              rw [← hX] at s0 s1 s2 s3 s4 s5
              clear k1 k2 k3 k4 k5 hset hpb bX kX sX hgF hX
              go_wp2_with fail
              try rw [hzx]
              rw [HX.out]
              refine (valid_any HpX.out Hi6.out).mono ?_
              rintro r w9 ⟨rfl, b9⟩
              rw [Hko.out]
              have Hgr := hid (keep_blk Hgr.out b9)
              have HML := hid (HML.out.trans (Mod.of_below b9))
              clear b9 s0 s1 s2 s3 s4 s5
              go_wp2_with fail
              go_roundw
              case rel => exact ⟨j + 1, by omega, by go_num, by rw [HN.out]; exact Hgr, HML⟩
              case measure => simp [intOf]; omega
            · have e0 : Y.cell? ⟨g, o + j * 6, none⟩ = some (.int .u8 3) := e0
              have e3 : Y.cell? ⟨g, o + j * 6 + 3, none⟩ = some (.int .i64 p.bound) := e3
              have e4 : Y.cell? ⟨g, o + j * 6 + 4, none⟩ = some (.slice C1 1 f1) := e4
              have Hgr : Hid (Y.heap[gb]? = some (.cells #[.int .i64 ((N : Int) + 1)] 3)) := Hgr
              have hset : Rd Y _ 1 (.slice C1 1 f1) 1 (ints [(i : Int) + 1]) := hset
              obtain ⟨gS, oS, rfl, hgS, hgSl, eS⟩ := hset.cell.2 0 (by omega)
              obtain ⟨e, he⟩ : ∃ e : Int, (i : Int) + 1 = e := ⟨_, rfl⟩
              have eS : Y.cell? ⟨gS, oS, none⟩ = some (.int .i64 e) := he ▸ eS
              have hi : i < nh := by rw [← HlH.out]; exact (List.getElem?_eq_some_iff.1 hip).1
              obtain ⟨gH, oH, p', Q1, q1, a1, Q2, q2, a2, rfl, hgH, hgHl, hp', eh0, eh1, eh2, hpH⟩ := (HH.out.mod HML.out (fun g _ h => h) (fun g _ h => h)).cells hi
              obtain rfl : p = p' := Option.some.inj (hip.symm.trans hp')
              have eb : Y.cell? ⟨zb, 0, none⟩ = some (.slice (some ⟨gH, oH, none⟩) nh ch) := (World.cell?_of_block (HML.out.block zb (World.block_lt_of_cell? _ _ Hcb.out) Hne.out)).trans Hcb.out
              have hi24 : i < 24 := by omega
              have xi : (i : Int) < (nh : Int) := by omega
              have xe1 : (e < 1) = False := by simp; omega
              have xe2 : (e > (nh : Int)) = False := by simp; omega
              have xe3 : e - 1 = (i : Int) := by omega
              obtain ⟨X, hX, bX, kX, sX⟩ := alloc_step Y (.cells #[.int .u8 3, .slice L1 l1 d1, .slice L2 l2 d2, .int .i64 p.bound, .slice (some ⟨gS, oS, none⟩) 1 f1, .slice none 0 0] 52)
              rw [hzx] at kX
              obtain ⟨s0, s1, s2, s3, s4, s5⟩ := sbox6 kX
              have hgX := keep_blk Hgr.out bX
              obtain ⟨g0, g1⟩ := box1 hgX
              obtain ⟨Y1, hY1⟩ : ∃ W, X.setCell ⟨gb, 0, none⟩ (.int .i64 (N : Int)) = W := ⟨_, rfl⟩
              have mY : Mod (fun g => g = gb) X Y1 := by rw [← hY1]; exact Mod.setCell (p := ⟨gb, 0, none⟩) (Mod.refl (fun g => g = gb) X) (.inl rfl) _
              have kY : ∀ {z o : Nat} {v : Value}, Y.cell? ⟨z, o, none⟩ = some v → z ≠ gb → Y1.cell? ⟨z, o, none⟩ = some v := fun h hz => (World.cell?_of_block (mY.block _ (World.block_lt_of_cell? _ _ (keep_cell h bX)) hz)).trans (keep_cell h bX)
              have hzg : zx ≠ gb := by omega
              have kZ := (mY.block zx (lt_of_block kX) hzg).trans kX
              have HpX := hid ((hpb.below bX).mod mY fun g _ h => h)
              have HpH := hid ((hpH.below bX).mod mY fun g _ h => h)
              have Hgr := hid (show Y1.heap[gb]? = some (.cells #[.int .i64 (N : Int)] 3) by rw [← hY1]; exact one_set' hgX _)
              have HML := hid ((HML.out.trans (Mod.of_below bX)).trans (mY.mono fun g _ h => .inl h))
              have HZ := hid (show Y1.cell? ⟨gS, oS, none⟩ = some (.int .i64 e) ∧ Y1.cell? ⟨zb, 0, none⟩ = some (.slice (some ⟨gH, oH, none⟩) nh ch) ∧ Y1.cell? ⟨gH, oH + i * 3, none⟩ = some (.slice Q1 q1 a1) ∧ Y1.cell? ⟨gH, oH + i * 3 + 1, none⟩ = some (.slice Q2 q2 a2) ∧ Y1.cell? ⟨gH, oH + i * 3 + 2, none⟩ = some (.int .i64 p.bound) from ⟨kY eS hgS, kY eb Hne.out, kY eh0 hgH, kY eh1 hgH, kY eh2 hgH⟩)
              have KZ := hid kZ
              have HX := hid hX
              have HY1 := hid hY1
              rw [← hX] at s0 s1 s2 s3 s4 s5 g0 g1
              clear hset hpb hpH bX kX sX hgX mY kY kZ hzg hgF hgS hgSl hgH hgHl hp' hip eS eb eh0 eh1 eh2 hX hY1 he
              go_wp2_with fail
              try rw [hzx]
              rw [HX.out, HY1.out]
              clear s0 s1 s2 s3 s4 s5 g0 g1 HX HY1 e0 e1 e2 e3 e4 e5
              obtain ⟨eS, eb, eh0, eh1, eh2⟩ := HZ.out
              obtain ⟨s0, s1, s2, s3, s4, s5⟩ := sbox6 KZ.out
              have xw : IntKind.i64.wrap (i : Int) = (i : Int) := iw' (by omega) (by omega)
              refine wp_region_held_drew (S := fun w' => w'.cell? ⟨zx, 1, none⟩ = some (.slice L1 l1 d1) ∧ w'.cell? ⟨zx, 2, none⟩ = some (.slice L2 l2 d2) ∧ w'.cell? ⟨zx, 3, none⟩ = some (.int .i64 p.bound) ∧ w'.cell? ⟨zx, 4, none⟩ = some (.slice (some ⟨gS, oS, none⟩) 1 f1) ∧ w'.cell? ⟨gS, oS, none⟩ = some (.int .i64 e) ∧ w'.cell? ⟨zb, 0, none⟩ = some (.slice (some ⟨gH, oH, none⟩) nh ch) ∧ w'.cell? ⟨gH, oH + i * 3, none⟩ = some (.slice Q1 q1 a1) ∧ w'.cell? ⟨gH, oH + i * 3 + 1, none⟩ = some (.slice Q2 q2 a2) ∧ w'.cell? ⟨gH, oH + i * 3 + 2, none⟩ = some (.int .i64 p.bound)) (by kernel_rfl) ⟨s1, s2, s3, s4, eS, eb, eh0, eh1, eh2⟩ (fun hHeld => ?_)
              obtain ⟨WD, hWD⟩ : ∃ Y, Y1.drew = Y := ⟨_, rfl⟩
              have bD : Below Y1.heap.size Y1 Y1.drew := Bl.drew (Below.refl _ _)
              have HpX := hid (HpX.out.below bD)
              have HpH := hid (HpH.out.below bD)
              have Hgr := hid (keep_blk Hgr.out bD)
              have HML := hid (HML.out.trans (Mod.of_below bD))
              rw [hWD] at hHeld HpX HpH Hgr HML ⊢
              clear hWD bD
              refine tk 0 ?_
              refine tk 1 ?_
              refine tk 2 ?_
              refine tk 3 ?_
              refine tk 4 ?_
              refine tk 5 ?_
              refine tk 6 ?_
              refine tk 7 ?_
              refine tk 8 ?_
              refine tk 9 ?_
              refine tk 10 ?_
              refine tk 11 ?_
              refine tk 12 ?_
              refine tk 13 ?_
              refine tk 14 ?_
              refine tk 15 ?_
              refine tk 16 ?_
              refine tk 17 ?_
              refine tk 18 ?_
              refine tk 19 ?_
              refine tk 20 ?_
              refine tk 21 ?_
              refine tk 22 ?_
              refine tk 23 ?_
              refine tk 24 ?_
              refine tk 25 ?_
              refine tk 26 ?_
              refine tk 27 ?_
              refine tk 28 ?_
              refine tk 29 ?_
              refine tk 30 ?_
              refine wpAnyH_ready (rs := [31]) (by kernel_rfl) (by simp) (AllReadyH.cons (o := ⟨_, _, _, _, _, _⟩) rfl (fun K hK => ?_) AllReadyH.nil)
              go_simp
              refine (equal_any HpX.out HpH.out).mono ?_
              rintro r w9 ⟨rfl, b9⟩
              rw [show p.same p = true by unfold Pb.same; simp]
              have Hgr := hid (keep_blk Hgr.out b9)
              have HML := hid (HML.out.trans (Mod.of_below b9))
              obtain ⟨s1, s2, s3, s4, eS, eb, eh0, eh1, eh2⟩ := hHeld
              have kc : ∀ {a : Addr} {v : Value}, WD.cell? a = some v → w9.cell? a = some v := fun h => keep_cell h b9
              go_simp
              refine hK.out _ _ ⟨kc s1, kc s2, kc s3, kc s4, kc eS, kc eb, kc eh0, kc eh1, kc eh2⟩ (fun hHeld => ?_)
              clear hK K b9 kc
              try simp only [Act.put, List.setIfInBounds_toArray, List.set_cons_zero, List.set_cons_succ]
              refine tk 32 ?_
              refine tk 33 ?_
              refine wpAnyH_done (by kernel_rfl) ?_ _
              clear hHeld
              clear xw xe1 xe2 xe3
              go_wp2_with fail
              go_roundw
              case rel => exact ⟨j + 1, by omega, by go_num, by rw [HN.out]; exact Hgr, HML⟩
              case measure => simp [intOf]; omega
          · have y1 : ¬ ((j : Int) < (L : Int)) := by omega
            have hz : ((new.drop j).countP fun s => s.kind == 3) = 0 := by rw [List.drop_of_length_le (by rw [HL.out]; omega)]; rfl
            rw [hz] at Hgr
            obtain ⟨g0, g1⟩ := box1 Hgr.out
            have HB := hid (below_mod HB.out HB.out.size HML.out fun g hg => hg ▸ hgw.out)
            clear HML Hgr
            go_wp2_with fail
            refine awake32_any.mono ?_
            rintro r w9 ⟨rfl, b9⟩
            have HB := hid (HB.out.trans (b9.mono HB.out.size))
            clear b9
            go_wp2_with fail
            go_ret
            exact ⟨rfl, HB.out⟩
      | true =>
        obtain ⟨hM7, hfine, _, _⟩ := Ht.out.yes rfl
        rw [hM7] at hMl
        subst hMl
        have Hfine := hid hfine
        clear hfine hM7
        refine wp_region_held_drew (S := fun w' => w'.cell? ⟨zr, 0, none⟩ = some (.bool true) ∧ w'.cell? ⟨zr, 1, none⟩ = some (.slice U1 7 v1) ∧ w'.cell? ⟨zr, 2, none⟩ = some (.slice U2 u2 v2)) (by kernel_rfl) ⟨t0, t1, t2⟩ (fun hHeld => ?_)
        obtain ⟨WD, hWD⟩ : ∃ Y, X5.drew = Y := ⟨_, rfl⟩
        have bD : Below X5.heap.size X5 X5.drew := Bl.drew (Below.refl _ _)
        have H4 := hid (H4.out.below bD)
        have HA := hid (HA.out.below bD)
        have HM := hid (HM.out.below bD)
        have HC := hid (HC.out.below bD)
        have HD := hid (HD.out.below bD)
        have HH := hid (HH.out.below bD)
        have KR := hid (keep_blk KR.out bD)
        have Hgb := hid (keep_blk Hgb.out bD)
        have Hcb := hid (keep_cell Hcb.out bD)
        have HB := hid (HB.out.trans (bD.mono HB.out.size))
        rw [hWD] at hHeld H4 HA HM HC HD HH KR Hgb Hcb HB ⊢
        clear hWD bD
        refine tk 0 ?_
        refine tk 1 ?_
        refine tk 2 ?_
        refine tk 3 ?_
        refine tk 4 ?_
        refine tk 5 ?_
        refine tk 6 ?_
        refine wpAnyH_ready (rs := [7]) (by kernel_rfl) (by simp) (AllReadyH.cons (o := ⟨_, _, _, _, _, _⟩) rfl (fun K hK => ?_) AllReadyH.nil)
        go_simp
        refine (models_any HD.out Hi64.out HA.out Has.out.1 (by omega) (by have := Has.out.2; omega)).mono ?_
        rintro r w6 ⟨rfl, b6⟩
        have H4 := hid (H4.out.below b6)
        have HA := hid (HA.out.below b6)
        have HM := hid (HM.out.below b6)
        have HC := hid (HC.out.below b6)
        have HD := hid (HD.out.below b6)
        have HH := hid (HH.out.below b6)
        have KR := hid (keep_blk KR.out b6)
        have Hgb := hid (keep_blk Hgb.out b6)
        have Hcb := hid (keep_cell Hcb.out b6)
        have HB := hid (HB.out.trans (b6.mono HB.out.size))
        obtain ⟨t0, t1, t2⟩ := box3 KR.out
        obtain ⟨z, hz⟩ : ∃ z, modelsN ps qs 128 = z := ⟨_, rfl⟩
        rw [hz]
        have Hans := hid (show true = decide (0 < z) from hz ▸ Ht.out.ans)
        go_simp
        refine hK.out _ _ ⟨t0, t1, t2⟩ (fun hHeld => ?_)
        clear hK K
        clear b6 hz
        try simp only [Act.put, List.setIfInBounds_toArray, List.set_cons_zero, List.set_cons_succ]
        refine tk 8 ?_
        rw [← Hans.out]
        refine tk 9 ?_
        refine tk 10 ?_
        refine tk 11 ?_
        refine tk 12 ?_
        refine tk 13 ?_
        refine tk 14 ?_
        refine tk 15 ?_
        refine tk 16 ?_
        refine tk 17 ?_
        refine tk 18 ?_
        refine tk 19 ?_
        refine tk 20 ?_
        refine tk 21 ?_
        refine tk 22 ?_
        refine tk 23 ?_
        refine wpAnyH_ready (rs := [24]) (by kernel_rfl) (by simp) (AllReadyH.cons (o := ⟨_, _, _, _, _, _⟩) rfl (fun K hK => ?_) AllReadyH.nil)
        go_simp
        refine (fine_any HD.out Hi64.out HA.out HM.out Has.out.1 (by omega) (by have := Has.out.2; omega)).mono ?_
        rintro r w7 ⟨rfl, b7⟩
        rw [Hfine.out]
        have H4 := hid (H4.out.below b7)
        have HA := hid (HA.out.below b7)
        have HM := hid (HM.out.below b7)
        have HC := hid (HC.out.below b7)
        have HD := hid (HD.out.below b7)
        have HH := hid (HH.out.below b7)
        have KR := hid (keep_blk KR.out b7)
        have Hgb := hid (keep_blk Hgb.out b7)
        have Hcb := hid (keep_cell Hcb.out b7)
        have HB := hid (HB.out.trans (b7.mono HB.out.size))
        obtain ⟨t0, t1, t2⟩ := box3 KR.out
        go_simp
        refine hK.out _ _ ⟨t0, t1, t2⟩ (fun hHeld => ?_)
        clear hK K
        clear b7
        try simp only [Act.put, List.setIfInBounds_toArray, List.set_cons_zero, List.set_cons_succ]
        refine tk 25 ?_
        refine tk 26 ?_
        refine tk 27 ?_
        refine tk 28 ?_
        refine tk 29 ?_
        refine tk 30 ?_
        refine tk 31 ?_
        refine tk 32 ?_
        refine tk 33 ?_
        refine tn 34 ?_
        refine tn 35 ?_
        refine tn 36 ?_
        refine tn 37 ?_
        refine tn 38 ?_
        refine tk 39 ?_
        refine tk 40 ?_
        refine wpAnyH_done (by kernel_rfl) ?_ _
        clear hHeld t0 t1 t2
        have hnh24 : nh ≤ 24 := by omega
        clear Ht KR HM HC HA HD _hhd Hds hn1 Hi64 Hlen hw1 Has hw2 hw12 HsV Hmem HokO HlO Hgz s6 hw3 x1
        go_wp2_with fail
        have hsz : ∀ s ∈ S4.log, s.c.lits.length ≤ 1000000 ∧ s.c.coefs.length ≤ 1000000 ∧ s.set.length ≤ 1000000 := fun s hs => by
          rw [Hlog.out] at hs
          rcases Hstep.out s hs with ⟨_, k2, _, k4, k5⟩ | ⟨i, p, hip, rfl⟩
          · exact ⟨k4, k5, by rw [k2]; exact Nat.zero_le _⟩
          · obtain ⟨hpo, hpl⟩ := HokH.out p (List.mem_of_getElem? hip)
            have k8 := hpo.fewn hpl
            have k9 := hpo.len
            exact ⟨by show p.lits.length ≤ 1000000; omega, by show p.coefs.length ≤ 1000000; omega, by show 1 ≤ 1000000; omega⟩
        refine (slog_any H4.out hsz (by rw [Hlog.out]; have := Hnl.out; omega)).mono ?_
        rintro r w8 ⟨⟨A8, c8, rfl, hst⟩, b8⟩
        rw [Hlog.out] at hst ⊢
        obtain ⟨L, hL⟩ : ∃ L, new.length = L := ⟨_, rfl⟩
        rw [hL] at hst ⊢
        have hL4 : L ≤ 4001 := by have := Hnl.out; omega
        have hg7 := lt_of_block Hgb.out
        have HLg := hid (hst.mono (F' := fun g => g ≠ gb) (G' := fun g => g ≠ gb) (fun g _ (hg : w7.heap.size ≤ g) => by omega) fun g _ (hg : w7.heap.size ≤ g) => by omega)
        have Hgb := hid (keep_blk Hgb.out b8)
        have Hcb := hid (keep_cell Hcb.out b8)
        have HH := hid (HH.out.below b8)
        have HB := hid (HB.out.trans (b8.mono HB.out.size))
        have HL := hid hL
        clear hst b8 hsz hg7 hL H4 Hnl HokH Hlog Hok
        go_wp2_with fail
        go_loopw [109] (fun iv W => ∃ k : Nat, k ≤ L ∧ iv = .int .i64 k ∧ Hid (W.heap[gb]? = some (.cells #[.int .i64 (((new.drop k).countP fun s => s.kind == 3 : Nat) : Int)] 3)) ∧ Hid (Mod (fun g => g = gb) w8 W)) (fun iv _ => L - (intOf iv).toNat)
        case atStart => exact ⟨0, Nat.zero_le _, rfl, Hgb, hid (Mod.refl _ _)⟩
        case round =>
          obtain ⟨Y, rfl⟩ : ∃ Y, Y = wr := ⟨_, rfl⟩
          obtain ⟨j, hj, rfl, Hgr, HML⟩ := hrel
          by_cases hjl : j < L
          · have y1 : (j : Int) < (L : Int) := by omega
            obtain ⟨g, o, s, t, rfl, hgF, hgl, hsk, hst, hce⟩ := (HLg.out.mod HML.out (fun g _ h => h) (fun g _ h => h)).cells hjl
            obtain ⟨L1, l1, d1, L2, l2, d2, C1, f1, rfl, hpb, hset⟩ := hst
            have hdr : new.drop j = s :: new.drop (j + 1) := by
              rw [List.drop_eq_getElem_cons (by rw [HL.out]; omega)]
              congr 1
              rw [List.getElem?_eq_getElem (by rw [HL.out]; omega)] at hsk
              exact Option.some.inj hsk
            have e0 : Y.cell? ⟨g, o + j * 6, none⟩ = some (.int .u8 (s.kind : Int)) := hce 0 _ rfl
            have e1 : Y.cell? ⟨g, o + j * 6 + 1, none⟩ = some (.slice L1 l1 d1) := hce 1 _ rfl
            have e2 : Y.cell? ⟨g, o + j * 6 + 2, none⟩ = some (.slice L2 l2 d2) := hce 2 _ rfl
            have e3 : Y.cell? ⟨g, o + j * 6 + 3, none⟩ = some (.int .i64 s.c.bound) := hce 3 _ rfl
            have e4 : Y.cell? ⟨g, o + j * 6 + 4, none⟩ = some (.slice C1 s.set.length f1) := hce 4 _ rfl
            have e5 : Y.cell? ⟨g, o + j * 6 + 5, none⟩ = some (.slice none 0 0) := hce 5 _ rfl
            have hls := Hstep.out s (List.mem_of_getElem? hsk)
            obtain ⟨N, hN⟩ : ∃ N, ((new.drop (j + 1)).countP fun s => s.kind == 3) = N := ⟨_, rfl⟩
            have hN4 : N ≤ 4001 := by rw [← hN]; exact Nat.le_trans List.countP_le_length (by rw [List.length_drop, HL.out]; omega)
            rw [hdr, List.countP_cons, hN] at Hgr
            have HN := hid hN
            obtain ⟨zx, hzx⟩ : ∃ z, Y.heap.size = z := ⟨_, rfl⟩
            have hgy := lt_of_block Hgr.out
            clear hce hsk hdr hN
            rcases hls with ⟨k1, k2, k3, k4, k5⟩ | ⟨i, p, hip, rfl⟩
            · rw [k1] at e0 Hgr
              rw [k2] at e4
              have e0 : Y.cell? ⟨g, o + j * 6, none⟩ = some (.int .u8 1) := e0
              have e4 : Y.cell? ⟨g, o + j * 6 + 4, none⟩ = some (.slice C1 0 f1) := e4
              have Hgr : Hid (Y.heap[gb]? = some (.cells #[.int .i64 (N : Int)] 3)) := Hgr
              obtain ⟨X, hX, bX, kX, sX⟩ := alloc_step Y (.cells #[.int .u8 1, .slice L1 l1 d1, .slice L2 l2 d2, .int .i64 s.c.bound, .slice C1 0 f1, .slice none 0 0] 52)
              rw [hzx] at kX
              obtain ⟨s0, s1, s2, s3, s4, s5⟩ := sbox6 kX
              have HpX := hid (hpb.below bX)
              have Hgr := hid (keep_blk Hgr.out bX)
              have HML := hid (HML.out.trans (Mod.of_below bX))
              have Hi6 := hid k3.i64
              have Hko := hid ((Pb.ok_iff s.c).2 k3)
              have HX := hid hX
              rw [← hX] at s0 s1 s2 s3 s4 s5
              clear k1 k2 k3 k4 k5 hset hpb bX kX sX hgF hX
              go_wp2_with fail
              try rw [hzx]
              rw [HX.out]
              refine (valid_any HpX.out Hi6.out).mono ?_
              rintro r w9 ⟨rfl, b9⟩
              rw [Hko.out]
              have Hgr := hid (keep_blk Hgr.out b9)
              have HML := hid (HML.out.trans (Mod.of_below b9))
              clear b9 s0 s1 s2 s3 s4 s5
              go_wp2_with fail
              go_roundw
              case rel => exact ⟨j + 1, by omega, by go_num, by rw [HN.out]; exact Hgr, HML⟩
              case measure => simp [intOf]; omega
            · have e0 : Y.cell? ⟨g, o + j * 6, none⟩ = some (.int .u8 3) := e0
              have e3 : Y.cell? ⟨g, o + j * 6 + 3, none⟩ = some (.int .i64 p.bound) := e3
              have e4 : Y.cell? ⟨g, o + j * 6 + 4, none⟩ = some (.slice C1 1 f1) := e4
              have Hgr : Hid (Y.heap[gb]? = some (.cells #[.int .i64 ((N : Int) + 1)] 3)) := Hgr
              have hset : Rd Y _ 1 (.slice C1 1 f1) 1 (ints [(i : Int) + 1]) := hset
              obtain ⟨gS, oS, rfl, hgS, hgSl, eS⟩ := hset.cell.2 0 (by omega)
              obtain ⟨e, he⟩ : ∃ e : Int, (i : Int) + 1 = e := ⟨_, rfl⟩
              have eS : Y.cell? ⟨gS, oS, none⟩ = some (.int .i64 e) := he ▸ eS
              have hi : i < nh := by rw [← HlH.out]; exact (List.getElem?_eq_some_iff.1 hip).1
              obtain ⟨gH, oH, p', Q1, q1, a1, Q2, q2, a2, rfl, hgH, hgHl, hp', eh0, eh1, eh2, hpH⟩ := (HH.out.mod HML.out (fun g _ h => h) (fun g _ h => h)).cells hi
              obtain rfl : p = p' := Option.some.inj (hip.symm.trans hp')
              have eb : Y.cell? ⟨zb, 0, none⟩ = some (.slice (some ⟨gH, oH, none⟩) nh ch) := (World.cell?_of_block (HML.out.block zb (World.block_lt_of_cell? _ _ Hcb.out) Hne.out)).trans Hcb.out
              have hi24 : i < 24 := by omega
              have xi : (i : Int) < (nh : Int) := by omega
              have xe1 : (e < 1) = False := by simp; omega
              have xe2 : (e > (nh : Int)) = False := by simp; omega
              have xe3 : e - 1 = (i : Int) := by omega
              obtain ⟨X, hX, bX, kX, sX⟩ := alloc_step Y (.cells #[.int .u8 3, .slice L1 l1 d1, .slice L2 l2 d2, .int .i64 p.bound, .slice (some ⟨gS, oS, none⟩) 1 f1, .slice none 0 0] 52)
              rw [hzx] at kX
              obtain ⟨s0, s1, s2, s3, s4, s5⟩ := sbox6 kX
              have hgX := keep_blk Hgr.out bX
              obtain ⟨g0, g1⟩ := box1 hgX
              obtain ⟨Y1, hY1⟩ : ∃ W, X.setCell ⟨gb, 0, none⟩ (.int .i64 (N : Int)) = W := ⟨_, rfl⟩
              have mY : Mod (fun g => g = gb) X Y1 := by rw [← hY1]; exact Mod.setCell (p := ⟨gb, 0, none⟩) (Mod.refl (fun g => g = gb) X) (.inl rfl) _
              have kY : ∀ {z o : Nat} {v : Value}, Y.cell? ⟨z, o, none⟩ = some v → z ≠ gb → Y1.cell? ⟨z, o, none⟩ = some v := fun h hz => (World.cell?_of_block (mY.block _ (World.block_lt_of_cell? _ _ (keep_cell h bX)) hz)).trans (keep_cell h bX)
              have hzg : zx ≠ gb := by omega
              have kZ := (mY.block zx (lt_of_block kX) hzg).trans kX
              have HpX := hid ((hpb.below bX).mod mY fun g _ h => h)
              have HpH := hid ((hpH.below bX).mod mY fun g _ h => h)
              have Hgr := hid (show Y1.heap[gb]? = some (.cells #[.int .i64 (N : Int)] 3) by rw [← hY1]; exact one_set' hgX _)
              have HML := hid ((HML.out.trans (Mod.of_below bX)).trans (mY.mono fun g _ h => .inl h))
              have HZ := hid (show Y1.cell? ⟨gS, oS, none⟩ = some (.int .i64 e) ∧ Y1.cell? ⟨zb, 0, none⟩ = some (.slice (some ⟨gH, oH, none⟩) nh ch) ∧ Y1.cell? ⟨gH, oH + i * 3, none⟩ = some (.slice Q1 q1 a1) ∧ Y1.cell? ⟨gH, oH + i * 3 + 1, none⟩ = some (.slice Q2 q2 a2) ∧ Y1.cell? ⟨gH, oH + i * 3 + 2, none⟩ = some (.int .i64 p.bound) from ⟨kY eS hgS, kY eb Hne.out, kY eh0 hgH, kY eh1 hgH, kY eh2 hgH⟩)
              have KZ := hid kZ
              have HX := hid hX
              have HY1 := hid hY1
              rw [← hX] at s0 s1 s2 s3 s4 s5 g0 g1
              clear hset hpb hpH bX kX sX hgX mY kY kZ hzg hgF hgS hgSl hgH hgHl hp' hip eS eb eh0 eh1 eh2 hX hY1 he
              go_wp2_with fail
              try rw [hzx]
              rw [HX.out, HY1.out]
              clear s0 s1 s2 s3 s4 s5 g0 g1 HX HY1 e0 e1 e2 e3 e4 e5
              obtain ⟨eS, eb, eh0, eh1, eh2⟩ := HZ.out
              obtain ⟨s0, s1, s2, s3, s4, s5⟩ := sbox6 KZ.out
              have xw : IntKind.i64.wrap (i : Int) = (i : Int) := iw' (by omega) (by omega)
              refine wp_region_held_drew (S := fun w' => w'.cell? ⟨zx, 1, none⟩ = some (.slice L1 l1 d1) ∧ w'.cell? ⟨zx, 2, none⟩ = some (.slice L2 l2 d2) ∧ w'.cell? ⟨zx, 3, none⟩ = some (.int .i64 p.bound) ∧ w'.cell? ⟨zx, 4, none⟩ = some (.slice (some ⟨gS, oS, none⟩) 1 f1) ∧ w'.cell? ⟨gS, oS, none⟩ = some (.int .i64 e) ∧ w'.cell? ⟨zb, 0, none⟩ = some (.slice (some ⟨gH, oH, none⟩) nh ch) ∧ w'.cell? ⟨gH, oH + i * 3, none⟩ = some (.slice Q1 q1 a1) ∧ w'.cell? ⟨gH, oH + i * 3 + 1, none⟩ = some (.slice Q2 q2 a2) ∧ w'.cell? ⟨gH, oH + i * 3 + 2, none⟩ = some (.int .i64 p.bound)) (by kernel_rfl) ⟨s1, s2, s3, s4, eS, eb, eh0, eh1, eh2⟩ (fun hHeld => ?_)
              obtain ⟨WD, hWD⟩ : ∃ Y, Y1.drew = Y := ⟨_, rfl⟩
              have bD : Below Y1.heap.size Y1 Y1.drew := Bl.drew (Below.refl _ _)
              have HpX := hid (HpX.out.below bD)
              have HpH := hid (HpH.out.below bD)
              have Hgr := hid (keep_blk Hgr.out bD)
              have HML := hid (HML.out.trans (Mod.of_below bD))
              rw [hWD] at hHeld HpX HpH Hgr HML ⊢
              clear hWD bD
              refine tk 0 ?_
              refine tk 1 ?_
              refine tk 2 ?_
              refine tk 3 ?_
              refine tk 4 ?_
              refine tk 5 ?_
              refine tk 6 ?_
              refine tk 7 ?_
              refine tk 8 ?_
              refine tk 9 ?_
              refine tk 10 ?_
              refine tk 11 ?_
              refine tk 12 ?_
              refine tk 13 ?_
              refine tk 14 ?_
              refine tk 15 ?_
              refine tk 16 ?_
              refine tk 17 ?_
              refine tk 18 ?_
              refine tk 19 ?_
              refine tk 20 ?_
              refine tk 21 ?_
              refine tk 22 ?_
              refine tk 23 ?_
              refine tk 24 ?_
              refine tk 25 ?_
              refine tk 26 ?_
              refine tk 27 ?_
              refine tk 28 ?_
              refine tk 29 ?_
              refine tk 30 ?_
              refine wpAnyH_ready (rs := [31]) (by kernel_rfl) (by simp) (AllReadyH.cons (o := ⟨_, _, _, _, _, _⟩) rfl (fun K hK => ?_) AllReadyH.nil)
              go_simp
              refine (equal_any HpX.out HpH.out).mono ?_
              rintro r w9 ⟨rfl, b9⟩
              rw [show p.same p = true by unfold Pb.same; simp]
              have Hgr := hid (keep_blk Hgr.out b9)
              have HML := hid (HML.out.trans (Mod.of_below b9))
              obtain ⟨s1, s2, s3, s4, eS, eb, eh0, eh1, eh2⟩ := hHeld
              have kc : ∀ {a : Addr} {v : Value}, WD.cell? a = some v → w9.cell? a = some v := fun h => keep_cell h b9
              go_simp
              refine hK.out _ _ ⟨kc s1, kc s2, kc s3, kc s4, kc eS, kc eb, kc eh0, kc eh1, kc eh2⟩ (fun hHeld => ?_)
              clear hK K b9 kc
              try simp only [Act.put, List.setIfInBounds_toArray, List.set_cons_zero, List.set_cons_succ]
              refine tk 32 ?_
              refine tk 33 ?_
              refine wpAnyH_done (by kernel_rfl) ?_ _
              clear hHeld
              clear xw xe1 xe2 xe3
              go_wp2_with fail
              go_roundw
              case rel => exact ⟨j + 1, by omega, by go_num, by rw [HN.out]; exact Hgr, HML⟩
              case measure => simp [intOf]; omega
          · have y1 : ¬ ((j : Int) < (L : Int)) := by omega
            have hz : ((new.drop j).countP fun s => s.kind == 3) = 0 := by rw [List.drop_of_length_le (by rw [HL.out]; omega)]; rfl
            rw [hz] at Hgr
            obtain ⟨g0, g1⟩ := box1 Hgr.out
            have HB := hid (below_mod HB.out HB.out.size HML.out fun g hg => hg ▸ hgw.out)
            clear HML Hgr
            go_wp2_with fail
            refine awake32_any.mono ?_
            rintro r w9 ⟨rfl, b9⟩
            have HB := hid (HB.out.trans (b9.mono HB.out.size))
            clear b9
            go_wp2_with fail
            go_ret
            exact ⟨rfl, HB.out⟩
end Go.Proofs.YtcjmpobccbnpkaaGreat
