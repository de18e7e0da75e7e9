/-
 Chapter 32: several texts in one (SgA SeL).
-/
import Derived.Test.YtcjmpobccbnpkaaGreatMjbo
import Derived.Test.YtcjmpobccbnpkaaGreatMjax
import Derived.Test.YtcjmpobccbnpkaaGreatMjaf
import Derived.Test.YtcjmpobccbnpkaaGreatMjbg
import Derived.Test.YtcjmpobccbnpkaaGreatMjaq
import Derived.Test.YtcjmpobccbnpkaaGreatTk
import Derived.Test.YtcjmpobccbnpkaaGreatTkU
namespace Go.Proofs.YtcjmpobccbnpkaaGreat
set_option maxRecDepth 100000
set_option maxHeartbeats 8000000
section
open Go.RowKit
theorem Srch.new {asm : List Int} {n : Nat} (hn : n ≤ 8) : Srch asm [] [] ⟨n, [], []⟩ where
 wf := ⟨by show n ≤ 65536; omega, (fun e he => by cases he), List.nodup_nil, List.Pairwise.nil, (fun s hs => by cases hs), (fun i e he => by simp at he), (fun i e he => by simp at he)⟩
 few := hn
 ok := fun p hp => by cases hp
 lits := fun p hp => by cases hp
 rs := fun e he => by cases he
 pre := PreOk.none rfl
 da := DA.none rfl
 sub := fun p hp => by cases hp
 short := fun e he => by cases he
theorem Base.new {n : Nat} (hn : n ≤ 8) : Base n ⟨n, ⟨n, [], []⟩, ⟨n, [], [], 0⟩, []⟩ := ⟨rfl, rfl, rfl, [], [], Srch.new hn⟩
theorem snew_any {w : World} {n : Nat} (hn : n ≤ 65536) :
  Calls Tryz.prog 13 #[.int .i64 n] w fun r w' => (∃ sb, r = .returned (.tuple #[.pointer (some ⟨sb, 0, none⟩), .int .i64 0]) ∧ ∃ tb eb ob pm, SolP w' (fun g => w.heap.size ≤ g) sb tb eb ob pm ⟨n, ⟨n, [], []⟩, ⟨n, [], [], 0⟩, []⟩) ∧ Below w.heap.size w w' := by
 have hmm := @run_makeMap Tryz.prog
 have h0 : ¬ ((n : Int) < 0) := by omega
 have h1 : ¬ ((n : Int) > 65536) := by omega
 go_enter Tryz.func13, Tryz.ntmps13
 go_wp2_with fail
 refine (new_ok hn).mono ?_
 rintro r w1 ⟨⟨tb, rfl, ht⟩, b1⟩
 have s1 := b1.size
 have Ht := hid ht.restrict
 have B1 := hid b1
 clear ht b1
 go_wp2_with fail
 refine (enew_ok hn).mono ?_
 rintro r w2 ⟨⟨eb, rfl, he⟩, b2⟩
 have s2 := b2.size
 have He := hid (show Engine w2 (fun g => w1.heap.size ≤ g ∧ g < w2.heap.size) eb ⟨n, [], [], 0⟩ from by
  obtain ⟨ok, m, es, clock, vl, vs, ts, h1⟩ := he
  exact ⟨ok, m, es, clock, vl, vs, ts, h1.restrict⟩)
 have Ht := hid (Ht.o.below b2)
 have B2 := hid (B1.o.trans (b2.mono B1.o.size))
 clear he b2 B1
 go_wp2_with fail
 refine (onew_any hn).mono ?_
 rintro r w3 ⟨ob, rfl, ho, b3⟩
 have s3 := b3.size
 have Ho := hid ho.restrict
 have He := hid (He.o.below b3)
 have Ht := hid (Ht.o.below b3)
 have B3 := hid (B2.o.trans (b3.mono B2.o.size))
 obtain ⟨X4, hX4, bX4, kX4, sX4⟩ := alloc_step w3 (.map #[] 0)
 obtain ⟨X5, hX5, bX5, kX5, sX5⟩ := alloc_step X4 (.cells #[.int .i64 n, .pointer (some ⟨tb, 0, none⟩), .pointer (some ⟨eb, 0, none⟩), .pointer (some ⟨ob, 0, none⟩), .map (some w3.heap.size), .slice none 0 0] 31)
 have HX4 := hid hX4
 have HX5 := hid hX5
 have kX4' := keep_blk kX4 bX5
 have Hb := hid (bX4.trans (bX5.mono bX4.size))
 have K4 := hid kX4'
 have K5 := hid kX5
 clear ho b3 B2 hX4 hX5 bX4 bX5 kX4 kX4' kX5
 go_wp2_with fail
 rw [HX4.o, HX5.o]
 try rw [sX4]
 go_ret2
 have hsz := B3.o.size
 refine ⟨⟨w3.heap.size + 1, rfl, tb, eb, ob, w3.heap.size, .slice none 0 0, [], _, fun g => (w1.heap.size ≤ g ∧ g < w2.heap.size) ∨ (w.heap.size ≤ g ∧ g < w1.heap.size), fun g => w2.heap.size ≤ g ∧ g < w3.heap.size, fun _ => False, {
  blk := by rw [← sX4]; exact K5.o
  et := ⟨_, _, He.o.below Hb.o, Ht.o.below Hb.o, fun g hg => .inl hg, fun g hg => .inr hg, fun g hg hf => by omega⟩
  ord := Ho.o.below Hb.o
  ph := ⟨#[], 0, K4.o, fun x hx => by cases hx⟩
  log := Own.nil _ _ _ _
  sts := Sts.nil _ _
  de := fun g hg => ⟨by omega, by omega, by omega, by omega, (by rw [row_none]; exact id), id⟩
  do_ := fun g hg => ⟨by omega, by omega, by omega, (by rw [row_none]; exact id), id⟩
  dq := fun g hg => hg.elim
  dp := by omega }, by omega, by omega, fun g hg => by omega, fun g hg => by omega, fun g hg => hg.elim, fun g hg => by rw [row_none] at hg; exact hg.elim⟩, B3.o.trans (Hb.o.mono B3.o.size)⟩
theorem fitsB_iff {n : Nat} {c : Pb} : fitsB n c = true ↔ c.Ok ∧ ∀ l ∈ c.lits, l.natAbs ≤ n := by
 unfold fitsB
 rw [Bool.and_eq_true, Bool.not_eq_true', List.any_eq_false, Pb.ok_iff]
 constructor
 ·exact fun h => ⟨h.1, fun l hl => by have := h.2 l hl; simp at this; exact this.2⟩
 ·refine fun h => ⟨h.1, fun l hl => ?_⟩
  have h1 := h.2 l hl
  obtain ⟨j, hj, e⟩ := List.getElem_of_mem hl
  have h2 := h.1.lit0 hj
  rw [nth_eq hj, e] at h2
  simp [h1, h2]
theorem Base.add {n : Nat} {S : Sol} (h : Base n S) {c : Pb} (hc : fitsB n c = true) : Base n ⟨S.vars, S.T.back 0, S.E.add c, S.log⟩ := by
 obtain ⟨asm, G, hs⟩ := h.srch
 obtain ⟨h1, h2⟩ := fitsB_iff.1 hc
 exact ⟨h.sv, h.ev, (Tr.back_vars _ _).trans h.tv, asm, G, (hs.back 0).add h1 (by rw [Tr.back_vars, h.tv]; exact h2)⟩
theorem sadd_any {w : World} {F G : Nat → Prop} {sb tb eb ob pm n : Nat} {S : Sol} {v : Value} {c : Pb} (h : SolP w F sb tb eb ob pm S) (hB : Base n S) (hn : n ≤ 65536) (hc : PbRd w G v c) (hic : ∀ k ∈ c.coefs, I64 k) (hGF : ∀ g, G g → ¬ F g) (hlen : S.E.cs.length ≤ 500000) :
  Calls Tryz.prog 11 #[.pointer (some ⟨sb, 0, none⟩), v] w fun r w' => r = .returned (.int .i64 (if fitsB n c = true then 0 else 2)) ∧ (∃ F', SolP w' F' sb tb eb ob pm (if fitsB n c = true then ⟨S.vars, S.T.back 0, S.E.add c, S.log⟩ else S) ∧ ∀ g, F' g → g < w'.heap.size ∧ (F g ∨ w.heap.size ≤ g)) ∧ Mod F w w' := by
 obtain ⟨⟨A, n0, cn, B, m0, cm, rfl, hx, hk⟩, hbd⟩ := hc
 obtain ⟨Z, hZ⟩ : ∃ z, w.heap.size = z := ⟨_, rfl⟩
 obtain ⟨X1, hX1, bX1, k1, s1⟩ := alloc_step w (.cells #[.slice A n0 cn, .slice B m0 cm, .int .i64 c.bound] 41)
 have HX1 := hid hX1
 rw [hZ] at k1 s1
 have B1 := hid bX1
 obtain ⟨p0, p1, p2⟩ := box3 k1
 have K1 := hid k1
 have H := hid (h.restrict.below bX1)
 have Hc := hid (show PbRd X1 (fun g => G g ∧ g < w.heap.size) (.agg #[.slice A n0 cn, .slice B m0 cm, .int .i64 c.bound]) c from ⟨⟨A, n0, cn, B, m0, cm, rfl, (hx.mono fun g hg h => ⟨h, hg⟩).below bX1, (hk.mono fun g hg h => ⟨h, hg⟩).below bX1⟩, hbd⟩)
 have Hic := hid hic
 have HB := hid hB
 obtain ⟨z0, z1, z2, z3, z4⟩ := H.o.six
 have hsv : S.vars ≤ 65536 := by rw [hB.sv]; exact hn
 obtain ⟨ez, hez⟩ : ∃ e : Int, (if fitsB n c = true then 0 else 2) = e := ⟨_, rfl⟩
 obtain ⟨SS, hSS⟩ : ∃ SS : Sol, (if fitsB n c = true then ⟨S.vars, S.T.back 0, S.E.add c, S.log⟩ else S) = SS := ⟨_, rfl⟩
 rw [hez, hSS]
 have Hez := hid hez
 have HSS := hid hSS
 clear hx hk k1 bX1 hX1 hic hB h hez hSS
 go_enter Tryz.func11, Tryz.ntmps11
 go_wp2_with fail
 rw [HX1.o]
 try rw [hZ]
 go_wp2_with fail
 refine (snone_no z1).mono ?_
 rintro r w2 ⟨rfl, rfl⟩
 go_wp2_with fail
 refine (sfits_any z0 H.o.blocks.2.1 hsv Hc.o Hic.o).mono ?_
 rintro r w3 ⟨rfl, b3⟩
 have hsn := HB.o.sv
 obtain ⟨fq, hfq⟩ : ∃ q, fitsB n c = q := ⟨_, rfl⟩
 rw [hsn, hfq]
 have Hfq := hid hfq
 have H := hid (H.o.below b3)
 have Hc := hid (Hc.o.below b3)
 have K1 := hid (keep_blk K1.o b3)
 have B3 := hid (B1.o.trans (b3.mono B1.o.size))
 have s3 := b3.size
 clear b3 hfq B1
 cases fq with
 | false =>
  go_wp2_with fail
  go_ret
  have e1 := Hez.o
  have e2 := HSS.o
  rw [Hfq.o, if_neg (by simp)] at e1 e2
  rw [← e1, ← e2]
  exact ⟨rfl, ⟨_, H.o.restrict, fun g hg => ⟨hg.2, .inl hg.1.1⟩⟩, Mod.of_below B3.o⟩
 | true =>
  go_wp2_with fail
  refine (sundo_any H.o 0).mono ?_
  rintro r w4 ⟨⟨v4, rfl⟩, h4, m4⟩
  have hl0 : lvl 0 = 0 := rfl
  rw [hl0] at h4
  have s4 := m4.size
  obtain ⟨F4, h4, hF4⟩ := h4.pack
  have hsz := B3.o.size
  have HF4 := hid (show ∀ g, F4 g → g < w4.heap.size ∧ ((F g ∧ g < w.heap.size) ∨ w3.heap.size ≤ g) from hF4)
  have Hc := hid (Hc.o.mod m4 fun g _ hg hf => hGF g hg.1 hf.1)
  have K1 := hid ((m4.block _ (lt_of_block K1.o) fun e => by have := e.2; omega).trans K1.o)
  have M4 := hid ((Mod.of_below (F := F) B3.o).trans (m4.mono fun g _ h => .inl h.1))
  have H4 := hid h4
  obtain ⟨p0, p1, p2⟩ := box3 K1.o
  obtain ⟨z0, z1, z2, z3, z4⟩ := h4.six
  have HEfit : Hid (S.E.fits c = true) := hid (by
   obtain ⟨f1, f2⟩ := fitsB_iff.1 Hfq.o
   exact fits_of f1 (by rw [HB.o.ev]; exact f2))
  clear h4 hF4 m4
  go_wp2_with fail
  refine wp_region_held_drew (S := fun w' => w'.cell? ⟨sb, 2, none⟩ = some (.pointer (some ⟨eb, 0, none⟩)) ∧ w'.cell? ⟨Z, 0, none⟩ = some (.slice A n0 cn) ∧ w'.cell? ⟨Z, 1, none⟩ = some (.slice B m0 cm) ∧ w'.cell? ⟨Z, 2, none⟩ = some (.int .i64 c.bound)) (by kernel_rfl) ⟨z2, p0, p1, p2⟩ (fun hHeld => ?_)
  obtain ⟨WD, hWD⟩ : ∃ Y, w4.drew = Y := ⟨_, rfl⟩
  have bD : Below w4.heap.size w4 w4.drew := Bl.drew (Below.refl _ _)
  have H4 := hid (H4.o.below bD)
  have Hc := hid (Hc.o.below bD)
  have M4 := hid (M4.o.trans (Mod.of_below bD))
  have K1 := hid (keep_blk K1.o bD)
  have sD := bD.size
  rw [hWD] at hHeld H4 Hc M4 K1 sD ⊢
  clear hWD bD
  refine tk 0 ?_
  refine tk 1 ?_
  refine tk 2 ?_
  refine tk 3 ?_
  refine tk 4 ?_
  refine rd1 5 fun K hK => ?_
  go_simp
  refine (s_add H4.o Hc.o Hic.o (fun g hg hf => by rcases (HF4.o g hf).2 with h | h <;> first | exact hGF g hg.1 h.1 | omega) hlen).mono ?_
  rintro r w5 ⟨rfl, h5, m5⟩
  rw [if_pos HEfit.o] at h5 ⊢
  have K1 := hid ((m5.block _ (lt_of_block K1.o) fun e => by rcases (HF4.o _ e).2 with h | h <;> omega).trans K1.o)
  obtain ⟨p0, p1, p2⟩ := box3 K1.o
  obtain ⟨z0, z1, z2, z3, z4⟩ := h5.six
  go_simp
  refine hK.out _ _ ⟨z2, p0, p1, p2⟩ (fun hHeld => ?_)
  clear hK K
  have H5 := hid h5
  have M5 := hid (M4.o.trans (m5.mono (G := fun g => F g ∨ w.heap.size ≤ g) fun g _ h => by rcases (HF4.o g h).2 with h | h <;> first | exact .inl h.1 | exact .inr (by omega)))
  clear h5 m5
  refine tk 6 ?_
  refine wpAnyH_done (by kernel_rfl) ?_ _
  try go_wp2_with fail
  go_ret
  obtain ⟨F5, h5, hF5⟩ := H5.o.pack
  have e1 := Hez.o
  have e2 := HSS.o
  rw [Hfq.o, if_pos rfl] at e1 e2
  rw [← e1, ← e2]
  refine ⟨rfl, ⟨F5, h5, fun g hg => ⟨(hF5 g hg).1, ?_⟩⟩, M5.o⟩
  rcases (hF5 g hg).2 with h | h
  ·exact (HF4.o g h).2.imp (fun h => h.1) fun h => by omega
  ·exact .inr (by omega)
end
section
open Go.RowKit
theorem small32_any {w : World} {F : Nat → Prop} {A B C : Option Addr} {n cA m cB q cC : Nat} {lls kks : List (List Int)} {bs : List Int} (hl : LsRd w F A n cA lls) (hk : LsRd w F B m cB kks) (hb : Rd w F 1 (.slice C q cC) q (ints bs)) :
  Calls Tryz.prog 14 #[.slice A n cA, .slice B m cB, .slice C q cC] w fun r w' => GivesPs w w' r (small7 lls kks bs (min lls.length 24)) := by
 obtain ⟨Q, hQ⟩ : ∃ Q, min n 24 = Q := ⟨_, rfl⟩
 have hnl : lls.length = n := by obtain ⟨_, _, h, _⟩ := hl; exact h
 have hmk : kks.length = m := by obtain ⟨_, _, h, _⟩ := hk; exact h
 have hbq : bs.length = q := hb.cell.1
 have HQl := hid (show min lls.length 24 = Q by rw [hnl]; exact hQ)
 have hmin : ∀ w, (Builtin.min_ #[3, 3] 3 #[.int .i64 (n : Int), .int .i64 24]).run Tryz.prog w = .ok (.int .i64 (Q : Int)) w := fun w => by rw [run_min]; congr 2; omega
 obtain ⟨hcap, hmx, hA0⟩ := hl.spot
 obtain ⟨A2, hA2, hsl⟩ := slices_to (A := A) (n := n) (c := cA) (i := Q) hA0 (by omega) hcap
 have HL := hid (hl.to (show Q ≤ n by omega) hA2)
 have HK := hid hk
 have HB := hid hb
 have Hmk := hid hmk
 have Hbq := hid hbq
 have hQ24 : Q ≤ 24 := by omega
 have hmm : m ≤ 9223372036854775807 := by have h := hk.spot; have h1 := h.1; have h2 := h.2.1; unfold maxLen at h2; omega
 have hqq : q ≤ 9223372036854775807 := by have h := rd_spot hb; have h1 := h.1; have h2 := h.2.1; unfold maxLen at h2; omega
 clear hl hk hb hQ hA0 hA2 hcap hmx hnl hmk hbq
 go_enter Tryz.func14, Tryz.ntmps14
 go_wp2_with fail
 go_loopw [7, 24] (fun vo iv W => ∃ (i : Nat) (Ao : Option Addr) (no co : Nat) (ts : List (Value × Value × Value)), i ≤ Q ∧ iv = .int .i64 i ∧ vo = .slice Ao no co ∧ Hid (Dbg w.heap.size (fun g => w.heap.size ≤ g) W Ao no co ts (small7 lls kks bs i)) ∧ Hid (Below w.heap.size w W)) (fun _ iv _ => Q - (intOf iv).toNat)
 case atStart => exact ⟨0, none, 0, 0, [], Nat.zero_le _, rfl, rfl, hid (Dbg.nil _ _ _), hid (Below.refl _ _)⟩
 case round =>
  obtain ⟨V, rfl⟩ : ∃ V, V = wr := ⟨_, rfl⟩
  obtain ⟨i, Ao, no, co, ts, hi, rfl, rfl, HD, HBw⟩ := hrel
  by_cases hlt : i < Q
  ·have x1 : (i : Int) < (Q : Int) := by omega
   have hno : no ≤ i := by rw [← HD.o.len]; exact small7_len _ _ _ _
   obtain ⟨gL, oL, l, R, d, rfl, hgL, hl?, eL, hR⟩ := (HL.o.below HBw.o).cells hlt
   have Hll : Hid (lisAt lls i = l) := hid (lisAt_get (by rw [List.getElem?_take, if_pos hlt] at hl?; exact hl?))
   obtain ⟨z, hz⟩ : ∃ z, l.length = z := ⟨_, rfl⟩
   rw [hz] at eL hR
   obtain ⟨q2, hq2⟩ : ∃ q2, min z 8 = q2 := ⟨_, rfl⟩
   have hmin2 : ∀ w, (Builtin.min_ #[3, 3] 3 #[.int .i64 (z : Int), .int .i64 8]).run Tryz.prog w = .ok (.int .i64 (q2 : Int)) w := fun w => by rw [run_min]; congr 2; omega
   obtain ⟨hcap, hmx, hA0⟩ := rd_spot hR
   obtain ⟨R2, hR2, hsl2⟩ := ints_to (A := R) (n := z) (c := d) (i := q2) hA0 (by omega) hcap
   have HR := hid (rd_to hR (show q2 ≤ z by omega) hR2)
   rw [← ints_take] at HR
   have Hq2 := hid (show min (lisAt lls i).length 8 = q2 by rw [Hll.o, hz]; exact hq2)
   have hq28 : q2 ≤ 8 := by omega
   have Hlq := hid (show q2 ≤ l.length by omega)
   clear hl? hR hR2 hA0 hcap hmx hq2 hz
   go_wp2_with fail
   go_loopw [10, 11, 35] (fun vl vc iv W => ∃ (j : Nat) (sm : List (Int × Int)) (A1 : Option Addr) (c1 : Nat) (A2 : Option Addr) (c2 : Nat), j ≤ q2 ∧ iv = .int .i64 j ∧ vl = .slice A1 sm.length c1 ∧ vc = .slice A2 sm.length c2 ∧ Hid (sm = row7 l (lisAt kks i) j) ∧
    Hid (Pr V.heap.size V W (.slice A1 sm.length c1) (.slice A2 sm.length c2) sm.length sm.length (ints (sm.map Prod.fst)) (ints (sm.map Prod.snd)))) (fun _ _ iv _ => q2 - (intOf iv).toNat)
   case atStart => exact ⟨0, [], none, 0, none, 0, Nat.zero_le _, rfl, rfl, rfl, hid rfl, hid (Pr.start V)⟩
   case round =>
    obtain ⟨j, sm, A1, c1, A2, c2, hj, rfl, rfl, rfl, Hsm, Tq⟩ := hrel
    have hslen : sm.length ≤ j := by rw [Hsm.o]; exact row7_len _ _ _
    have HBr := hid (below_on HBw.o (Nat.le_refl _) Tq.o.2.2.2.1)
    by_cases hjl : j < q2
    ·have x2 : (j : Int) < (q2 : Int) := by omega
     obtain ⟨g, o, rfl, _, hg, hc1⟩ := (HR.o.below Tq.o.2.2.2.1).cell.2 j hjl
     rw [show nth (l.take q2) j = nth l j by simp [nth, hjl]] at hc1
     obtain ⟨vv, hvv⟩ : ∃ v, Int.tmod (nth l j) 8 = v := ⟨_, rfl⟩
     have Hs := hid (row7_succ l (lisAt kks i) j)
     by_cases hv0 : vv = 0
     ·have Hv := hid hvv
      subst hv0
      have Hat := hid (show (at7 l (lisAt kks i) j).1 = 0 from hvv)
      go_wp2_with fail
      go_roundw
      case rel => exact ⟨j + 1, sm, A1, c1, A2, c2, by omega, by go_num, rfl, rfl, hid (by rw [Hs.o, Hsm.o, Hat.o]; simp), Tq⟩
      case measure => simp [intOf]; omega
     ·have t3 : (vv != 0) = true := by simpa using hv0
      have t4 : (vv == 0) = false := by simpa using hv0
      have Hv0 := hid hv0
      by_cases him : i < m
      ·have x3 : (i : Int) < (m : Int) := by omega
       obtain ⟨gK, oK, ks, RK, dK, rfl, hgK, hks, eK, hRK⟩ := (HK.o.below HBr.o).cells him
       have Hks := hid (lisAt_get hks)
       obtain ⟨kl, hkl⟩ : ∃ z, ks.length = z := ⟨_, rfl⟩
       rw [hkl] at eK hRK
       have hkm : kl ≤ 9223372036854775807 := by have h := rd_spot hRK; have h1 := h.1; have h2 := h.2.1; unfold maxLen at h2; omega
       by_cases hjk : j < kl
       ·have x4 : (j : Int) < (kl : Int) := by omega
        obtain ⟨g', o', rfl, _, hg', hc2⟩ := hRK.cell.2 j hjk
        obtain ⟨kk, hkk⟩ : ∃ v, Int.tmod (nth ks j) 6 = v := ⟨_, rfl⟩
        have Hat := hid (show at7 l (lisAt kks i) j = (vv, kk) by unfold at7; rw [Hks.o, if_pos (by rw [hkl]; exact hjk), hvv, hkk])
        clear hRK hks hkl hv0
        go_wp2_with (first
         | (at_builtin; refine wpList_append_ints rfl _ _ rfl (Tq.o.alloc (.cells #[.int .i64 vv] 3)).1 (own_one wr (.int .i64 vv)).rd rfl rfl (by simp [Value.oneCell']) (by omega) ?_; intro Av3 cv3 W3 ho3 hm3 hr3; have T3 := hid ((Tq.o.alloc (.cells #[.int .i64 vv] 3)).push ho3 hm3 hr3); clear ho3 hm3 hr3)
         | (at_builtin; refine wpList_append_ints rfl _ _ rfl (T3.o.alloc (.cells #[.int .i64 kk] 3)).swap.1 (own_one W3 (.int .i64 kk)).rd rfl rfl (by simp [Value.oneCell']) (by omega) ?_; intro Av7 cv7 W7 ho7 hm7 hr7; have T7 := hid ((T3.o.alloc (.cells #[.int .i64 kk] 3)).swap.push ho7 hm7 hr7).swap; clear ho7 hm7 hr7))
        go_roundw
        case rel =>
         have e9 : row7 l (lisAt kks i) (j + 1) = sm ++ [(vv, kk)] := by rw [Hs.o, Hat.o, if_pos Hv0.o, Hsm.o]
         refine ⟨j + 1, row7 l (lisAt kks i) (j + 1), Av3, cv3, Av7, cv7, by omega, by go_num, ?_, ?_, hid rfl, ?_⟩
         ·rw [e9, List.length_append]; rfl
         ·rw [e9, List.length_append]; rfl
         ·rw [e9, List.length_append, List.map_append, List.map_append, ints_append, ints_append]
          exact T7
        case measure => simp [intOf]; omega
       ·have x4 : ¬ ((j : Int) < (kl : Int)) := by omega
        have Hat := hid (show at7 l (lisAt kks i) j = (vv, 1) by unfold at7; rw [Hks.o, if_neg (by rw [hkl]; exact hjk), hvv])
        clear hRK hks hkl hv0
        go_wp2_with (first
         | (at_builtin; refine wpList_append_ints rfl _ _ rfl (Tq.o.alloc (.cells #[.int .i64 vv] 3)).1 (own_one wr (.int .i64 vv)).rd rfl rfl (by simp [Value.oneCell']) (by omega) ?_; intro Av3 cv3 W3 ho3 hm3 hr3; have T3 := hid ((Tq.o.alloc (.cells #[.int .i64 vv] 3)).push ho3 hm3 hr3); clear ho3 hm3 hr3)
         | (at_builtin; refine wpList_append_ints rfl _ _ rfl (T3.o.alloc (.cells #[.int .i64 1] 3)).swap.1 (own_one W3 (.int .i64 1)).rd rfl rfl (by simp [Value.oneCell']) (by omega) ?_; intro Av7 cv7 W7 ho7 hm7 hr7; have T7 := hid ((T3.o.alloc (.cells #[.int .i64 1] 3)).swap.push ho7 hm7 hr7).swap; clear ho7 hm7 hr7))
        go_roundw
        case rel =>
         have e9 : row7 l (lisAt kks i) (j + 1) = sm ++ [(vv, 1)] := by rw [Hs.o, Hat.o, if_pos Hv0.o, Hsm.o]
         refine ⟨j + 1, row7 l (lisAt kks i) (j + 1), Av3, cv3, Av7, cv7, by omega, by go_num, ?_, ?_, hid rfl, ?_⟩
         ·rw [e9, List.length_append]; rfl
         ·rw [e9, List.length_append]; rfl
         ·rw [e9, List.length_append, List.map_append, List.map_append, ints_append, ints_append]
          exact T7
        case measure => simp [intOf]; omega
      ·have x3 : ¬ ((i : Int) < (m : Int)) := by omega
       have Hat := hid (show at7 l (lisAt kks i) j = (vv, 1) by unfold at7; rw [lisAt_none (by rw [Hmk.o]; omega), if_neg (by simp), hvv])
       clear hv0
       go_wp2_with (first
        | (at_builtin; refine wpList_append_ints rfl _ _ rfl (Tq.o.alloc (.cells #[.int .i64 vv] 3)).1 (own_one wr (.int .i64 vv)).rd rfl rfl (by simp [Value.oneCell']) (by omega) ?_; intro Av3 cv3 W3 ho3 hm3 hr3; have T3 := hid ((Tq.o.alloc (.cells #[.int .i64 vv] 3)).push ho3 hm3 hr3); clear ho3 hm3 hr3)
        | (at_builtin; refine wpList_append_ints rfl _ _ rfl (T3.o.alloc (.cells #[.int .i64 1] 3)).swap.1 (own_one W3 (.int .i64 1)).rd rfl rfl (by simp [Value.oneCell']) (by omega) ?_; intro Av7 cv7 W7 ho7 hm7 hr7; have T7 := hid ((T3.o.alloc (.cells #[.int .i64 1] 3)).swap.push ho7 hm7 hr7).swap; clear ho7 hm7 hr7))
       go_roundw
       case rel =>
        have e9 : row7 l (lisAt kks i) (j + 1) = sm ++ [(vv, 1)] := by rw [Hs.o, Hat.o, if_pos Hv0.o, Hsm.o]
        refine ⟨j + 1, row7 l (lisAt kks i) (j + 1), Av3, cv3, Av7, cv7, by omega, by go_num, ?_, ?_, hid rfl, ?_⟩
        ·rw [e9, List.length_append]; rfl
        ·rw [e9, List.length_append]; rfl
        ·rw [e9, List.length_append, List.map_append, List.map_append, ints_append, ints_append]
         exact T7
       case measure => simp [intOf]; omega
    ·have x2 : ¬ ((j : Int) < (q2 : Int)) := by omega
     have Hje := hid (show j = q2 by omega)
     have Hrw := hid (show rw7 lls kks i = sm by unfold rw7; rw [Hq2.o, ← Hje.o, Hll.o]; exact Hsm.o.symm)
     have Hi1 := hid (fun x (hx : x ∈ sm.map Prod.fst) => show I64 x by
      obtain ⟨p, hp, rfl⟩ := List.mem_map.1 hx
      rw [Hsm.o] at hp
      have := row7_mem hp
      unfold I64; omega)
     have Hi2 := hid (fun x (hx : x ∈ sm.map Prod.snd) => show I64 x by
      obtain ⟨p, hp, rfl⟩ := List.mem_map.1 hx
      rw [Hsm.o] at hp
      have := row7_mem hp
      unfold I64; omega)
     have HDj := hid (HD.o.below Tq.o.2.2.2.1)
     have Hsu := hid (small7_succ lls kks bs i)
     obtain ⟨b, hbb⟩ : ∃ b, bd7 bs i = b := ⟨_, rfl⟩
     have hb64 : I64 b := by
      have := tmod_lim (nth bs i) (m := 12) (by decide)
      rw [← hbb]
      unfold bd7 I64
      split <;> omega
     have Hb64 := hid hb64
     obtain ⟨NR, hNR⟩ : ∃ R, normed (sm.map Prod.fst) (sm.map Prod.snd) b = R := ⟨_, rfl⟩
     have Hsm7 := hid (show sm7 lls kks bs i = NR by unfold sm7; rw [Hrw.o, hbb]; exact hNR)
     have HNR := hid hNR
     have Hnx := hid (show small7 lls kks bs (i + 1) = small7 lls kks bs i ++ (if NR.2 = 0 then [NR.1] else []) by rw [Hsu.o, Hsm7.o])
     clear hNR hb64
     have hbc : (i < q ∧ Int.tmod (nth bs i) 12 = b) ∨ (¬ i < q ∧ b = 1) := by
      by_cases hiq : i < q
      ·exact .inl ⟨hiq, by rw [← hbb]; unfold bd7; rw [if_pos (by rw [Hbq.o]; exact hiq)]⟩
      ·exact .inr ⟨hiq, by rw [← hbb]; unfold bd7; rw [if_neg (by rw [Hbq.o]; exact hiq)]⟩
     clear hbb
     rcases hbc with ⟨hiq, hbt⟩ | ⟨hiq, hb1⟩
     ·have x5 : (i : Int) < (q : Int) := by omega
      obtain ⟨gB, oB, rfl, _, hgB, eB⟩ := (HB.o.below HBr.o).cell.2 i hiq
      go_wp2_with fail
      refine (norm_any Tq.o.1.rd Tq.o.2.1.rd Hi1.o Hi2.o Hb64.o).mono ?_
      rintro r w1 ⟨⟨pv, rfl, hpv⟩, b1⟩
      rw [HNR.o] at hpv ⊢
      obtain ⟨⟨P1, n1, d1, P2, n2, d2, rfl, r1, r2⟩, hbd⟩ := hpv
      have hpv : PbRd w1 (fun g => wr.heap.size ≤ g) (agg3 (.slice P1 n1 d1, .slice P2 n2 d2, .int .i64 NR.1.bound)) NR.1 := ⟨⟨P1, n1, d1, P2, n2, d2, rfl, r1, r2⟩, hbd⟩
      have hws : w.heap.size ≤ wr.heap.size := HBr.o.size
      have hw1 := b1.size
      obtain ⟨X1, hX1, bX1, kX1, sX1⟩ := alloc_step w1 (.cells #[.slice P1 n1 d1, .slice P2 n2 d2, .int .i64 NR.1.bound] 41)
      have HX1 := hid hX1
      have BX1 := hid bX1
      have HBw1 := hid (below_on HBr.o (Nat.le_refl _) b1)
      have HDw1 := hid (HDj.o.below b1)
      have HPw1 := hid hpv
      have SX1 := hid sX1
      clear hX1 bX1 kX1 sX1 b1 r1 r2 hbd hpv
      by_cases he0 : NR.2 = 0
      ·have Hnx2 := hid (show small7 lls kks bs (i + 1) = small7 lls kks bs i ++ [NR.1] by rw [Hnx.o, if_pos he0])
       have He0 := hid he0
       have HD3 := HDw1.o.below BX1.o
       have HP3 := HPw1.o.below BX1.o
       have hs3 := BX1.o.size
       obtain ⟨X4, hX4, bX4, kX4, sX4⟩ := alloc_step X1 (.cells #[.slice P1 n1 d1, .slice P2 n2 d2, .int .i64 NR.1.bound] 41)
       have HB4 := hid (below_on HBw1.o (Nat.le_refl _) (BX1.o.trans (bX4.mono hs3)))
       have HD4 := hid (HD3.below bX4)
       have HP4 := hid (HP3.below bX4)
       have D4' := HD4.o.own
       have K4 := rd_lit3 kX4
       rw [SX1.o] at K4
       rw [← hX4, ← HX1.o] at D4' K4
       have D4 := hid D4'
       have K4 := hid K4
       have HX4 := hid hX4
       have hno1 : no + 1 ≤ 1000000 := by omega
       have hPr := hid (Tq.o.2.2.2.2)
       have HnR := hid (show ∀ g, row (.slice Ao no co) g → g < wr.heap.size from fun g hg => (HDj.o.row hg).2)
       clear D4' hX4 bX4 kX4 sX4 HD3 HP3
       go_wp2_with (at_builtin; refine wpList_append_pb rfl _ _ rfl D4.o K4.o rfl rfl (pb_one HP4.o) hno1 fun A' c' V5 ho hm hr => ?_)
       rw [HX1.o, HX4.o] at hm hr ho
       obtain ⟨D5, b5⟩ := HD4.o.push HB4.o.size (t := (.slice P1 n1 d1, .slice P2 n2 d2, .int .i64 NR.1.bound)) ho hm hr (HP4.o.mono fun g _ hg => ⟨Nat.le_trans hws hg, fun e => by have := HnR.o g e; omega⟩)
       have HB5 := hid (HB4.o.trans b5)
       have HD5 := hid D5
       clear D5 b5 ho hm hr
       go_roundw
       case rel => exact ⟨i + 1, A', no + 1, c', ts ++ [(.slice P1 n1 d1, .slice P2 n2 d2, .int .i64 NR.1.bound)], by omega, by go_num, rfl, hid (by rw [Hnx2.o]; exact HD5.o), HB5⟩
       case measure => simp [intOf]; omega
      ·have Hnx2 := hid (show small7 lls kks bs (i + 1) = small7 lls kks bs i by rw [Hnx.o, if_neg he0, List.append_nil])
       have te : (NR.2 == 0) = false := by simpa using he0
       go_wp2_with fail
       go_roundw
       case rel =>
        rw [HX1.o]
        exact ⟨i + 1, Ao, no, co, ts, by omega, by go_num, rfl, hid (by rw [Hnx2.o]; exact HDw1.o.below BX1.o), hid (below_on HBw1.o (Nat.le_refl _) BX1.o)⟩
       case measure => simp [intOf]; omega
     ·subst hb1
      have x5 : ¬ ((i : Int) < (q : Int)) := by omega
      go_wp2_with fail
      refine (norm_any Tq.o.1.rd Tq.o.2.1.rd Hi1.o Hi2.o Hb64.o).mono ?_
      rintro r w1 ⟨⟨pv, rfl, hpv⟩, b1⟩
      rw [HNR.o] at hpv ⊢
      obtain ⟨⟨P1, n1, d1, P2, n2, d2, rfl, r1, r2⟩, hbd⟩ := hpv
      have hpv : PbRd w1 (fun g => wr.heap.size ≤ g) (agg3 (.slice P1 n1 d1, .slice P2 n2 d2, .int .i64 NR.1.bound)) NR.1 := ⟨⟨P1, n1, d1, P2, n2, d2, rfl, r1, r2⟩, hbd⟩
      have hws : w.heap.size ≤ wr.heap.size := HBr.o.size
      have hw1 := b1.size
      obtain ⟨X1, hX1, bX1, kX1, sX1⟩ := alloc_step w1 (.cells #[.slice P1 n1 d1, .slice P2 n2 d2, .int .i64 NR.1.bound] 41)
      have HX1 := hid hX1
      have BX1 := hid bX1
      have HBw1 := hid (below_on HBr.o (Nat.le_refl _) b1)
      have HDw1 := hid (HDj.o.below b1)
      have HPw1 := hid hpv
      have SX1 := hid sX1
      clear hX1 bX1 kX1 sX1 b1 r1 r2 hbd hpv
      by_cases he0 : NR.2 = 0
      ·have Hnx2 := hid (show small7 lls kks bs (i + 1) = small7 lls kks bs i ++ [NR.1] by rw [Hnx.o, if_pos he0])
       have He0 := hid he0
       have HD3 := HDw1.o.below BX1.o
       have HP3 := HPw1.o.below BX1.o
       have hs3 := BX1.o.size
       obtain ⟨X4, hX4, bX4, kX4, sX4⟩ := alloc_step X1 (.cells #[.slice P1 n1 d1, .slice P2 n2 d2, .int .i64 NR.1.bound] 41)
       have HB4 := hid (below_on HBw1.o (Nat.le_refl _) (BX1.o.trans (bX4.mono hs3)))
       have HD4 := hid (HD3.below bX4)
       have HP4 := hid (HP3.below bX4)
       have D4' := HD4.o.own
       have K4 := rd_lit3 kX4
       rw [SX1.o] at K4
       rw [← hX4, ← HX1.o] at D4' K4
       have D4 := hid D4'
       have K4 := hid K4
       have HX4 := hid hX4
       have hno1 : no + 1 ≤ 1000000 := by omega
       have hPr := hid (Tq.o.2.2.2.2)
       have HnR := hid (show ∀ g, row (.slice Ao no co) g → g < wr.heap.size from fun g hg => (HDj.o.row hg).2)
       clear D4' hX4 bX4 kX4 sX4 HD3 HP3
       go_wp2_with (at_builtin; refine wpList_append_pb rfl _ _ rfl D4.o K4.o rfl rfl (pb_one HP4.o) hno1 fun A' c' V5 ho hm hr => ?_)
       rw [HX1.o, HX4.o] at hm hr ho
       obtain ⟨D5, b5⟩ := HD4.o.push HB4.o.size (t := (.slice P1 n1 d1, .slice P2 n2 d2, .int .i64 NR.1.bound)) ho hm hr (HP4.o.mono fun g _ hg => ⟨Nat.le_trans hws hg, fun e => by have := HnR.o g e; omega⟩)
       have HB5 := hid (HB4.o.trans b5)
       have HD5 := hid D5
       clear D5 b5 ho hm hr
       go_roundw
       case rel => exact ⟨i + 1, A', no + 1, c', ts ++ [(.slice P1 n1 d1, .slice P2 n2 d2, .int .i64 NR.1.bound)], by omega, by go_num, rfl, hid (by rw [Hnx2.o]; exact HD5.o), HB5⟩
       case measure => simp [intOf]; omega
      ·have Hnx2 := hid (show small7 lls kks bs (i + 1) = small7 lls kks bs i by rw [Hnx.o, if_neg he0, List.append_nil])
       have te : (NR.2 == 0) = false := by simpa using he0
       go_wp2_with fail
       go_roundw
       case rel =>
        rw [HX1.o]
        exact ⟨i + 1, Ao, no, co, ts, by omega, by go_num, rfl, hid (by rw [Hnx2.o]; exact HDw1.o.below BX1.o), hid (below_on HBw1.o (Nat.le_refl _) BX1.o)⟩
       case measure => simp [intOf]; omega
  ·have x1 : ¬ ((i : Int) < (Q : Int)) := by omega
   have Hfin := hid (show small7 lls kks bs i = small7 lls kks bs (min lls.length 24) by rw [HQl.o]; congr 1; omega)
   go_wp2_with fail
   go_ret
   exact ⟨⟨_, _, _, _, rfl, Hfin.o ▸ HD.o⟩, HBw.o⟩
end
end Go.Proofs.YtcjmpobccbnpkaaGreat
