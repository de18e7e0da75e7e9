/-
  The law PropagateOrder.
-/
import Derived.Test.YtofobmgmgipomaaMgu
namespace Go.Proofs.Ytofobmgmgipomaa
open Go.RowKit

set_option maxRecDepth 100000 in
set_option maxHeartbeats 16000000 in
theorem order_walk {w : World} {A B C : Option Addr} {n cA m cB q cC : Nat} {lls kks : List (List Int)} {bs : List Int} {Dfs : Option Addr} {dfs cDfs : Nat} {fs : List Int} {Dss : Option Addr} {dss cDss : Nat} {ss : List Int} (hl : LsRd w (fun _ => True) A n cA lls) (hk : LsRd w (fun _ => True) B m cB kks) (hb : Rd w (fun _ => True) 1 (.slice C q cC) q (ints bs)) (hfs : Rd w (fun _ => True) 1 (.slice Dfs dfs cDfs) dfs (ints fs)) (hifs : ∀ x ∈ fs, I64 x) (hss : Rd w (fun _ => True) 1 (.slice Dss dss cDss) dss (ints ss)) (hiss : ∀ x ∈ ss, I64 x) :
    Calls Try.prog 5 #[.slice A n cA, .slice B m cB, .slice C q cC, .slice Dfs dfs cDfs, .slice Dss dss cDss] w fun r w' => r = .returned (.bool true) ∧ Below w.heap.size w w' := by
  have Hfs := hid (hfs.mono (G := fun g => g < w.heap.size) fun g hg _ => hg)
  have Hifs := hid hifs
  have Hss := hid (hss.mono (G := fun g => g < w.heap.size) fun g hg _ => hg)
  have Hiss := hid hiss
  have Hsm := hid (small29_any hl hk hb)
  clear hl hk hb hfs hifs hss hiss
  go_enter Try.func5, Try.ntmps5
  go_wp2_with fail
  refine Hsm.out.mono ?_
  rintro r w1 ⟨⟨A1, n1, c1, ts1, rfl, hD⟩, b1⟩
  have hfi1 : ∀ p ∈ small7 lls kks bs (min lls.length 24), Eng.fits ⟨7, [], [], 0⟩ p = true := small7_fits
  have hok1 : ∀ p ∈ small7 lls kks bs (min lls.length 24), p.Ok ∧ ∀ l ∈ p.lits, l.natAbs ≤ 7 := fun p hp => small7_mem hp
  have hle1 := small7_len lls kks bs (min lls.length 24)
  obtain ⟨ps, hps⟩ : ∃ ps, small7 lls kks bs (min lls.length 24) = ps := ⟨_, rfl⟩
  rw [hps] at hD hfi1 hok1 hle1
  have hn1 : n1 ≤ 24 := by rw [← hD.len]; omega
  have Hfit := hid hfi1
  have Hok := hid hok1
  have Hi64 := hid (fun p hp => (Hok.out p hp).1.i64)
  have HD := hid hD
  have B1 := hid b1
  have hw1 := b1.size
  have Hfs := hid ((Hfs.out.below b1).mono (G := fun g => g < w1.heap.size) fun g _ hg => by omega)
  have Hss := hid ((Hss.out.below b1).mono (G := fun g => g < w1.heap.size) fun g _ hg => by omega)
  clear hfi1 hok1 hle1 hps hD b1 Hsm

  go_wp2_with fail
  refine (loaded_any HD.out.rd Hi64.out Hfit.out (by omega)).mono ?_
  rintro r w2 ⟨⟨eb, tb, rfl, het⟩, b2⟩
  have ET := hid het.restrict
  have HL := hid ((HD.out.rd.mono (F' := fun g => g < w1.heap.size) (G' := fun g => g < w1.heap.size ∧ w.heap.size ≤ g) (fun g hg _ => hg) fun g hg h => ⟨hg, h⟩).below b2)
  have hlen := HD.out.len
  have Hlen := hid hlen
  have B2 := hid (below_on B1.out (Nat.le_refl _) b2)
  have hw2 := b2.size
  have BB := hid b2
  clear het b2 hlen HD
  go_wp2_with fail
  go_loopw [15, 40] (fun vo iv W => ∃ (k : Nat) (Ao : Option Addr) (co : Nat) (ts : List (Value × Value × Value)), k ≤ n1 ∧ iv = .int .i64 k ∧ vo = .slice Ao k co ∧ Hid (Dbg w2.heap.size (fun g => w.heap.size ≤ g) W Ao k co ts (ps.reverse.take k)) ∧ Hid (Below w2.heap.size w2 W)) (fun _ iv _ => n1 - (intOf iv).toNat)
  case atStart => exact ⟨0, none, 0, [], Nat.zero_le _, rfl, rfl, hid (Dbg.nil _ _ _), hid (Below.refl _ _)⟩
  case round =>
    obtain ⟨k, Ao, co, ts, hk, rfl, rfl, HDk, HBk⟩ := hrel
    have hwk := HBk.out.size
    by_cases hlt : k < n1
    · have x1 : (k : Int) < (n1 : Int) := by omega
      obtain ⟨j, hj⟩ : ∃ j, n1 - 1 - k = j := ⟨_, rfl⟩
      have hji : (n1 : Int) - 1 - (k : Int) = (j : Int) := by omega
      have hjn : j < n1 := by omega
      have xj : (j : Int) < (n1 : Int) := by omega
      obtain ⟨gA, oA, p, P1, m1, d1, P2, m2, d2, rfl, hgF, hgl, hpk, e0, e1, e2, hp⟩ := (HL.out.below HBk.out).cells hjn
      have Hnx := hid (show ps.reverse.take (k + 1) = ps.reverse.take k ++ [p] by
        rw [List.take_add_one, List.getElem?_reverse (by have := Hlen.out; omega), Hlen.out, hj, hpk]; rfl)
      obtain ⟨X4, hX4, bX4, kX4, sX4⟩ := alloc_step wr (.cells #[.slice P1 m1 d1, .slice P2 m2 d2, .int .i64 p.bound] 36)
      have HB4 := hid (HBk.out.trans (bX4.mono hwk))
      have HD4 := hid (HDk.out.below bX4)
      have HP4 := hid (hp.below bX4)
      have D4' := HD4.out.own
      have K4 := rd_lit3 kX4
      rw [← hX4] at D4' K4
      have D4 := hid D4'
      have K4 := hid K4
      have HX4 := hid hX4
      have hno1 : k + 1 ≤ 1000000 := by omega
      have Hjx := hid hj
      clear D4' hX4 bX4 kX4 sX4 hp hpk hj
      go_wp2_with (at_builtin; refine wpList_append_pb rfl _ _ rfl D4.out K4.out rfl rfl (pb_one HP4.out) hno1 fun A' c' V5 ho hm hr => ?_)
      rw [HX4.out] at hm hr ho
      obtain ⟨D5, b5⟩ := HD4.out.push HB4.out.size (t := (.slice P1 m1 d1, .slice P2 m2 d2, .int .i64 p.bound)) ho hm hr (HP4.out.mono fun g _ hg => ⟨hg.2, fun e => by have := HD4.out.row e; have := hg.1; omega⟩)
      have HB5 := hid (HB4.out.trans b5)
      have HD5 := hid D5
      clear D5 b5 ho hm hr
      go_roundw
      case rel => exact ⟨k + 1, A', c', ts ++ [(.slice P1 m1 d1, .slice P2 m2 d2, .int .i64 p.bound)], by omega, by go_num, rfl, hid (by rw [Hnx.out]; exact HD5.out), HB5⟩
      case measure => simp [intOf]; omega
    · have x1 : ¬ ((k : Int) < (n1 : Int)) := by omega
      have Hkn := hid (show ps.reverse.take k = ps.reverse by rw [List.take_of_length_le (by rw [List.length_reverse, Hlen.out]; omega)])
      have hrd := HDk.out.rd
      rw [Hkn.out] at hrd
      have Hrd := hid hrd
      clear hrd
      go_wp2_with fail
      refine (loaded_any Hrd.out (fun p hp => Hi64.out p (List.mem_reverse.1 hp)) (fun p hp => Hfit.out p (List.mem_reverse.1 hp)) (by omega)).mono ?_
      rintro r w4 ⟨⟨fb, ub, rfl, hfu⟩, b4⟩
      have hw4 := b4.size
      have Du := hid (show Duo w1.heap.size w4 eb tb ⟨7, ps, [], 0⟩ ⟨7, [], []⟩ fb ub ⟨7, ps.reverse, [], 0⟩ ⟨7, [], []⟩ from
        ⟨_, _, (ET.out.below HBk.out).below b4, hfu, fun g hg => hg.1, fun g hg => by omega, fun g hg hf => by have := hg.2; omega⟩)
      have Bw4 := hid (BB.out.trans ((HBk.out.trans (b4.mono hwk)).mono hw2))
      have hs4 := Bw4.out.size
      clear hfu b4 ET HL HDk HBk Hrd
      go_wp2_with fail
      refine (duo_decided Du.out hs4 (Hfs.out.below Bw4.out) Hifs.out).mono ?_
      rintro r w5 ⟨⟨z5, rfl⟩, h5, b5⟩
      have Du5 := hid h5
      have Bw5 := hid (Bw4.out.trans b5)
      have hs5 := Bw5.out.size
      clear h5 b5 Du
      go_wp2_with fail
      refine (duo_prop Du5.out hs5 (by rw [Tr.decs_vars]; exact Nat.le_refl _) (by show ps.length ≤ _; rw [Hlen.out]; omega)).mono ?_
      rintro r w6 ⟨⟨v6, q6, E6, T6, rfl, p6, h6⟩, b6⟩
      have Hc6 := hid (show E6.cs = ps from p6.cs)
      have He6 := hid (show E6.vars = 7 from p6.evars)
      have Ht6 := hid (show T6.vars = 7 by rw [p6.tvars Du5.out.ok.1 Du5.out.ok.2 (by rw [Tr.decs_vars]; exact Nat.le_refl _), Tr.decs_vars])
      have Du6 := hid h6
      have Bw6 := hid (Bw5.out.trans b6)
      have hs6 := Bw6.out.size
      clear h6 b6 Du5 p6
      go_wp2_with fail
      refine (duo_undo Du6.out hs6 0).mono ?_
      rintro r w7 ⟨⟨z7, rfl⟩, h7, b7⟩
      have Du7 := hid h7
      have Bw7 := hid (Bw6.out.trans b7)
      have hs7 := Bw7.out.size
      clear h7 b7 Du6
      go_wp2_with fail
      refine (duo_prop Du7.out hs7 (by rw [Tr.back_vars, He6.out, Ht6.out]; exact Nat.le_refl _) (by rw [Hc6.out, Hlen.out]; omega)).mono ?_
      rintro r w8 ⟨⟨v8, q8, E8, T8, rfl, p8, h8⟩, b8⟩
      have Hc8 := hid (show E8.cs = ps from p8.cs.trans Hc6.out)
      have He8 := hid (show E8.vars = 7 from p8.evars.trans He6.out)
      have Du8 := hid h8
      have Bw8 := hid (Bw7.out.trans b8)
      have hs8 := Bw8.out.size
      clear h8 b8 Du7 p8
      go_wp2_with fail
      refine (duo_new Du8.out hs8).mono ?_
      rintro r w9 ⟨⟨t9, rfl, h9⟩, b9⟩
      have Du9 := hid h9
      have Bw9 := hid (Bw8.out.trans b9)
      have hs9 := Bw9.out.size
      clear h9 b9 Du8
      go_wp2_with fail
      refine (duo_decided Du9.out hs9 (Hss.out.below Bw9.out) Hiss.out).mono ?_
      rintro r w10 ⟨⟨z10, rfl⟩, h10, b10⟩
      have Du10 := hid h10
      have Bw10 := hid (Bw9.out.trans b10)
      have hs10 := Bw10.out.size
      clear h10 b10 Du9
      go_wp2_with fail
      refine (duo_decided Du10.out.swap hs10 (Hss.out.below Bw10.out) Hiss.out).mono ?_
      rintro r w11 ⟨⟨z11, rfl⟩, h11, b11⟩
      have Du11 := hid h11.swap
      have Bw11 := hid (Bw10.out.trans b11)
      have hs11 := Bw11.out.size
      obtain ⟨TD, hTD⟩ : ∃ T, Tr.decs ⟨7, [], []⟩ (ss.take 7) = T := ⟨_, rfl⟩
      have hTv : TD.vars = 7 := by rw [← hTD, Tr.decs_vars]
      rw [hTD] at Du11
      have HTv := hid hTv
      clear h11 b11 Du10 hTD hTv
      go_wp2_with fail
      refine (duo_prop Du11.out hs11 (by rw [He8.out, HTv.out]; exact Nat.le_refl _) (by rw [Hc8.out, Hlen.out]; omega)).mono ?_
      rintro r w12 ⟨⟨v12, q12, E12, T12, rfl, p12, h12⟩, b12⟩
      have Du12 := hid h12
      have P12 := hid p12
      have Bw12 := hid (Bw11.out.trans b12)
      have hs12 := Bw12.out.size
      clear h12 b12 p12
      go_wp2_with fail
      refine (duo_prop Du12.out.swap hs12 (by rw [HTv.out]; exact Nat.le_refl _) (by show ps.reverse.length ≤ _; rw [List.length_reverse, Hlen.out]; omega)).mono ?_
      rintro r w13 ⟨⟨v13, q13, E13, T13, rfl, p13, h13⟩, b13⟩
      have Du13 := hid h13.swap
      have Bw13 := hid (Bw12.out.trans b13)
      have hs13 := Bw13.out.size
      have ho1 := Du11.out.ok
      have ho2 := Du11.out.swap.ok
      obtain ⟨hq, hval⟩ := propR_same P12.out p13 ho1.1 ho2.1 ho1.2 ho2.2 (by rw [He8.out, HTv.out]; exact Nat.le_refl _) (by rw [HTv.out]; exact Nat.le_refl _) (fun c hc => List.mem_reverse.2 (Hc8.out ▸ hc)) (fun c hc => Hc8.out.symm ▸ List.mem_reverse.1 hc) (fun l hl => hl) fun _ _ h => h
      subst hq
      have Hval := hid hval
      have BW := hid (below_on B1.out (Nat.le_refl _) Bw13.out)
      clear h13 b13 p13 hval ho1 ho2
      cases q12 with
      | true =>
        go_wp2_with fail
        refine awake29_any.mono ?_
        rintro r w14 ⟨rfl, b14⟩
        have B14 := hid (BW.out.trans (b14.mono BW.out.size))
        clear b14
        go_wp2_with fail
        go_ret
        exact ⟨rfl, B14.out⟩
      | false =>
        have Hv := hid (Hval.out rfl)
        clear Hval
        go_wp2_with fail
        go_loopw [25] (fun iv W => ∃ k : Nat, 1 ≤ k ∧ k ≤ 8 ∧ iv = .int .i64 k ∧ Hid (Duo w1.heap.size W eb t9 E12 T12 fb ub E13 T13) ∧ Hid (Below w1.heap.size w1 W)) (fun iv _ => 8 - (intOf iv).toNat)
        case atStart => exact ⟨1, by omega, by omega, rfl, Du13, Bw13⟩
        case round =>
          obtain ⟨k, hk1, hk8, rfl, HDu, HBu⟩ := hrel
          by_cases hlt : k ≤ 7
          · have x1 : (k : Int) ≤ 7 := by omega
            have hI : I64 (k : Int) := by unfold I64; omega
            have HI := hid hI
            clear hI
            obtain ⟨Fa, ha⟩ := HDu.out.trail
            have Ha := hid ha
            clear ha
            go_wp2_with fail
            refine (value_any Ha.out HI.out).mono ?_
            rintro r w15 ⟨rfl, b15⟩
            obtain ⟨Fb, hb⟩ := (HDu.out.below b15).swap.trail
            have Hb := hid hb
            have Du15 := hid (HDu.out.below b15)
            have Bw15 := hid (HBu.out.trans (b15.mono HBu.out.size))
            clear hb b15
            go_wp2_with fail
            refine (value_any Hb.out HI.out).mono ?_
            rintro r w16 ⟨rfl, b16⟩
            rw [Hv.out]
            have Du16 := hid (Du15.out.below b16)
            have Bw16 := hid (Bw15.out.trans (b16.mono Bw15.out.size))
            clear b16
            go_wp2_with fail
            go_roundw
            case rel => exact ⟨k + 1, by omega, by omega, by go_num, Du16, Bw16⟩
            case measure => simp [intOf]; omega
          · have x1 : ¬ ((k : Int) ≤ 7) := by omega
            have hk8 : 8 ≤ k := by omega
            go_wp2_with fail
            refine (duo_prop HDu.out HBu.out.size ?_ ?_).mono ?_
            · rw [P12.out.evars, P12.out.tvars Du11.out.ok.1 Du11.out.ok.2 (by rw [He8.out, HTv.out]; exact Nat.le_refl _), He8.out, HTv.out]; exact Nat.le_refl _
            · rw [P12.out.cs, Hc8.out, Hlen.out]; omega
            rintro r w17 ⟨⟨v17, q17, E17, T17, rfl, p17, h17⟩, b17⟩
            obtain rfl : q17 = false := PropR.again P12.out p17 Du11.out.ok.1 Du11.out.ok.2 (by rw [He8.out, HTv.out]; exact Nat.le_refl _) HDu.out.ok.1 HDu.out.ok.2 (by rw [P12.out.evars, P12.out.tvars Du11.out.ok.1 Du11.out.ok.2 (by rw [He8.out, HTv.out]; exact Nat.le_refl _), He8.out, HTv.out]; exact Nat.le_refl _)
            have Bw17 := hid (HBu.out.trans b17)
            have BW17 := hid (below_on B1.out (Nat.le_refl _) Bw17.out)
            clear h17 b17 p17
            go_wp2_with fail
            refine awake29_any.mono ?_
            rintro r w18 ⟨rfl, b18⟩
            have B18 := hid (BW17.out.trans (b18.mono BW17.out.size))
            clear b18
            go_wp2_with fail
            go_ret
            exact ⟨rfl, B18.out⟩
end Go.Proofs.Ytofobmgmgipomaa
