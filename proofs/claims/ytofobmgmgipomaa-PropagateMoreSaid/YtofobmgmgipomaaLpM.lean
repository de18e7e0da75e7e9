/-
  The law PropagateMore.
-/
import Derived.Test.YtofobmgmgipomaaEnZ
import Derived.Test.YtofobmgmgipomaaMgu
namespace Go.Proofs.Ytofobmgmgipomaa
open Go.RowKit

set_option maxRecDepth 100000 in
set_option maxHeartbeats 16000000 in
theorem more_walk {w : World} {A B C : Option Addr} {n cA m cB q cC : Nat} {lls kks : List (List Int)} {bs : List Int} {Dds : Option Addr} {dds cDds : Nat} {ds : List Int} {z : Int} (hl : LsRd w (fun _ => True) A n cA lls) (hk : LsRd w (fun _ => True) B m cB kks) (hb : Rd w (fun _ => True) 1 (.slice C q cC) q (ints bs)) (hds : Rd w (fun _ => True) 1 (.slice Dds dds cDds) dds (ints ds)) (hids : ∀ x ∈ ds, I64 x) (hz : 0 ≤ z ∧ z ≤ 255) :
    Calls Try.prog 3 #[.slice A n cA, .slice B m cB, .slice C q cC, .slice Dds dds cDds, .int .u8 z] w fun r w' => r = .returned (.bool true) ∧ Below w.heap.size w w' := by
  have Hds := hid (hds.mono (G := fun g => g < w.heap.size) fun g hg _ => hg)
  have Hids := hid hids
  have Hsm := hid (small29_any hl hk hb)
  clear hl hk hb hds hids
  go_enter Try.func3, Try.ntmps3
  go_wp2_with fail
  refine Hsm.out.mono ?_
  rintro r w1 ⟨⟨A1, n1, c1, ts1, rfl, hD⟩, b1⟩
  have hfi1 : ∀ p ∈ small7 lls kks bs (min lls.length 24), Eng.fits ⟨7, [], [], 0⟩ p = true := small7_fits
  have hok1 : ∀ p ∈ small7 lls kks bs (min lls.length 24), p.Ok ∧ ∀ l ∈ p.lits, l.natAbs ≤ 7 := fun p hp => small7_mem hp
  have hle1 := small7_len lls kks bs (min lls.length 24)
  obtain ⟨ps, hps⟩ : ∃ ps, small7 lls kks bs (min lls.length 24) = ps := ⟨_, rfl⟩
  rw [hps] at hD hfi1 hok1 hle1
  have hn1 : n1 ≤ 24 := by rw [← hD.len]; omega
  have Hfit := hid hfi1
  have Hok := hid hok1
  have Hi64 := hid (fun p hp => (Hok.out p hp).1.i64)
  have HD := hid hD
  have B1 := hid b1
  have hw1 := b1.size
  have Hds := hid ((Hds.out.below b1).mono (G := fun g => g < w1.heap.size) fun g _ hg => by omega)
  clear hfi1 hok1 hle1 hps hD b1 Hsm

  have hlen := HD.out.len
  have Hlen := hid hlen
  obtain ⟨hz0, hz1⟩ := hz
  obtain ⟨K, hK⟩ : ∃ K : Nat, z % ((n1 : Int) + 1) = (K : Int) := ⟨(z % ((n1 : Int) + 1)).toNat, by have := Int.emod_nonneg z (show (n1 : Int) + 1 ≠ 0 by omega); omega⟩
  have hKn : K ≤ n1 := by have := Int.emod_lt_of_pos z (show (0 : Int) < (n1 : Int) + 1 by omega); omega
  have hsp := HD.out.rd.spot
  obtain ⟨At, hAt, hst⟩ := pbs_to (A := A1) (n := n1) (c := c1) (i := K) hsp.2.2 hKn hsp.1
  obtain ⟨Af, hAf, hsf⟩ := pbs_from (A := A1) (n := n1) (c := c1) (i := K) hKn hsp.1
  have HL := hid (HD.out.rd.mono (F' := fun g => g < w1.heap.size) (G' := fun g => g < w1.heap.size) (fun g hg _ => hg) fun g hg h => hg)
  have HLt := hid (HL.out.to hKn hAt)
  have HLf := hid (HL.out.from_ hKn hAf)
  have hKi : (K : Int) ≤ (n1 : Int) := by omega
  have hst2 : ∀ W, (Instr.slice 24 (.slice A1 n1 c1) none (some (.int .i64 (z % ((n1 : Int) + 1)))) none).run Try.prog W = .ok (.slice At K c1) W := fun W => by rw [hK]; exact hst W
  have HK := hid hK
  have Hsf := hid hsf
  clear hlen hAt hAf hsp HD hK hst hsf
  go_wp2_with fail
  rw [HK.out]
  have hsf := Hsf.out
  refine (loaded_any HLt.out (fun p hp => Hi64.out p (List.mem_of_mem_take hp)) (fun p hp => Hfit.out p (List.mem_of_mem_take hp)) (by omega)).mono ?_
  rintro r w2 ⟨⟨eb, tb, rfl, het⟩, b2⟩
  have So2 := hid (show Solo w1.heap.size (fun _ => False) w2 eb tb ⟨7, ps.take K, [], 0⟩ ⟨7, [], []⟩ from ⟨_, het, fun g hg => hg, fun _ _ h => h, fun _ h => h.elim⟩)
  have B2 := hid b2
  have hw2 := b2.size
  clear het b2 HLt hst2 HK Hsf
  go_wp2_with fail
  refine (solo_decided So2.out hw2 (Hds.out.below B2.out) Hids.out fun g hg => .inl hg).mono ?_
  rintro r w3 ⟨⟨z3, rfl⟩, h3, m3⟩
  have hw3 := m3.size
  have B3 := hid (mod_on B2.out hw2 m3)
  have So3 := hid h3
  obtain ⟨TD, hTD⟩ : ∃ T, Tr.decs ⟨7, [], []⟩ (ds.take 7) = T := ⟨_, rfl⟩
  have hTv : TD.vars = 7 := by rw [← hTD, Tr.decs_vars]
  rw [hTD] at So3
  have HTv0 := hid hTv
  have HTD := hid hTD
  clear h3 m3 So2 hTD hTv
  go_wp2_with fail
  refine (solo_prop So3.out (by omega) (by rw [HTv0.out]; exact Nat.le_refl _) (by show (ps.take K).length ≤ _; rw [List.length_take]; omega)).mono ?_
  rintro r w4 ⟨hP, m4⟩
  have hw4 := m4.size
  have B4 := hid (mod_on B3.out (by omega) m4)
  obtain ⟨v4, q4, E4, T4, rfl, p4, s4⟩ := hP.propR
  have So4 := hid s4
  have P4 := hid p4
  have Ok3 := hid So3.out.ok
  clear m4 s4 p4 hP B3
  cases q4 with
  | true =>
    have BWl := hid (below_on B1.out (Nat.le_refl _) B4.out)
    go_wp2_with fail
    refine awake29_any.mono ?_
    rintro r w30 ⟨rfl, b30⟩
    have B30 := hid (BWl.out.trans (b30.mono BWl.out.size))
    clear b30
    go_wp2_with fail
    go_ret
    exact ⟨rfl, B30.out⟩
  | false =>
    have hli := P4.out.lits Ok3.out.1 Ok3.out.2 (by rw [HTv0.out]; exact Nat.le_refl _)
    have Hli := hid hli
    have hT4v : T4.vars = 7 := by rw [P4.out.tvars Ok3.out.1 Ok3.out.2 (by rw [HTv0.out]; exact Nat.le_refl _)]; exact HTv0.out
    have HT4v := hid hT4v
    have HE4 := hid (show E4.cs = ps.take K from P4.out.cs)
    have HE4v := hid (show E4.vars = 7 from P4.out.evars)
    clear hli hT4v
    go_wp2_with fail
    refine (lits_any So4.out.trail).mono ?_
    rintro r w5 ⟨⟨ub, rfl, hob⟩, b5⟩
    have hw5 := b5.size
    obtain ⟨nb, hnb⟩ : ∃ z, T4.L.length = z := ⟨_, rfl⟩
    rw [hnb] at hob
    obtain ⟨Ab, cb, rfl, _⟩ := hob.form
    have hnb7 : nb ≤ 7 := by have := So4.out.ok.2.len; rw [HT4v.out, hnb] at this; exact this
    have So5 := hid (So4.out.more b5)
    have Rb := hid (hob.rd.mono (G := fun g => False ∨ (w4.heap.size ≤ g ∧ g < w5.heap.size)) fun g hg h => .inr ⟨h, hg⟩)
    have B5 := hid (B4.out.trans (b5.mono (by omega)))
    have Hnb := hid hnb
    obtain ⟨KP, hKP⟩ : ∃ P : Nat → Prop, P = fun g => False ∨ (w4.heap.size ≤ g ∧ g < w5.heap.size) := ⟨_, rfl⟩
    rw [← hKP] at So5 Rb
    clear b5 hob hnb So4 B4 hKP
    go_wp2_with fail
    go_loopw [67] (fun iv W => ∃ (k : Nat) (Ek : Eng), k ≤ n1 - K ∧ iv = .int .i64 k ∧ Hid (Ek.cs = ps.take (K + k) ∧ Ek.vars = 7) ∧ Hid (Solo w1.heap.size KP W eb tb Ek T4) ∧ Hid (Below w1.heap.size w1 W) ∧ Hid (Rd W KP 1 (.slice Ab nb cb) nb (ints T4.lits))) (fun iv _ => (n1 - K) - (intOf iv).toNat)
    case atStart => exact ⟨0, E4, Nat.zero_le _, rfl, hid ⟨HE4.out, HE4v.out⟩, So5, B5, Rb⟩
    case round =>
      obtain ⟨k, Ek, hk, rfl, HEk, HSk, HBk, HRk⟩ := hrel
      have hsk := HBk.out.size
      by_cases hlt : k < n1 - K
      · have x1 : (k : Int) < ((n1 - K : Nat) : Int) := by omega
        obtain ⟨gA, oA, p, P1, m1, d1, P2, m2, d2, rfl, hgF, hgl, hpk, e0, e1, e2, hp⟩ := (HLf.out.below HBk.out).cells hlt
        rw [List.getElem?_drop] at hpk
        have hpm := List.mem_of_getElem? hpk
        have hnx : ps.take (K + (k + 1)) = ps.take (K + k) ++ [p] := by rw [← Nat.add_assoc, List.take_add_one, hpk]; rfl
        obtain ⟨X, hX, bX, kX, sX⟩ := alloc_step wr (.cells #[.slice P1 m1 d1, .slice P2 m2 d2, .int .i64 p.bound] 36)
        have hfp : Ek.fits p = true := (Eng.fits_vars (by rw [HEk.out.2]) p).trans (Hfit.out p hpm)
        have hadd := solo_add (HSk.out.below bX) (Nat.le_trans hsk bX.size) (hp.below bX) (Hi64.out p hpm) (fun g hg => .inl hg) (by rw [HEk.out.1, List.length_take]; omega)
        rw [if_pos hfp, if_pos hfp, ← hX] at hadd
        have Hadd := hid hadd
        have BX := hid (HBk.out.trans (bX.mono hsk))
        have RX := hid (HRk.out.below bX)
        have Hnx := hid hnx
        have HX := hid hX
        clear hadd hp hpk hpm hfp hnx hX bX kX sX
        go_wp2_with fail
        refine Hadd.out.mono ?_
        rintro r w6 ⟨rfl, s6, m6⟩
        rw [HX.out] at m6
        have S6 := hid s6
        have B6 := hid (mod_on BX.out BX.out.size m6)
        have R6 := hid (RX.out.mod m6 fun g _ hk hg => hg.2 hk)
        clear s6 m6
        go_wp2_with fail
        go_roundw
        case rel => exact ⟨k + 1, Ek.add p, by omega, by go_num, hid ⟨by show Ek.cs ++ [p] = _; rw [HEk.out.1, Hnx.out], HEk.out.2⟩, S6, B6, R6⟩
        case measure => simp [intOf]; omega
      · have x1 : ¬ ((k : Int) < ((n1 - K : Nat) : Int)) := by omega
        have HEc := hid (show Ek.cs = ps by rw [HEk.out.1, List.take_of_length_le (by have := Hlen.out; omega)])
        have HEv := hid HEk.out.2
        obtain ⟨V, hVV⟩ : ∃ V, V = wr := ⟨_, rfl⟩
        obtain ⟨Fs, hfs, _⟩ := HSk.out
        have hel := elen_any hfs.engine
        rw [HEc.out, Hlen.out] at hel
        have Hel := hid hel
        clear hel hfs HEk
        go_wp2_with fail
        refine Hel.out.mono ?_
        rintro r w7 ⟨rfl, rfl⟩
        go_wp2_with fail
        refine (solo_prop HSk.out hsk (by rw [HEv.out, HT4v.out]; exact Nat.le_refl _) (by rw [HEc.out, Hlen.out]; omega)).mono ?_
        rintro r w8 ⟨hP, m8⟩
        have hw8 := m8.size
        have B8 := hid (mod_on HBk.out hsk m8)
        have R8 := hid (HRk.out.mod m8 fun g _ hk hg => hg.2 hk)
        obtain ⟨v8, q8, E8, T8, rfl, p8, s8⟩ := hP.propR
        have S8 := hid s8
        have P8 := hid p8
        have Ok7 := hid HSk.out.ok
        clear m8 s8 p8 hP hVV
        have HT8v := hid (show T8.vars = 7 by rw [P8.out.tvars Ok7.out.1 Ok7.out.2 (by rw [HEv.out, HT4v.out]; exact Nat.le_refl _)]; exact HT4v.out)
        go_wp2_with fail
        refine (lits_any S8.out.trail).mono ?_
        rintro r w9 ⟨⟨ua, rfl, hoa⟩, b9⟩
        obtain ⟨na, hna⟩ : ∃ z, T8.L.length = z := ⟨_, rfl⟩
        rw [hna] at hoa
        obtain ⟨Aa, ca, rfl, hca, _⟩ := hoa.form
        have hpre : ∃ M, T8.lits = T4.lits ++ M := by
          obtain ⟨ys, _, e8, _⟩ := P8.out.lits Ok7.out.1 Ok7.out.2 (by rw [HEv.out, HT4v.out]; exact Nat.le_refl _)
          rw [e8]
          exact runX_grow ys _
        obtain ⟨M, hM⟩ := hpre
        have hle : nb ≤ na := by
          have h1 : T8.lits.length = na := by rw [← hna]; simp [Tr.lits]
          have h2 : T4.lits.length = nb := by rw [← Hnb.out]; simp [Tr.lits]
          rw [hM, List.length_append] at h1
          omega
        have hna7 : na ≤ 7 := by have := S8.out.ok.2.len; rw [HT8v.out, hna] at this; exact this
        have hsa := rd_spot hoa.rd
        obtain ⟨Ac, hAc, hsc⟩ := ints_to (A := Aa) (n := na) (c := ca) (i := nb) hsa.2.2 hle hsa.1
        have hra := rd_to hoa.rd hle hAc
        rw [← ints_take, hM, List.take_left' (show T4.lits.length = nb by rw [← Hnb.out]; simp [Tr.lits])] at hra
        have Ra := hid hra
        have B9 := hid (B8.out.trans (b9.mono B8.out.size))
        have S9 := hid (S8.out.below b9)
        have R9 := hid (R8.out.below b9)
        have hlei : ¬ ((na : Int) < (nb : Int)) := by omega
        clear hoa b9 hna hM hAc hsa hra
        go_wp2_with fail
        refine (ints_eq Ra.out R9.out).mono ?_
        rintro r w10 ⟨rfl, b10⟩
        rw [show decide (T4.lits = T4.lits) = true from decide_eq_true rfl]
        have B10 := hid (B9.out.trans (b10.mono B9.out.size))
        have S10 := hid (S9.out.below b10)
        have HL10 := hid (HL.out.below B10.out)
        clear b10
        go_wp2_with fail
        refine (loaded_any HL10.out Hi64.out Hfit.out (by omega)).mono ?_
        rintro r w11 ⟨⟨fb, ub, rfl, hfu⟩, b11⟩
        have Du11 := hid (S10.out.duo B10.out.size b11 hfu)
        have B11 := hid (B10.out.trans (b11.mono B10.out.size))
        clear b11 hfu
        go_wp2_with fail
        refine (duo_decided Du11.out.swap B11.out.size (Hds.out.below B11.out) Hids.out).mono ?_
        rintro r w12 ⟨⟨z12, rfl⟩, h12, b12⟩
        have Du12 := hid h12
        have B12 := hid (B11.out.trans b12)
        rw [HTD.out] at Du12
        clear h12 b12
        go_wp2_with fail
        refine (duo_prop Du12.out B12.out.size (by rw [HTv0.out]; exact Nat.le_refl _) (by show ps.length ≤ _; rw [Hlen.out]; omega)).mono ?_
        rintro r w13 ⟨⟨v13, q13, E13, T13, rfl, p13, h13⟩, b13⟩
        have Du13 := hid h13.swap
        have B13 := hid (B12.out.trans b13)
        obtain ⟨xs, i1, e1, o1, s1, c1', _⟩ := Hli.out
        obtain ⟨hq, hval⟩ := propR_same P8.out p13 Ok7.out.1 Du12.out.ok.1 Ok7.out.2 Du12.out.ok.2 (by rw [HEv.out, HT4v.out]; exact Nat.le_refl _) (by rw [HTv0.out]; exact Nat.le_refl _) (fun c hc => HEc.out ▸ hc) (fun c hc => HEc.out.symm ▸ hc) s1 (fun ho hc hX l hl => by
          rw [e1] at hl
          exact (run_inside (fun c hc => (Hok.out c (List.mem_of_mem_take hc)).1) (fun c hc => List.mem_of_mem_take hc) ho hc xs TD.lits hX i1).2 l hl)
        subst hq
        have Hval := hid hval
        have BW := hid (below_on B1.out (Nat.le_refl _) B13.out)
        clear h13 b13 p13 hval i1 e1 o1 s1 c1'
        cases q8 with
        | true =>
          go_wp2_with fail
          go_loopw [29] (fun iv W => ∃ k : Nat, 1 ≤ k ∧ k ≤ 8 ∧ iv = .int .i64 k ∧ Hid (Below w.heap.size w W)) (fun iv _ => 8 - (intOf iv).toNat)
          case atStart => exact ⟨1, by omega, by omega, rfl, BW⟩
          case round =>
            obtain ⟨k2, hk1, hk8, rfl, BWl⟩ := hrel
            by_cases hlt2 : k2 ≤ 7
            · have x2 : (k2 : Int) ≤ 7 := by omega
              go_wp2_with fail
              refine awake29_any.mono ?_
              rintro r w30 ⟨rfl, b30⟩
              have B30 := hid (BWl.out.trans (b30.mono BWl.out.size))
              clear b30
              go_wp2_with fail
              go_ret
              exact ⟨rfl, B30.out⟩
            · have x2 : ¬ ((k2 : Int) ≤ 7) := by omega
              go_wp2_with fail
              refine awake29_any.mono ?_
              rintro r w30 ⟨rfl, b30⟩
              have B30 := hid (BWl.out.trans (b30.mono BWl.out.size))
              clear b30
              go_wp2_with fail
              go_ret
              exact ⟨rfl, B30.out⟩
        | false =>
          have Hv := hid (Hval.out rfl)
          clear Hval
          go_wp2_with fail
          go_loopw [29] (fun iv W => ∃ k : Nat, 1 ≤ k ∧ k ≤ 8 ∧ iv = .int .i64 k ∧ Hid (Duo w1.heap.size W eb tb E8 T8 fb ub E13 T13) ∧ Hid (Below w1.heap.size w1 W)) (fun iv _ => 8 - (intOf iv).toNat)
          case atStart => exact ⟨1, by omega, by omega, rfl, Du13, B13⟩
          case round =>
            obtain ⟨k2, hk1, hk8, rfl, HDu, HBu⟩ := hrel
            by_cases hlt2 : k2 ≤ 7
            · have x2 : (k2 : Int) ≤ 7 := by omega
              have hI : I64 (k2 : Int) := by unfold I64; omega
              have HI := hid hI
              clear hI
              obtain ⟨Fa, ha⟩ := HDu.out.trail
              have Ha := hid ha
              clear ha
              go_wp2_with fail
              refine (value_any Ha.out HI.out).mono ?_
              rintro r w15 ⟨rfl, b15⟩
              obtain ⟨Fb, hb⟩ := (HDu.out.below b15).swap.trail
              have Hb := hid hb
              have Du15 := hid (HDu.out.below b15)
              have Bw15 := hid (HBu.out.trans (b15.mono HBu.out.size))
              clear hb b15
              go_wp2_with fail
              refine (value_any Hb.out HI.out).mono ?_
              rintro r w16 ⟨rfl, b16⟩
              rw [Hv.out]
              have Du16 := hid (Du15.out.below b16)
              have Bw16 := hid (Bw15.out.trans (b16.mono Bw15.out.size))
              clear b16
              go_wp2_with fail
              go_roundw
              case rel => exact ⟨k2 + 1, by omega, by omega, by go_num, Du16, Bw16⟩
              case measure => simp [intOf]; omega
            · have x2 : ¬ ((k2 : Int) ≤ 7) := by omega
              have BWl := hid (below_on B1.out (Nat.le_refl _) HBu.out)
              go_wp2_with fail
              refine awake29_any.mono ?_
              rintro r w30 ⟨rfl, b30⟩
              have B30 := hid (BWl.out.trans (b30.mono BWl.out.size))
              clear b30
              go_wp2_with fail
              go_ret
              exact ⟨rfl, B30.out⟩
end Go.Proofs.Ytofobmgmgipomaa
