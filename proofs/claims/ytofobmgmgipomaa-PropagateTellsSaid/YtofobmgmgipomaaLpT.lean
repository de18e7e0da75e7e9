/-
  The law PropagateTells.
-/
import Derived.Test.YtofobmgmgipomaaPrG
import Derived.Test.YtofobmgmgipomaaEnZ
import Derived.Test.YtofobmgmgipomaaMgu
import Derived.Deep.CutBlock
namespace Go.Proofs.Ytofobmgmgipomaa
open Go.RowKit

set_option maxRecDepth 100000 in
set_option maxHeartbeats 16000000 in
theorem tells_walk {w : World} {A B C : Option Addr} {n cA m cB q cC : Nat} {lls kks : List (List Int)} {bs : List Int} {Dds : Option Addr} {dds cDds : Nat} {ds : List Int} (hl : LsRd w (fun _ => True) A n cA lls) (hk : LsRd w (fun _ => True) B m cB kks) (hb : Rd w (fun _ => True) 1 (.slice C q cC) q (ints bs)) (hds : Rd w (fun _ => True) 1 (.slice Dds dds cDds) dds (ints ds)) (hids : ∀ x ∈ ds, I64 x) :
    Calls Try.prog 7 #[.slice A n cA, .slice B m cB, .slice C q cC, .slice Dds dds cDds] w fun r w' => r = .returned (.bool true) ∧ Below w.heap.size w w' := by
  have Hds := hid (hds.mono (G := fun g => g < w.heap.size) fun g hg _ => hg)
  have Hids := hid hids
  have Hsm := hid (small29_any hl hk hb)
  clear hl hk hb hds hids
  go_enter Try.func7, Try.ntmps7
  go_wp2_with fail
  refine Hsm.out.mono ?_
  rintro r w1 ⟨⟨A1, n1, c1, ts1, rfl, hD⟩, b1⟩
  have hfi1 : ∀ p ∈ small7 lls kks bs (min lls.length 24), Eng.fits ⟨7, [], [], 0⟩ p = true := small7_fits
  have hok1 : ∀ p ∈ small7 lls kks bs (min lls.length 24), p.Ok ∧ ∀ l ∈ p.lits, l.natAbs ≤ 7 := fun p hp => small7_mem hp
  have hle1 := small7_len lls kks bs (min lls.length 24)
  obtain ⟨ps, hps⟩ : ∃ ps, small7 lls kks bs (min lls.length 24) = ps := ⟨_, rfl⟩
  rw [hps] at hD hfi1 hok1 hle1
  have hn1 : n1 ≤ 24 := by rw [← hD.len]; omega
  have Hfit := hid hfi1
  have Hok := hid hok1
  have Hi64 := hid (fun p hp => (Hok.out p hp).1.i64)
  have HD := hid hD
  have B1 := hid b1
  have hw1 := b1.size
  have Hds := hid ((Hds.out.below b1).mono (G := fun g => g < w1.heap.size) fun g _ hg => by omega)
  clear hfi1 hok1 hle1 hps hD b1 Hsm

  have hlen := HD.out.len
  have Hlen := hid hlen
  obtain ⟨h0, hh0⟩ : ∃ h, n1 / 2 = h := ⟨_, rfl⟩
  have hh1 : h0 ≤ n1 := by omega
  have hsp := HD.out.rd.spot
  have hto := fun (i : Nat) (hi : i ≤ n1) => pbs_to (A := A1) (n := n1) (c := c1) (i := i) hsp.2.2 hi hsp.1
  obtain ⟨Ah0, hAh0, hst⟩ := hto h0 hh1
  have HL := hid (HD.out.rd.mono (F' := fun g => g < w1.heap.size) (G' := fun g => g < w1.heap.size) (fun g hg _ => hg) fun g hg h => hg)
  have HLt := hid (HL.out.to hh1 hAh0)
  have Hto := hid hto
  have hdiv : (n1 : Int) / 2 = (h0 : Int) := by omega
  have HA0 := hid hAh0
  clear hlen hsp HD hto hAh0
  go_wp2_with fail
  refine (loaded_any HLt.out (fun p hp => Hi64.out p (List.mem_of_mem_take hp)) (fun p hp => Hfit.out p (List.mem_of_mem_take hp)) (by omega)).mono ?_
  rintro r w2 ⟨⟨eb, tb, rfl, het⟩, b2⟩
  have So2 := hid (show Solo w1.heap.size (fun _ => False) w2 eb tb ⟨7, ps.take h0, [], 0⟩ ⟨7, [], []⟩ from ⟨_, het, fun g hg => hg, fun _ _ h => h, fun _ h => h.elim⟩)
  have B2 := hid b2
  obtain ⟨Q, hQ⟩ : ∃ q, min dds 20 = q := ⟨_, rfl⟩
  have hmin : ∀ w, (Builtin.min_ #[3, 3] 3 #[.int .i64 (dds : Int), .int .i64 20]).run Try.prog w = .ok (.int .i64 (Q : Int)) w := fun w => by rw [run_min]; congr 2; omega
  have hspd := rd_spot Hds.out
  obtain ⟨Ad, hAd, hsd⟩ := ints_to (A := Dds) (n := dds) (c := cDds) (i := Q) hspd.2.2 (by omega) hspd.1
  have hrd := rd_to Hds.out (show Q ≤ dds by omega) hAd
  rw [← ints_take] at hrd
  have HOp := hid hrd
  have hQ20 : Q ≤ 20 := by omega
  have hQd : Q ≤ dds := by omega
  have Hdl := hid Hds.out.cell.1
  clear het b2 HLt hst hdiv hQ hspd hAd hrd hh0
  go_wp2_with fail
  clear hmin hsd
  go_loopg [10, 51] Q (fun gk lv iv W => ∃ (i h : Nat) (Ah : Option Addr) (E : Eng) (T : Tr), i + gk = Q ∧ iv = .int .i64 i ∧ lv = .slice Ah h c1 ∧ h ≤ n1 ∧ Hid (0 < n1 → Ah = A1) ∧ Hid (E.cs = ps.take h ∧ E.vars = 7 ∧ T.vars = 7) ∧ Hid (Solo w1.heap.size (fun _ => False) W eb tb E T) ∧ Hid (Below w1.heap.size w1 W))
  case atStart => exact ⟨0, h0, Ah0, _, _, Nat.zero_add _, rfl, rfl, hh1, HA0, hid ⟨rfl, rfl, rfl⟩, So2, B2⟩
  case round =>
    obtain ⟨i, h, Ah, E, T, hig, rfl, rfl, hhn, HAh, HE, HS, HB⟩ := hrel
    have hi : i ≤ Q := by omega
    have Hig := hid hig
    clear hig
    have hsB := HB.out.size
    by_cases hlt : i < Q
    · have x1 : (i : Int) < (Q : Int) := by omega
      obtain ⟨gO, oO, rfl, _, hgO, eO⟩ := (HOp.out.below HB.out).cell.2 i hlt
      rw [show nth (ds.take Q) i = nth ds i by simp [nth, hlt]] at eO
      obtain ⟨o, ho⟩ : ∃ o, nth ds i = o := ⟨_, rfl⟩
      rw [ho] at eO
      have ho64 : I64 o := ho ▸ Hids.out _ (nth_mem (by rw [Hdl.out]; omega))
      have Ho64 := hid ho64
      clear ho ho64
      obtain ⟨hE1, hE2, hE3⟩ := HE.out
      obtain ⟨m8, hm8⟩ : ∃ m, Int.tmod o 8 = m := ⟨_, rfl⟩
      obtain ⟨m3, hm3⟩ : ∃ m, Int.tmod o 3 = m := ⟨_, rfl⟩
      have hm64 := hid (show I64 m8 by rw [← hm8]; have := tmod_lim o (m := 8) (by decide); unfold I64; omega)
      have HE1 := hid hE1
      have HE2 := hid hE2
      have HE3 := hid hE3
      clear hE1 hE2 hE3
      go_upto_block 2 with fail
      go_cut [10] (fun lv W => ∃ (h : Nat) (Ah : Option Addr) (E : Eng) (T : Tr), lv = .slice Ah h c1 ∧ h ≤ n1 ∧ Hid (0 < n1 → Ah = A1) ∧ Hid (E.cs = ps.take h ∧ E.vars = 7 ∧ T.vars = 7) ∧ Hid (Solo w1.heap.size (fun _ => False) W eb tb E T) ∧ Hid (Below w1.heap.size w1 W))
      case first =>
        by_cases h8 : m8 = 0
        · have t8 : (m8 == 0) = true := by simpa using h8
          go_wp2_with fail
          refine (solo_undo HS.out hsB _).mono ?_
          rintro r w3 ⟨⟨u3, rfl⟩, s3, m3'⟩
          have S3 := hid s3
          have B3 := hid (mod_on HB.out hsB m3')
          clear s3 m3'
          go_wp2_with fail
          go_meet
          case rel => exact ⟨h, Ah, E, _, rfl, hhn, HAh, hid ⟨HE1.out, HE2.out, (Tr.back_vars _ _).trans HE3.out⟩, S3, B3⟩
        · have t8 : (m8 == 0) = false := by simpa using h8
          by_cases hadd : m3 = 0 ∧ h < n1
          · obtain ⟨h3, hhlt⟩ := hadd
            have t3 : (m3 == 0) = true := by simpa using h3
            have xh : (h : Int) < (n1 : Int) := by omega
            obtain ⟨gA, oA, p, P1, m1, d1, P2, m2, d2, hA1, hgF, hgl, hpk, e0, e1, e2, hp⟩ := (HL.out.below HB.out).cells hhlt
            obtain rfl := hA1
            have hpm := List.mem_of_getElem? hpk
            have hfp : E.fits p = true := (Eng.fits_vars (E' := ⟨7, [], [], 0⟩) HE2.out p).trans (Hfit.out p hpm)
            have hadd := solo_add HS.out hsB hp (Hi64.out p hpm) (fun g hg => .inl hg) (by rw [HE1.out, List.length_take]; omega)
            rw [if_pos hfp, if_pos hfp] at hadd
            have Hadd := hid hadd
            have Hnx := hid (show ps.take (h + 1) = ps.take h ++ [p] by rw [List.take_add_one, hpk]; rfl)
            obtain ⟨An, hAn, hsn⟩ := Hto.out (h + 1) (by omega)
            have HAn := hid hAn
            have hsn2 : ∀ W : World, (Instr.slice 24 (.slice (some ⟨gA, oA, none⟩) n1 c1) none (some (.int .i64 ((h : Int) + 1))) none).run Try.prog W = .ok (.slice An (h + 1) c1) W := fun W => hsn W
            clear hadd hp hpk hpm hfp hAn hsn
            go_wp2_with fail
            refine Hadd.out.mono ?_
            rintro r w3 ⟨rfl, s3, m3'⟩
            have S3 := hid s3
            have B3 := hid (mod_on HB.out hsB m3')
            clear s3 m3' e0 e1 e2
            go_wp2_with fail
            go_meet
            case rel => exact ⟨h + 1, An, E.add p, T, rfl, by omega, HAn, hid ⟨by show E.cs ++ [p] = _; rw [HE1.out, Hnx.out], HE2.out, HE3.out⟩, S3, B3⟩
          · have hnot : m3 ≠ 0 ∨ ¬ h < n1 := by omega
            have Hd := hid (solo_decide HS.out hsB hm64.out)
            clear hadd
            rcases hnot with h3 | hh3
            · have t3 : (m3 == 0) = false := by simpa using h3
              go_wp2_with fail
              refine Hd.out.mono ?_
              rintro r w3 ⟨rfl, s3, m3'⟩
              have S3 := hid s3
              have B3 := hid (mod_on HB.out hsB m3')
              clear s3 m3'
              go_wp2_with fail
              go_meet
              case rel => exact ⟨h, Ah, E, _, rfl, hhn, HAh, hid ⟨HE1.out, HE2.out, (Tr.dec_vars _ _).trans HE3.out⟩, S3, B3⟩
            · have xh : ¬ ((h : Int) < (n1 : Int)) := by omega
              by_cases h3 : m3 = 0
              · have t3 : (m3 == 0) = true := by simpa using h3
                go_wp2_with fail
                refine Hd.out.mono ?_
                rintro r w3 ⟨rfl, s3, m3'⟩
                have S3 := hid s3
                have B3 := hid (mod_on HB.out hsB m3')
                clear s3 m3'
                go_wp2_with fail
                go_meet
                case rel => exact ⟨h, Ah, E, _, rfl, hhn, HAh, hid ⟨HE1.out, HE2.out, (Tr.dec_vars _ _).trans HE3.out⟩, S3, B3⟩
              · have t3 : (m3 == 0) = false := by simpa using h3
                go_wp2_with fail
                refine Hd.out.mono ?_
                rintro r w3 ⟨rfl, s3, m3'⟩
                have S3 := hid s3
                have B3 := hid (mod_on HB.out hsB m3')
                clear s3 m3'
                go_wp2_with fail
                go_meet
                case rel => exact ⟨h, Ah, E, _, rfl, hhn, HAh, hid ⟨HE1.out, HE2.out, (Tr.dec_vars _ _).trans HE3.out⟩, S3, B3⟩
      case rest =>
        clear HE1 HE2 HE3
        obtain ⟨k, Ak, E2, T2, rfl, hkn, HAk, HEk, HSk, HBk⟩ := hcut
        have hsk := HBk.out.size
        have HE1 := hid HEk.out.1
        have HE2 := hid HEk.out.2.1
        have HT2v := hid HEk.out.2.2
        have HoE := hid HSk.out.ok.1
        have HoT := hid HSk.out.ok.2
        have HLk := hid ((HL.out.to hkn HAk.out).below HBk.out)
        obtain ⟨n0, hn0⟩ : ∃ z, T2.L.length = z := ⟨_, rfl⟩
        have hn7 : n0 ≤ 7 := by have := HoT.out.len; rw [HT2v.out, hn0] at this; exact this
        have Hn0 := hid hn0
        have HcsOk := hid (show ∀ c ∈ E2.cs, c.Ok from HoE.out.cs)
        have HcsV := hid (show ∀ c ∈ E2.cs, ∀ l ∈ c.lits, l.natAbs ≤ T2.vars by rw [HE1.out, HT2v.out]; exact fun c hc l hl => (Hok.out c (List.mem_of_mem_take hc)).2 l hl)
        have HcsOk2 := hid (show ∀ c ∈ ps.take k, c.Ok from fun c hc => (Hok.out c (List.mem_of_mem_take hc)).1)
        have Hsm2 : ∀ {r : List Int}, (E2.cs.any fun p => impC p r) = true → ((ps.take k).any fun p => impC p r) = true := fun h => by rwa [HE1.out] at h
        clear hn0 hm8 hm3 HS HB HE HAh eO HEk
        have Hsm2 := @Hsm2
        go_wp2_with fail
        refine (lits_any HSk.out.trail).mono ?_
        rintro r w2' ⟨⟨ub, rfl, hob⟩, b2⟩
        rw [Hn0.out] at hob
        obtain ⟨Ab, cb, rfl, _⟩ := hob.form
        have HS2 := hid (HSk.out.below b2)
        have B2' := hid (HBk.out.trans (b2.mono hsk))
        have HL2 := hid (HLk.out.below b2)
        clear hob b2
        go_wp2_with fail
        refine (assign_any HS2.out.trail).mono ?_
        rintro r w3 ⟨⟨ua, rfl, hoA⟩, b3⟩
        rw [HT2v.out, assign_asgX, HT2v.out] at hoA
        obtain ⟨Aa, ca, rfl, _⟩ := hoA.form
        have RA := hid hoA.rd
        have HS3 := hid (HS2.out.below b3)
        have B3' := hid (B2'.out.trans (b3.mono B2'.out.size))
        have HL3 := hid (HL2.out.below b3)
        clear hoA b3
        go_wp2_with fail
        refine (rclosed_any HL3.out (fun p hp => Hok.out p (List.mem_of_mem_take hp)) HoT.out.okX RA.out (by omega)).mono ?_
        rintro r w4 ⟨⟨Aw, cw, f, xs, rfl, hrw, hcx, hcfi, hcf, hcb⟩, b4⟩
        have Rw4 := hid (hrw.mono (G := fun g => False ∨ (w3.heap.size ≤ g ∧ g < w4.heap.size)) fun g hg h => .inr ⟨h, hg⟩)
        have HS4 := hid (HS3.out.more b4)
        have B4' := hid (B3'.out.trans (b4.mono B3'.out.size))
        have HL4 := hid (HL3.out.below b4)
        have Hcx := hid hcx
        have Hcf := hid hcf
        have Hcb := hid hcb
        clear hrw hcx hcfi hcf hcb b4
        go_wp2_with fail
        refine (solo_prop HS4.out B4'.out.size (by rw [HE2.out, HT2v.out]; exact Nat.le_refl _) (by rw [HE1.out, List.length_take]; omega)).mono ?_
        rintro r w5 ⟨hP, m5⟩
        have Want5 := hid (Rw4.out.mod m5 fun g _ hk hg => hg.2 hk)
        have HB5 := hid (mod_on B4'.out B4'.out.size m5)
        have HL5 := hid (HL4.out.mod m5 (fun g _ hg h => by have := h.1; omega) fun g _ hg h => by have := h.1; omega)
        clear m5
        cases hP with
        | calm Ac cc ys g1 g2 g3 g4 =>
          obtain ⟨hf, hvals⟩ := closed_same (.calm Ac cc ys g1 g2 g3) HoE.out HoT.out (by rw [HE2.out, HT2v.out]; exact Nat.le_refl _) HE1.out Hcx.out Hcf.out Hcb.out
          subst hf
          have SoP := hid g4
          have Hvals := hid (hvals rfl)
          clear g3 g4 hvals
          have hex := Tr.exams_is HcsOk.out ys T2 HoT.out HcsV.out g1
          have HwP := hid hex.wf
          have HTv := hid (show (T2.exams E2.cs ys).vars = 7 by rw [hex.vars]; exact HT2v.out)
          have Hst := hid hex.starts
          have HlitsP := hid hex.lits
          obtain ⟨N, hN, hfrom⟩ := hex.more
          have Hfrom := hid (hfrom g2)
          have HN := hid hN
          have HlenP := hid (show (T2.exams E2.cs ys).L.length ≤ 7 by have := HwP.out.len; rw [HTv.out] at this; exact this)
          have hNl : (T2.exams E2.cs ys).L.length = n0 + N.length := by rw [hN, List.length_append, Hn0.out]
          obtain ⟨TP, hTP⟩ : ∃ T, T2.exams E2.cs ys = T := ⟨_, rfl⟩
          rw [hTP] at HwP HTv HN HlenP SoP hNl Hst HlitsP Hvals
          obtain ⟨N', hN'⟩ : ∃ z, N.length = z := ⟨_, rfl⟩
          rw [hN'] at hNl
          have HTr := hid SoP.out.trail
          have HN' := hid hN'
          have HNl := hid hNl
          have hN7 : N' ≤ 7 := by have := HlenP.out; omega
          have Hdep := hid (show TP.depth = TP.starts.length from rfl)
          have Hdp7 := hid (show TP.starts.length ≤ 7 by have h1 := HwP.out.len'; have h2 := HlenP.out; omega)
          clear hTP hN hNl hN' hfrom hex
          go_wp2_with fail
          refine (lits_any HTr.out).mono ?_
          rintro r w6 ⟨⟨ul, rfl, hol⟩, b6⟩
          rw [HNl.out] at hol
          obtain ⟨Al, cl, rfl, hcl, _⟩ := hol.form
          obtain ⟨Af, hAf, hsl⟩ := ints_from (A := Al) (n := n0 + N') (c := cl) (i := n0) (by omega) hcl
          have hrd := rd_from hol.rd (show n0 ≤ n0 + N' by omega) hAf
          rw [show n0 + N' - n0 = N' by omega, Nat.mul_one, show (ints TP.lits).drop n0 = ints (N.map Ent.lit) by rw [show TP.lits = T2.lits ++ N.map Ent.lit by unfold Tr.lits; rw [HN.out, List.map_append], ints_append, List.drop_left' (by rw [ints_length]; simp [Tr.lits]; exact Hn0.out)]] at hrd
          rw [show n0 + N' - n0 = N' by omega] at hsl
          have Rl := hid hrd
          have B6 := hid b6
          have hs6 := b6.size
          have hn0i : (n0 : Int) ≤ ((n0 + N' : Nat) : Int) := by omega
          clear hol b6 hrd hAf hcl
          go_wp2_with fail
          clear hsl hn0i
          go_loopw [116] (fun iv W => ∃ j : Nat, j ≤ N' ∧ iv = .int .i64 j ∧ Hid (Below w6.heap.size w6 W)) (fun iv _ => N' - (intOf iv).toNat)
          case atStart => exact ⟨0, Nat.zero_le _, rfl, hid (Below.refl _ _)⟩
          case round =>
            obtain ⟨j, hj, rfl, HBj⟩ := hrel
            have hsj := HBj.out.size
            by_cases hltj : j < N'
            · have x2 : (j : Int) < (N' : Int) := by omega
              obtain ⟨gl, ol, rfl, _, hgl, el⟩ := (Rl.out.below HBj.out).cell.2 j hltj
              obtain ⟨e, he⟩ : ∃ e, N[j]? = some e := ⟨N[j]'(by rw [HN'.out]; exact hltj), List.getElem?_eq_getElem _⟩
              have hat : TP.L[n0 + j]? = some e := by rw [HN.out, List.getElem?_append_right (by rw [Hn0.out]; omega), Hn0.out, show n0 + j - n0 = j by omega]; exact he
              rw [show nth (N.map Ent.lit) j = e.lit by simp [nth, he]] at el
              have hfe := Hfrom.out e (List.mem_of_getElem? he)
              have hrs := reason_at HwP.out hat
              have hlv := level_at HwP.out hat
              have hlen := hfe.len HcsOk.out
              obtain ⟨hh1', hh2, hh3⟩ := hfe.head
              have hsm := some_from HcsOk.out hfe
              have hx := HwP.out.lit e (List.mem_of_getElem? hat)
              rw [HTv.out] at hx
              unfold Ent.v at hx
              obtain ⟨x, hxe⟩ : ∃ x, e.lit = x := ⟨_, rfl⟩
              rw [hxe] at el hrs hx hlv hh1'
              have hmx := max_abs (l := x) (by omega)
              have hwn : IntKind.i64.wrap (-x) = -x := iw' (by omega) (by omega)
              rw [hh3, ← Hst.out] at hlv
              have Hrs := hid hrs
              have Hlv := hid hlv
              have Hlen := hid hlen
              have Hh1 := hid hh1'
              have Hh2 := hid hh2
              have Hsm := hid hsm
              have HTj := hid ((HTr.out.below B6.out).below HBj.out)
              have HLj := hid ((HL5.out.below B6.out).below HBj.out)
              clear hat hrs hlen hxe he hlv hh1' hh2 hh3 hsm hfe hx
              go_wp2_with fail
              refine (reason_any HTj.out (by rw [Hrs.out]; have := Hlen.out; omega)).mono ?_
              rintro r w7 ⟨⟨ur, rfl, hor⟩, b7⟩
              rw [Hrs.out] at hor
              obtain ⟨rl, hrl⟩ : ∃ z, e.reason.length = z := ⟨_, rfl⟩
              rw [hrl] at hor Hh2
              obtain ⟨Ar, cr, rfl, _⟩ := hor.form
              have hrl0 : 0 < rl := Hh2.out
              have hrli : (0 : Int) < (rl : Int) := by omega
              have hrne : ((rl : Int) == 0) = false := by simp; omega
              have hrne2 : (rl == 0) = false := by simp; omega
              obtain ⟨gr, rfl, _, hgr, er, _⟩ := hor.cell (j := 0) (by omega)
              rw [ints_nth (by rw [hrl]; exact hrl0), Hh1.out] at er
              have Rr := hid hor.rd
              have B7 := hid (HBj.out.trans (b7.mono hsj))
              have HT7 := hid (HTj.out.below b7)
              have HL7 := hid (HLj.out.below b7)
              clear hor b7 hrl el
              go_wp2_with fail
              refine (rsome_any HL7.out HcsOk2.out Rr.out (by omega)).mono ?_
              rintro r w8 ⟨rfl, b8⟩
              rw [Hsm2 Hsm.out]
              have B8 := hid (B7.out.trans (b8.mono B7.out.size))
              have HT8 := hid (HT7.out.below b8)
              clear b8 er
              go_wp2_with fail
              refine (level_any HT8.out).mono ?_
              rintro r w9 ⟨rfl, b9⟩
              rw [Hlv.out]
              have B9 := hid (B8.out.trans (b9.mono B8.out.size))
              have HT9 := hid (HT8.out.below b9)
              clear b9
              go_wp2_with fail
              refine (depth_any HT9.out).mono ?_
              rintro r w10 ⟨rfl, rfl⟩
              rw [Hdep.out]
              clear hmx hwn
              go_wp2_with fail
              go_roundw
              case rel => exact ⟨j + 1, by omega, by go_num, B9⟩
              case measure => simp [intOf]; omega
            · have x2 : ¬ ((j : Int) < (N' : Int)) := by omega
              have BJ := hid (B6.out.trans (HBj.out.mono hs6))
              have SoJ := hid (SoP.out.below BJ.out)
              have HBJ := hid (HB5.out.trans (BJ.out.mono HB5.out.size))
              have Rw := hid (Want5.out.below BJ.out)
              obtain ⟨VJ, hVJ⟩ : ∃ V, V = wr := ⟨_, rfl⟩
              rw [← hVJ] at Rw SoJ HBJ ⊢
              have HTJ := hid SoJ.out.trail
              clear hVJ
              go_wp2_with fail
              go_loopw [177] (fun iv W => ∃ v : Nat, v ≤ 7 ∧ iv = .int .i64 v ∧ Hid (Below VJ.heap.size VJ W)) (fun iv _ => 7 - (intOf iv).toNat)
              case atStart => exact ⟨0, Nat.zero_le _, rfl, hid (Below.refl _ _)⟩
              case round =>
                obtain ⟨v, hv, rfl, HBv⟩ := hrel
                by_cases hltv : v < 7
                · have x3 : (v : Int) < 7 := by omega
                  obtain ⟨gw, ow, rfl, _, hgw, ew⟩ := (Rw.out.below HBv.out).cell8.2 v hltv
                  rw [asgX_nth _ hltv, Hvals.out] at ew
                  obtain ⟨y, hy⟩ : ∃ y, TP.value ((v : Int) + 1) = y := ⟨_, rfl⟩
                  rw [hy] at ew
                  have hy1 : -1 ≤ y ∧ y ≤ 1 := by rw [← hy, Tr.value_is]; unfold valX; split; (· decide); split <;> decide
                  have Hy := hid hy
                  have HI := hid (show I64 ((v : Int) + 1) by unfold I64; omega)
                  clear hy
                  go_wp2_with fail
                  refine (value_any (HTJ.out.below HBv.out) HI.out).mono ?_
                  rintro r w11 ⟨rfl, b11⟩
                  rw [Hy.out]
                  have B11 := hid (HBv.out.trans (b11.mono HBv.out.size))
                  clear b11
                  go_wp2_with fail
                  go_roundw
                  case rel => exact ⟨v + 1, by omega, by go_num, B11⟩
                  case measure => simp [intOf]; omega
                · have x3 : ¬ ((v : Int) < 7) := by omega
                  have SoE := hid ((SoJ.out.below HBv.out).less (K' := fun _ => False) fun _ h => h.elim)
                  have HBE := hid (HBJ.out.trans (HBv.out.mono HBJ.out.size))
                  go_wp2_with fail
                  go_roundg (Q - (i + 1))
                  case measure => have := Hig.out; omega
                  case rel => exact ⟨i + 1, k, Ak, { E2 with seen := runX E2.cs T2.lits ys, done := E2.cs.length }, TP, by omega, by go_num, rfl, hkn, HAk, hid ⟨HE1.out, HE2.out, HTv.out⟩, SoE, HBE⟩
        | bad Ac nc cc ys i2 K' g1 g2 g3 g4 g5 g6 g7 =>
          obtain ⟨hf, _⟩ := closed_same (v := .slice Ac nc cc) (.bad _ ys i2 g1 g2 g3 g4) HoE.out HoT.out (by rw [HE2.out, HT2v.out]; exact Nat.le_refl _) HE1.out Hcx.out Hcf.out Hcb.out
          subst hf
          have SoP := hid g7
          have Rc := hid (show Rd w5 (fun _ => True) 1 (.slice Ac nc cc) nc (ints ((cAt E2.cs i2).offX (runX E2.cs T2.lits ys))) from g5.mono fun _ _ _ => trivial)
          have HsmB := hid (show ((ps.take k).any fun p => impC p ((cAt E2.cs i2).offX (runX E2.cs T2.lits ys))) = true by have := some_off g3 g4; rwa [HE1.out] at this ⊢)
          have hncm : nc ≤ 9223372036854775807 := by have h := rd_spot Rc.out; have h1 := h.1; have h2 := h.2.1; unfold maxLen at h2; omega
          clear g4 g5 g6 g7
          have hex := Tr.exams_is HcsOk.out ys T2 HoT.out HcsV.out g1
          have HwP := hid hex.wf
          have HTv := hid (show (T2.exams E2.cs ys).vars = 7 by rw [hex.vars]; exact HT2v.out)
          have Hst := hid hex.starts
          have HlitsP := hid hex.lits
          obtain ⟨N, hN, hfrom⟩ := hex.more
          have Hfrom := hid (hfrom g2)
          have HN := hid hN
          have HlenP := hid (show (T2.exams E2.cs ys).L.length ≤ 7 by have := HwP.out.len; rw [HTv.out] at this; exact this)
          have hNl : (T2.exams E2.cs ys).L.length = n0 + N.length := by rw [hN, List.length_append, Hn0.out]
          obtain ⟨TP, hTP⟩ : ∃ T, T2.exams E2.cs ys = T := ⟨_, rfl⟩
          rw [hTP] at HwP HTv HN HlenP SoP hNl Hst HlitsP
          obtain ⟨N', hN'⟩ : ∃ z, N.length = z := ⟨_, rfl⟩
          rw [hN'] at hNl
          have HTr := hid SoP.out.trail
          have HN' := hid hN'
          have HNl := hid hNl
          have hN7 : N' ≤ 7 := by have := HlenP.out; omega
          have Hdep := hid (show TP.depth = TP.starts.length from rfl)
          have Hdp7 := hid (show TP.starts.length ≤ 7 by have h1 := HwP.out.len'; have h2 := HlenP.out; omega)
          clear hTP hN hNl hN' hfrom hex
          go_wp2_with fail
          refine (lits_any HTr.out).mono ?_
          rintro r w6 ⟨⟨ul, rfl, hol⟩, b6⟩
          rw [HNl.out] at hol
          obtain ⟨Al, cl, rfl, hcl, _⟩ := hol.form
          obtain ⟨Af, hAf, hsl⟩ := ints_from (A := Al) (n := n0 + N') (c := cl) (i := n0) (by omega) hcl
          have hrd := rd_from hol.rd (show n0 ≤ n0 + N' by omega) hAf
          rw [show n0 + N' - n0 = N' by omega, Nat.mul_one, show (ints TP.lits).drop n0 = ints (N.map Ent.lit) by rw [show TP.lits = T2.lits ++ N.map Ent.lit by unfold Tr.lits; rw [HN.out, List.map_append], ints_append, List.drop_left' (by rw [ints_length]; simp [Tr.lits]; exact Hn0.out)]] at hrd
          rw [show n0 + N' - n0 = N' by omega] at hsl
          have Rl := hid hrd
          have B6 := hid b6
          have hs6 := b6.size
          have hn0i : (n0 : Int) ≤ ((n0 + N' : Nat) : Int) := by omega
          clear hol b6 hrd hAf hcl
          go_wp2_with fail
          clear hsl hn0i
          go_loopw [116] (fun iv W => ∃ j : Nat, j ≤ N' ∧ iv = .int .i64 j ∧ Hid (Below w6.heap.size w6 W)) (fun iv _ => N' - (intOf iv).toNat)
          case atStart => exact ⟨0, Nat.zero_le _, rfl, hid (Below.refl _ _)⟩
          case round =>
            obtain ⟨j, hj, rfl, HBj⟩ := hrel
            have hsj := HBj.out.size
            by_cases hltj : j < N'
            · have x2 : (j : Int) < (N' : Int) := by omega
              obtain ⟨gl, ol, rfl, _, hgl, el⟩ := (Rl.out.below HBj.out).cell.2 j hltj
              obtain ⟨e, he⟩ : ∃ e, N[j]? = some e := ⟨N[j]'(by rw [HN'.out]; exact hltj), List.getElem?_eq_getElem _⟩
              have hat : TP.L[n0 + j]? = some e := by rw [HN.out, List.getElem?_append_right (by rw [Hn0.out]; omega), Hn0.out, show n0 + j - n0 = j by omega]; exact he
              rw [show nth (N.map Ent.lit) j = e.lit by simp [nth, he]] at el
              have hfe := Hfrom.out e (List.mem_of_getElem? he)
              have hrs := reason_at HwP.out hat
              have hlv := level_at HwP.out hat
              have hlen := hfe.len HcsOk.out
              obtain ⟨hh1', hh2, hh3⟩ := hfe.head
              have hsm := some_from HcsOk.out hfe
              have hx := HwP.out.lit e (List.mem_of_getElem? hat)
              rw [HTv.out] at hx
              unfold Ent.v at hx
              obtain ⟨x, hxe⟩ : ∃ x, e.lit = x := ⟨_, rfl⟩
              rw [hxe] at el hrs hx hlv hh1'
              have hmx := max_abs (l := x) (by omega)
              have hwn : IntKind.i64.wrap (-x) = -x := iw' (by omega) (by omega)
              rw [hh3, ← Hst.out] at hlv
              have Hrs := hid hrs
              have Hlv := hid hlv
              have Hlen := hid hlen
              have Hh1 := hid hh1'
              have Hh2 := hid hh2
              have Hsm := hid hsm
              have HTj := hid ((HTr.out.below B6.out).below HBj.out)
              have HLj := hid ((HL5.out.below B6.out).below HBj.out)
              clear hat hrs hlen hxe he hlv hh1' hh2 hh3 hsm hfe hx
              go_wp2_with fail
              refine (reason_any HTj.out (by rw [Hrs.out]; have := Hlen.out; omega)).mono ?_
              rintro r w7 ⟨⟨ur, rfl, hor⟩, b7⟩
              rw [Hrs.out] at hor
              obtain ⟨rl, hrl⟩ : ∃ z, e.reason.length = z := ⟨_, rfl⟩
              rw [hrl] at hor Hh2
              obtain ⟨Ar, cr, rfl, _⟩ := hor.form
              have hrl0 : 0 < rl := Hh2.out
              have hrli : (0 : Int) < (rl : Int) := by omega
              have hrne : ((rl : Int) == 0) = false := by simp; omega
              have hrne2 : (rl == 0) = false := by simp; omega
              obtain ⟨gr, rfl, _, hgr, er, _⟩ := hor.cell (j := 0) (by omega)
              rw [ints_nth (by rw [hrl]; exact hrl0), Hh1.out] at er
              have Rr := hid hor.rd
              have B7 := hid (HBj.out.trans (b7.mono hsj))
              have HT7 := hid (HTj.out.below b7)
              have HL7 := hid (HLj.out.below b7)
              clear hor b7 hrl el
              go_wp2_with fail
              refine (rsome_any HL7.out HcsOk2.out Rr.out (by omega)).mono ?_
              rintro r w8 ⟨rfl, b8⟩
              rw [Hsm2 Hsm.out]
              have B8 := hid (B7.out.trans (b8.mono B7.out.size))
              have HT8 := hid (HT7.out.below b8)
              clear b8 er
              go_wp2_with fail
              refine (level_any HT8.out).mono ?_
              rintro r w9 ⟨rfl, b9⟩
              rw [Hlv.out]
              have B9 := hid (B8.out.trans (b9.mono B8.out.size))
              have HT9 := hid (HT8.out.below b9)
              clear b9
              go_wp2_with fail
              refine (depth_any HT9.out).mono ?_
              rintro r w10 ⟨rfl, rfl⟩
              rw [Hdep.out]
              clear hmx hwn
              go_wp2_with fail
              go_roundw
              case rel => exact ⟨j + 1, by omega, by go_num, B9⟩
              case measure => simp [intOf]; omega
            · have x2 : ¬ ((j : Int) < (N' : Int)) := by omega
              have BJ := hid (B6.out.trans (HBj.out.mono hs6))
              have SoJ := hid (SoP.out.below BJ.out)
              have HBJ := hid (HB5.out.trans (BJ.out.mono HB5.out.size))
              have RC := hid (Rc.out.below BJ.out)
              obtain ⟨VJ, hVJ⟩ : ∃ V, V = wr := ⟨_, rfl⟩
              rw [← hVJ] at RC SoJ HBJ ⊢
              have HTJ := hid SoJ.out.trail
              have HLJ := hid (show PsRd VJ (fun g => g < w1.heap.size) (fun g => g < w1.heap.size) Ak k c1 (ps.take k) by rw [hVJ]; exact HL5.out.below BJ.out)
              clear hVJ
              go_wp2_with fail
              go_loopw [157] (fun iv W => ∃ v : Nat, v ≤ nc ∧ iv = .int .i64 v ∧ Hid (Below VJ.heap.size VJ W)) (fun iv _ => nc - (intOf iv).toNat)
              case atStart => exact ⟨0, Nat.zero_le _, rfl, hid (Below.refl _ _)⟩
              case round =>
                obtain ⟨v, hv, rfl, HBv⟩ := hrel
                by_cases hltv : v < nc
                · have x3 : (v : Int) < (nc : Int) := by omega
                  obtain ⟨gC, oC, rfl, _, hgC, eC⟩ := (RC.out.below HBv.out).cell.2 v hltv
                  have hcl := RC.out.cell.1
                  have hmem := nth_mem (xs := (cAt E2.cs i2).offX (runX E2.cs T2.lits ys)) (k := v) (by omega)
                  obtain ⟨x, hx⟩ : ∃ x, nth ((cAt E2.cs i2).offX (runX E2.cs T2.lits ys)) v = x := ⟨_, rfl⟩
                  rw [hx] at eC hmem
                  have hval : TP.value x = -1 := by rw [Tr.value_is, HlitsP.out]; exact off_val hmem
                  have hl1 := (mem_offX.1 hmem).1
                  have hl7 : x.natAbs ≤ 7 := by have := HcsV.out _ (cAt_mem g3) x hl1; rw [HT2v.out] at this; exact this
                  have HI := hid (show I64 x by unfold I64; omega)
                  have Hval := hid hval
                  clear hval hmem hl1 hx hcl hl7
                  go_wp2_with fail
                  refine (value_any (HTJ.out.below HBv.out) HI.out).mono ?_
                  rintro r w11 ⟨rfl, b11⟩
                  rw [Hval.out]
                  have B11 := hid (HBv.out.trans (b11.mono HBv.out.size))
                  clear b11
                  go_wp2_with fail
                  go_roundw
                  case rel => exact ⟨v + 1, by omega, by go_num, B11⟩
                  case measure => simp [intOf]; omega
                · have x3 : ¬ ((v : Int) < (nc : Int)) := by omega
                  have SoV := hid (SoJ.out.below HBv.out)
                  have HBV := hid (HBJ.out.trans (HBv.out.mono HBJ.out.size))
                  go_wp2_with fail
                  refine (rsome_any (HLJ.out.below HBv.out) HcsOk2.out (RC.out.below HBv.out) (by omega)).mono ?_
                  rintro r w12 ⟨rfl, b12⟩
                  rw [HsmB.out]
                  have So12 := hid (SoV.out.below b12)
                  have HB12 := hid (HBV.out.trans (b12.mono HBV.out.size))
                  clear b12
                  go_wp2_with fail
                  refine (depth_any So12.out.trail).mono ?_
                  rintro r w13 ⟨rfl, rfl⟩
                  rw [Hdep.out]
                  obtain ⟨dp, hdp⟩ : ∃ z, TP.starts.length = z := ⟨_, rfl⟩
                  have hdp7 : dp ≤ 7 := by have := Hdp7.out; omega
                  rw [hdp]
                  clear hdp
                  go_wp2_with fail
                  refine (solo_undo So12.out HB12.out.size _).mono ?_
                  rintro r w14 ⟨⟨z14, rfl⟩, s14, m14⟩
                  have SoE := hid (s14.less (K' := fun _ => False) fun _ h => h.elim)
                  have HBE := hid (mod_on HB12.out HB12.out.size m14)
                  clear s14 m14
                  go_wp2_with fail
                  go_roundg (Q - (i + 1))
                  case measure => have := Hig.out; omega
                  case rel => exact ⟨i + 1, k, Ak, { E2 with seen := [], done := 0 }, _, by omega, by go_num, rfl, hkn, HAk, hid ⟨HE1.out, HE2.out, (Tr.back_vars _ _).trans HTv.out⟩, SoE, HBE⟩
    · have x1 : ¬ ((i : Int) < (Q : Int)) := by omega
      have BWl := hid (below_on B1.out (Nat.le_refl _) HB.out)
      go_wp2_with fail
      refine awake29_any.mono ?_
      rintro r w30 ⟨rfl, b30⟩
      have B30 := hid (BWl.out.trans (b30.mono BWl.out.size))
      clear b30
      go_wp2_with fail
      go_ret
      exact ⟨rfl, B30.out⟩
end Go.Proofs.Ytofobmgmgipomaa
