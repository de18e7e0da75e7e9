/-
  The law PropagateReasons.
-/
import Derived.Test.YtofobmgmgipomaaEnZ
import Derived.Test.YtofobmgmgipomaaMgu
namespace Go.Proofs.Ytofobmgmgipomaa
open Go.RowKit

set_option maxRecDepth 100000 in
set_option maxHeartbeats 16000000 in
theorem reasons_walk {w : World} {A B C : Option Addr} {n cA m cB q cC : Nat} {lls kks : List (List Int)} {bs : List Int} {Dds : Option Addr} {dds cDds : Nat} {ds : List Int} (hl : LsRd w (fun _ => True) A n cA lls) (hk : LsRd w (fun _ => True) B m cB kks) (hb : Rd w (fun _ => True) 1 (.slice C q cC) q (ints bs)) (hds : Rd w (fun _ => True) 1 (.slice Dds dds cDds) dds (ints ds)) (hids : ∀ x ∈ ds, I64 x) :
    Calls Try.prog 6 #[.slice A n cA, .slice B m cB, .slice C q cC, .slice Dds dds cDds] w fun r w' => r = .returned (.bool true) ∧ Below w.heap.size w w' := by
  have Hds := hid (hds.mono (G := fun g => g < w.heap.size) fun g hg _ => hg)
  have Hids := hid hids
  have Hsm := hid (small29_any hl hk hb)
  clear hl hk hb hds hids
  go_enter Try.func6, Try.ntmps6
  go_wp2_with fail
  refine Hsm.out.mono ?_
  rintro r w1 ⟨⟨A1, n1, c1, ts1, rfl, hD⟩, b1⟩
  have hfi1 : ∀ p ∈ small7 lls kks bs (min lls.length 24), Eng.fits ⟨7, [], [], 0⟩ p = true := small7_fits
  have hok1 : ∀ p ∈ small7 lls kks bs (min lls.length 24), p.Ok ∧ ∀ l ∈ p.lits, l.natAbs ≤ 7 := fun p hp => small7_mem hp
  have hle1 := small7_len lls kks bs (min lls.length 24)
  obtain ⟨ps, hps⟩ : ∃ ps, small7 lls kks bs (min lls.length 24) = ps := ⟨_, rfl⟩
  rw [hps] at hD hfi1 hok1 hle1
  have hn1 : n1 ≤ 24 := by rw [← hD.len]; omega
  have Hfit := hid hfi1
  have Hok := hid hok1
  have Hi64 := hid (fun p hp => (Hok.out p hp).1.i64)
  have HD := hid hD
  have B1 := hid b1
  have hw1 := b1.size
  have Hds := hid ((Hds.out.below b1).mono (G := fun g => g < w1.heap.size) fun g _ hg => by omega)
  clear hfi1 hok1 hle1 hps hD b1 Hsm

  go_wp2_with fail
  refine (loaded_any HD.out.rd Hi64.out Hfit.out (by omega)).mono ?_
  rintro r w2 ⟨⟨eb, tb, rfl, het⟩, b2⟩
  have So2 := hid (show Solo w1.heap.size (fun _ => False) w2 eb tb ⟨7, ps, [], 0⟩ ⟨7, [], []⟩ from ⟨_, het, fun g hg => hg, fun _ _ h => h, fun _ h => h.elim⟩)
  have HL := hid ((HD.out.rd.mono (F' := fun g => g < w1.heap.size) (G' := fun g => g < w1.heap.size) (fun g hg _ => hg) fun g hg h => hg).below b2)
  have hlen := HD.out.len
  have Hlen := hid hlen
  have B2 := hid b2
  have hw2 := b2.size
  clear het b2 hlen HD
  go_wp2_with fail
  refine (solo_decided So2.out hw2 (Hds.out.below B2.out) Hids.out fun g hg => .inl hg).mono ?_
  rintro r w3 ⟨⟨z3, rfl⟩, h3, m3⟩
  have hw3 := m3.size
  have B3 := hid (mod_on B2.out hw2 m3)
  have So3 := hid h3
  obtain ⟨TD, hTD⟩ : ∃ T, Tr.decs ⟨7, [], []⟩ (ds.take 7) = T := ⟨_, rfl⟩
  have hTv : TD.vars = 7 := by rw [← hTD, Tr.decs_vars]
  rw [hTD] at So3
  have HTv0 := hid hTv
  have M3 := hid m3
  clear h3 m3 So2 hTD hTv
  go_wp2_with fail
  refine (lits_any So3.out.trail).mono ?_
  rintro r w4 ⟨⟨ub, rfl, hob⟩, b4⟩
  have hw4 := b4.size
  obtain ⟨n0, hn0⟩ : ∃ z, TD.L.length = z := ⟨_, rfl⟩
  rw [hn0] at hob
  obtain ⟨Ab, cb, rfl, _⟩ := hob.form
  have Hn0 := hid hn0
  have So4 := hid (So3.out.below b4)
  have B4 := hid (B3.out.trans (b4.mono (Nat.le_trans hw2 hw3)))
  have HL := hid (HL.out.mod M3.out (fun g _ hg h => by have := h.1; omega) fun g _ hg h => by have := h.1; omega)
  have HL := hid (HL.out.below b4)
  have hn7 : n0 ≤ 7 := by have := So3.out.ok.2.len; rw [HTv0.out, hn0] at this; exact this
  clear b4 hob So3 B3 hn0
  go_wp2_with fail
  refine (solo_prop So4.out (by omega) (by rw [HTv0.out]; exact Nat.le_refl _) (by show ps.length ≤ _; rw [Hlen.out]; omega)).mono ?_
  rintro r w5 ⟨hP, m5⟩
  have hw5 := m5.size
  have B5 := hid (mod_on B4.out (by omega) m5)
  have BW := hid (below_on B1.out (Nat.le_refl _) B5.out)
  have HL5 := hid (HL.out.mod m5 (fun g _ hg h => by have := h.1; omega) fun g _ hg h => by have := h.1; omega)
  have HoT := hid So4.out.ok.2
  clear m5 B4
  cases hP with
  | calm Ac cc xs g1 g2 g3 g4 =>
    have hex := Tr.exams_is (fun c hc => (Hok.out c hc).1) xs TD HoT.out (fun c hc l hl => by rw [HTv0.out]; exact (Hok.out c hc).2 l hl) g1
    have HwP := hid hex.wf
    have HTv := hid (show (TD.exams ps xs).vars = 7 by rw [hex.vars]; exact HTv0.out)
    obtain ⟨N, hN, hfrom⟩ := hex.more
    have Hfrom := hid (hfrom g2)
    have HN := hid hN
    have HlenP := hid (show (TD.exams ps xs).L.length ≤ 7 by have := HwP.out.len; rw [HTv.out] at this; exact this)
    have hNl : (TD.exams ps xs).L.length = n0 + N.length := by rw [hN, List.length_append, Hn0.out]
    have SoP := hid g4
    clear g1 g2 g3 g4
    obtain ⟨TP, hTP⟩ : ∃ T, TD.exams ps xs = T := ⟨_, rfl⟩
    rw [hTP] at HwP HTv HN HlenP SoP hNl
    obtain ⟨N', hN'⟩ : ∃ z, N.length = z := ⟨_, rfl⟩
    rw [hN'] at hNl
    have HTr := hid SoP.out.trail
    have HN' := hid hN'
    have HNl := hid hNl
    have hN7 : N' ≤ 7 := by have := HlenP.out; omega
    clear hTP hN hNl hN' hfrom hex
    go_wp2_with fail
    refine (lits_any HTr.out).mono ?_
    rintro r w6 ⟨⟨ul, rfl, hol⟩, b6⟩
    rw [HNl.out] at hol
    obtain ⟨Al, cl, rfl, hcl, _⟩ := hol.form
    obtain ⟨Af, hAf, hsl⟩ := ints_from (A := Al) (n := n0 + N') (c := cl) (i := n0) (by omega) hcl
    have hrd := rd_from hol.rd (show n0 ≤ n0 + N' by omega) hAf
    rw [show n0 + N' - n0 = N' by omega, Nat.mul_one, show (ints TP.lits).drop n0 = ints (N.map Ent.lit) by rw [show TP.lits = TD.lits ++ N.map Ent.lit by unfold Tr.lits; rw [HN.out, List.map_append], ints_append, List.drop_left' (by rw [ints_length]; simp [Tr.lits]; exact Hn0.out)]] at hrd
    rw [show n0 + N' - n0 = N' by omega] at hsl
    have Rl := hid hrd
    have B6 := hid b6
    have hs6 := b6.size
    have hn0i : (n0 : Int) ≤ ((n0 + N' : Nat) : Int) := by omega
    clear hol b6 hrd hAf hcl
    go_wp2_with fail
    go_loopw [16, 55] (fun vo iv W => ∃ (k : Nat) (Ao : Option Addr) (co : Nat) (rows : List Value), k ≤ N' ∧ iv = .int .i64 k ∧ vo = .slice Ao k co ∧ Hid (Rws w6.heap.size (fun _ => True) W Ao k co rows ((N.take k).map Ent.reason)) ∧ Hid (Below w6.heap.size w6 W)) (fun _ iv _ => N' - (intOf iv).toNat)
    case atStart => exact ⟨0, none, 0, [], Nat.zero_le _, rfl, rfl, hid (Rws.nil _ _ _), hid (Below.refl _ _)⟩
    case round =>
      obtain ⟨k, Ao, co, rows, hk, rfl, rfl, HRw, HBk⟩ := hrel
      have hsk := HBk.out.size
      by_cases hlt : k < N'
      · have x1 : (k : Int) < (N' : Int) := by omega
        obtain ⟨gl, ol, rfl, _, hgl, el⟩ := (Rl.out.below HBk.out).cell.2 k hlt
        obtain ⟨e, he⟩ : ∃ e, N[k]? = some e := ⟨N[k]'(by rw [HN'.out]; exact hlt), List.getElem?_eq_getElem _⟩
        have hat : TP.L[n0 + k]? = some e := by rw [HN.out, List.getElem?_append_right (by rw [Hn0.out]; omega), Hn0.out, show n0 + k - n0 = k by omega]; exact he
        rw [show nth (N.map Ent.lit) k = e.lit by simp [nth, he]] at el
        have hrs := reason_at HwP.out hat
        have hlen := (Hfrom.out e (List.mem_of_getElem? he)).len fun c hc => (Hok.out c hc).1
        have hx := HwP.out.lit e (List.mem_of_getElem? hat)
        rw [HTv.out] at hx
        unfold Ent.v at hx
        have Hnx := hid (show (N.take (k + 1)).map Ent.reason = (N.take k).map Ent.reason ++ [e.reason] by rw [List.take_add_one, he]; simp)
        obtain ⟨x, hxe⟩ : ∃ x, e.lit = x := ⟨_, rfl⟩
        rw [hxe] at el hrs hx
        have hmx := max_abs (l := x) (by omega)
        have hwn : IntKind.i64.wrap (-x) = -x := iw' (by omega) (by omega)
        have Hrs := hid hrs
        have Hlen := hid hlen
        have HTk := hid ((HTr.out.below B6.out).below HBk.out)
        clear hat hrs hlen hxe he
        go_wp2_with fail
        refine (reason_any HTk.out (by rw [Hrs.out]; have := Hlen.out; omega)).mono ?_
        rintro r w7 ⟨⟨ur, rfl, hor⟩, b7⟩
        rw [Hrs.out] at hor
        obtain ⟨Ar, cr, rfl, _⟩ := hor.form
        obtain ⟨X, hX, bX, _, sX⟩ := alloc_step w7 (.cells #[.slice Ar e.reason.length cr] 23)
        have oX := own_row w7 (.slice Ar e.reason.length cr)
        have hb7 := b7.size
        have HB7 := hid (HBk.out.trans ((b7.trans (bX.mono hb7)).mono hsk))
        have HRX := hid ((HRw.out.below b7).below bX)
        have hrX := hid ((hor.rd.mono (G := fun g => True ∧ ¬ row (.slice Ao k co) g) fun g _ hg => ⟨trivial, fun er => by have := HRw.out.row er; omega⟩).below bX)
        have oD' := HRX.out.own
        rw [← hX] at oD'
        have OD := hid oD'
        have OX := hid oX.rd
        have HX := hid hX
        clear hor hX bX sX oX oD' b7 hmx
        go_wp2_with (at_builtin; refine wpList_append_row rfl _ _ rfl OD.out OX.out rfl rfl rfl (by omega) fun A' c' V5 ho hm hr => ?_)
        rw [HX.out] at hm hr ho
        obtain ⟨D5, b5⟩ := HRX.out.push (by have := HB7.out.size; omega) ho hm hr hrX.out
        have HD5 := hid D5
        have HB5 := hid (HB7.out.trans b5)
        clear D5 b5 ho hm hr
        go_roundw
        case rel => exact ⟨k + 1, A', c', rows ++ [.slice Ar e.reason.length cr], by omega, by go_num, rfl, hid (by rw [Hnx.out]; exact HD5.out), HB5⟩
        case measure => simp [intOf]; omega
      · have x1 : ¬ ((k : Int) < (N' : Int)) := by omega
        have Hnk := hid (show N.take k = N by rw [List.take_of_length_le (by rw [HN'.out]; omega)])
        have HRk := HRw.out
        rw [Hnk.out] at HRk
        have HLs := hid HRk.ls
        have Himp := hid (show ∀ cl ∈ N.map Ent.reason, ImpB ps cl from fun cl hcl => by
          obtain ⟨e, he, rfl⟩ := List.mem_map.1 hcl
          exact imp_new Hok.out (Hfrom.out e he))
        have BWV := hid (BW.out.trans ((B6.out.trans (HBk.out.mono hs6)).mono BW.out.size))
        have HLV := hid ((HL5.out.below B6.out).below HBk.out)
        obtain ⟨no, hno⟩ : ∃ z, k = z := ⟨_, rfl⟩
        rw [hno] at HLs x1 ⊢
        have hno7 : no ≤ 7 := by omega
        clear HRk HRw HBk hno
        go_wp2_with fail
        obtain ⟨V, hVV⟩ : ∃ V, V = wr := ⟨_, rfl⟩
        rw [← hVV] at BWV HLV HLs ⊢
        clear hVV
        go_loopw [76] (fun iv W => ∃ k : Nat, k ≤ no ∧ iv = .int .i64 k ∧ Hid (Below V.heap.size V W)) (fun iv _ => no - (intOf iv).toNat)
        case atStart => exact ⟨0, Nat.zero_le _, rfl, hid (Below.refl _ _)⟩
        case round =>
          obtain ⟨a, ha, rfl, HBa⟩ := hrel
          obtain ⟨Va, rfl⟩ : ∃ V, V = wr := ⟨_, rfl⟩
          by_cases hlta : a < no
          · have xa : (a : Int) < (no : Int) := by omega
            obtain ⟨gL, oL, cl, R, d, rfl, hgL, hcl?, eL, hR⟩ := (HLs.out.below HBa.out).cells hlta
            have himp := Himp.out cl (List.mem_of_getElem? hcl?)
            obtain ⟨lc, hlc⟩ : ∃ z, cl.length = z := ⟨_, rfl⟩
            rw [hlc] at eL hR
            have hcm : lc ≤ 9223372036854775807 := by have h := rd_spot hR; have h1 := h.1; have h2 := h.2.1; unfold maxLen at h2; omega
            have HR := hid hR
            have Himc := hid himp
            have Hlc := hid hlc
            clear hR himp hlc hcl?
            go_wp2_with fail
            go_loopw [80] (fun iv W => ∃ k : Nat, k ≤ 128 ∧ iv = .int .i64 k ∧ Hid (Below Va.heap.size Va W)) (fun iv _ => 128 - (intOf iv).toNat)
            case atStart => exact ⟨0, Nat.zero_le _, rfl, hid (Below.refl _ _)⟩
            case round =>
              obtain ⟨k, hk, rfl, HBk⟩ := hrel
              have hsk := HBk.out.size
              by_cases hlt : k < 128
              · have x1 : (k : Int) < 128 := by omega
                have Hne := hid (tot7_ne hlt)
                go_wp2_with fail
                refine total7_any.mono ?_
                rintro r w6 ⟨Z, hZ, rfl, hoZ, b6⟩
                have RZ := hid hoZ.rd
                have B6 := hid (HBk.out.trans (b6.mono hsk))
                obtain ⟨av, hav⟩ : ∃ av, totUp7 (k : Int) 7 = av := ⟨_, rfl⟩
                rw [hav] at RZ Hne
                have HR6 := hid (HR.out.below B6.out)
                clear hoZ b6 hav hZ
                go_wp2_with fail
                go_loopw [23, 87] (fun sv iv W => ∃ k : Nat, k ≤ lc ∧ iv = .int .i64 k ∧ sv = .bool ((cl.take k).any (litX av)) ∧ Hid (Below w6.heap.size w6 W)) (fun _ iv _ => lc - (intOf iv).toNat)
                case atStart => exact ⟨0, Nat.zero_le _, rfl, by simp, hid (Below.refl _ _)⟩
                case round =>
                  obtain ⟨j, hj, rfl, rfl, HBj⟩ := hrel
                  by_cases hltj : j < lc
                  · have x2 : (j : Int) < (lc : Int) := by omega
                    obtain ⟨gC, oC, rfl, _, hgC, eC⟩ := (HR6.out.below HBj.out).cell.2 j hltj
                    have hst : (cl.take (j + 1)).any (litX av) = ((cl.take j).any (litX av) || litX av (nth cl j)) := by rw [take_nth (by rw [Hlc.out]; exact hltj), List.any_append]; simp
                    have hx7 := Himc.out.1 _ (nth_mem (xs := cl) (k := j) (by rw [Hlc.out]; exact hltj))
                    obtain ⟨x, hx⟩ : ∃ x, nth cl j = x := ⟨_, rfl⟩
                    rw [hx] at hst hx7 eC
                    obtain ⟨q, hq⟩ : ∃ q, (cl.take j).any (litX av) = q := ⟨_, rfl⟩
                    rw [hq] at hst ⊢
                    have Hst := hid hst
                    obtain ⟨v, hv⟩ : ∃ v, x.natAbs = v + 1 := ⟨x.natAbs - 1, by omega⟩
                    have hmx := max_abs (l := x) (by omega)
                    rw [hv] at hmx
                    have hwn : IntKind.i64.wrap (-x) = -x := iw' (by omega) (by omega)
                    have hv6 : v ≤ 6 := by omega
                    obtain ⟨gZ, oZ, eZ, _, hgZ, hcZ⟩ := (RZ.out.below HBj.out).cell8.2 v (by omega)
                    injection eZ with eZ
                    injection eZ with eZ1 eZ2
                    subst eZ1 eZ2
                    rw [Nat.zero_add] at hcZ
                    have hvq : (v : Int) < 7 := by omega
                    have Hlx := hid (show litX av x = (decide (0 < nth av v) == decide (0 < x)) by unfold litX; rw [hv]; rfl)
                    obtain ⟨y, hy⟩ : ∃ y, nth av v = y := ⟨_, rfl⟩
                    rw [hy] at hcZ Hlx
                    have Hv := hid hv
                    have Hx7 := hid hx7
                    clear hst hq hx hv hx7 hy
                    cases q with
                    | true =>
                      clear hmx hwn
                      go_wp2_with fail
                      go_roundw
                      case rel => exact ⟨j + 1, by omega, by go_num, by rw [Hst.out]; rfl, HBj⟩
                      case measure => simp [intOf]; omega
                    | false =>
                      by_cases hy0 : 0 < y
                      · by_cases hl0 : 0 < x
                        · have hb := hid (show litX av x = true by rw [Hlx.out]; simp [hy0, hl0])
                          go_wp2_with fail
                          go_roundw
                          case rel => exact ⟨j + 1, by omega, by go_num, by rw [Hst.out, hb.out]; rfl, HBj⟩
                          case measure => simp [intOf]; omega
                        · have hb := hid (show litX av x = false by rw [Hlx.out]; simp [hy0, hl0])
                          go_wp2_with fail
                          go_roundw
                          case rel => exact ⟨j + 1, by omega, by go_num, by rw [Hst.out, hb.out]; rfl, HBj⟩
                          case measure => simp [intOf]; omega
                      · by_cases hl0 : 0 < x
                        · have hb := hid (show litX av x = false by rw [Hlx.out]; simp [hy0, hl0])
                          go_wp2_with fail
                          go_roundw
                          case rel => exact ⟨j + 1, by omega, by go_num, by rw [Hst.out, hb.out]; rfl, HBj⟩
                          case measure => simp [intOf]; omega
                        · have hb := hid (show litX av x = true by rw [Hlx.out]; simp [hy0, hl0])
                          go_wp2_with fail
                          go_roundw
                          case rel => exact ⟨j + 1, by omega, by go_num, by rw [Hst.out, hb.out]; rfl, HBj⟩
                          case measure => simp [intOf]; omega
                  · have x2 : ¬ ((j : Int) < (lc : Int)) := by omega
                    have hall : (cl.take j).any (litX av) = cl.any (litX av) := by rw [List.take_of_length_le (by rw [Hlc.out]; omega)]
                    rw [hall]
                    have himp := fun h => Himc.out.2 av Hne.out h
                    have B7 := hid (B6.out.trans (HBj.out.mono B6.out.size))
                    have RZ7 := hid (RZ.out.below HBj.out)
                    cases hq : cl.any (litX av) with
                    | true =>
                      clear himp hall hq
                      go_wp2_with fail
                      go_roundw
                      case rel => exact ⟨k + 1, by omega, by go_num, B7⟩
                      case measure => simp [intOf]; omega
                    | false =>
                      have hex : extB ps [] av = false := by
                        cases he : extB ps [] av with
                        | false => rfl
                        | true => rw [himp he] at hq; cases hq
                      have Hex := hid hex
                      clear himp hall hq hex
                      go_wp2_with fail
                      refine (extends_any (n := n1) (ls := []) ((HLV.out.below HBa.out).below B7.out) Hi64.out (Own.nil _ (fun _ => True) 3 1).rd RZ7.out (by simp) (by omega) (by omega)).mono ?_
                      rintro r w8 ⟨rfl, b8⟩
                      rw [Hex.out]
                      have B8 := hid (B7.out.trans (b8.mono B7.out.size))
                      clear b8
                      go_wp2_with fail
                      go_roundw
                      case rel => exact ⟨k + 1, by omega, by go_num, B8⟩
                      case measure => simp [intOf]; omega
              · have x1 : ¬ ((k : Int) < 128) := by omega
                have Ba2 := hid (HBa.out.trans (HBk.out.mono HBa.out.size))
                go_wp2_with fail
                go_roundw
                case rel => exact ⟨a + 1, by omega, by go_num, Ba2⟩
                case measure => simp [intOf]; omega
          · have xa : ¬ ((a : Int) < (no : Int)) := by omega
            have BWl := hid (BWV.out.trans (HBa.out.mono BWV.out.size))
            go_wp2_with fail
            refine awake29_any.mono ?_
            rintro r w9 ⟨rfl, b9⟩
            have B9 := hid (BWl.out.trans (b9.mono BWl.out.size))
            clear b9
            go_wp2_with fail
            go_ret
            exact ⟨rfl, B9.out⟩
  | bad Ac nc cc xs i K' g1 g2 g3 g4 g5 g6 g7 =>
    have hex := Tr.exams_is (fun c hc => (Hok.out c hc).1) xs TD HoT.out (fun c hc l hl => by rw [HTv0.out]; exact (Hok.out c hc).2 l hl) g1
    have HwP := hid hex.wf
    have HTv := hid (show (TD.exams ps xs).vars = 7 by rw [hex.vars]; exact HTv0.out)
    obtain ⟨N, hN, hfrom⟩ := hex.more
    have Hfrom := hid (hfrom g2)
    have HN := hid hN
    have HlenP := hid (show (TD.exams ps xs).L.length ≤ 7 by have := HwP.out.len; rw [HTv.out] at this; exact this)
    have hNl : (TD.exams ps xs).L.length = n0 + N.length := by rw [hN, List.length_append, Hn0.out]
    have SoP := hid g7
    have Rc := hid (show Rd w5 (fun g => g < w5.heap.size) 1 (.slice Ac nc cc) nc (ints ((cAt ps i).offX (runX ps TD.lits xs))) from g5.mono fun g hg _ => hg)
    have Hg4 := hid (show (cAt ps i).slackX (runX ps TD.lits xs) < 0 from g4)
    have g3 : i < ps.length := g3
    clear g1 g2 g4 g5 g6 g7
    obtain ⟨TP, hTP⟩ : ∃ T, TD.exams ps xs = T := ⟨_, rfl⟩
    rw [hTP] at HwP HTv HN HlenP SoP hNl
    obtain ⟨N', hN'⟩ : ∃ z, N.length = z := ⟨_, rfl⟩
    rw [hN'] at hNl
    have HTr := hid SoP.out.trail
    have HN' := hid hN'
    have HNl := hid hNl
    have hN7 : N' ≤ 7 := by have := HlenP.out; omega
    clear hTP hN hNl hN' hfrom hex
    go_wp2_with fail
    refine (lits_any HTr.out).mono ?_
    rintro r w6 ⟨⟨ul, rfl, hol⟩, b6⟩
    rw [HNl.out] at hol
    obtain ⟨Al, cl, rfl, hcl, _⟩ := hol.form
    obtain ⟨Af, hAf, hsl⟩ := ints_from (A := Al) (n := n0 + N') (c := cl) (i := n0) (by omega) hcl
    have hrd := rd_from hol.rd (show n0 ≤ n0 + N' by omega) hAf
    rw [show n0 + N' - n0 = N' by omega, Nat.mul_one, show (ints TP.lits).drop n0 = ints (N.map Ent.lit) by rw [show TP.lits = TD.lits ++ N.map Ent.lit by unfold Tr.lits; rw [HN.out, List.map_append], ints_append, List.drop_left' (by rw [ints_length]; simp [Tr.lits]; exact Hn0.out)]] at hrd
    rw [show n0 + N' - n0 = N' by omega] at hsl
    have Rl := hid hrd
    have B6 := hid b6
    have hs6 := b6.size
    have hn0i : (n0 : Int) ≤ ((n0 + N' : Nat) : Int) := by omega
    clear hol b6 hrd hAf hcl
    go_wp2_with fail
    go_loopw [16, 55] (fun vo iv W => ∃ (k : Nat) (Ao : Option Addr) (co : Nat) (rows : List Value), k ≤ N' ∧ iv = .int .i64 k ∧ vo = .slice Ao k co ∧ Hid (Rws w6.heap.size (fun _ => True) W Ao k co rows ((N.take k).map Ent.reason)) ∧ Hid (Below w6.heap.size w6 W)) (fun _ iv _ => N' - (intOf iv).toNat)
    case atStart => exact ⟨0, none, 0, [], Nat.zero_le _, rfl, rfl, hid (Rws.nil _ _ _), hid (Below.refl _ _)⟩
    case round =>
      obtain ⟨k, Ao, co, rows, hk, rfl, rfl, HRw, HBk⟩ := hrel
      have hsk := HBk.out.size
      by_cases hlt : k < N'
      · have x1 : (k : Int) < (N' : Int) := by omega
        obtain ⟨gl, ol, rfl, _, hgl, el⟩ := (Rl.out.below HBk.out).cell.2 k hlt
        obtain ⟨e, he⟩ : ∃ e, N[k]? = some e := ⟨N[k]'(by rw [HN'.out]; exact hlt), List.getElem?_eq_getElem _⟩
        have hat : TP.L[n0 + k]? = some e := by rw [HN.out, List.getElem?_append_right (by rw [Hn0.out]; omega), Hn0.out, show n0 + k - n0 = k by omega]; exact he
        rw [show nth (N.map Ent.lit) k = e.lit by simp [nth, he]] at el
        have hrs := reason_at HwP.out hat
        have hlen := (Hfrom.out e (List.mem_of_getElem? he)).len fun c hc => (Hok.out c hc).1
        have hx := HwP.out.lit e (List.mem_of_getElem? hat)
        rw [HTv.out] at hx
        unfold Ent.v at hx
        have Hnx := hid (show (N.take (k + 1)).map Ent.reason = (N.take k).map Ent.reason ++ [e.reason] by rw [List.take_add_one, he]; simp)
        obtain ⟨x, hxe⟩ : ∃ x, e.lit = x := ⟨_, rfl⟩
        rw [hxe] at el hrs hx
        have hmx := max_abs (l := x) (by omega)
        have hwn : IntKind.i64.wrap (-x) = -x := iw' (by omega) (by omega)
        have Hrs := hid hrs
        have Hlen := hid hlen
        have HTk := hid ((HTr.out.below B6.out).below HBk.out)
        clear hat hrs hlen hxe he
        go_wp2_with fail
        refine (reason_any HTk.out (by rw [Hrs.out]; have := Hlen.out; omega)).mono ?_
        rintro r w7 ⟨⟨ur, rfl, hor⟩, b7⟩
        rw [Hrs.out] at hor
        obtain ⟨Ar, cr, rfl, _⟩ := hor.form
        obtain ⟨X, hX, bX, _, sX⟩ := alloc_step w7 (.cells #[.slice Ar e.reason.length cr] 23)
        have oX := own_row w7 (.slice Ar e.reason.length cr)
        have hb7 := b7.size
        have HB7 := hid (HBk.out.trans ((b7.trans (bX.mono hb7)).mono hsk))
        have HRX := hid ((HRw.out.below b7).below bX)
        have hrX := hid ((hor.rd.mono (G := fun g => True ∧ ¬ row (.slice Ao k co) g) fun g _ hg => ⟨trivial, fun er => by have := HRw.out.row er; omega⟩).below bX)
        have oD' := HRX.out.own
        rw [← hX] at oD'
        have OD := hid oD'
        have OX := hid oX.rd
        have HX := hid hX
        clear hor hX bX sX oX oD' b7 hmx
        go_wp2_with (at_builtin; refine wpList_append_row rfl _ _ rfl OD.out OX.out rfl rfl rfl (by omega) fun A' c' V5 ho hm hr => ?_)
        rw [HX.out] at hm hr ho
        obtain ⟨D5, b5⟩ := HRX.out.push (by have := HB7.out.size; omega) ho hm hr hrX.out
        have HD5 := hid D5
        have HB5 := hid (HB7.out.trans b5)
        clear D5 b5 ho hm hr
        go_roundw
        case rel => exact ⟨k + 1, A', c', rows ++ [.slice Ar e.reason.length cr], by omega, by go_num, rfl, hid (by rw [Hnx.out]; exact HD5.out), HB5⟩
        case measure => simp [intOf]; omega
      · have x1 : ¬ ((k : Int) < (N' : Int)) := by omega
        have Hnk := hid (show N.take k = N by rw [List.take_of_length_le (by rw [HN'.out]; omega)])
        have Rck := hid ((Rc.out.below B6.out).below HBk.out)
        obtain ⟨X, hX, bX, _, sX⟩ := alloc_step wr (.cells #[.slice Ac nc cc] 23)
        have oX := own_row wr (.slice Ac nc cc)
        have HRX := hid (HRw.out.below bX)
        have hrX := hid ((Rck.out.mono (G := fun g => True ∧ ¬ row (.slice Ao k co) g) fun g _ hg => ⟨trivial, fun er => by have h1 := (HRw.out.row er).1; omega⟩).below bX)
        have hcl := hrX.out.cell.1
        rw [← hcl] at hrX
        have oD' := HRX.out.own
        rw [← hX] at oD'
        have OD := hid oD'
        have OX := hid oX.rd
        have HX := hid hX
        have HB7 := hid (HBk.out.trans (bX.mono hsk))
        have Hcl := hid hcl
        clear hX bX sX oX oD' hcl
        go_wp2_with (at_builtin; refine wpList_append_row rfl _ _ rfl OD.out OX.out rfl rfl rfl (by omega) fun A' c' V5 ho hm hr => ?_)
        rw [HX.out] at hm hr ho
        rw [← Hcl.out] at ho
        obtain ⟨D5, b5⟩ := HRX.out.push (by have := HB7.out.size; omega) ho hm hr hrX.out
        have HRk := D5
        rw [Hnk.out] at HRk
        have HLs := hid HRk.ls
        have HB5 := hid (HB7.out.trans b5)
        have Himp := hid (show ∀ cl ∈ N.map Ent.reason ++ [(cAt ps i).offX (runX ps TD.lits xs)], ImpB ps cl from fun cl hcl => by
          rcases List.mem_append.1 hcl with hcl | hcl
          · obtain ⟨e, he, rfl⟩ := List.mem_map.1 hcl
            exact imp_new Hok.out (Hfrom.out e he)
          · rw [List.mem_singleton.1 hcl]
            exact imp_off Hok.out g3 Hg4.out)
        clear D5 b5 ho hm hr HRk
        have BWV := hid (BW.out.trans ((B6.out.trans (HB5.out.mono hs6)).mono BW.out.size))
        have HLV := hid ((HL5.out.below B6.out).below HB5.out)
        obtain ⟨no, hno⟩ : ∃ z, k + 1 = z := ⟨_, rfl⟩
        rw [hno] at HLs
        have hno7 : no ≤ 8 := by omega
        rw [hno, show (k : Int) + 1 = (no : Int) by omega]
        clear HRw HBk hno
        obtain ⟨V, hVV⟩ : ∃ V, V = V5 := ⟨_, rfl⟩
        rw [← hVV] at BWV HLV HLs ⊢
        clear hVV
        go_loopw [76] (fun iv W => ∃ k : Nat, k ≤ no ∧ iv = .int .i64 k ∧ Hid (Below V.heap.size V W)) (fun iv _ => no - (intOf iv).toNat)
        case atStart => exact ⟨0, Nat.zero_le _, rfl, hid (Below.refl _ _)⟩
        case round =>
          obtain ⟨a, ha, rfl, HBa⟩ := hrel
          obtain ⟨Va, rfl⟩ : ∃ V, V = wr := ⟨_, rfl⟩
          by_cases hlta : a < no
          · have xa : (a : Int) < (no : Int) := by omega
            obtain ⟨gL, oL, cl, R, d, rfl, hgL, hcl?, eL, hR⟩ := (HLs.out.below HBa.out).cells hlta
            have himp := Himp.out cl (List.mem_of_getElem? hcl?)
            obtain ⟨lc, hlc⟩ : ∃ z, cl.length = z := ⟨_, rfl⟩
            rw [hlc] at eL hR
            have hcm : lc ≤ 9223372036854775807 := by have h := rd_spot hR; have h1 := h.1; have h2 := h.2.1; unfold maxLen at h2; omega
            have HR := hid hR
            have Himc := hid himp
            have Hlc := hid hlc
            clear hR himp hlc hcl?
            go_wp2_with fail
            go_loopw [80] (fun iv W => ∃ k : Nat, k ≤ 128 ∧ iv = .int .i64 k ∧ Hid (Below Va.heap.size Va W)) (fun iv _ => 128 - (intOf iv).toNat)
            case atStart => exact ⟨0, Nat.zero_le _, rfl, hid (Below.refl _ _)⟩
            case round =>
              obtain ⟨k, hk, rfl, HBk⟩ := hrel
              have hsk := HBk.out.size
              by_cases hlt : k < 128
              · have x1 : (k : Int) < 128 := by omega
                have Hne := hid (tot7_ne hlt)
                go_wp2_with fail
                refine total7_any.mono ?_
                rintro r w6 ⟨Z, hZ, rfl, hoZ, b6⟩
                have RZ := hid hoZ.rd
                have B6 := hid (HBk.out.trans (b6.mono hsk))
                obtain ⟨av, hav⟩ : ∃ av, totUp7 (k : Int) 7 = av := ⟨_, rfl⟩
                rw [hav] at RZ Hne
                have HR6 := hid (HR.out.below B6.out)
                clear hoZ b6 hav hZ
                go_wp2_with fail
                go_loopw [23, 87] (fun sv iv W => ∃ k : Nat, k ≤ lc ∧ iv = .int .i64 k ∧ sv = .bool ((cl.take k).any (litX av)) ∧ Hid (Below w6.heap.size w6 W)) (fun _ iv _ => lc - (intOf iv).toNat)
                case atStart => exact ⟨0, Nat.zero_le _, rfl, by simp, hid (Below.refl _ _)⟩
                case round =>
                  obtain ⟨j, hj, rfl, rfl, HBj⟩ := hrel
                  by_cases hltj : j < lc
                  · have x2 : (j : Int) < (lc : Int) := by omega
                    obtain ⟨gC, oC, rfl, _, hgC, eC⟩ := (HR6.out.below HBj.out).cell.2 j hltj
                    have hst : (cl.take (j + 1)).any (litX av) = ((cl.take j).any (litX av) || litX av (nth cl j)) := by rw [take_nth (by rw [Hlc.out]; exact hltj), List.any_append]; simp
                    have hx7 := Himc.out.1 _ (nth_mem (xs := cl) (k := j) (by rw [Hlc.out]; exact hltj))
                    obtain ⟨x, hx⟩ : ∃ x, nth cl j = x := ⟨_, rfl⟩
                    rw [hx] at hst hx7 eC
                    obtain ⟨q, hq⟩ : ∃ q, (cl.take j).any (litX av) = q := ⟨_, rfl⟩
                    rw [hq] at hst ⊢
                    have Hst := hid hst
                    obtain ⟨v, hv⟩ : ∃ v, x.natAbs = v + 1 := ⟨x.natAbs - 1, by omega⟩
                    have hmx := max_abs (l := x) (by omega)
                    rw [hv] at hmx
                    have hwn : IntKind.i64.wrap (-x) = -x := iw' (by omega) (by omega)
                    have hv6 : v ≤ 6 := by omega
                    obtain ⟨gZ, oZ, eZ, _, hgZ, hcZ⟩ := (RZ.out.below HBj.out).cell8.2 v (by omega)
                    injection eZ with eZ
                    injection eZ with eZ1 eZ2
                    subst eZ1 eZ2
                    rw [Nat.zero_add] at hcZ
                    have hvq : (v : Int) < 7 := by omega
                    have Hlx := hid (show litX av x = (decide (0 < nth av v) == decide (0 < x)) by unfold litX; rw [hv]; rfl)
                    obtain ⟨y, hy⟩ : ∃ y, nth av v = y := ⟨_, rfl⟩
                    rw [hy] at hcZ Hlx
                    have Hv := hid hv
                    have Hx7 := hid hx7
                    clear hst hq hx hv hx7 hy
                    cases q with
                    | true =>
                      clear hmx hwn
                      go_wp2_with fail
                      go_roundw
                      case rel => exact ⟨j + 1, by omega, by go_num, by rw [Hst.out]; rfl, HBj⟩
                      case measure => simp [intOf]; omega
                    | false =>
                      by_cases hy0 : 0 < y
                      · by_cases hl0 : 0 < x
                        · have hb := hid (show litX av x = true by rw [Hlx.out]; simp [hy0, hl0])
                          go_wp2_with fail
                          go_roundw
                          case rel => exact ⟨j + 1, by omega, by go_num, by rw [Hst.out, hb.out]; rfl, HBj⟩
                          case measure => simp [intOf]; omega
                        · have hb := hid (show litX av x = false by rw [Hlx.out]; simp [hy0, hl0])
                          go_wp2_with fail
                          go_roundw
                          case rel => exact ⟨j + 1, by omega, by go_num, by rw [Hst.out, hb.out]; rfl, HBj⟩
                          case measure => simp [intOf]; omega
                      · by_cases hl0 : 0 < x
                        · have hb := hid (show litX av x = false by rw [Hlx.out]; simp [hy0, hl0])
                          go_wp2_with fail
                          go_roundw
                          case rel => exact ⟨j + 1, by omega, by go_num, by rw [Hst.out, hb.out]; rfl, HBj⟩
                          case measure => simp [intOf]; omega
                        · have hb := hid (show litX av x = true by rw [Hlx.out]; simp [hy0, hl0])
                          go_wp2_with fail
                          go_roundw
                          case rel => exact ⟨j + 1, by omega, by go_num, by rw [Hst.out, hb.out]; rfl, HBj⟩
                          case measure => simp [intOf]; omega
                  · have x2 : ¬ ((j : Int) < (lc : Int)) := by omega
                    have hall : (cl.take j).any (litX av) = cl.any (litX av) := by rw [List.take_of_length_le (by rw [Hlc.out]; omega)]
                    rw [hall]
                    have himp := fun h => Himc.out.2 av Hne.out h
                    have B7 := hid (B6.out.trans (HBj.out.mono B6.out.size))
                    have RZ7 := hid (RZ.out.below HBj.out)
                    cases hq : cl.any (litX av) with
                    | true =>
                      clear himp hall hq
                      go_wp2_with fail
                      go_roundw
                      case rel => exact ⟨k + 1, by omega, by go_num, B7⟩
                      case measure => simp [intOf]; omega
                    | false =>
                      have hex : extB ps [] av = false := by
                        cases he : extB ps [] av with
                        | false => rfl
                        | true => rw [himp he] at hq; cases hq
                      have Hex := hid hex
                      clear himp hall hq hex
                      go_wp2_with fail
                      refine (extends_any (n := n1) (ls := []) ((HLV.out.below HBa.out).below B7.out) Hi64.out (Own.nil _ (fun _ => True) 3 1).rd RZ7.out (by simp) (by omega) (by omega)).mono ?_
                      rintro r w8 ⟨rfl, b8⟩
                      rw [Hex.out]
                      have B8 := hid (B7.out.trans (b8.mono B7.out.size))
                      clear b8
                      go_wp2_with fail
                      go_roundw
                      case rel => exact ⟨k + 1, by omega, by go_num, B8⟩
                      case measure => simp [intOf]; omega
              · have x1 : ¬ ((k : Int) < 128) := by omega
                have Ba2 := hid (HBa.out.trans (HBk.out.mono HBa.out.size))
                go_wp2_with fail
                go_roundw
                case rel => exact ⟨a + 1, by omega, by go_num, Ba2⟩
                case measure => simp [intOf]; omega
          · have xa : ¬ ((a : Int) < (no : Int)) := by omega
            have BWl := hid (BWV.out.trans (HBa.out.mono BWV.out.size))
            go_wp2_with fail
            refine awake29_any.mono ?_
            rintro r w9 ⟨rfl, b9⟩
            have B9 := hid (BWl.out.trans (b9.mono BWl.out.size))
            clear b9
            go_wp2_with fail
            go_ret
            exact ⟨rfl, B9.out⟩
end Go.Proofs.Ytofobmgmgipomaa
