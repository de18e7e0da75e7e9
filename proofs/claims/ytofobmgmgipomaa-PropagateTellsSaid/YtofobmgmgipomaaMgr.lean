/-
  Chapter 29: several texts in one (EnT EnU EnG EnH EnK).
-/
import Derived.Test.YtofobmgmgipomaaMgq
import Derived.Test.YtofobmgmgipomaaMge
import Derived.Test.YtofobmgmgipomaaMgl
import Derived.Test.YtofobmgmgipomaaMgn
import Derived.Test.YtofobmgmgipomaaMgo
import Derived.Test.YtofobmgmgipomaaMgm
import Derived.OwnWalk
namespace Go.Proofs.Ytofobmgmgipomaa
section
open Go.RowKit

set_option maxRecDepth 100000 in
set_option maxHeartbeats 8000000 in
theorem small29_any {w : World} {F : Nat → Prop} {A B C : Option Addr} {n cA m cB q cC : Nat} {lls kks : List (List Int)} {bs : List Int} (hl : LsRd w F A n cA lls) (hk : LsRd w F B m cB kks) (hb : Rd w F 1 (.slice C q cC) q (ints bs)) :
    Calls Try.prog 9 #[.slice A n cA, .slice B m cB, .slice C q cC] w fun r w' => GivesPs w w' r (small7 lls kks bs (min lls.length 24)) := by
  obtain ⟨Q, hQ⟩ : ∃ Q, min n 24 = Q := ⟨_, rfl⟩
  have hnl : lls.length = n := by obtain ⟨_, _, h, _⟩ := hl; exact h
  have hmk : kks.length = m := by obtain ⟨_, _, h, _⟩ := hk; exact h
  have hbq : bs.length = q := hb.cell.1
  have HQl := hid (show min lls.length 24 = Q by rw [hnl]; exact hQ)
  have hmin : ∀ w, (Builtin.min_ #[3, 3] 3 #[.int .i64 (n : Int), .int .i64 24]).run Try.prog w = .ok (.int .i64 (Q : Int)) w := fun w => by rw [run_min]; congr 2; omega
  obtain ⟨hcap, hmx, hA0⟩ := hl.spot
  obtain ⟨A2, hA2, hsl⟩ := slices_to (A := A) (n := n) (c := cA) (i := Q) hA0 (by omega) hcap
  have HL := hid (hl.to (show Q ≤ n by omega) hA2)
  have HK := hid hk
  have HB := hid hb
  have Hmk := hid hmk
  have Hbq := hid hbq
  have hQ24 : Q ≤ 24 := by omega
  have hmm : m ≤ 9223372036854775807 := by have h := hk.spot; have h1 := h.1; have h2 := h.2.1; unfold maxLen at h2; omega
  have hqq : q ≤ 9223372036854775807 := by have h := rd_spot hb; have h1 := h.1; have h2 := h.2.1; unfold maxLen at h2; omega
  clear hl hk hb hQ hA0 hA2 hcap hmx hnl hmk hbq
  go_enter Try.func9, Try.ntmps9
  go_wp2_with fail
  go_loopw [7, 24] (fun vo iv W => ∃ (i : Nat) (Ao : Option Addr) (no co : Nat) (ts : List (Value × Value × Value)), i ≤ Q ∧ iv = .int .i64 i ∧ vo = .slice Ao no co ∧ Hid (Dbg w.heap.size (fun g => w.heap.size ≤ g) W Ao no co ts (small7 lls kks bs i)) ∧ Hid (Below w.heap.size w W)) (fun _ iv _ => Q - (intOf iv).toNat)
  case atStart => exact ⟨0, none, 0, 0, [], Nat.zero_le _, rfl, rfl, hid (Dbg.nil _ _ _), hid (Below.refl _ _)⟩
  case round =>
    obtain ⟨V, rfl⟩ : ∃ V, V = wr := ⟨_, rfl⟩
    obtain ⟨i, Ao, no, co, ts, hi, rfl, rfl, HD, HBw⟩ := hrel
    by_cases hlt : i < Q
    · have x1 : (i : Int) < (Q : Int) := by omega
      have hno : no ≤ i := by rw [← HD.out.len]; exact small7_len _ _ _ _
      obtain ⟨gL, oL, l, R, d, rfl, hgL, hl?, eL, hR⟩ := (HL.out.below HBw.out).cells hlt
      have Hll : Hid (lisAt lls i = l) := hid (lisAt_get (by rw [List.getElem?_take, if_pos hlt] at hl?; exact hl?))
      obtain ⟨z, hz⟩ : ∃ z, l.length = z := ⟨_, rfl⟩
      rw [hz] at eL hR
      obtain ⟨q2, hq2⟩ : ∃ q2, min z 8 = q2 := ⟨_, rfl⟩
      have hmin2 : ∀ w, (Builtin.min_ #[3, 3] 3 #[.int .i64 (z : Int), .int .i64 8]).run Try.prog w = .ok (.int .i64 (q2 : Int)) w := fun w => by rw [run_min]; congr 2; omega
      obtain ⟨hcap, hmx, hA0⟩ := rd_spot hR
      obtain ⟨R2, hR2, hsl2⟩ := ints_to (A := R) (n := z) (c := d) (i := q2) hA0 (by omega) hcap
      have HR := hid (rd_to hR (show q2 ≤ z by omega) hR2)
      rw [← ints_take] at HR
      have Hq2 := hid (show min (lisAt lls i).length 8 = q2 by rw [Hll.out, hz]; exact hq2)
      have hq28 : q2 ≤ 8 := by omega
      have Hlq := hid (show q2 ≤ l.length by omega)
      clear hl? hR hR2 hA0 hcap hmx hq2 hz
      go_wp2_with fail
      go_loopw [10, 11, 35] (fun vl vc iv W => ∃ (j : Nat) (sm : List (Int × Int)) (A1 : Option Addr) (c1 : Nat) (A2 : Option Addr) (c2 : Nat), j ≤ q2 ∧ iv = .int .i64 j ∧ vl = .slice A1 sm.length c1 ∧ vc = .slice A2 sm.length c2 ∧ Hid (sm = row7 l (lisAt kks i) j) ∧
        Hid (Pr V.heap.size V W (.slice A1 sm.length c1) (.slice A2 sm.length c2) sm.length sm.length (ints (sm.map Prod.fst)) (ints (sm.map Prod.snd)))) (fun _ _ iv _ => q2 - (intOf iv).toNat)
      case atStart => exact ⟨0, [], none, 0, none, 0, Nat.zero_le _, rfl, rfl, rfl, hid rfl, hid (Pr.start V)⟩
      case round =>
        obtain ⟨j, sm, A1, c1, A2, c2, hj, rfl, rfl, rfl, Hsm, Tq⟩ := hrel
        have hslen : sm.length ≤ j := by rw [Hsm.out]; exact row7_len _ _ _
        have HBr := hid (below_on HBw.out (Nat.le_refl _) Tq.out.2.2.2.1)
        by_cases hjl : j < q2
        · have x2 : (j : Int) < (q2 : Int) := by omega
          obtain ⟨g, o, rfl, _, hg, hc1⟩ := (HR.out.below Tq.out.2.2.2.1).cell.2 j hjl
          rw [show nth (l.take q2) j = nth l j by simp [nth, hjl]] at hc1
          obtain ⟨vv, hvv⟩ : ∃ v, Int.tmod (nth l j) 8 = v := ⟨_, rfl⟩
          have Hs := hid (row7_succ l (lisAt kks i) j)
          by_cases hv0 : vv = 0
          · have Hv := hid hvv
            subst hv0
            have Hat := hid (show (at7 l (lisAt kks i) j).1 = 0 from hvv)
            go_wp2_with fail
            go_roundw
            case rel => exact ⟨j + 1, sm, A1, c1, A2, c2, by omega, by go_num, rfl, rfl, hid (by rw [Hs.out, Hsm.out, Hat.out]; simp), Tq⟩
            case measure => simp [intOf]; omega
          · have t3 : (vv != 0) = true := by simpa using hv0
            have t4 : (vv == 0) = false := by simpa using hv0
            have Hv0 := hid hv0
            by_cases him : i < m
            · have x3 : (i : Int) < (m : Int) := by omega
              obtain ⟨gK, oK, ks, RK, dK, rfl, hgK, hks, eK, hRK⟩ := (HK.out.below HBr.out).cells him
              have Hks := hid (lisAt_get hks)
              obtain ⟨kl, hkl⟩ : ∃ z, ks.length = z := ⟨_, rfl⟩
              rw [hkl] at eK hRK
              have hkm : kl ≤ 9223372036854775807 := by have h := rd_spot hRK; have h1 := h.1; have h2 := h.2.1; unfold maxLen at h2; omega
              by_cases hjk : j < kl
              · have x4 : (j : Int) < (kl : Int) := by omega
                obtain ⟨g', o', rfl, _, hg', hc2⟩ := hRK.cell.2 j hjk
                obtain ⟨kk, hkk⟩ : ∃ v, Int.tmod (nth ks j) 6 = v := ⟨_, rfl⟩
                have Hat := hid (show at7 l (lisAt kks i) j = (vv, kk) by unfold at7; rw [Hks.out, if_pos (by rw [hkl]; exact hjk), hvv, hkk])
                clear hRK hks hkl hv0
                go_wp2_with (first
                  | (at_builtin; refine wpList_append_ints rfl _ _ rfl (Tq.out.alloc (.cells #[.int .i64 vv] 3)).1 (own_one wr (.int .i64 vv)).rd rfl rfl (by simp [Value.oneCell']) (by omega) ?_; intro Av3 cv3 W3 ho3 hm3 hr3; have T3 := hid ((Tq.out.alloc (.cells #[.int .i64 vv] 3)).push ho3 hm3 hr3); clear ho3 hm3 hr3)
                  | (at_builtin; refine wpList_append_ints rfl _ _ rfl (T3.out.alloc (.cells #[.int .i64 kk] 3)).swap.1 (own_one W3 (.int .i64 kk)).rd rfl rfl (by simp [Value.oneCell']) (by omega) ?_; intro Av7 cv7 W7 ho7 hm7 hr7; have T7 := hid ((T3.out.alloc (.cells #[.int .i64 kk] 3)).swap.push ho7 hm7 hr7).swap; clear ho7 hm7 hr7))
                go_roundw
                case rel =>
                  have e9 : row7 l (lisAt kks i) (j + 1) = sm ++ [(vv, kk)] := by rw [Hs.out, Hat.out, if_pos Hv0.out, Hsm.out]
                  refine ⟨j + 1, row7 l (lisAt kks i) (j + 1), Av3, cv3, Av7, cv7, by omega, by go_num, ?_, ?_, hid rfl, ?_⟩
                  · rw [e9, List.length_append]; rfl
                  · rw [e9, List.length_append]; rfl
                  · rw [e9, List.length_append, List.map_append, List.map_append, ints_append, ints_append]
                    exact T7
                case measure => simp [intOf]; omega
              · have x4 : ¬ ((j : Int) < (kl : Int)) := by omega
                have Hat := hid (show at7 l (lisAt kks i) j = (vv, 1) by unfold at7; rw [Hks.out, if_neg (by rw [hkl]; exact hjk), hvv])
                clear hRK hks hkl hv0
                go_wp2_with (first
                  | (at_builtin; refine wpList_append_ints rfl _ _ rfl (Tq.out.alloc (.cells #[.int .i64 vv] 3)).1 (own_one wr (.int .i64 vv)).rd rfl rfl (by simp [Value.oneCell']) (by omega) ?_; intro Av3 cv3 W3 ho3 hm3 hr3; have T3 := hid ((Tq.out.alloc (.cells #[.int .i64 vv] 3)).push ho3 hm3 hr3); clear ho3 hm3 hr3)
                  | (at_builtin; refine wpList_append_ints rfl _ _ rfl (T3.out.alloc (.cells #[.int .i64 1] 3)).swap.1 (own_one W3 (.int .i64 1)).rd rfl rfl (by simp [Value.oneCell']) (by omega) ?_; intro Av7 cv7 W7 ho7 hm7 hr7; have T7 := hid ((T3.out.alloc (.cells #[.int .i64 1] 3)).swap.push ho7 hm7 hr7).swap; clear ho7 hm7 hr7))
                go_roundw
                case rel =>
                  have e9 : row7 l (lisAt kks i) (j + 1) = sm ++ [(vv, 1)] := by rw [Hs.out, Hat.out, if_pos Hv0.out, Hsm.out]
                  refine ⟨j + 1, row7 l (lisAt kks i) (j + 1), Av3, cv3, Av7, cv7, by omega, by go_num, ?_, ?_, hid rfl, ?_⟩
                  · rw [e9, List.length_append]; rfl
                  · rw [e9, List.length_append]; rfl
                  · rw [e9, List.length_append, List.map_append, List.map_append, ints_append, ints_append]
                    exact T7
                case measure => simp [intOf]; omega
            · have x3 : ¬ ((i : Int) < (m : Int)) := by omega
              have Hat := hid (show at7 l (lisAt kks i) j = (vv, 1) by unfold at7; rw [lisAt_none (by rw [Hmk.out]; omega), if_neg (by simp), hvv])
              clear hv0
              go_wp2_with (first
                | (at_builtin; refine wpList_append_ints rfl _ _ rfl (Tq.out.alloc (.cells #[.int .i64 vv] 3)).1 (own_one wr (.int .i64 vv)).rd rfl rfl (by simp [Value.oneCell']) (by omega) ?_; intro Av3 cv3 W3 ho3 hm3 hr3; have T3 := hid ((Tq.out.alloc (.cells #[.int .i64 vv] 3)).push ho3 hm3 hr3); clear ho3 hm3 hr3)
                | (at_builtin; refine wpList_append_ints rfl _ _ rfl (T3.out.alloc (.cells #[.int .i64 1] 3)).swap.1 (own_one W3 (.int .i64 1)).rd rfl rfl (by simp [Value.oneCell']) (by omega) ?_; intro Av7 cv7 W7 ho7 hm7 hr7; have T7 := hid ((T3.out.alloc (.cells #[.int .i64 1] 3)).swap.push ho7 hm7 hr7).swap; clear ho7 hm7 hr7))
              go_roundw
              case rel =>
                have e9 : row7 l (lisAt kks i) (j + 1) = sm ++ [(vv, 1)] := by rw [Hs.out, Hat.out, if_pos Hv0.out, Hsm.out]
                refine ⟨j + 1, row7 l (lisAt kks i) (j + 1), Av3, cv3, Av7, cv7, by omega, by go_num, ?_, ?_, hid rfl, ?_⟩
                · rw [e9, List.length_append]; rfl
                · rw [e9, List.length_append]; rfl
                · rw [e9, List.length_append, List.map_append, List.map_append, ints_append, ints_append]
                  exact T7
              case measure => simp [intOf]; omega
        · have x2 : ¬ ((j : Int) < (q2 : Int)) := by omega
          have Hje := hid (show j = q2 by omega)
          have Hrw := hid (show rw7 lls kks i = sm by unfold rw7; rw [Hq2.out, ← Hje.out, Hll.out]; exact Hsm.out.symm)
          have Hi1 := hid (fun x (hx : x ∈ sm.map Prod.fst) => show I64 x by
            obtain ⟨p, hp, rfl⟩ := List.mem_map.1 hx
            rw [Hsm.out] at hp
            have := row7_mem hp
            unfold I64; omega)
          have Hi2 := hid (fun x (hx : x ∈ sm.map Prod.snd) => show I64 x by
            obtain ⟨p, hp, rfl⟩ := List.mem_map.1 hx
            rw [Hsm.out] at hp
            have := row7_mem hp
            unfold I64; omega)
          have HDj := hid (HD.out.below Tq.out.2.2.2.1)
          have Hsu := hid (small7_succ lls kks bs i)
          obtain ⟨b, hbb⟩ : ∃ b, bd7 bs i = b := ⟨_, rfl⟩
          have hb64 : I64 b := by
            have := tmod_lim (nth bs i) (m := 12) (by decide)
            rw [← hbb]
            unfold bd7 I64
            split <;> omega
          have Hb64 := hid hb64
          obtain ⟨NR, hNR⟩ : ∃ R, normed (sm.map Prod.fst) (sm.map Prod.snd) b = R := ⟨_, rfl⟩
          have Hsm7 := hid (show sm7 lls kks bs i = NR by unfold sm7; rw [Hrw.out, hbb]; exact hNR)
          have HNR := hid hNR
          have Hnx := hid (show small7 lls kks bs (i + 1) = small7 lls kks bs i ++ (if NR.2 = 0 then [NR.1] else []) by rw [Hsu.out, Hsm7.out])
          clear hNR hb64
          have hbc : (i < q ∧ Int.tmod (nth bs i) 12 = b) ∨ (¬ i < q ∧ b = 1) := by
            by_cases hiq : i < q
            · exact .inl ⟨hiq, by rw [← hbb]; unfold bd7; rw [if_pos (by rw [Hbq.out]; exact hiq)]⟩
            · exact .inr ⟨hiq, by rw [← hbb]; unfold bd7; rw [if_neg (by rw [Hbq.out]; exact hiq)]⟩
          clear hbb
          rcases hbc with ⟨hiq, hbt⟩ | ⟨hiq, hb1⟩
          · have x5 : (i : Int) < (q : Int) := by omega
            obtain ⟨gB, oB, rfl, _, hgB, eB⟩ := (HB.out.below HBr.out).cell.2 i hiq
            go_wp2_with fail
            refine (norm_any Tq.out.1.rd Tq.out.2.1.rd Hi1.out Hi2.out Hb64.out).mono ?_
            rintro r w1 ⟨⟨pv, rfl, hpv⟩, b1⟩
            rw [HNR.out] at hpv ⊢
            obtain ⟨⟨P1, n1, d1, P2, n2, d2, rfl, r1, r2⟩, hbd⟩ := hpv
            have hpv : PbRd w1 (fun g => wr.heap.size ≤ g) (agg3 (.slice P1 n1 d1, .slice P2 n2 d2, .int .i64 NR.1.bound)) NR.1 := ⟨⟨P1, n1, d1, P2, n2, d2, rfl, r1, r2⟩, hbd⟩
            have hws : w.heap.size ≤ wr.heap.size := HBr.out.size
            have hw1 := b1.size
            obtain ⟨X1, hX1, bX1, kX1, sX1⟩ := alloc_step w1 (.cells #[.slice P1 n1 d1, .slice P2 n2 d2, .int .i64 NR.1.bound] 36)
            have HX1 := hid hX1
            have BX1 := hid bX1
            have HBw1 := hid (below_on HBr.out (Nat.le_refl _) b1)
            have HDw1 := hid (HDj.out.below b1)
            have HPw1 := hid hpv
            have SX1 := hid sX1
            clear hX1 bX1 kX1 sX1 b1 r1 r2 hbd hpv
            by_cases he0 : NR.2 = 0
            · have Hnx2 := hid (show small7 lls kks bs (i + 1) = small7 lls kks bs i ++ [NR.1] by rw [Hnx.out, if_pos he0])
              have He0 := hid he0
              have HD3 := HDw1.out.below BX1.out
              have HP3 := HPw1.out.below BX1.out
              have hs3 := BX1.out.size
              obtain ⟨X4, hX4, bX4, kX4, sX4⟩ := alloc_step X1 (.cells #[.slice P1 n1 d1, .slice P2 n2 d2, .int .i64 NR.1.bound] 36)
              have HB4 := hid (below_on HBw1.out (Nat.le_refl _) (BX1.out.trans (bX4.mono hs3)))
              have HD4 := hid (HD3.below bX4)
              have HP4 := hid (HP3.below bX4)
              have D4' := HD4.out.own
              have K4 := rd_lit3 kX4
              rw [SX1.out] at K4
              rw [← hX4, ← HX1.out] at D4' K4
              have D4 := hid D4'
              have K4 := hid K4
              have HX4 := hid hX4
              have hno1 : no + 1 ≤ 1000000 := by omega
              have hPr := hid (Tq.out.2.2.2.2)
              have HnR := hid (show ∀ g, row (.slice Ao no co) g → g < wr.heap.size from fun g hg => (HDj.out.row hg).2)
              clear D4' hX4 bX4 kX4 sX4 HD3 HP3
              go_wp2_with (at_builtin; refine wpList_append_pb rfl _ _ rfl D4.out K4.out rfl rfl (pb_one HP4.out) hno1 fun A' c' V5 ho hm hr => ?_)
              rw [HX1.out, HX4.out] at hm hr ho
              obtain ⟨D5, b5⟩ := HD4.out.push HB4.out.size (t := (.slice P1 n1 d1, .slice P2 n2 d2, .int .i64 NR.1.bound)) ho hm hr (HP4.out.mono fun g _ hg => ⟨Nat.le_trans hws hg, fun e => by have := HnR.out g e; omega⟩)
              have HB5 := hid (HB4.out.trans b5)
              have HD5 := hid D5
              clear D5 b5 ho hm hr
              go_roundw
              case rel => exact ⟨i + 1, A', no + 1, c', ts ++ [(.slice P1 n1 d1, .slice P2 n2 d2, .int .i64 NR.1.bound)], by omega, by go_num, rfl, hid (by rw [Hnx2.out]; exact HD5.out), HB5⟩
              case measure => simp [intOf]; omega
            · have Hnx2 := hid (show small7 lls kks bs (i + 1) = small7 lls kks bs i by rw [Hnx.out, if_neg he0, List.append_nil])
              have te : (NR.2 == 0) = false := by simpa using he0
              go_wp2_with fail
              go_roundw
              case rel =>
                rw [HX1.out]
                exact ⟨i + 1, Ao, no, co, ts, by omega, by go_num, rfl, hid (by rw [Hnx2.out]; exact HDw1.out.below BX1.out), hid (below_on HBw1.out (Nat.le_refl _) BX1.out)⟩
              case measure => simp [intOf]; omega
          · subst hb1
            have x5 : ¬ ((i : Int) < (q : Int)) := by omega
            go_wp2_with fail
            refine (norm_any Tq.out.1.rd Tq.out.2.1.rd Hi1.out Hi2.out Hb64.out).mono ?_
            rintro r w1 ⟨⟨pv, rfl, hpv⟩, b1⟩
            rw [HNR.out] at hpv ⊢
            obtain ⟨⟨P1, n1, d1, P2, n2, d2, rfl, r1, r2⟩, hbd⟩ := hpv
            have hpv : PbRd w1 (fun g => wr.heap.size ≤ g) (agg3 (.slice P1 n1 d1, .slice P2 n2 d2, .int .i64 NR.1.bound)) NR.1 := ⟨⟨P1, n1, d1, P2, n2, d2, rfl, r1, r2⟩, hbd⟩
            have hws : w.heap.size ≤ wr.heap.size := HBr.out.size
            have hw1 := b1.size
            obtain ⟨X1, hX1, bX1, kX1, sX1⟩ := alloc_step w1 (.cells #[.slice P1 n1 d1, .slice P2 n2 d2, .int .i64 NR.1.bound] 36)
            have HX1 := hid hX1
            have BX1 := hid bX1
            have HBw1 := hid (below_on HBr.out (Nat.le_refl _) b1)
            have HDw1 := hid (HDj.out.below b1)
            have HPw1 := hid hpv
            have SX1 := hid sX1
            clear hX1 bX1 kX1 sX1 b1 r1 r2 hbd hpv
            by_cases he0 : NR.2 = 0
            · have Hnx2 := hid (show small7 lls kks bs (i + 1) = small7 lls kks bs i ++ [NR.1] by rw [Hnx.out, if_pos he0])
              have He0 := hid he0
              have HD3 := HDw1.out.below BX1.out
              have HP3 := HPw1.out.below BX1.out
              have hs3 := BX1.out.size
              obtain ⟨X4, hX4, bX4, kX4, sX4⟩ := alloc_step X1 (.cells #[.slice P1 n1 d1, .slice P2 n2 d2, .int .i64 NR.1.bound] 36)
              have HB4 := hid (below_on HBw1.out (Nat.le_refl _) (BX1.out.trans (bX4.mono hs3)))
              have HD4 := hid (HD3.below bX4)
              have HP4 := hid (HP3.below bX4)
              have D4' := HD4.out.own
              have K4 := rd_lit3 kX4
              rw [SX1.out] at K4
              rw [← hX4, ← HX1.out] at D4' K4
              have D4 := hid D4'
              have K4 := hid K4
              have HX4 := hid hX4
              have hno1 : no + 1 ≤ 1000000 := by omega
              have hPr := hid (Tq.out.2.2.2.2)
              have HnR := hid (show ∀ g, row (.slice Ao no co) g → g < wr.heap.size from fun g hg => (HDj.out.row hg).2)
              clear D4' hX4 bX4 kX4 sX4 HD3 HP3
              go_wp2_with (at_builtin; refine wpList_append_pb rfl _ _ rfl D4.out K4.out rfl rfl (pb_one HP4.out) hno1 fun A' c' V5 ho hm hr => ?_)
              rw [HX1.out, HX4.out] at hm hr ho
              obtain ⟨D5, b5⟩ := HD4.out.push HB4.out.size (t := (.slice P1 n1 d1, .slice P2 n2 d2, .int .i64 NR.1.bound)) ho hm hr (HP4.out.mono fun g _ hg => ⟨Nat.le_trans hws hg, fun e => by have := HnR.out g e; omega⟩)
              have HB5 := hid (HB4.out.trans b5)
              have HD5 := hid D5
              clear D5 b5 ho hm hr
              go_roundw
              case rel => exact ⟨i + 1, A', no + 1, c', ts ++ [(.slice P1 n1 d1, .slice P2 n2 d2, .int .i64 NR.1.bound)], by omega, by go_num, rfl, hid (by rw [Hnx2.out]; exact HD5.out), HB5⟩
              case measure => simp [intOf]; omega
            · have Hnx2 := hid (show small7 lls kks bs (i + 1) = small7 lls kks bs i by rw [Hnx.out, if_neg he0, List.append_nil])
              have te : (NR.2 == 0) = false := by simpa using he0
              go_wp2_with fail
              go_roundw
              case rel =>
                rw [HX1.out]
                exact ⟨i + 1, Ao, no, co, ts, by omega, by go_num, rfl, hid (by rw [Hnx2.out]; exact HDw1.out.below BX1.out), hid (below_on HBw1.out (Nat.le_refl _) BX1.out)⟩
              case measure => simp [intOf]; omega
    · have x1 : ¬ ((i : Int) < (Q : Int)) := by omega
      have Hfin := hid (show small7 lls kks bs i = small7 lls kks bs (min lls.length 24) by rw [HQl.out]; congr 1; omega)
      go_wp2_with fail
      go_ret
      exact ⟨⟨_, _, _, _, rfl, Hfin.out ▸ HD.out⟩, HBw.out⟩
end

section
open Go.RowKit

theorem own_lit (w : World) (xs : List Int) (h0 : 0 < xs.length) (hn : xs.length ≤ 1000000) : Own (w.alloc (.cells (ints xs).toArray 3)) (fun g => g = w.heap.size) 3 1 (.slice (some ⟨w.heap.size, 0, none⟩) xs.length xs.length) xs.length (ints xs) :=
  own_new w _ 3 1 xs.length _ xs.length _ (by simp [ints]) (by omega) (Nat.le_refl _) (by unfold maxLen; omega) (by simp [ints]) (by rw [List.toList_toArray, Nat.mul_one]; exact List.take_of_length_le (by simp [ints])) rfl
/-- A normal form, computed. -/
theorem normVars_eq {ls ks vs : List Int} (hr : vs.Pairwise (fun x y => x < y)) (h1 : ∀ v ∈ vs, 1 ≤ v ∧ v ≤ 65536 ∧ vsum ls ks ls.length v ≠ 0) (h2 : ∀ l ∈ ls, ((l.natAbs : Nat) : Int) ∈ vs ∨ vsum ls ks ls.length (l.natAbs : Nat) = 0) : normVars ls ks = vs := by
  have hn := normVars_rise ls ks
  refine List.Perm.eq_of_pairwise (le := fun x y : Int => x ≤ y) (fun a b _ _ h1 h2 => by omega) (hn.imp fun h => by omega) (hr.imp fun h => by omega) ((List.perm_ext_iff_of_nodup (hn.imp fun h => by omega) (hr.imp fun h => by omega)).2 fun v => ?_)
  rw [mem_normVars]
  refine ⟨fun ⟨q1, q2, q3⟩ => ?_, h1 v⟩
  by_cases e : ∃ l ∈ ls, ((l.natAbs : Nat) : Int) = v
  · obtain ⟨l, hl, rfl⟩ := e
    exact (h2 l hl).elim id fun h => absurd h q3
  · refine absurd (sum_zero _ fun i hi => ?_) q3
    have hi := List.mem_range.1 hi
    have : ¬ ((((nth ls i).natAbs : Nat) : Int) = v) := fun h => e ⟨_, nth_mem hi, h⟩
    unfold term
    rw [if_neg (by omega), if_neg (by omega)]
/-- The normal form, from a list that holds all variables. -/
def candVs (cand ls ks : List Int) : List Int := cand.filter fun v => decide (vsum ls ks ls.length v ≠ 0)
def candBd (cand ls ks : List Int) (b : Int) : Int := b - nsum ls ks ls.length - ((candVs cand ls ks).map fun v => min (vsum ls ks ls.length v) 0).sum
def candCs (cand ls ks : List Int) (b : Int) : List Int := (candVs cand ls ks).map fun v => min (((vsum ls ks ls.length v).natAbs : Nat) : Int) (candBd cand ls ks b)
def normCand (cand ls ks : List Int) (b : Int) : Pb × Int :=
  if normOk ls ks b = false then (⟨[], [], 0⟩, 2)
  else if candBd cand ls ks b ≤ 0 then (⟨[], [], 0⟩, 0)
  else if (candCs cand ls ks b).sum < candBd cand ls ks b then (⟨[], [], 1⟩, 0)
  else if 16777216 < candBd cand ls ks b then (⟨[], [], 0⟩, 3)
  else (⟨(candVs cand ls ks).map fun v => sg (vsum ls ks ls.length v) v, candCs cand ls ks b, candBd cand ls ks b⟩, 0)
theorem normed_cand {cand ls ks : List Int} {b : Int} (hr : cand.Pairwise (fun x y => x < y)) (hm : ∀ v ∈ cand, 1 ≤ v ∧ v ≤ 65536) (hall : ∀ l ∈ ls, ((l.natAbs : Nat) : Int) ∈ cand) : normed ls ks b = normCand cand ls ks b := by
  have e : normVars ls ks = candVs cand ls ks := by
    refine normVars_eq (hr.sublist List.filter_sublist) (fun v hv => ?_) fun l hl => ?_
    · obtain ⟨h1, h2⟩ := List.mem_filter.1 hv
      exact ⟨(hm v h1).1, (hm v h1).2, of_decide_eq_true h2⟩
    · by_cases h : vsum ls ks ls.length ((l.natAbs : Nat) : Int) = 0
      · exact .inr h
      · exact .inl (List.mem_filter.2 ⟨hall l hl, decide_eq_true h⟩)
  have e2 : normBd ls ks b = candBd cand ls ks b := by unfold normBd candBd; rw [e]
  have e3 : normCoefs ls ks b = candCs cand ls ks b := by unfold normCoefs candCs; rw [e, e2]
  rw [normed_sg, e3, e2, e]
  rfl
theorem once_id {ls : List Int} (h : ls.Pairwise (fun x y => x < y)) : once ls = ls := by
  refine List.Perm.eq_of_pairwise (le := fun x y : Int => x ≤ y) (fun a b _ _ h1 h2 => by omega) ((compactL_rise (sortL_sorted _)).imp fun h => by omega) (h.imp fun h => by omega) ((List.perm_ext_iff_of_nodup (once_nodup _) (h.imp fun h => by omega)).2 fun v => mem_once)
theorem clause_at {ls : List Int} (h : ls.Pairwise (fun x y => x < y)) : clauseB ls = normed ls (List.replicate ls.length 1) 1 := by rw [clauseB_is, once_id h]
def aC : Pb := ⟨[1, 2, 3], [2, 1, 1], 2⟩
def bC : Pb := ⟨[1, 2], [1, 1], 1⟩
def bD : Pb := ⟨[1, -2], [1, 1], 1⟩
theorem nm_aC : normed [1, 2, 3] [2, 1, 1] 2 = (aC, 0) := (normed_cand (cand := [1, 2, 3]) (by decide) (by decide) (by decide)).trans (by rfl)
theorem cl_bC : clauseB [1, 2] = (bC, 0) := (clause_at (by decide)).trans ((normed_cand (cand := [1, 2, 3]) (by decide) (by decide) (by decide)).trans (by rfl))
theorem cl_bD : clauseB [1, -2] = (bD, 0) := by
  have e : once [1, -2] = [-2, 1] := by
    refine List.Perm.eq_of_pairwise (le := fun x y : Int => x ≤ y) (fun a b _ _ h1 h2 => by omega) ((compactL_rise (sortL_sorted _)).imp fun h => by omega) (by decide) ((List.perm_ext_iff_of_nodup (once_nodup _) (by decide)).2 fun v => ?_)
    rw [mem_once]
    simp
    omega
  rw [clauseB_is, e]
  exact (normed_cand (cand := [1, 2, 3]) (by decide) (by decide) (by decide)).trans (by rfl)
def pT0 : Tr := ⟨7, [], []⟩
def pT1 : Tr := pT0.dec (-1)
def pT2 : Tr := pT1.exam aC
def pU2 : Tr := pT1.exam bC
def pU3 : Tr := pT1.exam bD
theorem exams_inv {cs : List Pb} {P : Tr → List Int → Prop} (hstep : ∀ T X i, i < cs.length → P T X → 0 ≤ (cAt cs i).slackX X → P (T.exam (cAt cs i)) (exX cs X i)) :
    ∀ (xs : List Nat) (T : Tr) (X : List Int), (∀ i ∈ xs, i < cs.length) → fineX cs X xs → P T X → P (T.exams cs xs) (runX cs X xs)
  | [], _, _, _, _, h => h
  | i :: xs, T, X, hi, hf, h => exams_inv hstep xs (T.exam (cAt cs i)) (exX cs X i) (fun k hk => hi k (List.mem_cons_of_mem _ hk)) hf.2 (hstep T X i (hi i (List.mem_cons_self ..)) h hf.1)
theorem ex_calm {xs : List Nat} (hi : ∀ i ∈ xs, i < 1) (hf : fineX [aC] pT1.lits xs) (hc : ∀ j, j < 1 → (cAt [aC] j).Calm (runX [aC] pT1.lits xs)) : pT1.exams [aC] xs = pT2 := by
  rcases exams_inv (cs := [aC]) (P := fun T X => (T = pT1 ∧ X = [-1]) ∨ (T = pT2 ∧ X = [-1, 2, 3])) (fun T X i hi h _ => by
    obtain rfl : i = 0 := by simp at hi; omega
    rcases h with ⟨rfl, rfl⟩ | ⟨rfl, rfl⟩
    · exact .inr ⟨rfl, by kernel_rfl⟩
    · exact .inr ⟨by kernel_rfl, by kernel_rfl⟩) xs pT1 pT1.lits (by simpa using hi) hf (.inl ⟨rfl, by kernel_rfl⟩) with ⟨_, h2⟩ | ⟨h1, _⟩
  · have h3 := (hc 0 (by omega)).2 1 (by decide)
    rw [h2] at h3
    exact absurd (by decide +kernel) (h3 (by decide +kernel))
  · exact h1
theorem ex_fine {xs : List Nat} {i : Nat} (hi : ∀ i ∈ xs, i < 1) (hf : fineX [aC] pT1.lits xs) (hi1 : i < 1) : ¬ (cAt [aC] i).slackX (runX [aC] pT1.lits xs) < 0 := by
  obtain rfl : i = 0 := by omega
  rcases exams_inv (cs := [aC]) (P := fun T X => (T = pT1 ∧ X = [-1]) ∨ (T = pT2 ∧ X = [-1, 2, 3])) (fun T X i hi h _ => by
    obtain rfl : i = 0 := by simp at hi; omega
    rcases h with ⟨rfl, rfl⟩ | ⟨rfl, rfl⟩
    · exact .inr ⟨rfl, by kernel_rfl⟩
    · exact .inr ⟨by kernel_rfl, by kernel_rfl⟩) xs pT1 pT1.lits (by simpa using hi) hf (.inl ⟨rfl, by kernel_rfl⟩) with ⟨_, h2⟩ | ⟨_, h2⟩
  · rw [h2]; decide +kernel
  · rw [h2]; decide +kernel
theorem ex_bad {xs : List Nat} (hi : ∀ i ∈ xs, i < 2) (hf : fineX [bC, bD] pT1.lits xs) :
    (¬ ∀ j, j < 2 → (cAt [bC, bD] j).Calm (runX [bC, bD] pT1.lits xs)) ∧ ∀ i, i < 2 → (cAt [bC, bD] i).slackX (runX [bC, bD] pT1.lits xs) < 0 →
      (pT1.exams [bC, bD] xs = pU2 ∧ (cAt [bC, bD] i).offX (runX [bC, bD] pT1.lits xs) = [1, -2]) ∨ (pT1.exams [bC, bD] xs = pU3 ∧ (cAt [bC, bD] i).offX (runX [bC, bD] pT1.lits xs) = [1, 2]) := by
  have two : ∀ i : Nat, i < 2 → i = 0 ∨ i = 1 := fun i h => by omega
  rcases exams_inv (cs := [bC, bD]) (P := fun T X => (T = pT1 ∧ X = [-1]) ∨ (T = pU2 ∧ X = [-1, 2]) ∨ (T = pU3 ∧ X = [-1, -2])) (fun T X i hi h h0 => by
    rcases two i (by simpa using hi) with rfl | rfl
    · rcases h with ⟨rfl, rfl⟩ | ⟨rfl, rfl⟩ | ⟨rfl, rfl⟩
      · exact .inr (.inl ⟨rfl, by kernel_rfl⟩)
      · exact .inr (.inl ⟨by kernel_rfl, by kernel_rfl⟩)
      · exact absurd h0 (by decide +kernel)
    · rcases h with ⟨rfl, rfl⟩ | ⟨rfl, rfl⟩ | ⟨rfl, rfl⟩
      · exact .inr (.inr ⟨rfl, by kernel_rfl⟩)
      · exact absurd h0 (by decide +kernel)
      · exact .inr (.inr ⟨by kernel_rfl, by kernel_rfl⟩)) xs pT1 pT1.lits (by simpa using hi) hf (.inl ⟨rfl, by kernel_rfl⟩) with ⟨_, h2⟩ | ⟨h1, h2⟩ | ⟨h1, h2⟩
  · rw [h2]
    refine ⟨fun h => absurd (by decide +kernel) ((h 0 (by omega)).2 1 (by decide) (by decide +kernel)), fun i hi => ?_⟩
    rcases two i hi with rfl | rfl
    · exact fun h => absurd h (by decide +kernel)
    · exact fun h => absurd h (by decide +kernel)
  · rw [h2, h1]
    refine ⟨fun h => absurd (h 1 (by omega)).1 (by decide +kernel), fun i hi => ?_⟩
    rcases two i hi with rfl | rfl
    · exact fun h => absurd h (by decide +kernel)
    · exact fun _ => .inl ⟨rfl, by decide +kernel⟩
  · rw [h2, h1]
    refine ⟨fun h => absurd (h 0 (by omega)).1 (by decide +kernel), fun i hi => ?_⟩
    rcases two i hi with rfl | rfl
    · exact fun _ => .inr ⟨rfl, by decide +kernel⟩
    · exact fun h => absurd h (by decide +kernel)
theorem ex_vals : pT0.freeB (-1) = true ∧ pT2.value 2 = 1 ∧ pT2.value 3 = 1 ∧ pT2.levelOf 2 = 1 ∧ pT2.reasonOf 2 = [2, 1] ∧ pT2.reasonOf 3 = [3, 1] ∧ pU2.value 2 = 1 ∧ pU2.value 1 = -1 ∧ pU2.value (-2) = -1 ∧ pU3.value 2 = -1 ∧ pU3.value 1 = -1 := by decide +kernel
end

section
open Go.RowKit

theorem bk_cells {o : Obj} (h : Obj.isBk o = true) : o.isCells = false := by cases o <;> simp_all [Obj.isBk, Go.Obj.isCells]
/-- A block that is no loop's. -/
def NoBk (w : World) (g : Nat) : Prop := ∀ o : Obj, w.heap[g]? = some o → Obj.isBk o = false
theorem NoBk.cells {w : World} {g : Nat} {cur : Array Value} {e : TypeId} {fz : Nat × Nat} (h : w.heap[g]? = some (.cells cur e fz)) : NoBk w g := fun o ho => by rw [h] at ho; cases ho; rfl
theorem NoBk.map {w : World} {g : Nat} {es : Array MapEntry} {c : Nat} (h : w.heap[g]? = some (.map es c)) : NoBk w g := fun o ho => by rw [h] at ho; cases ho; rfl
theorem NoBk.cell {w : World} {a : Addr} {u : Value} (h : w.cell? a = some u) : NoBk w a.block := fun o ho => by
  obtain ⟨o', ho', hc⟩ := cells_of_cell h
  rw [ho] at ho'
  cases ho'
  cases o <;> simp_all [Obj.isBk, Go.Obj.isCells]
section
variable {w w' : World} {F : Nat → Prop}
theorem Own.nobk {e : TypeId} {k n : Nat} {v : Value} {xs : List Value} (h : Own w F e k v n xs) : Own w (fun g => F g ∧ NoBk w g) e k v n xs := by
  obtain ⟨hl, h⟩ := h
  refine ⟨hl, h.imp id fun ⟨g, cap, cur, hv, hp, hF, hg, r⟩ => ⟨g, cap, cur, hv, hp, ⟨hF, NoBk.cells hg⟩, hg, r⟩⟩
theorem Rd.nobk {v : Value} {n : Nat} {xs : List Value} (h : Rd w F 1 v n xs) : Rd w (fun g => F g ∧ NoBk w g) 1 v n xs := by
  obtain ⟨hl, A, cap, hv, hc, hm, hA⟩ := h
  refine ⟨hl, A, cap, hv, hc, hm, fun hp => ?_⟩
  obtain ⟨g, o, e1, hF, hlt, hcell⟩ := hA hp
  have hx : xs[0]? = some (xs[0]'(by omega)) := List.getElem?_eq_getElem (by omega)
  exact ⟨g, o, e1, ⟨hF, NoBk.cell (hcell _ _ hx)⟩, hlt, hcell⟩
theorem Trail.nobk {b : Nat} {T : Tr} (h : Trail w F b T) : Trail w (fun g => F g ∧ NoBk w g) b T := by
  obtain ⟨wf, m, es, clock, vl, vs, h⟩ := h
  refine ⟨wf, m, es, clock, vl, vs, ⟨h.hb, NoBk.cells h.blk⟩, ⟨h.hm, NoBk.map h.map⟩, h.blk, h.map, h.size, fun i e he => ?_, h.lits.nobk, h.starts.nobk, h.apart⟩
  obtain ⟨x, A, n, c, h1, h2, h3, h4⟩ := h.ents i e he
  exact ⟨x, A, n, c, h1, h2, h3, h4.nobk.mono fun g _ hg => ⟨⟨hg.1.1, hg.2⟩, hg.1.2⟩⟩
theorem Trail.grown {b B : Nat} {T : Tr} {row : Option Nat} (h : Trail w F b T) (hg : w.grownBy w' row) (hr : ∀ r, row = some r → B ≤ r ∧ ∃ o : Obj, w.heap[r]? = some o ∧ Obj.isBk o = true) : Trail w' F b T := by
  obtain ⟨wf, m, es, clock, vl, vs, h⟩ := h.nobk
  refine Trail.mono (F := fun g => F g ∧ NoBk w g) ⟨wf, m, es, clock, vl, vs, h.keep hg.size fun g hlt hF => hg.block g hlt fun e => ?_⟩ fun g hg => hg.1
  obtain ⟨_, o, ho, hb⟩ := hr g e.symm
  have := hF.2 o ho
  rw [hb] at this
  cases this
theorem EngF.grown {e m B : Nat} {es : Array MapEntry} {clock : Nat} {vl vs : Value} {ts : List (Value × Value × Value)} {E : Eng} {f : Int → List Int} {row : Option Nat} (h : EngF w F e m es clock vl vs ts E f) (hg : w.grownBy w' row) (hF : ∀ g, F g → g < B) (hr : ∀ r, row = some r → B ≤ r ∧ ∃ o : Obj, w.heap[r]? = some o ∧ Obj.isBk o = true) : EngF w' F e m es clock vl vs ts E f :=
  h.keep hg.size fun g hlt hF' => hg.block g hlt fun e => by have := (hr g e.symm).1; have := hF g hF'; omega
theorem cell_grown {a : Addr} {u : Value} {B : Nat} {row : Option Nat} (h : w.cell? a = some u) (hg : w.grownBy w' row) (hr : ∀ r, row = some r → B ≤ r ∧ ∃ o : Obj, w.heap[r]? = some o ∧ Obj.isBk o = true) : w'.cell? a = some u :=
  cell_kept h hg fun r e => by obtain ⟨_, o, ho, hb⟩ := hr r e; exact ⟨o, ho, bk_cells hb⟩
theorem Bx.grown {b B : Nat} {u : Value} {row : Option Nat} (h : Bx w b u) (hg : w.grownBy w' row) (hr : ∀ r, row = some r → B ≤ r ∧ ∃ o : Obj, w.heap[r]? = some o ∧ Obj.isBk o = true) : Bx w' b u :=
  h.kept hg fun r e => by obtain ⟨_, o, ho, hb⟩ := hr r e; exact ⟨o, ho, bk_cells hb⟩
theorem Mod.grown {w0 : World} {B : Nat} {row : Option Nat} (h : Mod F w0 w) (hg : w.grownBy w' row) (hB : w0.heap.size ≤ B) (hr : ∀ r, row = some r → B ≤ r ∧ ∃ o : Obj, w.heap[r]? = some o ∧ Obj.isBk o = true) : Mod F w0 w' :=
  ⟨hg.os.trans h.os, hg.tape.trans h.tape, hg.output.trans h.output, Nat.le_trans h.size hg.size, fun k hk hF => (hg.block k (Nat.lt_of_lt_of_le hk h.size) fun e => by have := (hr k e.symm).1; omega).trans (h.block k hk hF)⟩
/-- A change of no loop's blocks keeps the loops' blocks. -/
theorem KeepsBk.of_mod {G : Nat → Prop} {B : Nat} (h : Mod G w w') (hG : ∀ g, G g → B ≤ g → NoBk w g) : KeepsBk B w w' :=
  ⟨h.size, fun k o hB hk ho => (h.block k (Array.getElem?_eq_some_iff.1 hk).1 fun e => by have := hG k e hB o hk; rw [ho] at this; cases this).trans hk⟩
end
end

section
open Go.RowKit

/-- The engine's marks stored. -/
theorem EngF.mark {w : World} {F G : Nat → Prop} {e m : Nat} {es : Array MapEntry} {clock : Nat} {vl vs vs' : Value} {ts : List (Value × Value × Value)} {E : Eng} {f : Int → List Int} {X : List Int} {d : Nat} (h : EngF w F e m es clock vl vs ts E f) (hr : Rd w G 1 vs' X.length (ints X)) (hG : ∀ g, g < w.heap.size → G g → g ≠ e ∧ g ≠ m ∧ ¬ row vl g ∧ ¬ rowsIn es g) :
    EngF ((w.setCell ⟨e, 3, none⟩ vs').setCell ⟨e, 4, none⟩ (.int .i64 d)) (fun g => F g ∨ G g) e m es clock vl vs' ts { E with seen := X, done := d } f ∧ Mod (fun g => g = e) w ((w.setCell ⟨e, 3, none⟩ vs').setCell ⟨e, 4, none⟩ (.int .i64 d)) := by
  have m1 : Mod (fun g => g = e) w ((w.setCell ⟨e, 3, none⟩ vs').setCell ⟨e, 4, none⟩ (.int .i64 d)) := (((Mod.refl (fun g => g = e) _).setCell (p := ⟨e, 3, none⟩) (.inl rfl) _).setCell (p := ⟨e, 4, none⟩) (.inl rfl) _)
  refine ⟨⟨.inl h.he, ?_, ?_, ?_, ?_, ?_, h.apart⟩, m1⟩
  · have h1 := heap_setCell_same w e 3 _ _ vs' h.blk
    have h2 := heap_setCell_same _ e 4 _ _ (.int .i64 d) h1
    simpa using h2
  · exact (h.inn.mod m1 fun g _ _ hx e1 => by
      subst e1
      rcases hx with hx | hx
      · exact h.me hx
      · exact (h.rowi hx).1 rfl).mono fun g hg => .inl hg
  · exact (h.l.mod m1 fun g _ hr _ e1 => (h.rowl hr).1 e1).mono fun g _ _ hg => .inl hg
  · exact (h.ps.mod m1 fun g _ hg e1 => hg.2.1 e1).mono fun g _ hg => ⟨.inl hg.1, hg.2⟩
  · exact ((hr.mono (G := fun g => G g ∧ (g ≠ e ∧ g ≠ m ∧ ¬ row vl g ∧ ¬ rowsIn es g)) fun g hlt hg => ⟨hg, hG g hlt hg⟩).mod m1 fun g _ hg e1 => hg.2.1 e1).mono fun g _ hg => ⟨.inr hg.1, hg.2⟩
/-- An engine and a trail side by side. -/
def EngTr (w : World) (F : Nat → Prop) (eb tb : Nat) (E : Eng) (T : Tr) : Prop := ∃ Fe Ft, Engine w Fe eb E ∧ Trail w Ft tb T ∧ (∀ g, Fe g → F g) ∧ (∀ g, Ft g → F g) ∧ (∀ g, Fe g → ¬ Ft g)
/-- What holds when a round of Propagate's loop begins. -/
structure PrSt (sz te tt eb tb m : Nat) (es : Array MapEntry) (clock : Nat) (vl vs : Value) (ts : List (Value × Value × Value)) (E : Eng) (T0 : Tr) (Fe Ft : Nat → Prop) (ZL : Nat) (w2 : World) (pre : List Nat) (W : World) : Prop where
  it : IterSt te tt eb tb m es clock vl vs ts E T0 Fe (fun g => Ft g ∨ ZL ≤ g) pre W
  d0 : W.cell? ⟨sz, 0, none⟩ = some (.pointer (some ⟨eb, 0, none⟩))
  d1 : W.cell? ⟨sz + 1, 0, none⟩ = some (.pointer (some ⟨tb, 0, none⟩))
  r0 : Bx W (sz + 2) (.slice none 0 0)
  r1 : Bx W (sz + 3) (.bool false)
  md : Mod Ft w2 W
section
variable {sz te tt eb tb m : Nat} {es : Array MapEntry} {clock : Nat} {vl vs : Value} {ts : List (Value × Value × Value)} {E : Eng} {T0 : Tr} {Fe Ft : Nat → Prop} {ZL : Nat} {w2 : World}
theorem PrSt.own (hFe : ∀ g, Fe g → g < ZL) (hw : w2.heap.size ≤ ZL) : OwnBk ZL (PrSt sz te tt eb tb m es clock vl vs ts E T0 Fe Ft ZL w2) := fun _ _ _ _ h hg hr =>
  ⟨⟨cell_grown h.it.ce hg hr, cell_grown h.it.ct hg hr, h.it.eng.grown hg hFe hr, h.it.tr.grown hg hr, h.it.fine, h.it.lt⟩, cell_grown h.d0 hg hr, cell_grown h.d1 hg hr, h.r0.grown hg hr, h.r1.grown hg hr, h.md.grown hg hw hr⟩
/-- How a round of Propagate's loop that found a conflict leaves the world. -/
structure PrBad (sz tb : Nat) (eb m : Nat) (es : Array MapEntry) (clock : Nat) (vl : Value) (ts : List (Value × Value × Value)) (E : Eng) (T0 : Tr) (Fe Ft : Nat → Prop) (ZL : Nat) (w2 : World) (W : World) : Prop where
  bad : ∃ (pre : List Nat) (i : Nat) (u : Value) (B : Nat), (∀ k ∈ pre, k < E.cs.length) ∧ fineX E.cs T0.lits pre ∧ i < E.cs.length ∧ (cAt E.cs i).slackX (runX E.cs T0.lits pre) < 0 ∧ ZL ≤ B ∧ Bx W (sz + 2) u ∧ Own W (fun g => B ≤ g) 3 1 u ((cAt E.cs i).offX (runX E.cs T0.lits pre)).length (ints ((cAt E.cs i).offX (runX E.cs T0.lits pre))) ∧ Trail W (fun g => (Ft g ∨ ZL ≤ g) ∧ g < B) tb (T0.exams E.cs pre)
  eng : EngF W Fe eb m es clock vl (.slice none 0 0) ts { E with seen := [], done := 0 } (occF E.cs)
  r1 : Bx W (sz + 3) (.bool true)
  md : Mod (fun g => Ft g ∨ Fe g ∨ g = sz + 2 ∨ g = sz + 3) w2 W
theorem PrBad.own (hFe : ∀ g, Fe g → g < ZL) (hw : w2.heap.size ≤ ZL) (c : Code) : OwnBk ZL (fun (_ : List Nat) W => c = .ret ∧ PrBad sz tb eb m es clock vl ts E T0 Fe Ft ZL w2 W) := fun _ _ _ _ ⟨hc, h⟩ hg hr => by
  obtain ⟨pre, i, u, B, h1, h2, h3, h4, h5, h6, h7, h8⟩ := h.bad
  refine ⟨hc, ⟨pre, i, u, B, h1, h2, h3, h4, h5, h6.grown hg hr, ?_, h8.grown hg hr⟩, h.eng.grown hg hFe hr, h.r1.grown hg hr, h.md.grown hg hw hr⟩
  exact (h7.nobk.keep fun g hlt _ hF => hg.block g hlt fun e => by
    obtain ⟨_, o, ho, hb⟩ := hr g e.symm
    have := hF.2 o ho
    rw [hb] at this
    cases this).mono fun g _ _ hF => hF.1
end
end

section
open Go.RowKit

theorem Eng.fits_vars {E E' : Eng} (h : E.vars = E'.vars) (p : Pb) : E.fits p = E'.fits p := by unfold Eng.fits; rw [h]
set_option maxRecDepth 100000 in
set_option maxHeartbeats 4000000 in
theorem loaded_any {w : World} {F G : Nat → Prop} {A : Option Addr} {n c : Nat} {ps : List Pb} (hp : PsRd w F G A n c ps) (hi : ∀ p ∈ ps, ∀ k ∈ p.coefs, I64 k) (hfit : ∀ p ∈ ps, Eng.fits ⟨7, [], [], 0⟩ p = true) (hn : n ≤ 100000) :
    Calls Try.prog 10 #[.slice A n c] w fun r w' => (∃ eb tb, r = .returned (.tuple #[.pointer (some ⟨eb, 0, none⟩), .pointer (some ⟨tb, 0, none⟩), .bool true]) ∧ EngTr w' (fun g => w.heap.size ≤ g) eb tb ⟨7, ps, [], 0⟩ ⟨7, [], []⟩) ∧ Below w.heap.size w w' := by
  have hpl : ps.length = n := by obtain ⟨_, _, _, h⟩ := hp; exact h
  have HP := hid (hp.mono (F' := fun g => g < w.heap.size) (G' := fun g => g < w.heap.size) (fun g hg _ => hg) fun g hg _ => hg)
  have Hi := hid hi
  have Hfit := hid hfit
  have Hpl := hid hpl
  clear hp hi hfit hpl
  go_enter Try.func10, Try.ntmps10
  go_wp2_with fail
  refine (enew_ok (vars := 7) (by decide)).mono ?_
  rintro r W1 ⟨⟨eb, rfl, he1⟩, b1⟩
  have HE1 := hid he1
  have B1 := hid b1
  clear he1 b1
  go_wp2_with fail
  refine (new_ok (vars := 7) (by decide)).mono ?_
  rintro r W2 ⟨⟨tb, rfl, ht2⟩, b2⟩
  obtain ⟨m, es, clock, vl, vs, ts, hEF⟩ := HE1.out.2
  have hok := HE1.out.1
  have hEr := (hEF.restrict.keep b2.size fun g hg _ => b2.block g hg)
  have HE2 := hid (show Engine W2 (fun g => (w.heap.size ≤ g ∧ g < W1.heap.size) ∨ W2.heap.size ≤ g) eb ⟨7, ps.take 0, [], 0⟩ from ⟨hok, m, es, clock, vl, vs, ts, hEr.mono fun g h => .inl h⟩)
  have HT2 := hid ht2.restrict
  have B2 := hid (B1.out.trans (b2.mono B1.out.size))
  have hs1 := B1.out.size
  have hs2 := b2.size
  have HP2 := hid (HP.out.below B2.out)
  clear hEF hok hEr ht2 b2 HE1 HP B1
  go_wp2_with fail
  go_loopw [6, 21] (fun xv iv W => ∃ k : Nat, k ≤ n ∧ xv = .int .i64 0 ∧ iv = .int .i64 k ∧ Hid (Engine W (fun g => (w.heap.size ≤ g ∧ g < W1.heap.size) ∨ W2.heap.size ≤ g) eb ⟨7, ps.take k, [], 0⟩) ∧ Hid (Mod (fun g => w.heap.size ≤ g ∧ g < W1.heap.size) W2 W)) (fun _ iv _ => n - (intOf iv).toNat)
  case atStart => exact ⟨0, Nat.zero_le _, rfl, rfl, HE2, hid (Mod.refl _ _)⟩
  case round =>
    obtain ⟨k, hk, rfl, rfl, HEk, HMk⟩ := hrel
    have hsk := HMk.out.size
    by_cases hlt : k < n
    · have x1 : (k : Int) < (n : Int) := by omega
      have HPk := hid (HP2.out.mod HMk.out (fun g _ (hg : g < w.heap.size) h => by have := h.1; omega) fun g _ (hg : g < w.heap.size) h => by have := h.1; omega)
      obtain ⟨gA, oA, p, A1, n1, c1, A2, n2, c2, rfl, hgF, hgl, hpk, e0, e1, e2, hp⟩ := HPk.out.cells hlt
      obtain ⟨W3, hW3⟩ : ∃ X, X = wr := ⟨_, rfl⟩
      obtain ⟨X1, hX1, bX1, kX1, sX1⟩ := alloc_step wr (.cells #[.slice A1 n1 c1, .slice A2 n2 c2, .int .i64 p.bound] 36)
      obtain ⟨q0, q1, q2⟩ := box3 kX1
      have hpm := List.mem_of_getElem? hpk
      have hfp : Eng.fits ⟨7, ps.take k, [], 0⟩ p = true := (Eng.fits_vars (by rfl) p).trans (Hfit.out p hpm)
      have hEx := HEk.out.below bX1
      have hadd := eadd_any hEx (hp.below bX1) (Hi.out p hpm) (fun g (hg : g < w.heap.size) h => by rcases h with h | h <;> omega) (by show (ps.take k).length ≤ 500000; rw [List.length_take]; omega)
      rw [if_pos hfp, if_pos hfp] at hadd
      have hta : Eng.add ⟨7, ps.take k, [], 0⟩ p = ⟨7, ps.take (k + 1), [], 0⟩ := by unfold Eng.add; simp only []; rw [List.take_add_one, hpk]; rfl
      rw [hta] at hadd
      have Hadd := hid hadd
      have BX := hid bX1
      clear hadd hta hEx hfp hpm hp hpk bX1 kX1 sX1 HPk hW3 W3
      go_wp2_with (refine Hadd.out.mono ?_; rintro r W5 ⟨rfl, he5, hm5⟩; have HE5 := hid he5; have HM5 := hid hm5; clear he5 hm5)
      go_roundw
      case rel => exact ⟨k + 1, by omega, by go_num, by go_num, hid (by
        obtain ⟨h1, m, es, clock, vl, vs, ts, h2⟩ := HE5.out
        exact ⟨h1, m, es, clock, vl, vs, ts, h2.mono fun g h => h.elim id fun h => .inr (by have := BX.out.size; omega)⟩), hid (HMk.out.trans ((Mod.of_below BX.out).trans (HM5.out.mono fun g _ h => .inl h)))⟩
      case measure => simp [intOf]; omega
    · have x1 : ¬ ((k : Int) < (n : Int)) := by omega
      have HEn := hid (show Engine wr (fun g => (w.heap.size ≤ g ∧ g < W1.heap.size) ∨ W2.heap.size ≤ g) eb ⟨7, ps, [], 0⟩ by
        have := HEk.out
        rwa [List.take_of_length_le (by have := Hpl.out; omega)] at this)
      have hel : (⟨7, ps, [], 0⟩ : Eng).cs.length = n := Hpl.out
      have hlen := elen_any HEn.out
      rw [hel] at hlen
      have Hlen := hid hlen
      clear hlen hel
      go_wp2_with (refine Hlen.out.mono ?_; rintro r w4 ⟨rfl, rfl⟩)
      refine bodyPost_ret (results_tmp3 rfl _ _ _) rfl ⟨⟨eb, tb, rfl, _, _, HEn.out, HT2.out.mod HMk.out fun g _ hg h => ?_, fun g h => ?_, fun g h => ?_, fun g h k => ?_⟩, ?_⟩
      · have h1 : W1.heap.size ≤ g := hg.1
        have := h.2; omega
      · rcases h with h | h <;> omega
      · have h1 : W1.heap.size ≤ g := h.1
        show w.heap.size ≤ g
        omega
      · have h1 : W1.heap.size ≤ g := k.1
        have h2 := k.2
        rcases h with h | h <;> omega
      · exact below_mod B2.out (by omega) HMk.out fun g h => h.1
end
end Go.Proofs.Ytofobmgmgipomaa
