/-
  The reference of chapter 29: Closed.
-/
import Derived.Test.YtofobmgmgipomaaRfM
namespace Go.Proofs.Ytofobmgmgipomaa
open Go.RowKit

theorem wpList_append_i8 {ops : Array Oper} {rest : List Oper} {o : Oper} {a : Act} {w : World} {Q : Exit → Act → World → Prop} (hgd : o.guard = none) (s x : Operand)
    (ho : o.op = .call { callee := .builtin .append, args := #[s, x], argTypes := #[56, 56] }) {F G : Nat → Prop} {v u : Value} {n m : Nat} {xs ys : List Value}
    (hv : Own w F 58 1 v n xs) (hu : Rd w G 1 u m ys) (hs : a.eval s = v) (hx : a.eval x = u) (h1 : ∀ u ∈ ys, u.oneCell' = true) (hb : n + m ≤ 1000000)
    (hK : ∀ A c w', Own w' (fun b => F b ∨ w.heap.size ≤ b) 58 1 (.slice A (n + m) c) (n + m) (xs ++ ys) → Mod (row v) w w' → wpList Try.prog ops Q rest (a.put o.dst (.slice A (n + m) c)) w') :
    wpList Try.prog ops Q (o :: rest) a w := by
  refine wpList_plain hgd fun _ hK' => ?_
  obtain ⟨i0, hi, hz0, hz1, hz2⟩ := info_parts info_i8
  obtain ⟨v', w', hr, h2, h3, h4⟩ := run_append_rd (P := Try.prog) 56 o.type i0 (.int .i8 0) 1 Try.underlying56 hi hz0 hz1 hz2 rfl (by decide) hv hu h1 (by unfold maxLen; omega) (by omega)
  unfold Oper.wp execOp
  simp only [ho, resolve, invoke, builtin, Sem.run_bind, Sem.run_pure, Result.andThen_ok, List.map_toArray, List.map_cons, List.map_nil, hs, hx, hr]
  obtain ⟨A, c, rfl, _⟩ := h2.form
  exact hK' _ _ (hK A c w' h2 h3)
theorem zerX_le (n : Nat) (X : List Int) : zerX n X ≤ n := by
  unfold zerX
  have := List.length_filter_le (fun (i : Nat) => decide (valX X ((i : Int) + 1) = 0)) (List.range n)
  simpa using this
/-- What holds while Closed passes through the constraints: Y0 the literals when the pass began. -/
structure PassInv (ps : List Pb) (X Y0 : List Int) (i : Nat) (ys : List Nat) (mo : Bool) : Prop where
  lt : ∀ j ∈ ys, j < ps.length
  fine : fineX ps X ys
  calm : mo = false → runX ps X ys = Y0 ∧ ∀ j, j < i → (cAt ps j).Calm Y0
  more : mo = true → zerX 7 (runX ps X ys) < zerX 7 Y0
theorem PassInv.start {ps : List Pb} {X : List Int} {ys : List Nat} (h1 : ∀ j ∈ ys, j < ps.length) (h2 : fineX ps X ys) : PassInv ps X (runX ps X ys) 0 ys false :=
  ⟨h1, h2, fun _ => ⟨rfl, fun j hj => absurd hj (by omega)⟩, fun h => by cases h⟩
theorem PassInv.step {ps : List Pb} {X Y0 : List Int} {i : Nat} {ys : List Nat} {mo : Bool} (h : PassInv ps X Y0 i ys mo) (hok : ∀ p ∈ ps, p.Ok ∧ ∀ l ∈ p.lits, l.natAbs ≤ 7) (hi : i < ps.length) (h0 : 0 ≤ (cAt ps i).slackX (runX ps X ys)) :
    PassInv ps X Y0 (i + 1) (ys ++ [i]) (mo || decide (0 < ((cAt ps i).newX (runX ps X ys)).length)) := by
  have hc := hok _ (cAt_mem hi)
  refine ⟨fun j hj => (List.mem_append.1 hj).elim (h.lt j) fun e => by rw [List.mem_singleton.1 e]; exact hi, fineX_snoc.2 ⟨h.fine, h0⟩, fun e => ?_, fun e => ?_⟩
  · rw [Bool.or_eq_false_iff] at e
    obtain ⟨e1, e2⟩ := e
    have e2 := of_decide_eq_false e2
    have hnil : (cAt ps i).newX (runX ps X ys) = [] := List.eq_nil_of_length_eq_zero (by omega)
    obtain ⟨g1, g2⟩ := h.calm e1
    rw [runX_snoc, exX, hnil, List.append_nil]
    refine ⟨g1, fun j hj => ?_⟩
    rcases Nat.lt_or_ge j i with e | e
    · exact g2 j e
    · obtain rfl : j = i := by omega
      rw [← g1]
      exact calm_none h0 hnil
  · rw [runX_snoc, exX]
    have hle : zerX 7 (runX ps X ys) ≤ zerX 7 Y0 := by
      cases mo with
      | false => rw [(h.calm rfl).1]; exact Nat.le_refl _
      | true => exact Nat.le_of_lt (h.more rfl)
    cases hn : (cAt ps i).newX (runX ps X ys) with
    | nil =>
      rw [List.append_nil]
      cases mo with
      | false => rw [hn] at e; simp at e
      | true => exact h.more rfl
    | cons l N =>
      have hm : l ∈ (cAt ps i).newX (runX ps X ys) := by rw [hn]; exact List.mem_cons_self ..
      obtain ⟨j, hj, _, h3, h4⟩ := mem_newX.1 hm
      rw [h4] at h3
      have hl : l ∈ (cAt ps i).lits := by rw [← h4]; exact nth_mem hj
      have hl0 := hc.1.lit0 hj
      rw [h4] at hl0
      have := zerX_lt (n := 7) (X := runX ps X ys) (N := l :: N) (List.mem_cons_self ..) h3 hl0 (hc.2 l hl)
      omega
/-- What Closed tells. -/
def ClosedTo (ps : List Pb) (X : List Int) (w w' : World) (r : Ending) : Prop := (∃ A c f xs, r = .returned (.tuple #[.slice A 7 c, .bool f]) ∧ Rd w' (fun g => w.heap.size ≤ g) 1 (.slice A 7 c) 7 (i8s (asgX 7 (runX ps X xs))) ∧ (∀ i ∈ xs, i < ps.length) ∧ fineX ps X xs ∧
  (f = false → ∀ c ∈ ps, c.Calm (runX ps X xs)) ∧ (f = true → ∃ i, i < ps.length ∧ (cAt ps i).slackX (runX ps X xs) < 0)) ∧ Below w.heap.size w w'
set_option maxRecDepth 100000 in
set_option maxHeartbeats 8000000 in
theorem rclosed_any {w : World} {F G H : Nat → Prop} {A B : Option Addr} {n c ca : Nat} {ps : List Pb} {X : List Int} (hp : PsRd w F G A n c ps) (hok : ∀ p ∈ ps, p.Ok ∧ ∀ l ∈ p.lits, l.natAbs ≤ 7) (hX : okX X) (ha : Rd w H 1 (.slice B 7 ca) 7 (i8s (asgX 7 X))) (hn : n ≤ 100000) :
    Calls Try.prog 27 #[.slice A n c, .slice B 7 ca] w fun r w' => ClosedTo ps X w w' r := by
  have hpl : ps.length = n := by obtain ⟨_, _, _, h⟩ := hp; exact h
  have Hp := hid (hp.mono (F' := fun g => g < w.heap.size) (G' := fun g => g < w.heap.size) (fun g hg _ => hg) fun g hg _ => hg)
  have Hok := hid hok
  have Ha := hid ha
  have Hpl := hid hpl
  have HX := hid hX
  have HokX := hid fun ys (h : ∀ i ∈ ys, i < ps.length) => okX_run (cs := ps) (X := X) (is := ys) (fun c hc => (hok c hc).1) h hX
  clear hp hok ha hpl hX
  go_enter Try.func27, Try.ntmps27
  go_wp2_with (at_builtin; refine wpList_append_i8 rfl _ _ rfl (Own.none_ _ (fun _ => False) _ 1 _) (Ha.out.below ((Below.refl _ _).alloc (Nat.le_refl _) _)) rfl rfl (i8s_one _) (by omega) fun A1 c1 w1 ho hm => ?_)
  rw [List.nil_append, show 0 + 7 = 7 from rfl] at ho
  have hsz : w.heap.size + 1 ≤ w1.heap.size := by have := hm.size; simpa using this
  have B1 := hid (show Below w.heap.size w w1 from below_mod ((Below.refl _ _).alloc (Nat.le_refl _) (.cells #[] 58)) (by simp) hm fun g hg => by have := hg.1; omega)
  obtain ⟨Z, rfl, hZ, hZl, _, _⟩ := ho.cell (j := 0) (by omega)
  have hZw : w.heap.size ≤ Z := hZ.elim (fun h => h.elim) fun h => by simp at h; omega
  have HO := hid (show Own w1 (fun g => g = Z) 58 1 (.slice (some ⟨Z, 0, none⟩) 7 c1) 7 (i8s (asgX 7 X)) from ho.mono fun g _ hr _ => hr.2.symm)
  have hc1 : 7 ≤ c1 := by obtain ⟨_, _, e, h, _⟩ := ho.form; injection e with _ _ e; omega
  clear ho hm hZ Ha
  go_wp2_with fail
  go_loopg [] 8 (fun gk W => ∃ ys : List Nat, Hid (zerX 7 (runX ps X ys) < gk) ∧ Hid ((∀ j ∈ ys, j < ps.length) ∧ fineX ps X ys) ∧ Hid (Own W (fun g => g = Z) 58 1 (.slice (some ⟨Z, 0, none⟩) 7 c1) 7 (i8s (asgX 7 (runX ps X ys)))) ∧ Hid (Below w.heap.size w W))
  case atStart => exact ⟨[], hid (by have := zerX_le 7 (runX ps X []); omega), ⟨fun _ h => (by cases h), trivial⟩, HO.out, B1.out⟩
  case round =>
    obtain ⟨ys0, Hz, Hy, HOw, HBw⟩ := hrel
    obtain ⟨V, rfl⟩ : ∃ V, V = wr := ⟨_, rfl⟩
    obtain ⟨Y0, hY0⟩ : ∃ Y, runX ps X ys0 = Y := ⟨_, rfl⟩
    have HP0 := hid (PassInv.start Hy.out.1 Hy.out.2)
    rw [hY0] at Hz HP0
    have HYz := hid hY0
    clear hY0
    go_wp2_with fail
    go_loopw [7, 8] (fun mv iv W => ∃ (i : Nat) (ys : List Nat) (mo : Bool), i ≤ n ∧ iv = .int .i64 i ∧ mv = .bool mo ∧ Hid (PassInv ps X Y0 i ys mo) ∧ Hid (Own W (fun g => g = Z) 58 1 (.slice (some ⟨Z, 0, none⟩) 7 c1) 7 (i8s (asgX 7 (runX ps X ys)))) ∧ Hid (Below w.heap.size w W)) (fun _ iv _ => n - (intOf iv).toNat)
    case atStart => exact ⟨0, ys0, false, Nat.zero_le _, rfl, rfl, HYz.out ▸ HP0, HOw, HBw⟩
    case round =>
      obtain ⟨i, ys, mo, hi, rfl, rfl, HP, HOi, HBi⟩ := hrel
      have hsi := HBi.out.size
      by_cases hlt : i < n
      · have x1 : (i : Int) < (n : Int) := by omega
        obtain ⟨gA, oA, p, A1, n1, d1, A2, n2, d2, rfl, hgF, hgl, hpk, e0, e1, e2, hpp⟩ := (Hp.out.below HBi.out).cells hlt
        have hpi : cAt ps i = p := by unfold cAt; rw [hpk]; rfl
        have hin : i < ps.length := by rw [Hpl.out]; exact hlt
        have hpm := List.mem_of_getElem? hpk
        obtain ⟨Y, hY⟩ : ∃ Y, runX ps X ys = Y := ⟨_, rfl⟩
        have hokY : okX Y := hY ▸ HokX.out ys HP.out.lt
        have hsl := slackB_asgX (n := 7) hokY (Hok.out p hpm).1 (Hok.out p hpm).2
        have hst := fun h => HP.out.step Hok.out hin h
        rw [hpi, hY] at hst
        rw [hY] at HOi
        have Hs := hid (rslack_any hpp (Hok.out p hpm).1.i64 (Hok.out p hpm).1.few HOi.out.rd)
        have Hu := hid (fun W (h : Below wr.heap.size wr W) => runits_any (hpp.below h) (Hok.out p hpm).1.i64 (Hok.out p hpm).1.few (HOi.out.rd.below h))
        obtain ⟨sl, hsl2⟩ : ∃ s, p.slackX Y = s := ⟨_, rfl⟩
        rw [hsl, hsl2] at Hs
        have Hst := hid hst
        have Hpi := hid hpi
        have HYe := hid hY
        have HokY := hid hokY
        have Hpm := hid hpm
        have Hsl := hid hsl2
        have Hin := hid hin
        clear hpk hpi hin hpm hokY hsl hst hsl2 hY hpp
        go_wp2_with fail
        refine Hs.out.mono ?_
        rintro r w3 ⟨rfl, b3⟩
        have HO3 := hid (HOi.out.below b3)
        have B3 := hid (HBi.out.trans (b3.mono hsi))
        have BB := hid b3
        have e0 := keep_cell e0 b3
        have e1 := keep_cell e1 b3
        have e2 := keep_cell e2 b3
        clear b3
        by_cases hs0 : sl < 0
        · have ts : decide (sl < 0) = true := decide_eq_true hs0
          go_wp2_with fail
          go_ret2
          exact ⟨⟨_, _, true, ys, rfl, by rw [HYe.out]; exact HO3.out.rd.mono fun g _ hg => by rw [hg]; exact hZw, HP.out.lt, HP.out.fine, (fun h => by cases h), fun _ => ⟨i, Hin.out, by rw [HYe.out, Hpi.out, Hsl.out]; exact hs0⟩⟩, B3.out⟩
        · have ts : decide (sl < 0) = false := decide_eq_false hs0
          have hs1 : 0 ≤ p.slackX Y := by rw [Hsl.out]; omega
          have Hst2 := hid (Hst.out hs1)
          have Hun := hid (unitsB_asgX (n := 7) HokY.out (Hok.out p Hpm.out).1 (Hok.out p Hpm.out).2 hs1)
          have Hnx := hid fun (k : Nat) (hk : k < (p.newX Y).length) => newX_next (X := Y) (Hok.out p Hpm.out).1 hk
          have HYn := hid (show runX ps X (ys ++ [i]) = Y ++ p.newX Y by rw [runX_snoc, exX, HYe.out, Hpi.out])
          have Hl7 := hid fun l (hl : l ∈ p.lits) => show l ≠ 0 ∧ l.natAbs ≤ 7 from ⟨by
            obtain ⟨j, hj, e⟩ := List.getElem_of_mem hl
            have := (Hok.out p Hpm.out).1.lit0 hj
            rw [nth_eq hj, e] at this
            exact this, (Hok.out p Hpm.out).2 l hl⟩
          clear hs1
          go_wp2_with fail
          refine (Hu.out w3 BB.out).mono ?_
          rintro r w4 ⟨⟨R, cc, rfl, hoR⟩, b4⟩
          rw [Hun.out] at hoR ⊢
          obtain ⟨U, hU⟩ : ∃ U, p.newX Y = U := ⟨_, rfl⟩
          rw [hU] at hoR Hst2 Hnx HYn ⊢
          obtain ⟨nu, hnu⟩ : ∃ z, U.length = z := ⟨_, rfl⟩
          rw [hnu] at hoR Hst2 Hnx ⊢
          have HR := hid (hoR.rd.mono (G := fun g => g ≠ Z) fun g _ hg => by
            obtain ⟨_, cur, hz⟩ := HO3.out.row (g := Z) ⟨by omega, rfl⟩
            have := lt_of_block hz
            omega)
          have hnum : nu ≤ 9223372036854775807 := by have h := rd_spot HR.out; have h1 := h.1; have h2 := h.2.1; unfold maxLen at h2; omega
          have HO4 := hid (HO3.out.below b4)
          have B4 := hid (B3.out.trans (b4.mono (by have := BB.out.size; omega)))
          have Hnu := hid hnu
          clear hoR hU hnu b4 e0 e1 e2
          go_wp2_with fail
          obtain ⟨V4, hV4⟩ : ∃ V, V = w4 := ⟨_, rfl⟩
          rw [← hV4] at HR HO4 B4 ⊢
          clear hV4
          go_loopw [7, 10] (fun mv kv W => ∃ k : Nat, k ≤ nu ∧ kv = .int .i64 k ∧ mv = .bool (mo || decide (0 < k)) ∧ Hid (Own W (fun g => g = Z) 58 1 (.slice (some ⟨Z, 0, none⟩) 7 c1) 7 (i8s (asgX 7 (Y ++ U.take k)))) ∧ Hid (Mod (fun g => g = Z) V4 W)) (fun _ kv _ => nu - (intOf kv).toNat)
          case atStart => exact ⟨0, Nat.zero_le _, rfl, by simp, by rw [List.take_zero, List.append_nil]; exact HO4, hid (Mod.refl _ _)⟩
          case round =>
            obtain ⟨k, hk, rfl, rfl, HOk, HMk⟩ := hrel
            by_cases hltk : k < nu
            · have x2 : (k : Int) < (nu : Int) := by omega
              obtain ⟨gR, oR, rfl, hgR, hgl, eR⟩ := (HR.out.mod HMk.out fun g _ h e => h e).cell.2 k hltk
              have hx := Hnx.out k hltk
              have htk := take_nth (xs := U) (k := k) (by rw [Hnu.out]; exact hltk)
              obtain ⟨x, hxe⟩ : ∃ x, nth U k = x := ⟨_, rfl⟩
              rw [hxe] at eR hx htk
              have hx7 := Hl7.out x hx.2
              have hset := asgX_set (n := 7) hx.1 hx7.1
              have Hta := hid (show Y ++ U.take (k + 1) = (Y ++ U.take k) ++ [x] by rw [htk, List.append_assoc])
              rw [← Hta.out] at hset
              have HtB := hid (show (mo || decide (0 < k + 1)) = true by simp)
              obtain ⟨q, hq⟩ : ∃ q, x.natAbs = q + 1 := ⟨x.natAbs - 1, by omega⟩
              have hq7 : q < 7 := by omega
              obtain ⟨g', eg, _, hg', hc', hf'⟩ := HOk.out.cell (j := q) (by omega)
              injection eg with eg
              injection eg with eg
              subst eg
              rw [i8s_nth (by rw [asgX_len]; exact hq7)] at hc'
              rw [show x.natAbs - 1 = q by omega] at hset
              obtain ⟨oldv, hold⟩ : ∃ z, nth (asgX 7 (Y ++ U.take k)) q = z := ⟨_, rfl⟩
              rw [hold] at hc'
              have Hset := hid hset
              clear hx htk hxe hset hold
              by_cases hpos : 0 < x
              · obtain rfl : x = (q : Int) + 1 := by omega
                have hqi : (q : Int) < 7 := by omega
                have Hset2 := hid (Hset.out.symm.trans (by rw [if_pos hpos]))
                clear hq hx7
                go_wp2_with fail
                go_roundw
                case rel => exact ⟨k + 1, by omega, by go_num, by rw [HtB.out], hid (by rw [Hset2.out, i8s_set]; exact HOk.out.stored _), hid (HMk.out.setCell (p := ⟨Z, q, none⟩) (.inl rfl) _)⟩
                case measure => simp [intOf]; omega
              · obtain rfl : x = -((q : Int) + 1) := by omega
                have hqi : (q : Int) < 7 := by omega
                have Hset2 := hid (Hset.out.symm.trans (by rw [if_neg hpos]))
                clear hq hx7
                go_wp2_with fail
                go_roundw
                case rel => exact ⟨k + 1, by omega, by go_num, by rw [HtB.out], hid (by rw [Hset2.out, i8s_set]; exact HOk.out.stored _), hid (HMk.out.setCell (p := ⟨Z, q, none⟩) (.inl rfl) _)⟩
                case measure => simp [intOf]; omega
            · have x2 : ¬ ((k : Int) < (nu : Int)) := by omega
              have hkn : k = nu := by omega
              have Hmo := hid (show (mo || decide (0 < k)) = (mo || decide (0 < nu)) by rw [hkn])
              have HO5 := hid (show Own wr (fun g => g = Z) 58 1 (.slice (some ⟨Z, 0, none⟩) 7 c1) 7 (i8s (asgX 7 (runX ps X (ys ++ [i])))) by
                have h := HOk.out
                rw [List.take_of_length_le (by rw [Hnu.out]; omega)] at h
                rw [HYn.out]; exact h)
              have B5 := hid (below_mod B4.out B4.out.size HMk.out fun g hg => by rw [hg]; exact hZw)
              clear hkn
              go_wp2_with fail
              go_roundw
              case rel => exact ⟨i + 1, ys ++ [i], _, by omega, by go_num, by rw [Hmo.out], Hst2, HO5, B5⟩
              case measure => simp [intOf]; omega
      · have x1 : ¬ ((i : Int) < (n : Int)) := by omega
        cases mo with
        | true =>
          go_wp2_with fail
          go_roundg (zerX 7 (runX ps X ys) + 1)
          case measure => have h1 := HP.out.more rfl; have h2 := Hz.out; omega
          case rel => exact ⟨ys, Nat.lt_succ_self _, ⟨HP.out.lt, HP.out.fine⟩, HOi.out, HBi.out⟩
        | false =>
          go_wp2_with fail
          go_ret2
          exact ⟨⟨_, _, false, ys, rfl, HOi.out.rd.mono fun g _ hg => by rw [hg]; exact hZw, HP.out.lt, HP.out.fine, (fun _ => by
            obtain ⟨g1, g2⟩ := HP.out.calm rfl
            rw [g1]
            exact calm_all fun j hj => g2 j (by have := Hpl.out; omega)), fun h => by cases h⟩, HBi.out⟩
end Go.Proofs.Ytofobmgmgipomaa
