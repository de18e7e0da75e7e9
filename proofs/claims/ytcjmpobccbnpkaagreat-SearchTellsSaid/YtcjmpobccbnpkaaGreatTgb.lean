/-
 Chapter 32: several texts in one (TeA TeB TeP TeS).
-/
import Derived.Test.YtcjmpobccbnpkaaGreatTga
namespace Go.Proofs.YtcjmpobccbnpkaaGreat
section
open Go.RowKit
section
variable {n : Nat} {X : List Int} {c : Pb}
theorem unitsB_asgX (hok : okX X) (hc : c.Ok) (hv : ∀ l ∈ c.lits, l.natAbs ≤ n) (h0 : 0 ≤ c.slackX X) : c.unitsB (asgX n X) = c.newX X := by
 have e := slackB_asgX hok hc hv
 unfold Pb.unitsB Pb.newX Pb.pick
 rw [if_pos ⟨(Pb.ok_iff c).2 hc, by rw [e]; exact h0⟩, e]
 congr 1
 refine List.filter_congr fun j hj => ?_
 have hj := List.mem_range.1 hj
 show (decide (valB (asgX n X) (nth c.lits j) = 0) && decide (c.slackX X < nth c.coefs j)) = (decide (c.slackX X < nth c.coefs j) && decide (valX X (nth c.lits j) = 0))
 rw [valB_asgX hok (hc.lit j hj).1 (hv _ (nth_mem hj)), Bool.and_comm]
end
theorem asgX_set {n : Nat} {X : List Int} {l : Int} (hv : valX X l = 0) (h0 : l ≠ 0) : (asgX n X).set (l.natAbs - 1) (if 0 < l then 1 else -1) = asgX n (X ++ [l]) := by
 obtain ⟨h1, h2⟩ := valX_zero.1 hv
 apply List.ext_getElem (by simp [asgX_len])
 intro i g1 g2
 rw [asgX_len] at g2
 rw [← nth_eq g1, ← nth_eq (by rw [asgX_len]; exact g2), nth_set _ _ _ _ (by rw [asgX_len]; exact g2), asgX_nth _ g2, asgX_nth _ g2]
 have m : ∀ x : Int, x ∈ X ++ [l] ↔ x ∈ X ∨ x = l := fun x => by simp
 by_cases e : l.natAbs - 1 = i
 ·rw [if_pos e]
  unfold valX
  by_cases hp : 0 < l
  ·have el : ((i : Int) + 1) = l := by omega
   rw [if_pos hp, el, if_pos ((m l).2 (.inr rfl))]
  ·have el : ((i : Int) + 1) = -l := by omega
   rw [if_neg hp, el, Int.neg_neg, if_neg (fun h => ((m _).1 h).elim h2 fun h => by omega), if_pos ((m l).2 (.inr rfl))]
 ·rw [if_neg e]
  unfold valX
  have a1 : ((i : Int) + 1) ∈ X ++ [l] ↔ ((i : Int) + 1) ∈ X := by rw [m]; exact ⟨fun h => h.elim id fun h => by omega, .inl⟩
  have a2 : -((i : Int) + 1) ∈ X ++ [l] ↔ -((i : Int) + 1) ∈ X := by rw [m]; exact ⟨fun h => h.elim id fun h => by omega, .inl⟩
  simp only [a1, a2]
def zerX (n : Nat) (X : List Int) : Nat := ((List.range n).filter fun (i : Nat) => decide (valX X ((i : Int) + 1) = 0)).length
theorem filter_le {α : Type} {p q : α → Bool} (h : ∀ x, p x = true → q x = true) : ∀ xs : List α, (xs.filter p).length ≤ (xs.filter q).length := by
 intro xs
 induction xs with
 | nil => simp
 | cons x xs ih =>
  rw [List.filter_cons, List.filter_cons]
  cases hp : p x with
  | true => rw [h x hp]; simpa using ih
  | false => cases q x <;> simp <;> omega
theorem filter_lt {α : Type} {p q : α → Bool} (h : ∀ x, p x = true → q x = true) {y : α} (hq : q y = true) (hp : p y = false) : ∀ xs : List α, y ∈ xs → (xs.filter p).length < (xs.filter q).length := by
 intro xs
 induction xs with
 | nil => intro hy; cases hy
 | cons x xs ih =>
  intro hy
  rw [List.filter_cons, List.filter_cons]
  have hle := filter_le h xs
  rcases List.mem_cons.1 hy with rfl | hy
  ·rw [hp, hq]
   simp only [Bool.false_eq_true, if_false, if_true, List.length_cons]
   omega
  ·have := ih hy
   cases hpx : p x with
   | true => rw [h x hpx]; simpa using this
   | false => cases q x <;> simp <;> omega
theorem zerX_lt {n : Nat} {X : List Int} {N : List Int} {l : Int} (hl : l ∈ N) (hv : valX X l = 0) (h0 : l ≠ 0) (hn : l.natAbs ≤ n) : zerX n (X ++ N) < zerX n X := by
 obtain ⟨h1, h2⟩ := valX_zero.1 hv
 refine filter_lt (y := l.natAbs - 1) (fun i hi => ?_) ?_ ?_ _ (List.mem_range.2 (by omega))
 ·rw [decide_eq_true_eq, valX_zero] at hi ⊢
  exact ⟨fun h => hi.1 (List.mem_append_left _ h), fun h => hi.2 (List.mem_append_left _ h)⟩
 ·rw [decide_eq_true_eq, valX_zero]
  rcases Int.lt_or_gt_of_ne h0 with hn | hp
  ·rw [show ((l.natAbs - 1 : Nat) : Int) + 1 = -l by omega, Int.neg_neg]; exact ⟨h2, h1⟩
  ·rw [show ((l.natAbs - 1 : Nat) : Int) + 1 = l by omega]; exact ⟨h1, h2⟩
 ·rw [decide_eq_false_iff_not, valX_zero]
  rintro ⟨g1, g2⟩
  rcases Int.lt_or_gt_of_ne h0 with hn | hp
  ·exact g2 (List.mem_append_right _ (by rw [show ((l.natAbs - 1 : Nat) : Int) + 1 = -l by omega, Int.neg_neg]; exact hl))
  ·exact g1 (List.mem_append_right _ (by rw [show ((l.natAbs - 1 : Nat) : Int) + 1 = l by omega]; exact hl))
theorem calm_none {c : Pb} {X : List Int} (h0 : 0 ≤ c.slackX X) (hn : c.newX X = []) : c.Calm X := by
 refine ⟨h0, fun j hj hlt hv => ?_⟩
 have : nth c.lits j ∈ c.newX X := mem_newX.2 ⟨j, hj, hlt, hv, rfl⟩
 rw [hn] at this
 cases this
theorem newX_nodup {c : Pb} {X : List Int} (hc : c.Ok) : (c.newX X).Nodup := by
 unfold Pb.newX Pb.pick
 unfold List.Nodup
 rw [List.pairwise_map]
 exact List.Pairwise.imp_of_mem (fun hi hj hne e => hne (hc.inj (List.mem_range.1 (List.mem_filter.1 hi).1) (List.mem_range.1 (List.mem_filter.1 hj).1) (by rw [e]))) (List.nodup_range.filter _)
theorem newX_next {c : Pb} {X : List Int} (hc : c.Ok) {k : Nat} (hk : k < (c.newX X).length) : valX (X ++ (c.newX X).take k) (nth (c.newX X) k) = 0 ∧ nth (c.newX X) k ∈ c.lits := by
 have hm := nth_mem hk
 obtain ⟨j, hj, _, h3, h4⟩ := mem_newX.1 hm
 rw [h4] at h3
 obtain ⟨g1, g2⟩ := valX_zero.1 h3
 have hlit : nth (c.newX X) k ∈ c.lits := by rw [← h4]; exact nth_mem hj
 refine ⟨valX_zero.2 ⟨fun h => ?_, fun h => ?_⟩, hlit⟩
 ·rcases List.mem_append.1 h with h | h
  ·exact g1 h
  ·obtain ⟨i, hi, e⟩ := List.mem_take_iff_getElem.1 h
   have hnd := newX_nodup (X := X) hc
   exact List.pairwise_iff_getElem.1 hnd i k (by omega) hk (by omega) (by rw [e, nth_eq hk])
 ·rcases List.mem_append.1 h with h | h
  ·exact g2 h
  ·have h5 := List.mem_of_mem_take h
   obtain ⟨i, hi, _, _, e⟩ := mem_newX.1 h5
   exact hc.no_neg hlit (by rw [← e]; exact nth_mem hi)
theorem zerX_le (n : Nat) (X : List Int) : zerX n X ≤ n := by
 unfold zerX
 have := List.length_filter_le (fun (i : Nat) => decide (valX X ((i : Int) + 1) = 0)) (List.range n)
 simpa using this
structure PassInv (ps : List Pb) (X Y0 : List Int) (i : Nat) (ys : List Nat) (mo : Bool) : Prop where
 lt : ∀ j ∈ ys, j < ps.length
 fine : fineX ps X ys
 calm : mo = false → runX ps X ys = Y0 ∧ ∀ j, j < i → (cAt ps j).Calm Y0
 more : mo = true → zerX 7 (runX ps X ys) < zerX 7 Y0
theorem PassInv.start {ps : List Pb} {X : List Int} {ys : List Nat} (h1 : ∀ j ∈ ys, j < ps.length) (h2 : fineX ps X ys) : PassInv ps X (runX ps X ys) 0 ys false :=
 ⟨h1, h2, fun _ => ⟨rfl, fun j hj => absurd hj (by omega)⟩, fun h => by cases h⟩
theorem PassInv.step {ps : List Pb} {X Y0 : List Int} {i : Nat} {ys : List Nat} {mo : Bool} (h : PassInv ps X Y0 i ys mo) (hok : ∀ p ∈ ps, p.Ok ∧ ∀ l ∈ p.lits, l.natAbs ≤ 7) (hi : i < ps.length) (h0 : 0 ≤ (cAt ps i).slackX (runX ps X ys)) :
  PassInv ps X Y0 (i + 1) (ys ++ [i]) (mo || decide (0 < ((cAt ps i).newX (runX ps X ys)).length)) := by
 have hc := hok _ (cAt_mem hi)
 refine ⟨fun j hj => (List.mem_append.1 hj).elim (h.lt j) fun e => by rw [List.mem_singleton.1 e]; exact hi, fineX_snoc.2 ⟨h.fine, h0⟩, fun e => ?_, fun e => ?_⟩
 ·rw [Bool.or_eq_false_iff] at e
  obtain ⟨e1, e2⟩ := e
  have e2 := of_decide_eq_false e2
  have hnil : (cAt ps i).newX (runX ps X ys) = [] := List.eq_nil_of_length_eq_zero (by omega)
  obtain ⟨g1, g2⟩ := h.calm e1
  rw [runX_snoc, exX, hnil, List.append_nil]
  refine ⟨g1, fun j hj => ?_⟩
  rcases Nat.lt_or_ge j i with e | e
  ·exact g2 j e
  ·obtain rfl : j = i := by omega
   rw [← g1]
   exact calm_none h0 hnil
 ·rw [runX_snoc, exX]
  have hle : zerX 7 (runX ps X ys) ≤ zerX 7 Y0 := by
   cases mo with
   | false => rw [(h.calm rfl).1]; exact Nat.le_refl _
   | true => exact Nat.le_of_lt (h.more rfl)
  cases hn : (cAt ps i).newX (runX ps X ys) with
  | nil =>
   rw [List.append_nil]
   cases mo with
   | false => rw [hn] at e; simp at e
   | true => exact h.more rfl
  | cons l N =>
   have hm : l ∈ (cAt ps i).newX (runX ps X ys) := by rw [hn]; exact List.mem_cons_self ..
   obtain ⟨j, hj, _, h3, h4⟩ := mem_newX.1 hm
   rw [h4] at h3
   have hl : l ∈ (cAt ps i).lits := by rw [← h4]; exact nth_mem hj
   have hl0 := hc.1.lit0 hj
   rw [h4] at hl0
   have := zerX_lt (n := 7) (X := runX ps X ys) (N := l :: N) (List.mem_cons_self ..) h3 hl0 (hc.2 l hl)
   omega
def ClosedTo (ps : List Pb) (X : List Int) (w w' : World) (r : Ending) : Prop := (∃ A c f xs, r = .returned (.tuple #[.slice A 7 c, .bool f]) ∧ Rd w' (fun g => w.heap.size ≤ g) 1 (.slice A 7 c) 7 (i8s (asgX 7 (runX ps X xs))) ∧ (∀ i ∈ xs, i < ps.length) ∧ fineX ps X xs ∧
 (f = false → ∀ c ∈ ps, c.Calm (runX ps X xs)) ∧ (f = true → ∃ i, i < ps.length ∧ (cAt ps i).slackX (runX ps X xs) < 0)) ∧ Below w.heap.size w w'
set_option maxRecDepth 100000 in
set_option maxHeartbeats 8000000 in
theorem rclosed32_any {w : World} {F G : Nat → Prop} {A : Option Addr} {n c : Nat} {ps : List Pb} (hp : PsRd w F G A n c ps) (hok : ∀ p ∈ ps, p.Ok ∧ ∀ l ∈ p.lits, l.natAbs ≤ 7) (hn : n ≤ 100000) :
  Calls Tryz.prog 63 #[.int .i64 7, .slice A n c, .slice none 0 0] w fun r w' => ClosedTo ps [] w w' r := by
 obtain ⟨X, hX0⟩ : ∃ X : List Int, [] = X := ⟨_, rfl⟩
 have hX : okX X := by rw [← hX0]; intro l hl; cases hl
 have hpl : ps.length = n := by obtain ⟨_, _, _, h⟩ := hp; exact h
 have Hp := hid (hp.mono (F' := fun g => g < w.heap.size) (G' := fun g => g < w.heap.size) (fun g hg _ => hg) fun g hg _ => hg)
 have Hok := hid hok
 have Hpl := hid hpl
 have HX0 := hid hX0
 have HokX := hid fun ys (h : ∀ i ∈ ys, i < ps.length) => okX_run (cs := ps) (X := X) (is := ys) (fun c hc => (hok c hc).1) h hX
 have hmk := fun W => mk_i8s7 W
 clear hp hok hpl hX
 rw [hX0]
 go_enter Tryz.func63, Tryz.ntmps63
 go_wp2_with fail
 obtain ⟨Z, hZ⟩ : ∃ z, w.heap.size = z := ⟨_, rfl⟩
 have hoZ := own_i8s7 w
 have b4 : Below w.heap.size w (w.alloc (.cells (madeCells #[.int .i8 0] 7) 70)) := (Below.refl _ _).alloc (Nat.le_refl _) _
 have s4 : Z < (w.alloc (.cells (madeCells #[.int .i8 0] 7) 70)).heap.size := by rw [← hZ]; simp
 obtain ⟨w1, hW4⟩ : ∃ W, w.alloc (.cells (madeCells #[.int .i8 0] 7) 70) = W := ⟨_, rfl⟩
 rw [hW4, hZ] at hoZ
 rw [hW4] at b4 s4
 rw [hW4, hZ]
 have HO := hid (show Own w1 (fun g => g = Z) 70 1 (.slice (some ⟨Z, 0, none⟩) 7 7) 7 (i8s (asgX 7 X)) by rw [← hX0, show asgX 7 [] = List.replicate 7 0 by decide]; exact hoZ)
 have B1 := hid b4
 have hZl := s4
 have hZw : w.heap.size ≤ Z := by omega
 clear hW4 hoZ b4 s4 hmk hX0
 go_loopw [9] (fun iv W => iv = .int .i64 0 ∧ Hid (W = w1)) (fun _ _ => 0)
 case atStart => exact ⟨rfl, rfl⟩
 case round =>
  obtain ⟨rfl, HW⟩ := hrel
  obtain rfl : wr = w1 := HW.o
  go_wp2_with fail
  go_loopg [] 8 (fun gk W => ∃ ys : List Nat, Hid (zerX 7 (runX ps X ys) < gk) ∧ Hid ((∀ j ∈ ys, j < ps.length) ∧ fineX ps X ys) ∧ Hid (Own W (fun g => g = Z) 70 1 (.slice (some ⟨Z, 0, none⟩) 7 7) 7 (i8s (asgX 7 (runX ps X ys)))) ∧ Hid (Below w.heap.size w W))
  case atStart => exact ⟨[], hid (by have := zerX_le 7 (runX ps X []); omega), ⟨fun _ h => (by cases h), trivial⟩, HO.o, B1.o⟩
  case round =>
   obtain ⟨ys0, Hz, Hy, HOw, HBw⟩ := hrel
   obtain ⟨V, rfl⟩ : ∃ V, V = wr := ⟨_, rfl⟩
   obtain ⟨Y0, hY0⟩ : ∃ Y, runX ps X ys0 = Y := ⟨_, rfl⟩
   have HP0 := hid (PassInv.start Hy.o.1 Hy.o.2)
   rw [hY0] at Hz HP0
   have HYz := hid hY0
   clear hY0
   go_wp2_with fail
   go_loopw [10, 11] (fun mv iv W => ∃ (i : Nat) (ys : List Nat) (mo : Bool), i ≤ n ∧ iv = .int .i64 i ∧ mv = .bool mo ∧ Hid (PassInv ps X Y0 i ys mo) ∧ Hid (Own W (fun g => g = Z) 70 1 (.slice (some ⟨Z, 0, none⟩) 7 7) 7 (i8s (asgX 7 (runX ps X ys)))) ∧ Hid (Below w.heap.size w W)) (fun _ iv _ => n - (intOf iv).toNat)
   case atStart => exact ⟨0, ys0, false, Nat.zero_le _, rfl, rfl, HYz.o ▸ HP0, HOw, HBw⟩
   case round =>
    obtain ⟨i, ys, mo, hi, rfl, rfl, HP, HOi, HBi⟩ := hrel
    have hsi := HBi.o.size
    by_cases hlt : i < n
    ·have x1 : (i : Int) < (n : Int) := by omega
     obtain ⟨gA, oA, p, A1, n1, d1, A2, n2, d2, rfl, hgF, hgl, hpk, e0, e1, e2, hpp⟩ := (Hp.o.below HBi.o).cells hlt
     have hpi : cAt ps i = p := by unfold cAt; rw [hpk]; rfl
     have hin : i < ps.length := by rw [Hpl.o]; exact hlt
     have hpm := List.mem_of_getElem? hpk
     obtain ⟨Y, hY⟩ : ∃ Y, runX ps X ys = Y := ⟨_, rfl⟩
     have hokY : okX Y := hY ▸ HokX.o ys HP.o.lt
     have hsl := slackB_asgX (n := 7) hokY (Hok.o p hpm).1 (Hok.o p hpm).2
     have hst := fun h => HP.o.step Hok.o hin h
     rw [hpi, hY] at hst
     rw [hY] at HOi
     have Hs := hid (rslack_any hpp (Hok.o p hpm).1.i64 (Hok.o p hpm).1.few HOi.o.rd)
     have Hu := hid (fun W (h : Below wr.heap.size wr W) => runits_any (hpp.below h) (Hok.o p hpm).1.i64 (Hok.o p hpm).1.few (HOi.o.rd.below h))
     obtain ⟨sl, hsl2⟩ : ∃ s, p.slackX Y = s := ⟨_, rfl⟩
     rw [hsl, hsl2] at Hs
     have Hst := hid hst
     have Hpi := hid hpi
     have HYe := hid hY
     have HokY := hid hokY
     have Hpm := hid hpm
     have Hsl := hid hsl2
     have Hin := hid hin
     clear hpk hpi hin hpm hokY hsl hst hsl2 hY hpp
     go_wp2_with fail
     refine Hs.o.mono ?_
     rintro r w3 ⟨rfl, b3⟩
     have HO3 := hid (HOi.o.below b3)
     have B3 := hid (HBi.o.trans (b3.mono hsi))
     have BB := hid b3
     have e0 := keep_cell e0 b3
     have e1 := keep_cell e1 b3
     have e2 := keep_cell e2 b3
     clear b3
     by_cases hs0 : sl < 0
     ·have ts : decide (sl < 0) = true := decide_eq_true hs0
      go_wp2_with fail
      go_ret2
      exact ⟨⟨_, _, true, ys, rfl, by rw [HYe.o]; exact HO3.o.rd.mono fun g _ hg => by rw [hg]; exact hZw, HP.o.lt, HP.o.fine, (fun h => by cases h), fun _ => ⟨i, Hin.o, by rw [HYe.o, Hpi.o, Hsl.o]; exact hs0⟩⟩, B3.o⟩
     ·have ts : decide (sl < 0) = false := decide_eq_false hs0
      have hs1 : 0 ≤ p.slackX Y := by rw [Hsl.o]; omega
      have Hst2 := hid (Hst.o hs1)
      have Hun := hid (unitsB_asgX (n := 7) HokY.o (Hok.o p Hpm.o).1 (Hok.o p Hpm.o).2 hs1)
      have Hnx := hid fun (k : Nat) (hk : k < (p.newX Y).length) => newX_next (X := Y) (Hok.o p Hpm.o).1 hk
      have HYn := hid (show runX ps X (ys ++ [i]) = Y ++ p.newX Y by rw [runX_snoc, exX, HYe.o, Hpi.o])
      have Hl7 := hid fun l (hl : l ∈ p.lits) => show l ≠ 0 ∧ l.natAbs ≤ 7 from ⟨by
       obtain ⟨j, hj, e⟩ := List.getElem_of_mem hl
       have := (Hok.o p Hpm.o).1.lit0 hj
       rw [nth_eq hj, e] at this
       exact this, (Hok.o p Hpm.o).2 l hl⟩
      clear hs1
      go_wp2_with fail
      refine (Hu.o w3 BB.o).mono ?_
      rintro r w4 ⟨⟨R, cc, rfl, hoR⟩, b4⟩
      rw [Hun.o] at hoR ⊢
      obtain ⟨U, hU⟩ : ∃ U, p.newX Y = U := ⟨_, rfl⟩
      rw [hU] at hoR Hst2 Hnx HYn ⊢
      obtain ⟨nu, hnu⟩ : ∃ z, U.length = z := ⟨_, rfl⟩
      rw [hnu] at hoR Hst2 Hnx ⊢
      have HR := hid (hoR.rd.mono (G := fun g => g ≠ Z) fun g _ hg => by
       obtain ⟨_, cur, hz⟩ := HO3.o.row (g := Z) ⟨by omega, rfl⟩
       have := lt_of_block hz
       omega)
      have hnum : nu ≤ 9223372036854775807 := by have h := rd_spot HR.o; have h1 := h.1; have h2 := h.2.1; unfold maxLen at h2; omega
      have HO4 := hid (HO3.o.below b4)
      have B4 := hid (B3.o.trans (b4.mono (by have := BB.o.size; omega)))
      have Hnu := hid hnu
      clear hoR hU hnu b4 e0 e1 e2
      go_wp2_with fail
      obtain ⟨V4, hV4⟩ : ∃ V, V = w4 := ⟨_, rfl⟩
      rw [← hV4] at HR HO4 B4 ⊢
      clear hV4
      go_loopw [10, 13] (fun mv kv W => ∃ k : Nat, k ≤ nu ∧ kv = .int .i64 k ∧ mv = .bool (mo || decide (0 < k)) ∧ Hid (Own W (fun g => g = Z) 70 1 (.slice (some ⟨Z, 0, none⟩) 7 7) 7 (i8s (asgX 7 (Y ++ U.take k)))) ∧ Hid (Mod (fun g => g = Z) V4 W)) (fun _ kv _ => nu - (intOf kv).toNat)
      case atStart => exact ⟨0, Nat.zero_le _, rfl, by simp, by rw [List.take_zero, List.append_nil]; exact HO4, hid (Mod.refl _ _)⟩
      case round =>
       obtain ⟨k, hk, rfl, rfl, HOk, HMk⟩ := hrel
       by_cases hltk : k < nu
       ·have x2 : (k : Int) < (nu : Int) := by omega
        obtain ⟨gR, oR, rfl, hgR, hgl, eR⟩ := (HR.o.mod HMk.o fun g _ h e => h e).cell.2 k hltk
        have hx := Hnx.o k hltk
        have htk := take_nth (xs := U) (k := k) (by rw [Hnu.o]; exact hltk)
        obtain ⟨x, hxe⟩ : ∃ x, nth U k = x := ⟨_, rfl⟩
        rw [hxe] at eR hx htk
        have hx7 := Hl7.o x hx.2
        have hset := asgX_set (n := 7) hx.1 hx7.1
        have Hta := hid (show Y ++ U.take (k + 1) = (Y ++ U.take k) ++ [x] by rw [htk, List.append_assoc])
        rw [← Hta.o] at hset
        have HtB := hid (show (mo || decide (0 < k + 1)) = true by simp)
        obtain ⟨q, hq⟩ : ∃ q, x.natAbs = q + 1 := ⟨x.natAbs - 1, by omega⟩
        have hq7 : q < 7 := by omega
        obtain ⟨g', eg, _, hg', hc', hf'⟩ := HOk.o.cell (j := q) (by omega)
        injection eg with eg
        injection eg with eg
        subst eg
        rw [i8s_nth (by rw [asgX_len]; exact hq7)] at hc'
        rw [show x.natAbs - 1 = q by omega] at hset
        obtain ⟨oldv, hold⟩ : ∃ z, nth (asgX 7 (Y ++ U.take k)) q = z := ⟨_, rfl⟩
        rw [hold] at hc'
        have Hset := hid hset
        clear hx htk hxe hset hold
        by_cases hpos : 0 < x
        ·obtain rfl : x = (q : Int) + 1 := by omega
         have hqi : (q : Int) < 7 := by omega
         have Hset2 := hid (Hset.o.symm.trans (by rw [if_pos hpos]))
         clear hq hx7
         go_wp2_with fail
         refine (rvar_any (by omega) (by omega)).mono ?_
         rintro r w5 ⟨rfl, rfl⟩
         rw [show (((q : Int) + 1).natAbs : Int) = (q : Int) + 1 by omega]
         go_wp2_with fail
         go_roundw
         case rel => exact ⟨k + 1, by omega, by go_num, by rw [HtB.o], hid (by rw [Hset2.o, i8s_set]; exact HOk.o.stored _), hid (HMk.o.setCell (p := ⟨Z, q, none⟩) (.inl rfl) _)⟩
         case measure => simp [intOf]; omega
        ·obtain rfl : x = -((q : Int) + 1) := by omega
         have hqi : (q : Int) < 7 := by omega
         have Hset2 := hid (Hset.o.symm.trans (by rw [if_neg hpos]))
         clear hq hx7
         go_wp2_with fail
         refine (rvar_any (by omega) (by omega)).mono ?_
         rintro r w5 ⟨rfl, rfl⟩
         rw [show ((-((q : Int) + 1)).natAbs : Int) = (q : Int) + 1 by omega]
         go_wp2_with fail
         go_roundw
         case rel => exact ⟨k + 1, by omega, by go_num, by rw [HtB.o], hid (by rw [Hset2.o, i8s_set]; exact HOk.o.stored _), hid (HMk.o.setCell (p := ⟨Z, q, none⟩) (.inl rfl) _)⟩
         case measure => simp [intOf]; omega
       ·have x2 : ¬ ((k : Int) < (nu : Int)) := by omega
        have hkn : k = nu := by omega
        have Hmo := hid (show (mo || decide (0 < k)) = (mo || decide (0 < nu)) by rw [hkn])
        have HO5 := hid (show Own wr (fun g => g = Z) 70 1 (.slice (some ⟨Z, 0, none⟩) 7 7) 7 (i8s (asgX 7 (runX ps X (ys ++ [i])))) by
         have h := HOk.o
         rw [List.take_of_length_le (by rw [Hnu.o]; omega)] at h
         rw [HYn.o]; exact h)
        have B5 := hid (below_mod B4.o B4.o.size HMk.o fun g hg => by rw [hg]; exact hZw)
        clear hkn
        go_wp2_with fail
        go_roundw
        case rel => exact ⟨i + 1, ys ++ [i], _, by omega, by go_num, by rw [Hmo.o], Hst2, HO5, B5⟩
        case measure => simp [intOf]; omega
    ·have x1 : ¬ ((i : Int) < (n : Int)) := by omega
     cases mo with
     | true =>
      go_wp2_with fail
      go_roundg (zerX 7 (runX ps X ys) + 1)
      case measure => have h1 := HP.o.more rfl; have h2 := Hz.o; omega
      case rel => exact ⟨ys, Nat.lt_succ_self _, ⟨HP.o.lt, HP.o.fine⟩, HOi.o, HBi.o⟩
     | false =>
      go_wp2_with fail
      go_ret2
      exact ⟨⟨_, _, false, ys, rfl, HOi.o.rd.mono fun g _ hg => by rw [hg]; exact hZw, HP.o.lt, HP.o.fine, (fun _ => by
       obtain ⟨g1, g2⟩ := HP.o.calm rfl
       rw [g1]
       exact calm_all fun j hj => g2 j (by have := Hpl.o; omega)), fun h => by cases h⟩, HBi.o⟩
end
section
set_option maxRecDepth 100000
set_option maxHeartbeats 4000000
open Go.RowKit
theorem own_one8 (w : World) (x : Value) : Own (w.alloc (.cells #[x] 70)) (fun g => g = w.heap.size) 70 1 (.slice (some ⟨w.heap.size, 0, none⟩) 1 1) 1 [x] :=
 own_new w _ _ 1 1 #[x] 1 [x] rfl (by decide) (Nat.le_refl _) (by decide) rfl rfl rfl
def tot32 (b : Int) (j : Nat) : List Int := (List.range j).map fun i => if b / 2 ^ i % 2 = 1 then 1 else -1
theorem tot32_is {b : Nat} (hb : b < 128) : tot32 (b : Int) 7 = totUp7 (b : Int) 7 := by
 unfold tot32 totUp7
 refine List.map_congr_left fun i hi => ?_
 have hi := List.mem_range.1 hi
 rw [if_pos hi, bit7_is hb hi]
theorem i8s_append (xs ys : List Int) : i8s (xs ++ ys) = i8s xs ++ i8s ys := by simp [i8s]
theorem tot32_snoc (b : Int) (j : Nat) : tot32 b (j + 1) = tot32 b j ++ [if b / 2 ^ j % 2 = 1 then 1 else -1] := by simp [tot32, List.range_succ]
theorem rtotal_any {w : World} {b : Nat} (hb : b < 128) :
  Calls Tryz.prog 57 #[.int .i64 7, .int .i64 b] w fun r w' => (∃ A c, r = .returned (.slice A 7 c) ∧ Rd w' (fun g => w.heap.size ≤ g) 1 (.slice A 7 c) 7 (i8s (totUp7 b 7))) ∧ Below w.heap.size w w' := by
 have Hb := hid hb
 clear hb
 go_enter Tryz.func57, Tryz.ntmps57
 go_wp2_with fail
 go_loopw [5, 6] (fun av iv W => ∃ (j : Nat) (A : Option Addr) (c : Nat), j ≤ 7 ∧ iv = .int .i64 j ∧ av = .slice A j c ∧ Hid (Own W (fun g => w.heap.size ≤ g) 70 1 (.slice A j c) j (i8s (tot32 b j))) ∧ Hid (Below w.heap.size w W)) (fun _ iv _ => 7 - (intOf iv).toNat)
 case atStart => exact ⟨0, none, 0, by omega, rfl, rfl, Own.nil _ _ _ _, Below.refl _ _⟩
 case round =>
  obtain ⟨j, A, c, hj, rfl, rfl, Ho, HB⟩ := hrel
  have hsz := HB.o.size
  by_cases hlt : j < 7
  ·have x1 : (j : Int) < 7 := by omega
   have hem : ((b : Int) / 2 ^ j).tmod 2 = (b : Int) / 2 ^ j % 2 := Int.tmod_eq_emod_of_nonneg (Int.ediv_nonneg (by omega) (by exact Int.le_of_lt (Int.pow_pos (by decide))))
   have Hem := hid hem
   clear hem
   cases hbt : (((b : Int) / 2 ^ j).tmod 2 == 1) with
   | true =>
    have htk := hid (show tot32 (b : Int) (j + 1) = tot32 b j ++ [1] by rw [tot32_snoc, if_pos (by rw [← Hem.o]; exact eq_of_beq hbt)])
    go_wp2_with (at_builtin; refine wpList_append_i8s rfl _ _ rfl (Ho.o.below ((Below.refl _ _).alloc (Nat.le_refl _) _)) (own_one8 wr (.int .i8 1)).rd rfl rfl (by simp [Value.oneCell']) (by omega) ?_; intro Av cv w9 ho9 hm9 hr9)
    go_roundw
    case rel =>
     refine ⟨j + 1, Av, cv, by omega, by go_num, rfl, ?_, ?_⟩
     ·rw [htk.o, i8s_append]
      exact ho9.mono fun g _ _ hg => hg.elim id fun hg => by simp at hg; omega
     ·exact below_mod (HB.o.alloc hsz _) (by simp; omega) hm9 fun g hg => (Ho.o.row hg).1
    case measure => simp [intOf]; omega
   | false =>
    have htk := hid (show tot32 (b : Int) (j + 1) = tot32 b j ++ [-1] by rw [tot32_snoc, if_neg (by rw [← Hem.o]; exact fun h => by rw [h] at hbt; cases hbt)])
    go_wp2_with (at_builtin; refine wpList_append_i8s rfl _ _ rfl (Ho.o.below ((Below.refl _ _).alloc (Nat.le_refl _) _)) (own_one8 wr (.int .i8 (-1))).rd rfl rfl (by simp [Value.oneCell']) (by omega) ?_; intro Av cv w9 ho9 hm9 hr9)
    go_roundw
    case rel =>
     refine ⟨j + 1, Av, cv, by omega, by go_num, rfl, ?_, ?_⟩
     ·rw [htk.o, i8s_append]
      exact ho9.mono fun g _ _ hg => hg.elim id fun hg => by simp at hg; omega
     ·exact below_mod (HB.o.alloc hsz _) (by simp; omega) hm9 fun g hg => (Ho.o.row hg).1
    case measure => simp [intOf]; omega
  ·obtain rfl : j = 7 := by omega
   go_wp2_with fail
   go_ret
   exact ⟨⟨A, c, rfl, by rw [← tot32_is Hb.o]; exact Ho.o.rd⟩, HB.o⟩
def allB (ps : List Pb) (ls av : List Int) : Bool := ps.all (fun p => p.holdsB av) && ls.all fun x => decide (valB av x = 1)
theorem allB_fine {ps : List Pb} {ls av : List Int} (hls : ∀ x ∈ ls, x ≠ 0 ∧ x.natAbs ≤ 7) (hav : ∀ i, i < 7 → nth av i ≠ 0) : allB ps ls av = fineB ps ls av := by
 unfold allB fineB
 congr 1
 rw [Bool.eq_iff_iff, List.all_eq_true, List.all_eq_true]
 refine forall_congr' fun x => forall_congr' fun hx => ?_
 obtain ⟨h0, h7⟩ := hls x hx
 have hn := hav (x.natAbs - 1) (by omega)
 unfold finL valB
 rw [if_neg hn, decide_eq_true_eq]
 by_cases hp : 0 < x
 ·by_cases hq : 0 < nth av (x.natAbs - 1)
  ·rw [if_pos (by constructor <;> intro _ <;> omega)]; simp [hp]; omega
  ·rw [if_neg (by intro h; exact hq (h.2 hp))]; simp [hp]; omega
 ·by_cases hq : 0 < nth av (x.natAbs - 1)
  ·rw [if_neg (by intro h; exact hp (h.1 hq))]; simp [hp, hq]; omega
  ·rw [if_pos (by constructor <;> intro _ <;> omega)]; simp [hp, hq]
theorem rall_any {w : World} {F G H K : Nat → Prop} {A B C : Option Addr} {n c m d e : Nat} {ps : List Pb} {ls av : List Int} (hp : PsRd w F G A n c ps) (hi : ∀ p ∈ ps, (∀ k ∈ p.coefs, I64 k) ∧ p.lits.length ≤ 65536) (hl : Rd w H 1 (.slice B m d) m (ints ls)) (ha : Rd w K 1 (.slice C 7 e) 7 (i8s av))
  (hls : ∀ x ∈ ls, x ≠ 0 ∧ x.natAbs ≤ 7) (hn : n ≤ 100000) (hm : m ≤ 100000) :
  Calls Tryz.prog 26 #[.slice A n c, .slice B m d, .slice C 7 e] w fun r w' => r = .returned (.bool (allB ps ls av)) ∧ Below w.heap.size w w' := by
 have hpl : ps.length = n := by obtain ⟨_, _, _, h⟩ := hp; exact h
 have hll : ls.length = m := hl.cell.1
 have Hp := hid hp
 have Hi := hid hi
 have Hl := hid hl
 have Ha := hid ha
 have Hls := hid hls
 have Hpl := hid hpl
 have Hll := hid hll
 obtain ⟨V, hV⟩ : ∃ V, allB ps ls av = V := ⟨_, rfl⟩
 rw [hV]
 have HV := hid hV
 clear hp hi hl ha hls hpl hll hV
 go_enter Tryz.func26, Tryz.ntmps26
 go_wp2_with fail
 go_loopw [7] (fun iv W => ∃ k : Nat, k ≤ n ∧ iv = .int .i64 k ∧ Hid ((ps.take k).all (fun p => p.holdsB av) = true) ∧ Hid (Below w.heap.size w W)) (fun iv _ => n - (intOf iv).toNat)
 case atStart => exact ⟨0, Nat.zero_le _, rfl, hid (by simp), hid (Below.refl _ _)⟩
 case round =>
  obtain ⟨k, hk, rfl, HA, HB⟩ := hrel
  by_cases hlt : k < n
  ·have x1 : (k : Int) < (n : Int) := by omega
   obtain ⟨gA, oA, p, A1, n1, c1, A2, n2, c2, rfl, hgF, hgl, hpk, e0, e1, e2, hpp⟩ := (Hp.o.below HB.o).cells hlt
   have hmm := Hi.o p (List.mem_of_getElem? hpk)
   have Hh := hid (rholds_any hpp hmm.1 hmm.2 (Ha.o.below HB.o))
   have hta := hid (show (ps.take (k + 1)).all (fun p => p.holdsB av) = ((ps.take k).all (fun p => p.holdsB av) && p.holdsB av) by rw [List.take_add_one, hpk]; simp)
   have Hpm := hid (List.mem_of_getElem? hpk)
   clear hpp hpk hmm
   go_wp2_with fail
   refine Hh.o.mono ?_
   rintro r W5 ⟨rfl, b5⟩
   have B5 := hid (HB.o.trans (b5.mono HB.o.size))
   clear b5
   cases hh : p.holdsB av with
   | true =>
    rw [hh] at hta
    go_wp2_with fail
    go_roundw
    case rel => exact ⟨k + 1, by omega, by go_num, hid (by rw [hta.o, HA.o]; rfl), B5⟩
    case measure => simp [intOf]; omega
   | false =>
    have hex : V = false := by
     rw [← HV.o]
     unfold allB
     rw [show ps.all (fun p => p.holdsB av) = false from List.all_eq_false.2 ⟨p, Hpm.o, by rw [hh]; simp⟩]
     rfl
    subst hex
    clear hh hta
    go_wp2_with fail
    go_ret
    exact ⟨rfl, B5.o⟩
  ·have x1 : ¬ ((k : Int) < (n : Int)) := by omega
   have hall : ps.all (fun p => p.holdsB av) = true := by have := HA.o; rwa [List.take_of_length_le (by have := Hpl.o; omega)] at this
   have Hall := hid hall
   have HB0 := hid HB.o
   clear hall
   go_wp2_with fail
   go_loopw [8] (fun iv W => ∃ k : Nat, k ≤ m ∧ iv = .int .i64 k ∧ Hid ((ls.take k).all (fun x => decide (valB av x = 1)) = true) ∧ Hid (Below w.heap.size w W)) (fun iv _ => m - (intOf iv).toNat)
   case atStart => exact ⟨0, Nat.zero_le _, rfl, hid (by simp), HB0⟩
   case round =>
    obtain ⟨k, hk, rfl, HA, HB⟩ := hrel
    by_cases hlt : k < m
    ·have x2 : (k : Int) < (m : Int) := by omega
     obtain ⟨gL, oL, rfl, _, hgL, eL⟩ := (Hl.o.below HB.o).cell.2 k hlt
     have hlm := Hls.o (nth ls k) (nth_mem (by have := Hll.o; omega))
     have htl := hid (show (ls.take (k + 1)).all (fun x => decide (valB av x = 1)) = ((ls.take k).all (fun x => decide (valB av x = 1)) && decide (valB av (nth ls k) = 1)) by rw [take_nth (by have := Hll.o; omega)]; simp)
     have Hmem := hid (nth_mem (xs := ls) (k := k) (by have := Hll.o; omega))
     obtain ⟨li, hli⟩ : ∃ z, nth ls k = z := ⟨_, rfl⟩
     rw [hli] at eL hlm htl Hmem
     clear hli
     go_wp2_with fail
     refine (rvalue_any (Ha.o.below HB.o) hlm.1 (by omega) (by omega)).mono ?_
     rintro r W5 ⟨rfl, rfl⟩
     by_cases hv : valB av li = 1
     ·rw [hv]
      rw [decide_eq_true hv] at htl
      go_wp2_with fail
      go_roundw
      case rel => exact ⟨k + 1, by omega, by go_num, hid (by rw [htl.o, HA.o]; rfl), HB⟩
      case measure => simp [intOf]; omega
     ·have hb : V = false := by
       rw [← HV.o]
       unfold allB
       rw [show ls.all (fun x => decide (valB av x = 1)) = false from List.all_eq_false.2 ⟨li, Hmem.o, by simpa using hv⟩, Bool.and_false]
      subst hb
      obtain ⟨z, hz⟩ : ∃ z, valB av li = z := ⟨_, rfl⟩
      rw [hz] at hv ⊢
      have hzB : (z != 1) = true := by simpa using hv
      clear htl Hmem hz hlm
      go_wp2_with fail
      go_ret
      exact ⟨rfl, HB.o⟩
    ·have x2 : ¬ ((k : Int) < (m : Int)) := by omega
     have hV : V = true := by
      rw [← HV.o]
      unfold allB
      have := HA.o
      rw [List.take_of_length_le (by have := Hll.o; omega)] at this
      rw [Hall.o, this]
      rfl
     subst hV
     go_wp2_with fail
     go_ret
     exact ⟨rfl, HB.o⟩
theorem rsat_any {w : World} {F G H : Nat → Prop} {A B : Option Addr} {n c m d : Nat} {ps : List Pb} {ls : List Int} (hp : PsRd w F G A n c ps) (hi : ∀ p ∈ ps, (∀ k ∈ p.coefs, I64 k) ∧ p.lits.length ≤ 65536) (hl : Rd w H 1 (.slice B m d) m (ints ls))
  (hls : ∀ x ∈ ls, x ≠ 0 ∧ x.natAbs ≤ 7) (hn : n ≤ 100000) (hm : m ≤ 100000) :
  Calls Tryz.prog 25 #[.int .i64 7, .slice A n c, .slice B m d] w fun r w' => r = .returned (.bool (decide (0 < modelsN ps ls 128))) ∧ Below w.heap.size w w' := by
 have Hp := hid hp
 have Hi := hid hi
 have Hl := hid hl
 have Hls := hid hls
 obtain ⟨V, hV⟩ : ∃ V, decide (0 < modelsN ps ls 128) = V := ⟨_, rfl⟩
 rw [hV]
 have HV := hid hV
 have Hle := hid fun (j : Nat) (h : j < 128) (hf : fineB ps ls (totUp7 (j : Int) 7) = true) => show V = true by
  rw [← hV, decide_eq_true_eq]
  unfold modelsN
  exact List.countP_pos_iff.2 ⟨j, List.mem_range.2 h, hf⟩
 clear hp hi hl hls hV
 go_enter Tryz.func25, Tryz.ntmps25
 go_wp2_with fail
 go_loopw [7] (fun jv W => ∃ j : Nat, j ≤ 128 ∧ jv = .int .i64 j ∧ Hid (∀ i, i < j → fineB ps ls (totUp7 (i : Int) 7) = false) ∧ Hid (Below w.heap.size w W)) (fun jv _ => 128 - (intOf jv).toNat)
 case atStart => exact ⟨0, Nat.zero_le _, rfl, hid fun i hi => absurd hi (Nat.not_lt_zero _), Below.refl _ _⟩
 case round =>
  obtain ⟨j, hj, rfl, HN, HB⟩ := hrel
  by_cases hlt : j < 128
  ·have x1 : (j : Int) < 128 := by omega
   go_wp2_with fail
   refine (rtotal_any hlt).mono ?_
   rintro r W1 ⟨⟨Z, cz, rfl, hoZ⟩, b1⟩
   have HoZ := hid hoZ
   have B1 := hid (HB.o.trans (b1.mono HB.o.size))
   clear hoZ b1
   go_wp2_with fail
   refine (rall_any (Hp.o.below B1.o) Hi.o (Hl.o.below B1.o) HoZ.o Hls.o hn hm).mono ?_
   rintro r W2 ⟨rfl, b2⟩
   have B2 := hid (B1.o.trans (b2.mono B1.o.size))
   rw [allB_fine Hls.o (tot7_ne hlt)]
   have hj1 := Hle.o j hlt
   obtain ⟨q, hq⟩ : ∃ q, fineB ps ls (totUp7 (j : Int) 7) = q := ⟨_, rfl⟩
   rw [hq] at hj1 ⊢
   have Hq := hid hq
   clear b2 hq
   cases q with
   | true =>
    obtain rfl : V = true := hj1 rfl
    clear hj1
    go_wp2_with fail
    go_ret
    exact ⟨rfl, B2.o⟩
   | false =>
    clear hj1
    go_wp2_with fail
    go_roundw
    case rel => exact ⟨j + 1, by omega, by go_num, hid (fun i hi => by
     rcases Nat.lt_or_ge i j with h | h
     ·exact HN.o i h
     ·obtain rfl : i = j := by omega
      exact Hq.o), B2⟩
    case measure => simp [intOf]; omega
  ·have x1 : ¬ ((j : Int) < 128) := by omega
   have hv : V = false := by
    rw [← HV.o]
    refine decide_eq_false fun h => ?_
    unfold modelsN at h
    obtain ⟨b, hb, hf⟩ := List.countP_pos_iff.1 h
    rw [HN.o b (by have := List.mem_range.1 hb; omega)] at hf
    cases hf
   subst hv
   go_wp2_with fail
   go_ret
   exact ⟨rfl, HB.o⟩
end
section
open Go.RowKit
theorem clause_bd {L : List Int} (h : ∀ l ∈ L, litB l = true) (hn : L.length ≤ 8) : (clauseB L).1.bound ≤ 17 := by
 have h1 := once_len L
 have h2 := normBd_le (ls := once L) (ks := List.replicate (once L).length 1) (b := 1) (K := 1) fun i hi => ⟨h _ (mem_once.1 (nth_mem hi)), by rw [nth_ones hi]; decide, by rw [nth_ones hi]; decide⟩
 rw [clauseB_is]
 unfold normed
 split
 ·show (0 : Int) ≤ 17; omega
 ·split
  ·show (0 : Int) ≤ 17; omega
  ·split
   ·show (1 : Int) ≤ 17; omega
   ·split
    ·show (0 : Int) ≤ 17; omega
    ·show normBd _ _ _ ≤ 17; omega
theorem neg_ok {L : List Int} (h : ∀ l ∈ L, litB l = true ∧ l.natAbs ≤ 7) (hn : L.length ≤ 8) :
  (clauseB L).1.negB.2 = 0 ∧ (clauseB L).1.negB.1.Ok ∧ (∀ l ∈ (clauseB L).1.negB.1.lits, l.natAbs ≤ 7) ∧ ∀ s : Int → Bool, (clauseB L).1.negB.1.bound ≤ (clauseB L).1.negB.1.total (tr s) ↔ ∀ x ∈ L, tr s x = false := by
 obtain ⟨hc, hl⟩ := clauseB_okN h hn
 have hb := clause_bd (fun l hl => (h l hl).1) hn
 have h8 := hc.fewn hl
 obtain ⟨h1, h2⟩ := hc.neg_in hb (by omega) (by omega) (by omega)
 have e : (clauseB L).1.negB = normed ((clauseB L).1.lits.map fun l => -l) (clauseB L).1.coefs ((clauseB L).1.coefs.sum - (clauseB L).1.bound + 1) := by
  unfold Pb.negB
  rw [if_pos ((Pb.ok_iff _).2 hc)]
 refine ⟨h2, ?_, fun l hl2 => ?_, fun s => ?_⟩
 ·rw [e] at h2 ⊢
  exact (Pb.ok_iff _).1 (norm_valid h1 h2)
 ·rw [e] at hl2
  obtain ⟨x, hx, e2⟩ := norm_lits hl2
  obtain ⟨y, hy, rfl⟩ := List.mem_map.1 hx
  have := hl y hy
  omega
 ·rw [hc.neg_holds hb (by omega) (by omega) (by omega) s, clause_holds s (fun l hl => (h l hl).1) hn]
  rw [List.any_eq_true]
  constructor
  ·intro h3 x hx
   cases e3 : tr s x with
   | false => rfl
   | true => exact absurd ⟨x, hx, e3⟩ h3
  ·rintro h3 ⟨x, hx, e3⟩
   rw [h3 x hx] at e3
   cases e3
theorem neg_calm {L Y : List Int} (h : ∀ l ∈ L, litB l = true ∧ l.natAbs ≤ 7) (hn : L.length ≤ 8) (hY : okX Y) (hc : (clauseB L).1.negB.1.Calm Y) : ∀ x ∈ L, -x ∈ Y := by
 obtain ⟨_, hok, hlt, hsat⟩ := neg_ok h hn
 obtain ⟨q, hq⟩ : ∃ q, (clauseB L).1.negB.1 = q := ⟨_, rfl⟩
 rw [hq] at hc hok hlt hsat
 have e0 := slackB_asgX (n := 7) hY hok hlt
 obtain ⟨s0, hx0, hs0⟩ := (slack_some hok (asgX 7 Y)).1 (by rw [e0]; exact hc.1)
 have hf0 := (hsat s0).1 hs0
 intro x hx
 obtain ⟨hlb, hx7⟩ := h x hx
 have hx1 := litB_iff.1 hlb
 have hx0' : x ≠ 0 := by omega
 refine Classical.byContradiction fun hneg => ?_
 have hnot : x ∉ Y := fun hm => by
  have hv : valX Y x = 1 := by unfold valX; rw [if_pos hm]
  have h1 := valB_asgX (n := 7) hY hx0' hx7
  have h2 : nth (asgX 7 Y) (x.natAbs - 1) ≠ 0 := fun h0 => by
   have := valB_zero.2 h0
   omega
  have h3 := val_tr hx0 hx0' h2
  rw [h1, hv, hf0 x hx] at h3
  cases h3
 have hz : valX Y x = 0 := by unfold valX; rw [if_neg hnot, if_neg hneg]
 have ha : nth (asgX 7 Y) (x.natAbs - 1) = 0 := valB_zero.1 (by rw [valB_asgX (n := 7) hY hx0' hx7, hz])
 have hflip : ∀ t : Int → Bool, q.bound ≤ q.total (tr t) → (∀ j, j < q.lits.length → (nth q.lits j).natAbs = x.natAbs → nth q.lits j = x) → False := fun t ht hj => by
  have h1 : q.bound ≤ q.total (tr fun v => if v.natAbs = x.natAbs then decide (0 < x) else t v) := by
   refine Int.le_trans ht (hok.total_le fun j hjl hjt => ?_)
   by_cases e : (nth q.lits j).natAbs = x.natAbs
   ·rw [hj j hjl e]
    unfold tr
    dsimp only
    by_cases e2 : 0 < x
    ·rw [if_pos e2, if_pos rfl]; exact decide_eq_true e2
    ·rw [if_neg e2, if_pos (Int.natAbs_neg x), decide_eq_false e2]; rfl
   ·rw [← hjt]
    refine tr_cong (hok.lit j hjl).1 ?_
    show (if (((nth q.lits j).natAbs : Nat) : Int).natAbs = x.natAbs then decide (0 < x) else t _) = t _
    rw [if_neg (by rw [Int.natAbs_natCast]; exact e)]
  have h2 := (hsat _).1 h1 x hx
  unfold tr at h2
  dsimp only at h2
  by_cases e2 : 0 < x
  ·rw [if_pos e2, if_pos rfl, decide_eq_true e2] at h2; cases h2
  ·rw [if_neg e2, if_pos (Int.natAbs_neg x), decide_eq_false e2] at h2; cases h2
 by_cases hex : ∃ j, j < q.lits.length ∧ nth q.lits j = -x
 ·obtain ⟨j, hj, e⟩ := hex
  have hu : nth q.lits j ∈ q.unitsB (asgX 7 Y) := (units_are hok (asgX 7 Y) (by rw [e0]; exact hc.1) hj).2 ⟨by rw [e, Int.natAbs_neg]; exact ha, fun s _ hsb => by rw [e, tr_neg s hx0', (hsat s).1 hsb x hx]; rfl⟩
  obtain ⟨_, i, hi, ⟨h1, h2⟩, e2⟩ := mem_units.1 hu
  rw [e0] at h2
  have h3 := hc.2 i hi h2
  rw [valB_asgX (n := 7) hY (hok.lit i hi).1 (hlt _ (nth_mem hi))] at h1
  exact h3 h1
 ·refine hflip s0 hs0 fun j hj e => ?_
  have h3 : ¬ nth q.lits j = -x := fun h4 => hex ⟨j, hj, h4⟩
  omega
theorem runX_lits {cs : List Pb} {m : Nat} (hc : ∀ c ∈ cs, ∀ l ∈ c.lits, l.natAbs ≤ m) : ∀ (is : List Nat) (X : List Int), (∀ i ∈ is, i < cs.length) → (∀ l ∈ X, l.natAbs ≤ m) → ∀ l ∈ runX cs X is, l.natAbs ≤ m := by
 intro is
 induction is with
 | nil => intro X _ hX; exact hX
 | cons i is ih =>
  intro X hi hX
  refine ih (exX cs X i) (fun j hj => hi j (List.mem_cons_of_mem _ hj)) fun l hl => ?_
  unfold exX at hl
  rcases List.mem_append.1 hl with hl | hl
  ·exact hX l hl
  ·obtain ⟨j, hj, _, _, e⟩ := mem_newX.1 hl
   rw [← e]
   exact hc _ (cAt_mem (hi i (List.mem_cons_self ..))) _ (nth_mem hj)
theorem rup_found {D : List Pb} {L : List Int} {xs : List Nat} {f : Bool} (hD : OkN 7 D) (h : ∀ l ∈ L, litB l = true ∧ l.natAbs ≤ 7) (hn : L.length ≤ 8) (hr : RupX D L) (hi : ∀ i ∈ xs, i < (D ++ [(clauseB L).1.negB.1]).length)
  (hf : f = false → ∀ c ∈ D ++ [(clauseB L).1.negB.1], c.Calm (runX (D ++ [(clauseB L).1.negB.1]) [] xs)) : f = true := by
 obtain ⟨_, hok, hlt, _⟩ := neg_ok h hn
 cases f with
 | true => rfl
 | false =>
  exfalso
  have hall := hf rfl
  have hcs : ∀ c ∈ D ++ [(clauseB L).1.negB.1], c.Ok ∧ ∀ l ∈ c.lits, l.natAbs ≤ 7 := fun c hc => by
   rcases List.mem_append.1 hc with hc | hc
   ·exact hD c hc
   ·rw [List.mem_singleton.1 hc]; exact ⟨hok, hlt⟩
  have hY := okX_run (cs := D ++ [(clauseB L).1.negB.1]) (X := []) (is := xs) (fun c hc => (hcs c hc).1) hi fun l hl => by cases hl
  have hb := runX_lits (m := 7) (fun c hc => (hcs c hc).2) xs [] hi fun l hl => by cases hl
  exact hr _ hY (fun l hl => by have := hb l hl; omega) (fun p hp => hall p (List.mem_append_left _ hp)) (neg_calm h hn hY (hall _ (List.mem_append_right _ (List.mem_singleton.2 rfl))))
end
section
open Go.RowKit
set_option maxRecDepth 100000 in
set_option maxHeartbeats 2000000 in
theorem sublist_any {w : World} {F G : Nat → Prop} {A B : Option Addr} {n cA m cB : Nat} {xs ys : List Int} (ha : Rd w F 1 (.slice A n cA) n (ints xs)) (hb : Rd w G 1 (.slice B m cB) m (ints ys)) (hs : List.Sublist xs ys) :
  Calls Tryz.prog 27 #[.slice A n cA, .slice B m cB] w fun r w' => r = .returned (.bool true) ∧ w = w' := by
 have hal : xs.length = n := ha.cell.1
 have hbl : ys.length = m := hb.cell.1
 have hmx := rd_spot hb
 have hml : m ≤ 9223372036854775807 := by have h1 := hmx.1; have h2 := hmx.2.1; unfold maxLen at h2; omega
 have hnl : n ≤ m := by rw [← hal, ← hbl]; exact hs.length_le
 have Ha := hid ha
 have Hb := hid hb
 have Hal := hid hal
 have Hbl := hid hbl
 have Hs := hid hs
 clear ha hb hal hbl hmx hs
 go_enter Tryz.func27, Tryz.ntmps27
 go_wp2_with fail
 go_loopw [5, 10] (fun iv kv W => ∃ i k : Nat, i ≤ n ∧ k ≤ m ∧ iv = .int .i64 i ∧ kv = .int .i64 k ∧ W = w ∧ Hid (List.Sublist (xs.drop i) (ys.drop k))) (fun _ kv _ => m - (intOf kv).toNat)
 case atStart => exact ⟨0, 0, Nat.zero_le _, Nat.zero_le _, rfl, rfl, rfl, Hs⟩
 case round =>
  obtain ⟨i, k, hi, hk, rfl, rfl, rfl, HS⟩ := hrel
  by_cases hlt : k < m
  ·have x1 : (k : Int) < (m : Int) := by omega
   obtain ⟨gB, oB, rfl, _, hgB, eB⟩ := Hb.o.cell.2 k hlt
   have hdb : ys.drop k = nth ys k :: ys.drop (k + 1) := by
    rw [List.drop_eq_getElem_cons (by rw [Hbl.o]; exact hlt), nth_eq (by rw [Hbl.o]; exact hlt)]
   obtain ⟨y, hy⟩ : ∃ y, nth ys k = y := ⟨_, rfl⟩
   rw [hy] at eB hdb
   have Hdb := hid hdb
   clear hdb hy
   by_cases hin : i < n
   ·have x2 : (i : Int) < (n : Int) := by omega
    obtain ⟨gA, oA, rfl, _, hgA, eA⟩ := Ha.o.cell.2 i hin
    have hda : xs.drop i = nth xs i :: xs.drop (i + 1) := by
     rw [List.drop_eq_getElem_cons (by rw [Hal.o]; exact hin), nth_eq (by rw [Hal.o]; exact hin)]
    obtain ⟨x, hx⟩ : ∃ x, nth xs i = x := ⟨_, rfl⟩
    rw [hx] at eA hda
    have hsub := HS.o
    rw [hda, Hdb.o] at hsub
    have Hda := hid hda
    clear hda hx
    by_cases hxy : x = y
    ·have H2 := hid (show List.Sublist (xs.drop (i + 1)) (ys.drop (k + 1)) by
      rw [hxy] at hsub
      exact List.cons_sublist_cons.1 hsub)
     subst hxy
     clear hsub
     go_wp2_with fail
     go_roundw
     case rel => exact ⟨i + 1, k + 1, by omega, by omega, by go_num, by go_num, by trivial, H2⟩
     case measure => simp [intOf]; omega
    ·have H2 := hid (show List.Sublist (xs.drop i) (ys.drop (k + 1)) by
      rw [Hda.o]
      cases hsub with
      | cons _ h => exact h
      | cons_cons _ h => exact absurd rfl hxy)
     have hxB : (x == y) = false := by simpa using hxy
     clear hsub hxy
     go_wp2_with fail
     go_roundw
     case rel => exact ⟨i, k + 1, by omega, by omega, rfl, by go_num, by trivial, H2⟩
     case measure => simp [intOf]; omega
   ·have x2 : ¬ ((i : Int) < (n : Int)) := by omega
    have H2 := hid (show List.Sublist (xs.drop i) (ys.drop (k + 1)) by
     rw [List.drop_of_length_le (by rw [Hal.o]; omega)]
     exact List.nil_sublist _)
    go_wp2_with fail
    go_roundw
    case rel => exact ⟨i, k + 1, by omega, by omega, rfl, by go_num, by trivial, H2⟩
    case measure => simp [intOf]; omega
  ·have x1 : ¬ ((k : Int) < (m : Int)) := by omega
   have hin : i = n := by
    have h := HS.o
    rw [List.drop_of_length_le (l := ys) (by rw [Hbl.o]; omega)] at h
    have h2 := h.length_le
    rw [List.length_drop, Hal.o] at h2
    simp at h2
    omega
   have xi : (i : Int) = (n : Int) := by omega
   clear hin
   go_wp2_with fail
   go_ret
   exact ⟨by simp, rfl⟩
end
end Go.Proofs.YtcjmpobccbnpkaaGreat
