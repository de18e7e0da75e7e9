/-
 Chapter 32: several texts in one (SgI TeZ RfA RfB RfC RfE RfD).
-/
import Derived.Test.YtcjmpobccbnpkaaGreatMjbr
import Derived.Test.YtcjmpobccbnpkaaGreatMjbp
import Derived.Test.YtcjmpobccbnpkaaGreatTk
import Derived.Deep.RegionHeld
import Derived.BigRegion
import Derived.Test.YtcjmpobccbnpkaaGreatTkU
namespace Go.Proofs.YtcjmpobccbnpkaaGreat
section
open Go.RowKit
structure Told (Bs : List Pb) (asm : List Int) (new : List Stp) (sat : Bool) (M co : List Int) : Prop where
 ans : sat = decide (0 < modelsN Bs asm 128)
 yes : sat = true → M.length = 7 ∧ fineB Bs asm M = true ∧ (∀ i, i < 7 → nth M i = 1 ∨ nth M i = -1) ∧ co = []
 no : sat = false → M = [] ∧ modelsN Bs co 128 = 0 ∧ List.Sublist co asm ∧ 1 ≤ new.length
theorem Nilled.law {Bs G : List Pb} {asm : List Int} {log0 new : List Stp} {most : Nat} {sat : Bool} {M co : List Int} {e : Int} (h : Nilled 7 Bs G asm log0 most new sat M co e) (hok : OkN 7 Bs) (ha : ∀ x ∈ asm, x ≠ 0 ∧ x.natAbs ≤ 7) :
  (e = 0 ∧ Told Bs asm new sat M co) ∨ (e = 5 ∧ most < 2187 ∧ sat = false ∧ M = [] ∧ co = []) := by
 cases h with
 | sat X hX hn hxa hall hcal =>
  obtain ⟨h1, h2, h3⟩ := sat_hold hX hn hall hok hcal
  refine .inl ⟨rfl, (decide_eq_true ((models_iff hok ha).2 ⟨_, h3, fun x hx => (h2 x (ha x hx).1 (ha x hx).2).2 (hxa x hx)⟩)).symm, fun _ => ⟨asgX_len _ _, ?_, fun i hi => ?_, rfl⟩, (fun h => by cases h)⟩
  ·exact (fineB_iff hok ha h1).2 ⟨h3, fun x hx => (h2 x (ha x hx).1 (ha x hx).2).2 (hxa x hx)⟩
  ·have h4 := h1 i hi
   rw [asgX_nth X hi] at h4 ⊢
   rcases valX_cases X ((i : Int) + 1) with e | e | e
   ·exact .inl e
   ·exact absurd e h4
   ·exact .inr e
 | unsat co hs hno n0 hn hr =>
  refine .inl ⟨rfl, (decide_eq_false fun h => ?_).symm, (fun h => by cases h), fun _ => ⟨rfl, ?_, hs, by rw [hn]; simp⟩⟩
  ·obtain ⟨s, h1, h2⟩ := (models_iff hok ha).1 h
   exact hno s h1 fun x hx => h2 x (hs.subset hx)
  ·refine Nat.eq_zero_of_not_pos fun h => ?_
   obtain ⟨s, h1, h2⟩ := (models_iff hok fun x hx => ha x (hs.subset hx)).1 h
   exact hno s h1 h2
 | many hmany =>
  have := hmany _ (Open.all (n := 7) ⟨asm, G, log0, 7, most, [], fun _ => False⟩ rfl)
  refine .inr ⟨rfl, ?_, rfl, rfl, rfl⟩
  simpa using this
end
section
open Go.RowKit
theorem Mod.then_below {F : Nat → Prop} {a b c : World} (h : Mod F a b) (k : Below b.heap.size b c) : Mod F a c := h.trans (Mod.of_below k)
theorem total_got (s : Int → Bool) (c : Pb) : c.total (tr s) = got s c.lits c.coefs c.lits.length := rfl
theorem Pb.pick_len (c : Pb) (q : Int → Int → Bool) (js : List Nat) : (c.pick q js).length ≤ js.length := by
 unfold Pb.pick
 rw [List.length_map]
 exact List.length_filter_le _ _
theorem nth_range (xs : List Int) : (List.range xs.length).map (nth xs) = xs := by
 apply List.ext_getElem (by simp)
 intro i h1 h2
 simp only [List.getElem_map, List.getElem_range]
 rw [nth_eq h2]
theorem Pb.Ok.got_neg {c : Pb} (h : c.Ok) (s : Int → Bool) : got s (c.lits.map fun l => -l) c.coefs c.lits.length + c.total (tr s) = c.coefs.sum := by
 have e : c.coefs.sum = ((List.range c.lits.length).map (nth c.coefs)).sum := by rw [h.len, nth_range]
 rw [total_got, e]
 unfold got
 rw [← sum_add]
 refine sum_cong _ fun j hj => ?_
 have hj := List.mem_range.1 hj
 rw [nth_map hj, tr_neg s (h.lit j hj).1]
 cases tr s (nth c.lits j) <;> simp
theorem Pb.Ok.sum_le {c : Pb} (h : c.Ok) {K : Int} (hK : c.bound ≤ K) : 0 ≤ c.coefs.sum ∧ c.coefs.sum ≤ c.lits.length * K := by
 rw [h.len]
 refine sums_bounds _ fun x hx => ?_
 obtain ⟨i, hi, e⟩ := List.getElem_of_mem hx
 have := h.coef i (by rw [h.len]; exact hi)
 rw [nth_eq hi, e] at this
 omega
theorem Pb.Ok.neg_in {c : Pb} (h : c.Ok) {K : Int} (hK : c.bound ≤ K) (hK1 : 0 ≤ K) (h8 : c.lits.length ≤ 8) (hK2 : K ≤ 65536) : normOk (c.lits.map fun l => -l) c.coefs (c.coefs.sum - c.bound + 1) = true ∧ (c.negB).2 = 0 := by
 obtain ⟨h1, h2⟩ := h.sum_le hK
 have h3 := h.low
 have h4 : (c.lits.length : Int) * K ≤ 8 * K := Int.mul_le_mul_of_nonneg_right (by omega) hK1
 have hin : normOk (c.lits.map fun l => -l) c.coefs (c.coefs.sum - c.bound + 1) = true := by
  refine normOk_iff.2 ⟨by rw [List.length_map]; exact h.len, by rw [List.length_map]; exact h.few, by omega, by omega, fun i hi => ?_⟩
  have hi : i < c.lits.length := by simpa using hi
  have h5 := h.lit i hi
  have h6 := h.coef i hi
  unfold inB litB
  rw [nth_map hi]
  simp only [Bool.and_eq_true, decide_eq_true_eq]
  exact ⟨⟨by omega, by omega⟩, by omega⟩
 refine ⟨hin, ?_⟩
 unfold Pb.negB
 rw [if_pos ((Pb.ok_iff c).2 h)]
 refine norm_fits hin ?_
 have h7 := normBd_le (ls := c.lits.map fun l => -l) (ks := c.coefs) (b := c.coefs.sum - c.bound + 1) (K := K) fun i hi => by
  have hi : i < c.lits.length := by simpa using hi
  have h5 := h.lit i hi
  have h6 := h.coef i hi
  rw [nth_map hi]
  exact ⟨litB_iff.2 (by omega), by omega, by omega⟩
 rw [List.length_map] at h7
 omega
theorem Pb.Ok.neg_holds {c : Pb} (h : c.Ok) {K : Int} (hK : c.bound ≤ K) (hK1 : 0 ≤ K) (h8 : c.lits.length ≤ 8) (hK2 : K ≤ 65536) (s : Int → Bool) :
  c.negB.1.bound ≤ c.negB.1.total (tr s) ↔ ¬ (c.bound ≤ c.total (tr s)) := by
 obtain ⟨h1, h2⟩ := h.neg_in hK hK1 h8 hK2
 have h3 := h.got_neg s
 unfold Pb.negB at h2 ⊢
 rw [if_pos ((Pb.ok_iff c).2 h)] at h2 ⊢
 rw [norm_holds s h1 h2, List.length_map]
 omega
theorem mem_units {c : Pb} {a : List Int} {l : Int} : l ∈ c.unitsB a ↔ (c.ok = true ∧ 0 ≤ c.slackB a) ∧ ∃ j, j < c.lits.length ∧ (valB a (nth c.lits j) = 0 ∧ c.slackB a < nth c.coefs j) ∧ nth c.lits j = l := by
 unfold Pb.unitsB
 by_cases e : c.ok = true ∧ 0 ≤ c.slackB a
 ·rw [if_pos e, mem_pick]
  simp only [Bool.and_eq_true, decide_eq_true_eq]
  exact ⟨fun h => ⟨e, h⟩, fun h => h.2⟩
 ·rw [if_neg e]
  constructor
  ·intro h; cases h
  ·intro h; exact absurd h.1 e
theorem units_are {c : Pb} (h : c.Ok) (a : List Int) (hs : 0 ≤ c.slackB a) {i : Nat} (hi : i < c.lits.length) :
  nth c.lits i ∈ c.unitsB a ↔ nth a ((nth c.lits i).natAbs - 1) = 0 ∧ ∀ s, ExtS a s → c.bound ≤ c.total (tr s) → tr s (nth c.lits i) = true := by
 have hk : ∀ j, j < c.lits.length → nth c.lits j = nth c.lits i → j = i := fun j hj e => by
  by_cases e2 : j = i
  ·exact e2
  ·have := h.differ e2 hj hi
   unfold Pb.av at this
   rw [e] at this
   exact absurd rfl this
 rw [mem_units]
 constructor
 ·rintro ⟨_, j, hj, ⟨h1, h2⟩, e⟩
  have := hk j hj e
  subst this
  refine ⟨valB_zero.1 h1, fun s hs2 hb => ?_⟩
  cases ht : tr s (nth c.lits j) with
  | true => rfl
  | false =>
   exfalso
   have h3 : c.total (tr s) + nth c.coefs j ≤ c.total fun l => decide (0 ≤ valB a l) := by
    unfold Pb.total Pb.part
    have e4 : nth c.coefs j = ((List.range c.lits.length).map fun q => if q = j then nth c.coefs q else 0).sum := by
     rw [pick_sum (x := j) _ List.nodup_range (List.mem_range.2 hj) fun q _ hne => if_neg hne, if_pos rfl]
    rw [e4, ← sum_add]
    refine Go.Proofs.YtcjmpobccbnpkaaGreat.sum_le _ fun q hq => ?_
    have hq := List.mem_range.1 hq
    have hc := h.coef q hq
    by_cases e5 : q = j
    ·subst e5
     rw [ht, if_neg (by decide), if_pos rfl]
     simp [h1]
    ·rw [if_neg e5]
     cases hq2 : tr s (nth c.lits q) with
     | false => simp; split <;> omega
     | true =>
      have h6 : 0 ≤ valB a (nth c.lits q) := by
       by_cases e6 : nth a ((nth c.lits q).natAbs - 1) = 0
       ·rw [valB_zero.2 e6]; exact Int.le_refl _
       ·rw [val_tr hs2 (h.lit q hq).1 e6, decide_eq_true_eq] at hq2
        omega
      simp [h6]
   unfold Pb.slackB at h2
   rw [if_pos ((Pb.ok_iff c).2 h)] at h2
   omega
 ·rintro ⟨h1, h2⟩
  refine ⟨⟨(Pb.ok_iff c).2 h, hs⟩, i, hi, ⟨valB_zero.2 h1, ?_⟩, rfl⟩
  have h3 := h2 (best c a (nth c.lits i)) (best_ext _ _ _)
  have h4 : c.total (tr (best c a (nth c.lits i))) + nth c.coefs i = c.total fun l => decide (0 ≤ valB a l) := by
   unfold Pb.total Pb.part
   have e4 : nth c.coefs i = ((List.range c.lits.length).map fun q => if q = i then nth c.coefs q else 0).sum := by
    rw [pick_sum (x := i) _ List.nodup_range (List.mem_range.2 hi) fun q _ hne => if_neg hne, if_pos rfl]
   rw [e4, ← sum_add]
   refine sum_cong _ fun q hq => ?_
   have hq := List.mem_range.1 hq
   rw [best_tr h a hq]
   by_cases e5 : q = i
   ·subst e5
    rw [if_pos (show nth c.lits q = nth c.lits q ∧ _ from ⟨rfl, h1⟩), if_neg (by decide), if_pos rfl]
    simp [valB_zero.2 h1]
   ·have h6 := h.differ e5 hq hi
    unfold Pb.av at h6
    have g1 : ¬ (nth c.lits q = nth c.lits i ∧ nth a ((nth c.lits i).natAbs - 1) = 0) := fun h7 => e5 (hk q hq h7.1)
    have g2 : ¬ (nth a ((nth c.lits q).natAbs - 1) = 0 ∧ (nth c.lits q).natAbs = (nth c.lits i).natAbs) := fun h7 => by omega
    rw [if_neg g1, if_neg g2, if_neg e5]
    simp
  rw [best_tr h a hi, if_pos ⟨rfl, h1⟩] at h3
  have h5 : ¬ c.bound ≤ c.total (tr (best c a (nth c.lits i))) := fun h6 => by cases h3 h6
  unfold Pb.slackB
  rw [if_pos ((Pb.ok_iff c).2 h)]
  omega
end
section
set_option maxRecDepth 100000
set_option maxHeartbeats 2000000
open Go.RowKit
theorem rlit_any {w : World} {l : Int} :
  Calls Tryz.prog 60 #[.int .i64 l] w fun r w' => r = .returned (.bool (litB l)) ∧ w = w' := by
 have e : litB l = (l != 0 && decide (-65536 ≤ l) && decide (l ≤ 65536)) := by
  unfold litB
  by_cases h1 : l = 0 <;> by_cases h2 : -65536 ≤ l <;> by_cases h3 : l ≤ 65536 <;> simp [h1, h2, h3]
 rw [e]
 clear e
 by_cases h1 : l = 0
 ·subst h1
  go_enter Tryz.func60, Tryz.ntmps60
  go_wp2_with fail
  go_ret
  exact ⟨by simp, rfl⟩
 ·have q1 : (l != 0) = true := by simpa using h1
  by_cases h2 : -65536 ≤ l
  ·by_cases h3 : l ≤ 65536
   ·have q2 : decide (-65536 ≤ l) = true := by simpa using h2
    have q3 : decide (l ≤ 65536) = true := by simpa using h3
    go_enter Tryz.func60, Tryz.ntmps60
    go_wp2_with fail
    go_ret
    exact ⟨by simp [h1, h2, h3], rfl⟩
   ·have q2 : decide (-65536 ≤ l) = true := by simpa using h2
    have q3 : decide (l ≤ 65536) = false := by simpa using h3
    go_enter Tryz.func60, Tryz.ntmps60
    go_wp2_with fail
    go_ret
    exact ⟨by simp, rfl⟩
  ·have q2 : decide (-65536 ≤ l) = false := by simpa using h2
   go_enter Tryz.func60, Tryz.ntmps60
   go_wp2_with fail
   go_ret
   exact ⟨by simp, rfl⟩
theorem rvar_any {w : World} {l : Int} (h1 : -9223372036854775807 ≤ l) (h2 : l ≤ 9223372036854775807) :
  Calls Tryz.prog 61 #[.int .i64 l] w fun r w' => r = .returned (.int .i64 (l.natAbs : Nat)) ∧ w = w' := by
 have hwn : IntKind.i64.wrap (-l) = -l := iw' (by omega) (by omega)
 by_cases h : l < 0
 ·go_enter Tryz.func61, Tryz.ntmps61
  go_wp2_with fail
  go_ret
  exact ⟨by show Ending.returned (Value.int IntKind.i64 _) = _; congr 2; omega, rfl⟩
 ·go_enter Tryz.func61, Tryz.ntmps61
  go_wp2_with fail
  go_ret
  exact ⟨by show Ending.returned (Value.int IntKind.i64 _) = _; congr 2; omega, rfl⟩
theorem rvalue_any {w : World} {F : Nat → Prop} {A : Option Addr} {n c : Nat} {av : List Int} {l : Int} (ha : Rd w F 1 (.slice A n c) n (i8s av)) (h0 : l ≠ 0) (h1 : -65536 ≤ l) (h2 : l ≤ 65536) :
  Calls Tryz.prog 59 #[.slice A n c, .int .i64 l] w fun r w' => r = .returned (.int .i64 (valB av l)) ∧ w = w' := by
 obtain ⟨hal, hA⟩ := ha.cell8
 obtain ⟨v, hv⟩ : ∃ v, l.natAbs = v := ⟨_, rfl⟩
 obtain ⟨p, hp⟩ : ∃ p : Nat, v = p + 1 := ⟨v - 1, by omega⟩
 have hvv : valB av l = if nth av p = 0 then 0 else if (0 < nth av p ↔ 0 < l) then 1 else -1 := by unfold valB; rw [hv, hp]; rfl
 have hpv : (v : Int) = (p : Int) + 1 := by omega
 have hp5 : p < 65536 := by omega
 have Hv := hid (show ((l.natAbs : Nat) : Int) = (p : Int) + 1 by omega)
 have Hvv := hid hvv
 have Hal := hid hal
 by_cases hlt : p < n
 ·obtain ⟨g, o, rfl, _, hg, hc⟩ := hA p hlt
  obtain ⟨x, hx⟩ : ∃ x, nth av p = x := ⟨_, rfl⟩
  rw [hx] at hc
  have Hx := hid hx
  have q1 : ¬ (n : Int) < (p : Int) + 1 := by omega
  have q2 : (p : Int) < (n : Int) := by omega
  clear hvv hpv hp hv hA hx ha hal
  by_cases x0 : x = 0
  ·subst x0
   have hval : valB av l = 0 := by rw [Hvv.o, Hx.o]; rfl
   rw [hval]
   clear hval
   go_enter Tryz.func59, Tryz.ntmps59
   go_wp2_with fail
   refine (rvar_any (by omega) (by omega)).mono ?_
   rw [Hv.o]
   rintro r w1 ⟨rfl, rfl⟩
   go_wp2_with fail
   go_ret
   exact ⟨rfl, rfl⟩
  ·have r2 : (x == 0) = false := by simpa using x0
   by_cases xp : 0 < x
   ·by_cases lp : 0 < l
    ·have r3 : decide (0 < x) = true := by simpa using xp
     have r4 : decide (0 < l) = true := by simpa using lp
     have hval : valB av l = 1 := by rw [Hvv.o, Hx.o]; simp [x0, xp, lp]
     rw [hval]
     clear hval
     go_enter Tryz.func59, Tryz.ntmps59
     go_wp2_with fail
     refine (rvar_any (by omega) (by omega)).mono ?_
     rw [Hv.o]
     rintro r w1 ⟨rfl, rfl⟩
     go_wp2_with fail
     go_ret
     exact ⟨rfl, rfl⟩
    ·have r3 : decide (0 < x) = true := by simpa using xp
     have r4 : decide (0 < l) = false := by simpa using lp
     have r5 : decide (x < 0) = false := by simp; omega
     have hval : valB av l = -1 := by rw [Hvv.o, Hx.o]; simp [x0, xp, lp]
     rw [hval]
     clear hval
     go_enter Tryz.func59, Tryz.ntmps59
     go_wp2_with fail
     refine (rvar_any (by omega) (by omega)).mono ?_
     rw [Hv.o]
     rintro r w1 ⟨rfl, rfl⟩
     go_wp2_with fail
     go_ret
     exact ⟨rfl, rfl⟩
   ·have r3 : decide (0 < x) = false := by simpa using xp
    have r5 : decide (x < 0) = true := by simp; omega
    by_cases lp : 0 < l
    ·have r6 : decide (l < 0) = false := by simp; omega
     have hval : valB av l = -1 := by rw [Hvv.o, Hx.o]; simp [x0, xp, lp]
     rw [hval]
     clear hval
     go_enter Tryz.func59, Tryz.ntmps59
     go_wp2_with fail
     refine (rvar_any (by omega) (by omega)).mono ?_
     rw [Hv.o]
     rintro r w1 ⟨rfl, rfl⟩
     go_wp2_with fail
     go_ret
     exact ⟨rfl, rfl⟩
    ·have r6 : decide (l < 0) = true := by simp; omega
     have hval : valB av l = 1 := by rw [Hvv.o, Hx.o]; simp [x0, xp, lp]
     rw [hval]
     clear hval
     go_enter Tryz.func59, Tryz.ntmps59
     go_wp2_with fail
     refine (rvar_any (by omega) (by omega)).mono ?_
     rw [Hv.o]
     rintro r w1 ⟨rfl, rfl⟩
     go_wp2_with fail
     go_ret
     exact ⟨rfl, rfl⟩
 ·have hval : valB av l = 0 := by rw [Hvv.o, nth_out (by omega)]; rfl
  rw [hval]
  have q1 : (n : Int) < (p : Int) + 1 := by omega
  clear hvv hpv hp hv hA ha hal hval
  go_enter Tryz.func59, Tryz.ntmps59
  go_wp2_with fail
  refine (rvar_any (by omega) (by omega)).mono ?_
  rw [Hv.o]
  rintro r w1 ⟨rfl, rfl⟩
  go_wp2_with fail
  go_ret
  exact ⟨rfl, rfl⟩
theorem rsum_any {w : World} {F G : Nat → Prop} {v : Value} {c : Pb} {A : Option Addr} {na ca : Nat} {av : List Int} {least : Int} (hc : PbRd w F v c) (hok : c.Ok) (ha : Rd w G 1 (.slice A na ca) na (i8s av)) :
  Calls Tryz.prog 81 #[v, .slice A na ca, .int .i64 least] w fun r w' => r = .returned (.int .i64 (c.total fun l => decide (least ≤ valB av l))) ∧ Below w.heap.size w w' := by
 obtain ⟨⟨L, n, cn, K, m, cm, rfl, hx, hk⟩, hb⟩ := hc
 have hxl : c.lits.length = n := by have := hx.1; simpa [ints_length] using this
 have hkl : c.coefs.length = m := by have := hk.1; simpa [ints_length] using this
 have hnm : n = m := by rw [← hxl, ← hkl]; exact hok.len
 have hn6 : n ≤ 65536 := by rw [← hxl]; exact hok.few
 subst hnm
 obtain ⟨X, hX, bX, kX, sX⟩ := alloc_step w (.cells #[.slice L n cn, .slice K n cm, .int .i64 c.bound] 41)
 obtain ⟨Z, hZ⟩ : ∃ z, w.heap.size = z := ⟨_, rfl⟩
 have Ha := hid (ha.below bX)
 have Hx := hid (hx.below bX)
 have Hk := hid (hk.below bX)
 have Hok := hid hok
 have HB := hid bX
 have Hxl := hid hxl
 have Hkl := hid hkl
 rw [hZ] at kX
 have KX := hid kX
 have HX := hid hX
 have HZ := hid hZ
 clear hx hk ha hok bX hkl hxl kX hX hZ sX
 go_enter Tryz.func81, Tryz.ntmps81
 go_wp2_with fail
 rw [HX.o, HZ.o]
 go_loopw [7, 8] (fun sv iv W => ∃ j : Nat, j ≤ n ∧ iv = .int .i64 j ∧ sv = .int .i64 (c.part (fun l => decide (least ≤ valB av l)) (List.range j)) ∧ W = X) (fun _ iv _ => n - (intOf iv).toNat)
 case atStart => exact ⟨0, by omega, rfl, rfl, rfl⟩
 case round =>
  obtain ⟨j, hj, rfl, rfl, rfl⟩ := hrel
  obtain ⟨e0, e1, e2⟩ := box3 KX.o
  by_cases hlt : j < n
  ·have x1 : (j : Int) < (n : Int) := by omega
   obtain ⟨g, o, rfl, _, hg, hcx⟩ := Hx.o.cell.2 j hlt
   obtain ⟨g', o', rfl, _, hg', hck⟩ := Hk.o.cell.2 j hlt
   have hl := Hok.o.lit j (by rw [Hxl.o]; exact hlt)
   have hco := Hok.o.coef j (by rw [Hxl.o]; exact hlt)
   have hhi := Hok.o.high
   have hpb := Pb.part_bounds Hok.o (fun l => decide (least ≤ valB av l)) (List.range j) (fun i hi => by have := List.mem_range.1 hi; rw [Hxl.o]; omega)
   have hsn := c.part_snoc (fun l => decide (least ≤ valB av l)) (List.range j) j
   rw [← List.range_succ] at hsn
   obtain ⟨li, hli⟩ : ∃ x, nth c.lits j = x := ⟨_, rfl⟩
   obtain ⟨ki, hki⟩ : ∃ x, nth c.coefs j = x := ⟨_, rfl⟩
   rw [hli] at hl hcx hsn
   rw [hki] at hco hck hsn
   obtain ⟨s, hs⟩ : ∃ s, c.part (fun l => decide (least ≤ valB av l)) (List.range j) = s := ⟨_, rfl⟩
   rw [hs] at hpb hsn ⊢
   rw [List.length_range] at hpb
   obtain ⟨vv, hvv⟩ : ∃ x, valB av li = x := ⟨_, rfl⟩
   rw [hvv] at hsn
   have Hvv := hid hvv
   clear hli hki hs hvv
   by_cases hle : least ≤ vv
   ·rw [if_pos (by simpa using hle)] at hsn
    have Hsn := hid hsn
    clear hsn
    go_wp2_with fail
    refine (rvalue_any Ha.o hl.1 (by omega) (by omega)).mono ?_
    rw [Hvv.o]
    rintro r w1 ⟨rfl, rfl⟩
    go_wp2_with fail
    go_roundw
    case rel => exact ⟨j + 1, by omega, by go_num, by rw [Hsn.o], trivial⟩
    case measure => simp [intOf]; omega
   ·rw [if_neg (by simpa using hle)] at hsn
    have Hsn := hid hsn
    clear hsn
    go_wp2_with fail
    refine (rvalue_any Ha.o hl.1 (by omega) (by omega)).mono ?_
    rw [Hvv.o]
    rintro r w1 ⟨rfl, rfl⟩
    go_wp2_with fail
    go_roundw
    case rel => exact ⟨j + 1, by omega, by go_num, by rw [Hsn.o, Int.add_zero], trivial⟩
    case measure => simp [intOf]; omega
  ·have hjn : j = n := by omega
   go_wp2_with fail
   go_ret
   exact ⟨by show Ending.returned (Value.int IntKind.i64 _) = _; unfold Pb.total; rw [Hxl.o, hjn], HB.o⟩
end
section
open Go.RowKit
def Pb.badR (c : Pb) (j : Nat) : Bool := !(litB (nth c.lits j)) || decide (nth c.coefs j < 1) || decide (c.bound < nth c.coefs j) || (decide (0 < j) && decide ((nth c.lits j).natAbs ≤ (nth c.lits (j - 1)).natAbs))
theorem badR_is {c : Pb} {j : Nat} : c.badR j = !(c.good j) := by
 unfold Pb.badR Pb.good Pb.last
 by_cases h1 : litB (nth c.lits j) = true
 ·have hl := litB_iff.1 h1
  rw [h1]
  by_cases h2 : 1 ≤ nth c.coefs j
  ·by_cases h3 : nth c.coefs j ≤ c.bound
   ·by_cases h4 : j = 0
    ·subst h4
     rw [decide_eq_false (show ¬ nth c.coefs 0 < 1 by omega), decide_eq_false (show ¬ c.bound < nth c.coefs 0 by omega), if_pos rfl, decide_eq_true h2, decide_eq_true h3, decide_eq_true (show (0 : Int) < ((nth c.lits 0).natAbs : Nat) by omega)]
     rfl
    ·rw [if_neg h4, decide_eq_false (show ¬ nth c.coefs j < 1 by omega), decide_eq_false (show ¬ c.bound < nth c.coefs j by omega), decide_eq_true h2, decide_eq_true h3, decide_eq_true (show 0 < j by omega)]
     by_cases h5 : (nth c.lits j).natAbs ≤ (nth c.lits (j - 1)).natAbs
     ·rw [decide_eq_true h5, decide_eq_false (by omega)]; rfl
     ·rw [decide_eq_false h5, decide_eq_true (by omega)]; rfl
   ·rw [decide_eq_true (show c.bound < nth c.coefs j by omega), decide_eq_false h3]; simp
  ·rw [decide_eq_true (show nth c.coefs j < 1 by omega), decide_eq_false h2]; simp
 ·have h1 : litB (nth c.lits j) = false := by simpa using h1
  rw [h1]; simp
theorem retB {a b : Bool} (h : a = b) : Ending.returned (.bool b) = Ending.returned (.bool a) := by rw [h]
theorem Bl.drewN {B : Nat} {w W : World} (h : Below B w W) (z : Nat) : Below B w (W.drewN z) := ⟨h.os, h.tape, h.output, h.size, h.block⟩
theorem rlit_q {w : World} {l : Int} {q : Bool} (h : litB l = q) (z : Nat) : Calls Tryz.prog 60 #[.int .i64 l] (w.drewN z) fun r w' => r = .returned (.bool q) ∧ ∃ m, w' = w.drewN m :=
 Calls.quiet_of_same (h ▸ rlit_any.mono fun _ _ h => ⟨h.1, h.2.symm⟩)
theorem rvar_q {w : World} {l : Int} {v : Nat} (h1 : -65536 ≤ l) (h2 : l ≤ 65536) (h : l.natAbs = v) (z : Nat) : Calls Tryz.prog 61 #[.int .i64 l] (w.drewN z) fun r w' => r = .returned (.int .i64 v) ∧ ∃ m, w' = w.drewN m :=
 Calls.quiet_of_same (h ▸ (rvar_any (by omega) (by omega)).mono fun _ _ h => ⟨h.1, h.2.symm⟩)
set_option maxRecDepth 100000 in
set_option maxHeartbeats 4000000 in
theorem rvalid_any {w : World} {F : Nat → Prop} {v : Value} {c : Pb} (hc : PbRd w F v c) (hi : ∀ k ∈ c.coefs, I64 k) (h40 : c.lits.length ≤ 65536) :
  Calls Tryz.prog 28 #[v] w fun r w' => r = .returned (.bool c.ok) ∧ Below w.heap.size w w' := by
 obtain ⟨⟨L, n, cn, K, m, cm, rfl, hx, hk⟩, hb⟩ := hc
 have hxl : c.lits.length = n := by have := hx.1; simpa [ints_length] using this
 have hkl : c.coefs.length = m := by have := hk.1; simpa [ints_length] using this
 obtain ⟨X, hX, bX, kX, sX⟩ := alloc_step w (.cells #[.slice L n cn, .slice K m cm, .int .i64 c.bound] 41)
 obtain ⟨Z, hZ⟩ : ∃ z, w.heap.size = z := ⟨_, rfl⟩
 have Hx := hid (hx.below bX)
 have Hk := hid (hk.below bX)
 have HB := hid bX
 have Hxl := hid hxl
 have Hkl := hid hkl
 have Hi := hid hi
 rw [hZ] at kX
 have KX := hid kX
 have HX := hid hX
 have HZ := hid hZ
 unfold I64 at hb
 have hn6 : n ≤ 65536 := by omega
 clear hx hk bX hkl hxl kX hX hZ sX hi h40
 by_cases hnm : n = m
 ·subst hnm
  by_cases hb0 : 0 ≤ c.bound
  ·by_cases hb1 : c.bound ≤ 16777216
   ·obtain ⟨e0, e1, e2⟩ := box3 KX.o
    have hok := (show c.ok = ((List.range n).all c.good && (decide (c.bound ≤ c.sum n) || (decide (n = 0) && decide (c.bound = 1)))) by
     unfold Pb.ok
     rw [Hxl.o, Hkl.o, decide_eq_true hb0, decide_eq_true hb1]
     simp)
    have hq1 : decide (c.bound < 0) = false := by simpa using hb0
    have hq2 : decide (16777216 < c.bound) = false := by simpa using hb1
    have Hok := hid hok
    clear hok
    go_enter Tryz.func28, Tryz.ntmps28
    go_wp2_with fail
    rw [HX.o, HZ.o]
    go_wp2_with fail
    go_loopw [3, 4] (fun sv iv W => ∃ j : Nat, j ≤ n ∧ iv = .int .i64 j ∧ sv = .int .i64 (c.sum j) ∧ Hid ((List.range j).all c.good = true) ∧ Hid (0 ≤ c.sum j ∧ c.sum j ≤ j * 16777216) ∧ Hid (Below X.heap.size X W)) (fun _ iv _ => n - (intOf iv).toNat)
    case atStart => exact ⟨0, by omega, rfl, rfl, hid rfl, hid (by unfold Pb.sum; simp), hid (Below.refl _ _)⟩
    case round =>
     obtain ⟨j, hj, rfl, rfl, Hg, Hs, hB⟩ := hrel
     clear e0 e1 e2
     have k2 := keep_blk KX.o hB.o
     obtain ⟨e0, e1, e2⟩ := box3 k2
     have K2 := hid k2
     clear k2
     by_cases hlt : j < n
     ·have x1 : (j : Int) < (n : Int) := by omega
      obtain ⟨g, o, rfl, _, hg, hcx⟩ := (Hx.o.below hB.o).cell.2 j hlt
      obtain ⟨g', o', rfl, _, hg', hck⟩ := (Hk.o.below hB.o).cell.2 j hlt
      obtain ⟨lj, hlj⟩ : ∃ x, nth c.lits j = x := ⟨_, rfl⟩
      obtain ⟨kj, hkj⟩ : ∃ x, nth c.coefs j = x := ⟨_, rfl⟩
      have hki := Hi.o _ (nth_mem (show j < c.coefs.length by rw [Hkl.o]; exact hlt))
      have hall : (List.range (j + 1)).all c.good = c.good j := by rw [List.range_succ, List.all_append, Hg.o]; simp
      have hbadr := badR_is (c := c) (j := j)
      have hsum : c.sum (j + 1) = c.sum j + kj := by unfold Pb.sum; rw [take_nth (by rw [Hkl.o]; exact hlt), List.sum_append, hkj]; simp
      have hno : c.good j = false → c.ok = false := fun e => by
       rw [Hok.o, show (List.range n).all c.good = false from List.all_eq_false.2 ⟨j, List.mem_range.2 hlt, by rw [e]; simp⟩]
       rfl
      unfold Pb.badR at hbadr
      rw [hkj] at hki hck hbadr
      rw [hlj] at hcx hbadr
      unfold I64 at hki
      have Hall := hid hall
      have Hno := hid hno
      have Hbr := hid hbadr
      obtain ⟨sj, hsj⟩ : ∃ x, c.sum j = x := ⟨_, rfl⟩
      have hs2 := Hs.o
      rw [hsj] at hsum hs2 ⊢
      have Hsum := hid hsum
      have Hlj := hid hlj
      have Hs2 := hid hs2
      obtain ⟨bd, hbd⟩ : ∃ x, c.bound = x := ⟨_, rfl⟩
      rw [hbd] at e2 hb0 hb1 Hbr
      have HB2 := hid hB.o
      clear hall hno hbadr hsj hsum hlj hkj hbd Hs hB
      obtain ⟨ql, hql⟩ : ∃ q, litB lj = q := ⟨_, rfl⟩
      have hlq := fun z => rlit_q (w := wr) hql z
      have Hlq := hid hlq
      have Hql := hid hql
      clear hlq hql
      cases ql
      ·have hg : c.good j = false := by have := Hbr.o; rw [Hql.o] at this; simpa using this.symm
       have Hf := hid (Hno.o hg)
       clear hg
       go_wp2_with fail
       go_quiet (first | (go_at_call 60; exact Hlq.o _))
       go_wp2_with fail
       go_ret
       exact ⟨retB Hf.o, HB.o.trans (Bl.drewN (HB2.o.mono HB.o.size) _)⟩
      ·have hl6 := litB_iff.1 Hql.o
       by_cases hk1 : kj < 1
       ·have d1 : decide (kj < 1) = true := by simpa using hk1
        have hg : c.good j = false := by have := Hbr.o; rw [Hql.o, d1] at this; simpa using this.symm
        have Hf := hid (Hno.o hg)
        clear hg
        go_wp2_with fail
        go_quiet (first | (go_at_call 60; exact Hlq.o _))
        go_wp2_with fail
        go_ret
        exact ⟨retB Hf.o, HB.o.trans (Bl.drewN (HB2.o.mono HB.o.size) _)⟩
       ·have d1 : decide (kj < 1) = false := by simpa using hk1
        by_cases hk2 : bd < kj
        ·have d2 : decide (bd < kj) = true := by simpa using hk2
         have hg : c.good j = false := by have := Hbr.o; rw [Hql.o, d1, d2] at this; simpa using this.symm
         have Hf := hid (Hno.o hg)
         clear hg
         go_wp2_with fail
         go_quiet (first | (go_at_call 60; exact Hlq.o _))
         go_wp2_with fail
         go_ret
         exact ⟨retB Hf.o, HB.o.trans (Bl.drewN (HB2.o.mono HB.o.size) _)⟩
        ·have d2 : decide (bd < kj) = false := by simpa using hk2
         by_cases hj0 : j = 0
         ·have d3 : decide (0 < j) = false := by simp; omega
          have d4 : decide ((0 : Int) < (j : Int)) = false := by simp; omega
          have hg : c.good j = true := by have := Hbr.o; rw [Hql.o, d1, d2, d3] at this; simpa using this.symm
          have Hg2 := hid (Hall.o.trans hg)
          clear hg hj0
          go_wp2_with fail
          go_quiet (first | (go_at_call 60; exact Hlq.o _))
          go_wp2_with fail
          go_roundw
          case rel => exact ⟨j + 1, by omega, by go_num, by rw [Hsum.o], Hg2, hid (by rw [Hsum.o]; have := Hs2.o; omega), hid (Bl.drewN HB2.o _)⟩
          case measure => simp [intOf]; omega
         ·have d3 : decide (0 < j) = true := by simp; omega
          have d4 : decide ((0 : Int) < (j : Int)) = true := by simp; omega
          have e4 := ((Hx.o.below HB2.o).cell.2 (j - 1) (by omega))
          obtain ⟨g4, o4, e5, _, hg4, hcp⟩ := e4
          injection e5 with e5
          injection e5 with e5 e6
          subst e5 e6
          have hlp := litB_iff.1 (show litB (nth c.lits (j - 1)) = true by
           have := List.all_eq_true.1 Hg.o (j - 1) (List.mem_range.2 (by omega))
           unfold Pb.good at this
           simp only [Bool.and_eq_true] at this
           exact this.1.1.1)
          obtain ⟨lp, hlpe⟩ : ∃ x, nth c.lits (j - 1) = x := ⟨_, rfl⟩
          rw [hlpe] at hcp hlp Hbr
          obtain ⟨vp, hvp⟩ : ∃ v, lp.natAbs = v := ⟨_, rfl⟩
          obtain ⟨vj, hvj⟩ : ∃ v, lj.natAbs = v := ⟨_, rfl⟩
          rw [hvp, hvj, d3] at Hbr
          have hq1 := fun z => rvar_q (w := wr) hlp.2.1 hlp.2.2 hvp z
          have hq2 := fun z => rvar_q (w := wr) hl6.2.1 hl6.2.2 hvj z
          have Hq1 := hid hq1
          have Hq2 := hid hq2
          clear hq1 hq2 hvp hvj hlpe hlp hl6
          by_cases hvv : vj ≤ vp
          ·have d5 : decide (vj ≤ vp) = true := by simpa using hvv
           have d6 : decide ((vj : Int) ≤ (vp : Int)) = true := by simp; omega
           have hg : c.good j = false := by have := Hbr.o; rw [Hql.o, d1, d2, d5] at this; simpa using this.symm
           have Hf := hid (Hno.o hg)
           clear hg
           go_wp2_with fail
           go_quiet (first | (go_at_call 60; exact Hlq.o _) | (go_at_call 61; exact Hq1.o _) | (go_at_call 61; exact Hq2.o _))
           go_wp2_with fail
           go_ret
           exact ⟨retB Hf.o, HB.o.trans (Bl.drewN (HB2.o.mono HB.o.size) _)⟩
          ·have d5 : decide (vj ≤ vp) = false := by simpa using hvv
           have d6 : decide ((vj : Int) ≤ (vp : Int)) = false := by simp; omega
           have hg : c.good j = true := by have := Hbr.o; rw [Hql.o, d1, d2, d5] at this; simpa using this.symm
           have Hg2 := hid (Hall.o.trans hg)
           clear hg
           go_wp2_with fail
           go_quiet (first | (go_at_call 60; exact Hlq.o _) | (go_at_call 61; exact Hq1.o _) | (go_at_call 61; exact Hq2.o _))
           go_wp2_with fail
           go_roundw
           case rel => exact ⟨j + 1, by omega, by go_num, by rw [Hsum.o], Hg2, hid (by rw [Hsum.o]; have := Hs2.o; omega), hid (Bl.drewN HB2.o _)⟩
           case measure => simp [intOf]; omega
     ·have hjn : j = n := by omega
      have hfin : c.ok = (decide (c.bound ≤ c.sum j) || (decide (j = 0) && decide (c.bound = 1))) := by rw [Hok.o, ← hjn, Hg.o]; simp
      have Hfin := hid hfin
      obtain ⟨sj, hsj⟩ : ∃ x, c.sum j = x := ⟨_, rfl⟩
      rw [hsj] at Hfin ⊢
      obtain ⟨bd, hbd⟩ : ∃ x, c.bound = x := ⟨_, rfl⟩
      rw [hbd] at e2 Hfin
      have HB2 := hid hB.o
      clear hfin hsj hbd Hs hB
      by_cases h1 : bd ≤ sj
      ·have d1 : decide (bd ≤ sj) = true := by simpa using h1
       have Hf := hid (show c.ok = true by rw [Hfin.o, d1]; rfl)
       go_wp2_with fail
       go_ret
       exact ⟨retB Hf.o, HB.o.trans (HB2.o.mono HB.o.size)⟩
      ·have d1 : decide (bd ≤ sj) = false := by simpa using h1
       by_cases h2 : n = 0
       ·have d2 : decide (n = 0) = true := by simpa using h2
        have d3 : ((n : Int) == 0) = true := by simp; omega
        by_cases h3 : bd = 1
        ·have d4 : (bd == 1) = true := by simpa using h3
         have Hf := hid (show c.ok = true by rw [Hfin.o, hjn, d2, decide_eq_true h3]; simp)
         clear h3 hjn h2
         go_wp2_with fail
         go_ret
         exact ⟨retB Hf.o, HB.o.trans (HB2.o.mono HB.o.size)⟩
        ·have d4 : (bd == 1) = false := by simpa using h3
         have Hf := hid (show c.ok = false by rw [Hfin.o, d1, decide_eq_false h3]; simp)
         clear hjn h2
         go_wp2_with fail
         go_ret
         exact ⟨retB Hf.o, HB.o.trans (HB2.o.mono HB.o.size)⟩
       ·have d3 : ((n : Int) == 0) = false := by simp; omega
        have Hf := hid (show c.ok = false by rw [Hfin.o, d1, decide_eq_false (show ¬ j = 0 by omega)]; simp)
        clear hjn
        go_wp2_with fail
        go_ret
        exact ⟨retB Hf.o, HB.o.trans (HB2.o.mono HB.o.size)⟩
   ·have hok : c.ok = false := by unfold Pb.ok; rw [decide_eq_false hb1]; simp
    have Hf := hid hok
    have hq1 : decide (c.bound < 0) = false := by simpa using hb0
    have hq2 : decide (16777216 < c.bound) = true := by simp; omega
    clear hok
    go_enter Tryz.func28, Tryz.ntmps28
    go_wp2_with fail
    go_ret
    exact ⟨retB Hf.o, by rw [HX.o]; exact HB.o⟩
  ·have hok : c.ok = false := by unfold Pb.ok; rw [decide_eq_false hb0]; simp
   have Hf := hid hok
   have hq1 : decide (c.bound < 0) = true := by simp; omega
   clear hok
   go_enter Tryz.func28, Tryz.ntmps28
   go_wp2_with fail
   go_ret
   exact ⟨retB Hf.o, by rw [HX.o]; exact HB.o⟩
 ·have hok : c.ok = false := by unfold Pb.ok; rw [Hxl.o, Hkl.o, decide_eq_false hnm]; simp
  have Hf := hid hok
  have hq0 : ((n : Int) != (m : Int)) = true := by simp; omega
  have hq1 : (n != m) = true := by simpa using hnm
  clear hok
  go_enter Tryz.func28, Tryz.ntmps28
  go_wp2_with fail
  go_ret
  exact ⟨retB Hf.o, by rw [HX.o]; exact HB.o⟩
end
section
set_option maxRecDepth 100000
set_option maxHeartbeats 2000000
open Go.RowKit
theorem rslack_any {w : World} {F G : Nat → Prop} {v : Value} {c : Pb} {A : Option Addr} {na ca : Nat} {av : List Int} (hc : PbRd w F v c) (hi : ∀ k ∈ c.coefs, I64 k) (h40 : c.lits.length ≤ 65536) (ha : Rd w G 1 (.slice A na ca) na (i8s av)) :
  Calls Tryz.prog 82 #[v, .slice A na ca] w fun r w' => r = .returned (.int .i64 (c.slackB av)) ∧ Below w.heap.size w w' := by
 have Hc := hid hc
 obtain ⟨⟨L, n, cn, K, m, cm, rfl, hx, hk⟩, hb⟩ := hc
 obtain ⟨X, hX, bX, kX, sX⟩ := alloc_step w (.cells #[.slice L n cn, .slice K m cm, .int .i64 c.bound] 41)
 obtain ⟨Z, hZ⟩ : ∃ z, w.heap.size = z := ⟨_, rfl⟩
 have Hc2 := hid (Hc.o.below bX)
 have Ha2 := hid (ha.below bX)
 have HB := hid bX
 rw [hZ] at kX
 have KX := hid kX
 have HX := hid hX
 have HZ := hid hZ
 have Hi := hid hi
 unfold I64 at hb
 clear hx hk ha bX kX hX hZ sX hi Hc
 obtain ⟨e0, e1, e2⟩ := box3 KX.o
 go_enter Tryz.func82, Tryz.ntmps82
 go_wp2_with fail
 rw [HX.o, HZ.o]
 refine (rvalid_any Hc2.o Hi.o h40).mono ?_
 rintro r w1 ⟨rfl, b1⟩
 have k1 := hid (keep_blk KX.o b1)
 have Hc3 := hid (Hc2.o.below b1)
 have Ha3 := hid (Ha2.o.below b1)
 have HB1 := hid (HB.o.trans (b1.mono HB.o.size))
 clear b1 e0 e1 e2
 obtain ⟨e0, e1, e2⟩ := box3 k1.o
 by_cases hok : c.ok = true
 ·have Hok := hid ((Pb.ok_iff _).1 hok)
  have Hsl := hid (show c.slackB av = c.total (fun l => decide (0 ≤ valB av l)) - c.bound by unfold Pb.slackB; rw [if_pos hok])
  have hpb := Pb.part_bounds Hok.o (fun l => decide (0 ≤ valB av l)) (List.range c.lits.length) (fun i hi => List.mem_range.1 hi)
  rw [List.length_range] at hpb
  obtain ⟨s, hs⟩ : ∃ s, c.total (fun l => decide (0 ≤ valB av l)) = s := ⟨_, rfl⟩
  rw [show c.part (fun l => decide (0 ≤ valB av l)) (List.range c.lits.length) = s from hs] at hpb
  have Hs := hid hs
  have hfw := Hok.o.few
  have hlo := Hok.o.low
  have hwr : IntKind.i64.wrap (s - c.bound) = s - c.bound := iw' (by omega) (by omega)
  rw [hok]
  clear hs hok hpb
  obtain ⟨bd, hbd⟩ : ∃ x, c.bound = x := ⟨_, rfl⟩
  have Hbd := hid hbd
  rw [hbd] at hwr e2
  clear hbd hb
  go_wp2_with fail
  have Hc4 := hid (show PbRd w1 F (.agg #[.slice L n cn, .slice K m cm, .int .i64 bd]) c by have h := Hc3.o; rw [Hbd.o] at h; exact h)
  have HBd := Bl.drew (Below.refl w1.heap.size w1)
  refine wp_region_held_drew (S := fun w' => (w'.cell? ⟨Z, 0, none⟩ = some (.slice L n cn) ∧ w'.cell? ⟨Z, 1, none⟩ = some (.slice K m cm) ∧ w'.cell? ⟨Z, 2, none⟩ = some (.int .i64 bd)) ∧ Hid (Below w1.heap.size w1 w')) (by kernel_rfl) ⟨⟨keep_cell e0 HBd, keep_cell e1 HBd, keep_cell e2 HBd⟩, hid HBd⟩ (fun hHeld => ?_)
  refine tk 0 ?_
  refine tk 1 ?_
  refine tk 3 ?_
  refine tk 4 ?_
  refine rd1 2 fun K hK => ?_
  go_simp
  refine (rsum_any (Hc4.o.below hHeld.2.o) Hok.o (Ha3.o.below hHeld.2.o)).mono ?_
  rintro r w7 ⟨rfl, b7⟩
  rw [Hs.o]
  go_simp
  refine hK.out _ _ ⟨⟨keep_cell hHeld.1.1 b7, keep_cell hHeld.1.2.1 b7, keep_cell hHeld.1.2.2 b7⟩, hid (hHeld.2.o.trans (b7.mono hHeld.2.o.size))⟩ (fun hHeld => ?_)
  clear hK K
  refine tk 5 ?_
  refine tk 6 ?_
  refine wpAnyH_done (by kernel_rfl) ?_ _
  have HB9 := hHeld.2
  clear hHeld
  go_wp2_with fail
  go_ret
  exact ⟨by show Ending.returned (Value.int IntKind.i64 _) = _; rw [Hsl.o, Hs.o, Hbd.o], HB1.o.trans (HB9.o.mono HB1.o.size)⟩
 ·have Hsl := hid (show c.slackB av = 0 by unfold Pb.slackB; rw [if_neg hok])
  have hok : c.ok = false := by simpa using hok
  rw [hok]
  clear hok
  go_wp2_with fail
  go_ret
  exact ⟨by show Ending.returned (Value.int IntKind.i64 _) = _; rw [Hsl.o], HB1.o⟩
theorem rholds_any {w : World} {F G : Nat → Prop} {v : Value} {c : Pb} {A : Option Addr} {na ca : Nat} {av : List Int} (hc : PbRd w F v c) (hi : ∀ k ∈ c.coefs, I64 k) (h40 : c.lits.length ≤ 65536) (ha : Rd w G 1 (.slice A na ca) na (i8s av)) :
  Calls Tryz.prog 58 #[v, .slice A na ca] w fun r w' => r = .returned (.bool (c.holdsB av)) ∧ Below w.heap.size w w' := by
 have Hc := hid hc
 obtain ⟨⟨L, n, cn, K, m, cm, rfl, hx, hk⟩, hb⟩ := hc
 obtain ⟨X, hX, bX, kX, sX⟩ := alloc_step w (.cells #[.slice L n cn, .slice K m cm, .int .i64 c.bound] 41)
 obtain ⟨Z, hZ⟩ : ∃ z, w.heap.size = z := ⟨_, rfl⟩
 have Hc2 := hid (Hc.o.below bX)
 have Ha2 := hid (ha.below bX)
 have HB := hid bX
 rw [hZ] at kX
 have KX := hid kX
 have HX := hid hX
 have HZ := hid hZ
 have Hi := hid hi
 clear hx hk ha bX kX hX hZ sX hi Hc hb
 obtain ⟨e0, e1, e2⟩ := box3 KX.o
 have Hrw : Hid (c.holdsB av = (c.ok && decide (c.bound ≤ c.total fun l => decide (1 ≤ valB av l)))) := by
  have e : (c.total fun l => decide (1 ≤ valB av l)) = c.total fun l => decide (0 < valB av l) := Pb.total_cong fun j _ => decide_eq_decide.2 (by omega)
  rw [e]
  exact rfl
 have HBX := Bl.drew (Below.refl X.heap.size X)
 cases hok : c.ok
 ·have Hok0 := hid hok
  rw [hok] at Hrw
  have Hf := hid (show c.holdsB av = false by rw [Hrw.o]; rfl)
  clear hok Hrw
  go_enter Tryz.func58, Tryz.ntmps58
  go_wp2_with fail
  rw [HX.o, HZ.o]
  obtain ⟨bd, hbd⟩ : ∃ x, c.bound = x := ⟨_, rfl⟩
  have Hbd := hid hbd
  rw [hbd] at e2
  clear hbd
  have Hc4 := hid (show PbRd X F (.agg #[.slice L n cn, .slice K m cm, .int .i64 bd]) c by have h := Hc2.o; rw [Hbd.o] at h; exact h)
  have HBd := HBX
  refine wp_region_held_drew (S := fun w' => (w'.cell? ⟨Z, 0, none⟩ = some (.slice L n cn) ∧ w'.cell? ⟨Z, 1, none⟩ = some (.slice K m cm) ∧ w'.cell? ⟨Z, 2, none⟩ = some (.int .i64 bd)) ∧ Hid (Below X.heap.size X w')) (by kernel_rfl) ⟨⟨keep_cell e0 HBd, keep_cell e1 HBd, keep_cell e2 HBd⟩, hid HBd⟩ (fun hHeld => ?_)
  refine tk 0 ?_
  refine rd1 1 fun K hK => ?_
  go_simp
  refine (rvalid_any (Hc4.o.below hHeld.2.o) Hi.o h40).mono ?_
  rintro r w7 ⟨rfl, b7⟩
  rw [Hok0.o]
  go_simp
  refine hK.out _ _ ⟨⟨keep_cell hHeld.1.1 b7, keep_cell hHeld.1.2.1 b7, keep_cell hHeld.1.2.2 b7⟩, hid (hHeld.2.o.trans (b7.mono hHeld.2.o.size))⟩ (fun hHeld => ?_)
  clear hK K
  refine tk 2 ?_
  refine tn 3 ?_
  refine tn 4 ?_
  refine tn 5 ?_
  refine tn 6 ?_
  refine tn 7 ?_
  refine tn 8 ?_
  refine tk 9 ?_
  refine tk 10 ?_
  refine wpAnyH_done (by kernel_rfl) ?_ _
  have HB9 := hHeld.2
  clear hHeld
  go_wp2_with fail
  go_ret
  exact ⟨retB Hf.o, HB.o.trans (HB9.o.mono HB.o.size)⟩
 ·have Hok0 := hid hok
  have Hok := hid ((Pb.ok_iff _).1 hok)
  rw [hok] at Hrw
  obtain ⟨s, hs⟩ : ∃ s, c.total (fun l => decide (1 ≤ valB av l)) = s := ⟨_, rfl⟩
  rw [hs] at Hrw
  have Hs := hid hs
  clear hok hs
  go_enter Tryz.func58, Tryz.ntmps58
  go_wp2_with fail
  rw [HX.o, HZ.o]
  obtain ⟨bd, hbd⟩ : ∃ x, c.bound = x := ⟨_, rfl⟩
  have Hbd := hid hbd
  rw [hbd] at e2 Hrw
  have Hf := hid (show c.holdsB av = decide (bd ≤ s) by rw [Hrw.o]; simp)
  obtain ⟨q, hq⟩ : ∃ q, decide (bd ≤ s) = q := ⟨_, rfl⟩
  rw [hq] at Hf
  clear hbd Hrw
  have Hc4 := hid (show PbRd X F (.agg #[.slice L n cn, .slice K m cm, .int .i64 bd]) c by have h := Hc2.o; rw [Hbd.o] at h; exact h)
  have HBd := HBX
  refine wp_region_held_drew (S := fun w' => (w'.cell? ⟨Z, 0, none⟩ = some (.slice L n cn) ∧ w'.cell? ⟨Z, 1, none⟩ = some (.slice K m cm) ∧ w'.cell? ⟨Z, 2, none⟩ = some (.int .i64 bd)) ∧ Hid (Below X.heap.size X w')) (by kernel_rfl) ⟨⟨keep_cell e0 HBd, keep_cell e1 HBd, keep_cell e2 HBd⟩, hid HBd⟩ (fun hHeld => ?_)
  refine tk 0 ?_
  refine rd1 1 fun K hK => ?_
  go_simp
  refine (rvalid_any (Hc4.o.below hHeld.2.o) Hi.o h40).mono ?_
  rintro r w7 ⟨rfl, b7⟩
  rw [Hok0.o]
  go_simp
  refine hK.out _ _ ⟨⟨keep_cell hHeld.1.1 b7, keep_cell hHeld.1.2.1 b7, keep_cell hHeld.1.2.2 b7⟩, hid (hHeld.2.o.trans (b7.mono hHeld.2.o.size))⟩ (fun hHeld => ?_)
  clear hK K
  refine tk 2 ?_
  refine tk 3 ?_
  refine tk 4 ?_
  refine tk 6 ?_
  refine tk 7 ?_
  refine rd1 5 fun K hK => ?_
  go_simp
  refine (rsum_any (Hc4.o.below hHeld.2.o) Hok.o (Ha2.o.below hHeld.2.o)).mono ?_
  rintro r w8 ⟨rfl, b8⟩
  rw [Hs.o]
  go_simp
  refine hK.out _ _ ⟨⟨keep_cell hHeld.1.1 b8, keep_cell hHeld.1.2.1 b8, keep_cell hHeld.1.2.2 b8⟩, hid (hHeld.2.o.trans (b8.mono hHeld.2.o.size))⟩ (fun hHeld => ?_)
  clear hK K
  refine tk 8 ?_
  refine tk 9 ?_
  refine tk 10 ?_
  refine wpAnyH_done (by kernel_rfl) ?_ _
  have HB9 := hHeld.2
  clear hHeld
  go_wp2_with fail
  go_ret
  exact ⟨retB Hf.o, HB.o.trans (HB9.o.mono HB.o.size)⟩
end
section
open Go.RowKit
def insStep (v : Int) (s : List Int × Bool) (x : Int) : List Int × Bool :=
 ((s.1 ++ if (decide (v ≤ x) && !s.2) = true then [v] else []) ++ (if (x != v) = true then [x] else []), s.2 || (decide (v ≤ x) && !s.2))
def insFold (v : Int) (xs : List Int) : List Int × Bool := xs.foldl (insStep v) ([], false)
def insR (v : Int) (xs : List Int) : List Int := if (insFold v xs).2 = true then (insFold v xs).1 else (insFold v xs).1 ++ [v]
theorem insFold_snoc (v : Int) (xs : List Int) (x : Int) : insFold v (xs ++ [x]) = insStep v (insFold v xs) x := by simp [insFold, List.foldl_append]
theorem insFold_len (v : Int) (xs : List Int) : (insFold v xs).1.length ≤ 2 * xs.length := by
 have h : ∀ n (xs : List Int), xs.length = n → (insFold v xs).1.length ≤ 2 * xs.length := by
  intro n
  induction n with
  | zero => intro xs h; rw [List.length_eq_zero_iff.1 h]; simp [insFold]
  | succ n ih =>
   intro xs h
   obtain ⟨ys, y, rfl⟩ : ∃ ys y, xs = ys ++ [y] := ⟨xs.dropLast, xs.getLast (by intro e; subst e; cases h), (List.dropLast_concat_getLast _).symm⟩
   have h1 := ih ys (by simp at h; omega)
   rw [insFold_snoc]
   unfold insStep
   simp only [List.length_append, List.length_singleton]
   split <;> split <;> simp <;> omega
 exact h _ xs rfl
theorem insFold_is (v : Int) (xs : List Int) : xs.Pairwise (fun x y => x < y) → insFold v xs = (xs.filter (fun x => decide (x < v)) ++ if xs.any (fun x => decide (v ≤ x)) = true then v :: xs.filter (fun x => decide (v < x)) else [], xs.any fun x => decide (v ≤ x)) := by
 have h : ∀ n (xs : List Int), xs.length = n → xs.Pairwise (fun x y => x < y) → insFold v xs = (xs.filter (fun x => decide (x < v)) ++ if xs.any (fun x => decide (v ≤ x)) = true then v :: xs.filter (fun x => decide (v < x)) else [], xs.any fun x => decide (v ≤ x)) := by
  intro n
  induction n with
  | zero => intro xs h _; rw [List.length_eq_zero_iff.1 h]; simp [insFold]
  | succ n ih =>
   intro xs h hp
   obtain ⟨ys, y, rfl⟩ : ∃ ys y, xs = ys ++ [y] := ⟨xs.dropLast, xs.getLast (by intro e; subst e; cases h), (List.dropLast_concat_getLast _).symm⟩
   obtain ⟨hp1, _, hp2⟩ := List.pairwise_append.1 hp
   have hlt : ∀ x ∈ ys, x < y := fun x hx => hp2 x hx y (by simp)
   rw [insFold_snoc, ih ys (by simp at h; omega) hp1]
   unfold insStep
   rw [List.any_append, List.filter_append, List.filter_append]
   by_cases hv : v ≤ y
   ·by_cases ha : ys.any (fun x => decide (v ≤ x)) = true
    ·obtain ⟨x, hx, hvx⟩ := List.any_eq_true.1 ha
     have h1 := hlt x hx
     have h2 : v ≤ x := of_decide_eq_true hvx
     rw [ha]
     have e1 : (y != v) = true := by simp; omega
     simp [e1, show ¬ y < v by omega, show v < y by omega]
    ·have ha : ys.any (fun x => decide (v ≤ x)) = false := by simpa using ha
     have hf : ys.filter (fun x => decide (v < x)) = [] := by
      rw [List.filter_eq_nil_iff]
      intro x hx
      have := List.any_eq_false.1 ha x hx
      simp at this ⊢
      omega
     rw [ha, hf]
     by_cases hvy : y = v
     ·subst hvy; simp
     ·simp [hv, hvy, show ¬ y < v by omega, show v < y by omega]
   ·have ha : ys.any (fun x => decide (v ≤ x)) = false := by
     rw [List.any_eq_false]
     intro x hx
     have := hlt x hx
     simp; omega
    rw [ha]
    simp [hv, show y < v by omega, show y ≠ v by omega]
 exact h _ xs rfl
theorem insR_is {v : Int} {xs : List Int} (h : xs.Pairwise (fun x y => x < y)) : insR v xs = xs.filter (fun x => decide (x < v)) ++ v :: xs.filter (fun x => decide (v < x)) := by
 unfold insR
 rw [insFold_is v xs h]
 by_cases ha : xs.any (fun x => decide (v ≤ x)) = true
 ·rw [if_pos ha, if_pos ha]
 ·have hf : xs.filter (fun x => decide (v < x)) = [] := by
   rw [List.filter_eq_nil_iff]
   intro x hx
   have := List.any_eq_false.1 (by simpa using ha : xs.any (fun x => decide (v ≤ x)) = false) x hx
   simp at this ⊢
   omega
  rw [if_neg ha, if_neg ha, hf]
  simp
theorem insR_rise {v : Int} {xs : List Int} (h : xs.Pairwise (fun x y => x < y)) : (insR v xs).Pairwise (fun x y => x < y) := by
 rw [insR_is h, List.pairwise_append]
 refine ⟨h.filter _, List.pairwise_cons.2 ⟨fun x hx => of_decide_eq_true (List.mem_filter.1 hx).2, h.filter _⟩, fun a ha b hb => ?_⟩
 have h1 : a < v := of_decide_eq_true (List.mem_filter.1 ha).2
 rcases List.mem_cons.1 hb with rfl | hb
 ·exact h1
 ·have : v < b := of_decide_eq_true (List.mem_filter.1 hb).2
  omega
theorem insR_mem {v x : Int} {xs : List Int} (h : xs.Pairwise (fun x y => x < y)) : x ∈ insR v xs ↔ x = v ∨ x ∈ xs := by
 rw [insR_is h, List.mem_append, List.mem_cons, List.mem_filter, List.mem_filter]
 simp only [decide_eq_true_eq]
 constructor
 ·rintro (h1 | h1 | h1)
  ·exact .inr h1.1
  ·exact .inl h1
  ·exact .inr h1.1
 ·rintro (h1 | h1)
  ·exact .inr (.inl h1)
  ·rcases Int.lt_trichotomy x v with h2 | h2 | h2
   ·exact .inl ⟨h1, h2⟩
   ·exact .inr (.inl h2)
   ·exact .inr (.inr ⟨h1, h2⟩)
theorem insR_len {v : Int} {xs : List Int} (h : xs.Pairwise (fun x y => x < y)) : (insR v xs).length ≤ xs.length + 1 := by
 rw [insR_is h, List.length_append, List.length_cons]
 have h1 : (xs.filter fun x => decide (x < v)).length + (xs.filter fun x => !decide (x < v)).length = xs.length := by
  induction xs with
  | nil => rfl
  | cons x xs ih =>
   have := ih (List.pairwise_cons.1 h).2
   by_cases e : x < v
   ·rw [List.filter_cons_of_pos (by simpa using e), List.filter_cons_of_neg (by simpa using e), List.length_cons, List.length_cons]; omega
   ·rw [List.filter_cons_of_neg (by simpa using e), List.filter_cons_of_pos (by simpa using e), List.length_cons, List.length_cons]; omega
 have h2 : (xs.filter fun x => decide (v < x)).length ≤ (xs.filter fun x => !decide (x < v)).length := by
  rw [show (xs.filter fun x => decide (v < x)) = (xs.filter fun x => !decide (x < v)).filter (fun x => decide (v < x)) by
   rw [List.filter_filter]
   refine List.filter_congr fun x _ => ?_
   by_cases e : v < x <;> simp [e]
   omega]
  exact List.length_filter_le _ _
 omega
def vsR (ls : List Int) : Nat → List Int
 | 0 => []
 | j + 1 => insR ((nth ls j).natAbs : Nat) (vsR ls j)
theorem vsR_rise (ls : List Int) : ∀ j, (vsR ls j).Pairwise (fun x y => x < y)
 | 0 => List.Pairwise.nil
 | j + 1 => insR_rise (vsR_rise ls j)
theorem vsR_mem (ls : List Int) (x : Int) : ∀ j, x ∈ vsR ls j ↔ ∃ i, i < j ∧ x = ((nth ls i).natAbs : Nat)
 | 0 => by simp [vsR]
 |j + 1 => by
  rw [vsR, insR_mem (vsR_rise ls j), vsR_mem ls x j]
  constructor
  ·rintro (h | ⟨i, hi, h⟩)
   ·exact ⟨j, by omega, h⟩
   ·exact ⟨i, by omega, h⟩
  ·rintro ⟨i, hi, h⟩
   by_cases e : i = j
   ·subst e; exact .inl h
   ·exact .inr ⟨i, by omega, h⟩
theorem vsR_len (ls : List Int) : ∀ j, (vsR ls j).length ≤ j
 | 0 => Nat.le_refl _
 | j + 1 => Nat.le_trans (insR_len (vsR_rise ls j)) (by have := vsR_len ls j; omega)
def nvs (ls ks : List Int) (j : Nat) (v : Int) : Int := ((List.range j).map fun i => if nth ls i = -v then nth ks i else 0).sum
theorem nvs_succ (ls ks : List Int) (j : Nat) (v : Int) : nvs ls ks (j + 1) v = nvs ls ks j v + (if nth ls j = -v then nth ks j else 0) := by simp [nvs, List.range_succ]
theorem nvs_bounds {ls ks : List Int} (v : Int) : ∀ j, (∀ i, i < j → inB ls ks i = true) → -(j * 16777216 : Int) ≤ nvs ls ks j v ∧ nvs ls ks j v ≤ j * 16777216 := by
 intro j
 induction j with
 | zero => intro _; simp [nvs]
 | succ j ih =>
  intro h
  obtain ⟨h1, h2⟩ := ih fun i hi => h i (by omega)
  obtain ⟨h3, h4⟩ := inB_k (h j (by omega))
  rw [nvs_succ]
  split <;> omega
theorem nvs_sum {ls ks V : List Int} (hV : V.Nodup) (h1 : ∀ v ∈ V, 1 ≤ v) : ∀ j, (∀ i, i < j → (((nth ls i).natAbs : Nat) : Int) ∈ V) → (V.map (nvs ls ks j)).sum = nsum ls ks j := by
 intro j
 induction j with
 | zero =>
  intro _
  rw [sum_zero V fun v _ => by simp [nvs]]
  simp [nsum]
 | succ j ih =>
  intro h
  rw [show V.map (nvs ls ks (j + 1)) = V.map (fun v => nvs ls ks j v + if nth ls j = -v then nth ks j else 0) from List.map_congr_left fun v _ => nvs_succ ls ks j v, sum_add, ih (fun i hi => h i (by omega)), nsum_succ]
  congr 1
  have hm := h j (by omega)
  by_cases e : nth ls j < 0
  ·rw [if_pos e, pick_sum (x := -(nth ls j)) V hV (by rw [show -(nth ls j) = ((nth ls j).natAbs : Nat) by omega]; exact hm) fun v _ hne => if_neg fun h => hne (by omega), if_pos (by omega)]
  ·rw [if_neg e, sum_zero V fun v hv => if_neg fun h => by have := h1 v hv; omega]
def bdR (ls ks : List Int) (b : Int) (V : List Int) : Int := b - (V.map fun v => nvs ls ks ls.length v + min (vsum ls ks ls.length v) 0).sum
theorem bdR_snoc (ls ks : List Int) (b : Int) (V : List Int) (v : Int) : bdR ls ks b (V ++ [v]) = bdR ls ks b V - nvs ls ks ls.length v - min (vsum ls ks ls.length v) 0 := by
 unfold bdR
 simp
 omega
theorem bdR_bounds {ls ks : List Int} {b : Int} (h : ∀ i, i < ls.length → inB ls ks i = true) (hl : ls.length ≤ 65536) (h1 : -1099511627776 ≤ b) (h2 : b ≤ 1099511627776) : ∀ V : List Int, -1099511627776 - V.length * 2199023255552 ≤ bdR ls ks b V ∧ bdR ls ks b V ≤ 1099511627776 + V.length * 2199023255552 := by
 have hk : ∀ n (V : List Int), V.length = n → -1099511627776 - V.length * 2199023255552 ≤ bdR ls ks b V ∧ bdR ls ks b V ≤ 1099511627776 + V.length * 2199023255552 := by
  intro n
  induction n with
  | zero => intro V e; rw [List.length_eq_zero_iff.1 e]; unfold bdR; simp; omega
  | succ n ih =>
   intro V e
   obtain ⟨ys, y, rfl⟩ : ∃ ys y, V = ys ++ [y] := ⟨V.dropLast, V.getLast (by intro h; subst h; cases e), (List.dropLast_concat_getLast _).symm⟩
   have := ih ys (by simp at e; omega)
   have h3 := nvs_bounds (ls := ls) (ks := ks) y ls.length h
   have h4 := vsum_bounds (ls := ls) (ks := ks) y ls.length h
   rw [bdR_snoc, List.length_append, List.length_singleton]
   omega
 exact fun V => hk _ V rfl
def nzR (ls ks V : List Int) : List Int := V.filter fun v => decide (vsum ls ks ls.length v ≠ 0)
theorem nzR_snoc (ls ks V : List Int) (v : Int) : nzR ls ks (V ++ [v]) = nzR ls ks V ++ if vsum ls ks ls.length v ≠ 0 then [v] else [] := by
 unfold nzR
 rw [List.filter_append]
 congr 1
 by_cases e : vsum ls ks ls.length v = 0 <;> simp [e]
section
variable {ls ks : List Int} {b : Int} (h : ∀ i, i < ls.length → inB ls ks i = true)
include h
theorem nzR_all : nzR ls ks (vsR ls ls.length) = normVars ls ks := by
 have hl : ∀ i, i < ls.length → nth ls i ≠ 0 ∧ -65536 ≤ nth ls i ∧ nth ls i ≤ 65536 := fun i hi => litB_iff.1 (inB_lit (h i hi))
 refine (normVars_eq ((vsR_rise ls _).filter _) (fun v hv => ?_) fun l hlm => ?_).symm
 ·obtain ⟨h1, h2⟩ := List.mem_filter.1 hv
  obtain ⟨i, hi, e⟩ := (vsR_mem ls v _).1 h1
  have := hl i hi
  exact ⟨by omega, by omega, of_decide_eq_true h2⟩
 ·by_cases e : vsum ls ks ls.length (l.natAbs : Nat) = 0
  ·exact .inr e
  ·obtain ⟨i, hi, e2⟩ := List.getElem_of_mem hlm
   exact .inl (List.mem_filter.2 ⟨(vsR_mem ls _ _).2 ⟨i, hi, by rw [nth_eq hi, e2]⟩, decide_eq_true e⟩)
theorem bdR_all : bdR ls ks b (vsR ls ls.length) = normBd ls ks b := by
 have hl : ∀ i, i < ls.length → nth ls i ≠ 0 ∧ -65536 ≤ nth ls i ∧ nth ls i ≤ 65536 := fun i hi => litB_iff.1 (inB_lit (h i hi))
 unfold bdR normBd
 rw [sum_add, nvs_sum ((vsR_rise ls _).imp fun h => by omega) (fun v hv => by
  obtain ⟨i, hi, e⟩ := (vsR_mem ls v _).1 hv
  have := hl i hi
  omega) _ (fun i hi => by exact (vsR_mem ls _ _).2 ⟨i, hi, rfl⟩)]
 rw [← nzR_all h]
 unfold nzR
 rw [sum_filter _ fun v _ e => by
  have : vsum ls ks ls.length v = 0 := by simpa using e
  rw [this]; rfl]
 omega
end
def Grw (B : Nat) (W0 W : World) (v : Value) (n : Nat) (xs : List Int) : Prop := Own W (fun g => B ≤ g) 3 1 v n (ints xs) ∧ Below B W0 W ∧ B ≤ W.heap.size
section
variable {B : Nat} {W0 W W' : World} {v : Value} {n : Nat} {xs : List Int}
theorem Grw.start (w : World) : Grw w.heap.size w w (.slice none 0 0) 0 [] := ⟨Own.nil _ _ _ _, Below.refl _ _, Nat.le_refl _⟩
theorem Grw.below (h : Grw B W0 W v n xs) (hb : Below W.heap.size W W') : Grw B W0 W' v n xs := ⟨h.1.below hb, h.2.1.trans (hb.mono h.2.2), Nat.le_trans h.2.2 hb.size⟩
theorem Grw.alloc (h : Grw B W0 W v n xs) (o : Obj) : Grw B W0 (W.alloc o) v n xs := h.below ((Below.refl _ _).alloc (Nat.le_refl _) _)
theorem Grw.push {u : Value} {n' : Nat} {ys : List Int} (h : Grw B W0 W v n xs) (ho : Own W' (fun b => B ≤ b ∨ W.heap.size ≤ b) 3 1 u n' (ints ys)) (hm : Mod (row v) W W') : Grw B W0 W' u n' ys :=
 ⟨ho.mono fun _ _ _ hF => hF.elim id fun hF => Nat.le_trans h.2.2 hF, below_mod h.2.1 h.2.2 hm fun _ hg => (h.1.row hg).1, Nat.le_trans h.2.2 hm.size⟩
end
end
section
open Go.RowKit
theorem unitsB_off {c : Pb} {av : List Int} (h : ¬ (c.ok = true ∧ 0 ≤ c.slackB av)) : c.unitsB av = [] := by
 unfold Pb.unitsB
 rw [if_neg h]
set_option maxRecDepth 100000 in
set_option maxHeartbeats 4000000 in
theorem runits_any {w : World} {F G : Nat → Prop} {v : Value} {c : Pb} {A : Option Addr} {na ca : Nat} {av : List Int} (hc : PbRd w F v c) (hi : ∀ k ∈ c.coefs, I64 k) (h40 : c.lits.length ≤ 65536) (ha : Rd w G 1 (.slice A na ca) na (i8s av)) :
  Calls Tryz.prog 83 #[v, .slice A na ca] w fun r w' => (∃ R cc, r = .returned (.slice R (c.unitsB av).length cc) ∧ Own w' (fun g => w.heap.size ≤ g) 3 1 (.slice R (c.unitsB av).length cc) (c.unitsB av).length (ints (c.unitsB av))) ∧ Below w.heap.size w w' := by
 have Hc := hid hc
 obtain ⟨⟨L, n, cn, K, m, cm, rfl, hx, hk⟩, hb⟩ := hc
 have hxl : c.lits.length = n := by have := hx.1; simpa [ints_length] using this
 have hkl : c.coefs.length = m := by have := hk.1; simpa [ints_length] using this
 obtain ⟨X, hX, bX, kX, sX⟩ := alloc_step w (.cells #[.slice L n cn, .slice K m cm, .int .i64 c.bound] 41)
 obtain ⟨Z, hZ⟩ : ∃ z, w.heap.size = z := ⟨_, rfl⟩
 have Hc2 := hid (Hc.o.below bX)
 have Ha2 := hid (ha.below bX)
 have Hx2 := hid (hx.below bX)
 have Hk2 := hid (hk.below bX)
 have HB := hid bX
 rw [hZ] at kX
 have KX := hid kX
 have HX := hid hX
 have HZ := hid hZ
 have Hi := hid hi
 have Hxl := hid hxl
 have Hkl := hid hkl
 have hn6 : n ≤ 65536 := by omega
 clear hx hk ha bX kX hX hZ sX hi Hc hb hxl hkl
 obtain ⟨e0, e1, e2⟩ := box3 KX.o
 cases hok : c.ok
 ·have Hok0 := hid hok
  have Hu := hid (unitsB_off (c := c) (av := av) (by rw [hok]; simp))
  clear hok
  go_enter Tryz.func83, Tryz.ntmps83
  go_wp2_with fail
  rw [HX.o, HZ.o]
  refine (rvalid_any Hc2.o Hi.o h40).mono ?_
  rintro r w1 ⟨rfl, b1⟩
  rw [Hok0.o]
  have HB1 := hid (HB.o.trans (b1.mono HB.o.size))
  clear b1 e0 e1 e2
  go_wp2_with fail
  go_ret
  exact ⟨⟨none, 0, by rw [Hu.o]; rfl, by rw [Hu.o]; exact Own.nil _ _ _ _⟩, HB1.o⟩
 ·have Hok0 := hid hok
  have Hok := hid ((Pb.ok_iff _).1 hok)
  obtain ⟨s, hs⟩ : ∃ s, c.slackB av = s := ⟨_, rfl⟩
  have Hs := hid hs
  have Hu := hid (show c.unitsB av = if 0 ≤ s then c.pick (fun l k => decide (valB av l = 0) && decide (s < k)) (List.range n) else [] by
   unfold Pb.unitsB
   rw [hok, hs, Hxl.o]
   simp)
  have hnm : n = m := by rw [← Hxl.o, ← Hkl.o]; exact Hok.o.len
  subst hnm
  clear hok hs
  go_enter Tryz.func83, Tryz.ntmps83
  go_wp2_with fail
  rw [HX.o, HZ.o]
  refine (rvalid_any Hc2.o Hi.o h40).mono ?_
  rintro r w1 ⟨rfl, b1⟩
  rw [Hok0.o]
  have k1 := hid (keep_blk KX.o b1)
  have Hc3 := hid (Hc2.o.below b1)
  have Ha3 := hid (Ha2.o.below b1)
  have Hx3 := hid (Hx2.o.below b1)
  have Hk3 := hid (Hk2.o.below b1)
  have HB1 := hid (HB.o.trans (b1.mono HB.o.size))
  clear b1 e0 e1 e2
  obtain ⟨e0, e1, e2⟩ := box3 k1.o
  go_wp2_with fail
  refine (rslack_any Hc3.o Hi.o h40 Ha3.o).mono ?_
  rintro r w2 ⟨rfl, b2⟩
  rw [Hs.o]
  have k2 := hid (keep_blk k1.o b2)
  have Hc4 := hid (Hc3.o.below b2)
  have Ha4 := hid (Ha3.o.below b2)
  have Hx4 := hid (Hx3.o.below b2)
  have Hk4 := hid (Hk3.o.below b2)
  have HB2 := hid (HB1.o.trans (b2.mono HB1.o.size))
  clear b2 e0 e1 e2
  by_cases h0 : s < 0
  ·have Hu2 := hid (show c.unitsB av = [] by rw [Hu.o, if_neg (by omega)])
   go_wp2_with fail
   go_ret
   exact ⟨⟨none, 0, by rw [Hu2.o]; rfl, by rw [Hu2.o]; exact Own.nil _ _ _ _⟩, HB2.o⟩
  ·have Hu2 := hid (show c.unitsB av = c.pick (fun l k => decide (valB av l = 0) && decide (s < k)) (List.range n) by rw [Hu.o, if_pos (by omega)])
   go_wp2_with fail
   go_loopw [5, 6] (fun ov iv W => ∃ (j : Nat) (P : List Int) (A1 : Option Addr) (c1 : Nat), j ≤ n ∧ iv = .int .i64 j ∧ ov = .slice A1 P.length c1 ∧ Hid (P = c.pick (fun l k => decide (valB av l = 0) && decide (s < k)) (List.range j)) ∧ Hid (Grw w2.heap.size w2 W (.slice A1 P.length c1) P.length P)) (fun _ iv _ => n - (intOf iv).toNat)
   case atStart => exact ⟨0, [], none, 0, by omega, rfl, rfl, hid rfl, hid (Grw.start w2)⟩
   case round =>
    obtain ⟨j, P, A1, c1, hj, rfl, rfl, HP, HG⟩ := hrel
    obtain ⟨e0, e1, e2⟩ := box3 (keep_blk k2.o HG.o.2.1)
    by_cases hlt : j < n
    ·have x1 : (j : Int) < (n : Int) := by omega
     obtain ⟨g, o, rfl, _, hg, hcx⟩ := (Hx4.o.below HG.o.2.1).cell.2 j hlt
     obtain ⟨g', o', rfl, _, hg', hck⟩ := (Hk4.o.below HG.o.2.1).cell.2 j hlt
     have hl := Hok.o.lit j (by rw [Hxl.o]; exact hlt)
     have hps := c.pick_snoc (fun l k => decide (valB av l = 0) && decide (s < k)) (List.range j) j
     have hpl := c.pick_len (fun l k => decide (valB av l = 0) && decide (s < k)) (List.range j)
     rw [← HP.o, List.length_range] at hpl
     rw [← List.range_succ, ← HP.o] at hps
     obtain ⟨lj, hlj⟩ : ∃ x, nth c.lits j = x := ⟨_, rfl⟩
     obtain ⟨kj, hkj⟩ : ∃ x, nth c.coefs j = x := ⟨_, rfl⟩
     rw [hlj] at hl hcx hps
     rw [hkj] at hck hps
     obtain ⟨vv, hvv⟩ : ∃ x, valB av lj = x := ⟨_, rfl⟩
     rw [hvv] at hps
     have Hvv := hid hvv
     have Hc5 := hid (Hc4.o.below HG.o.2.1)
     have Ha5 := hid (Ha4.o.below HG.o.2.1)
     have Hps := hid hps
     obtain ⟨bd, hbd⟩ : ∃ x, c.bound = x := ⟨_, rfl⟩
     rw [hbd] at e2 Hc5
     clear hlj hkj hvv hps hg hg' hbd
     go_wp2_with fail
     by_cases hv0 : vv = 0
     ·subst hv0
      obtain ⟨q, hq⟩ : ∃ q, decide (s < kj) = q := ⟨_, rfl⟩
      have Hps2 := hid (show c.pick (fun l k => decide (valB av l = 0) && decide (s < k)) (List.range (j + 1)) = P ++ if q = true then [lj] else [] by rw [Hps.o, hq]; simp)
      clear Hps
      have HBd := Bl.drew (Below.refl wr.heap.size wr)
      refine wp_region_held_drew (S := fun w' => (w'.cell? ⟨Z, 0, none⟩ = some (.slice (some ⟨g, o, none⟩) n cn) ∧ w'.cell? ⟨Z, 1, none⟩ = some (.slice (some ⟨g', o', none⟩) n cm) ∧ w'.cell? ⟨Z, 2, none⟩ = some (.int .i64 bd) ∧ w'.cell? ⟨g, o + j, none⟩ = some (.int .i64 lj) ∧ w'.cell? ⟨g', o' + j, none⟩ = some (.int .i64 kj)) ∧ Hid (Below wr.heap.size wr w')) (by kernel_rfl) ⟨⟨keep_cell e0 HBd, keep_cell e1 HBd, keep_cell e2 HBd, keep_cell hcx HBd, keep_cell hck HBd⟩, hid HBd⟩ (fun hHeld => ?_)
      clear HBd
      refine tk 0 ?_
      refine tk 1 ?_
      refine tk 2 ?_
      refine tk 3 ?_
      refine tk 4 ?_
      refine tk 5 ?_
      refine rd1 6 fun K hK => ?_
      go_simp
      refine (rvalue_any (Ha5.o.below hHeld.2.o) hl.1 (by omega) (by omega)).mono ?_
      rintro r w7 ⟨rfl, rfl⟩
      rw [Hvv.o]
      go_simp
      refine hK.out _ _ hHeld (fun hHeld => ?_)
      clear hK K
      refine tk 7 ?_
      refine tk 8 ?_
      refine tk 9 ?_
      refine tk 10 ?_
      refine tk 11 ?_
      refine tk 12 ?_
      refine tk 13 ?_
      refine tk 14 ?_
      refine tk 15 ?_
      refine rd1 16 fun K hK => ?_
      go_simp
      refine (rslack_any (Hc5.o.below hHeld.2.o) Hi.o h40 (Ha5.o.below hHeld.2.o)).mono ?_
      rintro r w8 ⟨rfl, b8⟩
      rw [Hs.o]
      go_simp
      refine hK.out _ _ ⟨⟨keep_cell hHeld.1.1 b8, keep_cell hHeld.1.2.1 b8, keep_cell hHeld.1.2.2.1 b8, keep_cell hHeld.1.2.2.2.1 b8, keep_cell hHeld.1.2.2.2.2 b8⟩, hid (hHeld.2.o.trans (b8.mono hHeld.2.o.size))⟩ (fun hHeld => ?_)
      clear hK K
      refine tk 17 ?_
      refine tk 18 ?_
      refine wpAnyH_done (by kernel_rfl) ?_ _
      obtain ⟨⟨e0, e1, e2, e3, e4⟩, HB9⟩ := hHeld
      have HG9 := hid (HG.o.below HB9.o)
      clear HG HB9 hq
      cases q
      ·go_wp2_with fail
       go_roundw
       case rel => exact ⟨j + 1, P, A1, c1, by omega, by go_num, rfl, hid (by rw [Hps2.o]; simp), HG9⟩
       case measure => simp [intOf]; omega
      ·obtain ⟨w9, rfl⟩ : ∃ W : World, W = w8 := ⟨_, rfl⟩
       go_wp2_with (first
        | (at_builtin; refine wpList_append_ints rfl _ _ rfl (HG9.o.alloc (.cells #[.int .i64 lj] 3)).1 (own_one w9 (.int .i64 lj)).rd rfl rfl (by simp [Value.oneCell']) (by omega) ?_; intro Av3 cv3 W3 ho3 hm3 hr3; have T3 := hid ((HG9.o.alloc (.cells #[.int .i64 lj] 3)).push (ys := P ++ [lj]) (by rw [ints_append]; exact ho3) hm3); clear ho3 hm3 hr3))
       go_roundw
       case rel => exact ⟨j + 1, P ++ [lj], Av3, cv3, by omega, by go_num, by simp, hid (by rw [Hps2.o]; simp), by simpa using T3⟩
       case measure => simp [intOf]; omega
     ·have hvb : (vv == 0) = false := by simpa using hv0
      have Hps2 := hid (show c.pick (fun l k => decide (valB av l = 0) && decide (s < k)) (List.range (j + 1)) = P by rw [Hps.o, decide_eq_false hv0]; simp)
      clear Hps hv0
      have HBd := Bl.drew (Below.refl wr.heap.size wr)
      refine wp_region_held_drew (S := fun w' => (w'.cell? ⟨Z, 0, none⟩ = some (.slice (some ⟨g, o, none⟩) n cn) ∧ w'.cell? ⟨Z, 1, none⟩ = some (.slice (some ⟨g', o', none⟩) n cm) ∧ w'.cell? ⟨Z, 2, none⟩ = some (.int .i64 bd) ∧ w'.cell? ⟨g, o + j, none⟩ = some (.int .i64 lj) ∧ w'.cell? ⟨g', o' + j, none⟩ = some (.int .i64 kj)) ∧ Hid (Below wr.heap.size wr w')) (by kernel_rfl) ⟨⟨keep_cell e0 HBd, keep_cell e1 HBd, keep_cell e2 HBd, keep_cell hcx HBd, keep_cell hck HBd⟩, hid HBd⟩ (fun hHeld => ?_)
      clear HBd
      refine tk 0 ?_
      refine tk 1 ?_
      refine tk 2 ?_
      refine tk 3 ?_
      refine tk 4 ?_
      refine tk 5 ?_
      refine rd1 6 fun K hK => ?_
      go_simp
      refine (rvalue_any (Ha5.o.below hHeld.2.o) hl.1 (by omega) (by omega)).mono ?_
      rintro r w7 ⟨rfl, rfl⟩
      rw [Hvv.o]
      go_simp
      refine hK.out _ _ hHeld (fun hHeld => ?_)
      clear hK K
      refine tk 7 ?_
      refine tk 8 ?_
      refine tn 9 ?_
      refine tn 10 ?_
      refine tn 11 ?_
      refine tn 12 ?_
      refine tn 13 ?_
      refine tn 14 ?_
      refine tn 15 ?_
      refine tn 16 ?_
      refine tn 17 ?_
      refine tk 18 ?_
      refine wpAnyH_done (by kernel_rfl) ?_ _
      have HG9 := hid (HG.o.below hHeld.2.o)
      clear hHeld
      go_wp2_with fail
      go_roundw
      case rel => exact ⟨j + 1, P, A1, c1, by omega, by go_num, rfl, hid Hps2.o.symm, HG9⟩
      case measure => simp [intOf]; omega
    ·have hjn : j = n := by omega
     have HP2 := hid (show P = c.unitsB av by rw [Hu2.o, HP.o, hjn])
     clear hjn
     go_wp2_with fail
     go_ret
     exact ⟨⟨A1, c1, by rw [← HP2.o]; rfl, by rw [← HP2.o]; exact HG.o.1.mono fun g _ _ h => Nat.le_trans HB2.o.size h⟩, HB2.o.trans (HG.o.2.1.mono HB2.o.size)⟩
end
end Go.Proofs.YtcjmpobccbnpkaaGreat
