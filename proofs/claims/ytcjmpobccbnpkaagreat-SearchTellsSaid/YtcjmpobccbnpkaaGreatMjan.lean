/-
 Chapter 32: several texts in one (LnJ LnPa).
-/
import Derived.Test.YtcjmpobccbnpkaaGreatMjam
namespace Go.Proofs.YtcjmpobccbnpkaaGreat
section
open Go.RowKit Go.Maps
theorem meth_value (tb : Nat) (w : World) : (method 326 25 (.pointer (some ⟨tb, 0, none⟩)) "Value").run Tryz.prog w = .ok (90, .pointer (some ⟨tb, 0, none⟩)) w := by kernel_rfl
theorem value_minus {T : Tr} (_h : T.WF) {l : Int} (hv : T.value l = -1) : -l ∈ T.lits := by
 unfold Tr.value at hv
 split at hv
 ·omega
 ·split at hv
  ·assumption
  ·omega
theorem value_nought {T : Tr} (h : T.WF) : T.value 0 = 0 := by
 have h0 : ¬ (0 : Int) ∈ T.lits := fun hm => by
  obtain ⟨e, he, hel⟩ := List.mem_map.1 hm
  have := (h.lit e he).1
  omega
 simp [Tr.value, h0]
def Tr.ans (T : Tr) (cs : List Int) : List Int := if okFor T cs = true then T.learnt cs else []
def Tr.ansLv (T : Tr) (cs : List Int) : Int := if okFor T cs = true then topLv T (T.learnt cs).tail else 0
def lerr (b : Bool) : Int := if b = true then 0 else 2
theorem okFor_not {T : Tr} {cs : List Int} {l : Int} (hl : l ∈ cs) (h : T.value l ≠ -1) : okFor T cs = false := by
 unfold okFor
 have : cs.all (fun l => decide (T.value l = -1)) = false := by
  rw [List.all_eq_false]
  exact ⟨l, hl, by simp [h]⟩
 simp [this]
theorem Rd.lempty (w : World) (F : Nat → Prop) (R : Option Addr) : Rd w F 1 (.slice R 0 0) 0 (ints []) := ⟨rfl, R, 0, rfl, Nat.le_refl _, Nat.zero_le _, fun h => absurd h (by omega)⟩
theorem topLv_snoc (T : Tr) (ls : List Int) (l : Int) : topLv T (ls ++ [l]) = max (topLv T ls) (T.lvOf l) := by simp [topLv, List.foldl_append]
set_option maxRecDepth 100000 in
set_option maxHeartbeats 4000000 in
theorem learn_any {w : World} {Ft G : Nat → Prop} {tb n c : Nat} {R : Option Addr} {T : Tr} {cs : List Int} (ht : Trail w Ft tb T) (hr : Rd w G 1 (.slice R n c) n (ints cs)) (hi : ∀ x ∈ cs, I64 x) (hn : n ≤ 1000) (hv : T.vars ≤ 1000)
  (hR : ∀ m ∈ T.lits, (T.reasonOf (m.natAbs : Nat)).length ≤ 100) :
  Calls Tryz.prog 95 #[.pointer (some ⟨tb, 0, none⟩), .slice R n c] w fun r w' => (∃ R' c', r = .returned (.tuple #[.slice R' (T.ans cs).length c', .int .i64 (T.ansLv cs), .int .i64 (lerr (okFor T cs))]) ∧
   Rd w' (fun g => w.heap.size ≤ g) 1 (.slice R' (T.ans cs).length c') (T.ans cs).length (ints (T.ans cs))) ∧ Below w.heap.size w w' := by
 have hln : cs.length = n := by have := hr.1; simpa [ints_length] using this
 have hncap : (n : Int) ≤ (c : Int) := by
  obtain ⟨_, A2, c2, hv2, h2, _⟩ := hr
  injection hv2 with _ _ h3
  omega
 have htl : T.lits.length ≤ 1000 := by
  have := ht.wf.len
  simp [Tr.lits]
  omega
 have hdp : (T.depth : Int) ≤ 1000 := by
  have := ht.wf.len'
  unfold Tr.depth
  simp [Tr.lits] at htl
  omega
 have bad : Hid (okFor T cs = false → ∀ W : World, (Rd W (fun g => w.heap.size ≤ g) 1 (.slice none (T.ans cs).length 0) (T.ans cs).length (ints (T.ans cs)) ∧ (T.ans cs).length = 0) ∧ T.ansLv cs = 0 ∧ lerr (okFor T cs) = 2) := hid fun hb W => by
  have e : T.ans cs = [] := by unfold Tr.ans; rw [if_neg (by simp [hb])]
  refine ⟨⟨by rw [e]; exact Rd.lempty _ _ _, by rw [e]; rfl⟩, by unfold Tr.ansLv; rw [if_neg (by simp [hb])], by rw [hb]; rfl⟩
 have Ht := hid ht.restrict
 have Hwf := hid ht.wf
 have Hr := hid (hr.mono (G := fun g => G g ∧ g < w.heap.size) fun g hg hF => ⟨hF, hg⟩)
 have Hi := hid hi
 have HR := hid hR
 have Hln := hid hln
 have Htl := hid htl
 have hmv := meth_value tb
 have hml := meth_level tb
 have hmd := meth_depth tb
 have hms := meth_lits tb
 have hfr : ¬ T.free 0 := fun h => h.1 rfl
 clear ht hr hi hR hln htl
 go_enter Tryz.func95, Tryz.ntmps95
 go_wp2_with fail
 refine (decide_bad Ht.o (l := 0) (by unfold I64; omega) hfr).mono ?_
 rintro r w1 ⟨rfl, b1⟩
 have B1 := hid b1
 have hs1 := b1.size
 clear b1 hfr
 go_wp2_with fail
 go_loopw [8, 23] (fun cv jv W => ∃ j : Nat, j ≤ n ∧ jv = .int .i64 j ∧ cv = .bool ((cs.take j).any fun l => decide (T.lvOf l = T.depth)) ∧ Hid (∀ x ∈ cs.take j, T.value x = -1) ∧ Hid (Below w.heap.size w W)) (fun _ jv _ => n - (intOf jv).toNat)
 case atStart => exact ⟨0, by omega, rfl, by simp, by simp [Hid], B1⟩
 case round =>
  obtain ⟨j, hj, rfl, rfl, Hall, B2⟩ := hrel
  have hsz := B2.o.size
  obtain ⟨cur, hcur⟩ : ∃ cur, ((cs.take j).any fun l => decide (T.lvOf l = T.depth)) = cur := ⟨_, rfl⟩
  rw [hcur]
  have Hcur := hid hcur
  clear hcur
  by_cases hlt : j < n
  ·have x1 : (j : Int) < (n : Int) := by omega
   obtain ⟨l, hlj⟩ : ∃ l, nth cs j = l := ⟨_, rfl⟩
   have hmem : l ∈ cs := by rw [← hlj]; exact nth_mem (by have := Hln.o; omega)
   obtain ⟨g, o, rfl, hg, _, e0⟩ := (Hr.o.below B2.o).cell.2 j hlt
   rw [hlj] at e0
   have Hlj := hid hlj
   have Hmem := hid hmem
   have hIl := Hi.o l hmem
   clear hlj hmem
   cases q0 : (l == 0)
   ·have q0' : (l = 0) = False := by simpa using q0
    go_wp2_with fail
    refine (value_any (Ht.o.below B2.o) hIl).mono ?_
    rintro r w2 ⟨rfl, b2⟩
    have B3 : Hid (Below w.heap.size w w2) := B2.o.trans (b2.mono (by omega))
    by_cases hv1 : T.value l = -1
    ·rw [hv1]
     have Hv1 := hid hv1
     obtain ⟨hb1, hb2⟩ := lits_small Hwf.o (value_minus Hwf.o hv1)
     obtain ⟨v, hv⟩ : ∃ v, l.natAbs = v := ⟨_, rfl⟩
     have hmx : max l (-l) = (v : Int) := by omega
     have hwn : IntKind.i64.wrap (-l) = -l := liw' (by omega) (by omega)
     have htk : Hid (cs.take (j + 1) = cs.take j ++ [l]) := hid (by rw [take_nth (by have := Hln.o; omega), Hlj.o])
     have hall : Hid (∀ x ∈ cs.take (j + 1), T.value x = -1) := hid fun x hx => by
      rw [htk.o] at hx
      rcases List.mem_append.1 hx with hx | hx
      ·exact Hall.o x hx
      ·rw [List.mem_singleton.1 hx]; exact Hv1.o
     have Hv := hid hv
     clear hv1 hv b2
     cases cur
     ·go_wp2_with fail
      refine (level_any (v := (v : Int)) (Ht.o.below B3.o)).mono ?_
      rintro r w3 ⟨rfl, b3⟩
      have B4 : Hid (Below w.heap.size w w3) := B3.o.trans (b3.mono (by have := B3.o.size; omega))
      have hlv2 : T.lvOf l = T.levelOf (v : Int) := by unfold Tr.lvOf; rw [Hv.o]
      obtain ⟨lv, hlv⟩ : ∃ lv, T.levelOf (v : Int) = lv := ⟨_, rfl⟩
      rw [hlv] at hlv2 ⊢
      have Hlv := hid hlv2
      clear b3 hlv hlv2
      go_wp2_with fail
      refine (depth_any (Ht.o.below B4.o)).mono ?_
      rintro r w4 ⟨rfl, rfl⟩
      cases q4 : (lv == (T.depth : Int))
      ·have hd : ¬ lv = T.depth := by simpa using q4
       have Hd := hid hd
       clear hd
       go_wp2_with fail
       go_roundw
       case rel => exact ⟨j + 1, by omega, by go_num, by rw [htk.o, List.any_append, Hcur.o, List.any_cons, Hlv.o, List.any_nil, decide_eq_false Hd.o]; rfl, hall, B4⟩
       case measure => simp [intOf]; omega
      ·have hd : lv = T.depth := by simpa using q4
       have Hd := hid hd
       clear hd
       go_wp2_with fail
       go_roundw
       case rel => exact ⟨j + 1, by omega, by go_num, by rw [htk.o, List.any_append, Hcur.o, List.any_cons, Hlv.o, List.any_nil, decide_eq_true Hd.o]; rfl, hall, B4⟩
       case measure => simp [intOf]; omega
     ·go_wp2_with fail
      go_roundw
      case rel => exact ⟨j + 1, by omega, by go_num, by rw [htk.o, List.any_append, Hcur.o]; rfl, hall, B3⟩
      case measure => simp [intOf]; omega
    ·obtain ⟨x, hx⟩ : ∃ x, T.value l = x := ⟨_, rfl⟩
     rw [hx] at hv1 ⊢
     have hv2 : (x == -1) = false := by simpa using hv1
     have hv3 : (x != -1) = true := by simpa using hv1
     have Hx := hid hx
     have Hv1 := hid hv1
     clear hx hv1
     go_wp2_with fail
     go_ret3
     obtain ⟨⟨h1, h2⟩, h3, h4⟩ := bad.o (okFor_not Hmem.o (by rw [Hx.o]; exact Hv1.o)) w2
     refine ⟨⟨none, 0, by rw [h2, h3, h4]; rfl, ?_⟩, B3.o⟩
     exact h1
   ·have q0' : l = 0 := by simpa using q0
    subst q0'
    go_wp2_with fail
    go_ret3
    obtain ⟨⟨h1, h2⟩, h3, h4⟩ := bad.o (okFor_not Hmem.o (by rw [value_nought Hwf.o]; omega)) wr
    refine ⟨⟨none, 0, by rw [h2, h3, h4]; rfl, ?_⟩, B2.o⟩
    exact h1
  ·have x1 : ((j : Int) < (n : Int)) = False := by simp; omega
   have ejn : j = n := by omega
   have htk : Hid (cs.take j = cs) := hid (List.take_of_length_le (by have := Hln.o; omega))
   rw [htk.o] at Hcur Hall
   clear htk
   go_wp2_with fail
   refine (depth_any (Ht.o.below B2.o)).mono ?_
   rintro r w4 ⟨rfl, rfl⟩
   cases q5 : (T.depth == 0)
   ·have hd0 : ((T.depth : Int) = 0) = False := by simpa using q5
    have hd1 : (((T.depth : Int)) == 0) = false := by simpa using q5
    cases cur
    ·go_wp2_with fail
     go_ret3
     obtain ⟨⟨h1, h2⟩, h3, h4⟩ := bad.o (by unfold okFor; rw [Hcur.o]; simp) wr
     exact ⟨⟨none, 0, by rw [h2, h3, h4]; rfl, h1⟩, B2.o⟩
    ·have hok : Hid (okFor T cs = true) := hid (by
      unfold okFor
      rw [Hcur.o, show cs.all (fun l => decide (T.value l = -1)) = true from List.all_eq_true.2 fun x hx => by simp [Hall.o x hx]]
      simpa using q5)
     go_wp2_with fail
     refine (begin_any (Ht.o.below B2.o)).mono ?_
     rintro r w5 ⟨⟨a, ma, ms, nm, rfl, E5, ha, hma, hms2⟩, b5⟩
     have B5 : Hid (Below w.heap.size w w5) := B2.o.trans (b5.mono (by omega))
     have s5 := b5.size
     have E5 := hid E5
     clear b5
     have al := lt_of_block E5.o.blk
     have sl := E5.o.set.lt
     have hneg : Hid (∀ l ∈ cs, (l.natAbs : Int) = 0 ∨ -l ∈ T.lits) := hid fun l hl => .inr (value_minus Hwf.o (Hall.o l hl))
     have hcn := Cn.addAll (ls := cs) Hwf.o (Cn.fresh T) hneg.o
     have hfin := Inv.finish Hwf.o (Inv.start Hwf.o hok.o)
     have hcr : Hid (Cn T ((An.addAll T 0 An.fresh cs).run T)) := by
      rw [← An.at_zero]
      exact hid (hcn.at Hwf.o 0)
     have hnow := hid hfin.2
     have Hcn := hid hcn
     clear hcn hfin
     go_wp2_with fail
     refine (add_any (G := fun g => G g ∧ g < w.heap.size) (ex := 0) E5.o (Ht.o.below B5.o) (fun hf => by omega) (fun hf => by omega) (Hr.o.below B5.o) (fun g hg => by omega) (Cn.fresh T) hneg.o (fun l hl => by
      rcases hneg.o l hl with e | e
      ·omega
      ·have := lits_small Hwf.o e; omega) (by have := Hln.o; omega)).mono ?_
     rintro r w6 ⟨rfl, E6, M6⟩
     rw [Hln.o] at E6
     have T6 := hid ((Ht.o.below B5.o).mod M6 fun g hg hf hx => by omega)
     have B6 : Hid (Below w.heap.size w w6) := hid (lbelow_mod B5.o (by omega) M6 fun g hg => by omega)
     have s6 := M6.size
     have E6 := hid E6
     clear E5 M6
     go_wp2_with fail
     refine (lits_any T6.o).mono ?_
     rintro r w7 ⟨⟨u, rfl, hu⟩, b7⟩
     obtain ⟨A', c', rfl, _⟩ := hu.form
     have E7 := hid (E6.o.below b7)
     have T7 := hid (T6.o.below b7)
     have B7 : Hid (Below w.heap.size w w7) := hid (B6.o.trans (b7.mono (by omega)))
     have s7 := b7.size
     have Hu := hid hu.rd
     have hll : Hid (T.lits.length = T.L.length) := hid (by simp [Tr.lits])
     clear hu b7 E6 T6
     go_wp2_with fail
     refine (run_any E7.o T7.o (fun hf => by omega) (fun hf => by omega) Hu.o (fun g hg => by omega) Hcn.o HR.o (by have := Htl.o; omega)).mono ?_
     rintro r w8 ⟨rfl, E8, M8⟩
     have T8 := hid (T7.o.mod M8 fun g hg hf hx => by omega)
     have B8 : Hid (Below w.heap.size w w8) := hid (lbelow_mod B7.o (by omega) M8 fun g hg => by omega)
     have s8 := M8.size
     have E8 := hid E8
     clear E7 M8
     go_wp2_with fail
     refine (lsorted_any E8.o Hwf.o hcr.o.neg (sorted_ne hcr.o (by have := hnow.o; omega)) (by have := Htl.o; omega)).mono ?_
     rintro r w9 ⟨⟨R9, c9, rfl, hr9⟩, b9⟩
     have e9 : T.sorted ((An.addAll T 0 An.fresh cs).run T).set = T.learnt cs := rfl
     rw [e9] at hr9 ⊢
     obtain ⟨f, rest, hL, hfn, hfd, hrest⟩ := learnt_form Hwf.o hok.o
     rw [hL] at hr9 ⊢
     simp only [List.length_cons] at hr9 ⊢
     obtain ⟨m, hm⟩ : ∃ m, rest.length = m := ⟨_, rfl⟩
     rw [hm] at hr9 ⊢
     have T9 := hid (T8.o.below b9)
     have B9 : Hid (Below w.heap.size w w9) := hid (B8.o.trans (b9.mono (by omega)))
     have s9 := b9.size
     have hm9 : m + 1 ≤ c9 ∧ c9 ≤ maxLen ∧ ∃ g o, R9 = some ⟨g, o, none⟩ ∧ w8.heap.size ≤ g := by
      obtain ⟨_, A2, c2, hv2, h2, h3, h4⟩ := hr9
      injection hv2 with q1 _ q3
      obtain ⟨g, o, h5, h6, _⟩ := h4 (by omega)
      exact ⟨by omega, by omega, g, o, by rw [q1, h5], h6⟩
     obtain ⟨hc91, hc92, g9, o9, rfl, hg9⟩ := hm9
     have hx1 : (1 : Int) ≤ (m : Int) + 1 := by omega
     have hx2 : (m : Int) + 1 ≤ (c9 : Int) := by omega
     have hml : (m : Int) ≤ 1000 := by
      have h1 := (List.filter_sublist (p := ((An.addAll T 0 An.fresh cs).run T).set) (l := T.lits.reverse.map fun m => -m)).length_le
      have h2 : (T.learnt cs).length ≤ T.lits.length := by
       refine Nat.le_trans h1 ?_
       simp
      rw [hL] at h2
      simp only [List.length_cons] at h2
      have := Htl.o
      omega
     have Hr9 := hid hr9
     have HL := hid hL
     have Hm := hid hm
     have Hrest := hid hrest.1
     clear b9 E8 T8 hr9 hL hm hrest hfn hfd e9
     by_cases hc1 : c9 = 1
     ·obtain rfl : m = 0 := by omega
      have hre : rest = [] := List.eq_nil_of_length_eq_zero Hm.o
      subst hre
      subst hc1
      clear hx1 hx2 hml hc91
      go_wp2_with fail
      go_loopw [13, 69] (fun cv jv W => cv = .int .i64 0 ∧ jv = .int .i64 0 ∧ W = w9) (fun _ _ _ => 0)
      case atStart => exact ⟨rfl, rfl, rfl⟩
      case round =>
       obtain ⟨rfl, rfl, rfl⟩ := hrel
       go_wp2_with fail
       go_ret3
       have e1 : T.ans cs = [f] := by unfold Tr.ans; rw [if_pos hok.o, HL.o]
       have e2 : T.ansLv cs = 0 := by unfold Tr.ansLv; rw [if_pos hok.o, HL.o]; rfl
       refine ⟨⟨some ⟨g9, o9, none⟩, 1, by rw [e1, e2, hok.o]; rfl, ?_⟩, B9.o⟩
       rw [e1]
       exact Hr9.o.mono fun k _ hk => by omega
     ·go_wp2_with fail
      go_loopw [13, 69] (fun cv jv W => ∃ j : Nat, j ≤ m ∧ jv = .int .i64 j ∧ cv = .int .i64 (topLv T (rest.take j)) ∧ Hid (Below w9.heap.size w9 W)) (fun _ jv _ => m - (intOf jv).toNat)
      case atStart => exact ⟨0, by omega, rfl, rfl, Below.refl _ _⟩
      case round =>
       obtain ⟨j, hj, rfl, rfl, Bj⟩ := hrel
       have hsz9 := Bj.o.size
       by_cases hlt : j < m
       ·have x1 : (j : Int) < (m : Int) := by omega
        obtain ⟨l, hlj⟩ : ∃ l, nth rest j = l := ⟨_, rfl⟩
        have hmem : l ∈ rest := by rw [← hlj]; exact nth_mem (by have := Hm.o; omega)
        obtain ⟨g', o', e1, hg, _, e0⟩ := (Hr9.o.below Bj.o).cell.2 (j + 1) (by omega)
        injection e1 with e1
        injection e1 with e1 e2
        subst e1 e2
        have e3 : nth (f :: rest) (j + 1) = l := by rw [← hlj]; rfl
        rw [e3, ← Nat.add_assoc, Nat.add_right_comm] at e0
        obtain ⟨hb1, hb2⟩ := lits_small Hwf.o (Hrest.o l hmem).1
        obtain ⟨v, hv⟩ : ∃ v, l.natAbs = v := ⟨_, rfl⟩
        have hmx : max l (-l) = (v : Int) := by omega
        have hwn : IntKind.i64.wrap (-l) = -l := liw' (by omega) (by omega)
        have htk : Hid (topLv T (rest.take (j + 1)) = max (topLv T (rest.take j)) (T.levelOf (v : Int))) := hid (by rw [take_nth (by have := Hm.o; omega), hlj, topLv_snoc]; unfold Tr.lvOf; rw [hv])
        obtain ⟨tv, htv⟩ : ∃ tv, topLv T (rest.take j) = tv := ⟨_, rfl⟩
        rw [htv] at htk ⊢
        clear htv hlj hmem hv e3
        go_wp2_with fail
        refine (level_any (v := (v : Int)) (T9.o.below Bj.o)).mono ?_
        rintro r w10 ⟨rfl, b10⟩
        have B10 : Hid (Below w9.heap.size w9 w10) := hid (Bj.o.trans (b10.mono (by omega)))
        clear b10
        go_wp2_with fail
        go_roundw
        case rel => exact ⟨j + 1, by omega, by go_num, by rw [htk.o], B10⟩
        case measure => simp [intOf]; omega
       ·have x1 : ((j : Int) < (m : Int)) = False := by simp; omega
        have ejn : j = m := by omega
        have htk : Hid (rest.take j = rest) := hid (List.take_of_length_le (by have := Hm.o; omega))
        rw [htk.o]
        go_wp2_with fail
        go_ret3
        have e1 : T.ans cs = f :: rest := by unfold Tr.ans; rw [if_pos hok.o, HL.o]
        have e2 : T.ansLv cs = topLv T rest := by unfold Tr.ansLv; rw [if_pos hok.o, HL.o]; rfl
        refine ⟨⟨some ⟨g9, o9, none⟩, c9, by rw [e1, e2, hok.o, List.length_cons, Hm.o]; rfl, ?_⟩, B9.o.trans (Bj.o.mono (by omega))⟩
        rw [e1, List.length_cons, Hm.o]
        exact (Hr9.o.mono fun k _ hk => by omega).below Bj.o
   ·have hd0 : T.depth = 0 := by simpa using q5
    rw [hd0]
    have Hd0 := hid hd0
    clear hd0
    go_wp2_with fail
    go_ret3
    obtain ⟨⟨h1, h2⟩, h3, h4⟩ := bad.o (by unfold okFor; rw [Hd0.o]; simp) wr
    exact ⟨⟨none, 0, by rw [h2, h3, h4]; rfl, h1⟩, B2.o⟩
end
section
open Go.RowKit
theorem lits_ne {T : Tr} (h : T.WF) {x : Int} (hx : x ∈ T.lits) : x ≠ 0 := by
 obtain ⟨e, he, rfl⟩ := List.mem_map.1 hx
 exact (h.lit e he).1
def Calm (V : Int → Int) (db : List (List Int)) : Prop := ∀ cl ∈ db, (∃ x ∈ cl, V x = 1) ∨ ∃ x ∈ cl, ∃ y ∈ cl, x ≠ y ∧ V x = 0 ∧ V y = 0
theorem back_reason {T : Tr} (h : T.WF) {i : Nat} {A : An} (e : Inv T (i + 1) A) {m : Int} (hm : T.lits[i]? = some m) (h1 : 1 < A.now) (hs : A.set (-m) = true) : m ∈ T.reasonOf (m.natAbs : Nat) := by
 have hml := List.mem_of_getElem? hm
 have hd := e.level h hm h1 hs
 have hn : i ∉ T.starts := fun hi => by
  have hc := drop_cnt h e.cnt hml hs hd
  have e2 : (A.drop (-m)).now = A.now - 1 := rfl
  have hpos : 0 < cntNow T (A.drop (-m)) := by omega
  unfold cntNow at hpos
  obtain ⟨m', hm', hp⟩ := List.countP_pos_iff.1 hpos
  unfold An.drop at hp
  simp only [Bool.and_eq_true, Bool.not_eq_true', decide_eq_false_iff_not, decide_eq_true_eq] at hp
  obtain ⟨⟨hp1, hp2⟩, hp3⟩ := hp
  obtain ⟨a, b, c⟩ := pos_lt h (x := -m') (by rw [Int.neg_neg]; exact hm')
  have hlow := e.low h1 (-m') hp1
  rw [Int.neg_neg] at c
  have hne : T.pos (-m') ≠ i := fun e3 => hp2 (pos_inj h (by rw [Int.neg_neg]; exact hm') (y := -m) (by rw [Int.neg_neg]; exact hml) (by rw [e3, pos_neg, pos_at h hm]))
  have hlv := lvOf_at h c
  rw [hp3] at hlv
  have hall : (T.starts.filter (· ≤ (T.pos (-m')).toNat)).length = T.starts.length := by unfold Tr.depth at hlv; omega
  have := List.length_filter_eq_length_iff.1 hall i hi
  simp only [decide_eq_true_eq] at this
  omega
 unfold Tr.lits at hm
 rw [List.getElem?_map] at hm
 cases he : T.L[i]? with
 | none => rw [he] at hm; cases hm
 | some f =>
  rw [he] at hm
  have hm : f.lit = m := by simpa using hm
  have hidx := h.idx he
  unfold Ent.v at hidx
  rw [hm] at hidx
  unfold Tr.reasonOf
  rw [hidx]
  simp only [Option.bind_some, he]
  rw [← hm]
  exact ((h.reason i f he).2 hn).1
theorem calm_down {T : Tr} (h : T.WF) {V : Int → Int} (hn : ∀ x ∈ T.lits, V x = 1 → V (-x) = -1) (h0 : ∀ m ∈ T.lits, T.lvOf m = 0 → V m = 1) {db : List (List Int)}
  (hdb : ∀ m ∈ T.lits, T.reasonOf (m.natAbs : Nat) ≠ [] → T.reasonOf (m.natAbs : Nat) ∈ db) (hc : Calm V db) :
  ∀ (i : Nat) (A : An), i ≤ T.lits.length → Inv T i A → (∀ x, (((T.lits.take i).reverse).foldl (An.back T) A).set x = true → V x = -1) → ∀ x, A.set x = true → V x = -1 := by
 have hlow : ∀ x, -x ∈ T.lits → T.lvOf x = 0 → V x = -1 := fun x hx hl => by
  have := hn (-x) hx (h0 _ hx (by rw [lvOf_neg]; exact hl))
  rwa [Int.neg_neg] at this
 intro i
 induction i with
 | zero => intro A _ _ hV x hx; exact hV x (by simpa using hx)
 | succ i ih =>
  intro A hi e hV
  have hil : i < T.lits.length := by omega
  obtain ⟨m, hm⟩ : ∃ m, T.lits[i]? = some m := ⟨_, List.getElem?_eq_getElem hil⟩
  have hml := List.mem_of_getElem? hm
  have ht : T.lits.take (i + 1) = T.lits.take i ++ [m] := by
   rw [List.take_succ_eq_append_getElem hil]
   rw [List.getElem?_eq_getElem hil] at hm
   injection hm with hm
   rw [hm]
  rw [ht, List.reverse_append, List.reverse_singleton, List.singleton_append, List.foldl_cons] at hV
  have hb := ih (A.back T m) (by omega) (e.back h hm) hV
  clear ih hV
  unfold An.back at hb
  split at hb
  ·rename_i hcd
   have hset := addAll_set T m.natAbs (T.reasonOf (m.natAbs : Nat)) (A.drop (-m))
   have hmr := back_reason h e hm hcd.1 hcd.2
   have hr := reasonOf_pos h hm
   have hoth : ∀ x ∈ T.reasonOf (m.natAbs : Nat), x ≠ m → V x = -1 := by
    intro x hx hxm
    rcases hr x hx with e1 | ⟨e1, e2⟩
    ·exact absurd e1 hxm
    ·by_cases hl : T.lvOf x = 0
     ·exact hlow x e1 hl
     ·refine hb x ((hset x).2 (.inr ⟨hx, fun e3 => ?_, hl⟩))
      have e4 : x = m ∨ x = -m := by omega
      rcases e4 with e4 | e4
      ·exact hxm e4
      ·rw [e4, pos_neg, pos_at h hm] at e2
       omega
   have hVm : V m = 1 := by
    rcases hc _ (hdb m hml (fun e1 => by rw [e1] at hmr; cases hmr)) with ⟨x, hx, h1⟩ | ⟨x, hx, y, hy, hxy, h1, h2⟩
    ·by_cases hxm : x = m
     ·rw [← hxm]; exact h1
     ·have := hoth x hx hxm; omega
    ·exfalso
     by_cases hxm : x = m
     ·have := hoth y hy (fun e1 => hxy (hxm.trans e1.symm)); omega
     ·have := hoth x hx hxm; omega
   intro x hx
   by_cases hxm : x = -m
   ·rw [hxm]; exact hn m hml hVm
   ·refine hb x ((hset x).2 (.inl ?_))
    unfold An.drop
    simp [hx, hxm]
  ·exact hb
theorem not_calm {T : Tr} (h : T.WF) {cs : List Int} (hok : okFor T cs = true) {V : Int → Int} (hn : ∀ x ∈ T.lits, V x = 1 → V (-x) = -1) (h0 : ∀ m ∈ T.lits, T.lvOf m = 0 → V m = 1)
  (hL : ∀ x ∈ T.learnt cs, V (-x) = 1) {db : List (List Int)} (hcs : cs ∈ db)
  (hdb : ∀ m ∈ T.lits, T.reasonOf (m.natAbs : Nat) ≠ [] → T.reasonOf (m.natAbs : Nat) ∈ db) : ¬ Calm V db := by
 intro hc
 have e := Inv.start h hok
 have hlow : ∀ x, -x ∈ T.lits → V (-x) = 1 → V x = -1 := fun x hx hl => by
  have := hn (-x) hx hl
  rwa [Int.neg_neg] at this
 obtain ⟨ef, _⟩ := e.finish h
 have hall := calm_down h hn h0 hdb hc T.lits.length _ (Nat.le_refl _) e (fun x hx => by
  rw [List.take_length] at hx
  refine hlow x (ef.neg x hx) (hL x ?_)
  exact (mem_sorted_iff (T := T) ef.neg x).2 hx)
 have hfalse : ∀ x ∈ cs, V x = -1 := by
  intro x hx
  have hxl : -x ∈ T.lits := by
   unfold okFor at hok
   simp only [Bool.and_eq_true, List.all_eq_true, decide_eq_true_eq] at hok
   exact value_false (hok.1.1 x hx)
  by_cases hl : T.lvOf x = 0
  ·exact hlow x hxl (h0 _ hxl (by rw [lvOf_neg]; exact hl))
  ·exact hall x (addAll_in T 0 cs An.fresh x hx (by have := lits_ne h hxl; omega) hl)
 rcases hc cs hcs with ⟨x, hx, h1⟩ | ⟨x, hx, y, hy, hxy, h1, h2⟩
 ·have := hfalse x hx; omega
 ·have := hfalse x hx; omega
end
end Go.Proofs.YtcjmpobccbnpkaaGreat
