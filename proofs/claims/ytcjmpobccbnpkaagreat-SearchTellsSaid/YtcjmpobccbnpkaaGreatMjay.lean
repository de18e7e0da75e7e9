/-
 Chapter 32: several texts in one (EnE).
-/
import Derived.Test.YtcjmpobccbnpkaaGreatMjax
import Derived.Test.YtcjmpobccbnpkaaGreatTkU
namespace Go.Proofs.YtcjmpobccbnpkaaGreat
set_option maxRecDepth 100000
set_option maxHeartbeats 8000000
section
open Go.RowKit
def Eng.fits (E : Eng) (c : Pb) : Bool := c.ok && c.lits.all fun l => decide (l.natAbs ≤ E.vars)
def Eng.add (E : Eng) (c : Pb) : Eng := { E with cs := E.cs ++ [c] }
theorem cAt_left {cs : List Pb} {c : Pb} {j : Nat} (h : j < cs.length) : cAt (cs ++ [c]) j = cAt cs j := by unfold cAt; rw [List.getElem?_append_left h]
theorem cAt_last (cs : List Pb) (c : Pb) : cAt (cs ++ [c]) cs.length = c := by simp [cAt]
theorem Eng.Ok.add {E : Eng} (h : E.Ok) {c : Pb} (hf : E.fits c = true) : (E.add c).Ok := by
 unfold Eng.fits at hf
 rw [Bool.and_eq_true, List.all_eq_true] at hf
 refine ⟨h.vars, fun d hd => ?_, fun d hd l hl => ?_, ?_, fun j hj hd => ?_⟩
 ·rcases List.mem_append.1 hd with e | e
  ·exact h.cs d e
  ·rw [List.mem_singleton.1 e]; exact (Pb.ok_iff c).1 hf.1
 ·rcases List.mem_append.1 hd with e | e
  ·exact h.lits d e l hl
  ·rw [List.mem_singleton.1 e] at hl
   have := hf.2 l hl
   rw [decide_eq_true_eq] at this
   exact this
 ·have := h.done
  show E.done ≤ (E.cs ++ [c]).length
  rw [List.length_append]; omega
 ·have hd' : j < E.done := hd
  have h1 : j < E.cs.length := Nat.lt_of_lt_of_le hd' h.done
  show (cAt (E.cs ++ [c]) j).Calm E.seen
  rw [cAt_left h1]
  exact h.calm j h1 hd'
theorem occF_add (cs : List Pb) (c : Pb) (l : Int) : occF (cs ++ [c]) l = occF cs l ++ (if l ∈ c.lits then [(cs.length : Int)] else []) := by
 unfold occF occL
 rw [List.length_append, List.length_singleton, List.range_succ, List.filter_append, List.map_append]
 congr 1
 ·congr 1
  refine List.filter_congr fun j hj => ?_
  rw [cAt_left (List.mem_range.1 hj)]
 ·simp only [List.filter_cons, List.filter_nil, cAt_last]
  by_cases e : l ∈ c.lits
  ·simp [e]
  ·simp [e]
def addF (cs : List Pb) (c : Pb) (i : Nat) (l : Int) : List Int := occF cs l ++ (if l ∈ c.lits.take i then [(cs.length : Int)] else [])
theorem addF_none (cs : List Pb) (c : Pb) : addF cs c 0 = occF cs := by funext l; simp [addF]
theorem addF_all (cs : List Pb) (c : Pb) : addF cs c c.lits.length = occF (cs ++ [c]) := by funext l; rw [occF_add]; unfold addF; rw [List.take_length]
theorem addF_next (cs : List Pb) {c : Pb} (hc : c.Ok) {i : Nat} (hi : i < c.lits.length) : addF cs c (i + 1) = fun x => if x = nth c.lits i then addF cs c i (nth c.lits i) ++ [(cs.length : Int)] else addF cs c i x := by
 funext x
 have hno : nth c.lits i ∉ c.lits.take i := fun h => by
  obtain ⟨j, hj, e⟩ := List.mem_take_iff_getElem.1 h
  have := hc.inj (i := j) (j := i) (by omega) hi (by rw [nth_eq (by omega), e])
  omega
 unfold addF
 rw [take_nth hi]
 by_cases e : x = nth c.lits i
 ·subst e
  rw [if_pos rfl, if_pos (by simp), if_neg hno, List.append_nil]
 ·rw [if_neg e]
  congr 1
  have : x ∈ c.lits.take i ++ [nth c.lits i] ↔ x ∈ c.lits.take i := by simp [e]
  by_cases h : x ∈ c.lits.take i
  ·rw [if_pos h, if_pos (this.2 h)]
  ·rw [if_neg h, if_neg (fun h2 => h (this.1 h2))]
theorem zero_ints (w : World) : (zeroValue 23).run Tryz.prog w = .ok (.slice none 0 0) w := by kernel_rfl
theorem max_abs {l : Int} (h : -65536 ≤ l ∧ l ≤ 65536) (w : World) : (Builtin.max_ #[3, 3] 3 #[.int .i64 l, .int .i64 (-l)]).run Tryz.prog w = .ok (.int .i64 (l.natAbs : Nat)) w := by
 rw [run_max]
 congr 2
 omega
theorem addc_any {w : World} {ob b vars : Nat} {l : Int} (hl : -65536 ≤ l ∧ l ≤ 65536) (c0 : w.cell? ⟨ob, 0, none⟩ = some (.pointer (some ⟨b, 0, none⟩))) (c1 : w.cell? ⟨b, 0, none⟩ = some (.int .i64 vars)) :
  Calls Tryz.prog 75 #[.int .i64 l, .pointer (some ⟨ob, 0, none⟩)] w fun r w' => r = .returned (.bool (!(decide (l.natAbs ≤ vars)))) ∧ Below w.heap.size w w' := by
 have hmx := max_abs hl
 have hw : IntKind.i64.wrap (-l) = -l := iw' (by omega) (by omega)
 obtain ⟨q, hq⟩ : ∃ q, l.natAbs = q := ⟨_, rfl⟩
 rw [hq] at hmx ⊢
 clear hq
 by_cases h : q ≤ vars
 ·have h1 : ¬ ((q : Int) > (vars : Int)) := by omega
  rw [decide_eq_true h]
  clear h
  go_enter Tryz.func75, Tryz.ntmps75
  go_wp2_with fail
  go_ret
  exact ⟨rfl, Below.refl _ _⟩
 ·have h1 : (q : Int) > (vars : Int) := by omega
  rw [decide_eq_false h]
  clear h
  go_enter Tryz.func75, Tryz.ntmps75
  go_wp2_with fail
  go_ret
  exact ⟨rfl, Below.refl _ _⟩
theorem eadd_any {w : World} {F G : Nat → Prop} {b : Nat} {E : Eng} {v : Value} {c : Pb} (hE : Engine w F b E) (hc : PbRd w G v c) (hic : ∀ k ∈ c.coefs, I64 k) (hGF : ∀ g, G g → ¬ F g) (hlen : E.cs.length ≤ 500000) :
  Calls Tryz.prog 42 #[.pointer (some ⟨b, 0, none⟩), v] w fun r w' => r = .returned (.int .i64 (if E.fits c = true then 0 else 2)) ∧ Engine w' (fun g => F g ∨ w.heap.size ≤ g) b (if E.fits c = true then E.add c else E) ∧ Mod F w w' := by
 obtain ⟨⟨A, n, cn, B, m0, cm, rfl, hx, hk⟩, hbd⟩ := hc
 have hxl : c.lits.length = n := by have := hx.1; simpa [ints_length] using this
 have hkl : c.coefs.length = m0 := by have := hk.1; simpa [ints_length] using this
 obtain ⟨ob, hob⟩ : ∃ z, w.heap.size = z := ⟨_, rfl⟩
 obtain ⟨X0, hX0, bX0, k0, s0⟩ := alloc_step w (.cells #[.pointer (some ⟨b, 0, none⟩)] 26)
 obtain ⟨X1, hX1, bX1, k1, s1⟩ := alloc_step X0 (.cells #[.slice A n cn, .slice B m0 cm, .int .i64 c.bound] 41)
 have HX0 := hid hX0
 have HX1 := hid hX1
 have B1 := hid (bX0.trans (bX1.mono bX0.size))
 obtain ⟨oc, hoc⟩ : ∃ z, ob + 1 = z := ⟨_, rfl⟩
 rw [hob] at k0 s0
 rw [s0, hoc] at k1 s1
 have k0' := keep_blk k0 bX1
 have c0 : X1.cell? ⟨ob, 0, none⟩ = some (.pointer (some ⟨b, 0, none⟩)) := by rw [cell_of_row _ _ _ _ _ _ k0']; rfl
 obtain ⟨p0, p1, p2⟩ := box3 k1
 have hE1 := hE.below B1.o
 have hcp := hid (show PbRd X1 G (.agg #[.slice A n cn, .slice B m0 cm, .int .i64 c.bound]) c from ⟨⟨A, n, cn, B, m0, cm, rfl, hx.below B1.o, hk.below B1.o⟩, hbd⟩)
 have Hic := hid hic
 have HE1 := hid hE1
 have HEw := hid hE
 obtain ⟨V, hV⟩ : ∃ V, E.fits c = V := ⟨_, rfl⟩
 have HV := hid hV
 have Hx := hid (hx.below B1.o)
 have Hk := hid (hk.below B1.o)
 have Hbd := hid hbd
 clear hX0 hX1 bX0 bX1 k0 hE hE1 hx hk hbd hic k0'
 rw [hV]
 clear hV
 have bad : V = false → Engine X1 (fun g => F g ∨ ob ≤ g) b (if V = true then E.add c else E) := fun h => by rw [h]; exact HE1.o.mono fun g hg => .inl hg
 have Hbad := hid bad
 clear bad
 by_cases hok : c.ok = true
 ·have hcok := (Pb.ok_iff c).1 hok
  have Hcok := hid hcok
  obtain rfl : m0 = n := by have := hcok.len; omega
  have hV2 : V = !(c.lits.any fun l => !(decide (l.natAbs ≤ E.vars))) := by
   rw [← HV.o]
   unfold Eng.fits
   rw [hok, Bool.true_and, Bool.eq_iff_iff]
   simp
  have HV2 := hid hV2
  clear hV2
  have hf := hcok.few
  have hv0 : X1.cell? ⟨b, 0, none⟩ = some (.int .i64 E.vars) := by
   obtain ⟨_, _, _, _, _, _, _, h⟩ := HE1.o
   exact h.cells.1
  obtain ⟨q, hq⟩ : ∃ q, (c.lits.any fun l => !(decide (l.natAbs ≤ E.vars))) = q := ⟨_, rfl⟩
  rw [hq] at HV2
  have Hq := hid hq
  have Hok := hid hok
  clear hq hok hcok
  go_enter Tryz.func42, Tryz.ntmps42
  go_upto_region 1 with fail
  rw [HX0.o, HX1.o]
  go_wp2_with fail
  refine (enone_any HE1.o).mono ?_
  rintro r W1 ⟨rfl, rfl⟩
  go_wp2_with fail
  refine (valid_any hcp.o Hic.o).mono ?_
  rintro r W1 ⟨rfl, b1⟩
  rw [Hok.o]
  have c0 := keep_cell c0 b1
  have p0 := keep_cell p0 b1
  have p1 := keep_cell p1 b1
  have p2 := keep_cell p2 b1
  have hv0 := keep_cell hv0 b1
  have Hx1 := hid (Hx.o.below b1)
  have Hc0 := hid c0
  have Hv0 := hid hv0
  go_wp2_with fail
  refine (containsfunc_any Hx1.o (f := 75) (first := #[]) (captured := #[.pointer (some ⟨ob, 0, none⟩)]) (p := fun l => !(decide (l.natAbs ≤ E.vars))) (enters_of Tryz.func75 (by kernel_rfl) rfl) fun W x hW hxm => ?_).mono ?_
  ·obtain ⟨j, hj, e⟩ := List.getElem_of_mem hxm
   have hlj := Hcok.o.lit j hj
   rw [nth_eq hj, e] at hlj
   exact addc_any (by omega) (keep_cell Hc0.o hW) (keep_cell Hv0.o hW)
  rintro r W2 ⟨rfl, b2⟩
  rw [Hq.o]
  have c0 := keep_cell c0 b2
  have p0 := keep_cell p0 b2
  have p1 := keep_cell p1 b2
  have p2 := keep_cell p2 b2
  have B2 := hid (b1.trans (b2.mono b1.size))
  clear b1 b2 hv0 Hc0 Hv0 Hx1 HX0 HX1 Hq
  cases q with
  | true =>
   obtain rfl : V = false := HV2.o
   go_wp2_with fail
   go_ret
   exact ⟨rfl, (HE1.o.below B2.o).mono fun g hg => .inl hg, Mod.of_below (hob ▸ B1.o.trans (B2.o.mono B1.o.size))⟩
  | false =>
   obtain rfl : V = true := HV2.o
   clear HV2 Hbad
   obtain ⟨hEok, m, es0, clock0, vl, vs, ts, hEF⟩ := HEw.o
   obtain ⟨Al, cl, hvl, _⟩ := hEF.l.form
   obtain ⟨nl, hnl⟩ : ∃ z, E.cs.length = z := ⟨_, rfl⟩
   rw [hnl] at hvl hlen
   subst hvl
   have Hnl := hid hnl
   have B12 := hid (B1.o.trans (B2.o.mono B1.o.size))
   have hsz2 := B2.o.size
   obtain ⟨Z2, hZ2⟩ : ∃ z, W2.heap.size = z := ⟨_, rfl⟩
   have HE2 := hid ((hEF.restrict.keep B12.o.size fun g hg _ => B12.o.block g hg).mono (G := fun g => F g ∧ g < ob ∨ Z2 ≤ g) fun g hg => .inl (by rw [← hob]; exact hg))
   have HXL := hid (Hx.o.mono (G := fun g => ¬ (F g ∧ g < ob ∨ Z2 ≤ g)) fun g hg h => fun h2 => by rcases h2 with h2 | h2; exact hGF g h h2.1; omega)
   have HXL := hid (HXL.o.below B2.o)
   have HXC := hid (Hk.o.mono (G := fun g => ¬ (F g ∧ g < ob ∨ Z2 ≤ g)) fun g hg h => fun h2 => by rcases h2 with h2 | h2; exact hGF g h h2.1; omega)
   have HXC := hid (HXC.o.below B2.o)
   have Hxl := hid hxl
   have Hkl := hid hkl
   have Hob := hid hob
   have Hoc := hid hoc
   have hs2 : ob + 2 ≤ Z2 := by omega
   have hm0 : m0 ≤ 65536 := by omega
   have HEok := hid hEok
   clear hEF hnl hEok hcp HE1 HEw Hx Hk hxl hkl
   go_wp2_with fail
   go_loopw [23] (fun iv W => ∃ (i : Nat) (es : Array MapEntry) (clock : Nat), i ≤ m0 ∧ iv = .int .i64 i ∧ Hid (EngF W (fun g => F g ∧ g < ob ∨ Z2 ≤ g) b m es clock (.slice Al nl cl) vs ts E (addF E.cs c i)) ∧ Hid (Mod (fun g => F g ∧ g < ob ∨ Z2 ≤ g) W2 W)) (fun iv _ => m0 - (intOf iv).toNat)
   case atStart => exact ⟨0, es0, clock0, by omega, rfl, hid (by rw [addF_none]; exact HE2.o), Mod.refl _ _⟩
   case round =>
    obtain ⟨i, es, clock, hi, rfl, HE, HM⟩ := hrel
    have hobF := hid (show ¬ (F ob ∧ ob < ob ∨ Z2 ≤ ob) by omega)
    have hocF := hid (show ¬ (F oc ∧ oc < ob ∨ Z2 ≤ oc) by omega)
    have hb0 : W2.heap[ob]? = W2.heap[ob]? := rfl
    have d0 := (World.cell?_of_block (HM.o.block ob (by omega) hobF.o)).trans c0
    have d1 := (World.cell?_of_block (HM.o.block oc (by omega) hocF.o)).trans p0
    have d2 := (World.cell?_of_block (HM.o.block oc (by omega) hocF.o)).trans p1
    have d3 := (World.cell?_of_block (HM.o.block oc (by omega) hocF.o)).trans p2
    have HL := hid (HXL.o.mod HM.o fun g _ hg => hg)
    have HC := hid (HXC.o.mod HM.o fun g _ hg => hg)
    have hszw := HM.o.size
    obtain ⟨_, f1, f2, _, _⟩ := HE.o.cells
    clear hb0
    by_cases hlt : i < m0
    ·have x1 : (i : Int) < (m0 : Int) := by omega
     obtain ⟨gL, oL, rfl, _, hgL, eL⟩ := HL.o.cell.2 i hlt
     obtain ⟨l, hl⟩ : ∃ l, nth c.lits i = l := ⟨_, rfl⟩
     rw [hl] at eL
     have hnx := hid (addF_next E.cs Hcok.o (i := i) (by rw [Hxl.o]; exact hlt))
     rw [hl, Hnl.o] at hnx
     obtain ⟨f, hf0⟩ : ∃ f, addF E.cs c i = f := ⟨_, rfl⟩
     rw [hf0] at HE hnx
     obtain ⟨v, hlk0, hV0, hcase⟩ := HE.o.inn.look l
     have HV := hid hV0
     have Hv := hid hcase
     have hrow : ∀ g, row v g → rowsIn es g := fun g hg => by
      rcases hcase with ⟨j, x, _, e2, e3, _⟩ | ⟨_, e2, _⟩
      ·exact ⟨j, x, e2, e3 ▸ hg⟩
      ·rw [e2] at hg; exact absurd hg row_zero
     have hlook := fun w2 hw2 => hlk0 w2 122 3 23 hw2 Tryz.underlying122 Tryz.underlying3 (zero_ints w2)
     have hml := HE.o.inn.map
     obtain ⟨Av, cv, rfl, _⟩ := hV0.form
     have hfl : (f l).length ≤ 600000 := by
      rw [← hf0]
      unfold addF occF occL
      rw [List.length_append, List.length_map]
      have := List.length_filter_le (fun j => decide (l ∈ (cAt E.cs j).lits)) (List.range E.cs.length)
      rw [List.length_range] at this
      have hnl2 := Hnl.o
      split
      ·simp; omega
      ·simp; omega
     clear hl hf0 hlk0 hV0 hcase
     go_upto_region 8 with fail
     refine wp_region_upto (S := fun w' => w'.cell? ⟨ob, 0, none⟩ = some (.pointer (some ⟨b, 0, none⟩)) ∧ w'.cell? ⟨b, 1, none⟩ = some (.slice Al nl cl) ∧ w'.cell? ⟨b, 2, none⟩ = some (.map (some m)) ∧ w'.heap[m]? = some (.map es clock)) 18 (by kernel_rfl) ⟨d0, f1, f2, hml⟩ (fun hHeld => ?_)
     obtain ⟨WD, hWD⟩ : ∃ X, wr.drew = X := ⟨_, rfl⟩
     have bD : Below wr.heap.size wr wr.drew := Bl.drew (Below.refl _ _)
     have HE := hid (HE.o.keep bD.size fun g hg _ => bD.block g hg)
     have HV := hid (HV.o.below bD)
     have BD := hid bD
     rw [hWD] at hHeld HE HV BD ⊢
     clear hWD bD
     refine tv [18,3,2,1] 0 ?_
     refine tu 4 ?_
     refine tv [18,17,10,8,7,6] 5 ?_
     refine tu 9 ?_
     refine tv [18,17,16,15,14,13,12] 11 ?_
     refine tu 1 ?_
     refine tu 6 ?_
     refine tu 12 ?_
     refine tu 2 ?_
     refine tu 7 ?_
     refine tu 13 ?_
     refine tv [18] 3 ?_
     refine tv [18,17,10] 8 ?_
     refine tv [18,17,16,15] 14 ?_
     refine tv [18,17] 10 ?_
     refine tu 15 ?_
     refine r1 16 fun K hK => ?_
     go_simp
     obtain ⟨Y, hY, bY, kY, sY⟩ := alloc_step WD (.cells #[.int .i64 (nl : Int)] 3)
     rw [hY]
     refine hK.out _ _ ⟨keep_cell hHeld.1 bY, keep_cell hHeld.2.1 bY, keep_cell hHeld.2.2.1 bY, (bY.block _ (lt_of_block hHeld.2.2.2)).trans hHeld.2.2.2⟩ (fun hHeld => ?_)
     clear hK K
     have HE := hid (HE.o.keep bY.size fun g hg _ => bY.block g hg)
     have HV := hid (HV.o.below bY)
     have HR1 := hid (show Rd Y (fun g => g = WD.heap.size) 1 (.slice (some ⟨WD.heap.size, 0, none⟩) 1 1) 1 (ints [(nl : Int)]) by rw [← hY]; exact (own_one WD _).rd)
     have BY := hid (BD.o.trans (bY.mono BD.o.size))
     clear hY bY kY sY
     refine r1 17 fun K hK => ?_
     refine step_append_ints rfl _ _ rfl HV.o HR1.o rfl rfl (ints_one _) (by omega) ?_
     intro A3 c3 W3 ho3 hm3 hr3
     have hvb : ¬ row (.slice Av (f l).length cv) b := fun e => (HE.o.rowi (hrow b e)).1 rfl
     have hvm : ¬ row (.slice Av (f l).length cv) m := fun e => (HE.o.rowi (hrow m e)).2 rfl
     have hvo : ¬ row (.slice Av (f l).length cv) ob := fun e => by have := (HE.o.inn.inRow (hrow ob e)).1; exact absurd this hobF.o
     refine hK.out _ _ ⟨(World.cell?_of_block (hm3.block ob (World.block_lt_of_cell? _ _ hHeld.1) hvo)).trans hHeld.1, (World.cell?_of_block (hm3.block b (World.block_lt_of_cell? _ _ hHeld.2.1) hvb)).trans hHeld.2.1, (World.cell?_of_block (hm3.block b (World.block_lt_of_cell? _ _ hHeld.2.1) hvb)).trans hHeld.2.2.1, (hm3.block m (lt_of_block hHeld.2.2.2) hvm).trans hHeld.2.2.2⟩ (fun hHeld => ?_)
     clear hK K
     have HP := hid (HE.o.put (ys := f l ++ [(nl : Int)]) Hv.o (by rw [ints_append]; exact ho3) (by rw [List.length_append]; rfl) hm3 hr3)
     clear ho3 hm3 hr3 hvb hvm hvo
     refine l1 18 fun K hK => ?_
     obtain ⟨es', clock', hu, hE2, hM2⟩ := HP.o
     have hup := hu 122 3 23 Tryz.underlying122 Tryz.underlying3
     go_simp
     refine hK.out _ _ ?_
     clear hK K
     refine wpAnyU_done (by kernel_rfl) ?_ _
     have hE3 := hid hE2
     have hM3 := hid (hM2)
     clear hE2 hM2 hu hup
     obtain ⟨WE, hWE⟩ : ∃ X, ChangeMaps.setBlock W3 m (.map es' clock') = X := ⟨_, rfl⟩
     rw [hWE] at hE3 hM3 ⊢
     clear hWE
     go_wp2_with fail
     go_roundw
     case rel => exact ⟨i + 1, es', clock', by omega, by go_num, hid (by rw [hnx.o]; exact hE3.o.mono fun g hg => hg.elim id fun hg => .inr (by have := BY.o.size; omega)), hid (HM.o.trans (((Mod.of_below BY.o).trans (hM3.o.mono fun g _ hg => .inl hg)).mono fun g _ hg => .inl hg))⟩
     case measure => simp [intOf]; omega
    ·have hin : i = m0 := by omega
     have x1 : ¬ ((i : Int) < (m0 : Int)) := by omega
     have hfa : addF E.cs c i = occF (E.cs ++ [c]) := by rw [hin, ← Hxl.o]; exact addF_all _ _
     rw [hfa] at HE
     obtain ⟨ZB, hZB⟩ : ∃ z, wr.heap.size = z := ⟨_, rfl⟩
     have hBs := hid (show ∀ g, ZB ≤ g → g ≠ b ∧ g ≠ m ∧ ¬ row (.slice Al nl cl) g ∧ ¬ rowsIn es g from fun g hg => ⟨fun e => by have := lt_of_block HE.o.blk; omega, fun e => by have := lt_of_block HE.o.inn.map; omega, fun e => by have := lt_of_block (HE.o.l.row e).2.choose_spec; omega, fun e => by have := lt_of_block (HE.o.inn.inRow e).2.choose_spec; omega⟩)
     have hBF := hid (show ∀ g, ZB ≤ g → (F g ∧ g < ob ∨ Z2 ≤ g) from fun g hg => .inr (by omega))
     have Hbnd := Hbd
     clear hin hfa
     go_upto_region 10 with fail
     refine wp_region_upto (S := fun w' => w'.cell? ⟨ob, 0, none⟩ = some (.pointer (some ⟨b, 0, none⟩)) ∧ w'.cell? ⟨b, 1, none⟩ = some (.slice Al nl cl) ∧ w'.cell? ⟨oc, 0, none⟩ = some (.slice A m0 cn) ∧ w'.cell? ⟨oc, 1, none⟩ = some (.slice B m0 cm) ∧ w'.cell? ⟨oc, 2, none⟩ = some (.int .i64 c.bound)) 18 (by kernel_rfl) ⟨d0, f1, d1, d2, d3⟩ (fun hHeld => ?_)
     obtain ⟨WD, hWD⟩ : ∃ X, wr.drew = X := ⟨_, rfl⟩
     have bD : Below wr.heap.size wr wr.drew := Bl.drew (Below.refl _ _)
     have HE := hid (HE.o.keep bD.size fun g hg _ => bD.block g hg)
     have HL := hid (HL.o.below bD)
     have HC := hid (HC.o.below bD)
     have BD := hid bD
     rw [hWD] at hHeld HE HL HC BD ⊢
     clear hWD bD
     refine tv [18,17,16] 0 ?_
     refine tv [18,15,4,3,2] 1 ?_
     refine tu 5 ?_
     refine tu 8 ?_
     refine tu 11 ?_
     refine tu 2 ?_
     refine tv [18,15,10,7] 6 ?_
     refine tv [18,15,10] 9 ?_
     refine tv [18,15,14,13] 12 ?_
     refine tu 3 ?_
     refine tv [18,15] 4 ?_
     refine r1 7 fun K hK => ?_
     go_simp
     refine (clone_any HL.o (by omega)).mono ?_
     rintro r W7 ⟨⟨u, rfl, ho⟩, b1⟩
     obtain ⟨R7, cc7, rfl, _⟩ := ho.form
     have sB := BD.o.size
     refine hK.out _ _ ⟨keep_cell hHeld.1 b1, keep_cell hHeld.2.1 b1, keep_cell hHeld.2.2.1 b1, keep_cell hHeld.2.2.2.1 b1, keep_cell hHeld.2.2.2.2 b1⟩ (fun hHeld => ?_)
     clear hK K
     have HE := hid (HE.o.keep b1.size fun g hg _ => b1.block g hg)
     have HL := hid (HL.o.below b1)
     have HC := hid (HC.o.below b1)
     have R1 := hid (ho.rd.mono (G := fun g => ZB ≤ g) fun g _ (hg : WD.heap.size ≤ g) => by omega)
     have BD := hid (BD.o.trans (b1.mono BD.o.size))
     clear ho b1 sB
     refine r1 10 fun K hK => ?_
     go_simp
     refine (clone_any HC.o (by omega)).mono ?_
     rintro r W10 ⟨⟨u, rfl, ho⟩, b1⟩
     obtain ⟨R10, cc10, rfl, _⟩ := ho.form
     have sB := BD.o.size
     refine hK.out _ _ ⟨keep_cell hHeld.1 b1, keep_cell hHeld.2.1 b1, keep_cell hHeld.2.2.1 b1, keep_cell hHeld.2.2.2.1 b1, keep_cell hHeld.2.2.2.2 b1⟩ (fun hHeld => ?_)
     clear hK K
     have HE := hid (HE.o.keep b1.size fun g hg _ => b1.block g hg)
     have HL := hid (HL.o.below b1)
     have HC := hid (HC.o.below b1)
     have R1 := hid (R1.o.below b1)
     have R2 := hid (ho.rd.mono (G := fun g => ZB ≤ g) fun g _ (hg : W7.heap.size ≤ g) => by omega)
     have BD := hid (BD.o.trans (b1.mono BD.o.size))
     clear ho b1 sB
     refine tu 13 ?_
     refine r1 14 fun K hK => ?_
     go_simp
     obtain ⟨Y, hY, bY, kY, sY⟩ := alloc_step W10 (.cells #[.slice R7 m0 cc7, .slice R10 m0 cc10, .int .i64 c.bound] 41)
     rw [hY]
     refine hK.out _ _ ⟨keep_cell hHeld.1 bY, keep_cell hHeld.2.1 bY, keep_cell hHeld.2.2.1 bY, keep_cell hHeld.2.2.2.1 bY, keep_cell hHeld.2.2.2.2 bY⟩ (fun hHeld => ?_)
     clear hK K
     have HE := hid (HE.o.keep bY.size fun g hg _ => bY.block g hg)
     have R1 := hid (R1.o.below bY)
     have R2 := hid (R2.o.below bY)
     have HR3 := hid (rd_lit3 kY)
     have BD := hid (BD.o.trans (bY.mono BD.o.size))
     have HP := hid (show PbRd Y (fun g => ZB ≤ g) (agg3 (.slice R7 m0 cc7, .slice R10 m0 cc10, .int .i64 c.bound)) c from ⟨⟨R7, m0, cc7, R10, m0, cc10, rfl, R1.o, R2.o⟩, Hbnd.o⟩)
     clear hY bY kY sY
     refine r1 15 fun K hK => ?_
     refine step_append_pb rfl _ _ rfl HE.o.l HR3.o rfl rfl (pb_one HP.o) (by rw [Hnl.o]; omega) ?_
     intro A3 c3 W3 ho3 hm3 hr3
     have hrl : ∀ g, row (.slice Al nl cl) g → g ≠ b ∧ g ≠ ob ∧ g ≠ oc := fun g hg => ⟨(HE.o.rowl hg).1, fun e => by have := (HE.o.l.row hg).1; rw [e] at this; exact absurd this hobF.o, fun e => by have := (HE.o.l.row hg).1; rw [e] at this; exact absurd this hocF.o⟩
     refine hK.out _ _ ⟨(World.cell?_of_block (hm3.block ob (World.block_lt_of_cell? _ _ hHeld.1) fun e => (hrl _ e).2.1 rfl)).trans hHeld.1, (World.cell?_of_block (hm3.block b (World.block_lt_of_cell? _ _ hHeld.2.1) fun e => (hrl _ e).1 rfl)).trans hHeld.2.1, (World.cell?_of_block (hm3.block oc (World.block_lt_of_cell? _ _ hHeld.2.2.1) fun e => (hrl _ e).2.2 rfl)).trans hHeld.2.2.1, (World.cell?_of_block (hm3.block oc (World.block_lt_of_cell? _ _ hHeld.2.2.1) fun e => (hrl _ e).2.2 rfl)).trans hHeld.2.2.2.1, (World.cell?_of_block (hm3.block oc (World.block_lt_of_cell? _ _ hHeld.2.2.1) fun e => (hrl _ e).2.2 rfl)).trans hHeld.2.2.2.2⟩ (fun hHeld => ?_)
     clear hK K
     have HQ := hid (HE.o.push (n := E.cs.length) (t := (_, _, _)) (c := c) (B := ZB) rfl ho3 hm3 hr3 HP.o hBs.o hBF.o)
     have g1 := (World.cell?_of_block (hm3.block b (World.block_lt_of_cell? _ _ HE.o.cells.2.1) fun e => (hrl _ e).1 rfl)).trans HE.o.cells.2.1
     have q1 := (World.frozen?_of_block (hm3.block b (World.block_lt_of_cell? _ _ HE.o.cells.2.1) fun e => (hrl _ e).1 rfl)).trans (HE.o.froz 1)
     clear ho3 hm3 hr3 hrl
     refine tu 16 ?_
     refine tu 17 ?_
     refine l1 18 fun K hK => ?_
     go_simp
     refine hK.out _ _ ?_
     clear hK K
     refine wpAnyU_done (by kernel_rfl) ?_ _
     go_wp2_with fail
     go_ret
     obtain ⟨hQ1, hQ2⟩ := HQ.o
     have sY := BD.o.size
     refine ⟨rfl, ⟨HEok.o.add HV.o, m, es, clock, _, vs, _, hQ1.mono fun g hg => ?_⟩, ?_⟩
     ·rcases hg with (hg | hg) | hg
      ·exact .inl hg.1
      ·exact .inr (by omega)
      ·exact .inr (by omega)
     ·refine (Mod.of_below (F := F) B12.o).trans (((HM.o.trans ((Mod.of_below BD.o).mono fun g _ hg => .inl hg)).trans (hQ2.mono fun g _ hg => .inl hg)).mono fun g _ hg => ?_)
      rcases hg with hg | hg
      ·exact .inl hg.1
      ·exact .inr (by omega)
 ·have hf : c.ok = false := by simpa using hok
  have hV : V = false := by rw [← HV.o]; unfold Eng.fits; rw [hf]; rfl
  subst hV
  go_enter Tryz.func42, Tryz.ntmps42
  go_upto_region 1 with fail
  rw [HX0.o, HX1.o]
  go_wp2_with fail
  refine (enone_any HE1.o).mono ?_
  rintro r W1 ⟨rfl, rfl⟩
  go_wp2_with fail
  refine (valid_any hcp.o Hic.o).mono ?_
  rintro r W1 ⟨rfl, b1⟩
  rw [hf]
  go_wp2_with fail
  go_ret
  exact ⟨rfl, (HE1.o.below b1).mono fun g hg => .inl hg, Mod.of_below (hob ▸ B1.o.trans (b1.mono B1.o.size))⟩
end
end Go.Proofs.YtcjmpobccbnpkaaGreat
