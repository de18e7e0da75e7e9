/-
  Chapter 24: Valid.
-/
import Derived.Test.YtooioikkgdgnnaaDoorPbC
import Derived.Shelf.RegionOpen
namespace Go.Proofs.YtooioikkgdgnnaaDoor
open Go.RowKit Go.Shelf

attribute [local go_sem] Oper.semAt_some

def Pb.last (c : Pb) (j : Nat) : Int := if j = 0 then 0 else ((nth c.lits (j - 1)).natAbs : Nat)
def Pb.sum (c : Pb) (j : Nat) : Int := (c.coefs.take j).sum
def Pb.good (c : Pb) (j : Nat) : Bool := litB (nth c.lits j) && decide (c.last j < ((nth c.lits j).natAbs : Nat)) && decide (1 ≤ nth c.coefs j) && decide (nth c.coefs j ≤ c.bound)
/-- c is in normal form. -/
def Pb.ok (c : Pb) : Bool := decide (c.lits.length = c.coefs.length) && decide (0 ≤ c.bound) && decide (c.bound ≤ 16777216) && (List.range c.lits.length).all c.good &&
  (decide (c.bound ≤ c.sum c.lits.length) || (decide (c.lits.length = 0) && decide (c.bound = 1)))

/-- Valid's walk over the places js: the last variable, the sum, whether all was well. -/
def Pb.step (c : Pb) (s : Int × Int × Bool) (j : Nat) : Int × Int × Bool :=
  (((nth c.lits j).natAbs : Nat), s.2.1 + nth c.coefs j, s.2.2 && (litB (nth c.lits j) && decide (s.1 < ((nth c.lits j).natAbs : Nat)) && decide (1 ≤ nth c.coefs j) && decide (nth c.coefs j ≤ c.bound)))
def Pb.fold (c : Pb) (js : List Nat) : Int × Int × Bool := js.foldl c.step (0, 0, true)
theorem Pb.fold_snoc (c : Pb) (js : List Nat) (j : Nat) : c.fold (js ++ [j]) = c.step (c.fold js) j := by simp [Pb.fold, List.foldl_append]
theorem Pb.fold_range (c : Pb) (h : c.lits.length = c.coefs.length) : ∀ k, k ≤ c.lits.length → c.fold (List.range k) = (c.last k, c.sum k, (List.range k).all c.good) := by
  intro k
  induction k with
  | zero => intro _; simp [Pb.fold, Pb.last, Pb.sum]
  | succ k ih =>
    intro hk
    rw [List.range_succ, Pb.fold_snoc, ih (by omega)]
    unfold Pb.step
    simp only [List.all_append, List.all_cons, List.all_nil, Bool.and_true]
    refine Prod.ext ?_ (Prod.ext ?_ ?_)
    · simp [Pb.last]
    · simp only [Pb.sum]
      rw [take_nth (by omega), List.sum_append]
      simp
    · rfl
theorem Pb.fold_bounds (c : Pb) (hb : c.bound ≤ 16777216) : ∀ js : List Nat, (c.fold js).2.2 = true → 0 ≤ (c.fold js).1 ∧ (c.fold js).1 ≤ 65536 ∧ 0 ≤ (c.fold js).2.1 ∧ (c.fold js).2.1 ≤ (c.fold js).1 * 16777216 := by
  intro js
  have : ∀ n (js : List Nat), js.length = n → (c.fold js).2.2 = true → 0 ≤ (c.fold js).1 ∧ (c.fold js).1 ≤ 65536 ∧ 0 ≤ (c.fold js).2.1 ∧ (c.fold js).2.1 ≤ (c.fold js).1 * 16777216 := by
    intro n
    induction n with
    | zero => intro js h _; rw [List.length_eq_zero_iff.1 h]; simp [Pb.fold]
    | succ n ih =>
      intro js h hf
      have hne : js ≠ [] := fun e => by rw [e] at h; cases h
      rw [← List.dropLast_concat_getLast hne, Pb.fold_snoc] at hf ⊢
      unfold Pb.step at hf ⊢
      simp only [Bool.and_eq_true, decide_eq_true_eq] at hf
      obtain ⟨h0, ⟨⟨h1, h2⟩, h3⟩, h4⟩ := hf
      obtain ⟨b1, b2, b3, b4⟩ := ih js.dropLast (by simp [h]) h0
      unfold litB at h1
      simp only [decide_eq_true_eq] at h1
      simp only []
      generalize c.fold js.dropLast = S at *
      omega
  exact this _ js rfl

set_option maxRecDepth 100000 in
set_option maxHeartbeats 4000000 in
theorem valid_any {w : World} {F : Nat → Prop} {v : Value} {c : Pb} (hc : PbRd w F v c) (hi : ∀ k ∈ c.coefs, I64 k) :
    Calls Tryd.prog 33 #[v] w fun r w' => r = .returned (.bool c.ok) ∧ Below w.heap.size w w' := by
  obtain ⟨⟨A, n, cn, B, m, cm, rfl, hx, hk⟩, hb⟩ := hc
  have hxl : c.lits.length = n := by have := hx.1; simpa [ints_length] using this
  have hkl : c.coefs.length = m := by have := hk.1; simpa [ints_length] using this
  obtain ⟨bd, hbd⟩ : ∃ b, c.bound = b := ⟨_, rfl⟩
  rw [hbd] at hb ⊢
  unfold I64 at hb
  by_cases hnm : n = m
  · subst hnm
    by_cases hb0 : 0 ≤ bd
    · by_cases hb1 : bd ≤ 16777216
      · have q1 : (bd < 0) = False := by simp; omega
        have q2 : (16777216 < bd) = False := by simp; omega
        have q3 : decide (bd < 0) = false := by simp; omega
        have q4 : decide (16777216 < bd) = false := by simp; omega
        refine callsIn_wide (n := 5).1 ?_
        refine callsIn_of_wp_marks Tryd.func33 rfl trivial ?_ rfl
        simp only [Tryd.ntmps33, List.size_toArray, List.length_cons, List.length_nil, Nat.reduceAdd, Nat.reduceSub, Array.replicate_succ, Array.replicate_zero, List.push_toArray, List.append_toArray, List.nil_append, List.cons_append]
        gi_wp2_with fail
        refine ⟨trivial, (parts_in 4 _ _ _ _).mono ?_⟩
        rintro e w' ⟨rfl, rfl⟩
        obtain ⟨z1, z2, z3⟩ := allocs_get w [.cells #[.slice A n cn, .slice B n cm, .int .i64 bd] 24, .cells #[.bool false] 4, .cells #[.int .i64 0] 3, .cells #[.int .i64 0] 3, .cells #[.slice A n cn, .slice B n cm, .int .i64 bd] 24]
        obtain ⟨W0, hW0⟩ : ∃ W0, allocs w [.cells #[.slice A n cn, .slice B n cm, .int .i64 bd] 24, .cells #[.bool false] 4, .cells #[.int .i64 0] 3, .cells #[.int .i64 0] 3, .cells #[.slice A n cn, .slice B n cm, .int .i64 bd] 24] = W0 := ⟨_, rfl⟩
        rw [hW0] at z1 z2 z3
        unfold allocs at hW0
        simp only [List.foldl_cons, List.foldl_nil] at hW0
        simp only [World.size_alloc]
        rw [hW0]
        simp only [List.length_cons, List.length_nil, Nat.zero_add, Nat.reduceAdd] at z1
        have k0 := z3 0 _ rfl
        have k1 := Bx.of_block (z3 1 _ rfl)
        have k2 := Bx.of_block (z3 2 _ rfl)
        have k3 := Bx.of_block (z3 3 _ rfl)
        have k4 := z3 4 _ rfl
        rw [Nat.add_zero] at k0
        have hx0 := (hx.mono (G := fun g => g < w.heap.size) fun g hg _ => hg).below z2
        have hk0 := (hk.mono (G := fun g => g < w.heap.size) fun g hg _ => hg).below z2
        clear hW0 z3
        obtain ⟨sz, hsz⟩ : ∃ s, w.heap.size = s := ⟨_, rfl⟩
        rw [hsz] at z1 z2 k0 k1 k2 k3 k4 hx0 hk0
        rw [hsz]
        gi_wp2_with fail
        simp only [Nat.add_assoc, Nat.reduceAdd]
        have c0 : W0.cell? ⟨sz + 4, 0, none⟩ = some (.slice A n cn) := by rw [cell_of_row _ _ _ _ _ _ k4]; rfl
        have c1 : W0.cell? ⟨sz + 4, 1, none⟩ = some (.slice B n cm) := by rw [cell_of_row _ _ _ _ _ _ k4]; rfl
        have d0 : W0.cell? ⟨sz, 0, none⟩ = some (.slice A n cn) := by rw [cell_of_row _ _ _ _ _ _ k0]; rfl
        have d2 : W0.cell? ⟨sz, 2, none⟩ = some (.int .i64 bd) := by rw [cell_of_row _ _ _ _ _ _ k0]; rfl
        refine' wpIn_rangeFunc_ownF (α := Fin n) rfl (by omega) (gf := 78) (lb := #[.pointer (some ⟨sz + 4, 0, none⟩)]) rfl trivial (enters_of Tryd.func78 (by kernel_rfl) rfl)
          (parts_stops 4 (sz + 4) sz (by omega) (F := fun g => g < sz) (fun g hg => hg) W0 c0 c1 hx0 hk0) (fun h k => h.trans k) (kpb_b (by omega) (by omega)) (Below.refl _ _) (fun _ => rfl)
          (fun pre W => ((c.fold (pre.map Fin.val)).2.2 = true ∧ Bx W (sz + 2) (.int .i64 (c.fold (pre.map Fin.val)).1) ∧ Bx W (sz + 3) (.int .i64 (c.fold (pre.map Fin.val)).2.1) ∧ Bx W (sz + 1) (.bool false) ∧ W.cell? ⟨sz, 0, none⟩ = some (.slice A n cn) ∧ W.cell? ⟨sz, 2, none⟩ = some (.int .i64 bd)) ∧ Below sz w W)
          (fun co pre W => (co = .ret ∧ (c.fold (pre.map Fin.val)).2.2 = false ∧ Bx W (sz + 1) (.bool false)) ∧ Below sz w W)
          (OwnFrom.and (Own.from (fun s A B row hs hg hr => ⟨hs.1, hs.2.1.kept hg hr, hs.2.2.1.kept hg hr, hs.2.2.2.1.kept hg hr, cell_kept hs.2.2.2.2.1 hg hr, cell_kept hs.2.2.2.2.2 hg hr⟩) _) (ownFrom_below (by omega) (by omega)))
          (fun co => OwnFrom.and (Own.from (fun s A B row hs hg hr => ⟨hs.1, hs.2.1, hs.2.2.kept hg hr⟩) _) (ownFrom_below (by omega) (by omega)))
          ⟨⟨rfl, k2, k3, k1, d0, d2⟩, z2⟩ _ ?assign ?body ?done ?stop
        case assign =>
          intro l x W K hK
          gi_wp2
          exact hK
        case body =>
          rintro l pre x W ⟨⟨hf, e2, e3, e1, e0, e4⟩, hB⟩ hpre
          have hbn := c.fold_bounds (by omega) _ hf
          have hsn := c.fold_snoc (pre.map Fin.val) x.val
          have hmp : (pre ++ [x]).map Fin.val = pre.map Fin.val ++ [x.val] := by simp
          rw [← hmp] at hsn
          obtain ⟨li, hli⟩ : ∃ l, nth c.lits x.val = l := ⟨_, rfl⟩
          obtain ⟨ki, hki⟩ : ∃ l, nth c.coefs x.val = l := ⟨_, rfl⟩
          have hki64 : I64 ki := hi ki (by rw [← hki]; exact nth_mem (by have := x.isLt; omega))
          obtain ⟨S, hS⟩ : ∃ S, c.fold (pre.map Fin.val) = S := ⟨_, rfl⟩
          rw [hS] at hf e2 e3 hbn hsn
          obtain ⟨la, su, ok⟩ := S
          simp only [] at hf e2 e3 hbn
          subst hf
          unfold Pb.step at hsn
          rw [hli, hki, hbd] at hsn
          rw [hli, hki]
          obtain ⟨b1, b2, b3, b4⟩ := hbn
          unfold I64 at hki64
          have Hsn := hid hsn
          have HB := hid hB
          clear hsn hB hli hki hS hmp
          by_cases h1 : litB li = true
          · obtain ⟨l1, l2, l3⟩ : li ≠ 0 ∧ -65536 ≤ li ∧ li ≤ 65536 := by unfold litB at h1; simpa using h1
            have H1 := hid h1
            obtain ⟨v, hv⟩ : ∃ v, li.natAbs = v := ⟨_, rfl⟩
            have hv1 : v ≤ 65536 := by omega
            have Hv := hid hv
            clear h1 hv
            by_cases h2 : la < (v : Int)
            · have p1 : ((v : Int) ≤ la) = False := by simp; omega
              by_cases h3 : 1 ≤ ki
              · have p2 : (ki < 1) = False := by simp; omega
                by_cases h4 : ki ≤ bd
                · have p3 : (bd < ki) = False := by simp; omega
                  have hw : IntKind.i64.wrap (su + ki) = su + ki := iw' (by omega) (by omega)
                  have e2c := e2.1
                  have e2f := e2.2
                  have e3c := e3.1
                  have e3f := e3.2
                  have hmix : Tryd.prog.follows .mixedOrders = true := by kernel_rfl
                  gi_wp2_with fail
                  gi_region_with_o (first
                    | (refine ⟨trivial, ?_⟩; gi_at_call 63; refine (CallsIn.inRound l (callsIn_wide.2 literal_any)).mono ?_; rw [H1.out]; rintro r w4 ⟨rfl, rfl⟩)
                    | (refine ⟨trivial, ?_⟩; gi_at_call 61; refine (CallsIn.inRound l (callsIn_wide.2 (abs_any (by omega) (by omega)))).mono ?_; rw [Hv.out]; rintro r w4 ⟨rfl, rfl⟩))
                  all_goals gi_wp2_with (refine ⟨trivial, ?_⟩; gi_at_call 61; refine (CallsIn.inRound l (callsIn_wide.2 (abs_any (by omega) (by omega)))).mono ?_; rw [Hv.out]; rintro r w4 ⟨rfl, rfl⟩)
                  all_goals exact ⟨((KeepsOthers.drew W).trans (KeepsOthers.setCell _ _ _)).trans (KeepsOthers.setCell _ _ _), ((KpB.refl _ _ _).drew.set (Nat.le_add_right _ _) (by omega) _).set (Nat.le_add_right _ _) (by omega) _,
                    ⟨by rw [Hsn.out]; have := Hv.out; simp [H1.out]; omega, by rw [Hsn.out, Hv.out]; exact Bx.far (Bx.put e2 _) (by omega) _, by rw [Hsn.out]; exact Bx.put (Bx.far e3 (by omega) _) _, Bx.far (Bx.far e1 (by omega) _) (by omega) _,
                      cell_set_far (cell_set_far e0 (by omega) _) (by omega) _, cell_set_far (cell_set_far e4 (by omega) _) (by omega) _⟩,
                    ((Below.drew HB.out).setCell (p := ⟨sz + 2, 0, none⟩) (Nat.le_add_right _ _) _).setCell (p := ⟨sz + 3, 0, none⟩) (Nat.le_add_right _ _) _⟩
                · have p3 : bd < ki := by omega
                  have p4 : decide (bd < ki) = true := by simpa using p3
                  have hmix : Tryd.prog.follows .mixedOrders = true := by kernel_rfl
                  have e1c := e1.1
                  have e2c := e2.1
                  have e2f := e2.2
                  have e1f := e1.2
                  gi_wp2_with fail
                  gi_region_with_o (first
                                      | (refine ⟨trivial, ?_⟩; gi_at_call 63; refine (CallsIn.inRound l (callsIn_wide.2 literal_any)).mono ?_; rw [H1.out]; rintro r w4 ⟨rfl, rfl⟩)
                                      | (refine ⟨trivial, ?_⟩; gi_at_call 61; refine (CallsIn.inRound l (callsIn_wide.2 (abs_any (by omega) (by omega)))).mono ?_; rw [Hv.out]; rintro r w4 ⟨rfl, rfl⟩))
                  all_goals gi_wp2
                  all_goals exact ⟨(KeepsOthers.drew W).trans (KeepsOthers.setCell _ _ _), ⟨rfl, by rw [Hsn.out]; have := Hv.out; simp; intros; omega, Bx.put e1 _⟩, (Below.drew HB.out).setCell (p := ⟨sz + 1, 0, none⟩) (Nat.le_add_right _ _) _⟩
              · have p2 : ki < 1 := by omega
                have hmix : Tryd.prog.follows .mixedOrders = true := by kernel_rfl
                have e1c := e1.1
                have e2c := e2.1
                have e2f := e2.2
                have e1f := e1.2
                gi_wp2_with fail
                gi_region_with_o (first
                                    | (refine ⟨trivial, ?_⟩; gi_at_call 63; refine (CallsIn.inRound l (callsIn_wide.2 literal_any)).mono ?_; rw [H1.out]; rintro r w4 ⟨rfl, rfl⟩)
                                    | (refine ⟨trivial, ?_⟩; gi_at_call 61; refine (CallsIn.inRound l (callsIn_wide.2 (abs_any (by omega) (by omega)))).mono ?_; rw [Hv.out]; rintro r w4 ⟨rfl, rfl⟩))
                all_goals gi_wp2
                all_goals exact ⟨(KeepsOthers.drew W).trans (KeepsOthers.setCell _ _ _), ⟨rfl, by rw [Hsn.out]; have := Hv.out; simp; intros; omega, Bx.put e1 _⟩, (Below.drew HB.out).setCell (p := ⟨sz + 1, 0, none⟩) (Nat.le_add_right _ _) _⟩
            · have p1 : (v : Int) ≤ la := by omega
              have hmix : Tryd.prog.follows .mixedOrders = true := by kernel_rfl
              have e1c := e1.1
              have e2c := e2.1
              have e2f := e2.2
              have e1f := e1.2
              gi_wp2_with fail
              gi_region_with_o (first
                                  | (refine ⟨trivial, ?_⟩; gi_at_call 63; refine (CallsIn.inRound l (callsIn_wide.2 literal_any)).mono ?_; rw [H1.out]; rintro r w4 ⟨rfl, rfl⟩)
                                  | (refine ⟨trivial, ?_⟩; gi_at_call 61; refine (CallsIn.inRound l (callsIn_wide.2 (abs_any (by omega) (by omega)))).mono ?_; rw [Hv.out]; rintro r w4 ⟨rfl, rfl⟩))
              all_goals gi_wp2
              all_goals exact ⟨(KeepsOthers.drew W).trans (KeepsOthers.setCell _ _ _), ⟨rfl, by rw [Hsn.out]; have := Hv.out; simp; intros; omega, Bx.put e1 _⟩, (Below.drew HB.out).setCell (p := ⟨sz + 1, 0, none⟩) (Nat.le_add_right _ _) _⟩
          · have h1 : litB li = false := by simpa using h1
            have H1 := hid h1
            have Hv : Hid (li.natAbs = li.natAbs) := rfl
            clear h1
            have hmix : Tryd.prog.follows .mixedOrders = true := by kernel_rfl
            have e1c := e1.1
            have e2c := e2.1
            have e2f := e2.2
            have e1f := e1.2
            gi_wp2_with fail
            gi_region_with_o (first
                                | (refine ⟨trivial, ?_⟩; gi_at_call 63; refine (CallsIn.inRound l (callsIn_wide.2 literal_any)).mono ?_; rw [H1.out]; rintro r w4 ⟨rfl, rfl⟩)
                                | (refine ⟨trivial, ?_⟩; gi_at_call 61; refine (CallsIn.inRound l (callsIn_wide.2 (abs_any (by omega) (by omega)))).mono ?_; rw [Hv.out]; rintro r w4 ⟨rfl, rfl⟩)
                                | (refine ⟨trivial, ?_⟩))
            all_goals gi_wp2
            all_goals exact ⟨(KeepsOthers.drew W).trans (KeepsOthers.setCell _ _ _), ⟨rfl, by rw [Hsn.out]; simp [H1.out], Bx.put e1 _⟩, (Below.drew HB.out).setCell (p := ⟨sz + 1, 0, none⟩) (Nat.le_add_right _ _) _⟩
        case done =>
          rintro D ys W hD hys ⟨⟨hf, e2, e3, e1, e0, e4⟩, hB⟩ hK
          unfold SomeOf at hys
          rw [hys, ← hxl, c.fold_range (by omega) _ (Nat.le_refl _)] at hf e3
          simp only [] at hf e3
          obtain ⟨su, hsu⟩ : ∃ s, c.sum c.lits.length = s := ⟨_, rfl⟩
          have hok : c.ok = (decide (bd ≤ su) || (decide (n = 0) && decide (bd = 1))) := by
            unfold Pb.ok
            rw [hf, hsu, hbd, hxl, hkl]
            simp [hb0, hb1]
          rw [hsu] at e3
          have e0c := e0
          have e1c := e1.1
          have e1f := e1.2
          have e3c := e3.1
          by_cases t1 : bd ≤ su
          · have t1' : decide (bd ≤ su) = true := by simpa using t1
            have hokt : c.ok = true := by rw [hok, t1']; rfl
            have Hok := hid hokt
            clear hokt hok
            gi_wp2
            have hK' := (KeepsOthers.setCell W ⟨sz + 1, 0, none⟩ (.bool true)).same D _ hK rfl
            refine ⟨by simp, .inl ⟨_, _, rfl, run_takeDeferred hK', ?_⟩⟩
            have hc5 := cell_kept (Bx.put e1 (.bool true)).1 (grownBy_putObj' _ D (.deferred none)) (fun r e => by cases e; exact ⟨_, hK', rfl⟩)
            refine ⟨.bool true, ?_, by rw [Hok.out], by (try rw [hsz]); exact (hB.setCell (p := ⟨sz + 1, 0, none⟩) (Nat.le_add_right _ _) _).trans (belowK_b (w := w) (by omega) _ D _ _ (by omega) hK' rfl rfl)⟩
            simp [results, Tryd.f33, go_sem, hc5]
          · have t1' : decide (bd ≤ su) = false := by simpa using t1
            by_cases t2 : n = 0
            · by_cases t3 : bd = 1
              · have hokt : c.ok = true := by rw [hok]; simp [t2, t3]
                have t2' : ((n : Int) == 0) = true := by simpa using t2
                have t3' : (bd == 1) = true := by simpa using t3
                clear t2 t3
                have Hok := hid hokt
                clear hokt hok
                gi_wp2
                have hK' := (KeepsOthers.setCell W ⟨sz + 1, 0, none⟩ (.bool true)).same D _ hK rfl
                refine ⟨by simp, .inl ⟨_, _, rfl, run_takeDeferred hK', ?_⟩⟩
                have hc5 := cell_kept (Bx.put e1 (.bool true)).1 (grownBy_putObj' _ D (.deferred none)) (fun r e => by cases e; exact ⟨_, hK', rfl⟩)
                refine ⟨.bool true, ?_, by rw [Hok.out], by (try rw [hsz]); exact (hB.setCell (p := ⟨sz + 1, 0, none⟩) (Nat.le_add_right _ _) _).trans (belowK_b (w := w) (by omega) _ D _ _ (by omega) hK' rfl rfl)⟩
                simp [results, Tryd.f33, go_sem, hc5]
              · have hokt : c.ok = false := by rw [hok, t1']; simp [t3]
                have t2' : ((n : Int) == 0) = true := by simpa using t2
                have t3' : (bd == 1) = false := by simpa using t3
                clear t2 t3
                have Hok := hid hokt
                clear hokt hok
                gi_wp2
                have hK' := (KeepsOthers.setCell W ⟨sz + 1, 0, none⟩ (.bool false)).same D _ hK rfl
                refine ⟨by simp, .inl ⟨_, _, rfl, run_takeDeferred hK', ?_⟩⟩
                have hc5 := cell_kept (Bx.put e1 (.bool false)).1 (grownBy_putObj' _ D (.deferred none)) (fun r e => by cases e; exact ⟨_, hK', rfl⟩)
                refine ⟨.bool false, ?_, by rw [Hok.out], by (try rw [hsz]); exact (hB.setCell (p := ⟨sz + 1, 0, none⟩) (Nat.le_add_right _ _) _).trans (belowK_b (w := w) (by omega) _ D _ _ (by omega) hK' rfl rfl)⟩
                simp [results, Tryd.f33, go_sem, hc5]
            · have hokt : c.ok = false := by rw [hok, t1']; simp [t2]
              have t2' : ((n : Int) == 0) = false := by simpa using t2
              clear t2
              have Hok := hid hokt
              clear hokt hok
              gi_wp2
              have hK' := (KeepsOthers.setCell W ⟨sz + 1, 0, none⟩ (.bool false)).same D _ hK rfl
              refine ⟨by simp, .inl ⟨_, _, rfl, run_takeDeferred hK', ?_⟩⟩
              have hc5 := cell_kept (Bx.put e1 (.bool false)).1 (grownBy_putObj' _ D (.deferred none)) (fun r e => by cases e; exact ⟨_, hK', rfl⟩)
              refine ⟨.bool false, ?_, by rw [Hok.out], by (try rw [hsz]); exact (hB.setCell (p := ⟨sz + 1, 0, none⟩) (Nat.le_add_right _ _) _).trans (belowK_b (w := w) (by omega) _ D _ _ (by omega) hK' rfl rfl)⟩
              simp [results, Tryd.f33, go_sem, hc5]
        case stop =>
          rintro D co pre W hD ⟨k, hkn, hpre⟩ ⟨⟨rfl, hf, e1⟩, hB⟩ hK
          unfold SomeOf at hpre
          have hok : c.ok = false := by
            rw [hpre, c.fold_range (by omega) _ (by omega)] at hf
            simp only [] at hf
            unfold Pb.ok
            have hall : (List.range c.lits.length).all c.good = false := by
              rw [List.all_eq_false] at hf ⊢
              obtain ⟨q, hq, h⟩ := hf
              exact ⟨q, by rw [List.mem_range] at hq ⊢; omega, h⟩
            rw [hall]
            simp
          have Hok := hid hok
          clear hok
          gi_wp2
          refine ⟨by simp, .inl ⟨_, _, rfl, run_takeDeferred hK, ?_⟩⟩
          have hc5 := cell_kept e1.1 (grownBy_putObj' _ D (.deferred none)) (fun r e => by cases e; exact ⟨_, hK, rfl⟩)
          refine ⟨.bool false, ?_, by rw [Hok.out], by (try rw [hsz]); exact hB.trans (belowK_b (w := w) (by omega) W D _ _ (by omega) hK rfl rfl)⟩
          simp [results, Tryd.f33, go_sem, hc5]
      · have q1 : (bd < 0) = False := by simp; omega
        have q2 : 16777216 < bd := by omega
        have q3 : decide (bd < 0) = false := by simp; omega
        have q4 : decide (16777216 < bd) = true := by simpa using q2
        have hok : c.ok = false := by unfold Pb.ok; rw [hbd]; simp [hb1]
        rw [hok]
        go_enter Tryd.func33, Tryd.ntmps33
        go_wp2_with fail
        obtain ⟨_, y2, y3⟩ := allocs_get w [.cells #[.slice A n cn, .slice B n cm, .int .i64 bd] 24, .cells #[.bool false] 4]
        have hcell : ((w.alloc (.cells #[.slice A n cn, .slice B n cm, .int .i64 bd] 24)).alloc (.cells #[.bool false] 4)).cell? ⟨w.heap.size + 1, 0, none⟩ = some (.bool false) := (Bx.of_block (y3 1 _ rfl)).1
        exact bodyPost_ret (v := .bool false) (by simp [results, Tryd.f33, go_sem, hcell]) rfl ⟨rfl, y2⟩
    · have q1 : bd < 0 := by omega
      have q3 : decide (bd < 0) = true := by simpa using q1
      have hok : c.ok = false := by unfold Pb.ok; rw [hbd]; simp [hb0]
      rw [hok]
      go_enter Tryd.func33, Tryd.ntmps33
      go_wp2_with fail
      obtain ⟨_, y2, y3⟩ := allocs_get w [.cells #[.slice A n cn, .slice B n cm, .int .i64 bd] 24, .cells #[.bool false] 4]
      have hcell : ((w.alloc (.cells #[.slice A n cn, .slice B n cm, .int .i64 bd] 24)).alloc (.cells #[.bool false] 4)).cell? ⟨w.heap.size + 1, 0, none⟩ = some (.bool false) := (Bx.of_block (y3 1 _ rfl)).1
      exact bodyPost_ret (v := .bool false) (by simp [results, Tryd.f33, go_sem, hcell]) rfl ⟨rfl, y2⟩
  · have q1 : ((n : Int) != (m : Int)) = true := by simp; omega
    have q2 : (n != m) = true := by simp; omega
    have hok : c.ok = false := by unfold Pb.ok; rw [hxl, hkl]; simp [hnm]
    rw [hok]
    go_enter Tryd.func33, Tryd.ntmps33
    go_wp2_with fail
    obtain ⟨_, y2, y3⟩ := allocs_get w [.cells #[.slice A n cn, .slice B m cm, .int .i64 bd] 24, .cells #[.bool false] 4]
    have hcell : ((w.alloc (.cells #[.slice A n cn, .slice B m cm, .int .i64 bd] 24)).alloc (.cells #[.bool false] 4)).cell? ⟨w.heap.size + 1, 0, none⟩ = some (.bool false) := (Bx.of_block (y3 1 _ rfl)).1
    exact bodyPost_ret (v := .bool false) (by simp [results, Tryd.f33, go_sem, hcell]) rfl ⟨rfl, y2⟩
end Go.Proofs.YtooioikkgdgnnaaDoor
