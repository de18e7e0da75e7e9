/-
  Chapter 25: several texts in one (merge.py: RgA RgB LwSame PbOpen4 LwRuns).
-/
import Derived.Test.YtooioikkgdgnnaaDoorCvM
import Derived.Test.YtooioikkgdgnnaaDoorCuF
import Derived.Test.YtooioikkgdgnnaaDoorRfB
import Derived.Test.YtooioikkgdgnnaaDoorRfK
import Derived.Test.YtooioikkgdgnnaaDoorPbOpen
import Derived.Deep.Slices
import Derived.ProofKit
import Derived.Test.YtooioikkgdgnnaaDoorCuE
namespace Go.Proofs.YtooioikkgdgnnaaDoor
section
open Go.RowKit

theorem box2c {W : World} {b : Nat} {x y : Value} {t : TypeId} {fz : Nat × Nat} (k : W.heap[b]? = some (.cells #[x, y] t fz)) : W.cell? ⟨b, 0, none⟩ = some x ∧ W.cell? ⟨b, 1, none⟩ = some y :=
  ⟨by rw [cell_of_row _ _ _ _ _ _ k]; rfl, by rw [cell_of_row _ _ _ _ _ _ k]; rfl⟩
theorem slice_pbo {g o n c i : Nat} (hi : i ≤ n) (hc : n ≤ c) (W : World) : (Instr.slice 36 (.slice (some ⟨g, o, none⟩) n c) none (some (.int .i64 (i : Int))) none).run Tryd.prog W = .ok (.slice (some ⟨g, o, none⟩) i c) W := by
  have h1 : (0 : Int) ≤ (i : Int) ∧ (i : Int) ≤ (c : Int) := by omega
  have h2 : (⟨g, o, none⟩ : Addr).add 0 = ⟨g, o, none⟩ := addr_add g o 0
  simp [Instr.slice, Instr.sliceBounds, Instr.sliceBound, run_underlying Tryd.underlying36, asIntOf, h1, h2, Tryd.sizeOf24]
  exact fun h => absurd h (by omega)
/-- What an operation of the reference gives. -/
def DoTo (P : Nat → Prop) (W W' : World) (r : Ending) (x : List Pb × Int) : Prop := (∃ v, r = .returned (.tuple #[v, .int .i64 x.2]) ∧ (x.2 = 0 → ∃ A c, v = .slice A x.1.length c ∧ PsRd W' (fun g => P g ∨ W.heap.size ≤ g) (fun g => P g ∨ W.heap.size ≤ g) A x.1.length c x.1)) ∧ Below W.heap.size W W'
theorem flat3_snoc (ts : List (Value × Value × Value)) (x y z : Value) : flat3 ts ++ [x, y, z] = flat3 (ts ++ [(x, y, z)]) := by rw [flat3_append]; rfl
theorem ps_snoc {X W : World} {Q F G H : Nat → Prop} {ts : List (Value × Value × Value)} {s : List Pb} {p : Pb} {A : Option Addr} {c : Nat} {x y z : Value} (hr : Rd W F 3 (.slice A (s.length + 1) c) (s.length + 1) (flat3 ts ++ [x, y, z])) (hs : Ps X G ts s) (hp : PbRd X H (.agg #[x, y, z]) p) (b : Below X.heap.size X W)
    (hF : ∀ g, F g → Q g) (hG : ∀ g, G g → Q g) (hH : ∀ g, H g → Q g) : PsRd W Q Q A (s ++ [p]).length c (s ++ [p]) := by
  rw [List.length_append, List.length_singleton]
  refine ⟨ts ++ [(x, y, z)], by rw [← flat3_snoc]; exact hr.mono fun _ _ h => hF _ h, ((hs.mono fun _ _ h => hG _ h).snoc (t := (x, y, z)) (hp.mono fun _ _ h => hH _ h)).below b, by simp⟩

set_option maxRecDepth 100000 in
set_option maxHeartbeats 16000000 in
theorem rdo_any {W : World} {P : Nat → Prop} {A D : Option Addr} {n c dn dc : Nat} {s db : List Pb} {kd : Nat} {z : Int} (hs : PsRd W P P A n c s) (hd : PsRd W P P D dn dc db) (hn : n ≤ 1000) (hok : ∀ p ∈ s, p.Ok) (hz : I64 z) :
    Calls Tryd.prog 51 #[.agg #[.int .u8 kd, .int .i64 z], .slice A n c, .slice D dn dc] W fun r W' => DoTo P W W' r (stepB db s ⟨kd, z⟩) := by
  obtain ⟨x, hx⟩ : ∃ x, stepB db s ⟨kd, z⟩ = x := ⟨_, rfl⟩
  rw [hx]
  have Hx := hid hx
  obtain ⟨ob, hob⟩ : ∃ o, W.heap.size = o := ⟨_, rfl⟩
  obtain ⟨X0, hX0, bX0, k0, s0⟩ := alloc_step W (.cells #[.int .u8 kd, .int .i64 z] 44)
  have HX0 := hid hX0
  have B0 := hid bX0
  rw [hob] at k0 s0
  obtain ⟨t0, t1⟩ := box2c k0
  have hs0 := hs.below bX0
  have hd0 := hd.below bX0
  have hsl := hid (show s.length = n by obtain ⟨_, _, _, h⟩ := hs; exact h)
  have hdl := hid (show db.length = dn by obtain ⟨_, _, _, h⟩ := hd; exact h)
  have hs1 := hid hs0
  have hd1 := hid hd0
  obtain ⟨ts, rs, ps, _⟩ := hs0
  have RS := hid rs
  have PS := hid ps
  have HSO := hid ps.one
  unfold I64 at hz
  have hz1 : -9223372036854775808 ≤ z ∧ z ≤ 9223372036854775807 := hz
  clear hX0 bX0 k0 hs hd hx hz hd0 rs ps
  by_cases k1 : kd = 1
  · have y1 : decide ((kd : Int) = 1) = true := by simp; omega
    have y1b : ((kd : Int) == 1) = true := by simp; omega
    by_cases h0 : z < 0
    · obtain rfl : x = (s, 2) := by rw [← Hx.out]; simp [stepB, k1, h0]
      clear Hx k1
      go_enter Tryd.func51, Tryd.ntmps51
      go_upto_region 1 with fail
      rw [HX0.out]
      go_wp2_with fail
      refine bodyPost_ret (v := .tuple #[.slice none 0 0, .int .i64 2]) (by simp [results, Tryd.f51, go_sem]) rfl ?_
      exact ⟨⟨_, rfl, fun h => absurd (show (2 : Int) = 0 from h) (by decide)⟩, B0.out⟩
    · have h0' : ¬ (z < 0) := h0
      by_cases h1 : z < (dn : Int)
      · have h1' : ¬ (z ≥ (dn : Int)) := by omega
        obtain ⟨i, hi⟩ : ∃ i : Nat, z = i := ⟨z.toNat, by omega⟩
        subst hi
        have hin : i < dn := by omega
        obtain ⟨gD, oD, p, D1, n1, c1, D2, n2, c2, rfl, _, _, hpi, e0, e1, e2, hp⟩ := hd1.out.cells hin
        have HP := hid hp
        have HPO := hid (pb_one hp)
        obtain rfl : x = (s ++ [p], 0) := by
          rw [← Hx.out]
          have : pbAt db i = p := by unfold pbAt; rw [hpi]; rfl
          simp [stepB, k1, hdl.out, this]
          omega
        clear Hx hpi hp k1
        go_enter Tryd.func51, Tryd.ntmps51
        go_upto_region 1 with fail
        rw [HX0.out]
        go_upto_region 5 with fail
        refine wp_region_held_drew (S := fun w' => w'.cell? ⟨ob, 0, none⟩ = some (.int .u8 (kd : Int)) ∧ w'.cell? ⟨ob, 1, none⟩ = some (.int .i64 (i : Int)) ∧ w'.cell? ⟨gD, oD + i * 3, none⟩ = some (.slice D1 n1 c1) ∧ w'.cell? ⟨gD, oD + i * 3 + 1, none⟩ = some (.slice D2 n2 c2) ∧ w'.cell? ⟨gD, oD + i * 3 + 2, none⟩ = some (.int .i64 p.bound) ∧ Hid (Below X0.heap.size X0 w')) (by kernel_rfl) ⟨keep_cell t0 (Bl.drew (Below.refl _ _)), keep_cell t1 (Bl.drew (Below.refl _ _)), keep_cell e0 (Bl.drew (Below.refl _ _)), keep_cell e1 (Bl.drew (Below.refl _ _)), keep_cell e2 (Bl.drew (Below.refl _ _)), hid ((Bl.drew (Below.refl _ _)))⟩ (fun hHeld => ?_)
        obtain ⟨WD, hWD⟩ : ∃ X, X0.drew = X := ⟨_, rfl⟩
        rw [hWD] at hHeld ⊢
        clear hWD
        refine wpAnyH_take (i := 1) (oi := ⟨_, _, _, _, _, _⟩) (v := ?_) rfl (by kernel_rfl) (by kernel_rfl) (by kernel_rfl) (fun _ _ _ h => h) (Or.inl ⟨by rfl, ?_⟩) (by assumption) ?_
        rotate_left
        · intro w hSw
          try dsimp only at hSw
          go_simp
          try with_reducible rfl
        simp only [Act.put, List.setIfInBounds_toArray, List.set_cons_zero, List.set_cons_succ]
        refine wpAnyH_take (i := 3) (oi := ⟨_, _, _, _, _, _⟩) (v := ?_) rfl (by kernel_rfl) (by kernel_rfl) (by kernel_rfl) (fun _ _ _ h => h) (Or.inl ⟨by rfl, ?_⟩) (by assumption) ?_
        rotate_left
        · intro w hSw
          try dsimp only at hSw
          go_simp
          try with_reducible rfl
        simp only [Act.put, List.setIfInBounds_toArray, List.set_cons_zero, List.set_cons_succ]
        refine wpAnyH_take (i := 4) (oi := ⟨_, _, _, _, _, _⟩) (v := ?_) rfl (by kernel_rfl) (by kernel_rfl) (by kernel_rfl) (fun _ _ _ h => h) (Or.inl ⟨by rfl, ?_⟩) (by assumption) ?_
        rotate_left
        · intro w hSw
          try dsimp only at hSw
          go_simp
          try with_reducible rfl
        simp only [Act.put, List.setIfInBounds_toArray, List.set_cons_zero, List.set_cons_succ]
        refine wpAnyH_take (i := 5) (oi := ⟨_, _, _, _, _, _⟩) (v := ?_) rfl (by kernel_rfl) (by kernel_rfl) (by kernel_rfl) (fun _ _ _ h => h) (Or.inl ⟨by rfl, ?_⟩) (by assumption) ?_
        rotate_left
        · intro w hSw
          try dsimp only at hSw
          go_simp
          try with_reducible rfl
        simp only [Act.put, List.setIfInBounds_toArray, List.set_cons_zero, List.set_cons_succ]
        refine wpAnyH_take (i := 6) (oi := ⟨_, _, _, _, _, _⟩) (v := ?_) rfl (by kernel_rfl) (by kernel_rfl) (by kernel_rfl) (fun _ _ _ h => h) (Or.inl ⟨by rfl, ?_⟩) (by assumption) ?_
        rotate_left
        · intro w hSw
          try dsimp only at hSw
          go_simp
          try with_reducible rfl
        simp only [Act.put, List.setIfInBounds_toArray, List.set_cons_zero, List.set_cons_succ]
        refine wpAnyH_take (i := 7) (oi := ⟨_, _, _, _, _, _⟩) (v := ?_) rfl (by kernel_rfl) (by kernel_rfl) (by kernel_rfl) (fun _ _ _ h => h) (Or.inl ⟨by rfl, ?_⟩) (by assumption) ?_
        rotate_left
        · intro w hSw
          try dsimp only at hSw
          go_simp
          try with_reducible rfl
        simp only [Act.put, List.setIfInBounds_toArray, List.set_cons_zero, List.set_cons_succ]
        refine wpAnyH_ready (rs := [0, 8]) (by kernel_rfl) (by simp) (AllReadyH.cons (o := ⟨_, _, _, _, _, _⟩) rfl (fun K hK => ?_) (AllReadyH.cons (o := ⟨_, _, _, _, _, _⟩) rfl (fun K hK => ?_) AllReadyH.nil))
        · go_simp
          go_simp
          obtain ⟨Y0, hX, bX, kX, sX⟩ := alloc_step WD (.cells #[] 24)
          rw [hX]
          have hBn := hHeld.2.2.2.2.2.out.trans (bX.mono hHeld.2.2.2.2.2.out.size)
          refine hK.out _ _ ⟨keep_cell t0 hBn, keep_cell t1 hBn, keep_cell e0 hBn, keep_cell e1 hBn, keep_cell e2 hBn, hid (hBn)⟩ (fun hHeld => ?_)
          clear hK K
          clear hX bX kX sX hBn
          try simp only [Act.put, List.setIfInBounds_toArray, List.set_cons_zero, List.set_cons_succ]
          refine wpAnyH_ready (rs := [2, 8]) (by kernel_rfl) (by simp) (AllReadyH.cons (o := ⟨_, _, _, _, _, _⟩) rfl (fun K hK => ?_) (AllReadyH.cons (o := ⟨_, _, _, _, _, _⟩) rfl (fun K hK => ?_) AllReadyH.nil))
          · refine step_append_pb (F := fun g => X0.heap.size ≤ g) (v := .slice (some ⟨WD.heap.size, 0, none⟩) 0 0) (n := 0) (xs := []) rfl _ _ rfl (Own.none_ _ _ _ _ _) (RS.out.below hHeld.2.2.2.2.2.out) (by rfl) (by rfl) HSO.out (by omega) ?_
            intro Aa ca Wa ho hm hr
            have sq := hHeld.2.2.2.2.2.out.size
            simp only [Nat.zero_add, List.nil_append] at ho hr ⊢
            rw [row_none] at hm
            have hb1 := hm.below
            have hBn := hHeld.2.2.2.2.2.out.trans (hb1.mono hHeld.2.2.2.2.2.out.size)
            refine hK.out _ _ ⟨keep_cell t0 hBn, keep_cell t1 hBn, keep_cell e0 hBn, keep_cell e1 hBn, keep_cell e2 hBn, hid (hBn)⟩ (fun hHeld => ?_)
            clear hK K
            have Oa := hid (ho.mono (G := fun g => X0.heap.size ≤ g) fun g _ _ hg => hg.elim id fun hg => Nat.le_trans sq hg)
            clear ho hm hr hb1 hBn sq
            try simp only [Act.put, List.setIfInBounds_toArray, List.set_cons_zero, List.set_cons_succ]
            refine wpAnyH_ready (rs := [8]) (by kernel_rfl) (by simp) (AllReadyH.cons (o := ⟨_, _, _, _, _, _⟩) rfl (fun K hK => ?_) AllReadyH.nil)
            go_simp
            go_simp
            obtain ⟨Y8, hX, bX, kX, sX⟩ := alloc_step Wa (.cells #[.slice D1 n1 c1, .slice D2 n2 c2, .int .i64 p.bound] 24)
            rw [hX]
            have hBn := hHeld.2.2.2.2.2.out.trans (bX.mono hHeld.2.2.2.2.2.out.size)
            refine hK.out _ _ ⟨keep_cell t0 hBn, keep_cell t1 hBn, keep_cell e0 hBn, keep_cell e1 hBn, keep_cell e2 hBn, hid (hBn)⟩ (fun hHeld => ?_)
            clear hK K
            have R1 := hid (rd_lit3 kX)
            have Oa := hid (Oa.out.below bX)
            clear hX bX kX sX hBn
            try simp only [Act.put, List.setIfInBounds_toArray, List.set_cons_zero, List.set_cons_succ]
            refine wpAnyH_ready (rs := [9]) (by kernel_rfl) (by simp) (AllReadyH.cons (o := ⟨_, _, _, _, _, _⟩) rfl (fun K hK => ?_) AllReadyH.nil)
            refine step_append_pb rfl _ _ rfl Oa.out R1.out rfl rfl HPO.out (by omega) ?_
            intro Ab cb Wb ho hm hr
            have sq := hHeld.2.2.2.2.2.out.size
            have hBn := below_mod hHeld.2.2.2.2.2.out hHeld.2.2.2.2.2.out.size hm fun g hg => (Oa.out.row hg).1
            refine hK.out _ _ ⟨keep_cell t0 hBn, keep_cell t1 hBn, keep_cell e0 hBn, keep_cell e1 hBn, keep_cell e2 hBn, hid (hBn)⟩ (fun hHeld => ?_)
            clear hK K
            have Ob := hid (ho.rd.mono (G := fun g => X0.heap.size ≤ g) fun g _ hg => hg.elim id fun hg => Nat.le_trans sq hg)
            clear ho hm hr hBn sq
            try simp only [Act.put, List.setIfInBounds_toArray, List.set_cons_zero, List.set_cons_succ]
            refine wpAnyH_ready (rs := [10]) (by kernel_rfl) (by simp) (AllReadyH.cons (o := ⟨_, _, _, _, _, _⟩) rfl (fun K hK => ?_) AllReadyH.nil)
            go_simp
            refine hK.out _ _ hHeld (fun hHeld => ?_)
            clear hK K
            try simp only [Act.put, List.setIfInBounds_toArray, List.set_cons_zero, List.set_cons_succ]
            refine wpAnyH_ready (rs := [11]) (by kernel_rfl) (by simp) (AllReadyH.cons (o := ⟨_, _, _, _, _, _⟩) rfl (fun K hK => ?_) AllReadyH.nil)
            go_simp
            refine hK.out _ _ hHeld (fun hHeld => ?_)
            clear hK K
            try simp only [Act.put, List.setIfInBounds_toArray, List.set_cons_zero, List.set_cons_succ]
            refine wpAnyH_done (by kernel_rfl) ?_ _
            go_wp2_with fail
            refine bodyPost_ret (v := .tuple #[.slice Ab (n + 1) cb, .int .i64 0]) (by simp [results, Tryd.f51, go_sem]) rfl ?_
            have hBf := hHeld.2.2.2.2.2.out
            exact ⟨⟨_, rfl, fun _ => ⟨Ab, cb, by rw [List.length_append, hsl.out]; rfl, ps_snoc (by rw [hsl.out]; exact Ob.out) PS.out HP.out hBf (fun g hg => .inr (Nat.le_trans B0.out.size hg)) (fun g hg => .inl hg) fun g hg => .inl hg⟩⟩, B0.out.trans (hBf.mono B0.out.size)⟩
          · go_simp
            go_simp
            obtain ⟨Y8, hX, bX, kX, sX⟩ := alloc_step Y0 (.cells #[.slice D1 n1 c1, .slice D2 n2 c2, .int .i64 p.bound] 24)
            rw [hX]
            have hBn := hHeld.2.2.2.2.2.out.trans (bX.mono hHeld.2.2.2.2.2.out.size)
            refine hK.out _ _ ⟨keep_cell t0 hBn, keep_cell t1 hBn, keep_cell e0 hBn, keep_cell e1 hBn, keep_cell e2 hBn, hid (hBn)⟩ (fun hHeld => ?_)
            clear hK K
            have R1 := hid (rd_lit3 kX)
            clear hX bX kX sX hBn
            try simp only [Act.put, List.setIfInBounds_toArray, List.set_cons_zero, List.set_cons_succ]
            refine wpAnyH_ready (rs := [2]) (by kernel_rfl) (by simp) (AllReadyH.cons (o := ⟨_, _, _, _, _, _⟩) rfl (fun K hK => ?_) AllReadyH.nil)
            refine step_append_pb (F := fun g => X0.heap.size ≤ g) (v := .slice (some ⟨WD.heap.size, 0, none⟩) 0 0) (n := 0) (xs := []) rfl _ _ rfl (Own.none_ _ _ _ _ _) (RS.out.below hHeld.2.2.2.2.2.out) (by rfl) (by rfl) HSO.out (by omega) ?_
            intro Aa ca Wa ho hm hr
            have sq := hHeld.2.2.2.2.2.out.size
            simp only [Nat.zero_add, List.nil_append] at ho hr ⊢
            rw [row_none] at hm
            have hb1 := hm.below
            have hBn := hHeld.2.2.2.2.2.out.trans (hb1.mono hHeld.2.2.2.2.2.out.size)
            refine hK.out _ _ ⟨keep_cell t0 hBn, keep_cell t1 hBn, keep_cell e0 hBn, keep_cell e1 hBn, keep_cell e2 hBn, hid (hBn)⟩ (fun hHeld => ?_)
            clear hK K
            have Oa := hid (ho.mono (G := fun g => X0.heap.size ≤ g) fun g _ _ hg => hg.elim id fun hg => Nat.le_trans sq hg)
            have R1 := hid (R1.out.below hb1)
            clear ho hm hr hb1 hBn sq
            try simp only [Act.put, List.setIfInBounds_toArray, List.set_cons_zero, List.set_cons_succ]
            refine wpAnyH_ready (rs := [9]) (by kernel_rfl) (by simp) (AllReadyH.cons (o := ⟨_, _, _, _, _, _⟩) rfl (fun K hK => ?_) AllReadyH.nil)
            refine step_append_pb rfl _ _ rfl Oa.out R1.out rfl rfl HPO.out (by omega) ?_
            intro Ab cb Wb ho hm hr
            have sq := hHeld.2.2.2.2.2.out.size
            have hBn := below_mod hHeld.2.2.2.2.2.out hHeld.2.2.2.2.2.out.size hm fun g hg => (Oa.out.row hg).1
            refine hK.out _ _ ⟨keep_cell t0 hBn, keep_cell t1 hBn, keep_cell e0 hBn, keep_cell e1 hBn, keep_cell e2 hBn, hid (hBn)⟩ (fun hHeld => ?_)
            clear hK K
            have Ob := hid (ho.rd.mono (G := fun g => X0.heap.size ≤ g) fun g _ hg => hg.elim id fun hg => Nat.le_trans sq hg)
            clear ho hm hr hBn sq
            try simp only [Act.put, List.setIfInBounds_toArray, List.set_cons_zero, List.set_cons_succ]
            refine wpAnyH_ready (rs := [10]) (by kernel_rfl) (by simp) (AllReadyH.cons (o := ⟨_, _, _, _, _, _⟩) rfl (fun K hK => ?_) AllReadyH.nil)
            go_simp
            refine hK.out _ _ hHeld (fun hHeld => ?_)
            clear hK K
            try simp only [Act.put, List.setIfInBounds_toArray, List.set_cons_zero, List.set_cons_succ]
            refine wpAnyH_ready (rs := [11]) (by kernel_rfl) (by simp) (AllReadyH.cons (o := ⟨_, _, _, _, _, _⟩) rfl (fun K hK => ?_) AllReadyH.nil)
            go_simp
            refine hK.out _ _ hHeld (fun hHeld => ?_)
            clear hK K
            try simp only [Act.put, List.setIfInBounds_toArray, List.set_cons_zero, List.set_cons_succ]
            refine wpAnyH_done (by kernel_rfl) ?_ _
            go_wp2_with fail
            refine bodyPost_ret (v := .tuple #[.slice Ab (n + 1) cb, .int .i64 0]) (by simp [results, Tryd.f51, go_sem]) rfl ?_
            have hBf := hHeld.2.2.2.2.2.out
            exact ⟨⟨_, rfl, fun _ => ⟨Ab, cb, by rw [List.length_append, hsl.out]; rfl, ps_snoc (by rw [hsl.out]; exact Ob.out) PS.out HP.out hBf (fun g hg => .inr (Nat.le_trans B0.out.size hg)) (fun g hg => .inl hg) fun g hg => .inl hg⟩⟩, B0.out.trans (hBf.mono B0.out.size)⟩
        · go_simp
          go_simp
          obtain ⟨Y8, hX, bX, kX, sX⟩ := alloc_step WD (.cells #[.slice D1 n1 c1, .slice D2 n2 c2, .int .i64 p.bound] 24)
          rw [hX]
          have hBn := hHeld.2.2.2.2.2.out.trans (bX.mono hHeld.2.2.2.2.2.out.size)
          refine hK.out _ _ ⟨keep_cell t0 hBn, keep_cell t1 hBn, keep_cell e0 hBn, keep_cell e1 hBn, keep_cell e2 hBn, hid (hBn)⟩ (fun hHeld => ?_)
          clear hK K
          have R1 := hid (rd_lit3 kX)
          clear hX bX kX sX hBn
          try simp only [Act.put, List.setIfInBounds_toArray, List.set_cons_zero, List.set_cons_succ]
          refine wpAnyH_ready (rs := [0]) (by kernel_rfl) (by simp) (AllReadyH.cons (o := ⟨_, _, _, _, _, _⟩) rfl (fun K hK => ?_) AllReadyH.nil)
          go_simp
          go_simp
          obtain ⟨Y0, hX, bX, kX, sX⟩ := alloc_step Y8 (.cells #[] 24)
          rw [hX]
          have hBn := hHeld.2.2.2.2.2.out.trans (bX.mono hHeld.2.2.2.2.2.out.size)
          refine hK.out _ _ ⟨keep_cell t0 hBn, keep_cell t1 hBn, keep_cell e0 hBn, keep_cell e1 hBn, keep_cell e2 hBn, hid (hBn)⟩ (fun hHeld => ?_)
          clear hK K
          have R1 := hid (R1.out.below bX)
          clear hX bX kX sX hBn
          try simp only [Act.put, List.setIfInBounds_toArray, List.set_cons_zero, List.set_cons_succ]
          refine wpAnyH_ready (rs := [2]) (by kernel_rfl) (by simp) (AllReadyH.cons (o := ⟨_, _, _, _, _, _⟩) rfl (fun K hK => ?_) AllReadyH.nil)
          refine step_append_pb (F := fun g => X0.heap.size ≤ g) (v := .slice (some ⟨Y8.heap.size, 0, none⟩) 0 0) (n := 0) (xs := []) rfl _ _ rfl (Own.none_ _ _ _ _ _) (RS.out.below hHeld.2.2.2.2.2.out) (by rfl) (by rfl) HSO.out (by omega) ?_
          intro Aa ca Wa ho hm hr
          have sq := hHeld.2.2.2.2.2.out.size
          simp only [Nat.zero_add, List.nil_append] at ho hr ⊢
          rw [row_none] at hm
          have hb1 := hm.below
          have hBn := hHeld.2.2.2.2.2.out.trans (hb1.mono hHeld.2.2.2.2.2.out.size)
          refine hK.out _ _ ⟨keep_cell t0 hBn, keep_cell t1 hBn, keep_cell e0 hBn, keep_cell e1 hBn, keep_cell e2 hBn, hid (hBn)⟩ (fun hHeld => ?_)
          clear hK K
          have Oa := hid (ho.mono (G := fun g => X0.heap.size ≤ g) fun g _ _ hg => hg.elim id fun hg => Nat.le_trans sq hg)
          have R1 := hid (R1.out.below hb1)
          clear ho hm hr hb1 hBn sq
          try simp only [Act.put, List.setIfInBounds_toArray, List.set_cons_zero, List.set_cons_succ]
          refine wpAnyH_ready (rs := [9]) (by kernel_rfl) (by simp) (AllReadyH.cons (o := ⟨_, _, _, _, _, _⟩) rfl (fun K hK => ?_) AllReadyH.nil)
          refine step_append_pb rfl _ _ rfl Oa.out R1.out rfl rfl HPO.out (by omega) ?_
          intro Ab cb Wb ho hm hr
          have sq := hHeld.2.2.2.2.2.out.size
          have hBn := below_mod hHeld.2.2.2.2.2.out hHeld.2.2.2.2.2.out.size hm fun g hg => (Oa.out.row hg).1
          refine hK.out _ _ ⟨keep_cell t0 hBn, keep_cell t1 hBn, keep_cell e0 hBn, keep_cell e1 hBn, keep_cell e2 hBn, hid (hBn)⟩ (fun hHeld => ?_)
          clear hK K
          have Ob := hid (ho.rd.mono (G := fun g => X0.heap.size ≤ g) fun g _ hg => hg.elim id fun hg => Nat.le_trans sq hg)
          clear ho hm hr hBn sq
          try simp only [Act.put, List.setIfInBounds_toArray, List.set_cons_zero, List.set_cons_succ]
          refine wpAnyH_ready (rs := [10]) (by kernel_rfl) (by simp) (AllReadyH.cons (o := ⟨_, _, _, _, _, _⟩) rfl (fun K hK => ?_) AllReadyH.nil)
          go_simp
          refine hK.out _ _ hHeld (fun hHeld => ?_)
          clear hK K
          try simp only [Act.put, List.setIfInBounds_toArray, List.set_cons_zero, List.set_cons_succ]
          refine wpAnyH_ready (rs := [11]) (by kernel_rfl) (by simp) (AllReadyH.cons (o := ⟨_, _, _, _, _, _⟩) rfl (fun K hK => ?_) AllReadyH.nil)
          go_simp
          refine hK.out _ _ hHeld (fun hHeld => ?_)
          clear hK K
          try simp only [Act.put, List.setIfInBounds_toArray, List.set_cons_zero, List.set_cons_succ]
          refine wpAnyH_done (by kernel_rfl) ?_ _
          go_wp2_with fail
          refine bodyPost_ret (v := .tuple #[.slice Ab (n + 1) cb, .int .i64 0]) (by simp [results, Tryd.f51, go_sem]) rfl ?_
          have hBf := hHeld.2.2.2.2.2.out
          exact ⟨⟨_, rfl, fun _ => ⟨Ab, cb, by rw [List.length_append, hsl.out]; rfl, ps_snoc (by rw [hsl.out]; exact Ob.out) PS.out HP.out hBf (fun g hg => .inr (Nat.le_trans B0.out.size hg)) (fun g hg => .inl hg) fun g hg => .inl hg⟩⟩, B0.out.trans (hBf.mono B0.out.size)⟩
      · have h1' : z ≥ (dn : Int) := by omega
        obtain rfl : x = (s, 2) := by rw [← Hx.out]; simp [stepB, k1, hdl.out]; omega
        clear Hx k1
        go_enter Tryd.func51, Tryd.ntmps51
        go_upto_region 1 with fail
        rw [HX0.out]
        go_wp2_with fail
        refine bodyPost_ret (v := .tuple #[.slice none 0 0, .int .i64 2]) (by simp [results, Tryd.f51, go_sem]) rfl ?_
        exact ⟨⟨_, rfl, fun h => absurd (show (2 : Int) = 0 from h) (by decide)⟩, B0.out⟩
  · have y1 : ¬ ((kd : Int) = 1) := by omega
    have y1b : ((kd : Int) == 1) = false := by simp [y1]
    by_cases k2 : kd = 2
    · have y2 : decide ((kd : Int) = 2) = true := by simp; omega
      have y2b : ((kd : Int) == 2) = true := by simp; omega
      by_cases h0 : n < 2
      · have h0' : (n : Int) < 2 := by omega
        obtain rfl : x = (s, 2) := by rw [← Hx.out]; simp [stepB, k2, hsl.out, h0]
        clear Hx k2
        go_enter Tryd.func51, Tryd.ntmps51
        go_upto_region 1 with fail
        rw [HX0.out]
        go_wp2_with fail
        refine bodyPost_ret (v := .tuple #[.slice none 0 0, .int .i64 2]) (by simp [results, Tryd.f51, go_sem]) rfl ?_
        exact ⟨⟨_, rfl, fun h => absurd (show (2 : Int) = 0 from h) (by decide)⟩, B0.out⟩
      · have h0' : ¬ ((n : Int) < 2) := by omega
        by_cases hz0 : z = 0
        · have y3 : (z != 0) = false := by simp [hz0]
          obtain ⟨k, hk⟩ : ∃ k, n = k + 2 := ⟨n - 2, by omega⟩
          have hw2 : IntKind.i64.wrap ((n : Int) - 2) = (k : Int) := by rw [iw' (by omega) (by omega)]; omega
          have hw1 : IntKind.i64.wrap ((n : Int) - 1) = (k : Int) + 1 := by rw [iw' (by omega) (by omega)]; omega
          have hk1 : (k : Int) < (n : Int) := by omega
          have hk2 : (k : Int) + 1 < (n : Int) := by omega
          have hk3 : (0 : Int) ≤ (k : Int) + 1 := by omega
          obtain ⟨g, o, p, A1, n1, c1, A2, n2, c2, rfl, _, _, hpi, e0, e1, e2, hp⟩ := hs1.out.cells (i := k) (by omega)
          obtain ⟨g', o', q, B1, m1, d1, B2, m2, d2, e3, _, _, hqi, z0, z1, z2, hq⟩ := hs1.out.cells (i := k + 1) (by omega)
          injection e3 with e3
          injection e3 with e3 e4
          subst e3 e4
          have hpok := hok p (List.mem_of_getElem? hpi)
          have hqok := hok q (List.mem_of_getElem? hqi)
          have Hp := hid hp
          have Hq := hid hq
          have Hi1 := hid hpok.i64
          have Hi2 := hid hqok.i64
          have Hf1 := hid hpok.few
          have Hf2 := hid hqok.few
          obtain ⟨R, hR⟩ : ∃ R, p.addB q = R := ⟨_, rfl⟩
          have HR := hid hR
          have HTO := hid (show ∀ u ∈ flat3 (ts.take k), u.oneCell' = true from (PS.out.take k).one)
          have htl := hid (show (s.take k).length = k by rw [List.length_take, hsl.out]; omega)
          have hcap := rd_capN RS.out
          have hsl2 := fun X => slice_pbo (g := g) (o := o) (n := n) (c := c) (i := k) (by omega) hcap X
          obtain rfl : x = (s.take k ++ [R.1], R.2) := by
            rw [← Hx.out, ← hR]
            have e5 : pbAt s k = p := by unfold pbAt; rw [hpi]; rfl
            have e6 : pbAt s (k + 1) = q := by unfold pbAt; rw [hqi]; rfl
            have e7 : s.length - 2 = k := by rw [hsl.out]; omega
            have e8 : s.length - 1 = k + 1 := by rw [hsl.out]; omega
            have e9 : ¬ (s.length < 2) := by rw [hsl.out]; exact h0
            simp only [stepB, k2, e7, e8, e5, e6]
            simp [e9, hz0]
          clear Hx hpi hqi hp hq hR hpok hqok hok hcap k2 hz0 hk
          go_enter Tryd.func51, Tryd.ntmps51
          go_upto_region 1 with fail
          rw [HX0.out]
          go_upto_region 9 with fail
          refine wp_region_held_drew (S := fun w' => w'.cell? ⟨ob, 0, none⟩ = some (.int .u8 (kd : Int)) ∧ w'.cell? ⟨ob, 1, none⟩ = some (.int .i64 z) ∧ w'.cell? ⟨g, o + k * 3, none⟩ = some (.slice A1 n1 c1) ∧ w'.cell? ⟨g, o + k * 3 + 1, none⟩ = some (.slice A2 n2 c2) ∧ w'.cell? ⟨g, o + k * 3 + 2, none⟩ = some (.int .i64 p.bound) ∧ w'.cell? ⟨g, o + (k + 1) * 3, none⟩ = some (.slice B1 m1 d1) ∧ w'.cell? ⟨g, o + (k + 1) * 3 + 1, none⟩ = some (.slice B2 m2 d2) ∧ w'.cell? ⟨g, o + (k + 1) * 3 + 2, none⟩ = some (.int .i64 q.bound) ∧ Hid (Below X0.heap.size X0 w')) (by kernel_rfl) ⟨keep_cell t0 (Bl.drew (Below.refl _ _)), keep_cell t1 (Bl.drew (Below.refl _ _)), keep_cell e0 (Bl.drew (Below.refl _ _)), keep_cell e1 (Bl.drew (Below.refl _ _)), keep_cell e2 (Bl.drew (Below.refl _ _)), keep_cell z0 (Bl.drew (Below.refl _ _)), keep_cell z1 (Bl.drew (Below.refl _ _)), keep_cell z2 (Bl.drew (Below.refl _ _)), hid ((Bl.drew (Below.refl _ _)))⟩ (fun hHeld => ?_)
          obtain ⟨WD, hWD⟩ : ∃ X, X0.drew = X := ⟨_, rfl⟩
          rw [hWD] at hHeld ⊢
          clear hWD
          refine wpAnyH_take (i := 0) (oi := ⟨_, _, _, _, _, _⟩) (v := ?_) rfl (by kernel_rfl) (by kernel_rfl) (by kernel_rfl) (fun _ _ _ h => h) (Or.inl ⟨by rfl, ?_⟩) (by assumption) ?_
          rotate_left
          · intro w hSw
            try dsimp only at hSw
            go_simp
            try with_reducible rfl
          simp only [Act.put, List.setIfInBounds_toArray, List.set_cons_zero, List.set_cons_succ]
          refine wpAnyH_take (i := 1) (oi := ⟨_, _, _, _, _, _⟩) (v := ?_) rfl (by kernel_rfl) (by kernel_rfl) (by kernel_rfl) (fun _ _ _ h => h) (Or.inl ⟨by rfl, ?_⟩) (by assumption) ?_
          rotate_left
          · intro w hSw
            try dsimp only at hSw
            go_simp
            try with_reducible rfl
          simp only [Act.put, List.setIfInBounds_toArray, List.set_cons_zero, List.set_cons_succ]
          refine wpAnyH_take (i := 5) (oi := ⟨_, _, _, _, _, _⟩) (v := ?_) rfl (by kernel_rfl) (by kernel_rfl) (by kernel_rfl) (fun _ _ _ h => h) (Or.inl ⟨by rfl, ?_⟩) (by assumption) ?_
          rotate_left
          · intro w hSw
            try dsimp only at hSw
            go_simp
            try with_reducible rfl
          simp only [Act.put, List.setIfInBounds_toArray, List.set_cons_zero, List.set_cons_succ]
          refine wpAnyH_take (i := 6) (oi := ⟨_, _, _, _, _, _⟩) (v := ?_) rfl (by kernel_rfl) (by kernel_rfl) (by kernel_rfl) (fun _ _ _ h => h) (Or.inl ⟨by rfl, ?_⟩) (by assumption) ?_
          rotate_left
          · intro w hSw
            try dsimp only at hSw
            go_simp
            try with_reducible rfl
          simp only [Act.put, List.setIfInBounds_toArray, List.set_cons_zero, List.set_cons_succ]
          refine wpAnyH_take (i := 2) (oi := ⟨_, _, _, _, _, _⟩) (v := ?_) rfl (by kernel_rfl) (by kernel_rfl) (by kernel_rfl) (fun _ _ _ h => h) (Or.inl ⟨by rfl, ?_⟩) (by assumption) ?_
          rotate_left
          · intro w hSw
            try dsimp only at hSw
            go_simp
            try with_reducible rfl
          simp only [Act.put, List.setIfInBounds_toArray, List.set_cons_zero, List.set_cons_succ]
          refine wpAnyH_take (i := 7) (oi := ⟨_, _, _, _, _, _⟩) (v := ?_) rfl (by kernel_rfl) (by kernel_rfl) (by kernel_rfl) (fun _ _ _ h => h) (Or.inl ⟨by rfl, ?_⟩) (by assumption) ?_
          rotate_left
          · intro w hSw
            try dsimp only at hSw
            go_simp
            try with_reducible rfl
          simp only [Act.put, List.setIfInBounds_toArray, List.set_cons_zero, List.set_cons_succ]
          refine wpAnyH_take (i := 3) (oi := ⟨_, _, _, _, _, _⟩) (v := ?_) rfl (by kernel_rfl) (by kernel_rfl) (by kernel_rfl) (fun _ _ _ h => h) (Or.inl ⟨by rfl, ?_⟩) (by assumption) ?_
          rotate_left
          · intro w hSw
            try dsimp only at hSw
            go_simp
            try with_reducible rfl
          simp only [Act.put, List.setIfInBounds_toArray, List.set_cons_zero, List.set_cons_succ]
          refine wpAnyH_take (i := 8) (oi := ⟨_, _, _, _, _, _⟩) (v := ?_) rfl (by kernel_rfl) (by kernel_rfl) (by kernel_rfl) (fun _ _ _ h => h) (Or.inl ⟨by rfl, ?_⟩) (by assumption) ?_
          rotate_left
          · intro w hSw
            try dsimp only at hSw
            go_simp
            try with_reducible rfl
          simp only [Act.put, List.setIfInBounds_toArray, List.set_cons_zero, List.set_cons_succ]
          refine wpAnyH_take (i := 4) (oi := ⟨_, _, _, _, _, _⟩) (v := ?_) rfl (by kernel_rfl) (by kernel_rfl) (by kernel_rfl) (fun _ _ _ h => h) (Or.inl ⟨by rfl, ?_⟩) (by assumption) ?_
          rotate_left
          · intro w hSw
            try dsimp only at hSw
            go_simp
            try with_reducible rfl
          simp only [Act.put, List.setIfInBounds_toArray, List.set_cons_zero, List.set_cons_succ]
          refine wpAnyH_take (i := 9) (oi := ⟨_, _, _, _, _, _⟩) (v := ?_) rfl (by kernel_rfl) (by kernel_rfl) (by kernel_rfl) (fun _ _ _ h => h) (Or.inl ⟨by rfl, ?_⟩) (by assumption) ?_
          rotate_left
          · intro w hSw
            try dsimp only at hSw
            go_simp
            try with_reducible rfl
          simp only [Act.put, List.setIfInBounds_toArray, List.set_cons_zero, List.set_cons_succ]
          refine wpAnyH_ready (rs := [10, 14]) (by kernel_rfl) (by simp) (AllReadyH.cons (o := ⟨_, _, _, _, _, _⟩) rfl (fun K hK => ?_) (AllReadyH.cons (o := ⟨_, _, _, _, _, _⟩) rfl (fun K hK => ?_) AllReadyH.nil))
          · go_simp
            go_simp
            refine (radd_any (Hp.out.below hHeld.2.2.2.2.2.2.2.2.out) (Hq.out.below hHeld.2.2.2.2.2.2.2.2.out) Hi1.out Hi2.out Hf1.out Hf2.out).mono ?_
            rintro r W10 ⟨⟨pv, rfl, hpv⟩, bv⟩
            rw [HR.out] at hpv ⊢
            have sC := Nat.le_trans B0.out.size hHeld.2.2.2.2.2.2.2.2.out.size
            have hBn := hHeld.2.2.2.2.2.2.2.2.out.trans (bv.mono hHeld.2.2.2.2.2.2.2.2.out.size)
            have hpv2 := hid hpv
            obtain ⟨⟨E1, q1, f1, E2, q2, f2, rfl, _, _⟩, _⟩ := hpv
            refine hK.out _ _ ⟨keep_cell t0 hBn, keep_cell t1 hBn, keep_cell e0 hBn, keep_cell e1 hBn, keep_cell e2 hBn, keep_cell z0 hBn, keep_cell z1 hBn, keep_cell z2 hBn, hid (hBn)⟩ (fun hHeld => ?_)
            clear hK K
            have hR := hid (hpv2.out.mono (G := fun g => W.heap.size ≤ g ∧ g < W10.heap.size) fun g hg (h2 : WD.heap.size ≤ g) => ⟨Nat.le_trans sC h2, hg⟩)
            clear bv hBn hpv2
            try simp only [Act.put, List.setIfInBounds_toArray, List.set_cons_zero, List.set_cons_succ]
            refine wpAnyH_take (i := 11) (oi := ⟨_, _, _, _, _, _⟩) (v := ?_) rfl (by kernel_rfl) (by kernel_rfl) (by kernel_rfl) (fun _ _ _ h => h) (Or.inl ⟨by rfl, ?_⟩) (by assumption) ?_
            rotate_left
            · intro w hSw
              try dsimp only at hSw
              go_simp
              try with_reducible rfl
            simp only [Act.put, List.setIfInBounds_toArray, List.set_cons_zero, List.set_cons_succ]
            refine wpAnyH_take (i := 12) (oi := ⟨_, _, _, _, _, _⟩) (v := ?_) rfl (by kernel_rfl) (by kernel_rfl) (by kernel_rfl) (fun _ _ _ h => h) (Or.inl ⟨by rfl, ?_⟩) (by assumption) ?_
            rotate_left
            · intro w hSw
              try dsimp only at hSw
              go_simp
              try with_reducible rfl
            simp only [Act.put, List.setIfInBounds_toArray, List.set_cons_zero, List.set_cons_succ]
            refine wpAnyH_take (i := 13) (oi := ⟨_, _, _, _, _, _⟩) (v := ?_) rfl (by kernel_rfl) (by kernel_rfl) (by kernel_rfl) (fun _ _ _ h => h) (Or.inl ⟨by rfl, ?_⟩) (by assumption) ?_
            rotate_left
            · intro w hSw
              try dsimp only at hSw
              go_simp
              try with_reducible rfl
            simp only [Act.put, List.setIfInBounds_toArray, List.set_cons_zero, List.set_cons_succ]
            refine wpAnyH_ready (rs := [14]) (by kernel_rfl) (by simp) (AllReadyH.cons (o := ⟨_, _, _, _, _, _⟩) rfl (fun K hK => ?_) AllReadyH.nil)
            go_simp
            go_simp
            obtain ⟨X14, hX, bX, kX, sX⟩ := alloc_step W10 (.cells #[.slice none 0 0, .slice none 0 0, .int .i64 0] 24)
            rw [hX]
            have hBn := hHeld.2.2.2.2.2.2.2.2.out.trans (bX.mono hHeld.2.2.2.2.2.2.2.2.out.size)
            have s14 := hHeld.2.2.2.2.2.2.2.2.out.size
            obtain ⟨tb, htb⟩ : ∃ t, W10.heap.size = t := ⟨_, rfl⟩
            refine hK.out _ _ ⟨keep_cell t0 hBn, keep_cell t1 hBn, keep_cell e0 hBn, keep_cell e1 hBn, keep_cell e2 hBn, keep_cell z0 hBn, keep_cell z1 hBn, keep_cell z2 hBn, hid (hBn)⟩ (fun hHeld => ?_)
            clear hK K
            rw [htb] at kX sX s14
            try rw [htb]
            have KT := hid kX
            have htX : tb < X14.heap.size := by omega
            have hR := hid ((hR.out.below bX).mono (G := fun g => W.heap.size ≤ g ∧ g ≠ tb) fun g _ hg => ⟨hg.1, by omega⟩)
            clear hX bX kX sX hBn
            try simp only [Act.put, List.setIfInBounds_toArray, List.set_cons_zero, List.set_cons_succ]
            refine wpAnyH_ready (rs := [15]) (by kernel_rfl) (by simp) (AllReadyH.cons (o := ⟨_, _, _, _, _, _⟩) rfl (fun K hK => ?_) AllReadyH.nil)
            go_simp
            obtain ⟨x0, x1, x2⟩ := box3 KT.out
            obtain ⟨y0, y1, y2⟩ := froz3 KT.out
            go_simp
            obtain ⟨u0, u1, u2, m3⟩ := set3 x0 x1 x2 (.slice E1 q1 f1) (.slice E2 q2 f2) (.int .i64 R.1.bound)
            have hBn := below_mod hHeld.2.2.2.2.2.2.2.2.out hHeld.2.2.2.2.2.2.2.2.out.size m3 fun g hg => by omega
            refine hK.out _ _ ⟨keep_cell t0 hBn, keep_cell t1 hBn, keep_cell e0 hBn, keep_cell e1 hBn, keep_cell e2 hBn, keep_cell z0 hBn, keep_cell z1 hBn, keep_cell z2 hBn, hid (hBn)⟩ (fun hHeld => ?_)
            clear hK K
            have HRP := hid (hR.out.mod m3 fun g _ hg e => hg.2 e)
            clear x0 x1 x2 y0 y1 y2 hBn
            try simp only [Act.put, List.setIfInBounds_toArray, List.set_cons_zero, List.set_cons_succ]
            refine wpAnyH_ready (rs := [16]) (by kernel_rfl) (by simp) (AllReadyH.cons (o := ⟨_, _, _, _, _, _⟩) rfl (fun K hK => ?_) AllReadyH.nil)
            go_simp
            refine hK.out _ _ hHeld (fun hHeld => ?_)
            clear hK K
            try simp only [Act.put, List.setIfInBounds_toArray, List.set_cons_zero, List.set_cons_succ]
            refine wpAnyH_done (by kernel_rfl) ?_ _
            have BX := hid hHeld.2.2.2.2.2.2.2.2.out
            have BF := hid (B0.out.trans (BX.out.mono B0.out.size))
            clear hHeld m3 KT hR
            obtain ⟨W5, hW5⟩ : ∃ X, (((X14.setCell ⟨tb, 0, none⟩ (.slice E1 q1 f1)).setCell ⟨tb, 1, none⟩ (.slice E2 q2 f2)).setCell ⟨tb, 2, none⟩ (.int .i64 R.1.bound)) = X := ⟨_, rfl⟩
            rw [hW5] at u0 u1 u2 HRP BF BX ⊢
            clear hW5
            have RT := hid ((RS.out.take (show k ≤ n by omega)).below BX.out)
            rw [flat3_take] at RT
            have PT := hid ((PS.out.take k).below BX.out)
            have HRO := hid (pb_one HRP.out)
            go_upto_region 10 with fail
            refine wp_region_held_drew (S := fun w' => w'.cell? ⟨tb, 0, none⟩ = some (.slice E1 q1 f1) ∧ w'.cell? ⟨tb, 1, none⟩ = some (.slice E2 q2 f2) ∧ w'.cell? ⟨tb, 2, none⟩ = some (.int .i64 R.1.bound) ∧ Hid (Below W5.heap.size W5 w')) (by kernel_rfl) ⟨keep_cell u0 (Bl.drew (Below.refl _ _)), keep_cell u1 (Bl.drew (Below.refl _ _)), keep_cell u2 (Bl.drew (Below.refl _ _)), hid ((Bl.drew (Below.refl _ _)))⟩ (fun hHeld => ?_)
            obtain ⟨WE, hWD⟩ : ∃ X, W5.drew = X := ⟨_, rfl⟩
            rw [hWD] at hHeld ⊢
            clear hWD
            refine wpAnyH_take (i := 1) (oi := ⟨_, _, _, _, _, _⟩) (v := ?_) rfl (by kernel_rfl) (by kernel_rfl) (by kernel_rfl) (fun _ _ _ h => h) (Or.inl ⟨by rfl, ?_⟩) (by assumption) ?_
            rotate_left
            · intro w hSw
              try dsimp only at hSw
              go_simp
              try with_reducible rfl
            simp only [Act.put, List.setIfInBounds_toArray, List.set_cons_zero, List.set_cons_succ]
            refine wpAnyH_take (i := 2) (oi := ⟨_, _, _, _, _, _⟩) (v := ?_) rfl (by kernel_rfl) (by kernel_rfl) (by kernel_rfl) (fun _ _ _ h => h) (Or.inl ⟨by rfl, ?_⟩) (by assumption) ?_
            rotate_left
            · intro w hSw
              try dsimp only at hSw
              go_simp
              try with_reducible rfl
            simp only [Act.put, List.setIfInBounds_toArray, List.set_cons_zero, List.set_cons_succ]
            refine wpAnyH_take (i := 6) (oi := ⟨_, _, _, _, _, _⟩) (v := ?_) rfl (by kernel_rfl) (by kernel_rfl) (by kernel_rfl) (fun _ _ _ h => h) (Or.inl ⟨by rfl, ?_⟩) (by assumption) ?_
            rotate_left
            · intro w hSw
              try dsimp only at hSw
              go_simp
              try with_reducible rfl
            simp only [Act.put, List.setIfInBounds_toArray, List.set_cons_zero, List.set_cons_succ]
            refine wpAnyH_take (i := 9) (oi := ⟨_, _, _, _, _, _⟩) (v := ?_) rfl (by kernel_rfl) (by kernel_rfl) (by kernel_rfl) (fun _ _ _ h => h) (Or.inl ⟨by rfl, ?_⟩) (by assumption) ?_
            rotate_left
            · intro w hSw
              try dsimp only at hSw
              go_simp
              try with_reducible rfl
            simp only [Act.put, List.setIfInBounds_toArray, List.set_cons_zero, List.set_cons_succ]
            refine wpAnyH_take (i := 3) (oi := ⟨_, _, _, _, _, _⟩) (v := ?_) rfl (by kernel_rfl) (by kernel_rfl) (by kernel_rfl) (fun _ _ _ h => h) (Or.inl ⟨by rfl, ?_⟩) (by assumption) ?_
            rotate_left
            · intro w hSw
              try dsimp only at hSw
              go_simp
              try with_reducible rfl
            simp only [Act.put, List.setIfInBounds_toArray, List.set_cons_zero, List.set_cons_succ]
            refine wpAnyH_take (i := 4) (oi := ⟨_, _, _, _, _, _⟩) (v := ?_) rfl (by kernel_rfl) (by kernel_rfl) (by kernel_rfl) (fun _ _ _ h => h) (Or.inl ⟨by rfl, ?_⟩) (by assumption) ?_
            rotate_left
            · intro w hSw
              try dsimp only at hSw
              go_simp
              try with_reducible rfl
            simp only [Act.put, List.setIfInBounds_toArray, List.set_cons_zero, List.set_cons_succ]
            refine wpAnyH_ready (rs := [0, 7]) (by kernel_rfl) (by simp) (AllReadyH.cons (o := ⟨_, _, _, _, _, _⟩) rfl (fun K hK => ?_) (AllReadyH.cons (o := ⟨_, _, _, _, _, _⟩) rfl (fun K hK => ?_) AllReadyH.nil))
            · go_simp
              go_simp
              obtain ⟨Y0, hX, bX, kX, sX⟩ := alloc_step WE (.cells #[] 24)
              rw [hX]
              have hBn := hHeld.2.2.2.out.trans (bX.mono hHeld.2.2.2.out.size)
              refine hK.out _ _ ⟨keep_cell u0 hBn, keep_cell u1 hBn, keep_cell u2 hBn, hid (hBn)⟩ (fun hHeld => ?_)
              clear hK K
              clear hX bX kX sX hBn
              try simp only [Act.put, List.setIfInBounds_toArray, List.set_cons_zero, List.set_cons_succ]
              refine wpAnyH_ready (rs := [5, 7]) (by kernel_rfl) (by simp) (AllReadyH.cons (o := ⟨_, _, _, _, _, _⟩) rfl (fun K hK => ?_) (AllReadyH.cons (o := ⟨_, _, _, _, _, _⟩) rfl (fun K hK => ?_) AllReadyH.nil))
              · refine step_append_pb (F := fun g => W5.heap.size ≤ g) (v := .slice (some ⟨WE.heap.size, 0, none⟩) 0 0) (n := 0) (xs := []) rfl _ _ rfl (Own.none_ _ _ _ _ _) (RT.out.below hHeld.2.2.2.out) (by rfl) (by rfl) HTO.out (by omega) ?_
                intro Aa ca Wa ho hm hr
                have sq := hHeld.2.2.2.out.size
                simp only [Nat.zero_add, List.nil_append] at ho hr ⊢
                rw [row_none] at hm
                have hb1 := hm.below
                have hBn := hHeld.2.2.2.out.trans (hb1.mono hHeld.2.2.2.out.size)
                refine hK.out _ _ ⟨keep_cell u0 hBn, keep_cell u1 hBn, keep_cell u2 hBn, hid (hBn)⟩ (fun hHeld => ?_)
                clear hK K
                have Oa := hid (ho.mono (G := fun g => W5.heap.size ≤ g) fun g _ _ hg => hg.elim id fun hg => Nat.le_trans sq hg)
                clear ho hm hr hb1 hBn sq
                try simp only [Act.put, List.setIfInBounds_toArray, List.set_cons_zero, List.set_cons_succ]
                refine wpAnyH_ready (rs := [7]) (by kernel_rfl) (by simp) (AllReadyH.cons (o := ⟨_, _, _, _, _, _⟩) rfl (fun K hK => ?_) AllReadyH.nil)
                go_simp
                go_simp
                obtain ⟨Y7, hX, bX, kX, sX⟩ := alloc_step Wa (.cells #[.slice E1 q1 f1, .slice E2 q2 f2, .int .i64 R.1.bound] 24)
                rw [hX]
                have hBn := hHeld.2.2.2.out.trans (bX.mono hHeld.2.2.2.out.size)
                refine hK.out _ _ ⟨keep_cell u0 hBn, keep_cell u1 hBn, keep_cell u2 hBn, hid (hBn)⟩ (fun hHeld => ?_)
                clear hK K
                have R1 := hid (rd_lit3 kX)
                have Oa := hid (Oa.out.below bX)
                clear hX bX kX sX hBn
                try simp only [Act.put, List.setIfInBounds_toArray, List.set_cons_zero, List.set_cons_succ]
                refine wpAnyH_ready (rs := [8]) (by kernel_rfl) (by simp) (AllReadyH.cons (o := ⟨_, _, _, _, _, _⟩) rfl (fun K hK => ?_) AllReadyH.nil)
                refine step_append_pb rfl _ _ rfl Oa.out R1.out rfl rfl HRO.out (by omega) ?_
                intro Ab cb Wb ho hm hr
                have sq := hHeld.2.2.2.out.size
                have hBn := below_mod hHeld.2.2.2.out hHeld.2.2.2.out.size hm fun g hg => (Oa.out.row hg).1
                refine hK.out _ _ ⟨keep_cell u0 hBn, keep_cell u1 hBn, keep_cell u2 hBn, hid (hBn)⟩ (fun hHeld => ?_)
                clear hK K
                have Ob := hid (ho.rd.mono (G := fun g => W5.heap.size ≤ g) fun g _ hg => hg.elim id fun hg => Nat.le_trans sq hg)
                clear ho hm hr hBn sq
                try simp only [Act.put, List.setIfInBounds_toArray, List.set_cons_zero, List.set_cons_succ]
                refine wpAnyH_ready (rs := [10]) (by kernel_rfl) (by simp) (AllReadyH.cons (o := ⟨_, _, _, _, _, _⟩) rfl (fun K hK => ?_) AllReadyH.nil)
                go_simp
                refine hK.out _ _ hHeld (fun hHeld => ?_)
                clear hK K
                try simp only [Act.put, List.setIfInBounds_toArray, List.set_cons_zero, List.set_cons_succ]
                refine wpAnyH_ready (rs := [11]) (by kernel_rfl) (by simp) (AllReadyH.cons (o := ⟨_, _, _, _, _, _⟩) rfl (fun K hK => ?_) AllReadyH.nil)
                go_simp
                refine hK.out _ _ hHeld (fun hHeld => ?_)
                clear hK K
                try simp only [Act.put, List.setIfInBounds_toArray, List.set_cons_zero, List.set_cons_succ]
                refine wpAnyH_done (by kernel_rfl) ?_ _
                go_wp2_with fail
                refine bodyPost_ret (v := .tuple #[.slice Ab (k + 1) cb, .int .i64 R.2]) (by simp [results, Tryd.f51, go_sem]) rfl ?_
                have hBf := hHeld.2.2.2.out
                exact ⟨⟨_, rfl, fun _ => ⟨Ab, cb, by rw [List.length_append, htl.out]; rfl, ps_snoc (by rw [htl.out]; exact Ob.out) PT.out HRP.out hBf (fun g hg => .inr (Nat.le_trans BF.out.size hg)) (fun g hg => .inl hg) fun g hg => .inr hg.1⟩⟩, BF.out.trans (hBf.mono BF.out.size)⟩
              · go_simp
                go_simp
                obtain ⟨Y7, hX, bX, kX, sX⟩ := alloc_step Y0 (.cells #[.slice E1 q1 f1, .slice E2 q2 f2, .int .i64 R.1.bound] 24)
                rw [hX]
                have hBn := hHeld.2.2.2.out.trans (bX.mono hHeld.2.2.2.out.size)
                refine hK.out _ _ ⟨keep_cell u0 hBn, keep_cell u1 hBn, keep_cell u2 hBn, hid (hBn)⟩ (fun hHeld => ?_)
                clear hK K
                have R1 := hid (rd_lit3 kX)
                clear hX bX kX sX hBn
                try simp only [Act.put, List.setIfInBounds_toArray, List.set_cons_zero, List.set_cons_succ]
                refine wpAnyH_ready (rs := [5]) (by kernel_rfl) (by simp) (AllReadyH.cons (o := ⟨_, _, _, _, _, _⟩) rfl (fun K hK => ?_) AllReadyH.nil)
                refine step_append_pb (F := fun g => W5.heap.size ≤ g) (v := .slice (some ⟨WE.heap.size, 0, none⟩) 0 0) (n := 0) (xs := []) rfl _ _ rfl (Own.none_ _ _ _ _ _) (RT.out.below hHeld.2.2.2.out) (by rfl) (by rfl) HTO.out (by omega) ?_
                intro Aa ca Wa ho hm hr
                have sq := hHeld.2.2.2.out.size
                simp only [Nat.zero_add, List.nil_append] at ho hr ⊢
                rw [row_none] at hm
                have hb1 := hm.below
                have hBn := hHeld.2.2.2.out.trans (hb1.mono hHeld.2.2.2.out.size)
                refine hK.out _ _ ⟨keep_cell u0 hBn, keep_cell u1 hBn, keep_cell u2 hBn, hid (hBn)⟩ (fun hHeld => ?_)
                clear hK K
                have Oa := hid (ho.mono (G := fun g => W5.heap.size ≤ g) fun g _ _ hg => hg.elim id fun hg => Nat.le_trans sq hg)
                have R1 := hid (R1.out.below hb1)
                clear ho hm hr hb1 hBn sq
                try simp only [Act.put, List.setIfInBounds_toArray, List.set_cons_zero, List.set_cons_succ]
                refine wpAnyH_ready (rs := [8]) (by kernel_rfl) (by simp) (AllReadyH.cons (o := ⟨_, _, _, _, _, _⟩) rfl (fun K hK => ?_) AllReadyH.nil)
                refine step_append_pb rfl _ _ rfl Oa.out R1.out rfl rfl HRO.out (by omega) ?_
                intro Ab cb Wb ho hm hr
                have sq := hHeld.2.2.2.out.size
                have hBn := below_mod hHeld.2.2.2.out hHeld.2.2.2.out.size hm fun g hg => (Oa.out.row hg).1
                refine hK.out _ _ ⟨keep_cell u0 hBn, keep_cell u1 hBn, keep_cell u2 hBn, hid (hBn)⟩ (fun hHeld => ?_)
                clear hK K
                have Ob := hid (ho.rd.mono (G := fun g => W5.heap.size ≤ g) fun g _ hg => hg.elim id fun hg => Nat.le_trans sq hg)
                clear ho hm hr hBn sq
                try simp only [Act.put, List.setIfInBounds_toArray, List.set_cons_zero, List.set_cons_succ]
                refine wpAnyH_ready (rs := [10]) (by kernel_rfl) (by simp) (AllReadyH.cons (o := ⟨_, _, _, _, _, _⟩) rfl (fun K hK => ?_) AllReadyH.nil)
                go_simp
                refine hK.out _ _ hHeld (fun hHeld => ?_)
                clear hK K
                try simp only [Act.put, List.setIfInBounds_toArray, List.set_cons_zero, List.set_cons_succ]
                refine wpAnyH_ready (rs := [11]) (by kernel_rfl) (by simp) (AllReadyH.cons (o := ⟨_, _, _, _, _, _⟩) rfl (fun K hK => ?_) AllReadyH.nil)
                go_simp
                refine hK.out _ _ hHeld (fun hHeld => ?_)
                clear hK K
                try simp only [Act.put, List.setIfInBounds_toArray, List.set_cons_zero, List.set_cons_succ]
                refine wpAnyH_done (by kernel_rfl) ?_ _
                go_wp2_with fail
                refine bodyPost_ret (v := .tuple #[.slice Ab (k + 1) cb, .int .i64 R.2]) (by simp [results, Tryd.f51, go_sem]) rfl ?_
                have hBf := hHeld.2.2.2.out
                exact ⟨⟨_, rfl, fun _ => ⟨Ab, cb, by rw [List.length_append, htl.out]; rfl, ps_snoc (by rw [htl.out]; exact Ob.out) PT.out HRP.out hBf (fun g hg => .inr (Nat.le_trans BF.out.size hg)) (fun g hg => .inl hg) fun g hg => .inr hg.1⟩⟩, BF.out.trans (hBf.mono BF.out.size)⟩
            · go_simp
              go_simp
              obtain ⟨Y7, hX, bX, kX, sX⟩ := alloc_step WE (.cells #[.slice E1 q1 f1, .slice E2 q2 f2, .int .i64 R.1.bound] 24)
              rw [hX]
              have hBn := hHeld.2.2.2.out.trans (bX.mono hHeld.2.2.2.out.size)
              refine hK.out _ _ ⟨keep_cell u0 hBn, keep_cell u1 hBn, keep_cell u2 hBn, hid (hBn)⟩ (fun hHeld => ?_)
              clear hK K
              have R1 := hid (rd_lit3 kX)
              clear hX bX kX sX hBn
              try simp only [Act.put, List.setIfInBounds_toArray, List.set_cons_zero, List.set_cons_succ]
              refine wpAnyH_ready (rs := [0]) (by kernel_rfl) (by simp) (AllReadyH.cons (o := ⟨_, _, _, _, _, _⟩) rfl (fun K hK => ?_) AllReadyH.nil)
              go_simp
              go_simp
              obtain ⟨Y0, hX, bX, kX, sX⟩ := alloc_step Y7 (.cells #[] 24)
              rw [hX]
              have hBn := hHeld.2.2.2.out.trans (bX.mono hHeld.2.2.2.out.size)
              refine hK.out _ _ ⟨keep_cell u0 hBn, keep_cell u1 hBn, keep_cell u2 hBn, hid (hBn)⟩ (fun hHeld => ?_)
              clear hK K
              have R1 := hid (R1.out.below bX)
              clear hX bX kX sX hBn
              try simp only [Act.put, List.setIfInBounds_toArray, List.set_cons_zero, List.set_cons_succ]
              refine wpAnyH_ready (rs := [5]) (by kernel_rfl) (by simp) (AllReadyH.cons (o := ⟨_, _, _, _, _, _⟩) rfl (fun K hK => ?_) AllReadyH.nil)
              refine step_append_pb (F := fun g => W5.heap.size ≤ g) (v := .slice (some ⟨Y7.heap.size, 0, none⟩) 0 0) (n := 0) (xs := []) rfl _ _ rfl (Own.none_ _ _ _ _ _) (RT.out.below hHeld.2.2.2.out) (by rfl) (by rfl) HTO.out (by omega) ?_
              intro Aa ca Wa ho hm hr
              have sq := hHeld.2.2.2.out.size
              simp only [Nat.zero_add, List.nil_append] at ho hr ⊢
              rw [row_none] at hm
              have hb1 := hm.below
              have hBn := hHeld.2.2.2.out.trans (hb1.mono hHeld.2.2.2.out.size)
              refine hK.out _ _ ⟨keep_cell u0 hBn, keep_cell u1 hBn, keep_cell u2 hBn, hid (hBn)⟩ (fun hHeld => ?_)
              clear hK K
              have Oa := hid (ho.mono (G := fun g => W5.heap.size ≤ g) fun g _ _ hg => hg.elim id fun hg => Nat.le_trans sq hg)
              have R1 := hid (R1.out.below hb1)
              clear ho hm hr hb1 hBn sq
              try simp only [Act.put, List.setIfInBounds_toArray, List.set_cons_zero, List.set_cons_succ]
              refine wpAnyH_ready (rs := [8]) (by kernel_rfl) (by simp) (AllReadyH.cons (o := ⟨_, _, _, _, _, _⟩) rfl (fun K hK => ?_) AllReadyH.nil)
              refine step_append_pb rfl _ _ rfl Oa.out R1.out rfl rfl HRO.out (by omega) ?_
              intro Ab cb Wb ho hm hr
              have sq := hHeld.2.2.2.out.size
              have hBn := below_mod hHeld.2.2.2.out hHeld.2.2.2.out.size hm fun g hg => (Oa.out.row hg).1
              refine hK.out _ _ ⟨keep_cell u0 hBn, keep_cell u1 hBn, keep_cell u2 hBn, hid (hBn)⟩ (fun hHeld => ?_)
              clear hK K
              have Ob := hid (ho.rd.mono (G := fun g => W5.heap.size ≤ g) fun g _ hg => hg.elim id fun hg => Nat.le_trans sq hg)
              clear ho hm hr hBn sq
              try simp only [Act.put, List.setIfInBounds_toArray, List.set_cons_zero, List.set_cons_succ]
              refine wpAnyH_ready (rs := [10]) (by kernel_rfl) (by simp) (AllReadyH.cons (o := ⟨_, _, _, _, _, _⟩) rfl (fun K hK => ?_) AllReadyH.nil)
              go_simp
              refine hK.out _ _ hHeld (fun hHeld => ?_)
              clear hK K
              try simp only [Act.put, List.setIfInBounds_toArray, List.set_cons_zero, List.set_cons_succ]
              refine wpAnyH_ready (rs := [11]) (by kernel_rfl) (by simp) (AllReadyH.cons (o := ⟨_, _, _, _, _, _⟩) rfl (fun K hK => ?_) AllReadyH.nil)
              go_simp
              refine hK.out _ _ hHeld (fun hHeld => ?_)
              clear hK K
              try simp only [Act.put, List.setIfInBounds_toArray, List.set_cons_zero, List.set_cons_succ]
              refine wpAnyH_done (by kernel_rfl) ?_ _
              go_wp2_with fail
              refine bodyPost_ret (v := .tuple #[.slice Ab (k + 1) cb, .int .i64 R.2]) (by simp [results, Tryd.f51, go_sem]) rfl ?_
              have hBf := hHeld.2.2.2.out
              exact ⟨⟨_, rfl, fun _ => ⟨Ab, cb, by rw [List.length_append, htl.out]; rfl, ps_snoc (by rw [htl.out]; exact Ob.out) PT.out HRP.out hBf (fun g hg => .inr (Nat.le_trans BF.out.size hg)) (fun g hg => .inl hg) fun g hg => .inr hg.1⟩⟩, BF.out.trans (hBf.mono BF.out.size)⟩
          · go_simp
            go_simp
            obtain ⟨X14, hX, bX, kX, sX⟩ := alloc_step WD (.cells #[.slice none 0 0, .slice none 0 0, .int .i64 0] 24)
            rw [hX]
            have hBn := hHeld.2.2.2.2.2.2.2.2.out.trans (bX.mono hHeld.2.2.2.2.2.2.2.2.out.size)
            have s14 := hHeld.2.2.2.2.2.2.2.2.out.size
            obtain ⟨tb, htb⟩ : ∃ t, WD.heap.size = t := ⟨_, rfl⟩
            refine hK.out _ _ ⟨keep_cell t0 hBn, keep_cell t1 hBn, keep_cell e0 hBn, keep_cell e1 hBn, keep_cell e2 hBn, keep_cell z0 hBn, keep_cell z1 hBn, keep_cell z2 hBn, hid (hBn)⟩ (fun hHeld => ?_)
            clear hK K
            rw [htb] at kX sX s14
            try rw [htb]
            have KT := hid kX
            have htX : tb < X14.heap.size := by omega
            clear hX bX kX sX hBn
            try simp only [Act.put, List.setIfInBounds_toArray, List.set_cons_zero, List.set_cons_succ]
            refine wpAnyH_ready (rs := [10]) (by kernel_rfl) (by simp) (AllReadyH.cons (o := ⟨_, _, _, _, _, _⟩) rfl (fun K hK => ?_) AllReadyH.nil)
            go_simp
            go_simp
            refine (radd_any (Hp.out.below hHeld.2.2.2.2.2.2.2.2.out) (Hq.out.below hHeld.2.2.2.2.2.2.2.2.out) Hi1.out Hi2.out Hf1.out Hf2.out).mono ?_
            rintro r W10 ⟨⟨pv, rfl, hpv⟩, bv⟩
            rw [HR.out] at hpv ⊢
            have sC := Nat.le_trans B0.out.size hHeld.2.2.2.2.2.2.2.2.out.size
            have hBn := hHeld.2.2.2.2.2.2.2.2.out.trans (bv.mono hHeld.2.2.2.2.2.2.2.2.out.size)
            have hpv2 := hid hpv
            obtain ⟨⟨E1, q1, f1, E2, q2, f2, rfl, _, _⟩, _⟩ := hpv
            refine hK.out _ _ ⟨keep_cell t0 hBn, keep_cell t1 hBn, keep_cell e0 hBn, keep_cell e1 hBn, keep_cell e2 hBn, keep_cell z0 hBn, keep_cell z1 hBn, keep_cell z2 hBn, hid (hBn)⟩ (fun hHeld => ?_)
            clear hK K
            have hR := hid (hpv2.out.mono (G := fun g => W.heap.size ≤ g ∧ g ≠ tb) fun g _ (hg : X14.heap.size ≤ g) => ⟨Nat.le_trans sC hg, by omega⟩)
            have KT := hid (keep_blk KT.out bv)
            have htX : tb < W10.heap.size := by have := bv.size; omega
            clear bv hBn hpv2
            try simp only [Act.put, List.setIfInBounds_toArray, List.set_cons_zero, List.set_cons_succ]
            refine wpAnyH_take (i := 11) (oi := ⟨_, _, _, _, _, _⟩) (v := ?_) rfl (by kernel_rfl) (by kernel_rfl) (by kernel_rfl) (fun _ _ _ h => h) (Or.inl ⟨by rfl, ?_⟩) (by assumption) ?_
            rotate_left
            · intro w hSw
              try dsimp only at hSw
              go_simp
              try with_reducible rfl
            simp only [Act.put, List.setIfInBounds_toArray, List.set_cons_zero, List.set_cons_succ]
            refine wpAnyH_take (i := 12) (oi := ⟨_, _, _, _, _, _⟩) (v := ?_) rfl (by kernel_rfl) (by kernel_rfl) (by kernel_rfl) (fun _ _ _ h => h) (Or.inl ⟨by rfl, ?_⟩) (by assumption) ?_
            rotate_left
            · intro w hSw
              try dsimp only at hSw
              go_simp
              try with_reducible rfl
            simp only [Act.put, List.setIfInBounds_toArray, List.set_cons_zero, List.set_cons_succ]
            refine wpAnyH_take (i := 13) (oi := ⟨_, _, _, _, _, _⟩) (v := ?_) rfl (by kernel_rfl) (by kernel_rfl) (by kernel_rfl) (fun _ _ _ h => h) (Or.inl ⟨by rfl, ?_⟩) (by assumption) ?_
            rotate_left
            · intro w hSw
              try dsimp only at hSw
              go_simp
              try with_reducible rfl
            simp only [Act.put, List.setIfInBounds_toArray, List.set_cons_zero, List.set_cons_succ]
            refine wpAnyH_ready (rs := [15]) (by kernel_rfl) (by simp) (AllReadyH.cons (o := ⟨_, _, _, _, _, _⟩) rfl (fun K hK => ?_) AllReadyH.nil)
            go_simp
            obtain ⟨x0, x1, x2⟩ := box3 KT.out
            obtain ⟨y0, y1, y2⟩ := froz3 KT.out
            go_simp
            obtain ⟨u0, u1, u2, m3⟩ := set3 x0 x1 x2 (.slice E1 q1 f1) (.slice E2 q2 f2) (.int .i64 R.1.bound)
            have hBn := below_mod hHeld.2.2.2.2.2.2.2.2.out hHeld.2.2.2.2.2.2.2.2.out.size m3 fun g hg => by omega
            refine hK.out _ _ ⟨keep_cell t0 hBn, keep_cell t1 hBn, keep_cell e0 hBn, keep_cell e1 hBn, keep_cell e2 hBn, keep_cell z0 hBn, keep_cell z1 hBn, keep_cell z2 hBn, hid (hBn)⟩ (fun hHeld => ?_)
            clear hK K
            have HRP := hid (hR.out.mod m3 fun g _ hg e => hg.2 e)
            clear x0 x1 x2 y0 y1 y2 hBn
            try simp only [Act.put, List.setIfInBounds_toArray, List.set_cons_zero, List.set_cons_succ]
            refine wpAnyH_ready (rs := [16]) (by kernel_rfl) (by simp) (AllReadyH.cons (o := ⟨_, _, _, _, _, _⟩) rfl (fun K hK => ?_) AllReadyH.nil)
            go_simp
            refine hK.out _ _ hHeld (fun hHeld => ?_)
            clear hK K
            try simp only [Act.put, List.setIfInBounds_toArray, List.set_cons_zero, List.set_cons_succ]
            refine wpAnyH_done (by kernel_rfl) ?_ _
            have BX := hid hHeld.2.2.2.2.2.2.2.2.out
            have BF := hid (B0.out.trans (BX.out.mono B0.out.size))
            clear hHeld m3 KT hR
            obtain ⟨W5, hW5⟩ : ∃ X, (((W10.setCell ⟨tb, 0, none⟩ (.slice E1 q1 f1)).setCell ⟨tb, 1, none⟩ (.slice E2 q2 f2)).setCell ⟨tb, 2, none⟩ (.int .i64 R.1.bound)) = X := ⟨_, rfl⟩
            rw [hW5] at u0 u1 u2 HRP BF BX ⊢
            clear hW5
            have RT := hid ((RS.out.take (show k ≤ n by omega)).below BX.out)
            rw [flat3_take] at RT
            have PT := hid ((PS.out.take k).below BX.out)
            have HRO := hid (pb_one HRP.out)
            go_upto_region 10 with fail
            refine wp_region_held_drew (S := fun w' => w'.cell? ⟨tb, 0, none⟩ = some (.slice E1 q1 f1) ∧ w'.cell? ⟨tb, 1, none⟩ = some (.slice E2 q2 f2) ∧ w'.cell? ⟨tb, 2, none⟩ = some (.int .i64 R.1.bound) ∧ Hid (Below W5.heap.size W5 w')) (by kernel_rfl) ⟨keep_cell u0 (Bl.drew (Below.refl _ _)), keep_cell u1 (Bl.drew (Below.refl _ _)), keep_cell u2 (Bl.drew (Below.refl _ _)), hid ((Bl.drew (Below.refl _ _)))⟩ (fun hHeld => ?_)
            obtain ⟨WE, hWD⟩ : ∃ X, W5.drew = X := ⟨_, rfl⟩
            rw [hWD] at hHeld ⊢
            clear hWD
            refine wpAnyH_take (i := 1) (oi := ⟨_, _, _, _, _, _⟩) (v := ?_) rfl (by kernel_rfl) (by kernel_rfl) (by kernel_rfl) (fun _ _ _ h => h) (Or.inl ⟨by rfl, ?_⟩) (by assumption) ?_
            rotate_left
            · intro w hSw
              try dsimp only at hSw
              go_simp
              try with_reducible rfl
            simp only [Act.put, List.setIfInBounds_toArray, List.set_cons_zero, List.set_cons_succ]
            refine wpAnyH_take (i := 2) (oi := ⟨_, _, _, _, _, _⟩) (v := ?_) rfl (by kernel_rfl) (by kernel_rfl) (by kernel_rfl) (fun _ _ _ h => h) (Or.inl ⟨by rfl, ?_⟩) (by assumption) ?_
            rotate_left
            · intro w hSw
              try dsimp only at hSw
              go_simp
              try with_reducible rfl
            simp only [Act.put, List.setIfInBounds_toArray, List.set_cons_zero, List.set_cons_succ]
            refine wpAnyH_take (i := 6) (oi := ⟨_, _, _, _, _, _⟩) (v := ?_) rfl (by kernel_rfl) (by kernel_rfl) (by kernel_rfl) (fun _ _ _ h => h) (Or.inl ⟨by rfl, ?_⟩) (by assumption) ?_
            rotate_left
            · intro w hSw
              try dsimp only at hSw
              go_simp
              try with_reducible rfl
            simp only [Act.put, List.setIfInBounds_toArray, List.set_cons_zero, List.set_cons_succ]
            refine wpAnyH_take (i := 9) (oi := ⟨_, _, _, _, _, _⟩) (v := ?_) rfl (by kernel_rfl) (by kernel_rfl) (by kernel_rfl) (fun _ _ _ h => h) (Or.inl ⟨by rfl, ?_⟩) (by assumption) ?_
            rotate_left
            · intro w hSw
              try dsimp only at hSw
              go_simp
              try with_reducible rfl
            simp only [Act.put, List.setIfInBounds_toArray, List.set_cons_zero, List.set_cons_succ]
            refine wpAnyH_take (i := 3) (oi := ⟨_, _, _, _, _, _⟩) (v := ?_) rfl (by kernel_rfl) (by kernel_rfl) (by kernel_rfl) (fun _ _ _ h => h) (Or.inl ⟨by rfl, ?_⟩) (by assumption) ?_
            rotate_left
            · intro w hSw
              try dsimp only at hSw
              go_simp
              try with_reducible rfl
            simp only [Act.put, List.setIfInBounds_toArray, List.set_cons_zero, List.set_cons_succ]
            refine wpAnyH_take (i := 4) (oi := ⟨_, _, _, _, _, _⟩) (v := ?_) rfl (by kernel_rfl) (by kernel_rfl) (by kernel_rfl) (fun _ _ _ h => h) (Or.inl ⟨by rfl, ?_⟩) (by assumption) ?_
            rotate_left
            · intro w hSw
              try dsimp only at hSw
              go_simp
              try with_reducible rfl
            simp only [Act.put, List.setIfInBounds_toArray, List.set_cons_zero, List.set_cons_succ]
            refine wpAnyH_ready (rs := [0, 7]) (by kernel_rfl) (by simp) (AllReadyH.cons (o := ⟨_, _, _, _, _, _⟩) rfl (fun K hK => ?_) (AllReadyH.cons (o := ⟨_, _, _, _, _, _⟩) rfl (fun K hK => ?_) AllReadyH.nil))
            · go_simp
              go_simp
              obtain ⟨Y0, hX, bX, kX, sX⟩ := alloc_step WE (.cells #[] 24)
              rw [hX]
              have hBn := hHeld.2.2.2.out.trans (bX.mono hHeld.2.2.2.out.size)
              refine hK.out _ _ ⟨keep_cell u0 hBn, keep_cell u1 hBn, keep_cell u2 hBn, hid (hBn)⟩ (fun hHeld => ?_)
              clear hK K
              clear hX bX kX sX hBn
              try simp only [Act.put, List.setIfInBounds_toArray, List.set_cons_zero, List.set_cons_succ]
              refine wpAnyH_ready (rs := [5, 7]) (by kernel_rfl) (by simp) (AllReadyH.cons (o := ⟨_, _, _, _, _, _⟩) rfl (fun K hK => ?_) (AllReadyH.cons (o := ⟨_, _, _, _, _, _⟩) rfl (fun K hK => ?_) AllReadyH.nil))
              · refine step_append_pb (F := fun g => W5.heap.size ≤ g) (v := .slice (some ⟨WE.heap.size, 0, none⟩) 0 0) (n := 0) (xs := []) rfl _ _ rfl (Own.none_ _ _ _ _ _) (RT.out.below hHeld.2.2.2.out) (by rfl) (by rfl) HTO.out (by omega) ?_
                intro Aa ca Wa ho hm hr
                have sq := hHeld.2.2.2.out.size
                simp only [Nat.zero_add, List.nil_append] at ho hr ⊢
                rw [row_none] at hm
                have hb1 := hm.below
                have hBn := hHeld.2.2.2.out.trans (hb1.mono hHeld.2.2.2.out.size)
                refine hK.out _ _ ⟨keep_cell u0 hBn, keep_cell u1 hBn, keep_cell u2 hBn, hid (hBn)⟩ (fun hHeld => ?_)
                clear hK K
                have Oa := hid (ho.mono (G := fun g => W5.heap.size ≤ g) fun g _ _ hg => hg.elim id fun hg => Nat.le_trans sq hg)
                clear ho hm hr hb1 hBn sq
                try simp only [Act.put, List.setIfInBounds_toArray, List.set_cons_zero, List.set_cons_succ]
                refine wpAnyH_ready (rs := [7]) (by kernel_rfl) (by simp) (AllReadyH.cons (o := ⟨_, _, _, _, _, _⟩) rfl (fun K hK => ?_) AllReadyH.nil)
                go_simp
                go_simp
                obtain ⟨Y7, hX, bX, kX, sX⟩ := alloc_step Wa (.cells #[.slice E1 q1 f1, .slice E2 q2 f2, .int .i64 R.1.bound] 24)
                rw [hX]
                have hBn := hHeld.2.2.2.out.trans (bX.mono hHeld.2.2.2.out.size)
                refine hK.out _ _ ⟨keep_cell u0 hBn, keep_cell u1 hBn, keep_cell u2 hBn, hid (hBn)⟩ (fun hHeld => ?_)
                clear hK K
                have R1 := hid (rd_lit3 kX)
                have Oa := hid (Oa.out.below bX)
                clear hX bX kX sX hBn
                try simp only [Act.put, List.setIfInBounds_toArray, List.set_cons_zero, List.set_cons_succ]
                refine wpAnyH_ready (rs := [8]) (by kernel_rfl) (by simp) (AllReadyH.cons (o := ⟨_, _, _, _, _, _⟩) rfl (fun K hK => ?_) AllReadyH.nil)
                refine step_append_pb rfl _ _ rfl Oa.out R1.out rfl rfl HRO.out (by omega) ?_
                intro Ab cb Wb ho hm hr
                have sq := hHeld.2.2.2.out.size
                have hBn := below_mod hHeld.2.2.2.out hHeld.2.2.2.out.size hm fun g hg => (Oa.out.row hg).1
                refine hK.out _ _ ⟨keep_cell u0 hBn, keep_cell u1 hBn, keep_cell u2 hBn, hid (hBn)⟩ (fun hHeld => ?_)
                clear hK K
                have Ob := hid (ho.rd.mono (G := fun g => W5.heap.size ≤ g) fun g _ hg => hg.elim id fun hg => Nat.le_trans sq hg)
                clear ho hm hr hBn sq
                try simp only [Act.put, List.setIfInBounds_toArray, List.set_cons_zero, List.set_cons_succ]
                refine wpAnyH_ready (rs := [10]) (by kernel_rfl) (by simp) (AllReadyH.cons (o := ⟨_, _, _, _, _, _⟩) rfl (fun K hK => ?_) AllReadyH.nil)
                go_simp
                refine hK.out _ _ hHeld (fun hHeld => ?_)
                clear hK K
                try simp only [Act.put, List.setIfInBounds_toArray, List.set_cons_zero, List.set_cons_succ]
                refine wpAnyH_ready (rs := [11]) (by kernel_rfl) (by simp) (AllReadyH.cons (o := ⟨_, _, _, _, _, _⟩) rfl (fun K hK => ?_) AllReadyH.nil)
                go_simp
                refine hK.out _ _ hHeld (fun hHeld => ?_)
                clear hK K
                try simp only [Act.put, List.setIfInBounds_toArray, List.set_cons_zero, List.set_cons_succ]
                refine wpAnyH_done (by kernel_rfl) ?_ _
                go_wp2_with fail
                refine bodyPost_ret (v := .tuple #[.slice Ab (k + 1) cb, .int .i64 R.2]) (by simp [results, Tryd.f51, go_sem]) rfl ?_
                have hBf := hHeld.2.2.2.out
                exact ⟨⟨_, rfl, fun _ => ⟨Ab, cb, by rw [List.length_append, htl.out]; rfl, ps_snoc (by rw [htl.out]; exact Ob.out) PT.out HRP.out hBf (fun g hg => .inr (Nat.le_trans BF.out.size hg)) (fun g hg => .inl hg) fun g hg => .inr hg.1⟩⟩, BF.out.trans (hBf.mono BF.out.size)⟩
              · go_simp
                go_simp
                obtain ⟨Y7, hX, bX, kX, sX⟩ := alloc_step Y0 (.cells #[.slice E1 q1 f1, .slice E2 q2 f2, .int .i64 R.1.bound] 24)
                rw [hX]
                have hBn := hHeld.2.2.2.out.trans (bX.mono hHeld.2.2.2.out.size)
                refine hK.out _ _ ⟨keep_cell u0 hBn, keep_cell u1 hBn, keep_cell u2 hBn, hid (hBn)⟩ (fun hHeld => ?_)
                clear hK K
                have R1 := hid (rd_lit3 kX)
                clear hX bX kX sX hBn
                try simp only [Act.put, List.setIfInBounds_toArray, List.set_cons_zero, List.set_cons_succ]
                refine wpAnyH_ready (rs := [5]) (by kernel_rfl) (by simp) (AllReadyH.cons (o := ⟨_, _, _, _, _, _⟩) rfl (fun K hK => ?_) AllReadyH.nil)
                refine step_append_pb (F := fun g => W5.heap.size ≤ g) (v := .slice (some ⟨WE.heap.size, 0, none⟩) 0 0) (n := 0) (xs := []) rfl _ _ rfl (Own.none_ _ _ _ _ _) (RT.out.below hHeld.2.2.2.out) (by rfl) (by rfl) HTO.out (by omega) ?_
                intro Aa ca Wa ho hm hr
                have sq := hHeld.2.2.2.out.size
                simp only [Nat.zero_add, List.nil_append] at ho hr ⊢
                rw [row_none] at hm
                have hb1 := hm.below
                have hBn := hHeld.2.2.2.out.trans (hb1.mono hHeld.2.2.2.out.size)
                refine hK.out _ _ ⟨keep_cell u0 hBn, keep_cell u1 hBn, keep_cell u2 hBn, hid (hBn)⟩ (fun hHeld => ?_)
                clear hK K
                have Oa := hid (ho.mono (G := fun g => W5.heap.size ≤ g) fun g _ _ hg => hg.elim id fun hg => Nat.le_trans sq hg)
                have R1 := hid (R1.out.below hb1)
                clear ho hm hr hb1 hBn sq
                try simp only [Act.put, List.setIfInBounds_toArray, List.set_cons_zero, List.set_cons_succ]
                refine wpAnyH_ready (rs := [8]) (by kernel_rfl) (by simp) (AllReadyH.cons (o := ⟨_, _, _, _, _, _⟩) rfl (fun K hK => ?_) AllReadyH.nil)
                refine step_append_pb rfl _ _ rfl Oa.out R1.out rfl rfl HRO.out (by omega) ?_
                intro Ab cb Wb ho hm hr
                have sq := hHeld.2.2.2.out.size
                have hBn := below_mod hHeld.2.2.2.out hHeld.2.2.2.out.size hm fun g hg => (Oa.out.row hg).1
                refine hK.out _ _ ⟨keep_cell u0 hBn, keep_cell u1 hBn, keep_cell u2 hBn, hid (hBn)⟩ (fun hHeld => ?_)
                clear hK K
                have Ob := hid (ho.rd.mono (G := fun g => W5.heap.size ≤ g) fun g _ hg => hg.elim id fun hg => Nat.le_trans sq hg)
                clear ho hm hr hBn sq
                try simp only [Act.put, List.setIfInBounds_toArray, List.set_cons_zero, List.set_cons_succ]
                refine wpAnyH_ready (rs := [10]) (by kernel_rfl) (by simp) (AllReadyH.cons (o := ⟨_, _, _, _, _, _⟩) rfl (fun K hK => ?_) AllReadyH.nil)
                go_simp
                refine hK.out _ _ hHeld (fun hHeld => ?_)
                clear hK K
                try simp only [Act.put, List.setIfInBounds_toArray, List.set_cons_zero, List.set_cons_succ]
                refine wpAnyH_ready (rs := [11]) (by kernel_rfl) (by simp) (AllReadyH.cons (o := ⟨_, _, _, _, _, _⟩) rfl (fun K hK => ?_) AllReadyH.nil)
                go_simp
                refine hK.out _ _ hHeld (fun hHeld => ?_)
                clear hK K
                try simp only [Act.put, List.setIfInBounds_toArray, List.set_cons_zero, List.set_cons_succ]
                refine wpAnyH_done (by kernel_rfl) ?_ _
                go_wp2_with fail
                refine bodyPost_ret (v := .tuple #[.slice Ab (k + 1) cb, .int .i64 R.2]) (by simp [results, Tryd.f51, go_sem]) rfl ?_
                have hBf := hHeld.2.2.2.out
                exact ⟨⟨_, rfl, fun _ => ⟨Ab, cb, by rw [List.length_append, htl.out]; rfl, ps_snoc (by rw [htl.out]; exact Ob.out) PT.out HRP.out hBf (fun g hg => .inr (Nat.le_trans BF.out.size hg)) (fun g hg => .inl hg) fun g hg => .inr hg.1⟩⟩, BF.out.trans (hBf.mono BF.out.size)⟩
            · go_simp
              go_simp
              obtain ⟨Y7, hX, bX, kX, sX⟩ := alloc_step WE (.cells #[.slice E1 q1 f1, .slice E2 q2 f2, .int .i64 R.1.bound] 24)
              rw [hX]
              have hBn := hHeld.2.2.2.out.trans (bX.mono hHeld.2.2.2.out.size)
              refine hK.out _ _ ⟨keep_cell u0 hBn, keep_cell u1 hBn, keep_cell u2 hBn, hid (hBn)⟩ (fun hHeld => ?_)
              clear hK K
              have R1 := hid (rd_lit3 kX)
              clear hX bX kX sX hBn
              try simp only [Act.put, List.setIfInBounds_toArray, List.set_cons_zero, List.set_cons_succ]
              refine wpAnyH_ready (rs := [0]) (by kernel_rfl) (by simp) (AllReadyH.cons (o := ⟨_, _, _, _, _, _⟩) rfl (fun K hK => ?_) AllReadyH.nil)
              go_simp
              go_simp
              obtain ⟨Y0, hX, bX, kX, sX⟩ := alloc_step Y7 (.cells #[] 24)
              rw [hX]
              have hBn := hHeld.2.2.2.out.trans (bX.mono hHeld.2.2.2.out.size)
              refine hK.out _ _ ⟨keep_cell u0 hBn, keep_cell u1 hBn, keep_cell u2 hBn, hid (hBn)⟩ (fun hHeld => ?_)
              clear hK K
              have R1 := hid (R1.out.below bX)
              clear hX bX kX sX hBn
              try simp only [Act.put, List.setIfInBounds_toArray, List.set_cons_zero, List.set_cons_succ]
              refine wpAnyH_ready (rs := [5]) (by kernel_rfl) (by simp) (AllReadyH.cons (o := ⟨_, _, _, _, _, _⟩) rfl (fun K hK => ?_) AllReadyH.nil)
              refine step_append_pb (F := fun g => W5.heap.size ≤ g) (v := .slice (some ⟨Y7.heap.size, 0, none⟩) 0 0) (n := 0) (xs := []) rfl _ _ rfl (Own.none_ _ _ _ _ _) (RT.out.below hHeld.2.2.2.out) (by rfl) (by rfl) HTO.out (by omega) ?_
              intro Aa ca Wa ho hm hr
              have sq := hHeld.2.2.2.out.size
              simp only [Nat.zero_add, List.nil_append] at ho hr ⊢
              rw [row_none] at hm
              have hb1 := hm.below
              have hBn := hHeld.2.2.2.out.trans (hb1.mono hHeld.2.2.2.out.size)
              refine hK.out _ _ ⟨keep_cell u0 hBn, keep_cell u1 hBn, keep_cell u2 hBn, hid (hBn)⟩ (fun hHeld => ?_)
              clear hK K
              have Oa := hid (ho.mono (G := fun g => W5.heap.size ≤ g) fun g _ _ hg => hg.elim id fun hg => Nat.le_trans sq hg)
              have R1 := hid (R1.out.below hb1)
              clear ho hm hr hb1 hBn sq
              try simp only [Act.put, List.setIfInBounds_toArray, List.set_cons_zero, List.set_cons_succ]
              refine wpAnyH_ready (rs := [8]) (by kernel_rfl) (by simp) (AllReadyH.cons (o := ⟨_, _, _, _, _, _⟩) rfl (fun K hK => ?_) AllReadyH.nil)
              refine step_append_pb rfl _ _ rfl Oa.out R1.out rfl rfl HRO.out (by omega) ?_
              intro Ab cb Wb ho hm hr
              have sq := hHeld.2.2.2.out.size
              have hBn := below_mod hHeld.2.2.2.out hHeld.2.2.2.out.size hm fun g hg => (Oa.out.row hg).1
              refine hK.out _ _ ⟨keep_cell u0 hBn, keep_cell u1 hBn, keep_cell u2 hBn, hid (hBn)⟩ (fun hHeld => ?_)
              clear hK K
              have Ob := hid (ho.rd.mono (G := fun g => W5.heap.size ≤ g) fun g _ hg => hg.elim id fun hg => Nat.le_trans sq hg)
              clear ho hm hr hBn sq
              try simp only [Act.put, List.setIfInBounds_toArray, List.set_cons_zero, List.set_cons_succ]
              refine wpAnyH_ready (rs := [10]) (by kernel_rfl) (by simp) (AllReadyH.cons (o := ⟨_, _, _, _, _, _⟩) rfl (fun K hK => ?_) AllReadyH.nil)
              go_simp
              refine hK.out _ _ hHeld (fun hHeld => ?_)
              clear hK K
              try simp only [Act.put, List.setIfInBounds_toArray, List.set_cons_zero, List.set_cons_succ]
              refine wpAnyH_ready (rs := [11]) (by kernel_rfl) (by simp) (AllReadyH.cons (o := ⟨_, _, _, _, _, _⟩) rfl (fun K hK => ?_) AllReadyH.nil)
              go_simp
              refine hK.out _ _ hHeld (fun hHeld => ?_)
              clear hK K
              try simp only [Act.put, List.setIfInBounds_toArray, List.set_cons_zero, List.set_cons_succ]
              refine wpAnyH_done (by kernel_rfl) ?_ _
              go_wp2_with fail
              refine bodyPost_ret (v := .tuple #[.slice Ab (k + 1) cb, .int .i64 R.2]) (by simp [results, Tryd.f51, go_sem]) rfl ?_
              have hBf := hHeld.2.2.2.out
              exact ⟨⟨_, rfl, fun _ => ⟨Ab, cb, by rw [List.length_append, htl.out]; rfl, ps_snoc (by rw [htl.out]; exact Ob.out) PT.out HRP.out hBf (fun g hg => .inr (Nat.le_trans BF.out.size hg)) (fun g hg => .inl hg) fun g hg => .inr hg.1⟩⟩, BF.out.trans (hBf.mono BF.out.size)⟩
        · have y3 : (z != 0) = true := by simp [hz0]
          obtain rfl : x = (s, 2) := by rw [← Hx.out]; simp [stepB, k2, hz0]
          clear Hx k2
          go_enter Tryd.func51, Tryd.ntmps51
          go_upto_region 1 with fail
          rw [HX0.out]
          go_wp2_with fail
          refine bodyPost_ret (v := .tuple #[.slice none 0 0, .int .i64 2]) (by simp [results, Tryd.f51, go_sem]) rfl ?_
          exact ⟨⟨_, rfl, fun h => absurd (show (2 : Int) = 0 from h) (by decide)⟩, B0.out⟩
    · have y2 : ¬ ((kd : Int) = 2) := by omega
      have y2b : ((kd : Int) == 2) = false := by simp [y2]
      by_cases h0 : n < 1
      · have h0' : (n : Int) < 1 := by omega
        obtain rfl : x = (s, 2) := by rw [← Hx.out]; simp [stepB, k1, k2, hsl.out]; omega
        clear Hx
        go_enter Tryd.func51, Tryd.ntmps51
        go_upto_region 1 with fail
        rw [HX0.out]
        go_wp2_with fail
        refine bodyPost_ret (v := .tuple #[.slice none 0 0, .int .i64 2]) (by simp [results, Tryd.f51, go_sem]) rfl ?_
        exact ⟨⟨_, rfl, fun h => absurd (show (2 : Int) = 0 from h) (by decide)⟩, B0.out⟩
      · have h0' : ¬ ((n : Int) < 1) := by omega
        by_cases k3 : kd < 3
        · have y3 : (kd : Int) < 3 := by omega
          obtain rfl : x = (s, 2) := by rw [← Hx.out]; simp [stepB, k1, k2, k3]
          clear Hx
          go_enter Tryd.func51, Tryd.ntmps51
          go_upto_region 1 with fail
          rw [HX0.out]
          go_wp2_with fail
          refine bodyPost_ret (v := .tuple #[.slice none 0 0, .int .i64 2]) (by simp [results, Tryd.f51, go_sem]) rfl ?_
          exact ⟨⟨_, rfl, fun h => absurd (show (2 : Int) = 0 from h) (by decide)⟩, B0.out⟩
        · have y3 : ¬ ((kd : Int) < 3) := by omega
          by_cases k5 : 5 < kd
          · have y4 : (kd : Int) > 5 := by omega
            obtain rfl : x = (s, 2) := by rw [← Hx.out]; simp [stepB, k1, k2, k5]
            clear Hx
            go_enter Tryd.func51, Tryd.ntmps51
            go_upto_region 1 with fail
            rw [HX0.out]
            go_wp2_with fail
            refine bodyPost_ret (v := .tuple #[.slice none 0 0, .int .i64 2]) (by simp [results, Tryd.f51, go_sem]) rfl ?_
            exact ⟨⟨_, rfl, fun h => absurd (show (2 : Int) = 0 from h) (by decide)⟩, B0.out⟩
          · have y4 : ¬ ((kd : Int) > 5) := by omega
            obtain ⟨k, hk⟩ : ∃ k, n = k + 1 := ⟨n - 1, by omega⟩
            have hw1 : IntKind.i64.wrap ((n : Int) - 1) = (k : Int) := by rw [iw' (by omega) (by omega)]; omega
            have hk1 : (k : Int) < (n : Int) := by omega
            obtain ⟨g, o, p, A1, n1, c1, A2, n2, c2, rfl, _, _, hpi, e0, e1, e2, hp⟩ := hs1.out.cells (i := k) (by omega)
            have hpok := hok p (List.mem_of_getElem? hpi)
            have Hp := hid hp
            have Hi1 := hid hpok.i64
            have Hf1 := hid hpok.few
            obtain ⟨R, hR⟩ : ∃ R, oneB kd p z = R := ⟨_, rfl⟩
            have HTO := hid (show ∀ u ∈ flat3 (ts.take k), u.oneCell' = true from (PS.out.take k).one)
            have htl := hid (show (s.take k).length = k by rw [List.length_take, hsl.out]; omega)
            have hcap := rd_capN RS.out
            have hsl2 := fun X => slice_pbo (g := g) (o := o) (n := n) (c := c) (i := k) (by omega) hcap X
            obtain rfl : x = (s.take k ++ [R.1], R.2) := by
              rw [← Hx.out, ← hR]
              have e5 : pbAt s k = p := by unfold pbAt; rw [hpi]; rfl
              have e8 : s.length - 1 = k := by rw [hsl.out]; omega
              have e9 : ¬ (s.length < 1 ∨ kd < 3 ∨ 5 < kd) := by rw [hsl.out]; omega
              simp only [stepB, e8, e5]
              rw [if_neg k1, if_neg k2, if_neg e9]
            obtain ⟨X1, hX1, bX1, kX1, sX1⟩ := alloc_step X0 (.cells #[.slice none 0 0, .slice none 0 0, .int .i64 0] 24)
            obtain ⟨tb, htb⟩ : ∃ t, ob + 1 = t := ⟨_, rfl⟩
            have HX1 := hid hX1

            have hgt : g < tb := by have : g < X0.heap.size := World.block_lt_of_cell? X0 _ e0; omega
            have hot : ob < tb := by omega
            rw [s0, htb] at kX1 sX1
            have KT := hid kX1
            clear Hx hpi hp hpok hok hcap hX1 kX1 hk
            rcases (show kd = 3 ∨ kd = 4 ∨ kd = 5 by omega) with k6 | k6 | k6
            · have HR := hid (show p.mulB z = R by rw [← hR]; simp [oneB, k6])
              have y13 : decide ((kd : Int) = 3) = true := by simp; omega
              have y13b : ((kd : Int) == 3) = true := by simp; omega
              have y14 : ¬ ((kd : Int) = 4) := by omega
              have y14b : ((kd : Int) == 4) = false := by simp [y14]
              have y15 : ¬ ((kd : Int) = 5) := by omega
              have y15b : ((kd : Int) == 5) = false := by simp [y15]
              clear hR k6
              go_enter Tryd.func51, Tryd.ntmps51
              go_upto_region 1 with fail
              rw [HX0.out]
              go_upto_region 14 with fail
              rw [HX1.out]
              have t0x := keep_cell t0 bX1
              go_upto_region 16 with fail
              refine wp_region_held_drew (S := fun w' => w'.cell? ⟨ob, 0, none⟩ = some (.int .u8 (kd : Int)) ∧ w'.cell? ⟨ob, 1, none⟩ = some (.int .i64 z) ∧ w'.cell? ⟨g, o + k * 3, none⟩ = some (.slice A1 n1 c1) ∧ w'.cell? ⟨g, o + k * 3 + 1, none⟩ = some (.slice A2 n2 c2) ∧ w'.cell? ⟨g, o + k * 3 + 2, none⟩ = some (.int .i64 p.bound) ∧ Hid (Below X0.heap.size X0 w')) (by kernel_rfl) ⟨keep_cell t0 (Bl.drew bX1), keep_cell t1 (Bl.drew bX1), keep_cell e0 (Bl.drew bX1), keep_cell e1 (Bl.drew bX1), keep_cell e2 (Bl.drew bX1), hid (Bl.drew bX1)⟩ (fun hHeld => ?_)
              have hD0 := hid (Bl.drew (Below.refl X1.heap.size X1))
              have sD : X1.heap.size ≤ X1.drew.heap.size := Nat.le_refl _
              obtain ⟨WD, hWD⟩ : ∃ X, X1.drew = X := ⟨_, rfl⟩
              rw [hWD] at hHeld hD0 sD ⊢
              clear hWD bX1
              refine wpAnyH_take (i := 0) (oi := ⟨_, _, _, _, _, _⟩) (v := ?_) rfl (by kernel_rfl) (by kernel_rfl) (by kernel_rfl) (fun _ _ _ h => h) (Or.inl ⟨by rfl, ?_⟩) (by assumption) ?_
              rotate_left
              · intro w hSw
                try dsimp only at hSw
                go_simp
                try with_reducible rfl
              simp only [Act.put, List.setIfInBounds_toArray, List.set_cons_zero, List.set_cons_succ]
              refine wpAnyH_take (i := 1) (oi := ⟨_, _, _, _, _, _⟩) (v := ?_) rfl (by kernel_rfl) (by kernel_rfl) (by kernel_rfl) (fun _ _ _ h => h) (Or.inl ⟨by rfl, ?_⟩) (by assumption) ?_
              rotate_left
              · intro w hSw
                try dsimp only at hSw
                go_simp
                try with_reducible rfl
              simp only [Act.put, List.setIfInBounds_toArray, List.set_cons_zero, List.set_cons_succ]
              refine wpAnyH_take (i := 5) (oi := ⟨_, _, _, _, _, _⟩) (v := ?_) rfl (by kernel_rfl) (by kernel_rfl) (by kernel_rfl) (fun _ _ _ h => h) (Or.inl ⟨by rfl, ?_⟩) (by assumption) ?_
              rotate_left
              · intro w hSw
                try dsimp only at hSw
                go_simp
                try with_reducible rfl
              simp only [Act.put, List.setIfInBounds_toArray, List.set_cons_zero, List.set_cons_succ]
              refine wpAnyH_take (i := 2) (oi := ⟨_, _, _, _, _, _⟩) (v := ?_) rfl (by kernel_rfl) (by kernel_rfl) (by kernel_rfl) (fun _ _ _ h => h) (Or.inl ⟨by rfl, ?_⟩) (by assumption) ?_
              rotate_left
              · intro w hSw
                try dsimp only at hSw
                go_simp
                try with_reducible rfl
              simp only [Act.put, List.setIfInBounds_toArray, List.set_cons_zero, List.set_cons_succ]
              refine wpAnyH_take (i := 6) (oi := ⟨_, _, _, _, _, _⟩) (v := ?_) rfl (by kernel_rfl) (by kernel_rfl) (by kernel_rfl) (fun _ _ _ h => h) (Or.inl ⟨by rfl, ?_⟩) (by assumption) ?_
              rotate_left
              · intro w hSw
                try dsimp only at hSw
                go_simp
                try with_reducible rfl
              simp only [Act.put, List.setIfInBounds_toArray, List.set_cons_zero, List.set_cons_succ]
              refine wpAnyH_take (i := 3) (oi := ⟨_, _, _, _, _, _⟩) (v := ?_) rfl (by kernel_rfl) (by kernel_rfl) (by kernel_rfl) (fun _ _ _ h => h) (Or.inl ⟨by rfl, ?_⟩) (by assumption) ?_
              rotate_left
              · intro w hSw
                try dsimp only at hSw
                go_simp
                try with_reducible rfl
              simp only [Act.put, List.setIfInBounds_toArray, List.set_cons_zero, List.set_cons_succ]
              refine wpAnyH_take (i := 4) (oi := ⟨_, _, _, _, _, _⟩) (v := ?_) rfl (by kernel_rfl) (by kernel_rfl) (by kernel_rfl) (fun _ _ _ h => h) (Or.inl ⟨by rfl, ?_⟩) (by assumption) ?_
              rotate_left
              · intro w hSw
                try dsimp only at hSw
                go_simp
                try with_reducible rfl
              simp only [Act.put, List.setIfInBounds_toArray, List.set_cons_zero, List.set_cons_succ]
              refine wpAnyH_ready (rs := [7]) (by kernel_rfl) (by simp) (AllReadyH.cons (o := ⟨_, _, _, _, _, _⟩) rfl (fun K hK => ?_) AllReadyH.nil)
              go_simp
              go_simp
              refine (rmul_any (Hp.out.below hHeld.2.2.2.2.2.out) Hi1.out Hf1.out).mono ?_
              rintro r W10 ⟨⟨pv, rfl, hpv⟩, bv⟩
              rw [HR.out] at hpv ⊢
              have sC := Nat.le_trans B0.out.size hHeld.2.2.2.2.2.out.size
              have hBn := hHeld.2.2.2.2.2.out.trans (bv.mono hHeld.2.2.2.2.2.out.size)
              have hpv2 := hid hpv
              obtain ⟨⟨E1, q1, f1, E2, q2, f2, rfl, _, _⟩, _⟩ := hpv
              refine hK.out _ _ ⟨keep_cell t0 hBn, keep_cell t1 hBn, keep_cell e0 hBn, keep_cell e1 hBn, keep_cell e2 hBn, hid (hBn)⟩ (fun hHeld => ?_)
              clear hK K
              have hR := hid (hpv2.out.mono (G := fun g => W.heap.size ≤ g ∧ g ≠ tb) fun g _ (hg : WD.heap.size ≤ g) => ⟨Nat.le_trans sC hg, by omega⟩)
              have KT := hid (keep_blk (keep_blk KT.out hD0.out) bv)
              clear bv hBn hpv2
              try simp only [Act.put, List.setIfInBounds_toArray, List.set_cons_zero, List.set_cons_succ]
              refine wpAnyH_take (i := 8) (oi := ⟨_, _, _, _, _, _⟩) (v := ?_) rfl (by kernel_rfl) (by kernel_rfl) (by kernel_rfl) (fun _ _ _ h => h) (Or.inl ⟨by rfl, ?_⟩) (by assumption) ?_
              rotate_left
              · intro w hSw
                try dsimp only at hSw
                go_simp
                try with_reducible rfl
              simp only [Act.put, List.setIfInBounds_toArray, List.set_cons_zero, List.set_cons_succ]
              refine wpAnyH_take (i := 9) (oi := ⟨_, _, _, _, _, _⟩) (v := ?_) rfl (by kernel_rfl) (by kernel_rfl) (by kernel_rfl) (fun _ _ _ h => h) (Or.inl ⟨by rfl, ?_⟩) (by assumption) ?_
              rotate_left
              · intro w hSw
                try dsimp only at hSw
                go_simp
                try with_reducible rfl
              simp only [Act.put, List.setIfInBounds_toArray, List.set_cons_zero, List.set_cons_succ]
              refine wpAnyH_take (i := 10) (oi := ⟨_, _, _, _, _, _⟩) (v := ?_) rfl (by kernel_rfl) (by kernel_rfl) (by kernel_rfl) (fun _ _ _ h => h) (Or.inl ⟨by rfl, ?_⟩) (by assumption) ?_
              rotate_left
              · intro w hSw
                try dsimp only at hSw
                go_simp
                try with_reducible rfl
              simp only [Act.put, List.setIfInBounds_toArray, List.set_cons_zero, List.set_cons_succ]
              refine wpAnyH_ready (rs := [11]) (by kernel_rfl) (by simp) (AllReadyH.cons (o := ⟨_, _, _, _, _, _⟩) rfl (fun K hK => ?_) AllReadyH.nil)
              go_simp
              obtain ⟨x0, x1, x2⟩ := box3 KT.out
              obtain ⟨y0, y1, y2⟩ := froz3 KT.out
              go_simp
              obtain ⟨u0, u1, u2, m3⟩ := set3 x0 x1 x2 (.slice E1 q1 f1) (.slice E2 q2 f2) (.int .i64 R.1.bound)
              have hMn := hHeld.2.2.2.2.2.out
              refine hK.out _ _ ⟨(World.cell?_of_block (m3.block ob (World.block_lt_of_cell? _ _ hHeld.1) (by omega))).trans hHeld.1, (World.cell?_of_block (m3.block ob (World.block_lt_of_cell? _ _ hHeld.2.1) (by omega))).trans hHeld.2.1, (World.cell?_of_block (m3.block g (World.block_lt_of_cell? _ _ hHeld.2.2.1) (by omega))).trans hHeld.2.2.1, (World.cell?_of_block (m3.block g (World.block_lt_of_cell? _ _ hHeld.2.2.2.1) (by omega))).trans hHeld.2.2.2.1, (World.cell?_of_block (m3.block g (World.block_lt_of_cell? _ _ hHeld.2.2.2.2.1) (by omega))).trans hHeld.2.2.2.2.1, hid (below_mod hHeld.2.2.2.2.2.out hHeld.2.2.2.2.2.out.size m3 fun g hg => by omega)⟩ (fun hHeld => ?_)
              clear hK K
              have HRP := hid (hR.out.mod m3 fun g _ hg e => hg.2 e)
              clear x0 x1 x2 y0 y1 y2 hMn
              try simp only [Act.put, List.setIfInBounds_toArray, List.set_cons_zero, List.set_cons_succ]
              refine wpAnyH_ready (rs := [12]) (by kernel_rfl) (by simp) (AllReadyH.cons (o := ⟨_, _, _, _, _, _⟩) rfl (fun K hK => ?_) AllReadyH.nil)
              go_simp
              refine hK.out _ _ hHeld (fun hHeld => ?_)
              clear hK K
              try simp only [Act.put, List.setIfInBounds_toArray, List.set_cons_zero, List.set_cons_succ]
              refine wpAnyH_done (by kernel_rfl) ?_ _
              have BX := hid hHeld.2.2.2.2.2.out
              have BF := hid (B0.out.trans (BX.out.mono B0.out.size))
              have t5 := hHeld.1
              clear hHeld m3 KT hR
              obtain ⟨W5, hW5⟩ : ∃ X, (((W10.setCell ⟨tb, 0, none⟩ (.slice E1 q1 f1)).setCell ⟨tb, 1, none⟩ (.slice E2 q2 f2)).setCell ⟨tb, 2, none⟩ (.int .i64 R.1.bound)) = X := ⟨_, rfl⟩
              rw [hW5] at u0 u1 u2 HRP BF BX t5 ⊢
              clear hW5
              have RT := hid ((RS.out.take (show k ≤ n by omega)).below BX.out)
              rw [flat3_take] at RT
              have PT := hid ((PS.out.take k).below BX.out)
              have HRO := hid (pb_one HRP.out)
              go_upto_region 21 with fail
              refine wp_region_held_drew (S := fun w' => w'.cell? ⟨tb, 0, none⟩ = some (.slice E1 q1 f1) ∧ w'.cell? ⟨tb, 1, none⟩ = some (.slice E2 q2 f2) ∧ w'.cell? ⟨tb, 2, none⟩ = some (.int .i64 R.1.bound) ∧ Hid (Below W5.heap.size W5 w')) (by kernel_rfl) ⟨keep_cell u0 (Bl.drew (Below.refl _ _)), keep_cell u1 (Bl.drew (Below.refl _ _)), keep_cell u2 (Bl.drew (Below.refl _ _)), hid ((Bl.drew (Below.refl _ _)))⟩ (fun hHeld => ?_)
              obtain ⟨WE, hWD⟩ : ∃ X, W5.drew = X := ⟨_, rfl⟩
              rw [hWD] at hHeld ⊢
              clear hWD
              refine wpAnyH_take (i := 1) (oi := ⟨_, _, _, _, _, _⟩) (v := ?_) rfl (by kernel_rfl) (by kernel_rfl) (by kernel_rfl) (fun _ _ _ h => h) (Or.inl ⟨by rfl, ?_⟩) (by assumption) ?_
              rotate_left
              · intro w hSw
                try dsimp only at hSw
                go_simp
                try with_reducible rfl
              simp only [Act.put, List.setIfInBounds_toArray, List.set_cons_zero, List.set_cons_succ]
              refine wpAnyH_take (i := 2) (oi := ⟨_, _, _, _, _, _⟩) (v := ?_) rfl (by kernel_rfl) (by kernel_rfl) (by kernel_rfl) (fun _ _ _ h => h) (Or.inl ⟨by rfl, ?_⟩) (by assumption) ?_
              rotate_left
              · intro w hSw
                try dsimp only at hSw
                go_simp
                try with_reducible rfl
              simp only [Act.put, List.setIfInBounds_toArray, List.set_cons_zero, List.set_cons_succ]
              refine wpAnyH_take (i := 6) (oi := ⟨_, _, _, _, _, _⟩) (v := ?_) rfl (by kernel_rfl) (by kernel_rfl) (by kernel_rfl) (fun _ _ _ h => h) (Or.inl ⟨by rfl, ?_⟩) (by assumption) ?_
              rotate_left
              · intro w hSw
                try dsimp only at hSw
                go_simp
                try with_reducible rfl
              simp only [Act.put, List.setIfInBounds_toArray, List.set_cons_zero, List.set_cons_succ]
              refine wpAnyH_take (i := 9) (oi := ⟨_, _, _, _, _, _⟩) (v := ?_) rfl (by kernel_rfl) (by kernel_rfl) (by kernel_rfl) (fun _ _ _ h => h) (Or.inl ⟨by rfl, ?_⟩) (by assumption) ?_
              rotate_left
              · intro w hSw
                try dsimp only at hSw
                go_simp
                try with_reducible rfl
              simp only [Act.put, List.setIfInBounds_toArray, List.set_cons_zero, List.set_cons_succ]
              refine wpAnyH_take (i := 3) (oi := ⟨_, _, _, _, _, _⟩) (v := ?_) rfl (by kernel_rfl) (by kernel_rfl) (by kernel_rfl) (fun _ _ _ h => h) (Or.inl ⟨by rfl, ?_⟩) (by assumption) ?_
              rotate_left
              · intro w hSw
                try dsimp only at hSw
                go_simp
                try with_reducible rfl
              simp only [Act.put, List.setIfInBounds_toArray, List.set_cons_zero, List.set_cons_succ]
              refine wpAnyH_take (i := 4) (oi := ⟨_, _, _, _, _, _⟩) (v := ?_) rfl (by kernel_rfl) (by kernel_rfl) (by kernel_rfl) (fun _ _ _ h => h) (Or.inl ⟨by rfl, ?_⟩) (by assumption) ?_
              rotate_left
              · intro w hSw
                try dsimp only at hSw
                go_simp
                try with_reducible rfl
              simp only [Act.put, List.setIfInBounds_toArray, List.set_cons_zero, List.set_cons_succ]
              refine wpAnyH_ready (rs := [0, 7]) (by kernel_rfl) (by simp) (AllReadyH.cons (o := ⟨_, _, _, _, _, _⟩) rfl (fun K hK => ?_) (AllReadyH.cons (o := ⟨_, _, _, _, _, _⟩) rfl (fun K hK => ?_) AllReadyH.nil))
              · go_simp
                go_simp
                obtain ⟨Y0, hX, bX, kX, sX⟩ := alloc_step WE (.cells #[] 24)
                rw [hX]
                have hBn := hHeld.2.2.2.out.trans (bX.mono hHeld.2.2.2.out.size)
                refine hK.out _ _ ⟨keep_cell u0 hBn, keep_cell u1 hBn, keep_cell u2 hBn, hid (hBn)⟩ (fun hHeld => ?_)
                clear hK K
                clear hX bX kX sX hBn
                try simp only [Act.put, List.setIfInBounds_toArray, List.set_cons_zero, List.set_cons_succ]
                refine wpAnyH_ready (rs := [5, 7]) (by kernel_rfl) (by simp) (AllReadyH.cons (o := ⟨_, _, _, _, _, _⟩) rfl (fun K hK => ?_) (AllReadyH.cons (o := ⟨_, _, _, _, _, _⟩) rfl (fun K hK => ?_) AllReadyH.nil))
                · refine step_append_pb (F := fun g => W5.heap.size ≤ g) (v := .slice (some ⟨WE.heap.size, 0, none⟩) 0 0) (n := 0) (xs := []) rfl _ _ rfl (Own.none_ _ _ _ _ _) (RT.out.below hHeld.2.2.2.out) (by rfl) (by rfl) HTO.out (by omega) ?_
                  intro Aa ca Wa ho hm hr
                  have sq := hHeld.2.2.2.out.size
                  simp only [Nat.zero_add, List.nil_append] at ho hr ⊢
                  rw [row_none] at hm
                  have hb1 := hm.below
                  have hBn := hHeld.2.2.2.out.trans (hb1.mono hHeld.2.2.2.out.size)
                  refine hK.out _ _ ⟨keep_cell u0 hBn, keep_cell u1 hBn, keep_cell u2 hBn, hid (hBn)⟩ (fun hHeld => ?_)
                  clear hK K
                  have Oa := hid (ho.mono (G := fun g => W5.heap.size ≤ g) fun g _ _ hg => hg.elim id fun hg => Nat.le_trans sq hg)
                  clear ho hm hr hb1 hBn sq
                  try simp only [Act.put, List.setIfInBounds_toArray, List.set_cons_zero, List.set_cons_succ]
                  refine wpAnyH_ready (rs := [7]) (by kernel_rfl) (by simp) (AllReadyH.cons (o := ⟨_, _, _, _, _, _⟩) rfl (fun K hK => ?_) AllReadyH.nil)
                  go_simp
                  go_simp
                  obtain ⟨Y7, hX, bX, kX, sX⟩ := alloc_step Wa (.cells #[.slice E1 q1 f1, .slice E2 q2 f2, .int .i64 R.1.bound] 24)
                  rw [hX]
                  have hBn := hHeld.2.2.2.out.trans (bX.mono hHeld.2.2.2.out.size)
                  refine hK.out _ _ ⟨keep_cell u0 hBn, keep_cell u1 hBn, keep_cell u2 hBn, hid (hBn)⟩ (fun hHeld => ?_)
                  clear hK K
                  have R1 := hid (rd_lit3 kX)
                  have Oa := hid (Oa.out.below bX)
                  clear hX bX kX sX hBn
                  try simp only [Act.put, List.setIfInBounds_toArray, List.set_cons_zero, List.set_cons_succ]
                  refine wpAnyH_ready (rs := [8]) (by kernel_rfl) (by simp) (AllReadyH.cons (o := ⟨_, _, _, _, _, _⟩) rfl (fun K hK => ?_) AllReadyH.nil)
                  refine step_append_pb rfl _ _ rfl Oa.out R1.out rfl rfl HRO.out (by omega) ?_
                  intro Ab cb Wb ho hm hr
                  have sq := hHeld.2.2.2.out.size
                  have hBn := below_mod hHeld.2.2.2.out hHeld.2.2.2.out.size hm fun g hg => (Oa.out.row hg).1
                  refine hK.out _ _ ⟨keep_cell u0 hBn, keep_cell u1 hBn, keep_cell u2 hBn, hid (hBn)⟩ (fun hHeld => ?_)
                  clear hK K
                  have Ob := hid (ho.rd.mono (G := fun g => W5.heap.size ≤ g) fun g _ hg => hg.elim id fun hg => Nat.le_trans sq hg)
                  clear ho hm hr hBn sq
                  try simp only [Act.put, List.setIfInBounds_toArray, List.set_cons_zero, List.set_cons_succ]
                  refine wpAnyH_ready (rs := [10]) (by kernel_rfl) (by simp) (AllReadyH.cons (o := ⟨_, _, _, _, _, _⟩) rfl (fun K hK => ?_) AllReadyH.nil)
                  go_simp
                  refine hK.out _ _ hHeld (fun hHeld => ?_)
                  clear hK K
                  try simp only [Act.put, List.setIfInBounds_toArray, List.set_cons_zero, List.set_cons_succ]
                  refine wpAnyH_ready (rs := [11]) (by kernel_rfl) (by simp) (AllReadyH.cons (o := ⟨_, _, _, _, _, _⟩) rfl (fun K hK => ?_) AllReadyH.nil)
                  go_simp
                  refine hK.out _ _ hHeld (fun hHeld => ?_)
                  clear hK K
                  try simp only [Act.put, List.setIfInBounds_toArray, List.set_cons_zero, List.set_cons_succ]
                  refine wpAnyH_done (by kernel_rfl) ?_ _
                  go_wp2_with fail
                  refine bodyPost_ret (v := .tuple #[.slice Ab (k + 1) cb, .int .i64 R.2]) (by simp [results, Tryd.f51, go_sem]) rfl ?_
                  have hBf := hHeld.2.2.2.out
                  exact ⟨⟨_, rfl, fun _ => ⟨Ab, cb, by rw [List.length_append, htl.out]; rfl, ps_snoc (by rw [htl.out]; exact Ob.out) PT.out HRP.out hBf (fun g hg => .inr (Nat.le_trans BF.out.size hg)) (fun g hg => .inl hg) fun g hg => .inr hg.1⟩⟩, BF.out.trans (hBf.mono BF.out.size)⟩
                · go_simp
                  go_simp
                  obtain ⟨Y7, hX, bX, kX, sX⟩ := alloc_step Y0 (.cells #[.slice E1 q1 f1, .slice E2 q2 f2, .int .i64 R.1.bound] 24)
                  rw [hX]
                  have hBn := hHeld.2.2.2.out.trans (bX.mono hHeld.2.2.2.out.size)
                  refine hK.out _ _ ⟨keep_cell u0 hBn, keep_cell u1 hBn, keep_cell u2 hBn, hid (hBn)⟩ (fun hHeld => ?_)
                  clear hK K
                  have R1 := hid (rd_lit3 kX)
                  clear hX bX kX sX hBn
                  try simp only [Act.put, List.setIfInBounds_toArray, List.set_cons_zero, List.set_cons_succ]
                  refine wpAnyH_ready (rs := [5]) (by kernel_rfl) (by simp) (AllReadyH.cons (o := ⟨_, _, _, _, _, _⟩) rfl (fun K hK => ?_) AllReadyH.nil)
                  refine step_append_pb (F := fun g => W5.heap.size ≤ g) (v := .slice (some ⟨WE.heap.size, 0, none⟩) 0 0) (n := 0) (xs := []) rfl _ _ rfl (Own.none_ _ _ _ _ _) (RT.out.below hHeld.2.2.2.out) (by rfl) (by rfl) HTO.out (by omega) ?_
                  intro Aa ca Wa ho hm hr
                  have sq := hHeld.2.2.2.out.size
                  simp only [Nat.zero_add, List.nil_append] at ho hr ⊢
                  rw [row_none] at hm
                  have hb1 := hm.below
                  have hBn := hHeld.2.2.2.out.trans (hb1.mono hHeld.2.2.2.out.size)
                  refine hK.out _ _ ⟨keep_cell u0 hBn, keep_cell u1 hBn, keep_cell u2 hBn, hid (hBn)⟩ (fun hHeld => ?_)
                  clear hK K
                  have Oa := hid (ho.mono (G := fun g => W5.heap.size ≤ g) fun g _ _ hg => hg.elim id fun hg => Nat.le_trans sq hg)
                  have R1 := hid (R1.out.below hb1)
                  clear ho hm hr hb1 hBn sq
                  try simp only [Act.put, List.setIfInBounds_toArray, List.set_cons_zero, List.set_cons_succ]
                  refine wpAnyH_ready (rs := [8]) (by kernel_rfl) (by simp) (AllReadyH.cons (o := ⟨_, _, _, _, _, _⟩) rfl (fun K hK => ?_) AllReadyH.nil)
                  refine step_append_pb rfl _ _ rfl Oa.out R1.out rfl rfl HRO.out (by omega) ?_
                  intro Ab cb Wb ho hm hr
                  have sq := hHeld.2.2.2.out.size
                  have hBn := below_mod hHeld.2.2.2.out hHeld.2.2.2.out.size hm fun g hg => (Oa.out.row hg).1
                  refine hK.out _ _ ⟨keep_cell u0 hBn, keep_cell u1 hBn, keep_cell u2 hBn, hid (hBn)⟩ (fun hHeld => ?_)
                  clear hK K
                  have Ob := hid (ho.rd.mono (G := fun g => W5.heap.size ≤ g) fun g _ hg => hg.elim id fun hg => Nat.le_trans sq hg)
                  clear ho hm hr hBn sq
                  try simp only [Act.put, List.setIfInBounds_toArray, List.set_cons_zero, List.set_cons_succ]
                  refine wpAnyH_ready (rs := [10]) (by kernel_rfl) (by simp) (AllReadyH.cons (o := ⟨_, _, _, _, _, _⟩) rfl (fun K hK => ?_) AllReadyH.nil)
                  go_simp
                  refine hK.out _ _ hHeld (fun hHeld => ?_)
                  clear hK K
                  try simp only [Act.put, List.setIfInBounds_toArray, List.set_cons_zero, List.set_cons_succ]
                  refine wpAnyH_ready (rs := [11]) (by kernel_rfl) (by simp) (AllReadyH.cons (o := ⟨_, _, _, _, _, _⟩) rfl (fun K hK => ?_) AllReadyH.nil)
                  go_simp
                  refine hK.out _ _ hHeld (fun hHeld => ?_)
                  clear hK K
                  try simp only [Act.put, List.setIfInBounds_toArray, List.set_cons_zero, List.set_cons_succ]
                  refine wpAnyH_done (by kernel_rfl) ?_ _
                  go_wp2_with fail
                  refine bodyPost_ret (v := .tuple #[.slice Ab (k + 1) cb, .int .i64 R.2]) (by simp [results, Tryd.f51, go_sem]) rfl ?_
                  have hBf := hHeld.2.2.2.out
                  exact ⟨⟨_, rfl, fun _ => ⟨Ab, cb, by rw [List.length_append, htl.out]; rfl, ps_snoc (by rw [htl.out]; exact Ob.out) PT.out HRP.out hBf (fun g hg => .inr (Nat.le_trans BF.out.size hg)) (fun g hg => .inl hg) fun g hg => .inr hg.1⟩⟩, BF.out.trans (hBf.mono BF.out.size)⟩
              · go_simp
                go_simp
                obtain ⟨Y7, hX, bX, kX, sX⟩ := alloc_step WE (.cells #[.slice E1 q1 f1, .slice E2 q2 f2, .int .i64 R.1.bound] 24)
                rw [hX]
                have hBn := hHeld.2.2.2.out.trans (bX.mono hHeld.2.2.2.out.size)
                refine hK.out _ _ ⟨keep_cell u0 hBn, keep_cell u1 hBn, keep_cell u2 hBn, hid (hBn)⟩ (fun hHeld => ?_)
                clear hK K
                have R1 := hid (rd_lit3 kX)
                clear hX bX kX sX hBn
                try simp only [Act.put, List.setIfInBounds_toArray, List.set_cons_zero, List.set_cons_succ]
                refine wpAnyH_ready (rs := [0]) (by kernel_rfl) (by simp) (AllReadyH.cons (o := ⟨_, _, _, _, _, _⟩) rfl (fun K hK => ?_) AllReadyH.nil)
                go_simp
                go_simp
                obtain ⟨Y0, hX, bX, kX, sX⟩ := alloc_step Y7 (.cells #[] 24)
                rw [hX]
                have hBn := hHeld.2.2.2.out.trans (bX.mono hHeld.2.2.2.out.size)
                refine hK.out _ _ ⟨keep_cell u0 hBn, keep_cell u1 hBn, keep_cell u2 hBn, hid (hBn)⟩ (fun hHeld => ?_)
                clear hK K
                have R1 := hid (R1.out.below bX)
                clear hX bX kX sX hBn
                try simp only [Act.put, List.setIfInBounds_toArray, List.set_cons_zero, List.set_cons_succ]
                refine wpAnyH_ready (rs := [5]) (by kernel_rfl) (by simp) (AllReadyH.cons (o := ⟨_, _, _, _, _, _⟩) rfl (fun K hK => ?_) AllReadyH.nil)
                refine step_append_pb (F := fun g => W5.heap.size ≤ g) (v := .slice (some ⟨Y7.heap.size, 0, none⟩) 0 0) (n := 0) (xs := []) rfl _ _ rfl (Own.none_ _ _ _ _ _) (RT.out.below hHeld.2.2.2.out) (by rfl) (by rfl) HTO.out (by omega) ?_
                intro Aa ca Wa ho hm hr
                have sq := hHeld.2.2.2.out.size
                simp only [Nat.zero_add, List.nil_append] at ho hr ⊢
                rw [row_none] at hm
                have hb1 := hm.below
                have hBn := hHeld.2.2.2.out.trans (hb1.mono hHeld.2.2.2.out.size)
                refine hK.out _ _ ⟨keep_cell u0 hBn, keep_cell u1 hBn, keep_cell u2 hBn, hid (hBn)⟩ (fun hHeld => ?_)
                clear hK K
                have Oa := hid (ho.mono (G := fun g => W5.heap.size ≤ g) fun g _ _ hg => hg.elim id fun hg => Nat.le_trans sq hg)
                have R1 := hid (R1.out.below hb1)
                clear ho hm hr hb1 hBn sq
                try simp only [Act.put, List.setIfInBounds_toArray, List.set_cons_zero, List.set_cons_succ]
                refine wpAnyH_ready (rs := [8]) (by kernel_rfl) (by simp) (AllReadyH.cons (o := ⟨_, _, _, _, _, _⟩) rfl (fun K hK => ?_) AllReadyH.nil)
                refine step_append_pb rfl _ _ rfl Oa.out R1.out rfl rfl HRO.out (by omega) ?_
                intro Ab cb Wb ho hm hr
                have sq := hHeld.2.2.2.out.size
                have hBn := below_mod hHeld.2.2.2.out hHeld.2.2.2.out.size hm fun g hg => (Oa.out.row hg).1
                refine hK.out _ _ ⟨keep_cell u0 hBn, keep_cell u1 hBn, keep_cell u2 hBn, hid (hBn)⟩ (fun hHeld => ?_)
                clear hK K
                have Ob := hid (ho.rd.mono (G := fun g => W5.heap.size ≤ g) fun g _ hg => hg.elim id fun hg => Nat.le_trans sq hg)
                clear ho hm hr hBn sq
                try simp only [Act.put, List.setIfInBounds_toArray, List.set_cons_zero, List.set_cons_succ]
                refine wpAnyH_ready (rs := [10]) (by kernel_rfl) (by simp) (AllReadyH.cons (o := ⟨_, _, _, _, _, _⟩) rfl (fun K hK => ?_) AllReadyH.nil)
                go_simp
                refine hK.out _ _ hHeld (fun hHeld => ?_)
                clear hK K
                try simp only [Act.put, List.setIfInBounds_toArray, List.set_cons_zero, List.set_cons_succ]
                refine wpAnyH_ready (rs := [11]) (by kernel_rfl) (by simp) (AllReadyH.cons (o := ⟨_, _, _, _, _, _⟩) rfl (fun K hK => ?_) AllReadyH.nil)
                go_simp
                refine hK.out _ _ hHeld (fun hHeld => ?_)
                clear hK K
                try simp only [Act.put, List.setIfInBounds_toArray, List.set_cons_zero, List.set_cons_succ]
                refine wpAnyH_done (by kernel_rfl) ?_ _
                go_wp2_with fail
                refine bodyPost_ret (v := .tuple #[.slice Ab (k + 1) cb, .int .i64 R.2]) (by simp [results, Tryd.f51, go_sem]) rfl ?_
                have hBf := hHeld.2.2.2.out
                exact ⟨⟨_, rfl, fun _ => ⟨Ab, cb, by rw [List.length_append, htl.out]; rfl, ps_snoc (by rw [htl.out]; exact Ob.out) PT.out HRP.out hBf (fun g hg => .inr (Nat.le_trans BF.out.size hg)) (fun g hg => .inl hg) fun g hg => .inr hg.1⟩⟩, BF.out.trans (hBf.mono BF.out.size)⟩
            · have HR := hid (show p.divB z = R by rw [← hR]; simp [oneB, k6])
              have y13 : ¬ ((kd : Int) = 3) := by omega
              have y13b : ((kd : Int) == 3) = false := by simp; omega
              have y14 : decide ((kd : Int) = 4) = true := by simp; omega
              have y14b : ((kd : Int) == 4) = true := by simp; omega
              have y15 : ¬ ((kd : Int) = 5) := by omega
              have y15b : ((kd : Int) == 5) = false := by simp [y15]
              clear hR k6
              go_enter Tryd.func51, Tryd.ntmps51
              go_upto_region 1 with fail
              rw [HX0.out]
              go_upto_region 14 with fail
              rw [HX1.out]
              have t0x := keep_cell t0 bX1
              go_upto_region 18 with fail
              refine wp_region_held_drew (S := fun w' => w'.cell? ⟨ob, 0, none⟩ = some (.int .u8 (kd : Int)) ∧ w'.cell? ⟨ob, 1, none⟩ = some (.int .i64 z) ∧ w'.cell? ⟨g, o + k * 3, none⟩ = some (.slice A1 n1 c1) ∧ w'.cell? ⟨g, o + k * 3 + 1, none⟩ = some (.slice A2 n2 c2) ∧ w'.cell? ⟨g, o + k * 3 + 2, none⟩ = some (.int .i64 p.bound) ∧ Hid (Below X0.heap.size X0 w')) (by kernel_rfl) ⟨keep_cell t0 (Bl.drew bX1), keep_cell t1 (Bl.drew bX1), keep_cell e0 (Bl.drew bX1), keep_cell e1 (Bl.drew bX1), keep_cell e2 (Bl.drew bX1), hid (Bl.drew bX1)⟩ (fun hHeld => ?_)
              have hD0 := hid (Bl.drew (Below.refl X1.heap.size X1))
              have sD : X1.heap.size ≤ X1.drew.heap.size := Nat.le_refl _
              obtain ⟨WD, hWD⟩ : ∃ X, X1.drew = X := ⟨_, rfl⟩
              rw [hWD] at hHeld hD0 sD ⊢
              clear hWD bX1
              refine wpAnyH_take (i := 0) (oi := ⟨_, _, _, _, _, _⟩) (v := ?_) rfl (by kernel_rfl) (by kernel_rfl) (by kernel_rfl) (fun _ _ _ h => h) (Or.inl ⟨by rfl, ?_⟩) (by assumption) ?_
              rotate_left
              · intro w hSw
                try dsimp only at hSw
                go_simp
                try with_reducible rfl
              simp only [Act.put, List.setIfInBounds_toArray, List.set_cons_zero, List.set_cons_succ]
              refine wpAnyH_take (i := 1) (oi := ⟨_, _, _, _, _, _⟩) (v := ?_) rfl (by kernel_rfl) (by kernel_rfl) (by kernel_rfl) (fun _ _ _ h => h) (Or.inl ⟨by rfl, ?_⟩) (by assumption) ?_
              rotate_left
              · intro w hSw
                try dsimp only at hSw
                go_simp
                try with_reducible rfl
              simp only [Act.put, List.setIfInBounds_toArray, List.set_cons_zero, List.set_cons_succ]
              refine wpAnyH_take (i := 5) (oi := ⟨_, _, _, _, _, _⟩) (v := ?_) rfl (by kernel_rfl) (by kernel_rfl) (by kernel_rfl) (fun _ _ _ h => h) (Or.inl ⟨by rfl, ?_⟩) (by assumption) ?_
              rotate_left
              · intro w hSw
                try dsimp only at hSw
                go_simp
                try with_reducible rfl
              simp only [Act.put, List.setIfInBounds_toArray, List.set_cons_zero, List.set_cons_succ]
              refine wpAnyH_take (i := 2) (oi := ⟨_, _, _, _, _, _⟩) (v := ?_) rfl (by kernel_rfl) (by kernel_rfl) (by kernel_rfl) (fun _ _ _ h => h) (Or.inl ⟨by rfl, ?_⟩) (by assumption) ?_
              rotate_left
              · intro w hSw
                try dsimp only at hSw
                go_simp
                try with_reducible rfl
              simp only [Act.put, List.setIfInBounds_toArray, List.set_cons_zero, List.set_cons_succ]
              refine wpAnyH_take (i := 6) (oi := ⟨_, _, _, _, _, _⟩) (v := ?_) rfl (by kernel_rfl) (by kernel_rfl) (by kernel_rfl) (fun _ _ _ h => h) (Or.inl ⟨by rfl, ?_⟩) (by assumption) ?_
              rotate_left
              · intro w hSw
                try dsimp only at hSw
                go_simp
                try with_reducible rfl
              simp only [Act.put, List.setIfInBounds_toArray, List.set_cons_zero, List.set_cons_succ]
              refine wpAnyH_take (i := 3) (oi := ⟨_, _, _, _, _, _⟩) (v := ?_) rfl (by kernel_rfl) (by kernel_rfl) (by kernel_rfl) (fun _ _ _ h => h) (Or.inl ⟨by rfl, ?_⟩) (by assumption) ?_
              rotate_left
              · intro w hSw
                try dsimp only at hSw
                go_simp
                try with_reducible rfl
              simp only [Act.put, List.setIfInBounds_toArray, List.set_cons_zero, List.set_cons_succ]
              refine wpAnyH_take (i := 4) (oi := ⟨_, _, _, _, _, _⟩) (v := ?_) rfl (by kernel_rfl) (by kernel_rfl) (by kernel_rfl) (fun _ _ _ h => h) (Or.inl ⟨by rfl, ?_⟩) (by assumption) ?_
              rotate_left
              · intro w hSw
                try dsimp only at hSw
                go_simp
                try with_reducible rfl
              simp only [Act.put, List.setIfInBounds_toArray, List.set_cons_zero, List.set_cons_succ]
              refine wpAnyH_ready (rs := [7]) (by kernel_rfl) (by simp) (AllReadyH.cons (o := ⟨_, _, _, _, _, _⟩) rfl (fun K hK => ?_) AllReadyH.nil)
              go_simp
              go_simp
              refine (rdiv_any (Hp.out.below hHeld.2.2.2.2.2.out) Hi1.out Hf1.out).mono ?_
              rintro r W10 ⟨⟨pv, rfl, hpv⟩, bv⟩
              rw [HR.out] at hpv ⊢
              have sC := Nat.le_trans B0.out.size hHeld.2.2.2.2.2.out.size
              have hBn := hHeld.2.2.2.2.2.out.trans (bv.mono hHeld.2.2.2.2.2.out.size)
              have hpv2 := hid hpv
              obtain ⟨⟨E1, q1, f1, E2, q2, f2, rfl, _, _⟩, _⟩ := hpv
              refine hK.out _ _ ⟨keep_cell t0 hBn, keep_cell t1 hBn, keep_cell e0 hBn, keep_cell e1 hBn, keep_cell e2 hBn, hid (hBn)⟩ (fun hHeld => ?_)
              clear hK K
              have hR := hid (hpv2.out.mono (G := fun g => W.heap.size ≤ g ∧ g ≠ tb) fun g _ (hg : WD.heap.size ≤ g) => ⟨Nat.le_trans sC hg, by omega⟩)
              have KT := hid (keep_blk (keep_blk KT.out hD0.out) bv)
              clear bv hBn hpv2
              try simp only [Act.put, List.setIfInBounds_toArray, List.set_cons_zero, List.set_cons_succ]
              refine wpAnyH_take (i := 8) (oi := ⟨_, _, _, _, _, _⟩) (v := ?_) rfl (by kernel_rfl) (by kernel_rfl) (by kernel_rfl) (fun _ _ _ h => h) (Or.inl ⟨by rfl, ?_⟩) (by assumption) ?_
              rotate_left
              · intro w hSw
                try dsimp only at hSw
                go_simp
                try with_reducible rfl
              simp only [Act.put, List.setIfInBounds_toArray, List.set_cons_zero, List.set_cons_succ]
              refine wpAnyH_take (i := 9) (oi := ⟨_, _, _, _, _, _⟩) (v := ?_) rfl (by kernel_rfl) (by kernel_rfl) (by kernel_rfl) (fun _ _ _ h => h) (Or.inl ⟨by rfl, ?_⟩) (by assumption) ?_
              rotate_left
              · intro w hSw
                try dsimp only at hSw
                go_simp
                try with_reducible rfl
              simp only [Act.put, List.setIfInBounds_toArray, List.set_cons_zero, List.set_cons_succ]
              refine wpAnyH_take (i := 10) (oi := ⟨_, _, _, _, _, _⟩) (v := ?_) rfl (by kernel_rfl) (by kernel_rfl) (by kernel_rfl) (fun _ _ _ h => h) (Or.inl ⟨by rfl, ?_⟩) (by assumption) ?_
              rotate_left
              · intro w hSw
                try dsimp only at hSw
                go_simp
                try with_reducible rfl
              simp only [Act.put, List.setIfInBounds_toArray, List.set_cons_zero, List.set_cons_succ]
              refine wpAnyH_ready (rs := [11]) (by kernel_rfl) (by simp) (AllReadyH.cons (o := ⟨_, _, _, _, _, _⟩) rfl (fun K hK => ?_) AllReadyH.nil)
              go_simp
              obtain ⟨x0, x1, x2⟩ := box3 KT.out
              obtain ⟨y0, y1, y2⟩ := froz3 KT.out
              go_simp
              obtain ⟨u0, u1, u2, m3⟩ := set3 x0 x1 x2 (.slice E1 q1 f1) (.slice E2 q2 f2) (.int .i64 R.1.bound)
              have hMn := hHeld.2.2.2.2.2.out
              refine hK.out _ _ ⟨(World.cell?_of_block (m3.block ob (World.block_lt_of_cell? _ _ hHeld.1) (by omega))).trans hHeld.1, (World.cell?_of_block (m3.block ob (World.block_lt_of_cell? _ _ hHeld.2.1) (by omega))).trans hHeld.2.1, (World.cell?_of_block (m3.block g (World.block_lt_of_cell? _ _ hHeld.2.2.1) (by omega))).trans hHeld.2.2.1, (World.cell?_of_block (m3.block g (World.block_lt_of_cell? _ _ hHeld.2.2.2.1) (by omega))).trans hHeld.2.2.2.1, (World.cell?_of_block (m3.block g (World.block_lt_of_cell? _ _ hHeld.2.2.2.2.1) (by omega))).trans hHeld.2.2.2.2.1, hid (below_mod hHeld.2.2.2.2.2.out hHeld.2.2.2.2.2.out.size m3 fun g hg => by omega)⟩ (fun hHeld => ?_)
              clear hK K
              have HRP := hid (hR.out.mod m3 fun g _ hg e => hg.2 e)
              clear x0 x1 x2 y0 y1 y2 hMn
              try simp only [Act.put, List.setIfInBounds_toArray, List.set_cons_zero, List.set_cons_succ]
              refine wpAnyH_ready (rs := [12]) (by kernel_rfl) (by simp) (AllReadyH.cons (o := ⟨_, _, _, _, _, _⟩) rfl (fun K hK => ?_) AllReadyH.nil)
              go_simp
              refine hK.out _ _ hHeld (fun hHeld => ?_)
              clear hK K
              try simp only [Act.put, List.setIfInBounds_toArray, List.set_cons_zero, List.set_cons_succ]
              refine wpAnyH_done (by kernel_rfl) ?_ _
              have BX := hid hHeld.2.2.2.2.2.out
              have BF := hid (B0.out.trans (BX.out.mono B0.out.size))
              have t5 := hHeld.1
              clear hHeld m3 KT hR
              obtain ⟨W5, hW5⟩ : ∃ X, (((W10.setCell ⟨tb, 0, none⟩ (.slice E1 q1 f1)).setCell ⟨tb, 1, none⟩ (.slice E2 q2 f2)).setCell ⟨tb, 2, none⟩ (.int .i64 R.1.bound)) = X := ⟨_, rfl⟩
              rw [hW5] at u0 u1 u2 HRP BF BX t5 ⊢
              clear hW5
              have RT := hid ((RS.out.take (show k ≤ n by omega)).below BX.out)
              rw [flat3_take] at RT
              have PT := hid ((PS.out.take k).below BX.out)
              have HRO := hid (pb_one HRP.out)
              go_upto_region 21 with fail
              refine wp_region_held_drew (S := fun w' => w'.cell? ⟨tb, 0, none⟩ = some (.slice E1 q1 f1) ∧ w'.cell? ⟨tb, 1, none⟩ = some (.slice E2 q2 f2) ∧ w'.cell? ⟨tb, 2, none⟩ = some (.int .i64 R.1.bound) ∧ Hid (Below W5.heap.size W5 w')) (by kernel_rfl) ⟨keep_cell u0 (Bl.drew (Below.refl _ _)), keep_cell u1 (Bl.drew (Below.refl _ _)), keep_cell u2 (Bl.drew (Below.refl _ _)), hid ((Bl.drew (Below.refl _ _)))⟩ (fun hHeld => ?_)
              obtain ⟨WE, hWD⟩ : ∃ X, W5.drew = X := ⟨_, rfl⟩
              rw [hWD] at hHeld ⊢
              clear hWD
              refine wpAnyH_take (i := 1) (oi := ⟨_, _, _, _, _, _⟩) (v := ?_) rfl (by kernel_rfl) (by kernel_rfl) (by kernel_rfl) (fun _ _ _ h => h) (Or.inl ⟨by rfl, ?_⟩) (by assumption) ?_
              rotate_left
              · intro w hSw
                try dsimp only at hSw
                go_simp
                try with_reducible rfl
              simp only [Act.put, List.setIfInBounds_toArray, List.set_cons_zero, List.set_cons_succ]
              refine wpAnyH_take (i := 2) (oi := ⟨_, _, _, _, _, _⟩) (v := ?_) rfl (by kernel_rfl) (by kernel_rfl) (by kernel_rfl) (fun _ _ _ h => h) (Or.inl ⟨by rfl, ?_⟩) (by assumption) ?_
              rotate_left
              · intro w hSw
                try dsimp only at hSw
                go_simp
                try with_reducible rfl
              simp only [Act.put, List.setIfInBounds_toArray, List.set_cons_zero, List.set_cons_succ]
              refine wpAnyH_take (i := 6) (oi := ⟨_, _, _, _, _, _⟩) (v := ?_) rfl (by kernel_rfl) (by kernel_rfl) (by kernel_rfl) (fun _ _ _ h => h) (Or.inl ⟨by rfl, ?_⟩) (by assumption) ?_
              rotate_left
              · intro w hSw
                try dsimp only at hSw
                go_simp
                try with_reducible rfl
              simp only [Act.put, List.setIfInBounds_toArray, List.set_cons_zero, List.set_cons_succ]
              refine wpAnyH_take (i := 9) (oi := ⟨_, _, _, _, _, _⟩) (v := ?_) rfl (by kernel_rfl) (by kernel_rfl) (by kernel_rfl) (fun _ _ _ h => h) (Or.inl ⟨by rfl, ?_⟩) (by assumption) ?_
              rotate_left
              · intro w hSw
                try dsimp only at hSw
                go_simp
                try with_reducible rfl
              simp only [Act.put, List.setIfInBounds_toArray, List.set_cons_zero, List.set_cons_succ]
              refine wpAnyH_take (i := 3) (oi := ⟨_, _, _, _, _, _⟩) (v := ?_) rfl (by kernel_rfl) (by kernel_rfl) (by kernel_rfl) (fun _ _ _ h => h) (Or.inl ⟨by rfl, ?_⟩) (by assumption) ?_
              rotate_left
              · intro w hSw
                try dsimp only at hSw
                go_simp
                try with_reducible rfl
              simp only [Act.put, List.setIfInBounds_toArray, List.set_cons_zero, List.set_cons_succ]
              refine wpAnyH_take (i := 4) (oi := ⟨_, _, _, _, _, _⟩) (v := ?_) rfl (by kernel_rfl) (by kernel_rfl) (by kernel_rfl) (fun _ _ _ h => h) (Or.inl ⟨by rfl, ?_⟩) (by assumption) ?_
              rotate_left
              · intro w hSw
                try dsimp only at hSw
                go_simp
                try with_reducible rfl
              simp only [Act.put, List.setIfInBounds_toArray, List.set_cons_zero, List.set_cons_succ]
              refine wpAnyH_ready (rs := [0, 7]) (by kernel_rfl) (by simp) (AllReadyH.cons (o := ⟨_, _, _, _, _, _⟩) rfl (fun K hK => ?_) (AllReadyH.cons (o := ⟨_, _, _, _, _, _⟩) rfl (fun K hK => ?_) AllReadyH.nil))
              · go_simp
                go_simp
                obtain ⟨Y0, hX, bX, kX, sX⟩ := alloc_step WE (.cells #[] 24)
                rw [hX]
                have hBn := hHeld.2.2.2.out.trans (bX.mono hHeld.2.2.2.out.size)
                refine hK.out _ _ ⟨keep_cell u0 hBn, keep_cell u1 hBn, keep_cell u2 hBn, hid (hBn)⟩ (fun hHeld => ?_)
                clear hK K
                clear hX bX kX sX hBn
                try simp only [Act.put, List.setIfInBounds_toArray, List.set_cons_zero, List.set_cons_succ]
                refine wpAnyH_ready (rs := [5, 7]) (by kernel_rfl) (by simp) (AllReadyH.cons (o := ⟨_, _, _, _, _, _⟩) rfl (fun K hK => ?_) (AllReadyH.cons (o := ⟨_, _, _, _, _, _⟩) rfl (fun K hK => ?_) AllReadyH.nil))
                · refine step_append_pb (F := fun g => W5.heap.size ≤ g) (v := .slice (some ⟨WE.heap.size, 0, none⟩) 0 0) (n := 0) (xs := []) rfl _ _ rfl (Own.none_ _ _ _ _ _) (RT.out.below hHeld.2.2.2.out) (by rfl) (by rfl) HTO.out (by omega) ?_
                  intro Aa ca Wa ho hm hr
                  have sq := hHeld.2.2.2.out.size
                  simp only [Nat.zero_add, List.nil_append] at ho hr ⊢
                  rw [row_none] at hm
                  have hb1 := hm.below
                  have hBn := hHeld.2.2.2.out.trans (hb1.mono hHeld.2.2.2.out.size)
                  refine hK.out _ _ ⟨keep_cell u0 hBn, keep_cell u1 hBn, keep_cell u2 hBn, hid (hBn)⟩ (fun hHeld => ?_)
                  clear hK K
                  have Oa := hid (ho.mono (G := fun g => W5.heap.size ≤ g) fun g _ _ hg => hg.elim id fun hg => Nat.le_trans sq hg)
                  clear ho hm hr hb1 hBn sq
                  try simp only [Act.put, List.setIfInBounds_toArray, List.set_cons_zero, List.set_cons_succ]
                  refine wpAnyH_ready (rs := [7]) (by kernel_rfl) (by simp) (AllReadyH.cons (o := ⟨_, _, _, _, _, _⟩) rfl (fun K hK => ?_) AllReadyH.nil)
                  go_simp
                  go_simp
                  obtain ⟨Y7, hX, bX, kX, sX⟩ := alloc_step Wa (.cells #[.slice E1 q1 f1, .slice E2 q2 f2, .int .i64 R.1.bound] 24)
                  rw [hX]
                  have hBn := hHeld.2.2.2.out.trans (bX.mono hHeld.2.2.2.out.size)
                  refine hK.out _ _ ⟨keep_cell u0 hBn, keep_cell u1 hBn, keep_cell u2 hBn, hid (hBn)⟩ (fun hHeld => ?_)
                  clear hK K
                  have R1 := hid (rd_lit3 kX)
                  have Oa := hid (Oa.out.below bX)
                  clear hX bX kX sX hBn
                  try simp only [Act.put, List.setIfInBounds_toArray, List.set_cons_zero, List.set_cons_succ]
                  refine wpAnyH_ready (rs := [8]) (by kernel_rfl) (by simp) (AllReadyH.cons (o := ⟨_, _, _, _, _, _⟩) rfl (fun K hK => ?_) AllReadyH.nil)
                  refine step_append_pb rfl _ _ rfl Oa.out R1.out rfl rfl HRO.out (by omega) ?_
                  intro Ab cb Wb ho hm hr
                  have sq := hHeld.2.2.2.out.size
                  have hBn := below_mod hHeld.2.2.2.out hHeld.2.2.2.out.size hm fun g hg => (Oa.out.row hg).1
                  refine hK.out _ _ ⟨keep_cell u0 hBn, keep_cell u1 hBn, keep_cell u2 hBn, hid (hBn)⟩ (fun hHeld => ?_)
                  clear hK K
                  have Ob := hid (ho.rd.mono (G := fun g => W5.heap.size ≤ g) fun g _ hg => hg.elim id fun hg => Nat.le_trans sq hg)
                  clear ho hm hr hBn sq
                  try simp only [Act.put, List.setIfInBounds_toArray, List.set_cons_zero, List.set_cons_succ]
                  refine wpAnyH_ready (rs := [10]) (by kernel_rfl) (by simp) (AllReadyH.cons (o := ⟨_, _, _, _, _, _⟩) rfl (fun K hK => ?_) AllReadyH.nil)
                  go_simp
                  refine hK.out _ _ hHeld (fun hHeld => ?_)
                  clear hK K
                  try simp only [Act.put, List.setIfInBounds_toArray, List.set_cons_zero, List.set_cons_succ]
                  refine wpAnyH_ready (rs := [11]) (by kernel_rfl) (by simp) (AllReadyH.cons (o := ⟨_, _, _, _, _, _⟩) rfl (fun K hK => ?_) AllReadyH.nil)
                  go_simp
                  refine hK.out _ _ hHeld (fun hHeld => ?_)
                  clear hK K
                  try simp only [Act.put, List.setIfInBounds_toArray, List.set_cons_zero, List.set_cons_succ]
                  refine wpAnyH_done (by kernel_rfl) ?_ _
                  go_wp2_with fail
                  refine bodyPost_ret (v := .tuple #[.slice Ab (k + 1) cb, .int .i64 R.2]) (by simp [results, Tryd.f51, go_sem]) rfl ?_
                  have hBf := hHeld.2.2.2.out
                  exact ⟨⟨_, rfl, fun _ => ⟨Ab, cb, by rw [List.length_append, htl.out]; rfl, ps_snoc (by rw [htl.out]; exact Ob.out) PT.out HRP.out hBf (fun g hg => .inr (Nat.le_trans BF.out.size hg)) (fun g hg => .inl hg) fun g hg => .inr hg.1⟩⟩, BF.out.trans (hBf.mono BF.out.size)⟩
                · go_simp
                  go_simp
                  obtain ⟨Y7, hX, bX, kX, sX⟩ := alloc_step Y0 (.cells #[.slice E1 q1 f1, .slice E2 q2 f2, .int .i64 R.1.bound] 24)
                  rw [hX]
                  have hBn := hHeld.2.2.2.out.trans (bX.mono hHeld.2.2.2.out.size)
                  refine hK.out _ _ ⟨keep_cell u0 hBn, keep_cell u1 hBn, keep_cell u2 hBn, hid (hBn)⟩ (fun hHeld => ?_)
                  clear hK K
                  have R1 := hid (rd_lit3 kX)
                  clear hX bX kX sX hBn
                  try simp only [Act.put, List.setIfInBounds_toArray, List.set_cons_zero, List.set_cons_succ]
                  refine wpAnyH_ready (rs := [5]) (by kernel_rfl) (by simp) (AllReadyH.cons (o := ⟨_, _, _, _, _, _⟩) rfl (fun K hK => ?_) AllReadyH.nil)
                  refine step_append_pb (F := fun g => W5.heap.size ≤ g) (v := .slice (some ⟨WE.heap.size, 0, none⟩) 0 0) (n := 0) (xs := []) rfl _ _ rfl (Own.none_ _ _ _ _ _) (RT.out.below hHeld.2.2.2.out) (by rfl) (by rfl) HTO.out (by omega) ?_
                  intro Aa ca Wa ho hm hr
                  have sq := hHeld.2.2.2.out.size
                  simp only [Nat.zero_add, List.nil_append] at ho hr ⊢
                  rw [row_none] at hm
                  have hb1 := hm.below
                  have hBn := hHeld.2.2.2.out.trans (hb1.mono hHeld.2.2.2.out.size)
                  refine hK.out _ _ ⟨keep_cell u0 hBn, keep_cell u1 hBn, keep_cell u2 hBn, hid (hBn)⟩ (fun hHeld => ?_)
                  clear hK K
                  have Oa := hid (ho.mono (G := fun g => W5.heap.size ≤ g) fun g _ _ hg => hg.elim id fun hg => Nat.le_trans sq hg)
                  have R1 := hid (R1.out.below hb1)
                  clear ho hm hr hb1 hBn sq
                  try simp only [Act.put, List.setIfInBounds_toArray, List.set_cons_zero, List.set_cons_succ]
                  refine wpAnyH_ready (rs := [8]) (by kernel_rfl) (by simp) (AllReadyH.cons (o := ⟨_, _, _, _, _, _⟩) rfl (fun K hK => ?_) AllReadyH.nil)
                  refine step_append_pb rfl _ _ rfl Oa.out R1.out rfl rfl HRO.out (by omega) ?_
                  intro Ab cb Wb ho hm hr
                  have sq := hHeld.2.2.2.out.size
                  have hBn := below_mod hHeld.2.2.2.out hHeld.2.2.2.out.size hm fun g hg => (Oa.out.row hg).1
                  refine hK.out _ _ ⟨keep_cell u0 hBn, keep_cell u1 hBn, keep_cell u2 hBn, hid (hBn)⟩ (fun hHeld => ?_)
                  clear hK K
                  have Ob := hid (ho.rd.mono (G := fun g => W5.heap.size ≤ g) fun g _ hg => hg.elim id fun hg => Nat.le_trans sq hg)
                  clear ho hm hr hBn sq
                  try simp only [Act.put, List.setIfInBounds_toArray, List.set_cons_zero, List.set_cons_succ]
                  refine wpAnyH_ready (rs := [10]) (by kernel_rfl) (by simp) (AllReadyH.cons (o := ⟨_, _, _, _, _, _⟩) rfl (fun K hK => ?_) AllReadyH.nil)
                  go_simp
                  refine hK.out _ _ hHeld (fun hHeld => ?_)
                  clear hK K
                  try simp only [Act.put, List.setIfInBounds_toArray, List.set_cons_zero, List.set_cons_succ]
                  refine wpAnyH_ready (rs := [11]) (by kernel_rfl) (by simp) (AllReadyH.cons (o := ⟨_, _, _, _, _, _⟩) rfl (fun K hK => ?_) AllReadyH.nil)
                  go_simp
                  refine hK.out _ _ hHeld (fun hHeld => ?_)
                  clear hK K
                  try simp only [Act.put, List.setIfInBounds_toArray, List.set_cons_zero, List.set_cons_succ]
                  refine wpAnyH_done (by kernel_rfl) ?_ _
                  go_wp2_with fail
                  refine bodyPost_ret (v := .tuple #[.slice Ab (k + 1) cb, .int .i64 R.2]) (by simp [results, Tryd.f51, go_sem]) rfl ?_
                  have hBf := hHeld.2.2.2.out
                  exact ⟨⟨_, rfl, fun _ => ⟨Ab, cb, by rw [List.length_append, htl.out]; rfl, ps_snoc (by rw [htl.out]; exact Ob.out) PT.out HRP.out hBf (fun g hg => .inr (Nat.le_trans BF.out.size hg)) (fun g hg => .inl hg) fun g hg => .inr hg.1⟩⟩, BF.out.trans (hBf.mono BF.out.size)⟩
              · go_simp
                go_simp
                obtain ⟨Y7, hX, bX, kX, sX⟩ := alloc_step WE (.cells #[.slice E1 q1 f1, .slice E2 q2 f2, .int .i64 R.1.bound] 24)
                rw [hX]
                have hBn := hHeld.2.2.2.out.trans (bX.mono hHeld.2.2.2.out.size)
                refine hK.out _ _ ⟨keep_cell u0 hBn, keep_cell u1 hBn, keep_cell u2 hBn, hid (hBn)⟩ (fun hHeld => ?_)
                clear hK K
                have R1 := hid (rd_lit3 kX)
                clear hX bX kX sX hBn
                try simp only [Act.put, List.setIfInBounds_toArray, List.set_cons_zero, List.set_cons_succ]
                refine wpAnyH_ready (rs := [0]) (by kernel_rfl) (by simp) (AllReadyH.cons (o := ⟨_, _, _, _, _, _⟩) rfl (fun K hK => ?_) AllReadyH.nil)
                go_simp
                go_simp
                obtain ⟨Y0, hX, bX, kX, sX⟩ := alloc_step Y7 (.cells #[] 24)
                rw [hX]
                have hBn := hHeld.2.2.2.out.trans (bX.mono hHeld.2.2.2.out.size)
                refine hK.out _ _ ⟨keep_cell u0 hBn, keep_cell u1 hBn, keep_cell u2 hBn, hid (hBn)⟩ (fun hHeld => ?_)
                clear hK K
                have R1 := hid (R1.out.below bX)
                clear hX bX kX sX hBn
                try simp only [Act.put, List.setIfInBounds_toArray, List.set_cons_zero, List.set_cons_succ]
                refine wpAnyH_ready (rs := [5]) (by kernel_rfl) (by simp) (AllReadyH.cons (o := ⟨_, _, _, _, _, _⟩) rfl (fun K hK => ?_) AllReadyH.nil)
                refine step_append_pb (F := fun g => W5.heap.size ≤ g) (v := .slice (some ⟨Y7.heap.size, 0, none⟩) 0 0) (n := 0) (xs := []) rfl _ _ rfl (Own.none_ _ _ _ _ _) (RT.out.below hHeld.2.2.2.out) (by rfl) (by rfl) HTO.out (by omega) ?_
                intro Aa ca Wa ho hm hr
                have sq := hHeld.2.2.2.out.size
                simp only [Nat.zero_add, List.nil_append] at ho hr ⊢
                rw [row_none] at hm
                have hb1 := hm.below
                have hBn := hHeld.2.2.2.out.trans (hb1.mono hHeld.2.2.2.out.size)
                refine hK.out _ _ ⟨keep_cell u0 hBn, keep_cell u1 hBn, keep_cell u2 hBn, hid (hBn)⟩ (fun hHeld => ?_)
                clear hK K
                have Oa := hid (ho.mono (G := fun g => W5.heap.size ≤ g) fun g _ _ hg => hg.elim id fun hg => Nat.le_trans sq hg)
                have R1 := hid (R1.out.below hb1)
                clear ho hm hr hb1 hBn sq
                try simp only [Act.put, List.setIfInBounds_toArray, List.set_cons_zero, List.set_cons_succ]
                refine wpAnyH_ready (rs := [8]) (by kernel_rfl) (by simp) (AllReadyH.cons (o := ⟨_, _, _, _, _, _⟩) rfl (fun K hK => ?_) AllReadyH.nil)
                refine step_append_pb rfl _ _ rfl Oa.out R1.out rfl rfl HRO.out (by omega) ?_
                intro Ab cb Wb ho hm hr
                have sq := hHeld.2.2.2.out.size
                have hBn := below_mod hHeld.2.2.2.out hHeld.2.2.2.out.size hm fun g hg => (Oa.out.row hg).1
                refine hK.out _ _ ⟨keep_cell u0 hBn, keep_cell u1 hBn, keep_cell u2 hBn, hid (hBn)⟩ (fun hHeld => ?_)
                clear hK K
                have Ob := hid (ho.rd.mono (G := fun g => W5.heap.size ≤ g) fun g _ hg => hg.elim id fun hg => Nat.le_trans sq hg)
                clear ho hm hr hBn sq
                try simp only [Act.put, List.setIfInBounds_toArray, List.set_cons_zero, List.set_cons_succ]
                refine wpAnyH_ready (rs := [10]) (by kernel_rfl) (by simp) (AllReadyH.cons (o := ⟨_, _, _, _, _, _⟩) rfl (fun K hK => ?_) AllReadyH.nil)
                go_simp
                refine hK.out _ _ hHeld (fun hHeld => ?_)
                clear hK K
                try simp only [Act.put, List.setIfInBounds_toArray, List.set_cons_zero, List.set_cons_succ]
                refine wpAnyH_ready (rs := [11]) (by kernel_rfl) (by simp) (AllReadyH.cons (o := ⟨_, _, _, _, _, _⟩) rfl (fun K hK => ?_) AllReadyH.nil)
                go_simp
                refine hK.out _ _ hHeld (fun hHeld => ?_)
                clear hK K
                try simp only [Act.put, List.setIfInBounds_toArray, List.set_cons_zero, List.set_cons_succ]
                refine wpAnyH_done (by kernel_rfl) ?_ _
                go_wp2_with fail
                refine bodyPost_ret (v := .tuple #[.slice Ab (k + 1) cb, .int .i64 R.2]) (by simp [results, Tryd.f51, go_sem]) rfl ?_
                have hBf := hHeld.2.2.2.out
                exact ⟨⟨_, rfl, fun _ => ⟨Ab, cb, by rw [List.length_append, htl.out]; rfl, ps_snoc (by rw [htl.out]; exact Ob.out) PT.out HRP.out hBf (fun g hg => .inr (Nat.le_trans BF.out.size hg)) (fun g hg => .inl hg) fun g hg => .inr hg.1⟩⟩, BF.out.trans (hBf.mono BF.out.size)⟩
            · have HR := hid (show p.weakB z = R by rw [← hR]; simp [oneB, k6])
              have y13 : ¬ ((kd : Int) = 3) := by omega
              have y13b : ((kd : Int) == 3) = false := by simp; omega
              have y14 : ¬ ((kd : Int) = 4) := by omega
              have y14b : ((kd : Int) == 4) = false := by simp; omega
              have y15 : decide ((kd : Int) = 5) = true := by simp; omega
              have y15b : ((kd : Int) == 5) = true := by simp; omega
              clear hR k6
              go_enter Tryd.func51, Tryd.ntmps51
              go_upto_region 1 with fail
              rw [HX0.out]
              go_upto_region 14 with fail
              rw [HX1.out]
              have t0x := keep_cell t0 bX1
              go_upto_region 20 with fail
              refine wp_region_held_drew (S := fun w' => w'.cell? ⟨ob, 0, none⟩ = some (.int .u8 (kd : Int)) ∧ w'.cell? ⟨ob, 1, none⟩ = some (.int .i64 z) ∧ w'.cell? ⟨g, o + k * 3, none⟩ = some (.slice A1 n1 c1) ∧ w'.cell? ⟨g, o + k * 3 + 1, none⟩ = some (.slice A2 n2 c2) ∧ w'.cell? ⟨g, o + k * 3 + 2, none⟩ = some (.int .i64 p.bound) ∧ Hid (Below X0.heap.size X0 w')) (by kernel_rfl) ⟨keep_cell t0 (Bl.drew bX1), keep_cell t1 (Bl.drew bX1), keep_cell e0 (Bl.drew bX1), keep_cell e1 (Bl.drew bX1), keep_cell e2 (Bl.drew bX1), hid (Bl.drew bX1)⟩ (fun hHeld => ?_)
              have hD0 := hid (Bl.drew (Below.refl X1.heap.size X1))
              have sD : X1.heap.size ≤ X1.drew.heap.size := Nat.le_refl _
              obtain ⟨WD, hWD⟩ : ∃ X, X1.drew = X := ⟨_, rfl⟩
              rw [hWD] at hHeld hD0 sD ⊢
              clear hWD bX1
              refine wpAnyH_take (i := 0) (oi := ⟨_, _, _, _, _, _⟩) (v := ?_) rfl (by kernel_rfl) (by kernel_rfl) (by kernel_rfl) (fun _ _ _ h => h) (Or.inl ⟨by rfl, ?_⟩) (by assumption) ?_
              rotate_left
              · intro w hSw
                try dsimp only at hSw
                go_simp
                try with_reducible rfl
              simp only [Act.put, List.setIfInBounds_toArray, List.set_cons_zero, List.set_cons_succ]
              refine wpAnyH_take (i := 1) (oi := ⟨_, _, _, _, _, _⟩) (v := ?_) rfl (by kernel_rfl) (by kernel_rfl) (by kernel_rfl) (fun _ _ _ h => h) (Or.inl ⟨by rfl, ?_⟩) (by assumption) ?_
              rotate_left
              · intro w hSw
                try dsimp only at hSw
                go_simp
                try with_reducible rfl
              simp only [Act.put, List.setIfInBounds_toArray, List.set_cons_zero, List.set_cons_succ]
              refine wpAnyH_take (i := 5) (oi := ⟨_, _, _, _, _, _⟩) (v := ?_) rfl (by kernel_rfl) (by kernel_rfl) (by kernel_rfl) (fun _ _ _ h => h) (Or.inl ⟨by rfl, ?_⟩) (by assumption) ?_
              rotate_left
              · intro w hSw
                try dsimp only at hSw
                go_simp
                try with_reducible rfl
              simp only [Act.put, List.setIfInBounds_toArray, List.set_cons_zero, List.set_cons_succ]
              refine wpAnyH_take (i := 2) (oi := ⟨_, _, _, _, _, _⟩) (v := ?_) rfl (by kernel_rfl) (by kernel_rfl) (by kernel_rfl) (fun _ _ _ h => h) (Or.inl ⟨by rfl, ?_⟩) (by assumption) ?_
              rotate_left
              · intro w hSw
                try dsimp only at hSw
                go_simp
                try with_reducible rfl
              simp only [Act.put, List.setIfInBounds_toArray, List.set_cons_zero, List.set_cons_succ]
              refine wpAnyH_take (i := 6) (oi := ⟨_, _, _, _, _, _⟩) (v := ?_) rfl (by kernel_rfl) (by kernel_rfl) (by kernel_rfl) (fun _ _ _ h => h) (Or.inl ⟨by rfl, ?_⟩) (by assumption) ?_
              rotate_left
              · intro w hSw
                try dsimp only at hSw
                go_simp
                try with_reducible rfl
              simp only [Act.put, List.setIfInBounds_toArray, List.set_cons_zero, List.set_cons_succ]
              refine wpAnyH_take (i := 3) (oi := ⟨_, _, _, _, _, _⟩) (v := ?_) rfl (by kernel_rfl) (by kernel_rfl) (by kernel_rfl) (fun _ _ _ h => h) (Or.inl ⟨by rfl, ?_⟩) (by assumption) ?_
              rotate_left
              · intro w hSw
                try dsimp only at hSw
                go_simp
                try with_reducible rfl
              simp only [Act.put, List.setIfInBounds_toArray, List.set_cons_zero, List.set_cons_succ]
              refine wpAnyH_take (i := 4) (oi := ⟨_, _, _, _, _, _⟩) (v := ?_) rfl (by kernel_rfl) (by kernel_rfl) (by kernel_rfl) (fun _ _ _ h => h) (Or.inl ⟨by rfl, ?_⟩) (by assumption) ?_
              rotate_left
              · intro w hSw
                try dsimp only at hSw
                go_simp
                try with_reducible rfl
              simp only [Act.put, List.setIfInBounds_toArray, List.set_cons_zero, List.set_cons_succ]
              refine wpAnyH_ready (rs := [7]) (by kernel_rfl) (by simp) (AllReadyH.cons (o := ⟨_, _, _, _, _, _⟩) rfl (fun K hK => ?_) AllReadyH.nil)
              go_simp
              go_simp
              refine (rweak_any (Hp.out.below hHeld.2.2.2.2.2.out) Hi1.out Hf1.out).mono ?_
              rintro r W10 ⟨⟨pv, rfl, hpv⟩, bv⟩
              rw [HR.out] at hpv ⊢
              have sC := Nat.le_trans B0.out.size hHeld.2.2.2.2.2.out.size
              have hBn := hHeld.2.2.2.2.2.out.trans (bv.mono hHeld.2.2.2.2.2.out.size)
              have hpv2 := hid hpv
              obtain ⟨⟨E1, q1, f1, E2, q2, f2, rfl, _, _⟩, _⟩ := hpv
              refine hK.out _ _ ⟨keep_cell t0 hBn, keep_cell t1 hBn, keep_cell e0 hBn, keep_cell e1 hBn, keep_cell e2 hBn, hid (hBn)⟩ (fun hHeld => ?_)
              clear hK K
              have hR := hid (hpv2.out.mono (G := fun g => W.heap.size ≤ g ∧ g ≠ tb) fun g _ (hg : WD.heap.size ≤ g) => ⟨Nat.le_trans sC hg, by omega⟩)
              have KT := hid (keep_blk (keep_blk KT.out hD0.out) bv)
              clear bv hBn hpv2
              try simp only [Act.put, List.setIfInBounds_toArray, List.set_cons_zero, List.set_cons_succ]
              refine wpAnyH_take (i := 8) (oi := ⟨_, _, _, _, _, _⟩) (v := ?_) rfl (by kernel_rfl) (by kernel_rfl) (by kernel_rfl) (fun _ _ _ h => h) (Or.inl ⟨by rfl, ?_⟩) (by assumption) ?_
              rotate_left
              · intro w hSw
                try dsimp only at hSw
                go_simp
                try with_reducible rfl
              simp only [Act.put, List.setIfInBounds_toArray, List.set_cons_zero, List.set_cons_succ]
              refine wpAnyH_take (i := 9) (oi := ⟨_, _, _, _, _, _⟩) (v := ?_) rfl (by kernel_rfl) (by kernel_rfl) (by kernel_rfl) (fun _ _ _ h => h) (Or.inl ⟨by rfl, ?_⟩) (by assumption) ?_
              rotate_left
              · intro w hSw
                try dsimp only at hSw
                go_simp
                try with_reducible rfl
              simp only [Act.put, List.setIfInBounds_toArray, List.set_cons_zero, List.set_cons_succ]
              refine wpAnyH_take (i := 10) (oi := ⟨_, _, _, _, _, _⟩) (v := ?_) rfl (by kernel_rfl) (by kernel_rfl) (by kernel_rfl) (fun _ _ _ h => h) (Or.inl ⟨by rfl, ?_⟩) (by assumption) ?_
              rotate_left
              · intro w hSw
                try dsimp only at hSw
                go_simp
                try with_reducible rfl
              simp only [Act.put, List.setIfInBounds_toArray, List.set_cons_zero, List.set_cons_succ]
              refine wpAnyH_ready (rs := [11]) (by kernel_rfl) (by simp) (AllReadyH.cons (o := ⟨_, _, _, _, _, _⟩) rfl (fun K hK => ?_) AllReadyH.nil)
              go_simp
              obtain ⟨x0, x1, x2⟩ := box3 KT.out
              obtain ⟨y0, y1, y2⟩ := froz3 KT.out
              go_simp
              obtain ⟨u0, u1, u2, m3⟩ := set3 x0 x1 x2 (.slice E1 q1 f1) (.slice E2 q2 f2) (.int .i64 R.1.bound)
              have hMn := hHeld.2.2.2.2.2.out
              refine hK.out _ _ ⟨(World.cell?_of_block (m3.block ob (World.block_lt_of_cell? _ _ hHeld.1) (by omega))).trans hHeld.1, (World.cell?_of_block (m3.block ob (World.block_lt_of_cell? _ _ hHeld.2.1) (by omega))).trans hHeld.2.1, (World.cell?_of_block (m3.block g (World.block_lt_of_cell? _ _ hHeld.2.2.1) (by omega))).trans hHeld.2.2.1, (World.cell?_of_block (m3.block g (World.block_lt_of_cell? _ _ hHeld.2.2.2.1) (by omega))).trans hHeld.2.2.2.1, (World.cell?_of_block (m3.block g (World.block_lt_of_cell? _ _ hHeld.2.2.2.2.1) (by omega))).trans hHeld.2.2.2.2.1, hid (below_mod hHeld.2.2.2.2.2.out hHeld.2.2.2.2.2.out.size m3 fun g hg => by omega)⟩ (fun hHeld => ?_)
              clear hK K
              have HRP := hid (hR.out.mod m3 fun g _ hg e => hg.2 e)
              clear x0 x1 x2 y0 y1 y2 hMn
              try simp only [Act.put, List.setIfInBounds_toArray, List.set_cons_zero, List.set_cons_succ]
              refine wpAnyH_ready (rs := [12]) (by kernel_rfl) (by simp) (AllReadyH.cons (o := ⟨_, _, _, _, _, _⟩) rfl (fun K hK => ?_) AllReadyH.nil)
              go_simp
              refine hK.out _ _ hHeld (fun hHeld => ?_)
              clear hK K
              try simp only [Act.put, List.setIfInBounds_toArray, List.set_cons_zero, List.set_cons_succ]
              refine wpAnyH_done (by kernel_rfl) ?_ _
              have BX := hid hHeld.2.2.2.2.2.out
              have BF := hid (B0.out.trans (BX.out.mono B0.out.size))
              have t5 := hHeld.1
              clear hHeld m3 KT hR
              obtain ⟨W5, hW5⟩ : ∃ X, (((W10.setCell ⟨tb, 0, none⟩ (.slice E1 q1 f1)).setCell ⟨tb, 1, none⟩ (.slice E2 q2 f2)).setCell ⟨tb, 2, none⟩ (.int .i64 R.1.bound)) = X := ⟨_, rfl⟩
              rw [hW5] at u0 u1 u2 HRP BF BX t5 ⊢
              clear hW5
              have RT := hid ((RS.out.take (show k ≤ n by omega)).below BX.out)
              rw [flat3_take] at RT
              have PT := hid ((PS.out.take k).below BX.out)
              have HRO := hid (pb_one HRP.out)
              go_upto_region 21 with fail
              refine wp_region_held_drew (S := fun w' => w'.cell? ⟨tb, 0, none⟩ = some (.slice E1 q1 f1) ∧ w'.cell? ⟨tb, 1, none⟩ = some (.slice E2 q2 f2) ∧ w'.cell? ⟨tb, 2, none⟩ = some (.int .i64 R.1.bound) ∧ Hid (Below W5.heap.size W5 w')) (by kernel_rfl) ⟨keep_cell u0 (Bl.drew (Below.refl _ _)), keep_cell u1 (Bl.drew (Below.refl _ _)), keep_cell u2 (Bl.drew (Below.refl _ _)), hid ((Bl.drew (Below.refl _ _)))⟩ (fun hHeld => ?_)
              obtain ⟨WE, hWD⟩ : ∃ X, W5.drew = X := ⟨_, rfl⟩
              rw [hWD] at hHeld ⊢
              clear hWD
              refine wpAnyH_take (i := 1) (oi := ⟨_, _, _, _, _, _⟩) (v := ?_) rfl (by kernel_rfl) (by kernel_rfl) (by kernel_rfl) (fun _ _ _ h => h) (Or.inl ⟨by rfl, ?_⟩) (by assumption) ?_
              rotate_left
              · intro w hSw
                try dsimp only at hSw
                go_simp
                try with_reducible rfl
              simp only [Act.put, List.setIfInBounds_toArray, List.set_cons_zero, List.set_cons_succ]
              refine wpAnyH_take (i := 2) (oi := ⟨_, _, _, _, _, _⟩) (v := ?_) rfl (by kernel_rfl) (by kernel_rfl) (by kernel_rfl) (fun _ _ _ h => h) (Or.inl ⟨by rfl, ?_⟩) (by assumption) ?_
              rotate_left
              · intro w hSw
                try dsimp only at hSw
                go_simp
                try with_reducible rfl
              simp only [Act.put, List.setIfInBounds_toArray, List.set_cons_zero, List.set_cons_succ]
              refine wpAnyH_take (i := 6) (oi := ⟨_, _, _, _, _, _⟩) (v := ?_) rfl (by kernel_rfl) (by kernel_rfl) (by kernel_rfl) (fun _ _ _ h => h) (Or.inl ⟨by rfl, ?_⟩) (by assumption) ?_
              rotate_left
              · intro w hSw
                try dsimp only at hSw
                go_simp
                try with_reducible rfl
              simp only [Act.put, List.setIfInBounds_toArray, List.set_cons_zero, List.set_cons_succ]
              refine wpAnyH_take (i := 9) (oi := ⟨_, _, _, _, _, _⟩) (v := ?_) rfl (by kernel_rfl) (by kernel_rfl) (by kernel_rfl) (fun _ _ _ h => h) (Or.inl ⟨by rfl, ?_⟩) (by assumption) ?_
              rotate_left
              · intro w hSw
                try dsimp only at hSw
                go_simp
                try with_reducible rfl
              simp only [Act.put, List.setIfInBounds_toArray, List.set_cons_zero, List.set_cons_succ]
              refine wpAnyH_take (i := 3) (oi := ⟨_, _, _, _, _, _⟩) (v := ?_) rfl (by kernel_rfl) (by kernel_rfl) (by kernel_rfl) (fun _ _ _ h => h) (Or.inl ⟨by rfl, ?_⟩) (by assumption) ?_
              rotate_left
              · intro w hSw
                try dsimp only at hSw
                go_simp
                try with_reducible rfl
              simp only [Act.put, List.setIfInBounds_toArray, List.set_cons_zero, List.set_cons_succ]
              refine wpAnyH_take (i := 4) (oi := ⟨_, _, _, _, _, _⟩) (v := ?_) rfl (by kernel_rfl) (by kernel_rfl) (by kernel_rfl) (fun _ _ _ h => h) (Or.inl ⟨by rfl, ?_⟩) (by assumption) ?_
              rotate_left
              · intro w hSw
                try dsimp only at hSw
                go_simp
                try with_reducible rfl
              simp only [Act.put, List.setIfInBounds_toArray, List.set_cons_zero, List.set_cons_succ]
              refine wpAnyH_ready (rs := [0, 7]) (by kernel_rfl) (by simp) (AllReadyH.cons (o := ⟨_, _, _, _, _, _⟩) rfl (fun K hK => ?_) (AllReadyH.cons (o := ⟨_, _, _, _, _, _⟩) rfl (fun K hK => ?_) AllReadyH.nil))
              · go_simp
                go_simp
                obtain ⟨Y0, hX, bX, kX, sX⟩ := alloc_step WE (.cells #[] 24)
                rw [hX]
                have hBn := hHeld.2.2.2.out.trans (bX.mono hHeld.2.2.2.out.size)
                refine hK.out _ _ ⟨keep_cell u0 hBn, keep_cell u1 hBn, keep_cell u2 hBn, hid (hBn)⟩ (fun hHeld => ?_)
                clear hK K
                clear hX bX kX sX hBn
                try simp only [Act.put, List.setIfInBounds_toArray, List.set_cons_zero, List.set_cons_succ]
                refine wpAnyH_ready (rs := [5, 7]) (by kernel_rfl) (by simp) (AllReadyH.cons (o := ⟨_, _, _, _, _, _⟩) rfl (fun K hK => ?_) (AllReadyH.cons (o := ⟨_, _, _, _, _, _⟩) rfl (fun K hK => ?_) AllReadyH.nil))
                · refine step_append_pb (F := fun g => W5.heap.size ≤ g) (v := .slice (some ⟨WE.heap.size, 0, none⟩) 0 0) (n := 0) (xs := []) rfl _ _ rfl (Own.none_ _ _ _ _ _) (RT.out.below hHeld.2.2.2.out) (by rfl) (by rfl) HTO.out (by omega) ?_
                  intro Aa ca Wa ho hm hr
                  have sq := hHeld.2.2.2.out.size
                  simp only [Nat.zero_add, List.nil_append] at ho hr ⊢
                  rw [row_none] at hm
                  have hb1 := hm.below
                  have hBn := hHeld.2.2.2.out.trans (hb1.mono hHeld.2.2.2.out.size)
                  refine hK.out _ _ ⟨keep_cell u0 hBn, keep_cell u1 hBn, keep_cell u2 hBn, hid (hBn)⟩ (fun hHeld => ?_)
                  clear hK K
                  have Oa := hid (ho.mono (G := fun g => W5.heap.size ≤ g) fun g _ _ hg => hg.elim id fun hg => Nat.le_trans sq hg)
                  clear ho hm hr hb1 hBn sq
                  try simp only [Act.put, List.setIfInBounds_toArray, List.set_cons_zero, List.set_cons_succ]
                  refine wpAnyH_ready (rs := [7]) (by kernel_rfl) (by simp) (AllReadyH.cons (o := ⟨_, _, _, _, _, _⟩) rfl (fun K hK => ?_) AllReadyH.nil)
                  go_simp
                  go_simp
                  obtain ⟨Y7, hX, bX, kX, sX⟩ := alloc_step Wa (.cells #[.slice E1 q1 f1, .slice E2 q2 f2, .int .i64 R.1.bound] 24)
                  rw [hX]
                  have hBn := hHeld.2.2.2.out.trans (bX.mono hHeld.2.2.2.out.size)
                  refine hK.out _ _ ⟨keep_cell u0 hBn, keep_cell u1 hBn, keep_cell u2 hBn, hid (hBn)⟩ (fun hHeld => ?_)
                  clear hK K
                  have R1 := hid (rd_lit3 kX)
                  have Oa := hid (Oa.out.below bX)
                  clear hX bX kX sX hBn
                  try simp only [Act.put, List.setIfInBounds_toArray, List.set_cons_zero, List.set_cons_succ]
                  refine wpAnyH_ready (rs := [8]) (by kernel_rfl) (by simp) (AllReadyH.cons (o := ⟨_, _, _, _, _, _⟩) rfl (fun K hK => ?_) AllReadyH.nil)
                  refine step_append_pb rfl _ _ rfl Oa.out R1.out rfl rfl HRO.out (by omega) ?_
                  intro Ab cb Wb ho hm hr
                  have sq := hHeld.2.2.2.out.size
                  have hBn := below_mod hHeld.2.2.2.out hHeld.2.2.2.out.size hm fun g hg => (Oa.out.row hg).1
                  refine hK.out _ _ ⟨keep_cell u0 hBn, keep_cell u1 hBn, keep_cell u2 hBn, hid (hBn)⟩ (fun hHeld => ?_)
                  clear hK K
                  have Ob := hid (ho.rd.mono (G := fun g => W5.heap.size ≤ g) fun g _ hg => hg.elim id fun hg => Nat.le_trans sq hg)
                  clear ho hm hr hBn sq
                  try simp only [Act.put, List.setIfInBounds_toArray, List.set_cons_zero, List.set_cons_succ]
                  refine wpAnyH_ready (rs := [10]) (by kernel_rfl) (by simp) (AllReadyH.cons (o := ⟨_, _, _, _, _, _⟩) rfl (fun K hK => ?_) AllReadyH.nil)
                  go_simp
                  refine hK.out _ _ hHeld (fun hHeld => ?_)
                  clear hK K
                  try simp only [Act.put, List.setIfInBounds_toArray, List.set_cons_zero, List.set_cons_succ]
                  refine wpAnyH_ready (rs := [11]) (by kernel_rfl) (by simp) (AllReadyH.cons (o := ⟨_, _, _, _, _, _⟩) rfl (fun K hK => ?_) AllReadyH.nil)
                  go_simp
                  refine hK.out _ _ hHeld (fun hHeld => ?_)
                  clear hK K
                  try simp only [Act.put, List.setIfInBounds_toArray, List.set_cons_zero, List.set_cons_succ]
                  refine wpAnyH_done (by kernel_rfl) ?_ _
                  go_wp2_with fail
                  refine bodyPost_ret (v := .tuple #[.slice Ab (k + 1) cb, .int .i64 R.2]) (by simp [results, Tryd.f51, go_sem]) rfl ?_
                  have hBf := hHeld.2.2.2.out
                  exact ⟨⟨_, rfl, fun _ => ⟨Ab, cb, by rw [List.length_append, htl.out]; rfl, ps_snoc (by rw [htl.out]; exact Ob.out) PT.out HRP.out hBf (fun g hg => .inr (Nat.le_trans BF.out.size hg)) (fun g hg => .inl hg) fun g hg => .inr hg.1⟩⟩, BF.out.trans (hBf.mono BF.out.size)⟩
                · go_simp
                  go_simp
                  obtain ⟨Y7, hX, bX, kX, sX⟩ := alloc_step Y0 (.cells #[.slice E1 q1 f1, .slice E2 q2 f2, .int .i64 R.1.bound] 24)
                  rw [hX]
                  have hBn := hHeld.2.2.2.out.trans (bX.mono hHeld.2.2.2.out.size)
                  refine hK.out _ _ ⟨keep_cell u0 hBn, keep_cell u1 hBn, keep_cell u2 hBn, hid (hBn)⟩ (fun hHeld => ?_)
                  clear hK K
                  have R1 := hid (rd_lit3 kX)
                  clear hX bX kX sX hBn
                  try simp only [Act.put, List.setIfInBounds_toArray, List.set_cons_zero, List.set_cons_succ]
                  refine wpAnyH_ready (rs := [5]) (by kernel_rfl) (by simp) (AllReadyH.cons (o := ⟨_, _, _, _, _, _⟩) rfl (fun K hK => ?_) AllReadyH.nil)
                  refine step_append_pb (F := fun g => W5.heap.size ≤ g) (v := .slice (some ⟨WE.heap.size, 0, none⟩) 0 0) (n := 0) (xs := []) rfl _ _ rfl (Own.none_ _ _ _ _ _) (RT.out.below hHeld.2.2.2.out) (by rfl) (by rfl) HTO.out (by omega) ?_
                  intro Aa ca Wa ho hm hr
                  have sq := hHeld.2.2.2.out.size
                  simp only [Nat.zero_add, List.nil_append] at ho hr ⊢
                  rw [row_none] at hm
                  have hb1 := hm.below
                  have hBn := hHeld.2.2.2.out.trans (hb1.mono hHeld.2.2.2.out.size)
                  refine hK.out _ _ ⟨keep_cell u0 hBn, keep_cell u1 hBn, keep_cell u2 hBn, hid (hBn)⟩ (fun hHeld => ?_)
                  clear hK K
                  have Oa := hid (ho.mono (G := fun g => W5.heap.size ≤ g) fun g _ _ hg => hg.elim id fun hg => Nat.le_trans sq hg)
                  have R1 := hid (R1.out.below hb1)
                  clear ho hm hr hb1 hBn sq
                  try simp only [Act.put, List.setIfInBounds_toArray, List.set_cons_zero, List.set_cons_succ]
                  refine wpAnyH_ready (rs := [8]) (by kernel_rfl) (by simp) (AllReadyH.cons (o := ⟨_, _, _, _, _, _⟩) rfl (fun K hK => ?_) AllReadyH.nil)
                  refine step_append_pb rfl _ _ rfl Oa.out R1.out rfl rfl HRO.out (by omega) ?_
                  intro Ab cb Wb ho hm hr
                  have sq := hHeld.2.2.2.out.size
                  have hBn := below_mod hHeld.2.2.2.out hHeld.2.2.2.out.size hm fun g hg => (Oa.out.row hg).1
                  refine hK.out _ _ ⟨keep_cell u0 hBn, keep_cell u1 hBn, keep_cell u2 hBn, hid (hBn)⟩ (fun hHeld => ?_)
                  clear hK K
                  have Ob := hid (ho.rd.mono (G := fun g => W5.heap.size ≤ g) fun g _ hg => hg.elim id fun hg => Nat.le_trans sq hg)
                  clear ho hm hr hBn sq
                  try simp only [Act.put, List.setIfInBounds_toArray, List.set_cons_zero, List.set_cons_succ]
                  refine wpAnyH_ready (rs := [10]) (by kernel_rfl) (by simp) (AllReadyH.cons (o := ⟨_, _, _, _, _, _⟩) rfl (fun K hK => ?_) AllReadyH.nil)
                  go_simp
                  refine hK.out _ _ hHeld (fun hHeld => ?_)
                  clear hK K
                  try simp only [Act.put, List.setIfInBounds_toArray, List.set_cons_zero, List.set_cons_succ]
                  refine wpAnyH_ready (rs := [11]) (by kernel_rfl) (by simp) (AllReadyH.cons (o := ⟨_, _, _, _, _, _⟩) rfl (fun K hK => ?_) AllReadyH.nil)
                  go_simp
                  refine hK.out _ _ hHeld (fun hHeld => ?_)
                  clear hK K
                  try simp only [Act.put, List.setIfInBounds_toArray, List.set_cons_zero, List.set_cons_succ]
                  refine wpAnyH_done (by kernel_rfl) ?_ _
                  go_wp2_with fail
                  refine bodyPost_ret (v := .tuple #[.slice Ab (k + 1) cb, .int .i64 R.2]) (by simp [results, Tryd.f51, go_sem]) rfl ?_
                  have hBf := hHeld.2.2.2.out
                  exact ⟨⟨_, rfl, fun _ => ⟨Ab, cb, by rw [List.length_append, htl.out]; rfl, ps_snoc (by rw [htl.out]; exact Ob.out) PT.out HRP.out hBf (fun g hg => .inr (Nat.le_trans BF.out.size hg)) (fun g hg => .inl hg) fun g hg => .inr hg.1⟩⟩, BF.out.trans (hBf.mono BF.out.size)⟩
              · go_simp
                go_simp
                obtain ⟨Y7, hX, bX, kX, sX⟩ := alloc_step WE (.cells #[.slice E1 q1 f1, .slice E2 q2 f2, .int .i64 R.1.bound] 24)
                rw [hX]
                have hBn := hHeld.2.2.2.out.trans (bX.mono hHeld.2.2.2.out.size)
                refine hK.out _ _ ⟨keep_cell u0 hBn, keep_cell u1 hBn, keep_cell u2 hBn, hid (hBn)⟩ (fun hHeld => ?_)
                clear hK K
                have R1 := hid (rd_lit3 kX)
                clear hX bX kX sX hBn
                try simp only [Act.put, List.setIfInBounds_toArray, List.set_cons_zero, List.set_cons_succ]
                refine wpAnyH_ready (rs := [0]) (by kernel_rfl) (by simp) (AllReadyH.cons (o := ⟨_, _, _, _, _, _⟩) rfl (fun K hK => ?_) AllReadyH.nil)
                go_simp
                go_simp
                obtain ⟨Y0, hX, bX, kX, sX⟩ := alloc_step Y7 (.cells #[] 24)
                rw [hX]
                have hBn := hHeld.2.2.2.out.trans (bX.mono hHeld.2.2.2.out.size)
                refine hK.out _ _ ⟨keep_cell u0 hBn, keep_cell u1 hBn, keep_cell u2 hBn, hid (hBn)⟩ (fun hHeld => ?_)
                clear hK K
                have R1 := hid (R1.out.below bX)
                clear hX bX kX sX hBn
                try simp only [Act.put, List.setIfInBounds_toArray, List.set_cons_zero, List.set_cons_succ]
                refine wpAnyH_ready (rs := [5]) (by kernel_rfl) (by simp) (AllReadyH.cons (o := ⟨_, _, _, _, _, _⟩) rfl (fun K hK => ?_) AllReadyH.nil)
                refine step_append_pb (F := fun g => W5.heap.size ≤ g) (v := .slice (some ⟨Y7.heap.size, 0, none⟩) 0 0) (n := 0) (xs := []) rfl _ _ rfl (Own.none_ _ _ _ _ _) (RT.out.below hHeld.2.2.2.out) (by rfl) (by rfl) HTO.out (by omega) ?_
                intro Aa ca Wa ho hm hr
                have sq := hHeld.2.2.2.out.size
                simp only [Nat.zero_add, List.nil_append] at ho hr ⊢
                rw [row_none] at hm
                have hb1 := hm.below
                have hBn := hHeld.2.2.2.out.trans (hb1.mono hHeld.2.2.2.out.size)
                refine hK.out _ _ ⟨keep_cell u0 hBn, keep_cell u1 hBn, keep_cell u2 hBn, hid (hBn)⟩ (fun hHeld => ?_)
                clear hK K
                have Oa := hid (ho.mono (G := fun g => W5.heap.size ≤ g) fun g _ _ hg => hg.elim id fun hg => Nat.le_trans sq hg)
                have R1 := hid (R1.out.below hb1)
                clear ho hm hr hb1 hBn sq
                try simp only [Act.put, List.setIfInBounds_toArray, List.set_cons_zero, List.set_cons_succ]
                refine wpAnyH_ready (rs := [8]) (by kernel_rfl) (by simp) (AllReadyH.cons (o := ⟨_, _, _, _, _, _⟩) rfl (fun K hK => ?_) AllReadyH.nil)
                refine step_append_pb rfl _ _ rfl Oa.out R1.out rfl rfl HRO.out (by omega) ?_
                intro Ab cb Wb ho hm hr
                have sq := hHeld.2.2.2.out.size
                have hBn := below_mod hHeld.2.2.2.out hHeld.2.2.2.out.size hm fun g hg => (Oa.out.row hg).1
                refine hK.out _ _ ⟨keep_cell u0 hBn, keep_cell u1 hBn, keep_cell u2 hBn, hid (hBn)⟩ (fun hHeld => ?_)
                clear hK K
                have Ob := hid (ho.rd.mono (G := fun g => W5.heap.size ≤ g) fun g _ hg => hg.elim id fun hg => Nat.le_trans sq hg)
                clear ho hm hr hBn sq
                try simp only [Act.put, List.setIfInBounds_toArray, List.set_cons_zero, List.set_cons_succ]
                refine wpAnyH_ready (rs := [10]) (by kernel_rfl) (by simp) (AllReadyH.cons (o := ⟨_, _, _, _, _, _⟩) rfl (fun K hK => ?_) AllReadyH.nil)
                go_simp
                refine hK.out _ _ hHeld (fun hHeld => ?_)
                clear hK K
                try simp only [Act.put, List.setIfInBounds_toArray, List.set_cons_zero, List.set_cons_succ]
                refine wpAnyH_ready (rs := [11]) (by kernel_rfl) (by simp) (AllReadyH.cons (o := ⟨_, _, _, _, _, _⟩) rfl (fun K hK => ?_) AllReadyH.nil)
                go_simp
                refine hK.out _ _ hHeld (fun hHeld => ?_)
                clear hK K
                try simp only [Act.put, List.setIfInBounds_toArray, List.set_cons_zero, List.set_cons_succ]
                refine wpAnyH_done (by kernel_rfl) ?_ _
                go_wp2_with fail
                refine bodyPost_ret (v := .tuple #[.slice Ab (k + 1) cb, .int .i64 R.2]) (by simp [results, Tryd.f51, go_sem]) rfl ?_
                have hBf := hHeld.2.2.2.out
                exact ⟨⟨_, rfl, fun _ => ⟨Ab, cb, by rw [List.length_append, htl.out]; rfl, ps_snoc (by rw [htl.out]; exact Ob.out) PT.out HRP.out hBf (fun g hg => .inr (Nat.le_trans BF.out.size hg)) (fun g hg => .inl hg) fun g hg => .inr hg.1⟩⟩, BF.out.trans (hBf.mono BF.out.size)⟩
end

section
open Go.RowKit

/-- What the reference's Run gives. -/
def GivesT (w w' : World) (r : Ending) (R : Pb × Int) : Prop := (∃ pv, r = .returned (.tuple #[pv, .int .i64 R.2]) ∧ PbRd w' (fun _ => True) pv R.1) ∧ Below w.heap.size w w'
set_option maxRecDepth 100000 in
set_option maxHeartbeats 4000000 in
theorem rrun_any {w : World} {F G H : Nat → Prop} {A D : Option Addr} {n cA dn dc : Nat} {os : List Cop} {db : List Pb} (ho : Rd w F 2 (.slice A n cA) n (ocells os)) (hon : os.length = n) (hio : ∀ o ∈ os, I64 o.n) (hd : PsRd w G H D dn dc db) (hi : ∀ p ∈ db, ∀ k ∈ p.coefs, I64 k) (h16 : ∀ p ∈ db, p.lits.length ≤ 65536) :
    Calls Tryd.prog 22 #[.slice A n cA, .slice D dn dc] w fun r w' => GivesT w w' r (runB os db) := by
  obtain ⟨R, hR⟩ : ∃ R, runB os db = R := ⟨_, rfl⟩
  rw [hR]
  have HR := hid hR
  have hnm : n ≤ 9223372036854775807 := by have := ho.len; unfold maxLen at this; omega
  have hdm : dn ≤ 9223372036854775807 := by obtain ⟨_, h, _⟩ := hd; have := h.len; unfold maxLen at this; omega
  have hdl : db.length = dn := by obtain ⟨_, _, _, h⟩ := hd; exact h
  obtain ⟨ob, hob⟩ : ∃ o, w.heap.size = o := ⟨_, rfl⟩
  have Hi := hid hi
  have H16 := hid h16
  have Hio := hid hio
  obtain ⟨X0, hX0, bX0, k0, s0⟩ := alloc_step w (.cells #[.slice none 0 0, .slice none 0 0, .int .i64 0] 24)
  have HX0 := hid hX0
  have KO := hid k0
  have B0 := hid bX0
  have ho0 := hid (ho.below bX0)
  have hd0 := hid ((hd.mono (F' := fun g => g ≠ ob) (G' := fun g => g ≠ ob) (fun g _ _ => by omega) fun g _ _ => by omega).below bX0)
  rw [hob] at KO s0
  clear hX0 bX0 k0 hR ho hd hi h16 hio
  by_cases hlen : 1000 < n
  · obtain rfl : R = (⟨[], [], 0⟩, 2) := by rw [← HR.out]; unfold runB; rw [if_pos (by omega)]; rfl
    have x1 : (n : Int) > 1000 := by omega
    obtain ⟨t0, t1, t2⟩ := box3 KO.out
    obtain ⟨f0, f1, f2⟩ := froz3 KO.out
    clear HR hlen
    go_enter Tryd.func22, Tryd.ntmps22
    go_upto_region 2 with fail
    rw [HX0.out]
    go_wp2_with fail
    obtain ⟨u0, u1, u2, m3⟩ := set3 t0 t1 t2 (.slice none 0 0) (.slice none 0 0) (.int .i64 0)
    exact bodyPost_ret (v := .tuple #[.agg #[.slice none 0 0, .slice none 0 0, .int .i64 0], .int .i64 2]) (by simp [results, Tryd.f22, go_sem, u0, u1, u2]) rfl ⟨⟨_, rfl, PbRd.zero _ _⟩, below_mod B0.out (by omega) m3 fun g hg => by omega⟩
  · have x1 : ¬ ((n : Int) > 1000) := by omega
    go_enter Tryd.func22, Tryd.ntmps22
    go_upto_region 1 with fail
    rw [HX0.out]
    go_wp2_with fail
    go_loopw [6] (fun iv W => ∃ i : Nat, i ≤ dn ∧ iv = .int .i64 i ∧ Hid (∀ j, j < i → (pbAt db j).ok = true) ∧ Hid (Below X0.heap.size X0 W)) (fun iv _ => dn - (intOf iv).toNat)
    case atStart => exact ⟨0, by omega, rfl, hid (fun j hj => absurd hj (by omega)), Below.refl _ _⟩
    case round =>
      obtain ⟨i, hi, rfl, Hall, HB⟩ := hrel
      by_cases hlt : i < dn
      · have y1 : (i : Int) < (dn : Int) := by omega
        obtain ⟨g, o, p, A1, n1, c1, A2, n2, c2, rfl, _, _, hpi, e0, e1, e2, hp⟩ := (hd0.out.below HB.out).cells hlt
        have hpa : pbAt db i = p := by unfold pbAt; rw [hpi]; rfl
        have Hpa := hid hpa
        have hii := hid (Hi.out p (List.mem_of_getElem? hpi))
        have hff := hid (H16.out p (List.mem_of_getElem? hpi))
        have Hp := hid hp
        have Hmem := hid (List.mem_of_getElem? hpi)
        clear hpa hpi hp
        go_wp2_with fail
        refine (rvalid_any Hp.out hii.out hff.out).mono ?_
        rintro r W1 ⟨rfl, b1⟩
        have HB1 := hid (HB.out.trans (b1.mono HB.out.size))
        clear b1 e0 e1 e2
        obtain ⟨q, hq⟩ : ∃ q, p.ok = q := ⟨_, rfl⟩
        rw [hq]
        have Hq := hid hq
        clear hq
        cases q with
        | true =>
          go_wp2_with fail
          go_roundw
          case rel => exact ⟨i + 1, by omega, by go_num, hid (fun j hj => by rcases Nat.lt_or_ge j i with e | e; exact Hall.out j e; rw [show j = i by omega, Hpa.out]; exact Hq.out), HB1⟩
          case measure => simp [intOf]; omega
        | false =>
          obtain rfl : R = (⟨[], [], 0⟩, 2) := by
            rw [← HR.out]
            have hf : db.all Pb.ok = false := by
              rw [← Bool.not_eq_true, List.all_eq_true]
              intro h
              have := h p Hmem.out
              rw [Hq.out] at this
              cases this
            unfold runB; rw [if_pos (.inr hf)]; rfl
          have KO1 := hid (keep_blk KO.out HB1.out)
          obtain ⟨t0, t1, t2⟩ := box3 KO1.out
          obtain ⟨f0, f1, f2⟩ := froz3 KO1.out
          have sW := HB1.out.size
          clear HR
          go_wp2_with fail
          obtain ⟨u0, u1, u2, m3⟩ := set3 t0 t1 t2 (.slice none 0 0) (.slice none 0 0) (.int .i64 0)
          exact bodyPost_ret (v := .tuple #[.agg #[.slice none 0 0, .slice none 0 0, .int .i64 0], .int .i64 2]) (by simp [results, Tryd.f22, go_sem, u0, u1, u2]) rfl ⟨⟨_, rfl, PbRd.zero _ _⟩, below_mod (B0.out.trans (HB1.out.mono B0.out.size)) (by omega) m3 fun g hg => by omega⟩
      · have hin : i = dn := by omega
        have y1 : ¬ ((i : Int) < (dn : Int)) := by omega
        have hall : db.all Pb.ok = true := by
          rw [List.all_eq_true]
          intro p hp
          obtain ⟨j, hj, e⟩ := List.getElem_of_mem hp
          have h1 := Hall.out j (by omega)
          have h2 : pbAt db j = p := by unfold pbAt; rw [List.getElem?_eq_getElem hj, e]; rfl
          rw [h2] at h1
          exact h1
        have hRf : runB os db = runFrom db os [] := by unfold runB; rw [if_neg (by rw [hall]; simp; omega)]
        rw [HR.out] at hRf
        have Hdok := hid (fun p (hp : p ∈ db) => (Pb.ok_iff p).1 (List.all_eq_true.1 hall p hp))
        have HR2 := hid hRf
        have HB2 := hid HB.out
        clear hall hRf HR hin Hall HB
        go_wp2_with fail
        go_loopw [8, 7] (fun iv sv W => ∃ (k : Nat) (A' : Option Addr) (c' : Nat) (s : List Pb), k ≤ n ∧ iv = .int .i64 k ∧ sv = .slice A' s.length c' ∧ Hid (PsRd W (fun g => g ≠ ob) (fun g => g ≠ ob) A' s.length c' s) ∧ Hid (∀ p ∈ s, p.Ok) ∧ s.length ≤ k ∧ Hid (R = runFrom db (os.drop k) s) ∧ Hid (Below X0.heap.size X0 W)) (fun iv _ _ => n - (intOf iv).toNat)
        case atStart => exact ⟨0, none, 0, [], by omega, rfl, rfl, hid ⟨[], (Own.nil _ _ 0 3).rd, Ps.nil _ _, rfl⟩, hid (fun p hp => by cases hp), by simp, HR2, HB2⟩
        case round =>
          obtain ⟨k, A', c', s, hk, rfl, rfl, HS, Hok, hsl, HRf, HB⟩ := hrel
          by_cases hlt : k < n
          · have y2 : (k : Int) < (n : Int) := by omega
            obtain ⟨_, A2, c2, hv, _, _, hA⟩ := ho0.out.below HB.out
            injection hv with hv1 _ hv3
            subst hv1
            subst hv3
            obtain ⟨go, oo, rfl, hgo, hgo2, hcell⟩ := hA (by omega)
            have hoi : os[k]? = some (os[k]'(by omega)) := List.getElem?_eq_getElem (by omega)
            obtain ⟨kd, on, hop⟩ : ∃ kd on, (os[k]'(by omega)) = ⟨kd, on⟩ := ⟨_, _, rfl⟩
            rw [hop] at hoi
            have Hon := hid (Hio.out _ (List.mem_of_getElem? hoi))
            obtain ⟨e0, e1⟩ := ocells_get os k _ hoi
            have e0 := hcell _ _ e0
            have e1 := hcell _ _ e1
            rw [← Nat.add_assoc] at e1
            have hstep := HRf.out
            rw [runFrom_drop (by omega), hop] at hstep
            have Hstep := hid hstep
            have hdw := hid (hd0.out.below HB.out)
            clear hstep hop hoi hA hcell HRf
            go_wp2_with fail
            refine (rdo_any HS.out hdw.out (by omega) Hok.out Hon.out).mono ?_
            rintro r W4 ⟨⟨v, rfl, h4⟩, b4⟩
            have sR := HB.out.size
            have B4 := hid (HB.out.trans (b4.mono HB.out.size))
            obtain ⟨x, hx⟩ : ∃ x, stepB db s ⟨kd, on⟩ = x := ⟨_, rfl⟩
            have hok4 := fun he => step_ok (op := ⟨kd, on⟩) Hdok.out Hok.out he
            have hln := step_len (db := db) (s := s) (op := ⟨kd, on⟩)
            rw [hx] at h4 hok4 hln ⊢
            have hst4 := Hstep.out
            rw [hx] at hst4
            by_cases he : x.2 = 0
            · obtain ⟨A4, c4, rfl, hS4⟩ := h4 he
              have HS4 := hid (hS4.mono (F' := fun g => g ≠ ob) (G' := fun g => g ≠ ob) (fun g _ hg => hg.elim id fun hg => by omega) fun g _ hg => hg.elim id fun hg => by omega)
              have Hok4 := hid (hok4 he)
              rw [if_pos he] at hst4
              have HR4 := hid hst4
              rw [he]
              clear h4 hok4 hx he hS4 hst4 b4 e0 e1 Hstep HS hdw
              go_wp2_with fail
              go_roundw
              case rel => exact ⟨k + 1, A4, c4, x.1, by omega, by go_num, rfl, HS4, Hok4, by omega, HR4, B4⟩
              case measure => simp [intOf]; omega
            · rw [if_neg he] at hst4
              have hne : (x.2 != 0) = true := by simp [he]
              subst hst4
              have KO1 := hid (keep_blk KO.out B4.out)
              obtain ⟨t0, t1, t2⟩ := box3 KO1.out
              obtain ⟨f0, f1, f2⟩ := froz3 KO1.out
              have sW := B4.out.size
              clear h4 hok4 hx he b4 e0 e1 Hstep HS hdw HR2
              go_wp2_with fail
              obtain ⟨u0, u1, u2, m3⟩ := set3 t0 t1 t2 (.slice none 0 0) (.slice none 0 0) (.int .i64 0)
              exact bodyPost_ret (v := .tuple #[.agg #[.slice none 0 0, .slice none 0 0, .int .i64 0], .int .i64 x.2]) (by simp [results, Tryd.f22, go_sem, u0, u1, u2]) rfl ⟨⟨_, rfl, PbRd.zero _ _⟩, below_mod (B0.out.trans (B4.out.mono B0.out.size)) (by omega) m3 fun g hg => by omega⟩
          · have hin : k = n := by omega
            have hRn := HRf.out
            rw [hin, List.drop_of_length_le (by omega)] at hRn
            have y2 : ¬ ((k : Int) < (n : Int)) := by omega
            have KO1 := hid (keep_blk KO.out HB.out)
            obtain ⟨t0, t1, t2⟩ := box3 KO1.out
            obtain ⟨f0, f1, f2⟩ := froz3 KO1.out
            have BF := hid (B0.out.trans (HB.out.mono B0.out.size))
            have sW := HB.out.size
            clear hin HRf HR2
            by_cases h1 : s.length = 1
            · obtain ⟨g, o, p, A1, n1, c1, A2, n2, c2, rfl, _, _, hpi, e0, e1, e2, hp⟩ := HS.out.cells (i := 0) (by omega)
              rw [Nat.zero_mul, Nat.add_zero] at e0 e1 e2
              have hpp : pbAt s 0 = p := by unfold pbAt; rw [hpi]; rfl
              obtain rfl : R = (p, 0) := by rw [hRn]; unfold runFrom; rw [if_pos h1, hpp]
              have hk1 : ((s.length : Int) != 1) = false := by simp; omega
              have hk2 : (0 : Int) < (s.length : Int) := by omega
              clear hRn hpp hpi h1 HS Hok hsl
              go_wp2_with fail
              obtain ⟨u0, u1, u2, m3⟩ := set3 t0 t1 t2 (.slice A1 n1 c1) (.slice A2 n2 c2) (.int .i64 p.bound)
              refine bodyPost_ret (v := .tuple #[.agg #[.slice A1 n1 c1, .slice A2 n2 c2, .int .i64 p.bound], .int .i64 0]) (by simp [results, Tryd.f22, go_sem, u0, u1, u2]) rfl ⟨⟨_, rfl, ?_⟩, below_mod BF.out (by omega) m3 fun g hg => by omega⟩
              exact (hp.mod m3 fun b _ hf e => hf e).mono fun _ _ _ => trivial
            · obtain rfl : R = (⟨[], [], 0⟩, 2) := by rw [hRn]; unfold runFrom; rw [if_neg h1]; rfl
              have hk1 : ((s.length : Int) != 1) = true := by simp; omega
              clear hRn HS Hok h1
              go_wp2_with fail
              obtain ⟨u0, u1, u2, m3⟩ := set3 t0 t1 t2 (.slice none 0 0) (.slice none 0 0) (.int .i64 0)
              exact bodyPost_ret (v := .tuple #[.agg #[.slice none 0 0, .slice none 0 0, .int .i64 0], .int .i64 2]) (by simp [results, Tryd.f22, go_sem, u0, u1, u2]) rfl ⟨⟨_, rfl, PbRd.zero _ _⟩, below_mod BF.out (by omega) m3 fun g hg => by omega⟩
end

section
open Go.RowKit

/-- A box of three cells. -/
structure Bx3 (W : World) (Z : Nat) (x y z : Value) : Prop where
  c0 : W.cell? ⟨Z, 0, none⟩ = some x
  c1 : W.cell? ⟨Z, 1, none⟩ = some y
  c2 : W.cell? ⟨Z, 2, none⟩ = some z
  f0 : W.frozen? ⟨Z, 0, none⟩ = false
  f1 : W.frozen? ⟨Z, 1, none⟩ = false
  f2 : W.frozen? ⟨Z, 2, none⟩ = false
theorem Bx3.of {W : World} {Z : Nat} {x y z : Value} (k : W.heap[Z]? = some (.cells #[x, y, z] 24)) : Bx3 W Z x y z := ⟨(box3 k).1, (box3 k).2.1, (box3 k).2.2, (froz3 k).1, (froz3 k).2.1, (froz3 k).2.2⟩
section
variable {W W' : World} {Z : Nat} {x y z : Value}
theorem Bx3.lt (h : Bx3 W Z x y z) : Z < W.heap.size := World.block_lt_of_cell? W _ h.c0
theorem Bx3.same (h : Bx3 W Z x y z) (e : W'.heap[Z]? = W.heap[Z]?) : Bx3 W' Z x y z :=
  ⟨(World.cell?_of_block e).trans h.c0, (World.cell?_of_block e).trans h.c1, (World.cell?_of_block e).trans h.c2, (World.frozen?_of_block e).trans h.f0, (World.frozen?_of_block e).trans h.f1, (World.frozen?_of_block e).trans h.f2⟩
theorem Bx3.below (h : Bx3 W Z x y z) (b : Below W.heap.size W W') : Bx3 W' Z x y z := h.same (b.block _ h.lt)
theorem Bx3.mod {G : Nat → Prop} (h : Bx3 W Z x y z) (m : Mod G W W') (hG : ¬ G Z) : Bx3 W' Z x y z := h.same (m.block _ h.lt hG)
theorem Bx3.set (h : Bx3 W Z x y z) (x' y' z' : Value) : Bx3 (((W.setCell ⟨Z, 0, none⟩ x').setCell ⟨Z, 1, none⟩ y').setCell ⟨Z, 2, none⟩ z') Z x' y' z' ∧ Mod (fun g => g = Z) W (((W.setCell ⟨Z, 0, none⟩ x').setCell ⟨Z, 1, none⟩ y').setCell ⟨Z, 2, none⟩ z') := by
  obtain ⟨u0, u1, u2, m⟩ := set3 h.c0 h.c1 h.c2 x' y' z'
  exact ⟨⟨u0, u1, u2, by simp [h.f0], by simp [h.f1], by simp [h.f2]⟩, m⟩
end
set_option maxRecDepth 100000 in
theorem same25_any {w : World} {F G : Nat → Prop} {va vb : Value} {c : Pb} {e : Int} (hc : PbRd w F va c) (hd : PbRd w G vb c) :
    Calls Tryd.prog 14 #[va, .int .i64 e, vb, .int .i64 e] w fun r w' => r = .returned (.bool true) ∧ Below w.heap.size w w' := by
  have Hc := hid hc
  have Hd := hid hd
  have hs : c.same c = true := by simp [Pb.same]
  have Hs := hid hs
  obtain ⟨⟨A, n, x, B, m, y, rfl, _, _⟩, _⟩ := hc
  obtain ⟨⟨A2, n2, x2, B2, m2, y2, rfl, _, _⟩, _⟩ := hd
  obtain ⟨X0, hX0, bX0, k0, s0⟩ := alloc_step w (.cells #[.slice A n x, .slice B m y, .int .i64 c.bound] 24)
  obtain ⟨X1, hX1, bX1, k1, s1⟩ := alloc_step X0 (.cells #[.slice A2 n2 x2, .slice B2 m2 y2, .int .i64 c.bound] 24)
  have HX := hid hX0
  have HX1 := hid hX1
  have B1 := hid (bX0.trans (bX1.mono bX0.size))
  clear hX0 hX1 bX0 bX1 k0 k1 s0 s1 hs
  go_enter Tryd.func14, Tryd.ntmps14
  go_wp2_with fail
  rw [HX.out, HX1.out]
  refine (requal_any (Hc.out.below B1.out) (Hd.out.below B1.out)).mono ?_
  rintro r w' ⟨rfl, b⟩
  rw [Hs.out]
  have B3 := hid (B1.out.trans (b.mono B1.out.size))
  clear b
  go_wp2_with fail
  go_ret
  exact ⟨rfl, B3.out⟩
end

section
open Go.RowKit Go.ChangeShapes Go.WideShapes

section
variable {H : Type} {enc : TypeId × Value → H} {w : World}
theorem cells_two {a : Addr} {cs : List Value} (h : w.cells? 0 a 2 = some cs) : ∃ u0 u1, cs = [u0, u1] ∧ w.cell? (a.add 0) = some u0 ∧ w.cell? (a.add 1) = some u1 := by
  unfold World.cells? at h
  rw [if_pos (Nat.zero_le _), show List.range 2 = [0, 1] from rfl] at h
  simp only [List.mapM_cons, List.mapM_nil] at h
  cases e0 : w.cell? (a.add 0) with
  | none => rw [e0] at h; cases h
  | some u0 =>
    cases e1 : w.cell? (a.add 1) with
    | none => rw [e0, e1] at h; cases h
    | some u1 =>
      rw [e0, e1] at h
      exact ⟨u0, u1, (Option.some.inj h).symm, rfl, rfl⟩
theorem cells_three {a : Addr} {cs : List Value} (h : w.cells? 0 a 3 = some cs) : ∃ u0 u1 u2, cs = [u0, u1, u2] ∧ w.cell? (a.add 0) = some u0 ∧ w.cell? (a.add 1) = some u1 ∧ w.cell? (a.add 2) = some u2 := by
  unfold World.cells? at h
  rw [if_pos (Nat.zero_le _), show List.range 3 = [0, 1, 2] from rfl] at h
  simp only [List.mapM_cons, List.mapM_nil] at h
  cases e0 : w.cell? (a.add 0) with
  | none => rw [e0] at h; cases h
  | some u0 =>
    cases e1 : w.cell? (a.add 1) with
    | none => rw [e0, e1] at h; cases h
    | some u1 =>
      cases e2 : w.cell? (a.add 2) with
      | none => rw [e0, e1, e2] at h; cases h
      | some u2 =>
        rw [e0, e1, e2] at h
        exact ⟨u0, u1, u2, (Option.some.inj h).symm, rfl, rfl, rfl⟩
set_option maxRecDepth 100000 in
theorem open_cop {fuel : Nat} {cs : List Value} {y : DataW H × List MemPlace} (h : DataW.trod enc Tryd.prog w 0 (fun _ => true) true fuel 44 cs = some y) :
    ∃ (x : Cop), cs = [.int .u8 x.kind, .int .i64 x.n] ∧ I64 x.n ∧ x.kind ≤ 255 := by
  obtain ⟨y0, y1, m, _, hl, h0, h1⟩ := trod_struct2 Tryd.underlying44 h
  have hl' : cs.length = 2 := hl.trans (by kernel_rfl)
  match cs, hl' with
  | [c0, c1], _ =>
    obtain ⟨k, e0, _, wk⟩ := DataW.trod_int Tryd.underlying5 h0
    obtain ⟨n, e1, _, wn⟩ := DataW.trod_int Tryd.underlying3 h1
    have e0' : c0 = .int .u8 k := by simpa [show Tryd.prog.cellsOf 5 = 1 by kernel_rfl] using e0
    have e1' : c1 = .int .i64 n := by simpa [show Tryd.prog.cellsOf 3 = 1 by kernel_rfl] using e1
    subst e0' e1'
    have wk := lwf_u8 wk
    have wn := lwf_i64 wn
    exact ⟨⟨k.toNat, n⟩, by simp only; rw [Int.toNat_of_nonneg wk.1], wn, by simp only; omega⟩
set_option maxRecDepth 100000 in
theorem open_ops {v : Value} {d : DataW H} {ps : List MemPlace} (h : DataW.Trod enc Tryd.prog w 0 (fun _ => true) true 35 v d ps) {A : Option Addr} {n c : Nat} (hv : v = .slice A n c) :
    ∃ os : List Cop, (Rd w (fun _ => True) 2 (.slice A n c) n (ocells os) ∧ os.length = n ∧ (∀ o ∈ os, I64 o.n ∧ o.kind ≤ 255)) ∧ v = .slice A n c := by
  subst hv
  obtain ⟨fuel, hf⟩ := h
  rcases Deep.open_slice Tryd.underlying35 hf with ⟨hcs, _⟩ | ⟨a, len, cap, m, n', D, Pl, hcs, _, hl, hm, hmm, _, hel⟩
  · simp only [Value.cells, List.cons.injEq, Value.slice.injEq, and_true] at hcs
    obtain ⟨rfl, rfl, rfl⟩ := hcs
    exact ⟨[], ⟨(Own.nil w _ 0 2).rd, rfl, by simp⟩, rfl⟩
  · simp only [Value.cells, List.cons.injEq, Value.slice.injEq, and_true] at hcs
    obtain ⟨rfl, rfl, rfl⟩ := hcs
    simp only [if_true] at hmm
    subst hmm
    have hc2 : Tryd.prog.cellsOf 44 = 2 := by kernel_rfl
    have key : ∀ i, i < n → ∃ x : Cop, ∃ g o, a = ⟨g, o, none⟩ ∧ g < w.heap.size ∧ w.cell? ⟨g, o + i * 2, none⟩ = some (.int .u8 x.kind) ∧ w.cell? ⟨g, o + i * 2 + 1, none⟩ = some (.int .i64 x.n) ∧ I64 x.n ∧ x.kind ≤ 255 := by
      intro i hi
      obtain ⟨cs', hcs', htr⟩ := hel i (by omega)
      obtain ⟨x, rfl, hok⟩ := open_cop htr
      rw [hc2] at hcs'
      obtain ⟨u0, u1, hu, e0, e1⟩ := cells_two hcs'
      simp only [List.cons.injEq, and_true] at hu
      obtain ⟨rfl, rfl⟩ := hu
      rw [Deep.add_add] at e0 e1
      obtain ⟨g, o, s⟩ := a
      obtain rfl : s = none := by
        rcases Nat.eq_zero_or_pos i with h0 | h0
        · subst h0; simpa [Addr.add] using World.cell?_spot e0
        · obtain ⟨cs', hcs', _⟩ := hel 0 (by omega)
          rw [hc2] at hcs'
          obtain ⟨u0, u1, _, f0, _⟩ := cells_two hcs'
          simpa [Addr.add] using World.cell?_spot f0
      rw [addr_add] at e0 e1
      rw [Nat.add_zero] at e0
      rw [← Nat.add_assoc] at e1
      exact ⟨x, g, o, rfl, World.block_lt_of_cell? w _ e0, e0, e1, hok⟩
    haveI : Inhabited Cop := ⟨⟨0, 0⟩⟩
    obtain ⟨f, hf⟩ := Deep.choose_lt key
    have hlen : ((List.range n).map f).length = n := by simp
    have hget : ∀ (i : Nat) (x : Cop), ((List.range n).map f)[i]? = some x → i < n ∧ x = f i := fun i x hx => by
      rw [List.getElem?_map] at hx
      by_cases hi : i < n
      · rw [List.getElem?_range hi] at hx
        simp only [Option.map_some, Option.some.injEq] at hx
        exact ⟨hi, hx.symm⟩
      · rw [List.getElem?_eq_none (by simp; omega)] at hx
        cases hx
    refine ⟨(List.range n).map f, ⟨⟨by rw [ocells_len, hlen], _, _, rfl, hl, hm, fun hp => ?_⟩, hlen, fun x hx => ?_⟩, rfl⟩
    · obtain ⟨g, o, rfl, hg, _⟩ := hf 0 hp
      refine ⟨g, o, rfl, trivial, hg, fun j u hu => ?_⟩
      have hj : j < n * 2 := by
        have := (List.getElem?_eq_some_iff.1 hu).1
        rw [ocells_len, hlen] at this
        exact this
      have hx : ((List.range n).map f)[j / 2]? = some (f (j / 2)) := by
        rw [List.getElem?_map, List.getElem?_range (by omega)]; rfl
      obtain ⟨c0, c1⟩ := ocells_get _ _ _ hx
      obtain ⟨g', o', e, _, d0, d1, _⟩ := hf (j / 2) (by omega)
      injection e with e1 e2
      subst e1 e2
      rcases (show j = j / 2 * 2 ∨ j = j / 2 * 2 + 1 by omega) with e | e
      · rw [e] at hu ⊢
        rw [c0] at hu
        rw [← hu]; exact d0
      · rw [e] at hu ⊢
        rw [c1] at hu
        rw [← hu, ← Nat.add_assoc]; exact d1
    · obtain ⟨i, hi⟩ := List.mem_iff_getElem?.1 hx
      obtain ⟨hin, rfl⟩ := hget i x hi
      obtain ⟨_, _, _, _, _, _, h1, h2⟩ := hf i hin
      exact ⟨h1, h2⟩
set_option maxRecDepth 100000 in
/-- A constraint's cells. -/
theorem open_pbc {fuel : Nat} {cs : List Value} {y : DataW H × List MemPlace} (h : DataW.trod enc Tryd.prog w 0 (fun _ => true) true fuel 24 cs = some y) :
    ∃ (t : Value × Value × Value) (c : Pb), cs = [t.1, t.2.1, t.2.2] ∧ PbRd w (fun _ => True) (agg3 t) c ∧ ∀ k ∈ c.coefs, I64 k := by
  obtain ⟨y0, y1, y2, m, _, hl, h0, h1, h2⟩ := Deep.trod_struct3 Tryd.underlying24 h
  have hl' : cs.length = 3 := hl.trans (by kernel_rfl)
  match cs, hl' with
  | [c0, c1, c2], _ =>
    have k1 : Tryd.prog.cellsOf 22 = 1 := by kernel_rfl
    have k2 : Tryd.prog.cellsOf 3 = 1 := by kernel_rfl
    simp only [k1, k2, List.take_succ_cons, List.take_zero, List.drop_succ_cons, List.drop_zero] at h0 h1 h2
    obtain ⟨R0, n0, c0, xs, rfl, r0, l0, _⟩ := open_src (v := c0) h0
    obtain ⟨R1, n1, c1, ys, rfl, r1, l1, i1⟩ := open_src (v := c1) h1
    obtain ⟨z, hz, _, hw⟩ := DataW.trod_int Tryd.underlying3 h2
    obtain rfl : c2 = .int .i64 z := by simpa using hz
    exact ⟨(.slice R0 n0 c0, .slice R1 n1 c1, .int .i64 z), ⟨xs, ys, z⟩, rfl, ⟨⟨R0, n0, c0, R1, n1, c1, rfl, r0, r1⟩, lwf_i64 hw⟩, i1⟩
set_option maxRecDepth 100000 in
theorem open_pbs {v : Value} {d : DataW H} {ps : List MemPlace} (h : DataW.Trod enc Tryd.prog w 0 (fun _ => true) true 36 v d ps) {A : Option Addr} {n c : Nat} (hv : v = .slice A n c) :
    ∃ db : List Pb, (PsRd w (fun _ => True) (fun _ => True) A n c db ∧ ∀ p ∈ db, ∀ k ∈ p.coefs, I64 k) ∧ v = .slice A n c := by
  subst hv
  obtain ⟨fuel, hf⟩ := h
  rcases Deep.open_slice Tryd.underlying36 hf with ⟨hcs, _⟩ | ⟨a, len, cap, m, n', D, Pl, hcs, _, hl, hm, hmm, _, hel⟩
  · simp only [Value.cells, List.cons.injEq, Value.slice.injEq, and_true] at hcs
    obtain ⟨rfl, rfl, rfl⟩ := hcs
    exact ⟨[], ⟨⟨[], (Own.nil w _ 0 3).rd, Ps.nil _ _, rfl⟩, by simp⟩, rfl⟩
  · simp only [Value.cells, List.cons.injEq, Value.slice.injEq, and_true] at hcs
    obtain ⟨rfl, rfl, rfl⟩ := hcs
    simp only [if_true] at hmm
    subst hmm
    have hc3 : Tryd.prog.cellsOf 24 = 3 := by kernel_rfl
    have key : ∀ i, i < n → ∃ x : (Value × Value × Value) × Pb, (∃ g o, a = ⟨g, o, none⟩ ∧ g < w.heap.size ∧ w.cell? ⟨g, o + i * 3, none⟩ = some x.1.1 ∧ w.cell? ⟨g, o + i * 3 + 1, none⟩ = some x.1.2.1 ∧ w.cell? ⟨g, o + i * 3 + 2, none⟩ = some x.1.2.2) ∧ PbRd w (fun _ => True) (agg3 x.1) x.2 ∧ ∀ k ∈ x.2.coefs, I64 k := by
      intro i hi
      obtain ⟨cs', hcs', htr⟩ := hel i (by omega)
      obtain ⟨t, p, rfl, hok⟩ := open_pbc htr
      rw [hc3] at hcs'
      obtain ⟨u0, u1, u2, hu, e0, e1, e2⟩ := cells_three hcs'
      simp only [List.cons.injEq, and_true] at hu
      obtain ⟨e3, e4, e5⟩ := hu
      rw [Deep.add_add] at e0 e1 e2
      obtain ⟨g, o, s⟩ := a
      obtain rfl : s = none := by
        rcases Nat.eq_zero_or_pos i with h0 | h0
        · subst h0; simpa [Addr.add] using World.cell?_spot e0
        · obtain ⟨cs', hcs', _⟩ := hel 0 (by omega)
          rw [hc3] at hcs'
          obtain ⟨u0, u1, u2, _, f0, _⟩ := cells_three hcs'
          simpa [Addr.add] using World.cell?_spot f0
      rw [addr_add] at e0 e1 e2
      rw [Nat.add_zero] at e0
      rw [← Nat.add_assoc] at e1 e2
      rw [← e3] at e0
      rw [← e4] at e1
      rw [← e5] at e2
      exact ⟨(t, p), ⟨g, o, rfl, World.block_lt_of_cell? w _ e0, e0, e1, e2⟩, hok⟩
    haveI : Inhabited Pb := ⟨Pb.nil⟩
    haveI : Inhabited Value := ⟨.int .i64 0⟩
    obtain ⟨f, hf⟩ := Deep.choose_lt key
    have hget : ∀ (i : Nat), i < n → ((List.range n).map fun i => (f i).1)[i]? = some (f i).1 ∧ ((List.range n).map fun i => (f i).2)[i]? = some (f i).2 := fun i hi => by
      rw [List.getElem?_map, List.getElem?_map, List.getElem?_range hi]; exact ⟨rfl, rfl⟩
    have hlt : ∀ (i : Nat) (x : Pb), ((List.range n).map fun i => (f i).2)[i]? = some x → i < n := fun i x hx => by
      have := (List.getElem?_eq_some_iff.1 hx).1
      simpa using this
    refine ⟨(List.range n).map fun i => (f i).2, ⟨⟨(List.range n).map fun i => (f i).1, ⟨by rw [flat3_length]; simp, _, _, rfl, hl, hm, fun hp => ?_⟩, ⟨by simp, fun i t p h1 h2 => ?_⟩, by simp⟩, fun p hp => ?_⟩, rfl⟩
    · obtain ⟨⟨g, o, rfl, hg, _⟩, _⟩ := hf 0 hp
      refine ⟨g, o, rfl, trivial, hg, fun j u hu => ?_⟩
      have hj : j < n * 3 := by
        have := (List.getElem?_eq_some_iff.1 hu).1
        rw [flat3_length] at this
        simpa using this
      obtain ⟨c0, c1, c2⟩ := flat3_get _ _ _ (hget (j / 3) (by omega)).1
      obtain ⟨⟨g', o', e, _, d0, d1, d2⟩, _⟩ := hf (j / 3) (by omega)
      injection e with e1 e2
      subst e1 e2
      rcases (show j = j / 3 * 3 ∨ j = j / 3 * 3 + 1 ∨ j = j / 3 * 3 + 2 by omega) with e | e | e
      · rw [e] at hu ⊢
        rw [c0] at hu
        rw [← hu]; exact d0
      · rw [e] at hu ⊢
        rw [c1] at hu
        rw [← hu, ← Nat.add_assoc]; exact d1
      · rw [e] at hu ⊢
        rw [c2] at hu
        rw [← hu, ← Nat.add_assoc]; exact d2
    · have hi := hlt i p h2
      obtain ⟨e1, e2⟩ := hget i hi
      rw [e1] at h1
      rw [e2] at h2
      rw [← Option.some.inj h1, ← Option.some.inj h2]
      exact (hf i hi).2.1
    · obtain ⟨i, hi⟩ := List.mem_iff_getElem?.1 hp
      have hin := hlt i p hi
      rw [(hget i hin).2] at hi
      rw [← Option.some.inj hi]
      exact (hf i hin).2.2
end
end

section
open Go.RowKit

set_option maxRecDepth 100000 in
set_option maxHeartbeats 8000000 in
theorem runs_walk {w : World} {A D : Option Addr} {n cA dn dc : Nat} {os : List Cop} {db : List Pb} (ho0 : Rd w (fun _ => True) 2 (.slice A n cA) n (ocells os) ∧ os.length = n ∧ (∀ o ∈ os, I64 o.n ∧ o.kind ≤ 255)) (hd0 : PsRd w (fun _ => True) (fun _ => True) D dn dc db ∧ ∀ p ∈ db, ∀ k ∈ p.coefs, I64 k) :
    Calls Tryd.prog 4 #[.slice A n cA, .slice D dn dc] w fun r w' => r = .returned (.bool true) ∧ Below w.heap.size w w' := by
  obtain ⟨ho, hon, hio⟩ := ho0
  obtain ⟨hd, hi⟩ := hd0
  have hdl : db.length = dn := by obtain ⟨_, _, _, h⟩ := hd; exact h
  have Ho := hid ho
  have Hd := hid hd
  have Hi := hid hi
  have Hio := hid (fun o (h : o ∈ os) => (hio o h).1)
  obtain ⟨R, hR⟩ : ∃ R, runB os db = R := ⟨_, rfl⟩
  have HR := hid hR
  clear ho hd hi hio hR
  by_cases e1 : 20 < dn
  · have g1 : (dn : Int) > 20 := by omega
    go_enter Tryd.func4, Tryd.ntmps4
    go_wp2_with fail
    refine (awake25_any).mono ?_
    rintro r W1 ⟨rfl, b⟩
    go_wp2_with fail
    go_ret
    exact ⟨rfl, b⟩
  · have g1 : ¬ ((dn : Int) > 20) := by omega
    by_cases e2 : 100 < n ∧ n ≤ 1000
    · have g2 : (n : Int) > 100 := by omega
      have g3 : (n : Int) ≤ 1000 := by omega
      go_enter Tryd.func4, Tryd.ntmps4
      go_wp2_with fail
      refine (awake25_any).mono ?_
      rintro r W1 ⟨rfl, b⟩
      go_wp2_with fail
      go_ret
      exact ⟨rfl, b⟩
    · by_cases e4 : 100 < n
      · have g2 : (n : Int) > 100 := by omega
        have g3 : ¬ ((n : Int) ≤ 1000) := by omega
        go_enter Tryd.func4, Tryd.ntmps4
        go_wp2_with fail
        go_loopw [27] (fun iv W => ∃ i : Nat, i ≤ dn ∧ iv = .int .i64 i ∧ Hid (∀ j p, j < i → db[j]? = some p → p.lits.length ≤ 65536) ∧ Hid (Below w.heap.size w W)) (fun iv _ => dn - (intOf iv).toNat)
        case atStart => exact ⟨0, by omega, rfl, hid (fun j p hj => absurd hj (by omega)), Below.refl _ _⟩
        case round =>
          obtain ⟨i, hi, rfl, Hall, HB⟩ := hrel
          by_cases hlt : i < dn
          · have y1 : (i : Int) < (dn : Int) := by omega
            obtain ⟨g, o, p, A1, n1, c1, A2, n2, c2, rfl, _, _, hpi, d0, d1, d2, hp⟩ := (Hd.out.below HB.out).cells hlt
            have hl1 : p.lits.length = n1 := by have := hp.lits.1; simpa [ints_length] using this
            obtain ⟨X2, hX2, bX2, k2, s2⟩ := alloc_step wr (.cells #[.slice A1 n1 c1, .slice A2 n2 c2, .int .i64 p.bound] 24)
            have HX2 := hid hX2
            have HB2 := hid (HB.out.trans (bX2.mono HB.out.size))
            obtain ⟨bz, hbz⟩ : ∃ z, wr.heap.size = z := ⟨_, rfl⟩
            have Hbz := hid hbz
            rw [hbz] at k2
            have K2 := hid k2
            obtain ⟨t0, t1, t2⟩ := box3 k2
            have Hl1 := hid hl1
            have Hpi := hid hpi
            clear hX2 bX2 k2 s2 hp hl1 hpi hbz
            go_upto_region 6 with fail
            rw [HX2.out, Hbz.out]
            by_cases f1 : 40 < n1
            · have z1 : (n1 : Int) > 40 := by omega
              go_wp2_with fail
              refine (awake25_any).mono ?_
              rintro r W1 ⟨rfl, b⟩
              have HB3 := hid (HB2.out.trans (b.mono HB2.out.size))
              clear b d0 d1 d2
              go_wp2_with fail
              go_ret
              exact ⟨rfl, HB3.out⟩
            · have z1 : ¬ ((n1 : Int) > 40) := by omega
              by_cases f2 : 40 < n2
              · have z2 : (n2 : Int) > 40 := by omega
                go_wp2_with fail
                refine (awake25_any).mono ?_
                rintro r W1 ⟨rfl, b⟩
                have HB3 := hid (HB2.out.trans (b.mono HB2.out.size))
                clear b d0 d1 d2
                go_wp2_with fail
                go_ret
                exact ⟨rfl, HB3.out⟩
              · have z2 : ¬ ((n2 : Int) > 40) := by omega
                go_wp2_with fail
                go_roundw
                case rel =>
                  exact ⟨i + 1, by omega, by go_num, hid (fun j p' hj hp' => by
                    rcases Nat.lt_or_ge j i with e | e
                    · exact Hall.out j p' e hp'
                    · rw [show j = i by omega, Hpi.out] at hp'
                      rw [← Option.some.inj hp', Hl1.out]
                      omega), HB2⟩
                case measure => simp [intOf]; omega
          · have hin : i = dn := by omega
            have y1 : ¬ ((i : Int) < (dn : Int)) := by omega
            have H16 := hid (fun p (hp : p ∈ db) => (by
              obtain ⟨j, hj⟩ := List.mem_iff_getElem?.1 hp
              exact Hall.out j p (by have := (List.getElem?_eq_some_iff.1 hj).1; omega) hj : p.lits.length ≤ 65536))
            have B := hid HB.out
            clear hin Hall HB
            go_wp2_with fail
            refine (run_any (Ho.out.below B.out) hon (Hd.out.below B.out) Hi.out).mono ?_
            rintro r W1 ⟨⟨pv, rfl, hp⟩, b⟩
            rw [HR.out] at hp ⊢
            have hp2 := hid hp
            obtain ⟨⟨Ap1, xp1, yp1, Dp1, zp1, tp1, rfl, _, _⟩, _⟩ := hp
            have B := hid (B.out.trans (b.mono B.out.size))
            have p1 := hid (hp2.out.mono (G := fun _ => True) fun _ _ _ => trivial)
            clear b hp2
            go_upto_region 10 with fail
            obtain ⟨W2, hW, b, kq, sx⟩ := alloc_step W1 (.cells #[.slice Ap1 xp1 yp1, .slice Dp1 zp1 tp1, .int .i64 R.1.bound] 24)
            rw [hW]
            clear hW sx
            obtain ⟨Zkx, hZ⟩ : ∃ z, W1.heap.size = z := ⟨_, rfl⟩
            rw [hZ] at kq
            try rw [hZ]
            clear hZ
            have p1 := hid (p1.out.below b)
            have B := hid (B.out.trans (b.mono B.out.size))
            have kx := hid (Bx3.of kq)
            clear b kq
            go_wp2_with fail
            refine (rrun_any (Ho.out.below B.out) hon Hio.out (Hd.out.below B.out) Hi.out H16.out).mono ?_
            rintro r W3 ⟨⟨pv, rfl, hp⟩, b⟩
            rw [HR.out] at hp ⊢
            have hp2 := hid hp
            obtain ⟨⟨Ap2, xp2, yp2, Dp2, zp2, tp2, rfl, _, _⟩, _⟩ := hp
            have B := hid (B.out.trans (b.mono B.out.size))
            have p1 := hid (p1.out.below b)
            have kx := hid (kx.out.below b)
            have p2 := hp2
            clear b hp2
            go_upto_region 11 with fail
            obtain ⟨W4, hW, b, kq, sx⟩ := alloc_step W3 (.cells #[.slice Ap2 xp2 yp2, .slice Dp2 zp2 tp2, .int .i64 R.1.bound] 24)
            rw [hW]
            clear hW sx
            obtain ⟨Zky, hZ⟩ : ∃ z, W3.heap.size = z := ⟨_, rfl⟩
            rw [hZ] at kq
            try rw [hZ]
            clear hZ
            have p1 := hid (p1.out.below b)
            have p2 := hid (p2.out.below b)
            have kx := hid (kx.out.below b)
            have B := hid (B.out.trans (b.mono B.out.size))
            have ky := hid (Bx3.of kq)
            clear b kq
            have kx0 := kx.out.c0
            have kx1 := kx.out.c1
            have kx2 := kx.out.c2
            have ky0 := ky.out.c0
            have ky1 := ky.out.c1
            have ky2 := ky.out.c2
            go_wp2_with fail
            clear kx0 kx1 kx2 ky0 ky1 ky2
            refine (same25_any p1.out p2.out).mono ?_
            rintro r W5 ⟨rfl, b⟩
            have B := hid (B.out.trans (b.mono B.out.size))
            clear b p1 p2 kx ky
            go_wp2_with fail
            refine (awake25_any).mono ?_
            rintro r W6 ⟨rfl, b⟩
            have B := hid (B.out.trans (b.mono B.out.size))
            clear b
            go_wp2_with fail
            go_ret
            exact ⟨rfl, B.out⟩
      · have g2 : ¬ ((n : Int) > 100) := by omega
        go_enter Tryd.func4, Tryd.ntmps4
        go_wp2_with fail
        go_loopw [27] (fun iv W => ∃ i : Nat, i ≤ dn ∧ iv = .int .i64 i ∧ Hid (∀ j p, j < i → db[j]? = some p → p.lits.length ≤ 65536) ∧ Hid (Below w.heap.size w W)) (fun iv _ => dn - (intOf iv).toNat)
        case atStart => exact ⟨0, by omega, rfl, hid (fun j p hj => absurd hj (by omega)), Below.refl _ _⟩
        case round =>
          obtain ⟨i, hi, rfl, Hall, HB⟩ := hrel
          by_cases hlt : i < dn
          · have y1 : (i : Int) < (dn : Int) := by omega
            obtain ⟨g, o, p, A1, n1, c1, A2, n2, c2, rfl, _, _, hpi, d0, d1, d2, hp⟩ := (Hd.out.below HB.out).cells hlt
            have hl1 : p.lits.length = n1 := by have := hp.lits.1; simpa [ints_length] using this
            obtain ⟨X2, hX2, bX2, k2, s2⟩ := alloc_step wr (.cells #[.slice A1 n1 c1, .slice A2 n2 c2, .int .i64 p.bound] 24)
            have HX2 := hid hX2
            have HB2 := hid (HB.out.trans (bX2.mono HB.out.size))
            obtain ⟨bz, hbz⟩ : ∃ z, wr.heap.size = z := ⟨_, rfl⟩
            have Hbz := hid hbz
            rw [hbz] at k2
            have K2 := hid k2
            obtain ⟨t0, t1, t2⟩ := box3 k2
            have Hl1 := hid hl1
            have Hpi := hid hpi
            clear hX2 bX2 k2 s2 hp hl1 hpi hbz
            go_upto_region 6 with fail
            rw [HX2.out, Hbz.out]
            by_cases f1 : 40 < n1
            · have z1 : (n1 : Int) > 40 := by omega
              go_wp2_with fail
              refine (awake25_any).mono ?_
              rintro r W1 ⟨rfl, b⟩
              have HB3 := hid (HB2.out.trans (b.mono HB2.out.size))
              clear b d0 d1 d2
              go_wp2_with fail
              go_ret
              exact ⟨rfl, HB3.out⟩
            · have z1 : ¬ ((n1 : Int) > 40) := by omega
              by_cases f2 : 40 < n2
              · have z2 : (n2 : Int) > 40 := by omega
                go_wp2_with fail
                refine (awake25_any).mono ?_
                rintro r W1 ⟨rfl, b⟩
                have HB3 := hid (HB2.out.trans (b.mono HB2.out.size))
                clear b d0 d1 d2
                go_wp2_with fail
                go_ret
                exact ⟨rfl, HB3.out⟩
              · have z2 : ¬ ((n2 : Int) > 40) := by omega
                go_wp2_with fail
                go_roundw
                case rel =>
                  exact ⟨i + 1, by omega, by go_num, hid (fun j p' hj hp' => by
                    rcases Nat.lt_or_ge j i with e | e
                    · exact Hall.out j p' e hp'
                    · rw [show j = i by omega, Hpi.out] at hp'
                      rw [← Option.some.inj hp', Hl1.out]
                      omega), HB2⟩
                case measure => simp [intOf]; omega
          · have hin : i = dn := by omega
            have y1 : ¬ ((i : Int) < (dn : Int)) := by omega
            have H16 := hid (fun p (hp : p ∈ db) => (by
              obtain ⟨j, hj⟩ := List.mem_iff_getElem?.1 hp
              exact Hall.out j p (by have := (List.getElem?_eq_some_iff.1 hj).1; omega) hj : p.lits.length ≤ 65536))
            have B := hid HB.out
            clear hin Hall HB
            go_wp2_with fail
            refine (run_any (Ho.out.below B.out) hon (Hd.out.below B.out) Hi.out).mono ?_
            rintro r W1 ⟨⟨pv, rfl, hp⟩, b⟩
            rw [HR.out] at hp ⊢
            have hp2 := hid hp
            obtain ⟨⟨Ap1, xp1, yp1, Dp1, zp1, tp1, rfl, _, _⟩, _⟩ := hp
            have B := hid (B.out.trans (b.mono B.out.size))
            have p1 := hid (hp2.out.mono (G := fun _ => True) fun _ _ _ => trivial)
            clear b hp2
            go_upto_region 10 with fail
            obtain ⟨W2, hW, b, kq, sx⟩ := alloc_step W1 (.cells #[.slice Ap1 xp1 yp1, .slice Dp1 zp1 tp1, .int .i64 R.1.bound] 24)
            rw [hW]
            clear hW sx
            obtain ⟨Zkx, hZ⟩ : ∃ z, W1.heap.size = z := ⟨_, rfl⟩
            rw [hZ] at kq
            try rw [hZ]
            clear hZ
            have p1 := hid (p1.out.below b)
            have B := hid (B.out.trans (b.mono B.out.size))
            have kx := hid (Bx3.of kq)
            clear b kq
            go_wp2_with fail
            refine (rrun_any (Ho.out.below B.out) hon Hio.out (Hd.out.below B.out) Hi.out H16.out).mono ?_
            rintro r W3 ⟨⟨pv, rfl, hp⟩, b⟩
            rw [HR.out] at hp ⊢
            have hp2 := hid hp
            obtain ⟨⟨Ap2, xp2, yp2, Dp2, zp2, tp2, rfl, _, _⟩, _⟩ := hp
            have B := hid (B.out.trans (b.mono B.out.size))
            have p1 := hid (p1.out.below b)
            have kx := hid (kx.out.below b)
            have p2 := hp2
            clear b hp2
            go_upto_region 11 with fail
            obtain ⟨W4, hW, b, kq, sx⟩ := alloc_step W3 (.cells #[.slice Ap2 xp2 yp2, .slice Dp2 zp2 tp2, .int .i64 R.1.bound] 24)
            rw [hW]
            clear hW sx
            obtain ⟨Zky, hZ⟩ : ∃ z, W3.heap.size = z := ⟨_, rfl⟩
            rw [hZ] at kq
            try rw [hZ]
            clear hZ
            have p1 := hid (p1.out.below b)
            have p2 := hid (p2.out.below b)
            have kx := hid (kx.out.below b)
            have B := hid (B.out.trans (b.mono B.out.size))
            have ky := hid (Bx3.of kq)
            clear b kq
            have kx0 := kx.out.c0
            have kx1 := kx.out.c1
            have kx2 := kx.out.c2
            have ky0 := ky.out.c0
            have ky1 := ky.out.c1
            have ky2 := ky.out.c2
            go_wp2_with fail
            clear kx0 kx1 kx2 ky0 ky1 ky2
            refine (same25_any p1.out p2.out).mono ?_
            rintro r W5 ⟨rfl, b⟩
            have B := hid (B.out.trans (b.mono B.out.size))
            clear b p1 p2 kx ky
            go_wp2_with fail
            refine (awake25_any).mono ?_
            rintro r W6 ⟨rfl, b⟩
            have B := hid (B.out.trans (b.mono B.out.size))
            clear b
            go_wp2_with fail
            go_ret
            exact ⟨rfl, B.out⟩
end
end Go.Proofs.YtooioikkgdgnnaaDoor
