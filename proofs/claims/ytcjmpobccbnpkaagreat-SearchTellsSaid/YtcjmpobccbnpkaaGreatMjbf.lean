/-
 Chapter 32: several texts in one (SeM SeN SeO).
-/
import Derived.Test.YtcjmpobccbnpkaaGreatMjbe
import Derived.Test.YtcjmpobccbnpkaaGreatMjat
import Derived.Test.YtcjmpobccbnpkaaGreatTkU
namespace Go.Proofs.YtcjmpobccbnpkaaGreat
set_option maxRecDepth 100000
set_option maxHeartbeats 1000000
section
open Go.RowKit
theorem eql_ops_nil (w : World) (a : Option Addr) (n c : Nat) : (binOp .eql 50 (.slice a n c) (.slice none 0 0)).run Tryz.prog w = .ok (.bool a.isNone) w := Lib.run_eql_slice_nil w _ _ a n c 0 0 Tryz.underlying50
attribute [go_sem] eql_ops_nil
theorem clone_ops {w : World} : Calls Tryz.prog 78 #[.slice none 0 0] w fun r w' => r = .returned (.slice none 0 0) ∧ Below w.heap.size w w' := by
 go_enter Tryz.func78, Tryz.ntmps78
 go_wp2
 go_ret
 exact ⟨rfl, Below.refl _ _⟩
theorem clone_at {W : World} {F : Nat → Prop} {A : Option Addr} {n c : Nat} {xs : List Int} (hv : Rd W F 1 (.slice A n c) n (ints xs)) (hn : n ≤ 17592186044416) :
  Calls Tryz.prog 76 #[.slice A n c] W fun r w' => (∃ Au cu, r = .returned (.slice Au n cu) ∧ Own w' (fun g => W.heap.size ≤ g) 3 1 (.slice Au n cu) n (ints xs)) ∧ Below W.heap.size W w' := by
 refine (clone_any hv hn).mono ?_
 rintro r w' ⟨⟨u, rfl, ho⟩, hb⟩
 obtain ⟨Au, cu, rfl, _⟩ := ho.form
 exact ⟨⟨Au, cu, rfl, ho⟩, hb⟩
section
variable {W : World} {Z : Nat} {x0 x1 x2 x3 x4 x5 : Value} {t : TypeId}
theorem sbox6 {fz : Nat × Nat} (k : W.heap[Z]? = some (.cells #[x0, x1, x2, x3, x4, x5] t fz)) : W.cell? ⟨Z, 0, none⟩ = some x0 ∧ W.cell? ⟨Z, 1, none⟩ = some x1 ∧ W.cell? ⟨Z, 2, none⟩ = some x2 ∧ W.cell? ⟨Z, 3, none⟩ = some x3 ∧ W.cell? ⟨Z, 4, none⟩ = some x4 ∧ W.cell? ⟨Z, 5, none⟩ = some x5 :=
 ⟨by rw [cell_of_row _ _ _ _ _ _ k]; rfl, by rw [cell_of_row _ _ _ _ _ _ k]; rfl, by rw [cell_of_row _ _ _ _ _ _ k]; rfl, by rw [cell_of_row _ _ _ _ _ _ k]; rfl, by rw [cell_of_row _ _ _ _ _ _ k]; rfl, by rw [cell_of_row _ _ _ _ _ _ k]; rfl⟩
theorem sfroz6 (k : W.heap[Z]? = some (.cells #[x0, x1, x2, x3, x4, x5] t (0, 0))) (i : Nat) : W.frozen? ⟨Z, i, none⟩ = false := by simp [World.frozen?, k]
end
section
variable {W : World} {Z : Nat} {x0 x1 x2 x3 x4 x5 : Value} {t : TypeId}
theorem put6c (k : W.heap[Z]? = some (.cells #[x0, x1, x2, x3, x4, x5] t)) (y1 y2 y3 : Value) : (((W.setCell ⟨Z, 1, none⟩ y1).setCell ⟨Z, 2, none⟩ y2).setCell ⟨Z, 3, none⟩ y3).heap[Z]? = some (.cells #[x0, y1, y2, y3, x4, x5] t) ∧ Mod (fun g => g = Z) W (((W.setCell ⟨Z, 1, none⟩ y1).setCell ⟨Z, 2, none⟩ y2).setCell ⟨Z, 3, none⟩ y3) :=
 ⟨heap_setCell_same _ _ _ _ _ _ (heap_setCell_same _ _ _ _ _ _ (heap_setCell_same _ _ _ _ _ _ k)), (((Mod.refl (fun g => g = Z) W).setCell (p := ⟨Z, 1, none⟩) (.inl rfl) _).setCell (p := ⟨Z, 2, none⟩) (.inl rfl) _).setCell (p := ⟨Z, 3, none⟩) (.inl rfl) _⟩
theorem put6s (k : W.heap[Z]? = some (.cells #[x0, x1, x2, x3, x4, x5] t)) (y4 y5 : Value) : ((W.setCell ⟨Z, 4, none⟩ y4).setCell ⟨Z, 5, none⟩ y5).heap[Z]? = some (.cells #[x0, x1, x2, x3, y4, y5] t) ∧ Mod (fun g => g = Z) W ((W.setCell ⟨Z, 4, none⟩ y4).setCell ⟨Z, 5, none⟩ y5) :=
 ⟨heap_setCell_same _ _ _ _ _ _ (heap_setCell_same _ _ _ _ _ _ k), ((Mod.refl (fun g => g = Z) W).setCell (p := ⟨Z, 4, none⟩) (.inl rfl) _).setCell (p := ⟨Z, 5, none⟩) (.inl rfl) _⟩
end
section
variable {W : World} {Z : Nat} {x0 x1 x2 x3 x4 x5 : Value} {t : TypeId}
theorem put6l (k : W.heap[Z]? = some (.cells #[x0, x1, x2, x3, x4, x5] t)) (y : Value) : (W.setCell ⟨Z, 5, none⟩ y).heap[Z]? = some (.cells #[x0, x1, x2, x3, x4, y] t) ∧ Mod (fun g => g = Z) W (W.setCell ⟨Z, 5, none⟩ y) :=
 ⟨heap_setCell_same _ _ _ _ _ _ k, (Mod.refl (fun g => g = Z) W).setCell (p := ⟨Z, 5, none⟩) (.inl rfl) _⟩
end
def Noted (w w' : World) (R : Nat → Prop) (sb : Nat) (x0 x1 x2 x3 x4 vl : Value) (n : Nat) (ts : List Six) (s : Stp) : Prop := ∃ A c t, w'.heap[sb]? = some (.cells #[x0, x1, x2, x3, x4, .slice A (n + 1) c] 31) ∧
 Own w' (fun g => R g ∨ w.heap.size ≤ g) 52 6 (.slice A (n + 1) c) (n + 1) (flat6 (ts ++ [t])) ∧ (∀ g, row (.slice A (n + 1) c) g → row vl g ∨ w.heap.size ≤ g) ∧ StRd w' (fun g => w.heap.size ≤ g ∧ ¬ row (.slice A (n + 1) c) g) t s ∧ Mod (fun g => row vl g ∨ g = sb) w w'
theorem note_any {w : World} {sb nl : Nat} {G R : Nat → Prop} {t : Six} {s : Stp} {x0 x1 x2 x3 x4 vl : Value} {ts : List Six} (hr : StRd w G t s) (hsm : s.c.lits.length ≤ 1000000 ∧ s.c.coefs.length ≤ 1000000 ∧ s.set.length ≤ 1000000)
  (hsb : w.heap[sb]? = some (.cells #[x0, x1, x2, x3, x4, vl] 31)) (ho : Own w R 52 6 vl nl (flat6 ts)) (hn : nl ≤ 900000) :
  Calls Tryz.prog 45 #[.pointer (some ⟨sb, 0, none⟩), t.agg] w fun r w' => (∃ v, r = .returned v) ∧ Noted w w' R sb x0 x1 x2 x3 x4 vl nl ts s := by
 obtain ⟨A, n, d, B, m, e, C, f, rfl, r1, r2⟩ := hr
 obtain ⟨hl, hc⟩ : Rd w G 1 (.slice A n d) n (ints s.c.lits) ∧ Rd w G 1 (.slice B m e) m (ints s.c.coefs) := by
  obtain ⟨A', n', d', B', m', e', h0, h1, h2⟩ := r1.form
  injection h0 with h0
  have q1 := congrArg (·[0]?) h0
  have q2 := congrArg (·[1]?) h0
  simp at q1 q2
  obtain ⟨rfl, rfl, rfl⟩ := q1
  obtain ⟨rfl, rfl, rfl⟩ := q2
  exact ⟨h1, h2⟩
 obtain ⟨Z, hZ⟩ : ∃ Z, w.heap.size = Z := ⟨_, rfl⟩
 obtain ⟨X, hX, bX, kX, sX⟩ := alloc_step w (.cells #[.int .u8 s.kind, .slice A n d, .slice B m e, .int .i64 s.c.bound, .slice C s.set.length f, .slice none 0 0] 52)
 have HX := hid hX
 have BX := hid bX
 rw [hZ] at kX sX
 have KX := hid kX
 have HL := hid (hl.below bX)
 have HC := hid (hc.below bX)
 have HS := hid ((r2.mono (G := fun g => g < Z) fun g hg _ => (by omega : g < Z)).below bX)
 have HSB := hid hsb
 have HOL := hid ho
 have HrS := hid (show ¬ row vl sb from fun h => by obtain ⟨_, cur, h1⟩ := ho.row h; rw [hsb] at h1; simp only [Option.some.injEq, Obj.cells.injEq] at h1; exact absurd h1.2.1 (by decide))
 have HrZ := hid (show ¬ row vl Z from fun h => by obtain ⟨_, cur, h1⟩ := ho.row h; have := lt_of_block h1; omega)
 have hZX := hid (show Z < X.heap.size by omega)
 obtain ⟨z0, z1, z2, z3, z4, z5⟩ := sbox6 kX
 have f1 := sfroz6 kX 1
 have f2 := sfroz6 kX 2
 have f3 := sfroz6 kX 3
 have Hn := hid (show n ≤ 1000000 ∧ m ≤ 1000000 ∧ s.set.length ≤ 1000000 from by have h1 := hl.1; have h2 := hc.1; simp [ints_length] at h1 h2; omega)
 have Hlen := hid (show s.c.lits.length = n ∧ s.c.coefs.length = m from by have h1 := hl.1; have h2 := hc.1; simp [ints_length] at h1 h2; exact ⟨h1, h2⟩)
 have HB := hid r1.bnd
 clear hX bX kX hl hc r1 r2 hsb ho hsm
 unfold Six.agg
 go_enter Tryz.func45, Tryz.ntmps45
 go_wp2_with fail
 rw [HX.o]
 try rw [hZ]
 refine wp_region_upto (S := fun w' => w'.cell? ⟨Z, 1, none⟩ = some (.slice A n d) ∧ w'.cell? ⟨Z, 2, none⟩ = some (.slice B m e) ∧ w'.cell? ⟨Z, 3, none⟩ = some (.int .i64 s.c.bound)) 13 (by kernel_rfl) ⟨z1, z2, z3⟩ (fun hHeld => ?_)
 obtain ⟨WD, hWD⟩ : ∃ Y, X.drew = Y := ⟨_, rfl⟩
 have bD : Below X.heap.size X X.drew := Bl.drew (Below.refl _ _)
 have KX := hid (keep_blk KX.o bD)
 have HL := hid (HL.o.below bD)
 have HC := hid (HC.o.below bD)
 have HS := hid (HS.o.below bD)
 have BX := hid (BX.o.trans (bD.mono BX.o.size))
 rw [hWD] at hHeld KX HL HC HS BX ⊢
 clear hWD bD
 refine tu 0 ?_
 refine tu 4 ?_
 refine tu 8 ?_
 refine tu 1 ?_
 refine tu 5 ?_
 refine tu 9 ?_
 refine tv [13,12] 2 ?_
 refine tv [13,12] 6 ?_
 refine tv [13,12] 10 ?_
 refine r1 3 fun K hK => ?_
 have hz := lt_of_block KX.o
 go_simp
 refine (clone_at HL.o (by have := Hn.o; omega)).mono ?_
 rintro r W3 ⟨⟨Au, cu, rfl, hou⟩, b1⟩
 have KX := hid (keep_blk KX.o b1)
 refine hK.out _ _ ⟨(sbox6 KX.o).2.1, (sbox6 KX.o).2.2.1, (sbox6 KX.o).2.2.2.1⟩ (fun hHeld => ?_)
 clear hK K
 have HS := hid (HS.o.below b1)
 have BX := hid (BX.o.trans (b1.mono BX.o.size))
 have HC := hid (HC.o.below b1)
 have HU := hid ((hou.mono (G := fun g => Z < g) fun g _ _ (h : WD.heap.size ≤ g) => (by omega : Z < g)).rd)
 have sU := b1.size
 clear hou
 clear b1
 refine r1 7 fun K hK => ?_
 have hz := lt_of_block KX.o
 go_simp
 refine (clone_at HC.o (by have := Hn.o; omega)).mono ?_
 rintro r W7 ⟨⟨Av, cv, rfl, hov⟩, b1⟩
 have KX := hid (keep_blk KX.o b1)
 refine hK.out _ _ ⟨(sbox6 KX.o).2.1, (sbox6 KX.o).2.2.1, (sbox6 KX.o).2.2.2.1⟩ (fun hHeld => ?_)
 clear hK K
 have HS := hid (HS.o.below b1)
 have BX := hid (BX.o.trans (b1.mono BX.o.size))
 have HU := hid (HU.o.below b1)
 have HV := hid ((hov.mono (G := fun g => Z < g) fun g _ _ (h : W3.heap.size ≤ g) => (by omega : Z < g)).rd)
 clear hov
 clear b1
 refine tu 11 ?_
 refine tu 12 ?_
 refine l1 13 fun K hK => ?_
 have f1 := sfroz6 KX.o 1
 have f2 := sfroz6 KX.o 2
 have f3 := sfroz6 KX.o 3
 obtain ⟨z0, z1, z2, z3, z4, z5⟩ := sbox6 KX.o
 go_simp
 refine hK.out _ _ ?_
 clear hK K
 refine wpAnyU_done (by kernel_rfl) ?_ _
 have s0 := BX.o.size
 obtain ⟨kY, mY⟩ := put6c KX.o (.slice Au n cu) (.slice Av m cv) (.int .i64 s.c.bound)
 obtain ⟨Y1, hY⟩ : ∃ Y, ((W7.setCell ⟨Z, 1, none⟩ (.slice Au n cu)).setCell ⟨Z, 2, none⟩ (.slice Av m cv)).setCell ⟨Z, 3, none⟩ (.int .i64 s.c.bound) = Y := ⟨_, rfl⟩
 rw [hY] at kY mY ⊢
 clear hY
 have HU := hid (HU.o.mod mY fun g hg hF hz => by have hF : Z < g := hF; omega)
 have HV := hid (HV.o.mod mY fun g hg hF hz => by have hF : Z < g := hF; omega)
 have HS := hid (HS.o.mod mY fun g hg hF hz => by have hF : g < Z := hF; omega)
 have sY := mY.size
 have BX := hid (below_mod BX.o (by omega) mY fun g hg => by omega)
 have KX := hid kY
 clear kY mY HL HC
 go_wp2_with fail
 obtain ⟨z0, z1, z2, z3, z4, z5⟩ := sbox6 KX.o
 refine wp_region_upto (S := fun w' => w'.cell? ⟨Z, 4, none⟩ = some (.slice C s.set.length f) ∧ w'.cell? ⟨Z, 5, none⟩ = some (.slice none 0 0)) 7 (by kernel_rfl) ⟨z4, z5⟩ (fun hHeld => ?_)
 obtain ⟨Y2, hWD⟩ : ∃ Y, Y1.drew = Y := ⟨_, rfl⟩
 have bD : Below Y1.heap.size Y1 Y1.drew := Bl.drew (Below.refl _ _)
 have KX := hid (keep_blk KX.o bD)
 have HU := hid (HU.o.below bD)
 have HV := hid (HV.o.below bD)
 have HS := hid (HS.o.below bD)
 have BX := hid (BX.o.trans (bD.mono BX.o.size))
 rw [hWD] at hHeld KX HU HV HS BX ⊢
 clear hWD bD z0 z1 z2 z3 z4 z5
 refine tu 0 ?_
 refine tu 3 ?_
 refine tv [7,2] 1 ?_
 refine tv [7,5] 4 ?_
 refine r1 2 fun K hK => ?_
 have hz := lt_of_block KX.o
 go_simp
 refine (clone_at HS.o (by have := Hn.o; omega)).mono ?_
 rintro r V2 ⟨⟨As, cs, rfl, hos⟩, b1⟩
 have KX := hid (keep_blk KX.o b1)
 refine hK.out _ _ ⟨(sbox6 KX.o).2.2.2.2.1, (sbox6 KX.o).2.2.2.2.2⟩ (fun hHeld => ?_)
 clear hK K
 have BX := hid (BX.o.trans (b1.mono BX.o.size))
 have HU := hid (HU.o.below b1)
 have HV := hid (HV.o.below b1)
 have HT := hid ((hos.mono (G := fun g => Z < g) fun g _ _ (h : Y2.heap.size ≤ g) => (by omega : Z < g)).rd)
 clear hos b1
 refine tu 6 ?_
 refine r1 5 fun K hK => ?_
 go_simp
 refine clone_ops.mono ?_
 rintro r V5 ⟨rfl, b1⟩
 have KX := hid (keep_blk KX.o b1)
 refine hK.out _ _ ⟨(sbox6 KX.o).2.2.2.2.1, (sbox6 KX.o).2.2.2.2.2⟩ (fun hHeld => ?_)
 clear hK K
 have BX := hid (BX.o.trans (b1.mono BX.o.size))
 have HU := hid (HU.o.below b1)
 have HV := hid (HV.o.below b1)
 have HT := hid (HT.o.below b1)
 clear b1
 refine l1 7 fun K hK => ?_
 have f4 := sfroz6 KX.o 4
 have f5 := sfroz6 KX.o 5
 obtain ⟨z0, z1, z2, z3, z4, z5⟩ := sbox6 KX.o
 go_simp
 refine hK.out _ _ ?_
 clear hK K
 refine l1 8 fun K hK => ?_
 go_simp
 refine hK.out _ _ ?_
 clear hK K
 refine l1 9 fun K hK => ?_
 go_simp
 refine hK.out _ _ ?_
 clear hK K
 refine wpAnyU_done (by kernel_rfl) ?_ _
 have s0 := BX.o.size
 obtain ⟨kY, mY⟩ := put6s KX.o (.slice As s.set.length cs) (.slice none 0 0)
 obtain ⟨Y3, hY⟩ : ∃ Y, (V5.setCell ⟨Z, 4, none⟩ (.slice As s.set.length cs)).setCell ⟨Z, 5, none⟩ (.slice none 0 0) = Y := ⟨_, rfl⟩
 rw [hY] at kY mY ⊢
 clear hY
 have HU := hid (HU.o.mod mY fun g hg hF hz => by have hF : Z < g := hF; omega)
 have HV := hid (HV.o.mod mY fun g hg hF hz => by have hF : Z < g := hF; omega)
 have HT := hid (HT.o.mod mY fun g hg hF hz => by have hF : Z < g := hF; omega)
 have sY := mY.size
 have BX := hid (below_mod BX.o (by omega) mY fun g hg => by omega)
 have KX := hid kY
 clear kY mY HS
 go_wp2_with fail
 have KS := hid (keep_blk HSB.o BX.o)
 have HO := hid (HOL.o.below BX.o)
 obtain ⟨z0, z1, z2, z3, z4, z5⟩ := sbox6 KX.o
 have q5 := (sbox6 KS.o).2.2.2.2.2
 refine wp_region_upto (S := fun w' => w'.cell? ⟨sb, 5, none⟩ = some vl ∧ w'.cell? ⟨Z, 0, none⟩ = some (.int .u8 s.kind) ∧ w'.cell? ⟨Z, 1, none⟩ = some (.slice Au n cu) ∧ w'.cell? ⟨Z, 2, none⟩ = some (.slice Av m cv) ∧ w'.cell? ⟨Z, 3, none⟩ = some (.int .i64 s.c.bound) ∧ w'.cell? ⟨Z, 4, none⟩ = some (.slice As s.set.length cs) ∧ w'.cell? ⟨Z, 5, none⟩ = some (.slice none 0 0)) 10 (by kernel_rfl) ⟨q5, z0, z1, z2, z3, z4, z5⟩ (fun hHeld => ?_)
 obtain ⟨Y4, hWD⟩ : ∃ Y, Y3.drew = Y := ⟨_, rfl⟩
 have bD : Below Y3.heap.size Y3 Y3.drew := Bl.drew (Below.refl _ _)
 have KX := hid (keep_blk KX.o bD)
 have KS := hid (keep_blk KS.o bD)
 have HO := hid (HO.o.below bD)
 have HU := hid (HU.o.below bD)
 have HV := hid (HV.o.below bD)
 have HT := hid (HT.o.below bD)
 have BX := hid (BX.o.trans (bD.mono BX.o.size))
 rw [hWD] at hHeld KX KS HU HV HT HO BX ⊢
 clear hWD bD z0 z1 z2 z3 z4 z5 q5
 refine tu 0 ?_
 refine tu 1 ?_
 refine tv [10,7,6] 5 ?_
 refine tu 2 ?_
 refine tu 3 ?_
 refine tv [10,7] 4 ?_
 refine r1 6 fun K hK => ?_
 go_simp
 obtain ⟨Y5, hY, bY, kY, sY⟩ := alloc_step Y4 (.cells #[.int .u8 s.kind, .slice Au n cu, .slice Av m cv, .int .i64 s.c.bound, .slice As s.set.length cs, .slice none 0 0] 52)
 rw [hY]
 have KX := hid (keep_blk KX.o bY)
 have KS := hid (keep_blk KS.o bY)
 refine hK.out _ _ ⟨(sbox6 KS.o).2.2.2.2.2, sbox6 KX.o⟩ (fun hHeld => ?_)
 clear hK K
 have HO := hid (HO.o.below bY)
 have HU := hid (HU.o.below bY)
 have HV := hid (HV.o.below bY)
 have HT := hid (HT.o.below bY)
 have BX := hid (BX.o.trans (bY.mono BX.o.size))
 have HR := hid (rd_lit6 (t := ⟨.int .u8 s.kind, .slice Au n cu, .slice Av m cv, .int .i64 s.c.bound, .slice As s.set.length cs, .slice none 0 0⟩) kY)
 clear hY bY kY
 refine r1 7 fun K hK => ?_
 refine step_append_st rfl _ _ rfl HO.o HR.o rfl rfl (by simp [Six.cells, Value.oneCell']) (by omega) ?_
 intro A3 c3 W6 ho3 hm3 hr3
 have hvs := HrS.o
 have hvz := HrZ.o
 have KX := hid ((hm3.block Z (lt_of_block KX.o) hvz).trans KX.o)
 have KS := hid ((hm3.block sb (lt_of_block KS.o) hvs).trans KS.o)
 refine hK.out _ _ ⟨(sbox6 KS.o).2.2.2.2.2, sbox6 KX.o⟩ (fun hHeld => ?_)
 clear hK K
 have hBs := BX.o.size
 have H3 := hid ho3
 have M3 := hid hm3
 have R3 := hid hr3
 clear ho3 hm3 hr3
 refine tu 8 ?_
 refine tu 9 ?_
 refine l1 10 fun K hK => ?_
 have f5 := sfroz6 KS.o 5
 obtain ⟨z0, z1, z2, z3, z4, z5⟩ := sbox6 KS.o
 go_simp
 refine hK.out _ _ ?_
 clear hK K
 refine wpAnyU_done (by kernel_rfl) ?_ _
 obtain ⟨kF, mF⟩ := put6l KS.o (.slice A3 (nl + 1) c3)
 obtain ⟨WF, hY⟩ : ∃ Y, W6.setCell ⟨sb, 5, none⟩ (.slice A3 (nl + 1) c3) = Y := ⟨_, rfl⟩
 rw [hY] at kF mF ⊢
 clear hY
 have HkF := hid kF
 have HmF := hid mF
 clear kF mF
 try go_wp2_with fail
 go_end0
 have hvl : ∀ g, row vl g → g < Z ∧ g ≠ sb := fun g hg => by
  obtain ⟨_, cur, h1⟩ := HOL.o.row hg
  refine ⟨by have := lt_of_block h1; omega, fun e => ?_⟩
  rw [e] at hg
  exact HrS.o hg
 have hsz : sb < Z := by have := lt_of_block HSB.o; omega
 have up : ∀ {v : Value} {q : Nat} {xs : List Value}, Rd Y5 (fun g => Z < g) 1 v q xs → Rd WF (fun g => w.heap.size ≤ g ∧ ¬ row (.slice A3 (nl + 1) c3) g) 1 v q xs := fun h => by
  refine (((h.mono (G := fun g => Z < g ∧ g < Y5.heap.size) fun g hg hz => ⟨hz, hg⟩).mod M3.o fun g _ hz hr => by have := (hvl g hr).1; omega).mod HmF.o fun g _ hz e => by omega).mono fun g _ hz => ⟨by omega, fun hr => ?_⟩
  rcases R3.o g hr with h1 | h1
  ·have := (hvl g h1).1; omega
  ·omega
 refine ⟨⟨_, rfl⟩, A3, c3, ⟨.int .u8 s.kind, .slice Au n cu, .slice Av m cv, .int .i64 s.c.bound, .slice As s.set.length cs, .slice none 0 0⟩, HkF.o, ?_, fun g hr => (R3.o g hr).imp id fun h => by omega, ⟨Au, n, cu, Av, m, cv, As, cs, rfl, ⟨⟨Au, n, cu, Av, m, cv, rfl, up HU.o, up HV.o⟩, HB.o⟩, up HT.o⟩, ?_⟩
 ·rw [flat6_append, flat6_one]
  refine (H3.o.mod HmF.o fun g _ hr _ e => ?_).mono fun g _ _ h => h.imp id fun h => by omega
  rcases R3.o g hr with h1 | h1
  ·exact (hvl g h1).2 e
  ·omega
 ·have g1 : Mod (fun g => row vl g ∨ g = sb) w Y5 := Mod.of_below BX.o
  have g2 : Mod (fun g => row vl g ∨ g = sb) Y5 W6 := M3.o.mono fun g _ h => Or.inl h
  have g3 : Mod (fun g => row vl g ∨ g = sb) W6 WF := HmF.o.mono fun g _ h => Or.inr h
  exact (g1.trans (g2.mono fun g _ h => Or.inl h)).trans (g3.mono fun g _ h => Or.inl h)
end
section
open Go.RowKit
theorem sliteral_any {w : World} {sb vars : Nat} {l : Int} (c0 : w.cell? ⟨sb, 0, none⟩ = some (.int .i64 vars)) (hv : vars ≤ 65536) :
  Calls Tryz.prog 36 #[.pointer (some ⟨sb, 0, none⟩), .int .i64 l] w fun r w' => r = .returned (.bool (decide (l ≠ 0) && decide (l.natAbs ≤ vars))) ∧ Below w.heap.size w w' := by
 have hw : IntKind.i64.wrap (-(vars : Int)) = -(vars : Int) := iw' (by omega) (by omega)
 by_cases h0 : l = 0
 ·subst h0
  go_enter Tryz.func36, Tryz.ntmps36
  go_wp2_with fail
  go_ret
  exact ⟨rfl, Below.refl _ _⟩
 ·by_cases h1 : -(vars : Int) ≤ l
  ·by_cases h2 : l ≤ vars
   ·rw [decide_eq_true h0, decide_eq_true (show l.natAbs ≤ vars by omega)]
    go_enter Tryz.func36, Tryz.ntmps36
    go_wp2_with fail
    go_ret
    exact ⟨by simp [h0], Below.refl _ _⟩
   ·rw [decide_eq_true h0, decide_eq_false (show ¬ l.natAbs ≤ vars by omega)]
    go_enter Tryz.func36, Tryz.ntmps36
    go_wp2_with fail
    go_ret
    exact ⟨rfl, Below.refl _ _⟩
  ·rw [decide_eq_true h0, decide_eq_false (show ¬ l.natAbs ≤ vars by omega)]
   go_enter Tryz.func36, Tryz.ntmps36
   go_wp2_with fail
   go_ret
   exact ⟨rfl, Below.refl _ _⟩
end
section
open Go.RowKit Go.Maps Go.ChangeMaps
def PhaseAt (w : World) (pm : Nat) : Prop := ∃ es clock, w.heap[pm]? = some (.map es clock) ∧ ∀ x ∈ es.toList, ∃ v z : Int, x.key = .int .i64 v ∧ x.val = .int .i64 z ∧ (z = v ∨ z = -v)
section
variable {w w' : World} {pm : Nat}
theorem PhaseAt.keep (h : PhaseAt w pm) (hk : w'.heap[pm]? = w.heap[pm]?) : PhaseAt w' pm := by
 obtain ⟨es, clock, h1, h2⟩ := h
 exact ⟨es, clock, hk.trans h1, h2⟩
theorem PhaseAt.lt (h : PhaseAt w pm) : pm < w.heap.size := by
 obtain ⟨es, clock, h1, h2⟩ := h
 exact lt_of_block h1
theorem phase_get (h : PhaseAt w pm) (v : Int) : ∃ z : Int, (Instr.lookup 28 (.map (some pm)) (.int .i64 v) false).run Tryz.prog w = .ok (.int .i64 z) w ∧ (z = 0 ∨ z = v ∨ z = -v) := by
 obtain ⟨es, clock, h1, h2⟩ := h
 have hl : ∀ x ∈ es.toList, ∃ n, x.key = .int .i64 n := fun x hx => by obtain ⟨v, z, e, _⟩ := h2 x hx; exact ⟨v, e⟩
 have hr := lookup_i64 Tryz.underlying28 Tryz.underlying3 v (z := .int .i64 0) (by kernel_rfl) h1 hl false
 cases hj : (es.toList.findIdx? (fun x => keyNum x == v)).bind fun j => es.toList[j]? with
 | none =>
  rw [hj] at hr
  exact ⟨0, hr, .inl rfl⟩
 | some x =>
  rw [hj] at hr
  obtain ⟨j, e1, e2⟩ := Option.bind_eq_some_iff.1 hj
  obtain ⟨hlt, hkey, _⟩ := List.findIdx?_eq_some_iff_getElem.1 e1
  have hx : es.toList[j] = x := by rw [List.getElem?_eq_getElem hlt] at e2; exact Option.some.inj e2
  obtain ⟨u, z, k1, k2, k3⟩ := h2 x (hx ▸ List.getElem_mem hlt)
  have hu : u = v := by
   rw [hx] at hkey
   simp [keyNum, k1] at hkey
   exact hkey
  subst hu
  refine ⟨z, ?_, .inr k3⟩
  rw [hr]
  simp [k2]
theorem mod_setBlock {w : World} {pm : Nat} {es : Array MapEntry} {clock : Nat} (h : w.heap[pm]? = some (.map es clock)) (o : Obj) : Mod (fun g => g = pm) w (setBlock w pm o) := ⟨rfl, rfl, rfl, by simp [setBlock], fun k _ hF => heap_setBlock_other h o hF⟩
theorem phase_put (h : PhaseAt w pm) {v z : Int} (hz : z = v ∨ z = -v) : ∃ w', (Instr.mapUpdate 28 (.map (some pm)) (.int .i64 v) (.int .i64 z)).run Tryz.prog w = .ok () w' ∧ PhaseAt w' pm ∧ Mod (fun g => g = pm) w w' := by
 obtain ⟨es, clock, h1, h2⟩ := h
 have hl : ∀ x ∈ es.toList, ∃ n, x.key = .int .i64 n := fun x hx => by obtain ⟨v, z, e, _⟩ := h2 x hx; exact ⟨v, e⟩
 cases hj : es.toList.findIdx? (fun x => keyNum x == v) with
 | none =>
  refine ⟨_, update_i64_new Tryz.underlying28 Tryz.underlying3 v h1 hl hj _, ⟨_, _, heap_setBlock_same h1 _, fun x hx => ?_⟩, mod_setBlock h1 _⟩
  simp only [Array.toList_push, List.mem_append, List.mem_singleton] at hx
  rcases hx with hx | rfl
  ·exact h2 x hx
  ·exact ⟨v, z, rfl, rfl, hz⟩
 | some j =>
  refine ⟨_, update_i64_old Tryz.underlying28 Tryz.underlying3 v h1 hl hj _, ⟨_, _, heap_setBlock_same h1 _, fun x hx => ?_⟩, mod_setBlock h1 _⟩
  rw [Array.toList_modify] at hx
  obtain ⟨i, hi, e⟩ := List.getElem_of_mem hx
  rw [List.getElem_modify] at e
  split at e
  ·rw [← e]
   exact ⟨v, z, rfl, rfl, hz⟩
  ·rw [← e]
   exact h2 _ (List.getElem_mem _)
end
end
end Go.Proofs.YtcjmpobccbnpkaaGreat
