/-
  Chapter 32: what is rejected: a solver that does not exist; limits and literals out of range.
-/
import Derived.Test.YtcjmpobccbnpkaaGreatSgI
namespace Go.Proofs.YtcjmpobccbnpkaaGreat
open Go.RowKit

/-- A value that is no solver. -/
def Gone (w : World) (v : Value) : Prop := ∀ W, Below w.heap.size w W → Calls Tryz.prog 33 #[v] W fun r w' => r = .returned (.bool true) ∧ W = w'
theorem Gone.nil (w : World) : Gone w (.pointer none) := fun _ _ => snone_nil
theorem Gone.zero {w : World} {sb : Nat} (h : sb < w.heap.size) (c1 : w.cell? ⟨sb, 1, none⟩ = some (.pointer none)) : Gone w (.pointer (some ⟨sb, 0, none⟩)) := fun _ hW => snone_zero ((World.cell?_of_block (hW.block sb h)).trans c1)
theorem Gone.below {w w' : World} {v : Value} (h : Gone w v) (b : Below w.heap.size w w') : Gone w' v := fun W hW => h W (b.trans (hW.mono b.size))
set_option maxRecDepth 100000 in
theorem ssolve_gone {w : World} {p : Option Addr} (h : Gone w (.pointer p)) :
    Calls Tryz.prog 10 #[.pointer p, .slice none 0 0, .int .i64 1, .nilFunc] w fun r w' => r = .returned (.tuple #[.agg #[.bool false, .slice none 0 0, .slice none 0 0], .int .i64 1]) ∧ Below w.heap.size w w' := by
  have H := hid h
  obtain ⟨q0, hq0⟩ : ∃ q, w.heap.size = q := ⟨_, rfl⟩
  obtain ⟨X0, hX0, bX0, kX0, sX0⟩ := alloc_step w (.cells #[.pointer p] 24)
  obtain ⟨X1, hX1, bX1, kX1, sX1⟩ := alloc_step X0 (.cells #[.bool false, .slice none 0 0, .slice none 0 0] 35)
  have HX0 := hid hX0
  have HX1 := hid hX1
  have B1 := hid (bX0.trans (bX1.mono bX0.size))
  rw [hq0] at kX0 sX0
  rw [sX0] at kX1 sX1
  have kX0' := keep_blk kX0 bX1
  have b0 : X1.cell? ⟨q0, 0, none⟩ = some (.pointer p) := by rw [cell_of_row _ _ _ _ _ _ kX0']; rfl
  have K1 := hid kX1
  clear h bX0 bX1 kX0 kX0' kX1 hX0 hX1
  go_enter Tryz.func10, Tryz.ntmps10
  go_wp2_with fail
  rw [HX0.out]
  try rw [hq0]
  rw [HX1.out]
  go_wp2_with fail
  refine (H.out X1 B1.out).mono ?_
  rintro r w2 ⟨rfl, rfl⟩
  obtain ⟨t0, t1, t2⟩ := box3 K1.out
  obtain ⟨f0, f1, f2⟩ := froz3 K1.out
  go_wp2_with fail
  obtain ⟨u0, u1, u2, m9⟩ := set3 t0 t1 t2 (.bool false) (.slice none 0 0) (.slice none 0 0)
  refine bodyPost_ret (v := .tuple #[.agg #[.bool false, .slice none 0 0, .slice none 0 0], .int .i64 1]) (by simp [results, Tryz.f10, go_sem, u0, u1, u2]) rfl ⟨rfl, below_mod B1.out B1.out.size m9 fun g hg => by rw [hg]; omega⟩
set_option maxRecDepth 100000 in
/-- A limit or a literal out of range. -/
theorem ssolve_bad {w : World} {F Ga : Nat → Prop} {sb tb eb ob pm na ca : Nat} {most : Int} {Aa : Option Addr} {asm : List Int} {S : Sol} (h : SolP w F sb tb eb ob pm S) (hv : S.vars ≤ 65536) (hasm : Rd w Ga 1 (.slice Aa na ca) na (ints asm))
    (hbad : most < 0 ∨ 65536 < most ∨ ((0 ≤ most ∧ most ≤ 65536) ∧ (asm.any fun l => !(decide (l ≠ 0) && decide (l.natAbs ≤ S.vars))) = true)) :
    Calls Tryz.prog 10 #[.pointer (some ⟨sb, 0, none⟩), .slice Aa na ca, .int .i64 most, .nilFunc] w fun r w' => r = .returned (.tuple #[.agg #[.bool false, .slice none 0 0, .slice none 0 0], .int .i64 2]) ∧ Below w.heap.size w w' := by
  have Hbad := hid hbad
  obtain ⟨q0, hq0⟩ : ∃ q, w.heap.size = q := ⟨_, rfl⟩
  obtain ⟨X0, hX0, bX0, kX0, sX0⟩ := alloc_step w (.cells #[.pointer (some ⟨sb, 0, none⟩)] 24)
  obtain ⟨X1, hX1, bX1, kX1, sX1⟩ := alloc_step X0 (.cells #[.bool false, .slice none 0 0, .slice none 0 0] 35)
  have HX0 := hid hX0
  have HX1 := hid hX1
  have B1 := hid (bX0.trans (bX1.mono bX0.size))
  rw [hq0] at kX0 sX0
  rw [sX0] at kX1 sX1
  have kX0' := keep_blk kX0 bX1
  have b0 : X1.cell? ⟨q0, 0, none⟩ = some (.pointer (some ⟨sb, 0, none⟩)) := by rw [cell_of_row _ _ _ _ _ _ kX0']; rfl
  have K0 := hid kX0'
  have K1 := hid kX1
  have H := hid (h.restrict.below B1.out)
  have Hasm := hid ((hasm.mono (G := fun g => g < w.heap.size) fun g hg _ => hg).below B1.out)
  obtain ⟨z0, z1, z2, z3, z4⟩ := H.out.six
  have hsx := H.out.blocks.2.1
  have Hhv := hid hv
  clear h hasm hv hbad bX0 bX1 kX0 kX0' kX1 hX0 hX1
  go_enter Tryz.func10, Tryz.ntmps10
  go_wp2_with fail
  rw [HX0.out]
  try rw [hq0]
  rw [HX1.out]
  go_wp2_with fail
  refine (snone_no z1).mono ?_
  rintro r w2 ⟨rfl, rfl⟩
  obtain ⟨t0, t1, t2⟩ := box3 K1.out
  obtain ⟨f0, f1, f2⟩ := froz3 K1.out
  rcases Hbad.out with hm | hm | ⟨⟨hm1, hm2⟩, hany⟩
  · have hm1 : most < 0 := hm
    go_wp2_with fail
    obtain ⟨u0, u1, u2, m9⟩ := set3 t0 t1 t2 (.bool false) (.slice none 0 0) (.slice none 0 0)
    refine bodyPost_ret (v := .tuple #[.agg #[.bool false, .slice none 0 0, .slice none 0 0], .int .i64 2]) (by simp [results, Tryz.f10, go_sem, u0, u1, u2]) rfl ⟨rfl, below_mod B1.out B1.out.size m9 fun g hg => by rw [hg]; omega⟩
  · have hm1 : ¬ most < 0 := by omega
    have hm2 : most > 65536 := hm
    go_wp2_with fail
    obtain ⟨u0, u1, u2, m9⟩ := set3 t0 t1 t2 (.bool false) (.slice none 0 0) (.slice none 0 0)
    refine bodyPost_ret (v := .tuple #[.agg #[.bool false, .slice none 0 0, .slice none 0 0], .int .i64 2]) (by simp [results, Tryz.f10, go_sem, u0, u1, u2]) rfl ⟨rfl, below_mod B1.out B1.out.size m9 fun g hg => by rw [hg]; omega⟩
  · have hm3 : ¬ most < 0 := by omega
    have hm4 : ¬ most > 65536 := by omega
    have Hany := hid hany
    clear hm1 hm2 hany
    go_wp2_with fail
    refine (containsfunc_any Hasm.out (f := 35) (first := #[]) (captured := #[.pointer (some ⟨q0, 0, none⟩)]) (p := fun l => !(decide (l ≠ 0) && decide (l.natAbs ≤ S.vars))) (enters_of Tryz.func35 (by kernel_rfl) rfl) fun W x hW _ => ?_).mono ?_
    · exact sfit2_any (w := W) (zb := q0) ((World.cell?_of_block (hW.block q0 (lt_of_block K0.out))).trans b0) ((World.cell?_of_block (hW.block sb hsx)).trans z0) Hhv.out
    rintro r w3 ⟨rfl, b3⟩
    rw [Hany.out]
    have K1 := hid (keep_blk K1.out b3)
    have B1 := hid (B1.out.trans (b3.mono B1.out.size))
    obtain ⟨t0, t1, t2⟩ := box3 K1.out
    obtain ⟨f0, f1, f2⟩ := froz3 K1.out
    clear b3
    go_wp2_with fail
    obtain ⟨u0, u1, u2, m9⟩ := set3 t0 t1 t2 (.bool false) (.slice none 0 0) (.slice none 0 0)
    refine bodyPost_ret (v := .tuple #[.agg #[.bool false, .slice none 0 0, .slice none 0 0], .int .i64 2]) (by simp [results, Tryz.f10, go_sem, u0, u1, u2]) rfl ⟨rfl, below_mod B1.out B1.out.size m9 fun g hg => by rw [hg]; omega⟩
set_option maxRecDepth 100000 in
theorem sadd_gone {w : World} {p : Option Addr} {A1 A2 : Option Addr} {n1 c1 n2 c2 : Nat} {b : Int} (h : Gone w (.pointer p)) :
    Calls Tryz.prog 11 #[.pointer p, .agg #[.slice A1 n1 c1, .slice A2 n2 c2, .int .i64 b]] w fun r w' => r = .returned (.int .i64 1) ∧ Below w.heap.size w w' := by
  have H := hid h
  obtain ⟨X0, hX0, bX0, kX0, sX0⟩ := alloc_step w (.cells #[.slice A1 n1 c1, .slice A2 n2 c2, .int .i64 b] 41)
  have HX0 := hid hX0
  have B0 := hid bX0
  clear h hX0 bX0 kX0 sX0
  go_enter Tryz.func11, Tryz.ntmps11
  go_wp2_with fail
  rw [HX0.out]
  refine (H.out X0 B0.out).mono ?_
  rintro r w2 ⟨rfl, rfl⟩
  go_wp2_with fail
  go_ret
  exact ⟨rfl, B0.out⟩
set_option maxRecDepth 100000 in
theorem slog_gone {w : World} {p : Option Addr} (h : Gone w (.pointer p)) :
    Calls Tryz.prog 12 #[.pointer p] w fun r w' => r = .returned (.slice none 0 0) ∧ w = w' := by
  have H := hid h
  clear h
  go_enter Tryz.func12, Tryz.ntmps12
  go_wp2_with fail
  refine (H.out w (Below.refl _ _)).mono ?_
  rintro r w2 ⟨rfl, rfl⟩
  go_wp2_with fail
  go_ret
  exact ⟨rfl, rfl⟩
end Go.Proofs.YtcjmpobccbnpkaaGreat
