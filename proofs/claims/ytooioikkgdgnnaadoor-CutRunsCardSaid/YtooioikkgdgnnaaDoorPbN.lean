/-
  Chapter 24: Clause's walk.
-/
import Derived.Test.YtooioikkgdgnnaaDoorPbM
import Derived.Test.YtooioikkgdgnnaaDoorPbJ
import Derived.Deep.OwnRows
namespace Go.Proofs.YtooioikkgdgnnaaDoor
open Go.RowKit Go.Maps

def clauseB (ls : List Int) : Pb × Int := normed (compactL (sortL ls)) (List.replicate (compactL (sortL ls)).length 1) 1

theorem mk_ints (W : World) {n : Nat} (hn : n ≤ 1000000) : (Instr.makeSlice 22 (.int .i64 n) (.int .i64 n)).run Tryd.prog W = .ok (.slice (some ⟨W.heap.size, 0, none⟩) n n) (W.alloc (.cells (madeCells #[.int .i64 0] n) 3)) :=
  run_make_row' (P := Tryd.prog) 22 3 (.int .i64 0) 8 Tryd.underlying22 info_int rfl .i64 .i64 n (by omega) (by omega) W
theorem own_made (w : World) (n : Nat) (hn : n ≤ 1000000) : Own (w.alloc (.cells (madeCells #[.int .i64 0] n) 3)) (fun g => g = w.heap.size) 3 1 (.slice (some ⟨w.heap.size, 0, none⟩) n n) n (ints (List.replicate n 0)) := by
  have e : ints (List.replicate n 0) = List.replicate n (Value.int .i64 0) := by simp [ints]
  rw [e]
  by_cases h0 : n = 0
  · subst h0
    exact ⟨by simp, .inl ⟨_, rfl, rfl⟩⟩
  · exact own_new w _ 3 1 n _ n _ (by simp) (by omega) (Nat.le_refl _) (by unfold maxLen; omega) (by simp [size_madeCells]) (by rw [toList_madeCells_one, Nat.mul_one, List.take_replicate, Nat.min_self]) rfl

/-- i ones, then zeros. -/
def onesUp (k i : Nat) : List Int := List.replicate i 1 ++ List.replicate (k - i) 0
theorem onesUp_set {k i : Nat} (hi : i < k) : (onesUp k i).set i 1 = onesUp k (i + 1) := by
  unfold onesUp
  rw [List.set_append_right _ _ (by simp), List.length_replicate, Nat.sub_self, show k - i = (k - (i + 1)) + 1 by omega, List.replicate_succ, List.set_cons_zero, List.replicate_succ', List.append_assoc]
  rfl
theorem onesUp_all (k : Nat) : onesUp k k = List.replicate k 1 := by simp [onesUp]
theorem onesUp_none (k : Nat) : onesUp k 0 = List.replicate k 0 := by simp [onesUp]

set_option maxRecDepth 100000 in
set_option maxHeartbeats 1000000 in
theorem clause_any {w : World} {F : Nat → Prop} {A : Option Addr} {n cA : Nat} {ls : List Int} (hl : Rd w F 1 (.slice A n cA) n (ints ls)) (hi : ∀ x ∈ ls, I64 x) (hn : n ≤ 1000000) (hcl : (compactL (sortL ls)).length ≤ n) (hcm : ∀ x ∈ compactL (sortL ls), x ∈ ls) :
    Calls Tryd.prog 52 #[.slice A n cA] w fun r w' => (∃ pv, r = .returned (.tuple #[pv, .int .i64 (clauseB ls).2]) ∧ PbRd w' (fun g => w.heap.size ≤ g) pv (clauseB ls).1) ∧ Below w.heap.size w w' := by
  go_enter Tryd.func52, Tryd.ntmps52
  go_wp2_with fail
  obtain ⟨W0, hW0⟩ : ∃ W, w.alloc (.cells #[.slice none 0 0, .slice none 0 0, .int .i64 0] 24) = W := ⟨_, rfl⟩
  have b0 : Below w.heap.size w W0 := by rw [← hW0]; exact (Below.refl _ _).alloc (Nat.le_refl _) _
  have j0 : W0.heap[w.heap.size]? = some (.cells #[.slice none 0 0, .slice none 0 0, .int .i64 0] 24) := by rw [← hW0]; exact heap_alloc_new _ _
  have s0 : W0.heap.size = w.heap.size + 1 := by rw [← hW0, World.size_alloc]
  have hmk := fun W => mk_ints W (Nat.le_trans hcl hn)
  rw [hW0]
  clear hW0
  refine (callsIn_wide.1 (values_in 5 A n cA W0)).mono ?_
  rintro r w1 ⟨rfl, rfl⟩
  have b1 : Below W0.heap.size W0 (W0.alloc (.cells #[.slice A n cA] 22)) := (Below.refl _ _).alloc (Nat.le_refl _) _
  obtain ⟨W1, hW1⟩ : ∃ W, W0.alloc (.cells #[.slice A n cA] 22) = W := ⟨_, rfl⟩
  have c1 : W1.cell? ⟨W0.heap.size, 0, none⟩ = some (.slice A n cA) := by rw [← hW1, cell_of_row _ _ _ _ _ _ (heap_alloc_new _ _)]; rfl
  rw [hW1] at b1 ⊢
  clear hW1
  rw [s0] at c1
  have s1 := b1.size
  have B1 : Below w.heap.size w W1 := b0.trans (b1.mono (by omega))
  have hl1 := hl.below B1
  go_wp2_with fail
  refine (sorted_any c1 hl1 hn).mono ?_
  rintro r w2 ⟨⟨R, cc, rfl, ho2⟩, b2⟩
  have s2 := b2.size
  have B2 : Below w.heap.size w w2 := B1.trans (b2.mono (by omega))
  have Ho2 := hid ho2
  have B2' := hid B2
  have J2 := hid ((b2.block _ (by omega)).trans ((b1.block _ (by omega)).trans j0))
  clear ho2 B2 b2 b1 b0 j0 c1 hl1 B1
  go_wp2_with fail
  refine (compact_any Ho2.out hn hcl).mono ?_
  rintro r w3 ⟨rfl, ho3, m3⟩
  have s3 := m3.size
  have Ho3 := hid ho3
  have hro : ∀ g, row (.slice R n cc) g → W1.heap.size ≤ g := fun g hg => (Ho2.out.row hg).1
  have B3 := hid (below_mod B2'.out (by omega) m3 fun g hg => by have := hro g hg; omega)
  have J3 := hid ((m3.block _ (by omega) (fun hg => by have := hro _ hg; omega)).trans J2.out)
  obtain ⟨k, hk⟩ : ∃ k, (compactL (sortL ls)).length = k := ⟨_, rfl⟩
  have hCb : clauseB ls = normed (compactL (sortL ls)) (List.replicate k 1) 1 := by rw [← hk]; rfl
  obtain ⟨ds, hds⟩ : ∃ ds, compactL (sortL ls) = ds := ⟨_, rfl⟩
  rw [hds] at hk hCb hcm Ho3
  rw [hds, hk] at hmk
  rw [hds] at hcl
  rw [hds]
  rw [hk] at Ho3 hcl ⊢
  have HCb := hid hCb
  have Hds := hid hds
  have Hk := hid hk
  clear ho3 m3 J2 hCb hds hk B2' Ho2
  go_wp2_with fail
  obtain ⟨Z, hZ⟩ : ∃ z, w3.heap.size = z := ⟨_, rfl⟩
  have hoZ := own_made w3 k (by omega)
  have b4 : Below w3.heap.size w3 (w3.alloc (.cells (madeCells #[.int .i64 0] k) 3)) := (Below.refl _ _).alloc (Nat.le_refl _) _
  have s4 := World.size_alloc w3 (.cells (madeCells #[.int .i64 0] k) 3)
  obtain ⟨W4, hW4⟩ : ∃ W, w3.alloc (.cells (madeCells #[.int .i64 0] k) 3) = W := ⟨_, rfl⟩
  rw [hW4, hZ] at hoZ b4 s4
  rw [hW4, hZ]
  have J4 := hid ((b4.block _ (by omega)).trans J3.out)
  have Hw4 := hid ((Ho3.out.rd.mono (G := fun g => g < Z) fun g hg _ => by omega).below (hZ ▸ b4 : Below w3.heap.size w3 W4))
  have B4 := hid (B3.out.trans (b4.mono (by omega)))
  have HoZ := hid hoZ
  clear hW4 hoZ b4 J3 B3 Ho3
  go_loopw [15] (fun iv W => ∃ i : Nat, i ≤ k ∧ iv = .int .i64 i ∧ Hid (Own W (fun g => g = Z) 3 1 (.slice (some ⟨Z, 0, none⟩) k k) k (ints (onesUp k i))) ∧ Hid (Mod (fun g => g = Z) W4 W)) (fun iv _ => k - (intOf iv).toNat)
  case atStart => exact ⟨0, by omega, rfl, by rw [onesUp_none]; exact HoZ, Mod.refl _ _⟩
  case round =>
    obtain ⟨i, hi', rfl, Ho, M⟩ := hrel
    have s5 := M.out.size
    by_cases hlt : i < k
    · have x1 : (i : Int) < (k : Int) := by omega
      obtain ⟨g', e1, _, hg, hc, hf⟩ := Ho.out.cell (j := i) (by omega)
      injection e1 with e1
      injection e1 with e1
      subst e1
      rw [ints_nth (by simp [onesUp]; omega)] at hc
      go_wp2_with fail
      go_roundw
      case rel =>
        refine ⟨i + 1, by omega, by go_num, ?_, hid (M.out.setCell (p := ⟨Z, i, none⟩) (.inl rfl) _)⟩
        rw [← onesUp_set hlt, ints_set]
        exact hid (Ho.out.stored _)
      case measure => simp [intOf]; omega
    · obtain rfl : i = k := by omega
      have hr1 := hid Ho.out.rd
      rw [onesUp_all] at hr1
      have hr0 := hid (Hw4.out.mod M.out fun g _ hg e => by omega)
      have B5 := hid (below_mod B4.out (by omega) M.out fun g e => by omega)
      have J5 := (M.out.block _ (by omega) (by omega)).trans J4.out
      have hI1 : ∀ x ∈ ds, I64 x := fun x hx => hi x (hcm x hx)
      have hI2 : ∀ x ∈ List.replicate i (1 : Int), I64 x := fun x hx => by rw [List.eq_of_mem_replicate hx]; unfold I64; omega
      have HI1 := hid hI1
      have HI2 := hid hI2
      have HJ5 := hid J5
      clear hI1 hI2 J5 hi hcm
      go_wp2_with fail
      refine (norm_any hr0.out hr1.out HI1.out HI2.out (by unfold I64; omega)).mono ?_
      rintro r w6 ⟨⟨pv, rfl, hpv⟩, b6⟩
      rw [← HCb.out] at hpv ⊢
      obtain ⟨⟨A1, n1, c1', A2, n2, c2', rfl, r1, r2⟩, hb'⟩ := hpv
      have s6 := b6.size
      have j6 := (b6.block _ (by omega)).trans HJ5.out
      have t0 : w6.cell? ⟨w.heap.size, 0, none⟩ = some (.slice none 0 0) := by rw [cell_of_row _ _ _ _ _ _ j6]; rfl
      have t1 : w6.cell? ⟨w.heap.size, 1, none⟩ = some (.slice none 0 0) := by rw [cell_of_row _ _ _ _ _ _ j6]; rfl
      have t2 : w6.cell? ⟨w.heap.size, 2, none⟩ = some (.int .i64 0) := by rw [cell_of_row _ _ _ _ _ _ j6]; rfl
      have f0 : w6.frozen? ⟨w.heap.size, 0, none⟩ = false := by simp [World.frozen?, j6]
      have f1 : w6.frozen? ⟨w.heap.size, 1, none⟩ = false := by simp [World.frozen?, j6]
      have f2 : w6.frozen? ⟨w.heap.size, 2, none⟩ = false := by simp [World.frozen?, j6]
      have B6 := hid (B5.out.trans (b6.mono (by omega)))
      have R1 := hid r1
      have R2 := hid r2
      clear j6 b6 r1 r2
      go_wp2_with fail
      obtain ⟨u0, u1, u2, m3⟩ := set3 t0 t1 t2 (.slice A1 n1 c1') (.slice A2 n2 c2') (.int .i64 (clauseB ls).1.bound)
      refine bodyPost_ret (v := .tuple #[.agg #[.slice A1 n1 c1', .slice A2 n2 c2', .int .i64 (clauseB ls).1.bound], .int .i64 (clauseB ls).2]) (by simp [results, Tryd.f52, go_sem, u0, u1, u2]) rfl ⟨⟨_, rfl, ⟨A1, n1, c1', A2, n2, c2', rfl, ?_, ?_⟩, hb'⟩, below_mod B6.out (by omega) m3 fun g hg => by omega⟩
      · exact (R1.out.mod m3 fun g _ hf e => by omega).mono fun g _ hf => by omega
      · exact (R2.out.mod m3 fun g _ hf e => by omega).mono fun g _ hf => by omega
end Go.Proofs.YtooioikkgdgnnaaDoor
