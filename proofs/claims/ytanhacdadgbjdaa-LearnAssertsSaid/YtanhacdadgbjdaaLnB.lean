/-
  The arguments of chapter 30's laws, opened.
-/
import Derived.Test.YtanhacdadgbjdaaLnA
import Derived.Deep.Strs
import Derived.ChangeSame
import Derived.ProofKit
namespace Go.Proofs.Ytanhacdadgbjdaa
open Go.RowKit Go.ChangeShapes Go.WideShapes

/-- A move of a law's list, as plain data. -/
structure Mvd where
  lit : Int
  src : List Int
  deriving Inhabited
def Mvd.ok (x : Mvd) : Prop := I64 x.lit ∧ ∀ y ∈ x.src, I64 y
/-- The slice reads as these moves. -/
def MvRd (w : World) (v : Value) (os : List Mvd) : Prop :=
  ∃ A cap, v = .slice A os.length cap ∧ os.length ≤ cap ∧ cap ≤ maxLen ∧ ∀ i (x : Mvd), os[i]? = some x → ∃ g o R n c, A = some ⟨g, o, none⟩ ∧ g < w.heap.size ∧
    w.cell? ⟨g, o + i * 2, none⟩ = some (.int .i64 x.lit) ∧ w.cell? ⟨g, o + i * 2 + 1, none⟩ = some (.slice R n c) ∧
    Rd w (fun _ => True) 1 (.slice R n c) n (ints x.src) ∧ x.ok
theorem MvRd.below {w w' : World} {v : Value} {os : List Mvd} (h : MvRd w v os) (hb : Below w.heap.size w w') : MvRd w' v os := by
  obtain ⟨A, cap, rfl, h1, h2, h3⟩ := h
  refine ⟨A, cap, rfl, h1, h2, fun i x hx => ?_⟩
  obtain ⟨g, o, R, n, c, rfl, hg, c0, c1, hr, hok⟩ := h3 i x hx
  have hs := hb.size
  exact ⟨g, o, R, n, c, rfl, by omega, (hb.cell (p := ⟨g, o + i * 2, none⟩) hg).trans c0, (hb.cell (p := ⟨g, o + i * 2 + 1, none⟩) hg).trans c1, hr.below hb, hok⟩

section
variable {H : Type} {enc : TypeId × Value → H} {w : World}
theorem lwf_i64 {n : Int} (h : (Lit.int .i64 n).wf = true) : I64 n := by
  unfold I64
  simp [Lit.wf, IntKind.min, IntKind.max, IntKind.signed, IntKind.bits] at h
  omega
theorem open_src {fuel : Nat} {v : Value} {x : DataW H × List MemPlace} (h : DataW.trod enc Try.prog w 0 (fun _ => true) true fuel 23 [v] = some x) :
    ∃ R n c xs, v = .slice R n c ∧ Rd w (fun _ => True) 1 (.slice R n c) n (ints xs) ∧ xs.length = n ∧ ∀ y ∈ xs, I64 y := by
  rcases open_ints Try.underlying23 Try.underlying3 (by kernel_rfl) h with ⟨hcs, _⟩ | ⟨a, l, c, zs, hcs, _, hl, hm, hz, _, hcell, hwz⟩
  · simp only [List.cons.injEq, and_true] at hcs
    subst hcs
    exact ⟨none, 0, 0, [], rfl, (Own.nil w _ 0 1).rd, rfl, by simp⟩
  · simp only [List.cons.injEq, and_true] at hcs
    subst hcs
    have hz' : zs.length = c := by simpa using hz
    refine ⟨some a, l, c, zs.take l, rfl, ⟨by simp [ints_length]; omega, _, _, rfl, hl, hm, fun hp => ?_⟩, by simp; omega, fun y hy => lwf_i64 (hwz y (List.mem_of_mem_take hy))⟩
    have h0 := hcell 0 (by omega)
    obtain ⟨g, o, s⟩ := a
    have hs : s = none := by simpa [Addr.add] using World.cell?_spot h0
    subst hs
    refine ⟨g, o, rfl, trivial, World.block_lt_of_cell? w _ (by simpa [addr_add] using h0), fun j u hu => ?_⟩
    rw [ints_get, List.getElem?_take] at hu
    split at hu
    · rename_i hj
      have hcj := hcell j (by omega)
      rw [addr_add] at hcj
      rw [hcj]
      rw [List.getElem?_eq_getElem (by omega)] at hu
      simp only [Option.map_some, Option.some.injEq] at hu
      rw [← hu]
      simp [List.getD, show j < zs.length by omega]
    · cases hu
set_option maxRecDepth 100000 in
/-- A slice of integers, as an argument. -/
theorem open_list {v : Value} {d : DataW H} {ps : List MemPlace} (h : DataW.Trod enc Try.prog w 0 (fun _ => true) true 23 v d ps) {A : Option Addr} {n c : Nat} (hv : v = .slice A n c) :
    ∃ xs, Rd w (fun _ => True) 1 v xs.length (ints xs) ∧ (∀ y ∈ xs, I64 y) ∧ v = .slice A xs.length c := by
  subst hv
  obtain ⟨fuel, hf⟩ := h
  obtain ⟨R, n', c', xs, hv, hr, hl, hy⟩ := open_src (v := .slice A n c) hf
  injection hv with h1 h2 h3
  subst h1 h2 h3
  exact ⟨xs, by rw [hl]; exact hr, hy, by rw [hl]⟩
set_option maxRecDepth 100000 in
theorem open_move {fuel : Nat} {cs : List Value} {y : DataW H × List MemPlace} (h : DataW.trod enc Try.prog w 0 (fun _ => true) true fuel 50 cs = some y) :
    ∃ (x : Mvd) (R : Option Addr) (n c : Nat), cs = [.int .i64 x.lit, .slice R n c] ∧ Rd w (fun _ => True) 1 (.slice R n c) n (ints x.src) ∧ x.ok := by
  obtain ⟨y0, y1, m, _, hl, h0, h1⟩ := trod_struct2 Try.underlying50 h
  have hl' : cs.length = 2 := hl.trans (by kernel_rfl)
  match cs, hl' with
  | [c0, c1], _ =>
    obtain ⟨n, e0, _, wn⟩ := DataW.trod_int Try.underlying3 h0
    have e0' : c0 = .int .i64 n := by simpa [show Try.prog.cellsOf 3 = 1 by kernel_rfl] using e0
    have h1' : DataW.trod enc Try.prog w 0 (fun _ => true) true m 23 [c1] = some y1 := by simpa [show Try.prog.cellsOf 23 = 1 by kernel_rfl] using h1
    obtain ⟨R, n', c', xs, rfl, hr, _, hy⟩ := open_src h1'
    subst e0'
    exact ⟨⟨n, xs⟩, R, n', c', rfl, hr, ⟨lwf_i64 wn, hy⟩⟩
theorem cells_two {a : Addr} {cs : List Value} (h : w.cells? 0 a 2 = some cs) : ∃ u0 u1, cs = [u0, u1] ∧ w.cell? (a.add 0) = some u0 ∧ w.cell? (a.add 1) = some u1 := by
  unfold World.cells? at h
  rw [if_pos (Nat.zero_le _), show List.range 2 = [0, 1] from rfl] at h
  simp only [List.mapM_cons, List.mapM_nil] at h
  cases e0 : w.cell? (a.add 0) with
  | none => rw [e0] at h; cases h
  | some u0 =>
    cases e1 : w.cell? (a.add 1) with
    | none => rw [e0, e1] at h; cases h
    | some u1 =>
      rw [e0, e1] at h
      exact ⟨u0, u1, (Option.some.inj h).symm, rfl, rfl⟩
set_option maxRecDepth 100000 in
theorem open_moves {v : Value} {d : DataW H} {ps : List MemPlace} (h : DataW.Trod enc Try.prog w 0 (fun _ => true) true 22 v d ps) {A : Option Addr} {n c : Nat} (hv : v = .slice A n c) : ∃ os, MvRd w v os := by
  subst hv
  obtain ⟨fuel, hf⟩ := h
  rcases Deep.open_slice Try.underlying22 hf with ⟨hcs, _⟩ | ⟨a, len, cap, m, n', D, Pl, hcs, _, hl, hm, hmm, _, hel⟩
  · simp only [Value.cells, List.cons.injEq, Value.slice.injEq, and_true] at hcs
    obtain ⟨rfl, rfl, rfl⟩ := hcs
    exact ⟨[], none, 0, rfl, by simp, by simp, by simp⟩
  · simp only [Value.cells, List.cons.injEq, Value.slice.injEq, and_true] at hcs
    obtain ⟨rfl, rfl, rfl⟩ := hcs
    simp only [if_true] at hmm
    subst hmm
    have hc2 : Try.prog.cellsOf 50 = 2 := by kernel_rfl
    have key : ∀ i, i < n → ∃ x : Mvd, ∃ g o R n c, a = ⟨g, o, none⟩ ∧ g < w.heap.size ∧ w.cell? ⟨g, o + i * 2, none⟩ = some (.int .i64 x.lit) ∧ w.cell? ⟨g, o + i * 2 + 1, none⟩ = some (.slice R n c) ∧
        Rd w (fun _ => True) 1 (.slice R n c) n (ints x.src) ∧ x.ok := by
      intro i hi
      obtain ⟨cs', hcs', htr⟩ := hel i (by omega)
      obtain ⟨x, R, n, c, rfl, hr, hok⟩ := open_move htr
      rw [hc2] at hcs'
      obtain ⟨u0, u1, hu, e0, e1⟩ := cells_two hcs'
      simp only [List.cons.injEq, and_true] at hu
      obtain ⟨rfl, rfl⟩ := hu
      rw [Deep.add_add] at e0 e1
      obtain ⟨g, o, s⟩ := a
      obtain rfl : s = none := by
        rcases Nat.eq_zero_or_pos i with h0 | h0
        · subst h0; simpa [Addr.add] using World.cell?_spot e0
        · obtain ⟨cs', hcs', _⟩ := hel 0 (by omega)
          rw [hc2] at hcs'
          obtain ⟨u0, u1, _, f0, _⟩ := cells_two hcs'
          simpa [Addr.add] using World.cell?_spot f0
      rw [addr_add] at e0 e1
      rw [Nat.add_zero] at e0
      rw [← Nat.add_assoc] at e1
      exact ⟨x, g, o, R, n, c, rfl, World.block_lt_of_cell? w _ e0, e0, e1, hr, hok⟩
    obtain ⟨f, hf⟩ := Deep.choose_lt key
    refine ⟨(List.range n).map f, some a, m, by simp, by simpa using hl, hm, fun i x hx => ?_⟩
    simp only [List.getElem?_map] at hx
    by_cases hi : i < n
    · rw [List.getElem?_range hi] at hx
      simp only [Option.map_some, Option.some.injEq] at hx
      subst hx
      obtain ⟨g, o, R, n', c, rfl, r⟩ := hf i hi
      exact ⟨g, o, R, n', c, rfl, r⟩
    · rw [List.getElem?_eq_none (by simp; omega)] at hx
      cases hx
end
end Go.Proofs.Ytanhacdadgbjdaa
