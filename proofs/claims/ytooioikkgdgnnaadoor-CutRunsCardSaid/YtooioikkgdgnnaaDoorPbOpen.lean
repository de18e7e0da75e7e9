/-
  A slice of integers, as an argument.
-/
import Derived.Test.YtooioikkgdgnnaaDoorPbA
import Derived.Deep.Strs
import Derived.ChangeSame
import Derived.ProofKit
import Derived.SizedLaws
namespace Go.Proofs.YtooioikkgdgnnaaDoor
open Go.RowKit Go.ChangeShapes Go.WideShapes

section
variable {H : Type} {enc : TypeId × Value → H} {w : World}
theorem lwf_i64 {n : Int} (h : (Lit.int .i64 n).wf = true) : I64 n := by
  unfold I64
  simp [Lit.wf, IntKind.min, IntKind.max, IntKind.signed, IntKind.bits] at h
  omega
theorem lwf_u8 {n : Int} (h : (Lit.int .u8 n).wf = true) : 0 ≤ n ∧ n ≤ 255 := by
  simp [Lit.wf, IntKind.min, IntKind.max, IntKind.signed, IntKind.bits] at h
  omega
theorem open_src {fuel : Nat} {v : Value} {x : DataW H × List MemPlace} (h : DataW.trod enc Tryd.prog w 0 (fun _ => true) true fuel 22 [v] = some x) :
    ∃ R n c xs, v = .slice R n c ∧ Rd w (fun _ => True) 1 (.slice R n c) n (ints xs) ∧ xs.length = n ∧ ∀ y ∈ xs, I64 y := by
  rcases open_ints Tryd.underlying22 Tryd.underlying3 (by kernel_rfl) h with ⟨hcs, _⟩ | ⟨a, l, c, zs, hcs, _, hl, hm, hz, _, hcell, hwz⟩
  · simp only [List.cons.injEq, and_true] at hcs
    subst hcs
    exact ⟨none, 0, 0, [], rfl, (Own.nil w _ 0 1).rd, rfl, by simp⟩
  · simp only [List.cons.injEq, and_true] at hcs
    subst hcs
    have hz' : zs.length = c := by simpa using hz
    refine ⟨some a, l, c, zs.take l, rfl, ⟨by simp [ints_length]; omega, _, _, rfl, hl, hm, fun hp => ?_⟩, by simp; omega, fun y hy => lwf_i64 (hwz y (List.mem_of_mem_take hy))⟩
    have h0 := hcell 0 (by omega)
    obtain ⟨g, o, s⟩ := a
    have hs : s = none := by simpa [Addr.add] using World.cell?_spot h0
    subst hs
    refine ⟨g, o, rfl, trivial, World.block_lt_of_cell? w _ (by simpa [addr_add] using h0), fun j u hu => ?_⟩
    rw [ints_get, List.getElem?_take] at hu
    split at hu
    · rename_i hj
      have hcj := hcell j (by omega)
      rw [addr_add] at hcj
      rw [hcj]
      rw [List.getElem?_eq_getElem (by omega)] at hu
      simp only [Option.map_some, Option.some.injEq] at hu
      rw [← hu]
      simp [List.getD, show j < zs.length by omega]
    · cases hu
set_option maxRecDepth 100000 in
/-- A slice of integers, as an argument. -/
theorem open_list {v : Value} {d : DataW H} {ps : List MemPlace} (h : DataW.Trod enc Tryd.prog w 0 (fun _ => true) true 22 v d ps) {A : Option Addr} {n c : Nat} (hv : v = .slice A n c) :
    ∃ xs, Rd w (fun _ => True) 1 v xs.length (ints xs) ∧ (∀ y ∈ xs, I64 y) ∧ v = .slice A xs.length c := by
  subst hv
  obtain ⟨fuel, hf⟩ := h
  obtain ⟨R, n', c', xs, hv, hr, hl, hy⟩ := open_src (v := .slice A n c) hf
  injection hv with h1 h2 h3
  subst h1 h2 h3
  exact ⟨xs, by rw [hl]; exact hr, hy, by rw [hl]⟩
/-- How long an argument may be. -/
theorem list_len {v : Value} {d : DataW H} {ps : List MemPlace} (h : DataW.Trod enc Tryd.prog w 0 (fun _ => true) true 22 v d ps) {A : Option Addr} {n c : Nat} (hv : v = .slice A n c)
    (hs : ∀ elems spare, d = .slice elems spare → (elems.length + spare.length) * Tryd.prog.bytesOf 3 ≤ reachBytes) : n ≤ 17592186043904 := by
  subst hv
  obtain ⟨fuel, hf⟩ := h
  rcases open_ints Tryd.underlying22 Tryd.underlying3 (by kernel_rfl) hf with ⟨hcs, _⟩ | ⟨a, l, cap, zs, hcs, _, hl, hm, hz, hx, _⟩
  · simp only [Value.cells, List.cons.injEq, and_true] at hcs
    injection hcs with _ e
    omega
  · injection hcs with hcs
    injection hcs with _ e
    subst e
    injection hx with hd _
    have h1 := hs _ _ hd
    rw [show Tryd.prog.bytesOf 3 = 8 by kernel_rfl] at h1
    have h2 : (lits (H := H) .i64 (zs.take n)).length = n := by
      rw [if_pos rfl] at hz
      simp [lits]
      omega
    have h3 : reachBytes = 140737488351232 := by decide
    omega
end
end Go.Proofs.YtooioikkgdgnnaaDoor
