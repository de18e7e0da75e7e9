/-
  A slice of bytes and a slice of slices of integers, as arguments.
-/
import Derived.Test.YtooioikkgdgnnaaDoorPbOpen
import Derived.Deep.Matrix
namespace Go.Proofs.YtooioikkgdgnnaaDoor
open Go.RowKit Go.ChangeShapes Go.WideShapes Go.Deep

def u8s (xs : List Int) : List Value := xs.map (Value.int .u8)
theorem u8s_length (xs : List Int) : (u8s xs).length = xs.length := by simp [u8s]
theorem u8s_get (xs : List Int) (i : Nat) : (u8s xs)[i]? = (xs[i]?).map (Value.int .u8) := by simp [u8s]
/-- A slice of slices. -/
def LsRd (w : World) (F : Nat → Prop) (A : Option Addr) (n c : Nat) (lls : List (List Int)) : Prop := ∃ rows, Rd w F 1 (.slice A n c) n rows ∧ lls.length = n ∧ ∀ (i : Nat) (l : List Int), lls[i]? = some l → ∃ R d, rows[i]? = some (.slice R l.length d) ∧ Rd w F 1 (.slice R l.length d) l.length (ints l)
theorem LsRd.below {w w' : World} {F : Nat → Prop} {A : Option Addr} {n c : Nat} {lls : List (List Int)} (h : LsRd w F A n c lls) (b : Below w.heap.size w w') : LsRd w' F A n c lls := by
  obtain ⟨rows, h1, h2, h3⟩ := h
  refine ⟨rows, h1.below b, h2, fun i l hl => ?_⟩
  obtain ⟨R, d, h4, h5⟩ := h3 i l hl
  exact ⟨R, d, h4, h5.below b⟩
theorem LsRd.cells {w : World} {F : Nat → Prop} {A : Option Addr} {n c : Nat} {lls : List (List Int)} (h : LsRd w F A n c lls) {i : Nat} (hi : i < n) : ∃ g o l R d, A = some ⟨g, o, none⟩ ∧ g < w.heap.size ∧ lls[i]? = some l ∧ w.cell? ⟨g, o + i, none⟩ = some (.slice R l.length d) ∧ Rd w F 1 (.slice R l.length d) l.length (ints l) := by
  obtain ⟨rows, ⟨_, A', c', hv, _, _, hA⟩, h2, h3⟩ := h
  injection hv with h1 _ _
  subst h1
  obtain ⟨g, o, rfl, _, hg, hc⟩ := hA (by omega)
  have hl : lls[i]? = some (lls[i]'(by omega)) := List.getElem?_eq_getElem (by omega)
  obtain ⟨R, d, h4, h5⟩ := h3 i _ hl
  exact ⟨g, o, _, R, d, rfl, hg, hl, hc _ _ h4, h5⟩
section
variable {H : Type} {enc : TypeId × Value → H} {w : World}
set_option maxRecDepth 100000 in
theorem open_listu8 {v : Value} {d : DataW H} {ps : List MemPlace} (h : DataW.Trod enc Tryd.prog w 0 (fun _ => true) true 50 v d ps) {A : Option Addr} {n c : Nat} (hv : v = .slice A n c) :
    ∃ xs, Rd w (fun _ => True) 1 v xs.length (u8s xs) ∧ (∀ y ∈ xs, 0 ≤ y ∧ y ≤ 255) ∧ v = .slice A xs.length c := by
  subst hv
  obtain ⟨fuel, hf⟩ := h
  rcases open_ints Tryd.underlying50 Tryd.underlying5 (by kernel_rfl) hf with ⟨hcs, _⟩ | ⟨a, l, c', zs, hcs, _, hl, hm, hz, _, hcell, hwz⟩
  · simp only [Value.cells, List.cons.injEq, and_true] at hcs
    injection hcs with h1 h2 h3
    subst h1 h2 h3
    exact ⟨[], (Own.nil w _ 0 1).rd, by simp, rfl⟩
  · simp only [Value.cells, List.cons.injEq, and_true] at hcs
    injection hcs with h1 h2 h3
    subst h1 h2 h3
    have hz' : zs.length = c := by simpa using hz
    have hlen : (zs.take n).length = n := by simp; omega
    refine ⟨zs.take n, ?_, fun y hy => lwf_u8 (hwz y (List.mem_of_mem_take hy)), by rw [hlen]⟩
    rw [hlen]
    refine ⟨by rw [u8s_length, hlen]; omega, _, _, rfl, hl, hm, fun hp => ?_⟩
    have h0 := hcell 0 (by omega)
    obtain ⟨g, o, s⟩ := a
    have hs : s = none := by simpa [Addr.add] using World.cell?_spot h0
    subst hs
    refine ⟨g, o, rfl, trivial, World.block_lt_of_cell? w _ (by simpa [addr_add] using h0), fun j u hu => ?_⟩
    rw [u8s_get, List.getElem?_take] at hu
    split at hu
    · rename_i hj
      have hcj := hcell j (by omega)
      rw [addr_add] at hcj
      rw [hcj]
      rw [List.getElem?_eq_getElem (by omega)] at hu
      simp only [Option.map_some, Option.some.injEq] at hu
      rw [← hu]
      simp [List.getD, show j < zs.length by omega]
    · cases hu
set_option maxRecDepth 100000 in
theorem open_lists {v : Value} {d : DataW H} {ps : List MemPlace} (h : DataW.Trod enc Tryd.prog w 0 (fun _ => true) true 51 v d ps) {A : Option Addr} {n c : Nat} (hv : v = .slice A n c) :
    ∃ lls, LsRd w (fun _ => True) A n c lls ∧ v = .slice A n c := by
  subst hv
  obtain ⟨fuel, hf⟩ := h
  rcases open_int_rows Tryd.underlying51 Tryd.underlying22 Tryd.underlying3 (by kernel_rfl) (by kernel_rfl) hf with ⟨hcs, _⟩ | ⟨a, len, cap, B, L, C, Z, hcs, _, hl, hm, _, hrow⟩
  · simp only [Value.cells, List.cons.injEq, and_true] at hcs
    injection hcs with h1 h2 h3
    subst h1 h2 h3
    exact ⟨[], ⟨[], (Own.nil w _ 0 1).rd, rfl, fun i l hl => by simp at hl⟩, rfl⟩
  · simp only [Value.cells, List.cons.injEq, and_true] at hcs
    injection hcs with h1 h2 h3
    subst h1 h2 h3
    refine ⟨(List.range n).map fun r => (Z r).take (L r), ⟨(List.range n).map fun r => .slice (B r) (L r) (C r), ?_, by simp, fun i l hi => ?_⟩, rfl⟩
    · refine ⟨by simp, _, _, rfl, hl, hm, fun hp => ?_⟩
      have h0 := (hrow 0 (by omega)).1
      obtain ⟨g, o, s⟩ := a
      have hs : s = none := by simpa [Addr.add] using World.cell?_spot h0
      subst hs
      refine ⟨g, o, rfl, trivial, World.block_lt_of_cell? w _ (by simpa [addr_add] using h0), fun j u hu => ?_⟩
      rw [List.getElem?_map] at hu
      have hj : j < n := by
        rcases Nat.lt_or_ge j n with e | e
        · exact e
        · rw [List.getElem?_eq_none (by simp; omega)] at hu; cases hu
      rw [List.getElem?_range hj] at hu
      simp only [Option.map_some, Option.some.injEq] at hu
      have hcj := (hrow j (by omega)).1
      rw [addr_add] at hcj
      rw [hcj, hu]
    · have hin : i < n := by
        have := (List.getElem?_eq_some_iff.1 hi).1
        simpa using this
      rw [List.getElem?_map, List.getElem?_range hin] at hi
      simp only [Option.map_some, Option.some.injEq] at hi
      subst hi
      obtain ⟨_, r1, r2, r3, r4, r5, r6⟩ := hrow i (by omega)
      have hlen : ((Z i).take (L i)).length = L i := by simp; omega
      refine ⟨B i, C i, ?_, ?_⟩
      · rw [List.getElem?_map, List.getElem?_range hin, hlen]; rfl
      · rw [hlen]
        refine ⟨by rw [ints_length, hlen]; omega, _, _, rfl, r1, r2, fun hp => ?_⟩
        cases hB : B i with
        | none => have := r5 hB; omega
        | some a' =>
          obtain ⟨_, hcell⟩ := r6 a' hB
          have h0 := hcell 0 (by omega)
          obtain ⟨g, o, s⟩ := a'
          have hs : s = none := by simpa [Addr.add] using World.cell?_spot h0
          subst hs
          refine ⟨g, o, rfl, trivial, World.block_lt_of_cell? w _ (by simpa [addr_add] using h0), fun j u hu => ?_⟩
          rw [ints_get, List.getElem?_take] at hu
          split at hu
          · rename_i hj
            have hcj := hcell j (by omega)
            rw [addr_add] at hcj
            rw [hcj]
            rw [List.getElem?_eq_getElem (by omega)] at hu
            simp only [Option.map_some, Option.some.injEq] at hu
            rw [← hu]
            simp [List.getD, show j < (Z i).length by omega]
          · cases hu
end
end Go.Proofs.YtooioikkgdgnnaaDoor
