/-
  A constraint and a slice of int8s, as arguments; the table of powers of ten.
-/
import Derived.Test.YtooioikkgdgnnaaDoorPbOpen
import Derived.Test.YtooioikkgdgnnaaDoorPbW
import Derived.Lib.SmallJoins
import Derived.Lib.LaidTab
namespace Go.Proofs.YtooioikkgdgnnaaDoor
open Go.RowKit Go.ChangeShapes Go.WideShapes

section
variable {H : Type} {enc : TypeId × Value → H} {w : World}
set_option maxRecDepth 100000 in
theorem open_pb {r : Reach} {b0 : Nat} {v : Value} {d : DataW H} {ps : List MemPlace} (hv : Value.okWide Tryd.prog w r b0 24 v) (h : DataW.Trod enc Tryd.prog w 0 (fun _ => true) true 24 v d ps) :
    ∃ c : Pb, PbRd w (fun _ => True) v c ∧ ∀ k ∈ c.coefs, I64 k := by
  obtain ⟨v0, v1, v2, y0, y1, y2, n, rfl, _, _, h0, h1, h2⟩ := Joins.open_agg3 Tryd.underlying24 (by kernel_rfl) (by kernel_rfl) hv h
  obtain ⟨R0, n0, c0, xs, rfl, r0, l0, _⟩ := open_src (v := v0) h0
  obtain ⟨R1, n1, c1, ys, rfl, r1, l1, i1⟩ := open_src (v := v1) h1
  obtain ⟨z, hz, _, hw⟩ := DataW.trod_int Tryd.underlying3 h2
  obtain rfl : v2 = .int .i64 z := by simpa using hz
  exact ⟨⟨xs, ys, z⟩, ⟨⟨R0, n0, c0, R1, n1, c1, rfl, r0, r1⟩, lwf_i64 hw⟩, i1⟩
theorem i8s_get (xs : List Int) (i : Nat) : (i8s xs)[i]? = (xs[i]?).map (Value.int .i8) := by simp [i8s]
theorem open_src8 {fuel : Nat} {v : Value} {x : DataW H × List MemPlace} (h : DataW.trod enc Tryd.prog w 0 (fun _ => true) true fuel 79 [v] = some x) :
    ∃ R n c xs, v = .slice R n c ∧ Rd w (fun _ => True) 1 (.slice R n c) n (i8s xs) := by
  rcases open_ints Tryd.underlying79 Tryd.underlying107 (by kernel_rfl) h with ⟨hcs, _⟩ | ⟨a, l, c, zs, hcs, _, hl, hm, hz, _, hcell, _⟩
  · simp only [List.cons.injEq, and_true] at hcs
    subst hcs
    exact ⟨none, 0, 0, [], rfl, (Own.nil w _ 0 1).rd⟩
  · simp only [List.cons.injEq, and_true] at hcs
    subst hcs
    have hz' : zs.length = c := by simpa using hz
    refine ⟨some a, l, c, zs.take l, rfl, ⟨by simp [i8s_length]; omega, _, _, rfl, hl, hm, fun hp => ?_⟩⟩
    have h0 := hcell 0 (by omega)
    obtain ⟨g, o, s⟩ := a
    have hs : s = none := by simpa [Addr.add] using World.cell?_spot h0
    subst hs
    refine ⟨g, o, rfl, trivial, World.block_lt_of_cell? w _ (by simpa [addr_add] using h0), fun j u hu => ?_⟩
    rw [i8s_get, List.getElem?_take] at hu
    split at hu
    · rename_i hj
      have hcj := hcell j (by omega)
      rw [addr_add] at hcj
      rw [hcj]
      rw [List.getElem?_eq_getElem (by omega)] at hu
      simp only [Option.map_some, Option.some.injEq] at hu
      rw [← hu]
      simp [List.getD, show j < zs.length by omega]
    · cases hu
set_option maxRecDepth 100000 in
theorem open_list8 {v : Value} {d : DataW H} {ps : List MemPlace} (h : DataW.Trod enc Tryd.prog w 0 (fun _ => true) true 79 v d ps) {A : Option Addr} {n c : Nat} (hv : v = .slice A n c) :
    ∃ m xs, Rd w (fun _ => True) 1 v m (i8s xs) := by
  subst hv
  obtain ⟨fuel, hf⟩ := h
  obtain ⟨R, n', c', xs, hv, hr⟩ := open_src8 (v := .slice A n c) hf
  exact ⟨n', xs, by rw [hv]; exact hr⟩
end
theorem tab_third {W : World} {x y : String × DataW Unit} {rest : List (String × DataW Unit)} (h : laidMet Tryd.prog (x :: y :: ("internal/strconv.uint64pow10", Lib.tabData .u64 Lib.pow10Tab) :: rest) W) : Lib.TabIs Tryd.prog W "internal/strconv.uint64pow10" .u64 Lib.pow10Tab := by
  obtain ⟨ps, hv, _⟩ := h
  obtain ⟨xn, xd⟩ := x
  obtain ⟨yn, yd⟩ := y
  obtain ⟨_, _, _, _, _, _, _, _, _, _, hv1, _⟩ := hv
  obtain ⟨_, _, _, _, _, _, _, _, _, _, hv2, _⟩ := hv1
  obtain ⟨g', t', cs, fuel, p, q, hg', ht', hvar, hd, _, _⟩ := hv2
  obtain rfl := Option.some.inj ((show Tryd.prog.globalNamed "internal/strconv.uint64pow10" = some 0 by kernel_rfl).symm.trans hg')
  obtain rfl := Option.some.inj ((show (Tryd.prog.globals[0]?).map (·.type) = some 140 by kernel_rfl).symm.trans ht')
  unfold Lib.TabIs
  rw [hvar, ← Lib.cells_of_tab Tryd.underlying140 Tryd.underlying127 (by kernel_rfl) (by kernel_rfl) hd]
end Go.Proofs.YtooioikkgdgnnaaDoor
