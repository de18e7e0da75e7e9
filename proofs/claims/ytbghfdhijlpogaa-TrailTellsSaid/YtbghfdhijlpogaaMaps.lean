/-
  Maps with integer keys, said of their entries. No program is named.
-/
import Derived.Test.YtbghfdhijlpogaaMem
namespace Go.Proofs.Ytbghfdhijlpogaa
open Go.RowKit

/-! ### the map's look-up -/
/-- The number that a key holds. -/
def keyNum (x : MapEntry) : Int := intOf x.key
theorem findNow_i64 (v : Int) : ∀ (l : List MapEntry) (i : Nat), (∀ x ∈ l, ∃ n, x.key = .int .i64 n) →
    Instr.findNow (.int .i64) (.int .i64 v) l i = some ((l.findIdx? (fun x => keyNum x == v)).bind fun j => (l[j]?).map fun x => (i + j, x.val))
  | [], i, _ => by simp [Instr.findNow]
  | x :: l, i, h => by
    obtain ⟨n, hn⟩ := h x (by simp)
    have ih := findNow_i64 v l (i + 1) (fun y hy => h y (by simp [hy]))
    have hk : keyNum x = n := by simp [keyNum, hn, intOf]
    by_cases hvn : v = n
    · subst hvn
      simp [Instr.findNow, Instr.sameNow, hn, List.findIdx?_cons, hk]
    · have h1 : (v == n) = false := by simpa using hvn
      have h2 : (n == v) = false := by simpa using fun e => hvn e.symm
      simp only [Instr.findNow, Instr.sameNow, hn, h1, ih, List.findIdx?_cons, hk, h2]
      cases hf : l.findIdx? (fun x => keyNum x == v) with
      | none => simp
      | some j => simp [Nat.add_assoc, Nat.add_comm 1 j]
theorem checkKey_i64 {P : Program} {k : TypeId} (hk : P.underlying k = some (.int .i64)) (b : Bool) (n : Nat) (v : Int) (w : World) :
    (Instr.checkKey b (n + 1) k (.int .i64 v)).run P w = .ok () w := by
  simp [Instr.checkKey, run_underlying hk]
theorem findKey_i64 {P : Program} {k : TypeId} (hk : P.underlying k = some (.int .i64)) (v : Int) (l : List MapEntry) (hl : ∀ x ∈ l, ∃ n, x.key = .int .i64 n) (w : World) :
    (Instr.findKey k (.int .i64 v) l).run P w = .ok ((l.findIdx? (fun x => keyNum x == v)).bind fun j => (l[j]?).map fun x => (j, x.val)) w := by
  simp [Instr.findKey, run_underlying hk, findNow_i64 v l 0 hl]
theorem lookup_i64 {P : Program} {t k e : TypeId} {z : Value} (ht : P.underlying t = some (.map k e)) (hk : P.underlying k = some (.int .i64)) (v : Int) {w : World}
    (hz : (zeroValue e).run P w = .ok z w) {m : Nat} {es : Array MapEntry} {clock : Nat}
    (hm : w.heap[m]? = some (.map es clock)) (hl : ∀ x ∈ es.toList, ∃ n, x.key = .int .i64 n) (commaOk : Bool) :
    (Instr.lookup t (.map (some m)) (.int .i64 v) commaOk).run P w = .ok (match (es.toList.findIdx? (fun x => keyNum x == v)).bind fun j => es.toList[j]? with
      | some x => if commaOk then .tuple #[x.val, .bool true] else x.val
      | none => if commaOk then .tuple #[z, .bool false] else z) w := by
  have hc := checkKey_i64 (P := P) hk es.isEmpty 9999 v w
  have hf := findKey_i64 (P := P) hk v es.toList hl w
  simp only [Instr.lookup]
  simp [run_underlying ht, MapKept.run_getObj_map hm, hc, hf]
  cases h : es.toList.findIdx? (fun x => keyNum x == v) with
  | none => simp [hz]
  | some j =>
    have hj : j < es.toList.length := by
      have := List.findIdx?_eq_some_iff_getElem.1 h
      exact this.1
    simp at hj
    simp [hj]
open Go.ChangeMaps Go.MapKept in
theorem update_i64_new {P : Program} {t k e : TypeId} (ht : P.underlying t = some (.map k e)) (hk : P.underlying k = some (.int .i64)) (v : Int) {w : World}
    {m : Nat} {es : Array MapEntry} {clock : Nat}
    (hm : w.heap[m]? = some (.map es clock)) (hl : ∀ x ∈ es.toList, ∃ n, x.key = .int .i64 n) (hno : es.toList.findIdx? (fun x => keyNum x == v) = none) (val : Value) :
    (Instr.mapUpdate t (.map (some m)) (.int .i64 v) val).run P w = .ok () (setBlock w m (.map (es.push { key := .int .i64 v, val, born := clock }) (clock + 1))) := by
  have hc := checkKey_i64 (P := P) hk false 9999 v w
  have hf := findKey_i64 (P := P) hk v es.toList hl w
  simp only [Instr.mapUpdate]
  simp [run_underlying ht, MapKept.run_getObj_map hm, hc, hf, hno, MapKept.run_setObj_map _ hm, setBlock]
open Go.ChangeMaps Go.MapKept in
theorem update_i64_old {P : Program} {t k e : TypeId} (ht : P.underlying t = some (.map k e)) (hk : P.underlying k = some (.int .i64)) (v : Int) {w : World}
    {m : Nat} {es : Array MapEntry} {clock : Nat}
    (hm : w.heap[m]? = some (.map es clock)) (hl : ∀ x ∈ es.toList, ∃ n, x.key = .int .i64 n) {j : Nat} (hj : es.toList.findIdx? (fun x => keyNum x == v) = some j) (val : Value) :
    (Instr.mapUpdate t (.map (some m)) (.int .i64 v) val).run P w = .ok () (setBlock w m (.map (es.modify j fun e => { e with key := .int .i64 v, val }) clock)) := by
  have hc := checkKey_i64 (P := P) hk false 9999 v w
  have hf := findKey_i64 (P := P) hk v es.toList hl w
  have hg := List.findIdx?_eq_some_iff_getElem.1 hj
  obtain ⟨hlt, hkey, _⟩ := hg
  have hlt' : j < es.size := by simpa using hlt
  have hkk : es[j].key = .int .i64 v := by
    obtain ⟨n, hn⟩ := hl es[j] (by simp)
    have : keyNum es[j] = v := by simpa using hkey
    rw [hn]; simp [keyNum, hn, intOf] at this; rw [this]
  have hs : (Instr.keyThatStays (.int .i64 v) (.int .i64 v)).run P w = .ok (.int .i64 v) w := by
    have : Instr.sameBits (9999 + 1) (.int .i64 v) (.int .i64 v) = true := by simp [Instr.sameBits]
    simp [Instr.keyThatStays, this]
  simp only [Instr.mapUpdate]
  simp [run_underlying ht, MapKept.run_getObj_map hm, hc, hf, hj, hlt', hkk, hs, MapKept.run_setObj_map _ hm, setBlock]
open Go.ChangeMaps Go.MapKept in
theorem delete_i64_old {P : Program} {t k e : TypeId} {ty : TypeId} (ht : P.underlying t = some (.map k e)) (hk : P.underlying k = some (.int .i64)) (v : Int) {w : World}
    {m : Nat} {es : Array MapEntry} {clock : Nat}
    (hm : w.heap[m]? = some (.map es clock)) (hl : ∀ x ∈ es.toList, ∃ n, x.key = .int .i64 n) {j : Nat} (hj : es.toList.findIdx? (fun x => keyNum x == v) = some j) :
    (Builtin.delete_ #[t, k] ty #[.map (some m), .int .i64 v]).run P w = .ok (.tuple #[]) (setBlock w m (.map (es.eraseIdxIfInBounds j) clock)) := by
  have hc := checkKey_i64 (P := P) hk es.isEmpty 9999 v w
  have hf := findKey_i64 (P := P) hk v es.toList hl w
  have hg := List.findIdx?_eq_some_iff_getElem.1 hj
  obtain ⟨hlt, hkey, _⟩ := hg
  have hlt' : j < es.size := by simpa using hlt
  simp only [Builtin.delete_]
  simp [run_underlying ht, MapKept.run_getObj_map hm, hc, hf, hj, hlt', MapKept.run_setObj_map _ hm, setBlock]

open Go.ChangeMaps Go.MapKept in
/-- delete(m, v) at the operation, v a key of the map. -/
theorem wpList_delete_i64 {P : Program} {ops : Array Oper} {rest : List Oper} {o : Oper} {a : Act} {w : World} {Q : Exit → Act → World → Prop} (hg : o.guard = none) (m x : Operand) (t k : TypeId)
    (hop : o.op = .call { callee := .builtin .delete, args := #[m, x], argTypes := #[t, k] }) (e : TypeId) (ht : P.underlying t = some (.map k e)) (hk : P.underlying k = some (.int .i64))
    {mb : Nat} {es : Array MapEntry} {clock : Nat} (hm : w.heap[mb]? = some (.map es clock)) (hl : ∀ x ∈ es.toList, ∃ n, x.key = .int .i64 n) {v : Int} {j : Nat} (hj : es.toList.findIdx? (fun x => keyNum x == v) = some j)
    (ha : a.eval m = .map (some mb)) (hx : a.eval x = .int .i64 v) (hK : wpList P ops Q rest (a.put o.dst (.tuple #[])) (setBlock w mb (.map (es.eraseIdxIfInBounds j) clock))) : wpList P ops Q (o :: rest) a w := by
  refine wpList_plain hg fun K' hK' => ?_
  have hrun := delete_i64_old (P := P) (ty := o.type) ht hk v hm hl hj
  unfold Oper.wp
  simp [execOp, hop, resolve, invoke, builtin, ha, hx, hrun, Result.andThen]
  exact hK' _ _ hK

end Go.Proofs.Ytbghfdhijlpogaa
