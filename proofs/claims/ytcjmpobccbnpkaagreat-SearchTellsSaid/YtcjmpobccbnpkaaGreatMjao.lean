/-
 Chapter 32: several texts in one (PbA).
-/
import Derived.Test.YtcjmpobccbnpkaaGreatMjaa
import Derived.Test.YtcjmpobccbnpkaaGreatMjad
import Derived.BigRegion
namespace Go.Proofs.YtcjmpobccbnpkaaGreat
section
open Go.RowKit
attribute [go_sem] eql_ints_nil
theorem iw' {k : Int} (h1 : -9223372036854775808 ≤ k) (h2 : k ≤ 9223372036854775807) : IntKind.i64.wrap k = k := (IntWalk.i64_left _).trans (IntWalk.wrap64_in _ ⟨by omega, by omega⟩)
theorem Bl.drew {w W : World} (h : Below w.heap.size w W) : Below w.heap.size w W.drew := ⟨h.os, h.tape, h.output, h.size, h.block⟩
theorem below_mod {B : Nat} {G : Nat → Prop} {w W X : World} (h : Below B w W) (hB : B ≤ W.heap.size) (m : Mod G W X) (hG : ∀ g, G g → B ≤ g) : Below B w X :=
 ⟨m.os.trans h.os, m.tape.trans h.tape, m.output.trans h.output, Nat.le_trans h.size m.size, fun k hk => (m.block k (by omega) (fun hg => by have := hG k hg; omega)).trans (h.block k hk)⟩
theorem keep_cell {w w' : World} {p : Addr} {v : Value} (h : w.cell? p = some v) (b : Below w.heap.size w w') : w'.cell? p = some v := (b.cell (World.block_lt_of_cell? w _ h)).trans h
theorem Rd.empty (w : World) (F : Nat → Prop) (R : Option Addr) : Rd w F 1 (.slice R 0 0) 0 (ints []) := ⟨rfl, R, 0, rfl, Nat.le_refl _, Nat.zero_le _, fun h => absurd h (by omega)⟩
end
end Go.Proofs.YtcjmpobccbnpkaaGreat
