/-
  A step of a drawn region that is ready alone.
-/
import Derived.Test.YtcjmpobccbnpkaaGreatTk
namespace Go.Proofs.YtcjmpobccbnpkaaGreat

theorem rd0 {P : Program} {md : Region.Mode} {ops : Array Oper} {Q : Exit → Act → World → Prop} {S : World → Prop} (i : Nat) {dst : Option Tmp} {op : Op} {type : TypeId} {pos : String} {after : Array Edge} {guard : Option (Nat × Bool)} {fuel : Nat} {listed : Array Bool} {a : Act} {w : World}
    (h : ∀ K' : Act → World → Prop, Shut (∀ a w, S w → (S w → wpAnyH P md ops Q S fuel (listed.setIfInBounds i true) a w) → K' a w) → if Region.wanted ⟨dst, op, type, pos, after, guard⟩ (yielded ops a.tmps) = true then Oper.wp P ⟨dst, op, type, pos, after, guard⟩ a w K' Q else K' (a.put dst undef) w)
    (hr : Region.ready md ops listed = [i] := by kernel_rfl) (ho : ops[i]? = some ⟨dst, op, type, pos, after, guard⟩ := by rfl) : wpAnyH P md ops Q S (fuel + 1) listed a w :=
  wpAnyH_ready hr (by simp) (AllReadyH.cons ho h AllReadyH.nil)
end Go.Proofs.YtcjmpobccbnpkaaGreat
