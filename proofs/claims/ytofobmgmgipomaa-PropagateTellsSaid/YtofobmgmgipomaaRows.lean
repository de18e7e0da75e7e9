/-
  No cell of these rows narrows 'for every input' (looked for: loops, veiled, ifaces, maps, wideKeys, modest, calm, conditions, laid).
  DERIVED. THE GIVEN ROWS OF THIS SEAT. 6 by the template 'for every input the law returns true; each argument reads behind the call as it read before'; 0 by the template 'total and deterministic' (their statements: YtofobmgmgipomaaTotals.lean).
  GIVEN WITH THE SEED: the statements are not yours to turn. If you find one false, say at which input.
  Laid BY PROGRAM, IN A SANDBOX (cutbox-rows.mjs): the forced cells as the released guide's own fill.sh prints them over the translation 3f24258bf8db12d8… (all of the seat's roots in one cut). By AI agents, Wed Nov 11 2026. No macro, syntax, notation, axiom, sorry.
-/
import Derived.Test.YtofobmgmgipomaaChecked
import GoSem.Claim
import GoSem.ClaimJoined
import GoSem.ClaimMapViews
import Derived.JoinedTies
import Derived.KernelRfl
namespace Go.Proofs.Ytofobmgmgipomaa
/- THE CELL 'sum', in the pinned program and in every row, IS THE sha256 OF THE DUMP (.gsa) THAT YtofobmgmgipomaaProg.lean LOADS. Nothing in Lean hashes anything: it is a label: what it is worth is what the hold of that sum in a sandbox is worth. -/
noncomputable def Try.pinned : Pinned := { name := "ytofobmgmgipomaa", sum := "3f24258bf8db12d820f8aff7c770a3a142fbc1c370be57fb82f3b87d9153204d", checked := Try.checked }
namespace Rows
def none {H : Type} : Left H := { results := [], args := [] }

/-- 'ostlerlaw29.PropagateMore': WHATEVER THE INPUT: true; the input reads as it did. -/
def propagateMoreSpec : ChangeSpec := { name := "propagateMore", fn := fun _ => fun
  | [d1, d2, d3, d4, d5] => { results := [.lit (.bool true)], args := [d1, d2, d3, d4, d5] }
  | _ => none }
def propagateMoreRow : OpenClaim := { program := "ytofobmgmgipomaa", sum := "3f24258bf8db12d820f8aff7c770a3a142fbc1c370be57fb82f3b87d9153204d", func := "ostler/ostlerlaw29.PropagateMore", spec := "propagateMore", unfollowed := true, recurses := true, apart := false }
def PropagateMoreSaid : Prop := propagateMoreRow.holds Try.pinned (OpenSpec.ofChange propagateMoreSpec)

/-- ITS FALSE NEIGHBOUR: 'it returns false'. Refute it at one input. -/
def propagateMoreWrong : ChangeSpec := { name := "propagateMore", fn := fun _ => fun
  | [d1, d2, d3, d4, d5] => { results := [.lit (.bool false)], args := [d1, d2, d3, d4, d5] }
  | _ => none }
def PropagateMoreWrongFalsely : Prop := propagateMoreRow.holds Try.pinned (OpenSpec.ofChange propagateMoreWrong)

/-- 'ostlerlaw29.PropagateWrong': WHATEVER THE INPUT: true; the input reads as it did. -/
def propagateWrongSpec : ChangeSpec := { name := "propagateWrong", fn := fun _ => fun
  | [d1, d2, d3, d4] => { results := [.lit (.bool true)], args := [d1, d2, d3, d4] }
  | _ => none }
def propagateWrongRow : OpenClaim := { program := "ytofobmgmgipomaa", sum := "3f24258bf8db12d820f8aff7c770a3a142fbc1c370be57fb82f3b87d9153204d", func := "ostler/ostlerlaw29.PropagateWrong", spec := "propagateWrong", unfollowed := true, recurses := true, apart := false }
def PropagateWrongSaid : Prop := propagateWrongRow.holds Try.pinned (OpenSpec.ofChange propagateWrongSpec)

/-- ITS FALSE NEIGHBOUR: 'it returns false'. Refute it at one input. -/
def propagateWrongWrong : ChangeSpec := { name := "propagateWrong", fn := fun _ => fun
  | [d1, d2, d3, d4] => { results := [.lit (.bool false)], args := [d1, d2, d3, d4] }
  | _ => none }
def PropagateWrongWrongFalsely : Prop := propagateWrongRow.holds Try.pinned (OpenSpec.ofChange propagateWrongWrong)

/-- 'ostlerlaw29.PropagateOrder': WHATEVER THE INPUT: true; the input reads as it did. -/
def propagateOrderSpec : ChangeSpec := { name := "propagateOrder", fn := fun _ => fun
  | [d1, d2, d3, d4, d5] => { results := [.lit (.bool true)], args := [d1, d2, d3, d4, d5] }
  | _ => none }
def propagateOrderRow : OpenClaim := { program := "ytofobmgmgipomaa", sum := "3f24258bf8db12d820f8aff7c770a3a142fbc1c370be57fb82f3b87d9153204d", func := "ostler/ostlerlaw29.PropagateOrder", spec := "propagateOrder", unfollowed := true, recurses := true, apart := false }
def PropagateOrderSaid : Prop := propagateOrderRow.holds Try.pinned (OpenSpec.ofChange propagateOrderSpec)

/-- ITS FALSE NEIGHBOUR: 'it returns false'. Refute it at one input. -/
def propagateOrderWrong : ChangeSpec := { name := "propagateOrder", fn := fun _ => fun
  | [d1, d2, d3, d4, d5] => { results := [.lit (.bool false)], args := [d1, d2, d3, d4, d5] }
  | _ => none }
def PropagateOrderWrongFalsely : Prop := propagateOrderRow.holds Try.pinned (OpenSpec.ofChange propagateOrderWrong)

/-- 'ostlerlaw29.PropagateReasons': WHATEVER THE INPUT: true; the input reads as it did. -/
def propagateReasonsSpec : ChangeSpec := { name := "propagateReasons", fn := fun _ => fun
  | [d1, d2, d3, d4] => { results := [.lit (.bool true)], args := [d1, d2, d3, d4] }
  | _ => none }
def propagateReasonsRow : OpenClaim := { program := "ytofobmgmgipomaa", sum := "3f24258bf8db12d820f8aff7c770a3a142fbc1c370be57fb82f3b87d9153204d", func := "ostler/ostlerlaw29.PropagateReasons", spec := "propagateReasons", unfollowed := true, recurses := true, apart := false }
def PropagateReasonsSaid : Prop := propagateReasonsRow.holds Try.pinned (OpenSpec.ofChange propagateReasonsSpec)

/-- ITS FALSE NEIGHBOUR: 'it returns false'. Refute it at one input. -/
def propagateReasonsWrong : ChangeSpec := { name := "propagateReasons", fn := fun _ => fun
  | [d1, d2, d3, d4] => { results := [.lit (.bool false)], args := [d1, d2, d3, d4] }
  | _ => none }
def PropagateReasonsWrongFalsely : Prop := propagateReasonsRow.holds Try.pinned (OpenSpec.ofChange propagateReasonsWrong)

/-- 'ostlerlaw29.PropagateTells': WHATEVER THE INPUT: true; the input reads as it did. -/
def propagateTellsSpec : ChangeSpec := { name := "propagateTells", fn := fun _ => fun
  | [d1, d2, d3, d4] => { results := [.lit (.bool true)], args := [d1, d2, d3, d4] }
  | _ => none }
def propagateTellsRow : OpenClaim := { program := "ytofobmgmgipomaa", sum := "3f24258bf8db12d820f8aff7c770a3a142fbc1c370be57fb82f3b87d9153204d", func := "ostler/ostlerlaw29.PropagateTells", spec := "propagateTells", unfollowed := true, recurses := true, apart := false }
def PropagateTellsSaid : Prop := propagateTellsRow.holds Try.pinned (OpenSpec.ofChange propagateTellsSpec)

/-- ITS FALSE NEIGHBOUR: 'it returns false'. Refute it at one input. -/
def propagateTellsWrong : ChangeSpec := { name := "propagateTells", fn := fun _ => fun
  | [d1, d2, d3, d4] => { results := [.lit (.bool false)], args := [d1, d2, d3, d4] }
  | _ => none }
def PropagateTellsWrongFalsely : Prop := propagateTellsRow.holds Try.pinned (OpenSpec.ofChange propagateTellsWrong)

/-- 'ostlerlaw29.PropagateImplied': WHATEVER THE INPUT: true; the input reads as it did. -/
def propagateImpliedSpec : ChangeSpec := { name := "propagateImplied", fn := fun _ => fun
  | [d1, d2, d3, d4] => { results := [.lit (.bool true)], args := [d1, d2, d3, d4] }
  | _ => none }
def propagateImpliedRow : OpenClaim := { program := "ytofobmgmgipomaa", sum := "3f24258bf8db12d820f8aff7c770a3a142fbc1c370be57fb82f3b87d9153204d", func := "ostler/ostlerlaw29.PropagateImplied", spec := "propagateImplied", unfollowed := true, recurses := true, apart := false }
def PropagateImpliedSaid : Prop := propagateImpliedRow.holds Try.pinned (OpenSpec.ofChange propagateImpliedSpec)

/-- ITS FALSE NEIGHBOUR: 'it returns false'. Refute it at one input. -/
def propagateImpliedWrong : ChangeSpec := { name := "propagateImplied", fn := fun _ => fun
  | [d1, d2, d3, d4] => { results := [.lit (.bool false)], args := [d1, d2, d3, d4] }
  | _ => none }
def PropagateImpliedWrongFalsely : Prop := propagateImpliedRow.holds Try.pinned (OpenSpec.ofChange propagateImpliedWrong)

/- THE SECOND FORM. 'bulk': how many values and letters a reading holds, each counted each time it is reached (what is shared counts as often as it is met; a slice's spare places count too). A statement '..UptoSaid' is the law's where the arguments, and the package variables that the reading takes, are together of bulk at most 1048576: NARROWER than '..Said'. Prove '..Said' where nothing that the law and all that it calls make is longer than what came in: it says more and counts as full. Else prove '..UptoSaid'. A law counts once. -/
mutual
def uptoBulk {H : Type} : DataW H → Nat
  | .lit (.string bytes) => bytes.length + 1
  | .lit _ => 1
  | .nil => 1
  | .ptr d => uptoBulk d + 1
  | .slice elems spare => uptoBulkAll elems + uptoBulkAll spare + 1
  | .agg parts => uptoBulkAll parts + 1
  | .iface _ d => uptoBulk d + 1
  | .map entries => uptoBulkEntries entries + 1
  | .held _ => 1
def uptoBulkAll {H : Type} : List (DataW H) → Nat
  | [] => 0
  | d :: r => uptoBulk d + uptoBulkAll r
def uptoBulkEntries {H : Type} : List (Lit × DataW H) → Nat
  | [] => 0
  | x :: r => uptoBulkEntry x + uptoBulkEntries r
def uptoBulkEntry {H : Type} : Lit × DataW H → Nat
  | (.string bytes, d) => bytes.length + uptoBulk d + 1
  | (_, d) => uptoBulk d + 1
 end
def uptoSmall : (H : Type) → List (DataW H) → Bool := fun _ ds => decide (uptoBulkAll ds ≤ 1048576)
def OpenSpec.upto (s : _root_.Go.ChangeSpec) : _root_.Go.OpenSpec := { _root_.Go.OpenSpec.ofChange s with cond := some uptoSmall }

/-- 'ostlerlaw29.PropagateMore', WHERE WHAT IT READS IS OF BULK AT MOST 1048576: true; the input reads as it did. -/
def propagateMoreUptoRow : OpenClaim := { program := "ytofobmgmgipomaa", sum := "3f24258bf8db12d820f8aff7c770a3a142fbc1c370be57fb82f3b87d9153204d", func := "ostler/ostlerlaw29.PropagateMore", spec := "propagateMore", unfollowed := true, recurses := true, apart := false, narrowed := true }
def PropagateMoreUptoSaid : Prop := propagateMoreUptoRow.holds Try.pinned (OpenSpec.upto propagateMoreSpec)

/-- 'ostlerlaw29.PropagateWrong', WHERE WHAT IT READS IS OF BULK AT MOST 1048576: true; the input reads as it did. -/
def propagateWrongUptoRow : OpenClaim := { program := "ytofobmgmgipomaa", sum := "3f24258bf8db12d820f8aff7c770a3a142fbc1c370be57fb82f3b87d9153204d", func := "ostler/ostlerlaw29.PropagateWrong", spec := "propagateWrong", unfollowed := true, recurses := true, apart := false, narrowed := true }
def PropagateWrongUptoSaid : Prop := propagateWrongUptoRow.holds Try.pinned (OpenSpec.upto propagateWrongSpec)

/-- 'ostlerlaw29.PropagateOrder', WHERE WHAT IT READS IS OF BULK AT MOST 1048576: true; the input reads as it did. -/
def propagateOrderUptoRow : OpenClaim := { program := "ytofobmgmgipomaa", sum := "3f24258bf8db12d820f8aff7c770a3a142fbc1c370be57fb82f3b87d9153204d", func := "ostler/ostlerlaw29.PropagateOrder", spec := "propagateOrder", unfollowed := true, recurses := true, apart := false, narrowed := true }
def PropagateOrderUptoSaid : Prop := propagateOrderUptoRow.holds Try.pinned (OpenSpec.upto propagateOrderSpec)

/-- 'ostlerlaw29.PropagateReasons', WHERE WHAT IT READS IS OF BULK AT MOST 1048576: true; the input reads as it did. -/
def propagateReasonsUptoRow : OpenClaim := { program := "ytofobmgmgipomaa", sum := "3f24258bf8db12d820f8aff7c770a3a142fbc1c370be57fb82f3b87d9153204d", func := "ostler/ostlerlaw29.PropagateReasons", spec := "propagateReasons", unfollowed := true, recurses := true, apart := false, narrowed := true }
def PropagateReasonsUptoSaid : Prop := propagateReasonsUptoRow.holds Try.pinned (OpenSpec.upto propagateReasonsSpec)

/-- 'ostlerlaw29.PropagateTells', WHERE WHAT IT READS IS OF BULK AT MOST 1048576: true; the input reads as it did. -/
def propagateTellsUptoRow : OpenClaim := { program := "ytofobmgmgipomaa", sum := "3f24258bf8db12d820f8aff7c770a3a142fbc1c370be57fb82f3b87d9153204d", func := "ostler/ostlerlaw29.PropagateTells", spec := "propagateTells", unfollowed := true, recurses := true, apart := false, narrowed := true }
def PropagateTellsUptoSaid : Prop := propagateTellsUptoRow.holds Try.pinned (OpenSpec.upto propagateTellsSpec)

/-- 'ostlerlaw29.PropagateImplied', WHERE WHAT IT READS IS OF BULK AT MOST 1048576: true; the input reads as it did. -/
def propagateImpliedUptoRow : OpenClaim := { program := "ytofobmgmgipomaa", sum := "3f24258bf8db12d820f8aff7c770a3a142fbc1c370be57fb82f3b87d9153204d", func := "ostler/ostlerlaw29.PropagateImplied", spec := "propagateImplied", unfollowed := true, recurses := true, apart := false, narrowed := true }
def PropagateImpliedUptoSaid : Prop := propagateImpliedUptoRow.holds Try.pinned (OpenSpec.upto propagateImpliedSpec)

end Rows
end Go.Proofs.Ytofobmgmgipomaa
