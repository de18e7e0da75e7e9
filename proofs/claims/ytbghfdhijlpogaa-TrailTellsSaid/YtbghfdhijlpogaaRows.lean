/-
  No cell of these rows narrows 'for every input' (looked for: loops, veiled, ifaces, maps, wideKeys, modest, calm, conditions, laid).
  DERIVED. THE GIVEN ROWS OF THIS SEAT. 6 by the template 'for every input the law returns true; each argument reads behind the call as it read before'; 0 by the template 'total and deterministic' (their statements: YtbghfdhijlpogaaTotals.lean).
  GIVEN WITH THE SEED: the statements are not yours to turn. If you find one false, say at which input.
  Laid BY PROGRAM, IN A SANDBOX (cutbox-rows.mjs): the forced cells as the released guide's own fill.sh prints them over the translation ef114d043fba997a… (all of the seat's roots in one cut). By AI agents, Wed Nov 11 2026. No macro, syntax, notation, axiom, sorry.
-/
import Derived.Test.YtbghfdhijlpogaaChecked
import GoSem.Claim
import GoSem.ClaimJoined
import GoSem.ClaimMapViews
import Derived.JoinedTies
import Derived.KernelRfl
namespace Go.Proofs.Ytbghfdhijlpogaa
/- THE CELL 'sum', in the pinned program and in every row, IS THE sha256 OF THE DUMP (.gsa) THAT YtbghfdhijlpogaaProg.lean LOADS. Nothing in Lean hashes anything: it is a label: what it is worth is what the hold of that sum in a sandbox is worth. -/
noncomputable def Try.pinned : Pinned := { name := "ytbghfdhijlpogaa", sum := "ef114d043fba997a57e2460b44d2bd720bfe1076dbb91fda2f671da5015595c8", checked := Try.checked }
namespace Rows
def none {H : Type} : Left H := { results := [], args := [] }

/-- 'ostlerlaw28.TrailLevels': WHATEVER THE INPUT: true; the input reads as it did. -/
def trailLevelsSpec : ChangeSpec := { name := "trailLevels", fn := fun _ => fun
  | [d1, d2] => { results := [.lit (.bool true)], args := [d1, d2] }
  | _ => none }
def trailLevelsRow : OpenClaim := { program := "ytbghfdhijlpogaa", sum := "ef114d043fba997a57e2460b44d2bd720bfe1076dbb91fda2f671da5015595c8", func := "ostler/ostlerlaw28.TrailLevels", spec := "trailLevels", unfollowed := true, recurses := true, apart := false }
def TrailLevelsSaid : Prop := trailLevelsRow.holds Try.pinned (OpenSpec.ofChange trailLevelsSpec)

/-- ITS FALSE NEIGHBOUR: 'it returns false'. Refute it at one input. -/
def trailLevelsWrong : ChangeSpec := { name := "trailLevels", fn := fun _ => fun
  | [d1, d2] => { results := [.lit (.bool false)], args := [d1, d2] }
  | _ => none }
def TrailLevelsWrongFalsely : Prop := trailLevelsRow.holds Try.pinned (OpenSpec.ofChange trailLevelsWrong)

/-- 'ostlerlaw28.TrailUndo': WHATEVER THE INPUT: true; the input reads as it did. -/
def trailUndoSpec : ChangeSpec := { name := "trailUndo", fn := fun _ => fun
  | [d1, d2, d3] => { results := [.lit (.bool true)], args := [d1, d2, d3] }
  | _ => none }
def trailUndoRow : OpenClaim := { program := "ytbghfdhijlpogaa", sum := "ef114d043fba997a57e2460b44d2bd720bfe1076dbb91fda2f671da5015595c8", func := "ostler/ostlerlaw28.TrailUndo", spec := "trailUndo", unfollowed := true, recurses := true, apart := false }
def TrailUndoSaid : Prop := trailUndoRow.holds Try.pinned (OpenSpec.ofChange trailUndoSpec)

/-- ITS FALSE NEIGHBOUR: 'it returns false'. Refute it at one input. -/
def trailUndoWrong : ChangeSpec := { name := "trailUndo", fn := fun _ => fun
  | [d1, d2, d3] => { results := [.lit (.bool false)], args := [d1, d2, d3] }
  | _ => none }
def TrailUndoWrongFalsely : Prop := trailUndoRow.holds Try.pinned (OpenSpec.ofChange trailUndoWrong)

/-- 'ostlerlaw28.TrailReasons': WHATEVER THE INPUT: true; the input reads as it did. -/
def trailReasonsSpec : ChangeSpec := { name := "trailReasons", fn := fun _ => fun
  | [d] => { results := [.lit (.bool true)], args := [d] }
  | _ => none }
def trailReasonsRow : OpenClaim := { program := "ytbghfdhijlpogaa", sum := "ef114d043fba997a57e2460b44d2bd720bfe1076dbb91fda2f671da5015595c8", func := "ostler/ostlerlaw28.TrailReasons", spec := "trailReasons", unfollowed := true, recurses := true, apart := false }
def TrailReasonsSaid : Prop := trailReasonsRow.holds Try.pinned (OpenSpec.ofChange trailReasonsSpec)

/-- ITS FALSE NEIGHBOUR: 'it returns false'. Refute it at one input. -/
def trailReasonsWrong : ChangeSpec := { name := "trailReasons", fn := fun _ => fun
  | [d] => { results := [.lit (.bool false)], args := [d] }
  | _ => none }
def TrailReasonsWrongFalsely : Prop := trailReasonsRow.holds Try.pinned (OpenSpec.ofChange trailReasonsWrong)

/-- 'ostlerlaw28.TrailOwn': WHATEVER THE INPUT: true; the input reads as it did. -/
def trailOwnSpec : ChangeSpec := { name := "trailOwn", fn := fun _ => fun
  | [d] => { results := [.lit (.bool true)], args := [d] }
  | _ => none }
def trailOwnRow : OpenClaim := { program := "ytbghfdhijlpogaa", sum := "ef114d043fba997a57e2460b44d2bd720bfe1076dbb91fda2f671da5015595c8", func := "ostler/ostlerlaw28.TrailOwn", spec := "trailOwn", unfollowed := true, recurses := true, apart := false }
def TrailOwnSaid : Prop := trailOwnRow.holds Try.pinned (OpenSpec.ofChange trailOwnSpec)

/-- ITS FALSE NEIGHBOUR: 'it returns false'. Refute it at one input. -/
def trailOwnWrong : ChangeSpec := { name := "trailOwn", fn := fun _ => fun
  | [d] => { results := [.lit (.bool false)], args := [d] }
  | _ => none }
def TrailOwnWrongFalsely : Prop := trailOwnRow.holds Try.pinned (OpenSpec.ofChange trailOwnWrong)

/-- 'ostlerlaw28.TrailTells': WHATEVER THE INPUT: true; the input reads as it did. -/
def trailTellsSpec : ChangeSpec := { name := "trailTells", fn := fun _ => fun
  | [d1, d2] => { results := [.lit (.bool true)], args := [d1, d2] }
  | _ => none }
def trailTellsRow : OpenClaim := { program := "ytbghfdhijlpogaa", sum := "ef114d043fba997a57e2460b44d2bd720bfe1076dbb91fda2f671da5015595c8", func := "ostler/ostlerlaw28.TrailTells", spec := "trailTells", unfollowed := true, recurses := true, apart := false }
def TrailTellsSaid : Prop := trailTellsRow.holds Try.pinned (OpenSpec.ofChange trailTellsSpec)

/-- ITS FALSE NEIGHBOUR: 'it returns false'. Refute it at one input. -/
def trailTellsWrong : ChangeSpec := { name := "trailTells", fn := fun _ => fun
  | [d1, d2] => { results := [.lit (.bool false)], args := [d1, d2] }
  | _ => none }
def TrailTellsWrongFalsely : Prop := trailTellsRow.holds Try.pinned (OpenSpec.ofChange trailTellsWrong)

/-- 'ostlerlaw28.TrailWrong': WHATEVER THE INPUT: true; the input reads as it did. -/
def trailWrongSpec : ChangeSpec := { name := "trailWrong", fn := fun _ => fun
  | [d1, d2] => { results := [.lit (.bool true)], args := [d1, d2] }
  | _ => none }
def trailWrongRow : OpenClaim := { program := "ytbghfdhijlpogaa", sum := "ef114d043fba997a57e2460b44d2bd720bfe1076dbb91fda2f671da5015595c8", func := "ostler/ostlerlaw28.TrailWrong", spec := "trailWrong", unfollowed := true, recurses := true, apart := false }
def TrailWrongSaid : Prop := trailWrongRow.holds Try.pinned (OpenSpec.ofChange trailWrongSpec)

/-- ITS FALSE NEIGHBOUR: 'it returns false'. Refute it at one input. -/
def trailWrongWrong : ChangeSpec := { name := "trailWrong", fn := fun _ => fun
  | [d1, d2] => { results := [.lit (.bool false)], args := [d1, d2] }
  | _ => none }
def TrailWrongWrongFalsely : Prop := trailWrongRow.holds Try.pinned (OpenSpec.ofChange trailWrongWrong)

/- THE SECOND FORM. 'bulk': how many values and letters a reading holds, each counted each time it is reached (what is shared counts as often as it is met; a slice's spare places count too). A statement '..UptoSaid' is the law's where the arguments, and the package variables that the reading takes, are together of bulk at most 1048576: NARROWER than '..Said'. Prove '..Said' where nothing that the law and all that it calls make is longer than what came in: it says more and counts as full. Else prove '..UptoSaid'. A law counts once. -/
mutual
def uptoBulk {H : Type} : DataW H → Nat
  | .lit (.string bytes) => bytes.length + 1
  | .lit _ => 1
  | .nil => 1
  | .ptr d => uptoBulk d + 1
  | .slice elems spare => uptoBulkAll elems + uptoBulkAll spare + 1
  | .agg parts => uptoBulkAll parts + 1
  | .iface _ d => uptoBulk d + 1
  | .map entries => uptoBulkEntries entries + 1
  | .held _ => 1
def uptoBulkAll {H : Type} : List (DataW H) → Nat
  | [] => 0
  | d :: r => uptoBulk d + uptoBulkAll r
def uptoBulkEntries {H : Type} : List (Lit × DataW H) → Nat
  | [] => 0
  | x :: r => uptoBulkEntry x + uptoBulkEntries r
def uptoBulkEntry {H : Type} : Lit × DataW H → Nat
  | (.string bytes, d) => bytes.length + uptoBulk d + 1
  | (_, d) => uptoBulk d + 1
 end
def uptoSmall : (H : Type) → List (DataW H) → Bool := fun _ ds => decide (uptoBulkAll ds ≤ 1048576)
def OpenSpec.upto (s : _root_.Go.ChangeSpec) : _root_.Go.OpenSpec := { _root_.Go.OpenSpec.ofChange s with cond := some uptoSmall }

/-- 'ostlerlaw28.TrailLevels', WHERE WHAT IT READS IS OF BULK AT MOST 1048576: true; the input reads as it did. -/
def trailLevelsUptoRow : OpenClaim := { program := "ytbghfdhijlpogaa", sum := "ef114d043fba997a57e2460b44d2bd720bfe1076dbb91fda2f671da5015595c8", func := "ostler/ostlerlaw28.TrailLevels", spec := "trailLevels", unfollowed := true, recurses := true, apart := false, narrowed := true }
def TrailLevelsUptoSaid : Prop := trailLevelsUptoRow.holds Try.pinned (OpenSpec.upto trailLevelsSpec)

/-- 'ostlerlaw28.TrailUndo', WHERE WHAT IT READS IS OF BULK AT MOST 1048576: true; the input reads as it did. -/
def trailUndoUptoRow : OpenClaim := { program := "ytbghfdhijlpogaa", sum := "ef114d043fba997a57e2460b44d2bd720bfe1076dbb91fda2f671da5015595c8", func := "ostler/ostlerlaw28.TrailUndo", spec := "trailUndo", unfollowed := true, recurses := true, apart := false, narrowed := true }
def TrailUndoUptoSaid : Prop := trailUndoUptoRow.holds Try.pinned (OpenSpec.upto trailUndoSpec)

/-- 'ostlerlaw28.TrailReasons', WHERE WHAT IT READS IS OF BULK AT MOST 1048576: true; the input reads as it did. -/
def trailReasonsUptoRow : OpenClaim := { program := "ytbghfdhijlpogaa", sum := "ef114d043fba997a57e2460b44d2bd720bfe1076dbb91fda2f671da5015595c8", func := "ostler/ostlerlaw28.TrailReasons", spec := "trailReasons", unfollowed := true, recurses := true, apart := false, narrowed := true }
def TrailReasonsUptoSaid : Prop := trailReasonsUptoRow.holds Try.pinned (OpenSpec.upto trailReasonsSpec)

/-- 'ostlerlaw28.TrailOwn', WHERE WHAT IT READS IS OF BULK AT MOST 1048576: true; the input reads as it did. -/
def trailOwnUptoRow : OpenClaim := { program := "ytbghfdhijlpogaa", sum := "ef114d043fba997a57e2460b44d2bd720bfe1076dbb91fda2f671da5015595c8", func := "ostler/ostlerlaw28.TrailOwn", spec := "trailOwn", unfollowed := true, recurses := true, apart := false, narrowed := true }
def TrailOwnUptoSaid : Prop := trailOwnUptoRow.holds Try.pinned (OpenSpec.upto trailOwnSpec)

/-- 'ostlerlaw28.TrailTells', WHERE WHAT IT READS IS OF BULK AT MOST 1048576: true; the input reads as it did. -/
def trailTellsUptoRow : OpenClaim := { program := "ytbghfdhijlpogaa", sum := "ef114d043fba997a57e2460b44d2bd720bfe1076dbb91fda2f671da5015595c8", func := "ostler/ostlerlaw28.TrailTells", spec := "trailTells", unfollowed := true, recurses := true, apart := false, narrowed := true }
def TrailTellsUptoSaid : Prop := trailTellsUptoRow.holds Try.pinned (OpenSpec.upto trailTellsSpec)

/-- 'ostlerlaw28.TrailWrong', WHERE WHAT IT READS IS OF BULK AT MOST 1048576: true; the input reads as it did. -/
def trailWrongUptoRow : OpenClaim := { program := "ytbghfdhijlpogaa", sum := "ef114d043fba997a57e2460b44d2bd720bfe1076dbb91fda2f671da5015595c8", func := "ostler/ostlerlaw28.TrailWrong", spec := "trailWrong", unfollowed := true, recurses := true, apart := false, narrowed := true }
def TrailWrongUptoSaid : Prop := trailWrongUptoRow.holds Try.pinned (OpenSpec.upto trailWrongSpec)

end Rows
end Go.Proofs.Ytbghfdhijlpogaa
