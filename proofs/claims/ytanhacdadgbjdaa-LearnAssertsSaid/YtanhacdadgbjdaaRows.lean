/-
  No cell of these rows narrows 'for every input' (looked for: loops, veiled, ifaces, maps, wideKeys, modest, calm, conditions, laid).
  DERIVED. THE GIVEN ROWS OF THIS SEAT. 4 by the template 'for every input the law returns true; each argument reads behind the call as it read before'; 0 by the template 'total and deterministic' (their statements: YtanhacdadgbjdaaTotals.lean).
  GIVEN WITH THE SEED: the statements are not yours to turn. If you find one false, say at which input.
  Laid BY PROGRAM, IN A SANDBOX (cutbox-rows.mjs): the forced cells as the released guide's own fill.sh prints them over the translation b0050cd9adbb82c7… (all of the seat's roots in one cut). By AI agents, Wed Nov 11 2026. No macro, syntax, notation, axiom, sorry.
-/
import Derived.Test.YtanhacdadgbjdaaChecked
import GoSem.Claim
import GoSem.ClaimJoined
import GoSem.ClaimMapViews
import Derived.JoinedTies
import Derived.KernelRfl
namespace Go.Proofs.Ytanhacdadgbjdaa
/- THE CELL 'sum', in the pinned program and in every row, IS THE sha256 OF THE DUMP (.gsa) THAT YtanhacdadgbjdaaProg.lean LOADS. Nothing in Lean hashes anything: it is a label: what it is worth is what the hold of that sum in a sandbox is worth. -/
noncomputable def Try.pinned : Pinned := { name := "ytanhacdadgbjdaa", sum := "b0050cd9adbb82c706b212c052b664ac466c7479ed8fb69de185ad957081cd87", checked := Try.checked }
namespace Rows
def none {H : Type} : Left H := { results := [], args := [] }

/-- 'ostlerlaw30.LearnFollows': WHATEVER THE INPUT: true; the input reads as it did. -/
def learnFollowsSpec : ChangeSpec := { name := "learnFollows", fn := fun _ => fun
  | [d1, d2] => { results := [.lit (.bool true)], args := [d1, d2] }
  | _ => none }
def learnFollowsRow : OpenClaim := { program := "ytanhacdadgbjdaa", sum := "b0050cd9adbb82c706b212c052b664ac466c7479ed8fb69de185ad957081cd87", func := "ostler/ostlerlaw30.LearnFollows", spec := "learnFollows", unfollowed := true, recurses := true, apart := false }
def LearnFollowsSaid : Prop := learnFollowsRow.holds Try.pinned (OpenSpec.ofChange learnFollowsSpec)

/-- ITS FALSE NEIGHBOUR: 'it returns false'. Refute it at one input. -/
def learnFollowsWrong : ChangeSpec := { name := "learnFollows", fn := fun _ => fun
  | [d1, d2] => { results := [.lit (.bool false)], args := [d1, d2] }
  | _ => none }
def LearnFollowsWrongFalsely : Prop := learnFollowsRow.holds Try.pinned (OpenSpec.ofChange learnFollowsWrong)

/-- 'ostlerlaw30.LearnTurned': WHATEVER THE INPUT: true; the input reads as it did. -/
def learnTurnedSpec : ChangeSpec := { name := "learnTurned", fn := fun _ => fun
  | [d1, d2] => { results := [.lit (.bool true)], args := [d1, d2] }
  | _ => none }
def learnTurnedRow : OpenClaim := { program := "ytanhacdadgbjdaa", sum := "b0050cd9adbb82c706b212c052b664ac466c7479ed8fb69de185ad957081cd87", func := "ostler/ostlerlaw30.LearnTurned", spec := "learnTurned", unfollowed := true, recurses := true, apart := false }
def LearnTurnedSaid : Prop := learnTurnedRow.holds Try.pinned (OpenSpec.ofChange learnTurnedSpec)

/-- ITS FALSE NEIGHBOUR: 'it returns false'. Refute it at one input. -/
def learnTurnedWrong : ChangeSpec := { name := "learnTurned", fn := fun _ => fun
  | [d1, d2] => { results := [.lit (.bool false)], args := [d1, d2] }
  | _ => none }
def LearnTurnedWrongFalsely : Prop := learnTurnedRow.holds Try.pinned (OpenSpec.ofChange learnTurnedWrong)

/-- 'ostlerlaw30.LearnErrs': WHATEVER THE INPUT: true; the input reads as it did. -/
def learnErrsSpec : ChangeSpec := { name := "learnErrs", fn := fun _ => fun
  | [d1, d2, d3] => { results := [.lit (.bool true)], args := [d1, d2, d3] }
  | _ => none }
def learnErrsRow : OpenClaim := { program := "ytanhacdadgbjdaa", sum := "b0050cd9adbb82c706b212c052b664ac466c7479ed8fb69de185ad957081cd87", func := "ostler/ostlerlaw30.LearnErrs", spec := "learnErrs", unfollowed := true, recurses := true, apart := false }
def LearnErrsSaid : Prop := learnErrsRow.holds Try.pinned (OpenSpec.ofChange learnErrsSpec)

/-- ITS FALSE NEIGHBOUR: 'it returns false'. Refute it at one input. -/
def learnErrsWrong : ChangeSpec := { name := "learnErrs", fn := fun _ => fun
  | [d1, d2, d3] => { results := [.lit (.bool false)], args := [d1, d2, d3] }
  | _ => none }
def LearnErrsWrongFalsely : Prop := learnErrsRow.holds Try.pinned (OpenSpec.ofChange learnErrsWrong)

/-- 'ostlerlaw30.LearnAsserts': WHATEVER THE INPUT: true; the input reads as it did. -/
def learnAssertsSpec : ChangeSpec := { name := "learnAsserts", fn := fun _ => fun
  | [d1, d2] => { results := [.lit (.bool true)], args := [d1, d2] }
  | _ => none }
def learnAssertsRow : OpenClaim := { program := "ytanhacdadgbjdaa", sum := "b0050cd9adbb82c706b212c052b664ac466c7479ed8fb69de185ad957081cd87", func := "ostler/ostlerlaw30.LearnAsserts", spec := "learnAsserts", unfollowed := true, recurses := true, apart := false }
def LearnAssertsSaid : Prop := learnAssertsRow.holds Try.pinned (OpenSpec.ofChange learnAssertsSpec)

/-- ITS FALSE NEIGHBOUR: 'it returns false'. Refute it at one input. -/
def learnAssertsWrong : ChangeSpec := { name := "learnAsserts", fn := fun _ => fun
  | [d1, d2] => { results := [.lit (.bool false)], args := [d1, d2] }
  | _ => none }
def LearnAssertsWrongFalsely : Prop := learnAssertsRow.holds Try.pinned (OpenSpec.ofChange learnAssertsWrong)

/- THE SECOND FORM. 'bulk': how many values and letters a reading holds, each counted each time it is reached (what is shared counts as often as it is met; a slice's spare places count too). A statement '..UptoSaid' is the law's where the arguments, and the package variables that the reading takes, are together of bulk at most 1048576: NARROWER than '..Said'. Prove '..Said' where nothing that the law and all that it calls make is longer than what came in: it says more and counts as full. Else prove '..UptoSaid'. A law counts once. -/
mutual
def uptoBulk {H : Type} : DataW H → Nat
  | .lit (.string bytes) => bytes.length + 1
  | .lit _ => 1
  | .nil => 1
  | .ptr d => uptoBulk d + 1
  | .slice elems spare => uptoBulkAll elems + uptoBulkAll spare + 1
  | .agg parts => uptoBulkAll parts + 1
  | .iface _ d => uptoBulk d + 1
  | .map entries => uptoBulkEntries entries + 1
  | .held _ => 1
def uptoBulkAll {H : Type} : List (DataW H) → Nat
  | [] => 0
  | d :: r => uptoBulk d + uptoBulkAll r
def uptoBulkEntries {H : Type} : List (Lit × DataW H) → Nat
  | [] => 0
  | x :: r => uptoBulkEntry x + uptoBulkEntries r
def uptoBulkEntry {H : Type} : Lit × DataW H → Nat
  | (.string bytes, d) => bytes.length + uptoBulk d + 1
  | (_, d) => uptoBulk d + 1
 end
def uptoSmall : (H : Type) → List (DataW H) → Bool := fun _ ds => decide (uptoBulkAll ds ≤ 1048576)
def OpenSpec.upto (s : _root_.Go.ChangeSpec) : _root_.Go.OpenSpec := { _root_.Go.OpenSpec.ofChange s with cond := some uptoSmall }

/-- 'ostlerlaw30.LearnFollows', WHERE WHAT IT READS IS OF BULK AT MOST 1048576: true; the input reads as it did. -/
def learnFollowsUptoRow : OpenClaim := { program := "ytanhacdadgbjdaa", sum := "b0050cd9adbb82c706b212c052b664ac466c7479ed8fb69de185ad957081cd87", func := "ostler/ostlerlaw30.LearnFollows", spec := "learnFollows", unfollowed := true, recurses := true, apart := false, narrowed := true }
def LearnFollowsUptoSaid : Prop := learnFollowsUptoRow.holds Try.pinned (OpenSpec.upto learnFollowsSpec)

/-- 'ostlerlaw30.LearnTurned', WHERE WHAT IT READS IS OF BULK AT MOST 1048576: true; the input reads as it did. -/
def learnTurnedUptoRow : OpenClaim := { program := "ytanhacdadgbjdaa", sum := "b0050cd9adbb82c706b212c052b664ac466c7479ed8fb69de185ad957081cd87", func := "ostler/ostlerlaw30.LearnTurned", spec := "learnTurned", unfollowed := true, recurses := true, apart := false, narrowed := true }
def LearnTurnedUptoSaid : Prop := learnTurnedUptoRow.holds Try.pinned (OpenSpec.upto learnTurnedSpec)

/-- 'ostlerlaw30.LearnErrs', WHERE WHAT IT READS IS OF BULK AT MOST 1048576: true; the input reads as it did. -/
def learnErrsUptoRow : OpenClaim := { program := "ytanhacdadgbjdaa", sum := "b0050cd9adbb82c706b212c052b664ac466c7479ed8fb69de185ad957081cd87", func := "ostler/ostlerlaw30.LearnErrs", spec := "learnErrs", unfollowed := true, recurses := true, apart := false, narrowed := true }
def LearnErrsUptoSaid : Prop := learnErrsUptoRow.holds Try.pinned (OpenSpec.upto learnErrsSpec)

/-- 'ostlerlaw30.LearnAsserts', WHERE WHAT IT READS IS OF BULK AT MOST 1048576: true; the input reads as it did. -/
def learnAssertsUptoRow : OpenClaim := { program := "ytanhacdadgbjdaa", sum := "b0050cd9adbb82c706b212c052b664ac466c7479ed8fb69de185ad957081cd87", func := "ostler/ostlerlaw30.LearnAsserts", spec := "learnAsserts", unfollowed := true, recurses := true, apart := false, narrowed := true }
def LearnAssertsUptoSaid : Prop := learnAssertsUptoRow.holds Try.pinned (OpenSpec.upto learnAssertsSpec)

end Rows
end Go.Proofs.Ytanhacdadgbjdaa
