/-
  No cell of these rows narrows 'for every input' (looked for: loops, veiled, ifaces, maps, wideKeys, modest, calm, conditions, laid).
  DERIVED. THE GIVEN ROWS OF THIS SEAT. 8 by the template 'for every input the law returns true; each argument reads behind the call as it read before'; 0 by the template 'total and deterministic' (their statements: YtdkbchpogmiohaaTotals.lean).
  GIVEN WITH THE SEED: the statements are not yours to turn. If you find one false, say at which input.
  Laid BY PROGRAM, IN A SANDBOX (cutbox-rows.mjs): the forced cells as the released guide's own fill.sh prints them over the translation 5f6e3d5184178045… (all of the seat's roots in one cut). By AI agents, Wed Nov 11 2026. No macro, syntax, notation, axiom, sorry.
-/
import Derived.Test.YtdkbchpogmiohaaChecked
import GoSem.Claim
import GoSem.ClaimJoined
import GoSem.ClaimMapViews
import Derived.JoinedTies
import Derived.KernelRfl
namespace Go.Proofs.Ytdkbchpogmiohaa
/- THE CELL 'sum', in the pinned program and in every row, IS THE sha256 OF THE DUMP (.gsa) THAT YtdkbchpogmiohaaProg.lean LOADS. Nothing in Lean hashes anything: it is a label: what it is worth is what the hold of that sum in a sandbox is worth. -/
noncomputable def Try.pinned : Pinned := { name := "ytdkbchpogmiohaa", sum := "5f6e3d5184178045058ea848f72e1d93ef4653d8366bc76b7759b936650e19d6", checked := Try.checked }
namespace Rows
def none {H : Type} : Left H := { results := [], args := [] }

/-- 'ostlerlaw31.HeapLubys': WHATEVER THE INPUT: true; the input reads as it did. -/
def heapLubysSpec : ChangeSpec := { name := "heapLubys", fn := fun _ => fun
  | [d] => { results := [.lit (.bool true)], args := [d] }
  | _ => none }
def heapLubysRow : OpenClaim := { program := "ytdkbchpogmiohaa", sum := "5f6e3d5184178045058ea848f72e1d93ef4653d8366bc76b7759b936650e19d6", func := "ostler/ostlerlaw31.HeapLubys", spec := "heapLubys", unfollowed := true, recurses := true, apart := false }
def HeapLubysSaid : Prop := heapLubysRow.holds Try.pinned (OpenSpec.ofChange heapLubysSpec)

/-- ITS FALSE NEIGHBOUR: 'it returns false'. Refute it at one input. -/
def heapLubysWrong : ChangeSpec := { name := "heapLubys", fn := fun _ => fun
  | [d] => { results := [.lit (.bool false)], args := [d] }
  | _ => none }
def HeapLubysWrongFalsely : Prop := heapLubysRow.holds Try.pinned (OpenSpec.ofChange heapLubysWrong)

/-- 'ostlerlaw31.HeapLast': WHATEVER THE INPUT: true; the input reads as it did. -/
def heapLastSpec : ChangeSpec := { name := "heapLast", fn := fun _ => fun
  | [d1, d2, d3] => { results := [.lit (.bool true)], args := [d1, d2, d3] }
  | _ => none }
def heapLastRow : OpenClaim := { program := "ytdkbchpogmiohaa", sum := "5f6e3d5184178045058ea848f72e1d93ef4653d8366bc76b7759b936650e19d6", func := "ostler/ostlerlaw31.HeapLast", spec := "heapLast", unfollowed := true, recurses := true, apart := false }
def HeapLastSaid : Prop := heapLastRow.holds Try.pinned (OpenSpec.ofChange heapLastSpec)

/-- ITS FALSE NEIGHBOUR: 'it returns false'. Refute it at one input. -/
def heapLastWrong : ChangeSpec := { name := "heapLast", fn := fun _ => fun
  | [d1, d2, d3] => { results := [.lit (.bool false)], args := [d1, d2, d3] }
  | _ => none }
def HeapLastWrongFalsely : Prop := heapLastRow.holds Try.pinned (OpenSpec.ofChange heapLastWrong)

/-- 'ostlerlaw31.HeapCounts': WHATEVER THE INPUT: true; the input reads as it did. -/
def heapCountsSpec : ChangeSpec := { name := "heapCounts", fn := fun _ => fun
  | [d] => { results := [.lit (.bool true)], args := [d] }
  | _ => none }
def heapCountsRow : OpenClaim := { program := "ytdkbchpogmiohaa", sum := "5f6e3d5184178045058ea848f72e1d93ef4653d8366bc76b7759b936650e19d6", func := "ostler/ostlerlaw31.HeapCounts", spec := "heapCounts", unfollowed := true, recurses := true, apart := false }
def HeapCountsSaid : Prop := heapCountsRow.holds Try.pinned (OpenSpec.ofChange heapCountsSpec)

/-- ITS FALSE NEIGHBOUR: 'it returns false'. Refute it at one input. -/
def heapCountsWrong : ChangeSpec := { name := "heapCounts", fn := fun _ => fun
  | [d] => { results := [.lit (.bool false)], args := [d] }
  | _ => none }
def HeapCountsWrongFalsely : Prop := heapCountsRow.holds Try.pinned (OpenSpec.ofChange heapCountsWrong)

/-- 'ostlerlaw31.HeapNone': WHATEVER THE INPUT: true; the input reads as it did. -/
def heapNoneSpec : ChangeSpec := { name := "heapNone", fn := fun _ => fun
  | [d] => { results := [.lit (.bool true)], args := [d] }
  | _ => none }
def heapNoneRow : OpenClaim := { program := "ytdkbchpogmiohaa", sum := "5f6e3d5184178045058ea848f72e1d93ef4653d8366bc76b7759b936650e19d6", func := "ostler/ostlerlaw31.HeapNone", spec := "heapNone", unfollowed := true, recurses := true, apart := false }
def HeapNoneSaid : Prop := heapNoneRow.holds Try.pinned (OpenSpec.ofChange heapNoneSpec)

/-- ITS FALSE NEIGHBOUR: 'it returns false'. Refute it at one input. -/
def heapNoneWrong : ChangeSpec := { name := "heapNone", fn := fun _ => fun
  | [d] => { results := [.lit (.bool false)], args := [d] }
  | _ => none }
def HeapNoneWrongFalsely : Prop := heapNoneRow.holds Try.pinned (OpenSpec.ofChange heapNoneWrong)

/-- 'ostlerlaw31.HeapNext': WHATEVER THE INPUT: true; the input reads as it did. -/
def heapNextSpec : ChangeSpec := { name := "heapNext", fn := fun _ => fun
  | [d1, d2] => { results := [.lit (.bool true)], args := [d1, d2] }
  | _ => none }
def heapNextRow : OpenClaim := { program := "ytdkbchpogmiohaa", sum := "5f6e3d5184178045058ea848f72e1d93ef4653d8366bc76b7759b936650e19d6", func := "ostler/ostlerlaw31.HeapNext", spec := "heapNext", unfollowed := true, recurses := true, apart := false }
def HeapNextSaid : Prop := heapNextRow.holds Try.pinned (OpenSpec.ofChange heapNextSpec)

/-- ITS FALSE NEIGHBOUR: 'it returns false'. Refute it at one input. -/
def heapNextWrong : ChangeSpec := { name := "heapNext", fn := fun _ => fun
  | [d1, d2] => { results := [.lit (.bool false)], args := [d1, d2] }
  | _ => none }
def HeapNextWrongFalsely : Prop := heapNextRow.holds Try.pinned (OpenSpec.ofChange heapNextWrong)

/-- 'ostlerlaw31.HeapBumps': WHATEVER THE INPUT: true; the input reads as it did. -/
def heapBumpsSpec : ChangeSpec := { name := "heapBumps", fn := fun _ => fun
  | [d1, d2, d3, d4] => { results := [.lit (.bool true)], args := [d1, d2, d3, d4] }
  | _ => none }
def heapBumpsRow : OpenClaim := { program := "ytdkbchpogmiohaa", sum := "5f6e3d5184178045058ea848f72e1d93ef4653d8366bc76b7759b936650e19d6", func := "ostler/ostlerlaw31.HeapBumps", spec := "heapBumps", unfollowed := true, recurses := true, apart := false }
def HeapBumpsSaid : Prop := heapBumpsRow.holds Try.pinned (OpenSpec.ofChange heapBumpsSpec)

/-- ITS FALSE NEIGHBOUR: 'it returns false'. Refute it at one input. -/
def heapBumpsWrong : ChangeSpec := { name := "heapBumps", fn := fun _ => fun
  | [d1, d2, d3, d4] => { results := [.lit (.bool false)], args := [d1, d2, d3, d4] }
  | _ => none }
def HeapBumpsWrongFalsely : Prop := heapBumpsRow.holds Try.pinned (OpenSpec.ofChange heapBumpsWrong)

/-- 'ostlerlaw31.HeapTells': WHATEVER THE INPUT: true; the input reads as it did. -/
def heapTellsSpec : ChangeSpec := { name := "heapTells", fn := fun _ => fun
  | [d1, d2] => { results := [.lit (.bool true)], args := [d1, d2] }
  | _ => none }
def heapTellsRow : OpenClaim := { program := "ytdkbchpogmiohaa", sum := "5f6e3d5184178045058ea848f72e1d93ef4653d8366bc76b7759b936650e19d6", func := "ostler/ostlerlaw31.HeapTells", spec := "heapTells", unfollowed := true, recurses := true, apart := false }
def HeapTellsSaid : Prop := heapTellsRow.holds Try.pinned (OpenSpec.ofChange heapTellsSpec)

/-- ITS FALSE NEIGHBOUR: 'it returns false'. Refute it at one input. -/
def heapTellsWrong : ChangeSpec := { name := "heapTells", fn := fun _ => fun
  | [d1, d2] => { results := [.lit (.bool false)], args := [d1, d2] }
  | _ => none }
def HeapTellsWrongFalsely : Prop := heapTellsRow.holds Try.pinned (OpenSpec.ofChange heapTellsWrong)

/-- 'ostlerlaw31.HeapSmall': WHATEVER THE INPUT: true; the input reads as it did. -/
def heapSmallSpec : ChangeSpec := { name := "heapSmall", fn := fun _ => fun
  | [] => { results := [.lit (.bool true)], args := [] }
  | _ => none }
def heapSmallRow : OpenClaim := { program := "ytdkbchpogmiohaa", sum := "5f6e3d5184178045058ea848f72e1d93ef4653d8366bc76b7759b936650e19d6", func := "ostler/ostlerlaw31.HeapSmall", spec := "heapSmall", unfollowed := true, recurses := true, apart := false }
def HeapSmallSaid : Prop := heapSmallRow.holds Try.pinned (OpenSpec.ofChange heapSmallSpec)

/-- ITS FALSE NEIGHBOUR: 'it returns false'. Refute it at one input. -/
def heapSmallWrong : ChangeSpec := { name := "heapSmall", fn := fun _ => fun
  | [] => { results := [.lit (.bool false)], args := [] }
  | _ => none }
def HeapSmallWrongFalsely : Prop := heapSmallRow.holds Try.pinned (OpenSpec.ofChange heapSmallWrong)

/- THE SECOND FORM. 'bulk': how many values and letters a reading holds, each counted each time it is reached (what is shared counts as often as it is met; a slice's spare places count too). A statement '..UptoSaid' is the law's where the arguments, and the package variables that the reading takes, are together of bulk at most 1048576: NARROWER than '..Said'. Prove '..Said' where nothing that the law and all that it calls make is longer than what came in: it says more and counts as full. Else prove '..UptoSaid'. A law counts once. -/
mutual
def uptoBulk {H : Type} : DataW H → Nat
  | .lit (.string bytes) => bytes.length + 1
  | .lit _ => 1
  | .nil => 1
  | .ptr d => uptoBulk d + 1
  | .slice elems spare => uptoBulkAll elems + uptoBulkAll spare + 1
  | .agg parts => uptoBulkAll parts + 1
  | .iface _ d => uptoBulk d + 1
  | .map entries => uptoBulkEntries entries + 1
  | .held _ => 1
def uptoBulkAll {H : Type} : List (DataW H) → Nat
  | [] => 0
  | d :: r => uptoBulk d + uptoBulkAll r
def uptoBulkEntries {H : Type} : List (Lit × DataW H) → Nat
  | [] => 0
  | x :: r => uptoBulkEntry x + uptoBulkEntries r
def uptoBulkEntry {H : Type} : Lit × DataW H → Nat
  | (.string bytes, d) => bytes.length + uptoBulk d + 1
  | (_, d) => uptoBulk d + 1
 end
def uptoSmall : (H : Type) → List (DataW H) → Bool := fun _ ds => decide (uptoBulkAll ds ≤ 1048576)
def OpenSpec.upto (s : _root_.Go.ChangeSpec) : _root_.Go.OpenSpec := { _root_.Go.OpenSpec.ofChange s with cond := some uptoSmall }

/-- 'ostlerlaw31.HeapLubys', WHERE WHAT IT READS IS OF BULK AT MOST 1048576: true; the input reads as it did. -/
def heapLubysUptoRow : OpenClaim := { program := "ytdkbchpogmiohaa", sum := "5f6e3d5184178045058ea848f72e1d93ef4653d8366bc76b7759b936650e19d6", func := "ostler/ostlerlaw31.HeapLubys", spec := "heapLubys", unfollowed := true, recurses := true, apart := false, narrowed := true }
def HeapLubysUptoSaid : Prop := heapLubysUptoRow.holds Try.pinned (OpenSpec.upto heapLubysSpec)

/-- 'ostlerlaw31.HeapLast', WHERE WHAT IT READS IS OF BULK AT MOST 1048576: true; the input reads as it did. -/
def heapLastUptoRow : OpenClaim := { program := "ytdkbchpogmiohaa", sum := "5f6e3d5184178045058ea848f72e1d93ef4653d8366bc76b7759b936650e19d6", func := "ostler/ostlerlaw31.HeapLast", spec := "heapLast", unfollowed := true, recurses := true, apart := false, narrowed := true }
def HeapLastUptoSaid : Prop := heapLastUptoRow.holds Try.pinned (OpenSpec.upto heapLastSpec)

/-- 'ostlerlaw31.HeapCounts', WHERE WHAT IT READS IS OF BULK AT MOST 1048576: true; the input reads as it did. -/
def heapCountsUptoRow : OpenClaim := { program := "ytdkbchpogmiohaa", sum := "5f6e3d5184178045058ea848f72e1d93ef4653d8366bc76b7759b936650e19d6", func := "ostler/ostlerlaw31.HeapCounts", spec := "heapCounts", unfollowed := true, recurses := true, apart := false, narrowed := true }
def HeapCountsUptoSaid : Prop := heapCountsUptoRow.holds Try.pinned (OpenSpec.upto heapCountsSpec)

/-- 'ostlerlaw31.HeapNone', WHERE WHAT IT READS IS OF BULK AT MOST 1048576: true; the input reads as it did. -/
def heapNoneUptoRow : OpenClaim := { program := "ytdkbchpogmiohaa", sum := "5f6e3d5184178045058ea848f72e1d93ef4653d8366bc76b7759b936650e19d6", func := "ostler/ostlerlaw31.HeapNone", spec := "heapNone", unfollowed := true, recurses := true, apart := false, narrowed := true }
def HeapNoneUptoSaid : Prop := heapNoneUptoRow.holds Try.pinned (OpenSpec.upto heapNoneSpec)

/-- 'ostlerlaw31.HeapNext', WHERE WHAT IT READS IS OF BULK AT MOST 1048576: true; the input reads as it did. -/
def heapNextUptoRow : OpenClaim := { program := "ytdkbchpogmiohaa", sum := "5f6e3d5184178045058ea848f72e1d93ef4653d8366bc76b7759b936650e19d6", func := "ostler/ostlerlaw31.HeapNext", spec := "heapNext", unfollowed := true, recurses := true, apart := false, narrowed := true }
def HeapNextUptoSaid : Prop := heapNextUptoRow.holds Try.pinned (OpenSpec.upto heapNextSpec)

/-- 'ostlerlaw31.HeapBumps', WHERE WHAT IT READS IS OF BULK AT MOST 1048576: true; the input reads as it did. -/
def heapBumpsUptoRow : OpenClaim := { program := "ytdkbchpogmiohaa", sum := "5f6e3d5184178045058ea848f72e1d93ef4653d8366bc76b7759b936650e19d6", func := "ostler/ostlerlaw31.HeapBumps", spec := "heapBumps", unfollowed := true, recurses := true, apart := false, narrowed := true }
def HeapBumpsUptoSaid : Prop := heapBumpsUptoRow.holds Try.pinned (OpenSpec.upto heapBumpsSpec)

/-- 'ostlerlaw31.HeapTells', WHERE WHAT IT READS IS OF BULK AT MOST 1048576: true; the input reads as it did. -/
def heapTellsUptoRow : OpenClaim := { program := "ytdkbchpogmiohaa", sum := "5f6e3d5184178045058ea848f72e1d93ef4653d8366bc76b7759b936650e19d6", func := "ostler/ostlerlaw31.HeapTells", spec := "heapTells", unfollowed := true, recurses := true, apart := false, narrowed := true }
def HeapTellsUptoSaid : Prop := heapTellsUptoRow.holds Try.pinned (OpenSpec.upto heapTellsSpec)

/-- 'ostlerlaw31.HeapSmall', WHERE WHAT IT READS IS OF BULK AT MOST 1048576: true; the input reads as it did. -/
def heapSmallUptoRow : OpenClaim := { program := "ytdkbchpogmiohaa", sum := "5f6e3d5184178045058ea848f72e1d93ef4653d8366bc76b7759b936650e19d6", func := "ostler/ostlerlaw31.HeapSmall", spec := "heapSmall", unfollowed := true, recurses := true, apart := false, narrowed := true }
def HeapSmallUptoSaid : Prop := heapSmallUptoRow.holds Try.pinned (OpenSpec.upto heapSmallSpec)

end Rows
end Go.Proofs.Ytdkbchpogmiohaa
