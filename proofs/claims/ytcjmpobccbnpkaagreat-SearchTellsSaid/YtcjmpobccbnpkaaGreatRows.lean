/-
  No cell of these rows narrows 'for every input' (looked for: loops, veiled, ifaces, maps, wideKeys, modest, calm, conditions, laid).
  DERIVED. THE GIVEN ROWS OF THIS SEAT. 7 by the template 'for every input the law returns true; each argument reads behind the call as it read before'; 0 by the template 'total and deterministic' (their statements: YtcjmpobccbnpkaaGreatTotals.lean).
  GIVEN WITH THE SEED: the statements are not yours to turn. If you find one false, say at which input.
  Laid BY PROGRAM, IN A SANDBOX (cutbox-rows.mjs): the forced cells as the released guide's own fill.sh prints them over the translation 0bd4182229124213… (all of the seat's roots in one cut). By AI agents, Wed Nov 11 2026. No macro, syntax, notation, axiom, sorry.
-/
import Derived.Test.YtcjmpobccbnpkaaGreatChecked
import GoSem.Claim
import GoSem.ClaimJoined
import GoSem.ClaimMapViews
import Derived.JoinedTies
import Derived.KernelRfl
namespace Go.Proofs.YtcjmpobccbnpkaaGreat
/- THE CELL 'sum', in the pinned program and in every row, IS THE sha256 OF THE DUMP (.gsa) THAT YtcjmpobccbnpkaaGreatProg.lean LOADS. Nothing in Lean hashes anything: it is a label: what it is worth is what the hold of that sum in a sandbox is worth. -/
noncomputable def Tryz.pinned : Pinned := { name := "ytcjmpobccbnpkaagreat", sum := "0bd4182229124213a45ecfba59e5d46be8f2af395951fd2212e7498c257cd7f1", checked := Tryz.checked }
namespace Rows
def none {H : Type} : Left H := { results := [], args := [] }

/-- 'ostlerlaw32.SearchWrong': WHATEVER THE INPUT: true; the input reads as it did. -/
def searchWrongSpec : ChangeSpec := { name := "searchWrong", fn := fun _ => fun
  | [d1, d2, d3, d4, d5] => { results := [.lit (.bool true)], args := [d1, d2, d3, d4, d5] }
  | _ => none }
def searchWrongRow : OpenClaim := { program := "ytcjmpobccbnpkaagreat", sum := "0bd4182229124213a45ecfba59e5d46be8f2af395951fd2212e7498c257cd7f1", func := "ostler/ostlerlaw32.SearchWrong", spec := "searchWrong", unfollowed := true, recurses := true, apart := false }
def SearchWrongSaid : Prop := searchWrongRow.holds Tryz.pinned (OpenSpec.ofChange searchWrongSpec)

/-- ITS FALSE NEIGHBOUR: 'it returns false'. Refute it at one input. -/
def searchWrongWrong : ChangeSpec := { name := "searchWrong", fn := fun _ => fun
  | [d1, d2, d3, d4, d5] => { results := [.lit (.bool false)], args := [d1, d2, d3, d4, d5] }
  | _ => none }
def SearchWrongWrongFalsely : Prop := searchWrongRow.holds Tryz.pinned (OpenSpec.ofChange searchWrongWrong)

/-- 'ostlerlaw32.SearchLazy': WHATEVER THE INPUT: true; the input reads as it did. -/
def searchLazySpec : ChangeSpec := { name := "searchLazy", fn := fun _ => fun
  | [d1, d2, d3, d4, d5] => { results := [.lit (.bool true)], args := [d1, d2, d3, d4, d5] }
  | _ => none }
def searchLazyRow : OpenClaim := { program := "ytcjmpobccbnpkaagreat", sum := "0bd4182229124213a45ecfba59e5d46be8f2af395951fd2212e7498c257cd7f1", func := "ostler/ostlerlaw32.SearchLazy", spec := "searchLazy", unfollowed := true, recurses := true, apart := false }
def SearchLazySaid : Prop := searchLazyRow.holds Tryz.pinned (OpenSpec.ofChange searchLazySpec)

/-- ITS FALSE NEIGHBOUR: 'it returns false'. Refute it at one input. -/
def searchLazyWrong : ChangeSpec := { name := "searchLazy", fn := fun _ => fun
  | [d1, d2, d3, d4, d5] => { results := [.lit (.bool false)], args := [d1, d2, d3, d4, d5] }
  | _ => none }
def SearchLazyWrongFalsely : Prop := searchLazyRow.holds Tryz.pinned (OpenSpec.ofChange searchLazyWrong)

/-- 'ostlerlaw32.SearchTells': WHATEVER THE INPUT: true; the input reads as it did. -/
def searchTellsSpec : ChangeSpec := { name := "searchTells", fn := fun _ => fun
  | [d1, d2, d3, d4] => { results := [.lit (.bool true)], args := [d1, d2, d3, d4] }
  | _ => none }
def searchTellsRow : OpenClaim := { program := "ytcjmpobccbnpkaagreat", sum := "0bd4182229124213a45ecfba59e5d46be8f2af395951fd2212e7498c257cd7f1", func := "ostler/ostlerlaw32.SearchTells", spec := "searchTells", unfollowed := true, recurses := true, apart := false }
def SearchTellsSaid : Prop := searchTellsRow.holds Tryz.pinned (OpenSpec.ofChange searchTellsSpec)

/-- ITS FALSE NEIGHBOUR: 'it returns false'. Refute it at one input. -/
def searchTellsWrong : ChangeSpec := { name := "searchTells", fn := fun _ => fun
  | [d1, d2, d3, d4] => { results := [.lit (.bool false)], args := [d1, d2, d3, d4] }
  | _ => none }
def SearchTellsWrongFalsely : Prop := searchTellsRow.holds Tryz.pinned (OpenSpec.ofChange searchTellsWrong)

/-- 'ostlerlaw32.SearchDecides': WHATEVER THE INPUT: true; the input reads as it did. -/
def searchDecidesSpec : ChangeSpec := { name := "searchDecides", fn := fun _ => fun
  | [d1, d2, d3, d4] => { results := [.lit (.bool true)], args := [d1, d2, d3, d4] }
  | _ => none }
def searchDecidesRow : OpenClaim := { program := "ytcjmpobccbnpkaagreat", sum := "0bd4182229124213a45ecfba59e5d46be8f2af395951fd2212e7498c257cd7f1", func := "ostler/ostlerlaw32.SearchDecides", spec := "searchDecides", unfollowed := true, recurses := true, apart := false }
def SearchDecidesSaid : Prop := searchDecidesRow.holds Tryz.pinned (OpenSpec.ofChange searchDecidesSpec)

/-- ITS FALSE NEIGHBOUR: 'it returns false'. Refute it at one input. -/
def searchDecidesWrong : ChangeSpec := { name := "searchDecides", fn := fun _ => fun
  | [d1, d2, d3, d4] => { results := [.lit (.bool false)], args := [d1, d2, d3, d4] }
  | _ => none }
def SearchDecidesWrongFalsely : Prop := searchDecidesRow.holds Tryz.pinned (OpenSpec.ofChange searchDecidesWrong)

/-- 'ostlerlaw32.SearchCounts': WHATEVER THE INPUT: true; the input reads as it did. -/
def searchCountsSpec : ChangeSpec := { name := "searchCounts", fn := fun _ => fun
  | [d1, d2, d3] => { results := [.lit (.bool true)], args := [d1, d2, d3] }
  | _ => none }
def searchCountsRow : OpenClaim := { program := "ytcjmpobccbnpkaagreat", sum := "0bd4182229124213a45ecfba59e5d46be8f2af395951fd2212e7498c257cd7f1", func := "ostler/ostlerlaw32.SearchCounts", spec := "searchCounts", unfollowed := true, recurses := true, apart := false }
def SearchCountsSaid : Prop := searchCountsRow.holds Tryz.pinned (OpenSpec.ofChange searchCountsSpec)

/-- ITS FALSE NEIGHBOUR: 'it returns false'. Refute it at one input. -/
def searchCountsWrong : ChangeSpec := { name := "searchCounts", fn := fun _ => fun
  | [d1, d2, d3] => { results := [.lit (.bool false)], args := [d1, d2, d3] }
  | _ => none }
def SearchCountsWrongFalsely : Prop := searchCountsRow.holds Tryz.pinned (OpenSpec.ofChange searchCountsWrong)

/-- 'ostlerlaw32.SearchAgain': WHATEVER THE INPUT: true; the input reads as it did. -/
def searchAgainSpec : ChangeSpec := { name := "searchAgain", fn := fun _ => fun
  | [d1, d2, d3, d4] => { results := [.lit (.bool true)], args := [d1, d2, d3, d4] }
  | _ => none }
def searchAgainRow : OpenClaim := { program := "ytcjmpobccbnpkaagreat", sum := "0bd4182229124213a45ecfba59e5d46be8f2af395951fd2212e7498c257cd7f1", func := "ostler/ostlerlaw32.SearchAgain", spec := "searchAgain", unfollowed := true, recurses := true, apart := false }
def SearchAgainSaid : Prop := searchAgainRow.holds Tryz.pinned (OpenSpec.ofChange searchAgainSpec)

/-- ITS FALSE NEIGHBOUR: 'it returns false'. Refute it at one input. -/
def searchAgainWrong : ChangeSpec := { name := "searchAgain", fn := fun _ => fun
  | [d1, d2, d3, d4] => { results := [.lit (.bool false)], args := [d1, d2, d3, d4] }
  | _ => none }
def SearchAgainWrongFalsely : Prop := searchAgainRow.holds Tryz.pinned (OpenSpec.ofChange searchAgainWrong)

/-- 'ostlerlaw32.SearchMany': WHATEVER THE INPUT: true; the input reads as it did. -/
def searchManySpec : ChangeSpec := { name := "searchMany", fn := fun _ => fun
  | [d1, d2, d3, d4] => { results := [.lit (.bool true)], args := [d1, d2, d3, d4] }
  | _ => none }
def searchManyRow : OpenClaim := { program := "ytcjmpobccbnpkaagreat", sum := "0bd4182229124213a45ecfba59e5d46be8f2af395951fd2212e7498c257cd7f1", func := "ostler/ostlerlaw32.SearchMany", spec := "searchMany", unfollowed := true, recurses := true, apart := false }
def SearchManySaid : Prop := searchManyRow.holds Tryz.pinned (OpenSpec.ofChange searchManySpec)

/-- ITS FALSE NEIGHBOUR: 'it returns false'. Refute it at one input. -/
def searchManyWrong : ChangeSpec := { name := "searchMany", fn := fun _ => fun
  | [d1, d2, d3, d4] => { results := [.lit (.bool false)], args := [d1, d2, d3, d4] }
  | _ => none }
def SearchManyWrongFalsely : Prop := searchManyRow.holds Tryz.pinned (OpenSpec.ofChange searchManyWrong)

/- THE SECOND FORM. 'bulk': how many values and letters a reading holds, each counted each time it is reached (what is shared counts as often as it is met; a slice's spare places count too). A statement '..UptoSaid' is the law's where the arguments, and the package variables that the reading takes, are together of bulk at most 1048576: NARROWER than '..Said'. Prove '..Said' where nothing that the law and all that it calls make is longer than what came in: it says more and counts as full. Else prove '..UptoSaid'. A law counts once. -/
mutual
def uptoBulk {H : Type} : DataW H → Nat
  | .lit (.string bytes) => bytes.length + 1
  | .lit _ => 1
  | .nil => 1
  | .ptr d => uptoBulk d + 1
  | .slice elems spare => uptoBulkAll elems + uptoBulkAll spare + 1
  | .agg parts => uptoBulkAll parts + 1
  | .iface _ d => uptoBulk d + 1
  | .map entries => uptoBulkEntries entries + 1
  | .held _ => 1
def uptoBulkAll {H : Type} : List (DataW H) → Nat
  | [] => 0
  | d :: r => uptoBulk d + uptoBulkAll r
def uptoBulkEntries {H : Type} : List (Lit × DataW H) → Nat
  | [] => 0
  | x :: r => uptoBulkEntry x + uptoBulkEntries r
def uptoBulkEntry {H : Type} : Lit × DataW H → Nat
  | (.string bytes, d) => bytes.length + uptoBulk d + 1
  | (_, d) => uptoBulk d + 1
 end
def uptoSmall : (H : Type) → List (DataW H) → Bool := fun _ ds => decide (uptoBulkAll ds ≤ 1048576)
def OpenSpec.upto (s : _root_.Go.ChangeSpec) : _root_.Go.OpenSpec := { _root_.Go.OpenSpec.ofChange s with cond := some uptoSmall }

/-- 'ostlerlaw32.SearchWrong', WHERE WHAT IT READS IS OF BULK AT MOST 1048576: true; the input reads as it did. -/
def searchWrongUptoRow : OpenClaim := { program := "ytcjmpobccbnpkaagreat", sum := "0bd4182229124213a45ecfba59e5d46be8f2af395951fd2212e7498c257cd7f1", func := "ostler/ostlerlaw32.SearchWrong", spec := "searchWrong", unfollowed := true, recurses := true, apart := false, narrowed := true }
def SearchWrongUptoSaid : Prop := searchWrongUptoRow.holds Tryz.pinned (OpenSpec.upto searchWrongSpec)

/-- 'ostlerlaw32.SearchLazy', WHERE WHAT IT READS IS OF BULK AT MOST 1048576: true; the input reads as it did. -/
def searchLazyUptoRow : OpenClaim := { program := "ytcjmpobccbnpkaagreat", sum := "0bd4182229124213a45ecfba59e5d46be8f2af395951fd2212e7498c257cd7f1", func := "ostler/ostlerlaw32.SearchLazy", spec := "searchLazy", unfollowed := true, recurses := true, apart := false, narrowed := true }
def SearchLazyUptoSaid : Prop := searchLazyUptoRow.holds Tryz.pinned (OpenSpec.upto searchLazySpec)

/-- 'ostlerlaw32.SearchTells', WHERE WHAT IT READS IS OF BULK AT MOST 1048576: true; the input reads as it did. -/
def searchTellsUptoRow : OpenClaim := { program := "ytcjmpobccbnpkaagreat", sum := "0bd4182229124213a45ecfba59e5d46be8f2af395951fd2212e7498c257cd7f1", func := "ostler/ostlerlaw32.SearchTells", spec := "searchTells", unfollowed := true, recurses := true, apart := false, narrowed := true }
def SearchTellsUptoSaid : Prop := searchTellsUptoRow.holds Tryz.pinned (OpenSpec.upto searchTellsSpec)

/-- 'ostlerlaw32.SearchDecides', WHERE WHAT IT READS IS OF BULK AT MOST 1048576: true; the input reads as it did. -/
def searchDecidesUptoRow : OpenClaim := { program := "ytcjmpobccbnpkaagreat", sum := "0bd4182229124213a45ecfba59e5d46be8f2af395951fd2212e7498c257cd7f1", func := "ostler/ostlerlaw32.SearchDecides", spec := "searchDecides", unfollowed := true, recurses := true, apart := false, narrowed := true }
def SearchDecidesUptoSaid : Prop := searchDecidesUptoRow.holds Tryz.pinned (OpenSpec.upto searchDecidesSpec)

/-- 'ostlerlaw32.SearchCounts', WHERE WHAT IT READS IS OF BULK AT MOST 1048576: true; the input reads as it did. -/
def searchCountsUptoRow : OpenClaim := { program := "ytcjmpobccbnpkaagreat", sum := "0bd4182229124213a45ecfba59e5d46be8f2af395951fd2212e7498c257cd7f1", func := "ostler/ostlerlaw32.SearchCounts", spec := "searchCounts", unfollowed := true, recurses := true, apart := false, narrowed := true }
def SearchCountsUptoSaid : Prop := searchCountsUptoRow.holds Tryz.pinned (OpenSpec.upto searchCountsSpec)

/-- 'ostlerlaw32.SearchAgain', WHERE WHAT IT READS IS OF BULK AT MOST 1048576: true; the input reads as it did. -/
def searchAgainUptoRow : OpenClaim := { program := "ytcjmpobccbnpkaagreat", sum := "0bd4182229124213a45ecfba59e5d46be8f2af395951fd2212e7498c257cd7f1", func := "ostler/ostlerlaw32.SearchAgain", spec := "searchAgain", unfollowed := true, recurses := true, apart := false, narrowed := true }
def SearchAgainUptoSaid : Prop := searchAgainUptoRow.holds Tryz.pinned (OpenSpec.upto searchAgainSpec)

/-- 'ostlerlaw32.SearchMany', WHERE WHAT IT READS IS OF BULK AT MOST 1048576: true; the input reads as it did. -/
def searchManyUptoRow : OpenClaim := { program := "ytcjmpobccbnpkaagreat", sum := "0bd4182229124213a45ecfba59e5d46be8f2af395951fd2212e7498c257cd7f1", func := "ostler/ostlerlaw32.SearchMany", spec := "searchMany", unfollowed := true, recurses := true, apart := false, narrowed := true }
def SearchManyUptoSaid : Prop := searchManyUptoRow.holds Tryz.pinned (OpenSpec.upto searchManySpec)

end Rows
end Go.Proofs.YtcjmpobccbnpkaaGreat
