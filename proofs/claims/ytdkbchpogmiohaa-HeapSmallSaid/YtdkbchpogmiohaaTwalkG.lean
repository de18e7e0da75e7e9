/-
  Walks: Imply.
-/
import Derived.Test.YtdkbchpogmiohaaTwalkF
namespace Go.Proofs.Ytdkbchpogmiohaa
open Go.RowKit
open Go.ChangeMaps

/-- What the closure of Imply asks of a literal of the reason. -/
def badB (T : Tr) (l x : Int) : Bool := x != l && decide (0 ≤ T.value x)
/-- May the literal be implied with this reason? -/
def Tr.can (T : Tr) (l : Int) (r : List Int) : Bool := T.freeB l && r.any (l == ·) && !r.any (badB T l)
end Go.Proofs.Ytdkbchpogmiohaa
