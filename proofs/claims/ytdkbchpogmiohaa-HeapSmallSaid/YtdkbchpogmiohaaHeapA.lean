/-
  The activity order in memory; before.
-/
import Derived.Test.YtdkbchpogmiohaaTwalkM
import Derived.Deep.QuietTactic
import Derived.BigQuiet
namespace Go.Proofs.Ytdkbchpogmiohaa
open Go.RowKit

/-- Which of two variables comes first. -/
def ahead (acts : List Int) (x y : Nat) : Bool := decide (nth acts y < nth acts x) || (nth acts x == nth acts y && decide (x < y))

set_option maxRecDepth 100000 in
set_option maxHeartbeats 4000000 in
theorem before_any {w : World} {F : Nat → Prop} {b : Nat} {va : Value} {n : Nat} {acts : List Int} (c0 : w.cell? ⟨b, 0, none⟩ = some va) (ha : Rd w F 1 va n (ints acts)) {x y : Nat} (hx : x < n) (hy : y < n) (_hn : n ≤ 65537) :
    Calls Try.prog 35 #[.pointer (some ⟨b, 0, none⟩), .int .i64 x, .int .i64 y] w fun r w' => r = .returned (.bool (ahead acts x y)) ∧ ∃ m, w' = w.drewN m := by
  obtain ⟨_, A, cap, rfl, hc, hm, _⟩ := id ha
  obtain ⟨hln, hcell⟩ := ha.cell
  obtain ⟨g, o, rfl, _, hg, cx⟩ := hcell x hx
  obtain ⟨g', o', he, _, _, cy⟩ := hcell y hy
  injection he with he
  injection he with he1 he2
  subst he1 he2
  have hx' : (x : Int) < (n : Int) := by omega
  have hy' : (y : Int) < (n : Int) := by omega
  clear hcell ha
  have ea : ahead acts x y = (decide (nth acts y < nth acts x) || (nth acts x == nth acts y && decide (x < y))) := rfl
  rw [ea]
  clear ea
  generalize nth acts x = p at *
  generalize nth acts y = q at *
  rcases Int.lt_trichotomy q p with h | h | h
  · have e : (decide (q < p) || (p == q && decide (x < y))) = true := by simp [h]
    rw [e]
    clear e
    go_enter Try.func35, Try.ntmps35
    go_wp2_with fail
    go_quiet (fail)
    go_wp2_with fail
    go_ret
    exact ⟨rfl, _, rfl⟩
  · subst h
    have e : (decide (q < q) || (q == q && decide (x < y))) = decide (x < y) := by simp
    rw [e]
    clear e
    go_enter Try.func35, Try.ntmps35
    go_wp2_with fail
    go_quiet (fail)
    go_wp2_with fail
    go_ret
    exact ⟨by simp, _, rfl⟩
  · have e : (decide (q < p) || (p == q && decide (x < y))) = false := by
      have h1 : ¬ q < p := by omega
      have h2 : ¬ p = q := by omega
      simp [h1, h2]
    rw [e]
    have h1 : decide (q < p) = false := by simp; omega
    have h2 : (p == q) = false := by simp; omega
    clear e
    go_enter Try.func35, Try.ntmps35
    go_wp2_with fail
    go_quiet (fail)
    go_wp2_with fail
    go_ret
    exact ⟨rfl, _, rfl⟩

end Go.Proofs.Ytdkbchpogmiohaa
