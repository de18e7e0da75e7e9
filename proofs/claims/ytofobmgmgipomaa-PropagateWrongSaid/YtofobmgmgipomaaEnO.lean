/-
  Walks: the engine's none where there is no engine.
-/
import Derived.Test.YtofobmgmgipomaaMgt
namespace Go.Proofs.Ytofobmgmgipomaa
open Go.RowKit
attribute [local go_sem] Oper.semAt_some

theorem enone_nil {w : World} : Calls Try.prog 35 #[.pointer none] w fun r w' => r = .returned (.bool true) ∧ w = w' := by
  go_enter Try.func35, Try.ntmps35
  go_wp2_with fail
  go_ret
  exact ⟨rfl, rfl⟩
theorem enone_empty {w : World} {b : Nat} (h : w.cell? ⟨b, 2, none⟩ = some (.map none)) : Calls Try.prog 35 #[.pointer (some ⟨b, 0, none⟩)] w fun r w' => r = .returned (.bool true) ∧ w = w' := by
  go_enter Try.func35, Try.ntmps35
  go_wp2_with fail
  go_ret
  exact ⟨rfl, rfl⟩
theorem elen_nil {w : World} : Calls Try.prog 16 #[.pointer none] w fun r w' => r = .returned (.int .i64 0) ∧ w = w' := by
  go_enter Try.func16, Try.ntmps16
  go_wp2_with (refine enone_nil.mono ?_; rintro r w4 ⟨rfl, rfl⟩)
  go_ret
  exact ⟨rfl, rfl⟩
theorem elen_empty {w : World} {b : Nat} (h : w.cell? ⟨b, 2, none⟩ = some (.map none)) : Calls Try.prog 16 #[.pointer (some ⟨b, 0, none⟩)] w fun r w' => r = .returned (.int .i64 0) ∧ w = w' := by
  have hn := hid (enone_empty h)
  go_enter Try.func16, Try.ntmps16
  go_wp2_with (refine hn.out.mono ?_; rintro r w4 ⟨rfl, rfl⟩)
  go_ret
  exact ⟨rfl, rfl⟩
theorem eadd_none {w : World} {q : Option Addr} {A B : Option Addr} {n cn m cm : Nat} {bd : Int} (hn : ∀ W : World, Below w.heap.size w W → Calls Try.prog 35 #[.pointer q] W fun r w' => r = .returned (.bool true) ∧ W = w') :
    Calls Try.prog 15 #[.pointer q, .agg #[.slice A n cn, .slice B m cm, .int .i64 bd]] w fun r w' => r = .returned (.int .i64 1) ∧ Below w.heap.size w w' := by
  obtain ⟨X0, hX0, bX0, k0, s0⟩ := alloc_step w (.cells #[.pointer q] 26)
  obtain ⟨X1, hX1, bX1, k1, s1⟩ := alloc_step X0 (.cells #[.slice A n cn, .slice B m cm, .int .i64 bd] 36)
  have hb := bX0.trans (bX1.mono bX0.size)
  have HN := hid (hn X1 hb)
  have d0 := keep_cell (Bx.of_block k0).1 bX1
  have HB := hid hb
  clear hn k0 k1 bX0 bX1 hb
  go_enter Try.func15, Try.ntmps15
  go_wp2_with (refine HN.out.mono ?_; rintro r w4 ⟨rfl, rfl⟩)
  go_ret
  exact ⟨rfl, HB.out⟩
end Go.Proofs.Ytofobmgmgipomaa
