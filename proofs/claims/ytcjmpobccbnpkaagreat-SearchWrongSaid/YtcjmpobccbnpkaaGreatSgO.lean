/-
  Chapter 32: a lazy function whose step never fits (SearchWrong).
-/
import Derived.Test.YtcjmpobccbnpkaaGreatSgN
namespace Go.Proofs.YtcjmpobccbnpkaaGreat
open Go.RowKit

def bad9 : Stp := ⟨3, ⟨[9], [1], 1⟩, []⟩
theorem bad9_no : fitsB 7 bad9.c = false := by decide +kernel
set_option maxRecDepth 100000 in
theorem wrong1_any {w : World} {A : Option Addr} {n c : Nat} :
    Calls Tryz.prog 16 #[.slice A n c] w fun r w' => (∃ B e, r = .returned (.slice B 1 e) ∧ StsRd w' (fun g => w.heap.size ≤ g) (fun g => w.heap.size ≤ g) B 1 e [bad9]) ∧ Below w.heap.size w w' := by
  obtain ⟨z0, hz0⟩ : ∃ z, w.heap.size = z := ⟨_, rfl⟩
  obtain ⟨X0, hX0, bX0, rX0, sX0⟩ := lit_step w [9] (by decide) (by decide)
  obtain ⟨X1, hX1, bX1, rX1, sX1⟩ := lit_step X0 [1] (by decide) (by decide)
  rw [sX0] at rX1 sX1
  rw [hz0] at rX0 sX0 rX1 sX1
  obtain ⟨X2, hX2, bX2, kX2, sX2⟩ := alloc_step X1 (.cells (Six.cells ⟨.int .u8 3, .slice (some ⟨z0, 0, none⟩) 1 1, .slice (some ⟨z0 + 1, 0, none⟩) 1 1, .int .i64 1, .slice none 0 0, .slice none 0 0⟩).toArray 52)
  have R2 := rd_lit6 kX2
  rw [sX1] at R2
  have r0 : Rd X2 (fun g => z0 ≤ g) 1 (.slice (some ⟨z0, 0, none⟩) 1 1) 1 (ints [9]) := ((rX0.below bX1).below bX2).mono fun g _ h => by omega
  have r1 : Rd X2 (fun g => z0 ≤ g) 1 (.slice (some ⟨z0 + 1, 0, none⟩) 1 1) 1 (ints [1]) := (rX1.below bX2).mono fun g _ h => by omega
  have HS := hid (show StsRd X2 (fun g => z0 ≤ g) (fun g => z0 ≤ g) (some ⟨z0 + 1 + 1, 0, none⟩) 1 1 [bad9] from
    ⟨[⟨.int .u8 3, .slice (some ⟨z0, 0, none⟩) 1 1, .slice (some ⟨z0 + 1, 0, none⟩) 1 1, .int .i64 1, .slice none 0 0, .slice none 0 0⟩], by rw [flat6_one]; exact R2.mono fun g _ h => by omega, (Sts.nil X2 _).snoc ⟨_, 1, 1, _, 1, 1, none, 0, rfl, ⟨⟨_, 1, 1, _, 1, 1, rfl, r0, r1⟩, by simp [I64, bad9]⟩, Rd.empty _ _ _⟩, rfl⟩)
  have HB := hid (bX0.trans ((bX1.trans (bX2.mono bX1.size)).mono bX0.size))
  have H0 := hid hX0
  have H1 := hid hX1
  have H2 := hid hX2
  clear bX0 bX1 bX2 rX0 rX1 kX2 R2 r0 r1 sX2 hX0 hX1 hX2 sX0 sX1
  go_enter Tryz.func16, Tryz.ntmps16
  go_wp2_with fail
  rw [show w.alloc (.cells #[.int .i64 9] 3) = X0 from H0.out, show X0.alloc (.cells #[.int .i64 1] 3) = X1 from H1.out, show X1.alloc (.cells #[.int .u8 3, .slice (some ⟨z0, 0, none⟩) 1 1, .slice (some ⟨z0 + 1, 0, none⟩) 1 1, .int .i64 1, .slice none 0 0, .slice none 0 0] 52) = X2 from H2.out]
  go_ret
  rw [hz0]
  exact ⟨⟨_, _, rfl, HS.out⟩, hz0 ▸ HB.out⟩
/-- The lazy function of SearchWrong. -/
def badLazy : Lazy := ⟨.func (.func 16) #[] #[], fun _ => False, fun _ _ => True, fun _ s => s = some bad9⟩
theorem badLazy_ok {a : Ask} (h : a.n = 7) : LazyOk a badLazy where
  keep := fun _ _ _ => trivial
  ans := fun {X s} hs => by
    obtain rfl : s = bad9 := by injection hs
    refine ⟨by simp [bad9, I64], by decide, by decide, by decide, fun hf => ?_⟩
    rw [h, bad9_no] at hf
    cases hf
  call := .inr ⟨_, #[], #[], rfl, enters_of Tryz.func16 (by kernel_rfl) rfl, fun w k X A n c _ _ _ _ => by
    refine wrong1_any.mono ?_
    rintro r w' ⟨⟨B, e, rfl, hs⟩, hb⟩
    exact ⟨⟨B, 1, e, rfl, .inr ⟨rfl, bad9, hs.mono (fun _ _ h => h) (fun _ _ h => .inr h), rfl, trivial⟩⟩, Mod.of_below hb⟩⟩
/-- The search with it: rejected, or there is no model. -/
theorem ssolve_wrong {w : World} {F : Nat → Prop} {sb tb eb ob pm : Nat} {Bs : List Pb} {S : Sol} (h : SolP w F sb tb eb ob pm S) (hK : Kept 7 Bs S) (hG : S.E.cs.length ≤ 400000) (hL : S.log.length ≤ 400000) :
    Calls Tryz.prog 10 #[.pointer (some ⟨sb, 0, none⟩), .slice none 0 0, .int .i64 4000, .func (.func 16) #[] #[]] w fun r w' => (∃ sat A1 n1 c1 A2 n2 c2 e, r = .returned (.tuple #[.agg #[.bool sat, .slice A1 n1 c1, .slice A2 n2 c2], .int .i64 e]) ∧ (e = 2 ∨ (e = 0 ∧ modelsN Bs [] 128 = 0))) ∧ Mod F w w' := by
  have hs := ssolve_any (z := badLazy) (i0 := 0) (asm := []) (Hs := []) (Lz := fun _ => False) (most := 4000) h (badLazy_ok rfl) trivial (fun g hg => hg.elim) (Rd.empty _ (fun _ => False) none) (fun g hg => hg.elim) (fun x hx => by cases hx) (by omega) hK.base (by omega) (by omega) hG hL
  rw [show ((4000 : Nat) : Int) = 4000 from rfl] at hs
  refine hs.mono ?_
  rintro r w' ⟨⟨sat, A1, n1, c1, A2, n2, c2, e, rfl, S', F', k, i', new, M, co, hso, hlf, _⟩, hm⟩
  refine ⟨⟨sat, A1, n1, c1, A2, n2, c2, e, rfl, ?_⟩, hm.mono fun g _ hg => hg.elim id fun h => h.elim⟩
  have hokH : OkN 7 [] := fun p hp => by cases hp
  cases hso with
  | sat hi X hX hb hn ha hall hcal hz => cases hz
  | unsat hi co hs n0 hn hr =>
    refine .inr ⟨rfl, Nat.eq_zero_of_not_pos fun h0 => ?_⟩
    obtain ⟨s, h1, h2⟩ := (models_iff hK.okBs (ls := []) (fun x hx => by cases hx)).1 h0
    exact core_no hlf (by show 7 ≤ 65536; omega) hK.ok hokH hn hr (fun x hx => by cases hs.subset hx) (hK.imp s h1) (fun p hp => by cases hp) fun x hx => by cases hs.subset hx
  | many hmany =>
    have := hmany _ (Open.all (n := 7) ⟨[], S.E.cs, S.log, 7, 4000, [], fun _ => False⟩ rfl)
    simp at this
  | arg X s hs hn => exact .inl rfl
end Go.Proofs.YtcjmpobccbnpkaaGreat
