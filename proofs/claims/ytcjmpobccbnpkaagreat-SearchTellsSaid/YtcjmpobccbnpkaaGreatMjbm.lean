/-
 Chapter 32: several texts in one (SeY).
-/
import Derived.Test.YtcjmpobccbnpkaaGreatMjbl
import Derived.Test.YtcjmpobccbnpkaaGreatTk
import Derived.Test.YtcjmpobccbnpkaaGreatTkU
namespace Go.Proofs.YtcjmpobccbnpkaaGreat
section
open Go.RowKit
set_option maxRecDepth 100000 in
set_option maxHeartbeats 4000000 in
theorem scall_any {w : World} {F : Nat → Prop} {rb sb tb eb ob pm left k i : Nat} {va : Value} {a : Ask} {z : Lazy} {S : Sol} (h : SolP w F sb tb eb ob pm S) (hrun : RunAt w rb sb va z.v left) (hrb : ¬ F rb)
  (hz : LazyOk a z) (hI : z.I w i) (hP : ∀ g, z.P g → g < w.heap.size ∧ ¬ F g ∧ g ≠ rb) (hfx : Fixed a S) (hR : Run a S.E.cs S.log S.T left k) (hcal : ∀ p ∈ S.E.cs, p.Calm S.T.lits) :
  Calls Tryz.prog 69 #[.pointer (some ⟨rb, 0, none⟩)] w fun r w' => (∃ b e, r = .returned (.tuple #[.bool b, .int .i64 e]) ∧ ∃ S' l' i', Called a z S left k i S' l' i' b e ∧ SolP w' (fun g => F g ∨ w.heap.size ≤ g) sb tb eb ob pm S' ∧ RunAt w' rb sb va z.v l' ∧ z.I w' i') ∧ Mod (fun g => F g ∨ g = rb ∨ z.P g) w w' := by
 obtain ⟨r0, r1, r2, r3⟩ := hrun.four
 obtain ⟨hl1, hl2, hl3⟩ := hR.sizes
 have hmost := hfx.most
 have hn8 := hfx.n8
 have H := hid h.restrict
 have HrbF := hid hrb
 have HrbL := hid hrun.lt
 have HRun := hid hrun
 have Hz := hid hz
 have HI := hid hI
 have HP := hid hP
 have Hfx := hid hfx
 have HR := hid hR
 have Hcal := hid hcal
 have Hwf := hid h.trail.wf
 have hTv := hR.vars
 have Hll : Hid (∀ l ∈ S.T.lits, l.natAbs ≤ a.n) := hid fun l hl => by
  obtain ⟨e, he, rfl⟩ := List.mem_map.1 hl
  have := (h.trail.wf.lit e he).2
  rw [hTv] at this
  exact this
 obtain ⟨hv, hno⟩ := hz.call
 have Hno := hid hno
 have Hv := hid hv
 rw [hv] at r3
 clear h hrb hrun hz hI hP hfx hR hcal hno hv
 go_enter Tryz.func69, Tryz.ntmps69
 go_wp2_with fail
 go_ret2
 exact ⟨⟨false, 0, rfl, S, left, i, .no (Hno.o _), H.o.mono fun g hg => .inl hg.1, HRun.o, HI.o⟩, Mod.refl _ _⟩
end
end Go.Proofs.YtcjmpobccbnpkaaGreat
