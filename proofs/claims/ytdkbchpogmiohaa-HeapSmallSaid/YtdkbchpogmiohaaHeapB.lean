/-
  The activity order: swap.
-/
import Derived.Test.YtdkbchpogmiohaaHeapA
import Derived.BigRegion
namespace Go.Proofs.Ytdkbchpogmiohaa
open Go.RowKit

/-- Two places of a list swapped. -/
def swp (xs : List Int) (i k : Nat) : List Int := (xs.set i (nth xs k)).set k (nth xs i)
set_option maxRecDepth 100000 in
set_option maxHeartbeats 4000000 in
theorem swap_any {w : World} {F : Nat → Prop} {b gh gp n ch np cp : Nat} {heap pos : List Int} (c2 : w.cell? ⟨b, 2, none⟩ = some (.slice (some ⟨gh, 0, none⟩) n ch)) (c3 : w.cell? ⟨b, 3, none⟩ = some (.slice (some ⟨gp, 0, none⟩) np cp))
    (hh : Own w F 3 1 (.slice (some ⟨gh, 0, none⟩) n ch) n (ints heap)) (hp : Own w F 3 1 (.slice (some ⟨gp, 0, none⟩) np cp) np (ints pos)) (hb : gh ≠ b) (hb' : gp ≠ b) (hg : gh ≠ gp)
    {i k x y : Nat} (hi : i < n) (hk : k < n) (hik : i ≠ k) (hx : nth heap i = x) (hy : nth heap k = y) (hxn : x < np) (hyn : y < np) (hxy : x ≠ y) (_hn : np ≤ 65537) (_hnn : n ≤ 65537) :
    Calls Try.prog 49 #[.pointer (some ⟨b, 0, none⟩), .int .i64 i, .int .i64 k] w fun r w' => r = .returned (.tuple #[]) ∧
      Own w' F 3 1 (.slice (some ⟨gh, 0, none⟩) n ch) n (ints (swp heap i k)) ∧ Own w' F 3 1 (.slice (some ⟨gp, 0, none⟩) np cp) np (ints ((pos.set y i).set x k)) ∧ Mod (fun g => g = gh ∨ g = gp) w w' := by
  have hlh : heap.length = n := by have := hh.1; simpa [ints_length] using this
  have hlp : pos.length = np := by have := hp.1; simpa [ints_length] using this
  obtain ⟨_, he, _, _, e1, f1⟩ := hh.cell (j := i) (by omega)
  injection he with he; injection he with he _ _; subst he
  obtain ⟨_, he, _, _, e2, f2⟩ := hh.cell (j := k) (by omega)
  injection he with he; injection he with he _ _; subst he
  obtain ⟨_, he, _, _, e3, f3⟩ := hp.cell (j := x) (by omega)
  injection he with he; injection he with he _ _; subst he
  obtain ⟨_, he, _, _, e4, f4⟩ := hp.cell (j := y) (by omega)
  injection he with he; injection he with he _ _; subst he
  rw [ints_nth (by omega), hx] at e1
  rw [ints_nth (by omega), hy] at e2
  rw [ints_nth (by omega)] at e3 e4
  have Hh := hid hh
  have Hp := hid hp
  have hin : (i : Int) < (n : Int) := by omega
  have hkn : (k : Int) < (n : Int) := by omega
  have hxn' : (x : Int) < (np : Int) := by omega
  have hyn' : (y : Int) < (np : Int) := by omega
  have q1 : (gh = b) = False := by simpa using hb
  have q2 : (gp = b) = False := by simpa using hb'
  have q3 : (gh = gp) = False := by simpa using hg
  have q4 : (gp = gh) = False := by simpa using hg.symm
  have q5 : (b = gh) = False := by simpa using hb.symm
  have q6 : (b = gp) = False := by simpa using hb'.symm
  clear hh hp hlh hlp
  go_enter Try.func49, Try.ntmps49
  go_wp2_with fail
  go_region
  as_aux_lemma =>
    go_wp2_with fail
    go_region
    as_aux_lemma =>
      go_wp2_with fail
      go_end0
      have a1 := (Hh.out.stored (j := i) (.int .i64 y)).stored (j := k) (.int .i64 x)
      rw [← ints_set, ← ints_set] at a1
      have m1 : Mod (fun g => g = gh) w ((w.setCell ⟨gh, i, none⟩ (.int .i64 y)).setCell ⟨gh, k, none⟩ (.int .i64 x)) := ((Mod.refl (fun g => g = gh) w).setCell (p := ⟨gh, i, none⟩) (.inl rfl) _).setCell (p := ⟨gh, k, none⟩) (.inl rfl) _
      have b1 := ((Hp.out.mod m1 fun g _ hr _ e => by
        have := hr.2
        dsimp only at this
        omega).stored (j := y) (.int .i64 i)).stored (j := x) (.int .i64 k)
      rw [← ints_set, ← ints_set] at b1
      have m2 : Mod (fun g => g = gp) ((w.setCell ⟨gh, i, none⟩ (.int .i64 y)).setCell ⟨gh, k, none⟩ (.int .i64 x)) ((((w.setCell ⟨gh, i, none⟩ (.int .i64 y)).setCell ⟨gh, k, none⟩ (.int .i64 x)).setCell ⟨gp, y, none⟩ (.int .i64 i)).setCell ⟨gp, x, none⟩ (.int .i64 k)) := ((Mod.refl (fun g => g = gp) _).setCell (p := ⟨gp, y, none⟩) (.inl rfl) _).setCell (p := ⟨gp, x, none⟩) (.inl rfl) _
      have a2 := a1.mod m2 fun g _ hr _ e => by
        have := hr.2
        dsimp only at this
        omega
      refine ⟨rfl, ?_, b1, ((m1.mono fun g _ h => .inl h).trans (m2.mono fun g _ h => .inl (.inr h))).drew.drew⟩
      unfold swp
      rw [hx, hy]
      exact a2

end Go.Proofs.Ytdkbchpogmiohaa
