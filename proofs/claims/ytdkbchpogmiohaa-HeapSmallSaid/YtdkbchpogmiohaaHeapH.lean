/-
  The activity order: the closures of Next.
-/
import Derived.Test.YtdkbchpogmiohaaHeapG
namespace Go.Proofs.Ytdkbchpogmiohaa
open Go.RowKit

/-! ### the open positions, as plain data -/
/-- The variables at given positions. -/
def vs (heap xs : List Int) : List Int := xs.map fun p => nth heap p.toNat
theorem vs_length (heap xs : List Int) : (vs heap xs).length = xs.length := by simp [vs]
theorem vs_nth {heap xs : List Int} {k : Nat} (hk : k < xs.length) : nth (vs heap xs) k = nth heap (nth xs k).toNat := by
  rw [nth_eq (by simpa [vs] using hk), nth_eq hk]; simp [vs]
theorem vs_swp {heap xs : List Int} {i k : Nat} (hi : i < xs.length) (hk : k < xs.length) : vs heap (swp xs i k) = swp (vs heap xs) i k := by
  unfold swp
  rw [vs_nth hi, vs_nth hk]
  simp [vs, List.map_set]
theorem swp_perm {xs : List Int} {i k : Nat} (hi : i < xs.length) (hk : k < xs.length) : (swp xs i k).Perm xs := by
  have := (Array.swap_perm (xs := xs.toArray) (i := i) (j := k) (by simpa using hi) (by simpa using hk)).toList
  simpa [swp, Array.swap, nth_eq hi, nth_eq hk] using this
theorem swp_length (xs : List Int) (i k : Nat) : (swp xs i k).length = xs.length := by simp [swp]

/-- The open positions lie in memory: the variable at q. -/
structure OpenAt (w : World) (F : Nat → Prop) (q : Nat) (A : Option Addr) (m c : Nat) (xs : List Int) : Prop where
  hq : F q
  blk : w.heap[q]? = some (.cells #[.slice A m c] 37 (0, 0))
  own : Own w F 3 1 (.slice A m c) m (ints xs)
  apart : ¬ row (.slice A m c) q
section
variable {w w' : World} {F G : Nat → Prop} {b ga gh gp n np q q0 : Nat} {acts : List Int} {inc : Int} {heap pos : List Int} {A : Option Addr} {m c : Nat} {xs : List Int}
theorem OpenAt.c0 (e : OpenAt w F q A m c xs) : w.cell? ⟨q, 0, none⟩ = some (.slice A m c) := by rw [cell_of_row w q 0 _ _ _ e.blk]; rfl
theorem OpenAt.len (e : OpenAt w F q A m c xs) : xs.length = m := by have := e.own.1; simpa [ints_length] using this
theorem OpenAt.keep (e : OpenAt w F q A m c xs) (hk : ∀ g, g < w.heap.size → F g → w'.heap[g]? = w.heap[g]?) : OpenAt w' F q A m c xs :=
  { e with
    blk := (hk q (lt_of_block e.blk) e.hq).trans e.blk
    own := e.own.keep fun g hg _ hF => hk g hg hF }
theorem OpenAt.drewN (e : OpenAt w F q A m c xs) (k : Nat) : OpenAt (w.drewN k) F q A m c xs := e.keep fun _ _ _ => rfl

set_option maxRecDepth 100000 in
set_option maxHeartbeats 4000000 in
theorem less_any (ho : OrdAt w F b ga gh gp n np acts inc heap pos) (hq : w.cell? ⟨q0, 0, none⟩ = some (.pointer (some ⟨b, 0, none⟩))) (hx : OpenAt w G q A m c xs) {i k : Nat} (hi : i < m) (hk : k < m)
    {p r : Nat} (hp : nth xs i = p) (hr : nth xs k = r) (hpn : p < n) (hrn : r < n) :
    Calls Try.prog 34 #[.int .i64 i, .int .i64 k, .pointer (some ⟨q0, 0, none⟩), .pointer (some ⟨q, 0, none⟩)] w fun r w' => r = .returned (.bool (ahead acts (hat (vs heap xs) i) (hat (vs heap xs) k))) ∧ ∃ z, w' = w.drewN z := by
  have hl := hx.len
  have c2 := ho.c2
  have d0 := hx.c0
  have hs := ho.small
  obtain ⟨x, hx1, x1, xn, _⟩ := ho.inv.fw p hpn
  obtain ⟨y, hy1, y1, yn, _⟩ := ho.inv.fw r hrn
  have hati : hat (vs heap xs) i = x := by simp [hat, vs_nth (show i < xs.length by omega), hp, hx1]
  have hatk : hat (vs heap xs) k = y := by simp [hat, vs_nth (show k < xs.length by omega), hr, hy1]
  rw [hati, hatk]
  obtain ⟨g, he, _, _, e1, _⟩ := hx.own.cell (j := i) (by omega)
  subst he
  obtain ⟨_, he, _, _, e2, _⟩ := hx.own.cell (j := k) (by omega)
  injection he with he; injection he with he _ _; subst he
  obtain ⟨_, he, _, _, e3, _⟩ := ho.oh.cell (j := p) (by omega)
  injection he with he; injection he with he _ _; subst he
  obtain ⟨_, he, _, _, e4, _⟩ := ho.oh.cell (j := r) (by omega)
  injection he with he; injection he with he _ _; subst he
  have hlh := ho.inv.hl
  rw [ints_nth (by omega), hp] at e1
  rw [ints_nth (by omega), hr] at e2
  rw [ints_nth (by omega), hx1] at e3
  rw [ints_nth (by omega), hy1] at e4
  have z1 : (i : Int) < (m : Int) := by omega
  have z2 : (k : Int) < (m : Int) := by omega
  have z3 : (p : Int) < (n : Int) := by omega
  have z4 : (r : Int) < (n : Int) := by omega
  have bef : Hid (∀ z, Calls Try.prog 35 #[.pointer (some ⟨b, 0, none⟩), .int .i64 x, .int .i64 y] (w.drewN z) fun r w' => r = .returned (.bool (ahead acts x y)) ∧ ∃ m, w' = w.drewN m) := fun z =>
    Calls.quiet_of (before_any (w := w.drewN z) ho.c0 (ho.oa.rd.drewN z) (by have := ho.hnp; omega) (by have := ho.hnp; omega) (by have := ho.hnp; omega))
  clear hl hx1 hy1 hati hatk hlh hp hr ho hx
  go_enter Try.func34, Try.ntmps34
  go_wp2_with fail
  go_quiet (first | (go_at_call 35; exact bef.out _))
  go_wp2_with fail
  go_ret
  exact ⟨rfl, _, rfl⟩
end
end Go.Proofs.Ytdkbchpogmiohaa
