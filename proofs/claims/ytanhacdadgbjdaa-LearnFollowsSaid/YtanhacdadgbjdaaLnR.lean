/-
  LearnFollows: the assignment and the clauses in memory.
-/
import Derived.Test.YtanhacdadgbjdaaLnP
import Derived.BigRegion
namespace Go.Proofs.Ytanhacdadgbjdaa
open Go.RowKit

/-- Every value is -1, 0 or 1. -/
def Tri (xs : List Int) : Prop := ∀ y ∈ xs, y = 0 ∨ y = 1 ∨ y = -1
theorem Tri.set {xs : List Int} (h : Tri xs) (k : Nat) {y : Int} (hy : y = 0 ∨ y = 1 ∨ y = -1) : Tri (xs.set k y) := by
  intro z hz
  rcases List.mem_or_eq_of_mem_set hz with e | e
  · exact h z e
  · rw [e]; exact hy
theorem Tri.sv {xs : List Int} (h : Tri xs) (x : Int) : Tri (sv xs x) := by
  unfold Go.Proofs.Ytanhacdadgbjdaa.sv
  split
  · exact h.set _ (.inr (.inl rfl))
  · exact h.set _ (.inr (.inr rfl))
theorem Tri.gv {xs : List Int} (h : Tri xs) {x : Int} (hx : x.natAbs < xs.length) : gv xs x = 0 ∨ gv xs x = 1 ∨ gv xs x = -1 := by
  unfold Go.Proofs.Ytanhacdadgbjdaa.gv
  split
  · exact h _ (nth_mem (by omega))
  · have := h _ (nth_mem (xs := xs) (k := (-x).toNat) (by omega))
    omega

set_option maxRecDepth 100000 in
set_option maxHeartbeats 1000000 in
theorem set_any {w : World} {F : Nat → Prop} {g n c : Nat} {xs : List Int} {x : Int} (ho : Own w F 3 1 (.slice (some ⟨g, 0, none⟩) n c) n (ints xs)) (hx : x ≠ 0) (hl : x.natAbs < n) (hn : n ≤ 1000) :
    Calls Try.prog 13 #[.slice (some ⟨g, 0, none⟩) n c, .int .i64 x] w fun r w' => r = .returned (.tuple #[]) ∧ Own w' F 3 1 (.slice (some ⟨g, 0, none⟩) n c) n (ints (sv xs x)) ∧ Mod (fun b => b = g) w w' := by
  have hln : xs.length = n := by have := ho.1; simpa [ints_length] using this
  by_cases h1 : 0 < x
  · obtain ⟨k, rfl⟩ : ∃ k : Nat, x = k := ⟨x.toNat, by omega⟩
    have hk : k < n := by omega
    have hk' : (k : Int) < (n : Int) := by omega
    have x1 : (0 : Int) < (k : Int) := h1
    obtain ⟨_, he, _, _, e1, f1⟩ := ho.cell (j := k) (by omega)
    injection he with he; injection he with he _ _; subst he
    rw [ints_nth (by omega)] at e1
    have hs : sv xs (k : Int) = xs.set k 1 := by unfold sv; rw [if_pos h1]; rfl
    rw [hs]
    have Ho := hid ho
    clear ho hs hl hx h1 hln
    go_enter Try.func13, Try.ntmps13
    go_wp2_with fail
    go_end0
    refine ⟨rfl, ?_, (Mod.refl (fun b => b = g) w).setCell (p := ⟨g, k, none⟩) (.inl rfl) _⟩
    rw [ints_set]
    exact Ho.out.stored (j := k) _
  · obtain ⟨k, rfl⟩ : ∃ k : Nat, x = -(k : Int) := ⟨(-x).toNat, by omega⟩
    have hk : k < n := by omega
    have hk' : (k : Int) < (n : Int) := by omega
    have x1 : ((0 : Int) < -(k : Int)) = False := by simp
    have hw : IntKind.i64.wrap (- -(k : Int)) = (k : Int) := by rw [Int.neg_neg]; exact iw' (by omega) (by omega)
    obtain ⟨_, he, _, _, e1, f1⟩ := ho.cell (j := k) (by omega)
    injection he with he; injection he with he _ _; subst he
    rw [ints_nth (by omega)] at e1
    have hs : sv xs (-(k : Int)) = xs.set k (-1) := by unfold sv; rw [if_neg h1, Int.neg_neg]; rfl
    rw [hs]
    have Ho := hid ho
    clear ho hs hl hx h1 hln
    go_enter Try.func13, Try.ntmps13
    go_wp2_with fail
    go_end0
    refine ⟨rfl, ?_, (Mod.refl (fun b => b = g) w).setCell (p := ⟨g, k, none⟩) (.inl rfl) _⟩
    rw [ints_set]
    exact Ho.out.stored (j := k) _
set_option maxRecDepth 100000 in
set_option maxHeartbeats 1000000 in
theorem get_any {w : World} {F : Nat → Prop} {g n c : Nat} {xs : List Int} {x : Int} (ho : Own w F 3 1 (.slice (some ⟨g, 0, none⟩) n c) n (ints xs)) (h3 : Tri xs) (hl : x.natAbs < n) (hn : n ≤ 1000) :
    Calls Try.prog 32 #[.slice (some ⟨g, 0, none⟩) n c, .int .i64 x] w fun r w' => r = .returned (.int .i64 (gv xs x)) ∧ w = w' := by
  have hln : xs.length = n := by have := ho.1; simpa [ints_length] using this
  by_cases h1 : 0 < x
  · obtain ⟨k, rfl⟩ : ∃ k : Nat, x = k := ⟨x.toNat, by omega⟩
    have hk : k < n := by omega
    have hk' : (k : Int) < (n : Int) := by omega
    have x1 : (0 : Int) < (k : Int) := h1
    obtain ⟨_, he, _, _, e1, f1⟩ := ho.cell (j := k) (by omega)
    injection he with he; injection he with he _ _; subst he
    rw [ints_nth (by omega)] at e1
    have hs : gv xs (k : Int) = nth xs k := by unfold gv; rw [if_pos h1]; rfl
    rw [hs]
    obtain ⟨y, hy⟩ : ∃ y, nth xs k = y := ⟨_, rfl⟩
    rw [hy] at e1 ⊢
    clear ho hs hl h1 hy hln
    go_enter Try.func32, Try.ntmps32
    go_wp2_with fail
    go_ret
    exact ⟨rfl, rfl⟩
  · obtain ⟨k, rfl⟩ : ∃ k : Nat, x = -(k : Int) := ⟨(-x).toNat, by omega⟩
    have hk : k < n := by omega
    have hk' : (k : Int) < (n : Int) := by omega
    have x1 : ((0 : Int) < -(k : Int)) = False := by simp
    have hw : IntKind.i64.wrap (- -(k : Int)) = (k : Int) := by rw [Int.neg_neg]; exact iw' (by omega) (by omega)
    obtain ⟨_, he, _, _, e1, f1⟩ := ho.cell (j := k) (by omega)
    injection he with he; injection he with he _ _; subst he
    rw [ints_nth (by omega)] at e1
    have hs : gv xs (-(k : Int)) = -nth xs k := by unfold gv; rw [if_neg h1, Int.neg_neg]; rfl
    have hy3 := h3 _ (nth_mem (xs := xs) (k := k) (by omega))
    rw [hs]
    obtain ⟨y, hy⟩ : ∃ y, nth xs k = y := ⟨_, rfl⟩
    rw [hy] at e1 hy3 ⊢
    have hw2 : IntKind.i64.wrap (-y) = -y := iw' (by omega) (by omega)
    clear ho hs hl h1 hy hln hy3
    go_enter Try.func32, Try.ntmps32
    go_wp2_with fail
    go_ret
    exact ⟨rfl, rfl⟩

/-- A slice of slices of integers: the rows in blocks of F, what they name in blocks of G. -/
def DbOwn (w : World) (F G : Nat → Prop) (v : Value) (cls : List (List Int)) : Prop := ∃ rows : List Value, Own w F 23 1 v cls.length rows ∧
  ∀ (i : Nat) (cl : List Int), cls[i]? = some cl → ∃ R c, rows[i]? = some (.slice R cl.length c) ∧ Rd w G 1 (.slice R cl.length c) cl.length (ints cl)
theorem DbOwn.mod {w w' : World} {F G K : Nat → Prop} {v : Value} {cls : List (List Int)} (e : DbOwn w F G v cls) (hm : Mod K w w') (h1 : ∀ g, g < w.heap.size → F g → ¬ K g) (h2 : ∀ g, g < w.heap.size → G g → ¬ K g) : DbOwn w' F G v cls := by
  obtain ⟨rows, ho, hr⟩ := e
  refine ⟨rows, ho.mod hm fun g a _ b => h1 g a b, fun i cl hi => ?_⟩
  obtain ⟨R, c, a, b⟩ := hr i cl hi
  exact ⟨R, c, a, b.mod hm h2⟩
theorem DbOwn.below {w w' : World} {F G : Nat → Prop} {v : Value} {cls : List (List Int)} (e : DbOwn w F G v cls) (hm : Below w.heap.size w w') : DbOwn w' F G v cls := by
  obtain ⟨rows, ho, hr⟩ := e
  refine ⟨rows, ho.below hm, fun i cl hi => ?_⟩
  obtain ⟨R, c, a, b⟩ := hr i cl hi
  exact ⟨R, c, a, b.below hm⟩
theorem DbOwn.mono {w : World} {F G F' G' : Nat → Prop} {v : Value} {cls : List (List Int)} (e : DbOwn w F G v cls) (h1 : ∀ g, g < w.heap.size → F g → F' g) (h2 : ∀ g, g < w.heap.size → G g → G' g) : DbOwn w F' G' v cls := by
  obtain ⟨rows, ho, hr⟩ := e
  refine ⟨rows, ho.mono fun g a _ b => h1 g a b, fun i cl hi => ?_⟩
  obtain ⟨R, c, a, b⟩ := hr i cl hi
  exact ⟨R, c, a, b.mono h2⟩
/-- A row of it. -/
theorem DbOwn.at {w : World} {F G : Nat → Prop} {A : Option Addr} {n c : Nat} {cls : List (List Int)} (e : DbOwn w F G (.slice A n c) cls) {j : Nat} {cl : List Int} (hj : cls[j]? = some cl) :
    ∃ g R d, A = some ⟨g, 0, none⟩ ∧ F g ∧ g < w.heap.size ∧ w.cell? ⟨g, j, none⟩ = some (.slice R cl.length d) ∧ Rd w G 1 (.slice R cl.length d) cl.length (ints cl) := by
  obtain ⟨rows, ho, hr⟩ := e
  have hjl : j < cls.length := (List.getElem?_eq_some_iff.1 hj).1
  obtain ⟨A', c', hv, _⟩ := ho.form
  injection hv with h1 h2 h3
  subst h1 h2 h3
  obtain ⟨g, rfl, hF, hg, e0, _⟩ := ho.cell (j := j) (by omega)
  obtain ⟨R, d, a, b⟩ := hr j cl hj
  exact ⟨g, R, d, rfl, hF, hg, by rw [e0, a], b⟩
theorem DbOwn.len {w : World} {F G : Nat → Prop} {A : Option Addr} {n c : Nat} {cls : List (List Int)} (e : DbOwn w F G (.slice A n c) cls) : cls.length = n ∧ (n : Int) ≤ (c : Int) := by
  obtain ⟨rows, ho, hr⟩ := e
  obtain ⟨A', c', hv, h4, _⟩ := ho.form
  injection hv with h1 h2 h3
  omega
end Go.Proofs.Ytanhacdadgbjdaa
