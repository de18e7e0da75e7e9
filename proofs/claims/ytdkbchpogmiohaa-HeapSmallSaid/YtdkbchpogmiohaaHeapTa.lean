/-
  The order, the trail and the reference's order, side by side; the law's next.
-/
import Derived.Test.YtdkbchpogmiohaaHeapZ
namespace Go.Proofs.Ytdkbchpogmiohaa
open Go.RowKit

theorem RefAt.mod {w w' : World} {F G : Nat → Prop} {v : Value} {n : Nat} {xs : List Int} {inc : Int} (e : RefAt w F v n xs inc) (hm : Mod G w w') (h : ∀ g, F g → ¬ G g) : RefAt w' F v n xs inc := by
  obtain ⟨A, cap, rfl, O⟩ := e
  exact ⟨A, cap, rfl, O.mod hm fun g _ _ hf => h g hf⟩
theorem RefAt.mono {w : World} {F G : Nat → Prop} {v : Value} {n : Nat} {xs : List Int} {inc : Int} (e : RefAt w F v n xs inc) (h : ∀ g, g < w.heap.size → F g → G g) : RefAt w G v n xs inc := by
  obtain ⟨A, cap, rfl, O⟩ := e
  exact ⟨A, cap, rfl, O.mono fun g hg _ hf => h g hg hf⟩
/-- An order at b, a trail at tb (both in blocks from B on, none of P), and the reference's order v, which reads as o'. -/
def ThreeIn (w : World) (Fo Ft P : Nat → Prop) (B b n : Nat) (o : Om) (tb : Nat) (T : Tr) (v : Value) (o' : Om) : Prop :=
  Order w Fo b n o ∧ Trail w Ft tb T ∧ (∀ g, Fo g → (B ≤ g ∧ ¬ P g) ∧ g < w.heap.size) ∧ (∀ g, Ft g → (B ≤ g ∧ ¬ P g) ∧ g < w.heap.size) ∧ (∀ g, Fo g → ¬ Ft g) ∧
    RefAt w (fun g => ¬ Fo g ∧ ¬ Ft g) v n (wasL o'.acts n) o'.inc ∧ o'.WF n ∧ (∀ g, P g → g < w.heap.size) ∧ B ≤ w.heap.size
def Three (w : World) (P : Nat → Prop) (B b n : Nat) (o : Om) (tb : Nat) (T : Tr) (v : Value) (o' : Om) : Prop := ∃ Fo Ft : Nat → Prop, ThreeIn w Fo Ft P B b n o tb T v o'
section
variable {w w' : World} {P : Nat → Prop} {B b n tb : Nat} {o o' : Om} {T : Tr} {v : Value}
theorem Three.two (e : Three w P B b n o tb T v o') : Two w B b n o tb T := by
  obtain ⟨Fo, Ft, h1, h2, h3, h4, h5, _⟩ := e
  exact ⟨Fo, Ft, h1, h2, fun g hg => ⟨(h3 g hg).1.1, (h3 g hg).2⟩, fun g hg => ⟨(h4 g hg).1.1, (h4 g hg).2⟩, h5⟩
theorem Three.below (e : Three w P B b n o tb T v o') (hb : Below w.heap.size w w') : Three w' P B b n o tb T v o' := by
  obtain ⟨Fo, Ft, h1, h2, h3, h4, h5, h6, h7, hP, h8⟩ := e
  have := hb.size
  exact ⟨Fo, Ft, h1.below hb, h2.below hb, fun g hg => ⟨(h3 g hg).1, by have := (h3 g hg).2; omega⟩, fun g hg => ⟨(h4 g hg).1, by have := (h4 g hg).2; omega⟩, h5, h6.below hb, h7, fun g hg => by have := hP g hg; omega, by omega⟩
/-- New blocks that neither may touch. -/
theorem Three.guard (e : Three w P B b n o tb T v o') (hb : Below w.heap.size w w') : Three w' (fun g => P g ∨ (w.heap.size ≤ g ∧ g < w'.heap.size)) B b n o tb T v o' := by
  obtain ⟨Fo, Ft, h1, h2, h3, h4, h5, h6, h7, hP, h8⟩ := e
  have := hb.size
  refine ⟨Fo, Ft, h1.below hb, h2.below hb, fun g hg => ?_, fun g hg => ?_, h5, h6.below hb, h7, fun g hg => ?_, by omega⟩
  · have := h3 g hg
    exact ⟨⟨this.1.1, fun h => h.elim this.1.2 (by omega)⟩, by omega⟩
  · have := h4 g hg
    exact ⟨⟨this.1.1, fun h => h.elim this.1.2 (by omega)⟩, by omega⟩
  · rcases hg with hg | hg
    · have := hP g hg; omega
    · exact hg.2
theorem Three.less (e : Three w P B b n o tb T v o') {Q : Nat → Prop} (h : ∀ g, Q g → P g) : Three w Q B b n o tb T v o' := by
  obtain ⟨Fo, Ft, h1, h2, h3, h4, h5, h6, h7, hP, h8⟩ := e
  exact ⟨Fo, Ft, h1, h2, fun g hg => ⟨⟨(h3 g hg).1.1, fun hq => (h3 g hg).1.2 (h g hq)⟩, (h3 g hg).2⟩, fun g hg => ⟨⟨(h4 g hg).1.1, fun hq => (h4 g hg).1.2 (h g hq)⟩, (h4 g hg).2⟩, h5, h6, h7, fun g hg => hP g (h g hg), h8⟩
theorem Three.size (e : Three w P B b n o tb T v o') : (∀ g, P g → g < w.heap.size) ∧ B ≤ w.heap.size := by
  obtain ⟨Fo, Ft, _, _, _, _, _, _, _, hP, h8⟩ := e
  exact ⟨hP, h8⟩
theorem Three.form (e : Three w P B b n o tb T v o') : ∃ A cap, v = .agg #[.slice A n cap, .int .i64 o'.inc] := by
  obtain ⟨_, _, _, _, _, _, _, ⟨A, cap, rfl, _⟩, _⟩ := e
  exact ⟨A, cap, rfl⟩
/-- A store into a block that holds no ints. -/
theorem Three.box (e : Three w P B b n o tb T v o') {X k : Nat} {cs : Array Value} {t : TypeId} {z : Value} (hX : w.heap[X]? = some (.cells cs t (0, 0))) (ht : (3 == t) = false) (hP : P X) : Three (w.setCell ⟨X, k, none⟩ z) P B b n o tb T v o' := by
  obtain ⟨Fo, Ft, h1, h2, h3, h4, h5, ⟨A, cap, rfl, O⟩, h7, hP', h8⟩ := e
  have m : Mod (fun g => g = X) w (w.setCell ⟨X, k, none⟩ z) := (Mod.refl (fun g => g = X) _).setCell (p := ⟨X, k, none⟩) (.inl rfl) _
  have := m.size
  refine ⟨Fo, Ft, h1.mod m fun g _ hg hf => (h3 g hg).1.2 (hf ▸ hP), h2.mod m fun g _ hg hf => (h4 g hg).1.2 (hf ▸ hP), fun g hg => ⟨(h3 g hg).1, by have := (h3 g hg).2; omega⟩, fun g hg => ⟨(h4 g hg).1, by have := (h4 g hg).2; omega⟩, h5, ⟨A, cap, rfl, O.mod m fun g _ hr _ hg => ?_⟩, h7, fun g hg => by have := hP' g hg; omega, by omega⟩
  subst hg
  obtain ⟨_, cur, hc⟩ := O.row hr
  rw [hX] at hc
  injection hc with hc
  injection hc with _ hc _
  subst hc
  simp at ht
theorem Three.put (e : Three w P B b n o tb T v o') {X : Nat} {x y x' y' : Value} (hX : w.heap[X]? = some (.cells #[x, y] 52 (0, 0))) (hP : P X) :
    Three ((w.setCell ⟨X, 0, none⟩ x').setCell ⟨X, 1, none⟩ y') P B b n o tb T v o' :=
  (e.box hX (by decide) hP).box (heap_setCell_same _ X 0 _ _ _ hX) (by decide) hP
theorem three_bump (e : Three w P B b n o tb T v o') (x : Int) : Calls Try.prog 16 #[.pointer (some ⟨b, 0, none⟩), .int .i64 x] w fun r w' => r = .returned (.int .i64 (err (hasv n x))) ∧ Three w' P B b n (o.bumpI n x) tb T v o' ∧ Mod (fun g => B ≤ g ∧ ¬ P g) w w' := by
  obtain ⟨Fo, Ft, h1, h2, h3, h4, h5, h6, h7, hP, h8⟩ := e
  cases hv : hasv n x with
  | false =>
    have e1 : o.bumpI n x = o := by simp [Om.bumpI, hv]
    rw [e1]
    refine (bump_bad h1 hv).mono ?_
    rintro r w' ⟨rfl, rfl⟩
    exact ⟨rfl, ⟨Fo, Ft, h1, h2, h3, h4, h5, h6, h7, hP, h8⟩, Mod.refl _ _⟩
  | true =>
    have e1 : o.bumpI n x = o.bump x.toNat := by simp [Om.bumpI, hv]
    have hv2 : 1 ≤ x ∧ x ≤ n := by simpa [hasv] using hv
    rw [e1]
    have := bump_any h1 (v := x.toNat) (by omega) (by omega)
    rw [show ((x.toNat : Nat) : Int) = x by omega] at this
    refine this.mono ?_
    rintro r w' ⟨rfl, k1, k2⟩
    have := k2.size
    exact ⟨rfl, ⟨Fo, Ft, k1, h2.mod k2 fun g _ hg hf => h5 g hf hg, fun g hg => ⟨(h3 g hg).1, by have := (h3 g hg).2; omega⟩, fun g hg => ⟨(h4 g hg).1, by have := (h4 g hg).2; omega⟩, h5, h6.mod k2 fun g hg hf => hg.1 hf, h7, fun g hg => by have := hP g hg; omega, by omega⟩, k2.mono fun g _ hg => (h3 g hg).1⟩
theorem three_decay (e : Three w P B b n o tb T v o') : Calls Try.prog 17 #[.pointer (some ⟨b, 0, none⟩)] w fun r w' => r = .returned (.int .i64 0) ∧ Three w' P B b n o.decay tb T v o' ∧ Mod (fun g => B ≤ g ∧ ¬ P g) w w' := by
  obtain ⟨Fo, Ft, h1, h2, h3, h4, h5, h6, h7, hP, h8⟩ := e
  refine (decay_any h1).mono ?_
  rintro r w' ⟨rfl, k1, k2⟩
  have := k2.size
  exact ⟨rfl, ⟨Fo, Ft, k1, h2.mod k2 fun g _ hg hf => h5 g hf hg, fun g hg => ⟨(h3 g hg).1, by have := (h3 g hg).2; omega⟩, fun g hg => ⟨(h4 g hg).1, by have := (h4 g hg).2; omega⟩, h5, h6.mod k2 fun g hg hf => hg.1 hf, h7, fun g hg => by have := hP g hg; omega, by omega⟩, k2.mono fun g _ hg => (h3 g hg).1⟩
theorem ThreeIn.moved {Fo Ft : Nat → Prop} {T' : Tr} (e : ThreeIn w Fo Ft P B b n o tb T v o') (k1 : Trail w' (fun g => Ft g ∨ w.heap.size ≤ g) tb T') (k2 : Mod Ft w w') : Three w' P B b n o tb T' v o' ∧ Mod (fun g => B ≤ g ∧ ¬ P g) w w' := by
  have := k2.size
  obtain ⟨h1, h2, h3, h4, h5, h6, h7, hP, h8⟩ := e
  refine ⟨⟨Fo, fun g => (Ft g ∨ w.heap.size ≤ g) ∧ g < w'.heap.size, h1.mod k2 fun g _ hg hf => h5 g hg hf, k1.restrict, fun g hg => ⟨(h3 g hg).1, by have := (h3 g hg).2; omega⟩, fun g hg => ⟨?_, hg.2⟩, fun g hg hf => ?_, ?_, h7, fun g hg => by have := hP g hg; omega, by omega⟩, k2.mono fun g _ hg => (h4 g hg).1⟩
  · rcases hg.1 with h | h
    · exact (h4 g h).1
    · exact ⟨by omega, fun hp => by have := hP g hp; omega⟩
  · rcases hf.1 with h | h
    · exact h5 g hg h
    · have := (h3 g hg).2; omega
  · obtain ⟨A, cap, rfl, O⟩ := h6
    exact ⟨A, cap, rfl, (O.mono (G := fun g => (¬ Fo g ∧ ¬ Ft g) ∧ g < w.heap.size) fun g hg _ hf => ⟨hf, hg⟩).mod k2 (fun g _ _ hf => hf.1.2) |>.mono fun g _ _ hf => ⟨hf.1.1, fun h => h.1.elim hf.1.2 (by have := hf.2; omega)⟩⟩
theorem three_decide (e : Three w P B b n o tb T v o') {l : Int} (hl : I64 l) : Calls Try.prog 24 #[.pointer (some ⟨tb, 0, none⟩), .int .i64 l] w fun r w' => r = .returned (.int .i64 (err (T.freeB l))) ∧ Three w' P B b n o tb (T.dec l) v o' ∧ Mod (fun g => B ≤ g ∧ ¬ P g) w w' := by
  obtain ⟨Fo, Ft, e⟩ := e
  refine (decide_e e.2.1 hl).mono ?_
  rintro r w' ⟨rfl, k1, k2⟩
  exact ⟨rfl, e.moved k1 k2⟩
theorem three_undo (e : Three w P B b n o tb T v o') (k : Int) : Calls Try.prog 38 #[.pointer (some ⟨tb, 0, none⟩), .int .i64 k] w fun r w' => (∃ u, r = .returned u) ∧ Three w' P B b n o tb (T.back (lvl k)) v o' ∧ Mod (fun g => B ≤ g ∧ ¬ P g) w w' := by
  obtain ⟨Fo, Ft, e⟩ := e
  refine (undo_e e.2.1 k).mono ?_
  rintro r w' ⟨⟨u, rfl, _⟩, k1, k2⟩
  exact ⟨⟨u, rfl⟩, e.moved k1 k2⟩
/-- A call that makes a new reference's order. -/
theorem Three.ref {f : FuncId} {args : Array Value} {ret : Value → Value} {o2 : Om} (e : Three w P B b n o tb T v o') (hw2 : o2.WF n)
    (hc : ∀ F, RefAt w F v n (wasL o'.acts n) o'.inc → Calls Try.prog f args w fun r w' => (∃ v2, r = .returned (ret v2) ∧ RefAt w' (fun g => F g ∨ w.heap.size ≤ g) v2 n (wasL o2.acts n) o2.inc) ∧ Below w.heap.size w w') :
    Calls Try.prog f args w fun r w' => (∃ v2, r = .returned (ret v2) ∧ Three w' P B b n o tb T v2 o2) ∧ Below w.heap.size w w' := by
  obtain ⟨Fo, Ft, h1, h2, h3, h4, h5, h6, h7, hP, h8⟩ := e
  refine (hc _ h6).mono ?_
  rintro r w' ⟨⟨v2, rfl, k⟩, hb⟩
  have := hb.size
  exact ⟨⟨v2, rfl, Fo, Ft, h1.below hb, h2.below hb, fun g hg => ⟨(h3 g hg).1, by have := (h3 g hg).2; omega⟩, fun g hg => ⟨(h4 g hg).1, by have := (h4 g hg).2; omega⟩, h5, k.mono fun g _ hg => hg.elim id fun hle => ⟨fun hf => by have := (h3 g hf).2; omega, fun hf => by have := (h4 g hf).2; omega⟩, hw2, fun g hg => by have := hP g hg; omega, by omega⟩, hb⟩
theorem Three.wf (e : Three w P B b n o tb T v o') : o'.WF n := by obtain ⟨_, _, _, _, _, _, _, _, h7, _⟩ := e; exact h7
theorem three_rdecay (e : Three w P B b n o tb T v o') : Calls Try.prog 43 #[v] w fun r w' => (∃ v2, r = .returned v2 ∧ Three w' P B b n o tb T v2 o'.decay) ∧ Below w.heap.size w w' :=
  e.ref (ret := id) e.wf.decay fun _ h => rdecay_ord h e.wf
theorem three_rbump (e : Three w P B b n o tb T v o') (x : Int) : Calls Try.prog 44 #[v, .int .i64 x] w fun r w' => (∃ v2, r = .returned (.tuple #[v2, .bool (hasv n x)]) ∧ Three w' P B b n o tb T v2 (o'.bumpI n x)) ∧ Below w.heap.size w w' := by
  have hw : o'.WF n := e.wf
  cases hv : hasv n x with
  | false =>
    have e1 : o'.bumpI n x = o' := by simp [Om.bumpI, hv]
    rw [e1]
    have e0 := e
    obtain ⟨Fo, Ft, h1, h2, h3, h4, h5, h6, h7, _⟩ := e
    refine (rbump_bad h6 hv).mono ?_
    rintro r w' ⟨rfl, hb⟩
    exact ⟨⟨_, rfl, e0.below hb⟩, hb⟩
  | true =>
    have e1 : o'.bumpI n x = o'.bump x.toNat := by simp [Om.bumpI, hv]
    have hv2 : 1 ≤ x ∧ x ≤ n := by simpa [hasv] using hv
    rw [e1]
    refine e.ref (ret := fun v2 => .tuple #[v2, .bool true]) (hw.bump _) fun F h => ?_
    have := rbump_ord h hw (j := x.toNat - 1) (by omega)
    rw [show (((x.toNat - 1 : Nat) : Int) + 1) = x by omega, show x.toNat - 1 + 1 = x.toNat by omega] at this
    exact this
end
end Go.Proofs.Ytdkbchpogmiohaa
