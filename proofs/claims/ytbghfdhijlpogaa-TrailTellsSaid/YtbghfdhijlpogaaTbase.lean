/-
  The trail in memory: what the blocks of a trail hold, said of plain lists; the plain trail.
-/
import Derived.Test.YtbghfdhijlpogaaMaps
namespace Go.Proofs.Ytbghfdhijlpogaa
open Go.RowKit

def ints (xs : List Int) : List Value := xs.map (Value.int .i64)
theorem ints_length (xs : List Int) : (ints xs).length = xs.length := by simp [ints]
theorem ints_get (xs : List Int) (i : Nat) : (ints xs)[i]? = (xs[i]?).map (Value.int .i64) := by simp [ints]
theorem ints_append (xs ys : List Int) : ints (xs ++ ys) = ints xs ++ ints ys := by simp [ints]
theorem ints_take (xs : List Int) (n : Nat) : ints (xs.take n) = (ints xs).take n := by simp [ints, List.map_take]
theorem ints_one (xs : List Int) : ∀ u ∈ ints xs, u.oneCell' = true := by
  intro u hu
  obtain ⟨x, _, rfl⟩ := List.mem_map.1 hu
  rfl

/-- The k-th number of a list. -/
def nth (xs : List Int) (k : Nat) : Int := xs[k]?.getD 0
theorem nth_get {xs : List Int} {k : Nat} (h : k < xs.length) : xs[k]? = some (nth xs k) := by simp [nth, h]
theorem nth_eq {xs : List Int} {k : Nat} (h : k < xs.length) : nth xs k = xs[k] := by simp [nth, h]
theorem ints_nth {xs : List Int} {k : Nat} (h : k < xs.length) : (ints xs)[k]? = some (.int .i64 (nth xs k)) := by rw [ints_get, nth_get h]; rfl
theorem nth_mem {xs : List Int} {k : Nat} (h : k < xs.length) : nth xs k ∈ xs := by rw [nth_eq h]; exact List.getElem_mem h
theorem take_nth {xs : List Int} {k : Nat} (h : k < xs.length) : xs.take (k + 1) = xs.take k ++ [nth xs k] := by
  rw [List.take_succ_eq_append_getElem h, nth_eq h]
theorem ints_set (xs : List Int) (k : Nat) (x : Int) : ints (xs.set k x) = (ints xs).set k (.int .i64 x) := by simp [ints, List.map_set]
theorem nth_set (xs : List Int) (k i : Nat) (x : Int) (h : i < xs.length) : nth (xs.set k x) i = if k = i then x else nth xs i := by
  unfold nth
  rw [List.getElem?_set]
  by_cases hk : k = i
  · subst hk; simp [h]
  · simp [hk]
/-- The first place at which p holds, or -1. -/
def posB (p : Int → Bool) (xs : List Int) : Int := match xs.findIdx? p with | some i => i | none => -1
theorem posB_at {p : Int → Bool} {xs : List Int} {k : Nat} (hk : k < xs.length) (hno : ∀ y ∈ xs.take k, p y = false) (hx : p (nth xs k) = true) : posB p xs = k := by
  have : xs.findIdx? p = some k := by
    rw [List.findIdx?_eq_some_iff_getElem]
    refine ⟨hk, by rw [← nth_eq hk]; exact hx, fun j hj => ?_⟩
    have := hno xs[j] (by rw [List.mem_take_iff_getElem]; exact ⟨j, by omega, rfl⟩)
    simp [this]
  simp [posB, this]
theorem posB_none {p : Int → Bool} {xs : List Int} (hno : ∀ y ∈ xs, p y = false) : posB p xs = -1 := by
  have : xs.findIdx? p = none := by
    rw [List.findIdx?_eq_none_iff]
    exact hno
  simp [posB, this]
theorem posB_ge {p : Int → Bool} {xs : List Int} : decide (0 ≤ posB p xs) = xs.any p := by
  unfold posB
  cases h : xs.findIdx? p with
  | none =>
    have := List.findIdx?_eq_none_iff.1 h
    simp
    exact this
  | some i =>
    obtain ⟨h1, h2, _⟩ := List.findIdx?_eq_some_iff_getElem.1 h
    simp
    exact ⟨_, List.getElem_mem h1, h2⟩

/-- An entry of the trail: its literal, its level, its reason. -/
structure Ent where
  lit : Int
  level : Nat
  reason : List Int

/-- The trail as plain data: number of variables, entries, the positions at which the levels from 1 on begin. -/
structure Tr where
  vars : Nat
  L : List Ent
  starts : List Nat

def Ent.v (e : Ent) : Nat := e.lit.natAbs
def Tr.lits (T : Tr) : List Int := T.L.map Ent.lit
def Tr.depth (T : Tr) : Nat := T.starts.length
/-- The position of a variable. -/
def Tr.idx (T : Tr) (v : Int) : Option Nat := T.L.findIdx? (fun e => (e.v : Int) == v)
def Tr.value (T : Tr) (l : Int) : Int := if l ∈ T.lits then 1 else if -l ∈ T.lits then -1 else 0
def Tr.free (T : Tr) (l : Int) : Prop := l ≠ 0 ∧ l.natAbs ≤ T.vars ∧ T.value l = 0
def Tr.decide (T : Tr) (l : Int) : Tr := { T with L := T.L ++ [⟨l, T.starts.length + 1, []⟩], starts := T.starts ++ [T.L.length] }
def Tr.imply (T : Tr) (l : Int) (r : List Int) : Tr := { T with L := T.L ++ [⟨l, T.starts.length, r⟩] }
def Tr.undo (T : Tr) (k : Nat) : Tr := { T with L := T.L.take (T.starts.getD k T.L.length), starts := T.starts.take k }

structure Tr.WF (T : Tr) : Prop where
  vars : T.vars ≤ 65536
  lit : ∀ e ∈ T.L, e.lit ≠ 0 ∧ e.v ≤ T.vars
  nodup : (T.L.map Ent.v).Nodup
  starts : T.starts.Pairwise (· < ·)
  below : ∀ s ∈ T.starts, s < T.L.length
  level : ∀ (i : Nat) (e : Ent), T.L[i]? = some e → e.level = (T.starts.filter (· ≤ i)).length
  reason : ∀ (i : Nat) (e : Ent), T.L[i]? = some e → (i ∈ T.starts → e.reason = []) ∧ (i ∉ T.starts → e.lit ∈ e.reason ∧ ∀ x ∈ e.reason, x = e.lit ∨ ∃ j, j < i ∧ ∃ f, T.L[j]? = some f ∧ f.lit = -x)

/-- The trail lies in memory: its struct at block b, its map at m. -/
structure TrailAt (w : World) (F : Nat → Prop) (b m : Nat) (es : Array MapEntry) (clock : Nat) (vl vs : Value) (T : Tr) : Prop where
  hb : F b
  hm : F m
  blk : w.heap[b]? = some (.cells #[.int .i64 T.vars, .map (some m), vl, vs] 59 (0, 0))
  map : w.heap[m]? = some (.map es clock)
  size : es.size = T.L.length
  ents : ∀ (i : Nat) (e : Ent), T.L[i]? = some e → ∃ (x : MapEntry) (A : Option Addr) (n c : Nat), es[i]? = some x ∧ x.key = .int .i64 e.v ∧ x.val = .agg #[.int .i64 e.lit, .int .i64 e.level, .int .i64 i, .slice A n c] ∧
    Rd w (fun g => F g ∧ g ≠ b ∧ g ≠ m ∧ ¬ row vl g ∧ ¬ row vs g) 1 (.slice A n c) e.reason.length (ints e.reason)
  lits : Own w F 3 1 vl T.L.length (ints T.lits)
  starts : Own w F 3 1 vs T.starts.length (ints (T.starts.map Int.ofNat))
  apart : ∀ g, row vl g → ¬ row vs g

def Trail (w : World) (F : Nat → Prop) (b : Nat) (T : Tr) : Prop := T.WF ∧ ∃ m es clock vl vs, TrailAt w F b m es clock vl vs T

theorem TrailAt.keep {w w' : World} {F : Nat → Prop} {b m : Nat} {es : Array MapEntry} {clock : Nat} {vl vs : Value} {T : Tr} (h : TrailAt w F b m es clock vl vs T) (hs : w.heap.size ≤ w'.heap.size)
    (hk : ∀ g, g < w.heap.size → F g → w'.heap[g]? = w.heap[g]?) : TrailAt w' F b m es clock vl vs T where
  hb := h.hb
  hm := h.hm
  blk := (hk b (lt_of_block h.blk) h.hb).trans h.blk
  map := (hk m (lt_of_block h.map) h.hm).trans h.map
  size := h.size
  ents := fun i e he => by
    obtain ⟨x, A, n, c, h1, h2, h3, h4⟩ := h.ents i e he
    exact ⟨x, A, n, c, h1, h2, h3, h4.keep hs fun g hg hF => hk g hg hF.1⟩
  lits := h.lits.keep fun g hg _ hF => hk g hg hF
  starts := h.starts.keep fun g hg _ hF => hk g hg hF
  apart := h.apart
theorem TrailAt.mono {w : World} {F G : Nat → Prop} {b m : Nat} {es : Array MapEntry} {clock : Nat} {vl vs : Value} {T : Tr} (h : TrailAt w F b m es clock vl vs T) (hFG : ∀ g, F g → G g) : TrailAt w G b m es clock vl vs T where
  hb := hFG _ h.hb
  hm := hFG _ h.hm
  blk := h.blk
  map := h.map
  size := h.size
  ents := fun i e he => by
    obtain ⟨x, A, n, c, h1, h2, h3, h4⟩ := h.ents i e he
    exact ⟨x, A, n, c, h1, h2, h3, h4.mono fun g _ hF => ⟨hFG g hF.1, hF.2⟩⟩
  lits := h.lits.mono fun g _ _ hF => hFG g hF
  starts := h.starts.mono fun g _ _ hF => hFG g hF
  apart := h.apart
theorem TrailAt.restrict {w : World} {F : Nat → Prop} {b m : Nat} {es : Array MapEntry} {clock : Nat} {vl vs : Value} {T : Tr} (h : TrailAt w F b m es clock vl vs T) : TrailAt w (fun g => F g ∧ g < w.heap.size) b m es clock vl vs T where
  hb := ⟨h.hb, lt_of_block h.blk⟩
  hm := ⟨h.hm, lt_of_block h.map⟩
  blk := h.blk
  map := h.map
  size := h.size
  ents := fun i e he => by
    obtain ⟨x, A, n, c, h1, h2, h3, h4⟩ := h.ents i e he
    exact ⟨x, A, n, c, h1, h2, h3, h4.mono fun g hg hF => ⟨⟨hF.1, hg⟩, hF.2⟩⟩
  lits := h.lits.mono fun g hg _ hF => ⟨hF, hg⟩
  starts := h.starts.mono fun g hg _ hF => ⟨hF, hg⟩
  apart := h.apart
theorem Trail.mono {w : World} {F G : Nat → Prop} {b : Nat} {T : Tr} (h : Trail w F b T) (hFG : ∀ g, F g → G g) : Trail w G b T := by
  obtain ⟨wf, m, es, clock, vl, vs, h⟩ := h
  exact ⟨wf, m, es, clock, vl, vs, h.mono hFG⟩
theorem Trail.mod {w w' : World} {F G : Nat → Prop} {b : Nat} {T : Tr} (h : Trail w F b T) (hm : Mod G w w') (hFG : ∀ g, g < w.heap.size → F g → ¬ G g) : Trail w' F b T := by
  obtain ⟨wf, m, es, clock, vl, vs, h⟩ := h
  exact ⟨wf, m, es, clock, vl, vs, h.keep hm.size fun g hg hF => hm.block g hg (hFG g hg hF)⟩
theorem Trail.below {w w' : World} {F : Nat → Prop} {b : Nat} {T : Tr} (h : Trail w F b T) (hm : Below w.heap.size w w') : Trail w' F b T := by
  obtain ⟨wf, m, es, clock, vl, vs, h⟩ := h
  exact ⟨wf, m, es, clock, vl, vs, h.keep hm.size fun g hg _ => hm.block g hg⟩
theorem Trail.wf {w : World} {F : Nat → Prop} {b : Nat} {T : Tr} (h : Trail w F b T) : T.WF := h.1

theorem nodup_le : ∀ (n : Nat) (l : List Nat), l.Nodup → (∀ x ∈ l, 1 ≤ x ∧ x ≤ n) → l.length ≤ n
  | 0, l, _, h => by
    cases l with
    | nil => simp
    | cons x l => have := h x (by simp); omega
  | n + 1, l, hn, h => by
    have ih := nodup_le n (l.erase (n + 1)) (hn.erase _) (fun x hx => by
      have h1 := (hn.mem_erase_iff).1 hx
      have := h x h1.2
      have := h1.1
      omega)
    have := List.length_erase (a := n + 1) (l := l)
    split at this <;> omega
theorem Tr.WF.len {T : Tr} (h : T.WF) : T.L.length ≤ T.vars := by
  have := nodup_le T.vars (T.L.map Ent.v) h.nodup (fun x hx => by
    obtain ⟨e, he, rfl⟩ := List.mem_map.1 hx
    obtain ⟨h1, h2⟩ := h.lit e he
    unfold Ent.v at *
    omega)
  simpa using this
theorem sorted_le : ∀ (l : List Nat) (n : Nat), l.Pairwise (· < ·) → (∀ x ∈ l, x < n) → l.length ≤ n := by
  intro l n hp hlt
  have := nodup_le n (l.map (· + 1)) (List.pairwise_map.2 (hp.imp (fun h => by omega))) (fun x hx => by
    obtain ⟨y, hy, rfl⟩ := List.mem_map.1 hx
    have := hlt y hy
    omega)
  simpa using this
theorem Tr.WF.len' {T : Tr} (h : T.WF) : T.starts.length ≤ T.L.length := sorted_le _ _ h.starts h.below

/-! ### what the map answers -/
theorem TrailAt.keyed {w : World} {F : Nat → Prop} {b m : Nat} {es : Array MapEntry} {clock : Nat} {vl vs : Value} {T : Tr} (h : TrailAt w F b m es clock vl vs T) : ∀ x ∈ es.toList, ∃ n, x.key = .int .i64 n := by
  intro x hx
  obtain ⟨i, hi, rfl⟩ := List.mem_iff_getElem.1 hx
  have hi' : i < T.L.length := by rw [← h.size]; simpa using hi
  obtain ⟨x, _, _, _, h1, h2, _⟩ := h.ents i T.L[i] (by simp [hi'])
  have : es.toList[i] = x := by
    have h3 : i < es.size := by simpa using hi
    rw [Array.getElem?_eq_getElem h3] at h1
    simpa using h1
  exact ⟨_, by rw [this]; exact h2⟩
theorem TrailAt.keys {w : World} {F : Nat → Prop} {b m : Nat} {es : Array MapEntry} {clock : Nat} {vl vs : Value} {T : Tr} (h : TrailAt w F b m es clock vl vs T) : es.toList.map keyNum = T.L.map (fun e => (e.v : Int)) := by
  apply List.ext_getElem?
  intro i
  by_cases hi : i < T.L.length
  · obtain ⟨x, _, _, _, h1, h2, _⟩ := h.ents i T.L[i] (by simp [hi])
    simp [h1, hi, keyNum, h2, intOf]
  · have : es.size ≤ i := by rw [h.size]; omega
    simp [Array.getElem?_eq_none this, List.getElem?_eq_none (Nat.le_of_not_lt hi)]
theorem TrailAt.found {w : World} {F : Nat → Prop} {b m : Nat} {es : Array MapEntry} {clock : Nat} {vl vs : Value} {T : Tr} (h : TrailAt w F b m es clock vl vs T) (v : Int) :
    es.toList.findIdx? (fun x => keyNum x == v) = T.idx v := by
  have h1 := congrArg (fun (l : List Int) => l.findIdx? (· == v)) h.keys
  simp only [List.findIdx?_map] at h1
  exact h1

end Go.Proofs.Ytbghfdhijlpogaa
