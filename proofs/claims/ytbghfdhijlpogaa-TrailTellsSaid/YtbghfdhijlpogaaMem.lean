/-
  Slices in memory, said of lists: what reads as a list, what may be written, what a step leaves as it was. No program is named.
-/
import Derived.Test.YtbghfdhijlpogaaRows
import Derived.WalkKit
import Derived.WalkSpells
import Derived.WalkLawsBesides
import Derived.Deep.RegionHeld3
import Derived.Deep.QuietTactic
import Derived.BigQuiet
import Derived.Deep.RegionLaw
import Derived.Deep.AppendLies
import Derived.Deep.DeepCutAuto
import Derived.Deep.LoopGhost
import Derived.Deep.RegionWith
import Derived.Outline
import Derived.Deep.DeepFit
import Derived.Deep.DeepMust
import Derived.Deep.Draws
import Derived.OneCell
import Derived.WalkSmall
namespace Go.Proofs.Ytbghfdhijlpogaa
open Go.RowKit

theorem hid {p : Prop} (h : p) : Hid p := h

/-! ### new blocks, for the walk -/
theorem World.heap_alloc_ne (w : World) (o : Obj) (k : Nat) (h : w.heap.size ≠ k) : (w.alloc o).heap[k]? = w.heap[k]? := by
  show (w.heap.push o)[k]? = _
  rw [Array.getElem?_push, if_neg (by omega)]
theorem World.cell?_alloc_ne (w : World) (o : Obj) (b i : Nat) (h : w.heap.size ≠ b) : (w.alloc o).cell? ⟨b, i, none⟩ = w.cell? ⟨b, i, none⟩ := World.cell?_of_block (World.heap_alloc_ne w o b h)
theorem World.frozen?_alloc_ne (w : World) (o : Obj) (b i : Nat) (h : w.heap.size ≠ b) : (w.alloc o).frozen? ⟨b, i, none⟩ = w.frozen? ⟨b, i, none⟩ := World.frozen?_of_block (World.heap_alloc_ne w o b h)
theorem World.heap_drew (w : World) : w.drew.heap = w.heap := rfl
attribute [go_sem] World.heap_alloc_ne World.cell?_alloc_ne World.frozen?_alloc_ne World.heap_drew
/-- A block that lies: its number against the numbers of new blocks. -/
theorem steps {b n : Nat} (h : b < n) : n ≠ b ∧ n + 1 ≠ b ∧ n + 2 ≠ b ∧ n + 3 ≠ b ∧ n + 4 ≠ b ∧ n + 5 ≠ b := by omega

/-! ### what a step may have changed -/
/-- Of the blocks of w only those in F may have changed; the streams are as they were. -/
structure Mod (F : Nat → Prop) (w w' : World) : Prop where
  os : w'.os = w.os
  tape : w'.tape = w.tape
  output : w'.output = w.output
  size : w.heap.size ≤ w'.heap.size
  block : ∀ k, k < w.heap.size → ¬ F k → w'.heap[k]? = w.heap[k]?

theorem Mod.refl (F : Nat → Prop) (w : World) : Mod F w w := ⟨rfl, rfl, rfl, Nat.le_refl _, fun _ _ _ => rfl⟩
theorem Mod.trans {F : Nat → Prop} {a b c : World} (h : Mod F a b) (k : Mod (fun i => F i ∨ a.heap.size ≤ i) b c) : Mod F a c :=
  ⟨k.os.trans h.os, k.tape.trans h.tape, k.output.trans h.output, Nat.le_trans h.size k.size,
    fun i hi hF => (k.block i (Nat.lt_of_lt_of_le hi h.size) (fun e => e.elim hF (fun e => by omega))).trans (h.block i hi hF)⟩
theorem Mod.mono {F G : Nat → Prop} {w w' : World} (h : Mod F w w') (hFG : ∀ k, k < w.heap.size → F k → G k) : Mod G w w' :=
  ⟨h.os, h.tape, h.output, h.size, fun k hk hG => h.block k hk (fun e => hG (hFG k hk e))⟩
theorem Mod.of_below {F : Nat → Prop} {w w' : World} (h : Below w.heap.size w w') : Mod F w w' :=
  ⟨h.os, h.tape, h.output, h.size, fun k hk _ => h.block k hk⟩
theorem Mod.below {w w' : World} (h : Mod (fun _ => False) w w') : Below w.heap.size w w' :=
  ⟨h.os, h.tape, h.output, h.size, fun k hk => h.block k hk id⟩
theorem Mod.alloc {F : Nat → Prop} {a w : World} (h : Mod F a w) (o : Obj) : Mod F a (w.alloc o) :=
  h.trans ⟨rfl, rfl, rfl, by simp, fun k hk _ => World.heap_alloc_ne w o k (by omega)⟩
theorem Mod.drew {F : Nat → Prop} {a w : World} (h : Mod F a w) : Mod F a w.drew := ⟨h.os, h.tape, h.output, h.size, h.block⟩
theorem Mod.setCell {F : Nat → Prop} {a w : World} (h : Mod F a w) {p : Addr} (hp : F p.block ∨ a.heap.size ≤ p.block) (u : Value) : Mod F a (w.setCell p u) :=
  h.trans ⟨rfl, rfl, rfl, by simp [World.setCell], fun k _ hF => Below.heap_setCell _ _ _ _ (fun e => hF (e ▸ hp))⟩
theorem Mod.of_grown {w w' : World} {row : Option Nat} (h : w.grownBy w' row) : Mod (fun k => row = some k) w w' :=
  ⟨h.os, h.tape, h.output, h.size, fun k hk hF => h.block k hk (fun e => hF e.symm)⟩
/-- A step that only made memory. -/
theorem Mod.then_below {F : Nat → Prop} {a b c : World} (h : Mod F a b) (k : Below b.heap.size b c) : Mod F a c := h.trans (Mod.of_below k)

/-! ### a slice that reads as a list of cells -/
/-- v is a slice of n elements of k cells each; its cells read as xs and lie in a block of F. -/
def Rd (w : World) (F : Nat → Prop) (k : Nat) (v : Value) (n : Nat) (xs : List Value) : Prop :=
  xs.length = n * k ∧ ∃ A cap, v = .slice A n cap ∧ n ≤ cap ∧ cap ≤ maxLen ∧
    (0 < n → ∃ g o, A = some ⟨g, o, none⟩ ∧ F g ∧ g < w.heap.size ∧ ∀ j u, xs[j]? = some u → w.cell? ⟨g, o + j, none⟩ = some u)
section
variable {w w' : World} {F G : Nat → Prop} {k n : Nat} {v : Value} {xs : List Value}
theorem Rd.keep (h : Rd w F k v n xs) (hs : w.heap.size ≤ w'.heap.size)
    (hb : ∀ g, g < w.heap.size → F g → w'.heap[g]? = w.heap[g]?) : Rd w' F k v n xs := by
  obtain ⟨hl, A, cap, hv, hc, hm, hA⟩ := h
  refine ⟨hl, A, cap, hv, hc, hm, fun hp => ?_⟩
  obtain ⟨g, o, hA, hF, hlt, hcell⟩ := hA hp
  exact ⟨g, o, hA, hF, by omega, fun j u hu => (World.cell?_of_block (hb g hlt hF)).trans (hcell j u hu)⟩
theorem Rd.mod (h : Rd w F k v n xs) (hm : Mod G w w') (hFG : ∀ g, g < w.heap.size → F g → ¬ G g) : Rd w' F k v n xs :=
  h.keep hm.size fun g hg hF => hm.block g hg (hFG g hg hF)
theorem Rd.below (h : Rd w F k v n xs) (hm : Below w.heap.size w w') : Rd w' F k v n xs := h.keep hm.size fun g hg _ => hm.block g hg
theorem Rd.mono (h : Rd w F k v n xs) (hFG : ∀ g, g < w.heap.size → F g → G g) : Rd w G k v n xs := by
  obtain ⟨hl, A, cap, hv, hc, hm, hA⟩ := h
  refine ⟨hl, A, cap, hv, hc, hm, fun hp => ?_⟩
  obtain ⟨g, o, hA, hF, hlt, hcell⟩ := hA hp
  exact ⟨g, o, hA, hFG g hlt hF, hlt, hcell⟩
theorem Rd.take {A : Option Addr} {c m : Nat} (h : Rd w F k (.slice A n c) n xs) (hm : m ≤ n) : Rd w F k (.slice A m c) m (xs.take (m * k)) := by
  obtain ⟨hl, A', cap, hv, hc, hmx, hA⟩ := h
  injection hv with h1 _ h3
  subst h1; subst h3
  have hle : m * k ≤ n * k := Nat.mul_le_mul_right _ hm
  refine ⟨by rw [List.length_take]; omega, A, c, rfl, by omega, hmx, fun hp => ?_⟩
  obtain ⟨g, o, e, hF, hlt, hcell⟩ := hA (by omega)
  refine ⟨g, o, e, hF, hlt, fun j u hu => hcell j u ?_⟩
  rw [List.getElem?_take] at hu
  split at hu
  · exact hu
  · cases hu
theorem Rd.len (h : Rd w F k v n xs) : n ≤ maxLen := by
  obtain ⟨_, _, _, _, h1, h2, _⟩ := h; omega
end

/-! ### a slice that the call owns -/
/-- v is a slice of n elements of k cells each, at the head of a block of F whose elements are of type e, and which may be written; or it has no capacity. -/
def Own (w : World) (F : Nat → Prop) (e : TypeId) (k : Nat) (v : Value) (n : Nat) (xs : List Value) : Prop :=
  xs.length = n * k ∧ ((∃ A, v = .slice A 0 0 ∧ n = 0) ∨
    ∃ g cap cur, v = .slice (some ⟨g, 0, none⟩) n cap ∧ 0 < cap ∧ F g ∧ w.heap[g]? = some (.cells cur e (0, 0)) ∧ n ≤ cap ∧ cap ≤ maxLen ∧ cur.size = cap * k ∧ cur.toList.take (n * k) = xs)
/-- The block that an append onto v may write. -/
def row (v : Value) : Nat → Prop := fun g => match v with | .slice (some a) _ c => 0 < c ∧ a.block = g | _ => False
section
variable {w w' : World} {F G : Nat → Prop} {e : TypeId} {k n : Nat} {v : Value} {xs : List Value}
theorem Own.keep (h : Own w F e k v n xs) (hb : ∀ g, g < w.heap.size → row v g → F g → w'.heap[g]? = w.heap[g]?) : Own w' F e k v n xs := by
  obtain ⟨hl, h⟩ := h
  refine ⟨hl, ?_⟩
  rcases h with h | ⟨g, cap, cur, hv, hp, hF, hg, r⟩
  · exact .inl h
  · subst hv
    exact .inr ⟨g, cap, cur, rfl, hp, hF, (hb g (lt_of_block hg) ⟨hp, rfl⟩ hF).trans hg, r⟩
theorem Own.mod (h : Own w F e k v n xs) (hm : Mod G w w') (hFG : ∀ g, g < w.heap.size → row v g → F g → ¬ G g) : Own w' F e k v n xs :=
  h.keep fun g hg hr hF => hm.block g hg (hFG g hg hr hF)
theorem Own.below (h : Own w F e k v n xs) (hm : Below w.heap.size w w') : Own w' F e k v n xs := h.keep fun g hg _ _ => hm.block g hg
theorem Own.mono (h : Own w F e k v n xs) (hFG : ∀ g, g < w.heap.size → row v g → F g → G g) : Own w G e k v n xs := by
  obtain ⟨hl, h⟩ := h
  refine ⟨hl, ?_⟩
  rcases h with h | ⟨g, cap, cur, hv, hp, hF, hg, r⟩
  · exact .inl h
  · subst hv
    exact .inr ⟨g, cap, cur, rfl, hp, hFG g (lt_of_block hg) ⟨hp, rfl⟩ hF, hg, r⟩
theorem Own.row (h : Own w F e k v n xs) {g : Nat} (hr : row v g) : F g ∧ ∃ cur, w.heap[g]? = some (.cells cur e (0, 0)) := by
  rcases h.2 with ⟨A, rfl, _⟩ | ⟨g', cap, cur, rfl, hp, hF, hg, _⟩
  · cases A <;> simp [Go.Proofs.Ytbghfdhijlpogaa.row] at hr
  · obtain ⟨_, rfl⟩ := hr
    exact ⟨hF, cur, hg⟩
theorem Own.rd (h : Own w F e k v n xs) : Rd w F k v n xs := by
  obtain ⟨hl, h⟩ := h
  refine ⟨hl, ?_⟩
  rcases h with ⟨A, rfl, rfl⟩ | ⟨g, cap, cur, rfl, hp, hF, hg, hn, hm, hs, ht⟩
  · exact ⟨A, 0, rfl, Nat.le_refl _, Nat.zero_le _, fun h => absurd h (by omega)⟩
  · refine ⟨_, cap, rfl, hn, hm, fun _ => ⟨g, 0, rfl, hF, lt_of_block hg, fun j u hu => ?_⟩⟩
    rw [Nat.zero_add, cell_of_row w g j cur e (0, 0) hg]
    rw [← ht, List.getElem?_take] at hu
    split at hu
    · simpa using hu
    · cases hu
theorem Own.nil (w : World) (F : Nat → Prop) (e : TypeId) (k : Nat) : Own w F e k (.slice none 0 0) 0 [] := ⟨by simp, .inl ⟨none, rfl, rfl⟩⟩
theorem Own.none_ (w : World) (F : Nat → Prop) (e : TypeId) (k : Nat) (A : Option Addr) : Own w F e k (.slice A 0 0) 0 [] := ⟨by simp, .inl ⟨A, rfl, rfl⟩⟩
theorem Own.form (h : Own w F e k v n xs) : ∃ A cap, v = .slice A n cap ∧ n ≤ cap ∧ cap ≤ maxLen ∧ (0 < cap → ∃ g, A = some ⟨g, 0, none⟩ ∧ F g ∧ g < w.heap.size) := by
  rcases h.2 with ⟨A, rfl, rfl⟩ | ⟨g, cap, cur, rfl, hp, hF, hg, hn, hm, hs, ht⟩
  · exact ⟨A, 0, rfl, Nat.le_refl _, Nat.zero_le _, fun h => absurd h (by omega)⟩
  · exact ⟨_, cap, rfl, hn, hm, fun _ => ⟨g, rfl, hF, lt_of_block hg⟩⟩
/-- The first elements alone, 's[:m]'. -/
theorem Own.take {A : Option Addr} {cap m : Nat} (h : Own w F e k (.slice A n cap) n xs) (hm : m ≤ n) : Own w F e k (.slice A m cap) m (xs.take (m * k)) := by
  obtain ⟨hl, h⟩ := h
  have hle : m * k ≤ n * k := Nat.mul_le_mul_right _ hm
  refine ⟨by rw [List.length_take]; omega, ?_⟩
  rcases h with ⟨A', hv, rfl⟩ | ⟨g, cap', cur, hv, hp, hF, hg, hn, hmx, hs, ht⟩
  · injection hv with h1 h2 h3
    subst h3; subst h1
    obtain rfl : m = 0 := by omega
    exact .inl ⟨_, rfl, rfl⟩
  · injection hv with h1 h2 h3
    subst h1; subst h3
    refine .inr ⟨g, cap, cur, rfl, hp, hF, hg, by omega, hmx, hs, ?_⟩
    rw [← ht, List.take_take, Nat.min_eq_left hle]
/-- A cell of it, and that it may be written. -/
theorem Own.cell {A : Option Addr} {cap j : Nat} (h : Own w F e k (.slice A n cap) n xs) (hj : j < n * k) :
    ∃ g, A = some ⟨g, 0, none⟩ ∧ F g ∧ g < w.heap.size ∧ w.cell? ⟨g, j, none⟩ = xs[j]? ∧ w.frozen? ⟨g, j, none⟩ = false := by
  obtain ⟨hl, h⟩ := h
  rcases h with ⟨A', hv, rfl⟩ | ⟨g, cap', cur, hv, hp, hF, hg, hn, hmx, hs, ht⟩
  · omega
  · injection hv with h1 h2 h3
    subst h1
    refine ⟨g, rfl, hF, lt_of_block hg, ?_, frozen_of_row w g j cur e hg⟩
    rw [cell_of_row w g j cur e (0, 0) hg, ← ht, List.getElem?_take, if_pos hj]
    simp
/-- A store into one of its cells. -/
theorem Own.stored {g cap j : Nat} (h : Own w F e k (.slice (some ⟨g, 0, none⟩) n cap) n xs) (u : Value) :
    Own (w.setCell ⟨g, j, none⟩ u) F e k (.slice (some ⟨g, 0, none⟩) n cap) n (xs.set j u) := by
  obtain ⟨hl, h⟩ := h
  refine ⟨by simpa using hl, ?_⟩
  rcases h with ⟨A', hv, rfl⟩ | ⟨g', cap', cur, hv, hp, hF, hg, hn, hmx, hs, ht⟩
  · injection hv with h1 h2 h3
    exact .inl ⟨_, by rw [h3], rfl⟩
  · injection hv with h1 h2 h3
    injection h1 with h1
    injection h1 with h1
    subst h1; subst h3
    refine .inr ⟨g, cap, cur.setIfInBounds j u, rfl, hp, hF, heap_setCell_same w g j cur e u hg, hn, hmx, by simpa using hs, ?_⟩
    rw [← ht]
    simp [List.take_set]
end

theorem Own.drew {w : World} {F : Nat → Prop} {e : TypeId} {k n : Nat} {v : Value} {xs : List Value} (h : Own w F e k v n xs) : Own w.drew F e k v n xs := h
theorem Rd.drew {w : World} {F : Nat → Prop} {k n : Nat} {v : Value} {xs : List Value} (h : Rd w F k v n xs) : Rd w.drew F k v n xs := h

/-! ### append -/
theorem row_none (A : Option Addr) (n : Nat) : row (.slice A n 0) = fun _ => False := by
  funext g; cases A <;> simp [row]
theorem addr_add (g o j : Nat) : (⟨g, o, none⟩ : Addr).add j = ⟨g, o + j, none⟩ := by unfold Addr.add; split <;> simp_all
section
variable {P : Program} {w : World} {F G : Nat → Prop} {e : TypeId} {k n m : Nat} {v s : Value} {xs ys : List Value}
theorem run_append_zero (t ty : TypeId) (A : Option Addr) (i : TypeInfo) (ht : P.underlying t = some (.slice e)) (hi : P.info? e = some i) (b : Addr) (m c : Nat) (hm : 0 < m)
    (h48 : m * i.bytes ≤ 140737488355328) :
    (Builtin.append_ #[t, t] ty #[.slice A 0 0, .slice (some b) m c]).run P w = (Builtin.append_ #[t, t] ty #[.slice none 0 0, .slice (some b) m c]).run P w := by
  cases A with
  | none => rfl
  | some a =>
    have hb : ¬ (281474976710656 < Builtin.nextslicecap m 0 * i.bytes) := by rw [nextslicecap_zero hm]; omega
    have hm' : m ≠ 0 := by omega
    simp [Builtin.append_, run_underlying ht, sizeOf, typeInfo, hi, Builtin.lenOf, Builtin.firstCells, loadCells, loadCellsFrom, hb, hm']
theorem run_append_nothing (t ty : TypeId) (i : TypeInfo) (ht : P.underlying t = some (.slice e)) (hi : P.info? e = some i) (A B : Option Addr) (n c d : Nat) (hc : n ≤ c) :
    (Builtin.append_ #[t, t] ty #[.slice A n c, .slice B 0 d]).run P w = .ok (.slice A n c) w := by
  cases A <;> cases B <;> simp [Builtin.append_, run_underlying ht, sizeOf, typeInfo, hi, Builtin.lenOf, Builtin.firstCells, loadCells, loadCellsFrom, storeCells, hc]
theorem own_new (w : World) (F : Nat → Prop) (e : TypeId) (k n : Nat) (cs : Array Value) (cap : Nat) (xs : List Value) (hl : xs.length = n * k) (hp : 0 < cap) (hn : n ≤ cap) (hm : cap ≤ maxLen) (hs : cs.size = cap * k)
    (ht : cs.toList.take (n * k) = xs) (hF : F w.heap.size) : Own (w.alloc (.cells cs e)) F e k (.slice (some ⟨w.heap.size, 0, none⟩) n cap) n xs :=
  ⟨hl, .inr ⟨_, cap, cs, rfl, hp, hF, heap_alloc_new w _, hn, hm, hs, ht⟩⟩
theorem run_append_rd (t ty : TypeId) (i : TypeInfo) (z : Value) (bytes : Nat) (ht : P.underlying t = some (.slice e)) (hi : P.info? e = some i) (hz : i.zero = some z)
    (hsize : i.size = k) (hby : i.bytes = bytes) (hzs : z.cells.size = k) (hk : 0 < k)
    (hv : Own w F e k v n xs) (hs : Rd w G k s m ys) (h1 : ∀ u ∈ ys, u.oneCell' = true) (h63 : n + m ≤ maxLen) (hbytes : (n + m) * bytes ≤ 140737488355328) :
    ∃ v' w', (Builtin.append_ #[t, t] ty #[v, s]).run P w = .ok v' w' ∧ Own w' (fun b => F b ∨ w.heap.size ≤ b) e k v' (n + m) (xs ++ ys) ∧ Mod (row v) w w' ∧ (∀ b, row v' b → row v b ∨ w.heap.size ≤ b) := by
  subst hsize
  subst hby
  obtain ⟨hyl, B, c, rfl, hmc, hcm, hB⟩ := hs
  by_cases hm : m = 0
  · subst hm
    have hy : ys = [] := List.eq_nil_of_length_eq_zero (by simpa using hyl)
    subst hy
    obtain ⟨A, cap, rfl, hn, _, _⟩ := hv.form
    refine ⟨_, w, run_append_nothing t ty i ht hi A B n cap c hn, ?_, Mod.refl _ _, fun b h => .inl h⟩
    simpa using hv.mono (fun g _ _ h => Or.inl h)
  · obtain ⟨g', o', rfl, _, _, hcell⟩ := hB (by omega)
    have hnews : ∀ j u, ys[j]? = some u → w.cell? ((⟨g', o', none⟩ : Addr).add j) = some u := fun j u hu => by rw [addr_add]; exact hcell j u hu
    have hsmall : n + m ≤ 9223372036854775807 := by simp only [maxLen] at h63; omega
    have hlen : (xs ++ ys).length = (n + m) * i.size := by rw [List.length_append, hv.1, hyl, Nat.add_mul]
    rcases hv.2 with ⟨A, rfl, rfl⟩ | ⟨g, cap, cur, rfl, hp, hF, hg, hn, hmx, hcs, htake⟩
    · have hx : xs = [] := List.eq_nil_of_length_eq_zero (by simpa using hv.1)
      subst hx
      have hr := run_append_nil (P := P) w t ty e i z ht hi hz ⟨g', o', none⟩ m c ys hyl hnews (by omega) (by omega) (by have hb := hbytes; simp only [Nat.zero_add] at hb; omega)
      have hge := grownCap_ge w m 0 e
      have hcm' := grownCap_le_maxLen w m 0 e (by omega)
      refine ⟨_, _, (run_append_zero t ty A i ht hi ⟨g', o', none⟩ m c (by omega) (by have hb := hbytes; simp only [Nat.zero_add] at hb; omega)).trans hr, ?_, ((Mod.refl _ _).drew.alloc _), fun b hb => .inr ?_⟩
      · simp only [Nat.zero_add, List.nil_append] at hlen ⊢
        refine own_new w.drew _ e i.size m _ _ ys hlen (by omega) hge hcm' ?_ ?_ (.inr (Nat.le_refl _))
        · simp only [Array.size_append, List.size_toArray, size_zeroCells, hzs, hyl, ← Nat.add_mul]
          congr 1
          omega
        · simp only [Array.toList_append]
          rw [← hyl]
          exact List.take_left
      · have : w.heap.size = b := hb.2
        omega
    · by_cases hroom : n + m ≤ cap
      · have hfit : n * i.size + ys.length ≤ cur.size := by rw [hyl, hcs, ← Nat.add_mul]; exact Nat.mul_le_mul_right _ hroom
        have hr := run_append_room (P := P) w t ty e i ht hi g n cap cur hg ⟨g', o', none⟩ m c ys hyl hnews h1 hroom hfit
        refine ⟨_, _, hr, ⟨hlen, .inr ⟨g, cap, _, rfl, hp, .inl hF, setRow_heap w g cur _ e _ hg, hroom, hmx, ?_, ?_⟩⟩, ⟨rfl, rfl, rfl, by simp, fun b _ hb => setRow_other w g b _ (fun e => hb ⟨hp, e.symm⟩)⟩, fun b hb => .inl hb⟩
        · simp only [List.size_toArray, List.length_append, List.length_take, List.length_drop, Array.length_toList]
          omega
        · rw [htake, ← hlen]
          exact List.take_left
      · have holds : ∀ j u, xs[j]? = some u → w.cell? ((⟨g, 0, none⟩ : Addr).add j) = some u := fun j u hu => by
          rw [addr_add, Nat.zero_add, cell_of_row w g j cur e (0, 0) hg]
          rw [← htake, List.getElem?_take] at hu
          split at hu
          · simpa using hu
          · cases hu
        have hr := run_append_grow (P := P) w t ty e i z ht hi hz ⟨g, 0, none⟩ n cap xs hv.1 holds ⟨g', o', none⟩ m c ys hyl hnews (by omega) (by omega) (growslice_fits (by omega) hbytes)
        have hge := grownCap_ge w (n + m) cap e
        have hcm' := grownCap_le_maxLen w (n + m) cap e (by omega)
        refine ⟨_, _, hr, ?_, ((Mod.refl _ _).drew.alloc _), fun b hb => .inr ?_⟩
        · refine own_new w.drew _ e i.size (n + m) _ _ (xs ++ ys) hlen (by omega) hge hcm' ?_ ?_ (.inr (Nat.le_refl _))
          · simp only [Array.size_append, List.size_toArray, size_zeroCells, hzs, hyl, hv.1, ← Nat.add_mul]
            congr 1
            omega
          · simp only [Array.toList_append, List.append_assoc]
            rw [← List.append_assoc, ← hlen]
            exact List.take_left
        · have : w.heap.size = b := hb.2
          omega
theorem run_make1 (t : TypeId) (i : TypeInfo) (z : Value) (bytes : Nat) (ht : P.underlying t = some (.slice e)) (hi : P.info? e = some i) (hz : i.zero = some z) (hsize : i.size = 1) (hby : i.bytes = bytes) (hzs : z.cells = #[z])
    (kl kc : IntKind) (n : Nat) (hb : bytes * n ≤ 281474976710656) (hn : n ≤ 281474976710656) :
    ∃ w', (Instr.makeSlice t (.int kl (n : Int)) (.int kc (n : Int))).run P w = .ok (.slice (some ⟨w.heap.size, 0, none⟩) n n) w' ∧
      Own w' (fun g => g = w.heap.size) e 1 (.slice (some ⟨w.heap.size, 0, none⟩) n n) n (List.replicate n z) ∧ Below w.heap.size w w' := by
  subst hby
  have hb' : (i.bytes : Int) * (n : Int) ≤ 281474976710656 := by
    have h : ((i.bytes * n : Nat) : Int) ≤ 281474976710656 := by omega
    rwa [Int.natCast_mul] at h
  have hr := run_make (P := P) w t e i z ht hi hz kl kc n n (by omega) (Int.le_refl _) hb' (by omega)
  simp only [Int.toNat_natCast] at hr
  refine ⟨_, hr, ?_, (Below.refl _ _).alloc (Nat.le_refl _) _⟩
  rw [hzs, hsize, Nat.mul_one]
  rcases Nat.eq_zero_or_pos n with h0 | h0
  · subst h0
    exact Own.none_ _ _ _ _ _
  · exact own_new w _ e 1 n _ n _ (by simp) h0 (Nat.le_refl _) (by unfold maxLen; omega) (by simp [size_madeCells]) (by rw [toList_madeCells_one, Nat.mul_one, List.take_replicate, Nat.min_self]) rfl
theorem wpList_make1 {ops : Array Oper} {rest : List Oper} {o : Oper} {a : Act} {Q : Exit → Act → World → Prop} (hgd : o.guard = none) (l c : Operand) (t : TypeId) (ho : o.op = .makeSlice t l c)
    (i : TypeInfo) (z : Value) (bytes : Nat) (ht : P.underlying t = some (.slice e)) (hi : P.info? e = some i) (hz : i.zero = some z) (hsize : i.size = 1) (hby : i.bytes = bytes) (hzs : z.cells = #[z])
    {kl kc : IntKind} {n : Nat} (hl : a.eval l = .int kl (n : Int)) (hc : a.eval c = .int kc (n : Int)) (hb : bytes * n ≤ 281474976710656) (hn : n ≤ 281474976710656)
    (hK : ∀ w', Own w' (fun g => g = w.heap.size) e 1 (.slice (some ⟨w.heap.size, 0, none⟩) n n) n (List.replicate n z) → Below w.heap.size w w' → wpList P ops Q rest (a.put o.dst (.slice (some ⟨w.heap.size, 0, none⟩) n n)) w') :
    wpList P ops Q (o :: rest) a w := by
  refine wpList_plain hgd fun _ hK' => ?_
  obtain ⟨w', hr, h1, h2⟩ := run_make1 (P := P) (w := w) t i z bytes ht hi hz hsize hby hzs kl kc n hb hn
  unfold Oper.wp execOp
  simp only [ho, Sem.run_bind, Sem.run_pure, Result.andThen_ok, hl, hc, hr]
  exact hK' _ _ (hK w' h1 h2)
end
end Go.Proofs.Ytbghfdhijlpogaa
