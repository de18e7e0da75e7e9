/-
 Chapter 32: several texts in one (Mem Maps Tbase).
-/
import Derived.Test.YtcjmpobccbnpkaaGreatRows
import Derived.WalkKit
import Derived.WalkSpells
import Derived.WalkLawsBesides
import Derived.Deep.RegionHeld3
import Derived.Deep.QuietTactic
import Derived.BigQuiet
import Derived.Deep.RegionLaw
import Derived.Deep.AppendLies
import Derived.Deep.DeepCutAuto
import Derived.Deep.LoopGhost
import Derived.Deep.RegionWith
import Derived.Outline
import Derived.Deep.DeepFit
import Derived.Deep.DeepMust
import Derived.Deep.Draws
import Derived.OneCell
import Derived.WalkSmall
namespace Go.Proofs.YtcjmpobccbnpkaaGreat
section
open Go.RowKit
def Hid (p : Prop) : Prop := p
theorem Hid.o {p : Prop} (h : Hid p) : p := h
theorem hid {p : Prop} (h : p) : Hid p := h
/-! ### new blocks, for the walk -/
theorem World.heap_alloc_ne (w : World) (o : Obj) (k : Nat) (h : w.heap.size ≠ k) : (w.alloc o).heap[k]? = w.heap[k]? := by
 show (w.heap.push o)[k]? = _
 rw [Array.getElem?_push, if_neg (by omega)]
theorem World.cell?_alloc_ne (w : World) (o : Obj) (b i : Nat) (h : w.heap.size ≠ b) : (w.alloc o).cell? ⟨b, i, none⟩ = w.cell? ⟨b, i, none⟩ := World.cell?_of_block (World.heap_alloc_ne w o b h)
theorem World.frozen?_alloc_ne (w : World) (o : Obj) (b i : Nat) (h : w.heap.size ≠ b) : (w.alloc o).frozen? ⟨b, i, none⟩ = w.frozen? ⟨b, i, none⟩ := World.frozen?_of_block (World.heap_alloc_ne w o b h)
theorem World.heap_drew (w : World) : w.drew.heap = w.heap := rfl
attribute [go_sem] World.heap_alloc_ne World.cell?_alloc_ne World.frozen?_alloc_ne World.heap_drew
theorem steps {b n : Nat} (h : b < n) : n ≠ b ∧ n + 1 ≠ b ∧ n + 2 ≠ b ∧ n + 3 ≠ b ∧ n + 4 ≠ b ∧ n + 5 ≠ b := by omega
/-! ### what a step may have changed -/
structure Mod (F : Nat → Prop) (w w' : World) : Prop where
 os : w'.os = w.os
 tape : w'.tape = w.tape
 output : w'.output = w.output
 size : w.heap.size ≤ w'.heap.size
 block : ∀ k, k < w.heap.size → ¬ F k → w'.heap[k]? = w.heap[k]?
theorem Mod.refl (F : Nat → Prop) (w : World) : Mod F w w := ⟨rfl, rfl, rfl, Nat.le_refl _, fun _ _ _ => rfl⟩
theorem Mod.trans {F : Nat → Prop} {a b c : World} (h : Mod F a b) (k : Mod (fun i => F i ∨ a.heap.size ≤ i) b c) : Mod F a c :=
 ⟨k.os.trans h.os, k.tape.trans h.tape, k.output.trans h.output, Nat.le_trans h.size k.size,
  fun i hi hF => (k.block i (Nat.lt_of_lt_of_le hi h.size) (fun e => e.elim hF (fun e => by omega))).trans (h.block i hi hF)⟩
theorem Mod.mono {F G : Nat → Prop} {w w' : World} (h : Mod F w w') (hFG : ∀ k, k < w.heap.size → F k → G k) : Mod G w w' :=
 ⟨h.os, h.tape, h.output, h.size, fun k hk hG => h.block k hk (fun e => hG (hFG k hk e))⟩
theorem Mod.of_below {F : Nat → Prop} {w w' : World} (h : Below w.heap.size w w') : Mod F w w' :=
 ⟨h.os, h.tape, h.output, h.size, fun k hk _ => h.block k hk⟩
theorem Mod.below {w w' : World} (h : Mod (fun _ => False) w w') : Below w.heap.size w w' :=
 ⟨h.os, h.tape, h.output, h.size, fun k hk => h.block k hk id⟩
theorem Mod.alloc {F : Nat → Prop} {a w : World} (h : Mod F a w) (o : Obj) : Mod F a (w.alloc o) :=
 h.trans ⟨rfl, rfl, rfl, by simp, fun k hk _ => World.heap_alloc_ne w o k (by omega)⟩
theorem Mod.drew {F : Nat → Prop} {a w : World} (h : Mod F a w) : Mod F a w.drew := ⟨h.os, h.tape, h.output, h.size, h.block⟩
theorem Mod.setCell {F : Nat → Prop} {a w : World} (h : Mod F a w) {p : Addr} (hp : F p.block ∨ a.heap.size ≤ p.block) (u : Value) : Mod F a (w.setCell p u) :=
 h.trans ⟨rfl, rfl, rfl, by simp [World.setCell], fun k _ hF => Below.heap_setCell _ _ _ _ (fun e => hF (e ▸ hp))⟩
theorem Mod.of_grown {w w' : World} {row : Option Nat} (h : w.grownBy w' row) : Mod (fun k => row = some k) w w' :=
 ⟨h.os, h.tape, h.output, h.size, fun k hk hF => h.block k hk (fun e => hF e.symm)⟩
/-! ### a slice that reads as a list of cells -/
def Rd (w : World) (F : Nat → Prop) (k : Nat) (v : Value) (n : Nat) (xs : List Value) : Prop :=
 xs.length = n * k ∧ ∃ A cap, v = .slice A n cap ∧ n ≤ cap ∧ cap ≤ maxLen ∧
  (0 < n → ∃ g o, A = some ⟨g, o, none⟩ ∧ F g ∧ g < w.heap.size ∧ ∀ j u, xs[j]? = some u → w.cell? ⟨g, o + j, none⟩ = some u)
section
variable {w w' : World} {F G : Nat → Prop} {k n : Nat} {v : Value} {xs : List Value}
theorem Rd.keep (h : Rd w F k v n xs) (hs : w.heap.size ≤ w'.heap.size)
  (hb : ∀ g, g < w.heap.size → F g → w'.heap[g]? = w.heap[g]?) : Rd w' F k v n xs := by
 obtain ⟨hl, A, cap, hv, hc, hm, hA⟩ := h
 refine ⟨hl, A, cap, hv, hc, hm, fun hp => ?_⟩
 obtain ⟨g, o, hA, hF, hlt, hcell⟩ := hA hp
 exact ⟨g, o, hA, hF, by omega, fun j u hu => (World.cell?_of_block (hb g hlt hF)).trans (hcell j u hu)⟩
theorem Rd.mod (h : Rd w F k v n xs) (hm : Mod G w w') (hFG : ∀ g, g < w.heap.size → F g → ¬ G g) : Rd w' F k v n xs :=
 h.keep hm.size fun g hg hF => hm.block g hg (hFG g hg hF)
theorem Rd.below (h : Rd w F k v n xs) (hm : Below w.heap.size w w') : Rd w' F k v n xs := h.keep hm.size fun g hg _ => hm.block g hg
theorem Rd.mono (h : Rd w F k v n xs) (hFG : ∀ g, g < w.heap.size → F g → G g) : Rd w G k v n xs := by
 obtain ⟨hl, A, cap, hv, hc, hm, hA⟩ := h
 refine ⟨hl, A, cap, hv, hc, hm, fun hp => ?_⟩
 obtain ⟨g, o, hA, hF, hlt, hcell⟩ := hA hp
 exact ⟨g, o, hA, hFG g hlt hF, hlt, hcell⟩
theorem Rd.take {A : Option Addr} {c m : Nat} (h : Rd w F k (.slice A n c) n xs) (hm : m ≤ n) : Rd w F k (.slice A m c) m (xs.take (m * k)) := by
 obtain ⟨hl, A', cap, hv, hc, hmx, hA⟩ := h
 injection hv with h1 _ h3
 subst h1; subst h3
 have hle : m * k ≤ n * k := Nat.mul_le_mul_right _ hm
 refine ⟨by rw [List.length_take]; omega, A, c, rfl, by omega, hmx, fun hp => ?_⟩
 obtain ⟨g, o, e, hF, hlt, hcell⟩ := hA (by omega)
 refine ⟨g, o, e, hF, hlt, fun j u hu => hcell j u ?_⟩
 rw [List.getElem?_take] at hu
 split at hu
 ·exact hu
 ·cases hu
theorem Rd.len (h : Rd w F k v n xs) : n ≤ maxLen := by
 obtain ⟨_, _, _, _, h1, h2, _⟩ := h; omega
end
/-! ### a slice that the call owns -/
def Own (w : World) (F : Nat → Prop) (e : TypeId) (k : Nat) (v : Value) (n : Nat) (xs : List Value) : Prop :=
 xs.length = n * k ∧ ((∃ A, v = .slice A 0 0 ∧ n = 0) ∨
  ∃ g cap cur, v = .slice (some ⟨g, 0, none⟩) n cap ∧ 0 < cap ∧ F g ∧ w.heap[g]? = some (.cells cur e (0, 0)) ∧ n ≤ cap ∧ cap ≤ maxLen ∧ cur.size = cap * k ∧ cur.toList.take (n * k) = xs)
def row (v : Value) : Nat → Prop := fun g => match v with | .slice (some a) _ c => 0 < c ∧ a.block = g | _ => False
section
variable {w w' : World} {F G : Nat → Prop} {e : TypeId} {k n : Nat} {v : Value} {xs : List Value}
theorem Own.keep (h : Own w F e k v n xs) (hb : ∀ g, g < w.heap.size → row v g → F g → w'.heap[g]? = w.heap[g]?) : Own w' F e k v n xs := by
 obtain ⟨hl, h⟩ := h
 refine ⟨hl, ?_⟩
 rcases h with h | ⟨g, cap, cur, hv, hp, hF, hg, r⟩
 ·exact .inl h
 ·subst hv
  exact .inr ⟨g, cap, cur, rfl, hp, hF, (hb g (lt_of_block hg) ⟨hp, rfl⟩ hF).trans hg, r⟩
theorem Own.mod (h : Own w F e k v n xs) (hm : Mod G w w') (hFG : ∀ g, g < w.heap.size → row v g → F g → ¬ G g) : Own w' F e k v n xs :=
 h.keep fun g hg hr hF => hm.block g hg (hFG g hg hr hF)
theorem Own.below (h : Own w F e k v n xs) (hm : Below w.heap.size w w') : Own w' F e k v n xs := h.keep fun g hg _ _ => hm.block g hg
theorem Own.mono (h : Own w F e k v n xs) (hFG : ∀ g, g < w.heap.size → row v g → F g → G g) : Own w G e k v n xs := by
 obtain ⟨hl, h⟩ := h
 refine ⟨hl, ?_⟩
 rcases h with h | ⟨g, cap, cur, hv, hp, hF, hg, r⟩
 ·exact .inl h
 ·subst hv
  exact .inr ⟨g, cap, cur, rfl, hp, hFG g (lt_of_block hg) ⟨hp, rfl⟩ hF, hg, r⟩
theorem Own.row (h : Own w F e k v n xs) {g : Nat} (hr : row v g) : F g ∧ ∃ cur, w.heap[g]? = some (.cells cur e (0, 0)) := by
 rcases h.2 with ⟨A, rfl, _⟩ | ⟨g', cap, cur, rfl, hp, hF, hg, _⟩
 ·cases A <;> simp [Go.Proofs.YtcjmpobccbnpkaaGreat.row] at hr
 ·obtain ⟨_, rfl⟩ := hr
  exact ⟨hF, cur, hg⟩
theorem Own.rd (h : Own w F e k v n xs) : Rd w F k v n xs := by
 obtain ⟨hl, h⟩ := h
 refine ⟨hl, ?_⟩
 rcases h with ⟨A, rfl, rfl⟩ | ⟨g, cap, cur, rfl, hp, hF, hg, hn, hm, hs, ht⟩
 ·exact ⟨A, 0, rfl, Nat.le_refl _, Nat.zero_le _, fun h => absurd h (by omega)⟩
 ·refine ⟨_, cap, rfl, hn, hm, fun _ => ⟨g, 0, rfl, hF, lt_of_block hg, fun j u hu => ?_⟩⟩
  rw [Nat.zero_add, cell_of_row w g j cur e (0, 0) hg]
  rw [← ht, List.getElem?_take] at hu
  split at hu
  ·simpa using hu
  ·cases hu
theorem Own.nil (w : World) (F : Nat → Prop) (e : TypeId) (k : Nat) : Own w F e k (.slice none 0 0) 0 [] := ⟨by simp, .inl ⟨none, rfl, rfl⟩⟩
theorem Own.none_ (w : World) (F : Nat → Prop) (e : TypeId) (k : Nat) (A : Option Addr) : Own w F e k (.slice A 0 0) 0 [] := ⟨by simp, .inl ⟨A, rfl, rfl⟩⟩
theorem Own.form (h : Own w F e k v n xs) : ∃ A cap, v = .slice A n cap ∧ n ≤ cap ∧ cap ≤ maxLen ∧ (0 < cap → ∃ g, A = some ⟨g, 0, none⟩ ∧ F g ∧ g < w.heap.size) := by
 rcases h.2 with ⟨A, rfl, rfl⟩ | ⟨g, cap, cur, rfl, hp, hF, hg, hn, hm, hs, ht⟩
 ·exact ⟨A, 0, rfl, Nat.le_refl _, Nat.zero_le _, fun h => absurd h (by omega)⟩
 ·exact ⟨_, cap, rfl, hn, hm, fun _ => ⟨g, rfl, hF, lt_of_block hg⟩⟩
theorem Own.take {A : Option Addr} {cap m : Nat} (h : Own w F e k (.slice A n cap) n xs) (hm : m ≤ n) : Own w F e k (.slice A m cap) m (xs.take (m * k)) := by
 obtain ⟨hl, h⟩ := h
 have hle : m * k ≤ n * k := Nat.mul_le_mul_right _ hm
 refine ⟨by rw [List.length_take]; omega, ?_⟩
 rcases h with ⟨A', hv, rfl⟩ | ⟨g, cap', cur, hv, hp, hF, hg, hn, hmx, hs, ht⟩
 ·injection hv with h1 h2 h3
  subst h3; subst h1
  obtain rfl : m = 0 := by omega
  exact .inl ⟨_, rfl, rfl⟩
 ·injection hv with h1 h2 h3
  subst h1; subst h3
  refine .inr ⟨g, cap, cur, rfl, hp, hF, hg, by omega, hmx, hs, ?_⟩
  rw [← ht, List.take_take, Nat.min_eq_left hle]
theorem Own.cell {A : Option Addr} {cap j : Nat} (h : Own w F e k (.slice A n cap) n xs) (hj : j < n * k) :
  ∃ g, A = some ⟨g, 0, none⟩ ∧ F g ∧ g < w.heap.size ∧ w.cell? ⟨g, j, none⟩ = xs[j]? ∧ w.frozen? ⟨g, j, none⟩ = false := by
 obtain ⟨hl, h⟩ := h
 rcases h with ⟨A', hv, rfl⟩ | ⟨g, cap', cur, hv, hp, hF, hg, hn, hmx, hs, ht⟩
 ·omega
 ·injection hv with h1 h2 h3
  subst h1
  refine ⟨g, rfl, hF, lt_of_block hg, ?_, frozen_of_row w g j cur e hg⟩
  rw [cell_of_row w g j cur e (0, 0) hg, ← ht, List.getElem?_take, if_pos hj]
  simp
theorem Own.stored {g cap j : Nat} (h : Own w F e k (.slice (some ⟨g, 0, none⟩) n cap) n xs) (u : Value) :
  Own (w.setCell ⟨g, j, none⟩ u) F e k (.slice (some ⟨g, 0, none⟩) n cap) n (xs.set j u) := by
 obtain ⟨hl, h⟩ := h
 refine ⟨by simpa using hl, ?_⟩
 rcases h with ⟨A', hv, rfl⟩ | ⟨g', cap', cur, hv, hp, hF, hg, hn, hmx, hs, ht⟩
 ·injection hv with h1 h2 h3
  exact .inl ⟨_, by rw [h3], rfl⟩
 ·injection hv with h1 h2 h3
  injection h1 with h1
  injection h1 with h1
  subst h1; subst h3
  refine .inr ⟨g, cap, cur.setIfInBounds j u, rfl, hp, hF, heap_setCell_same w g j cur e u hg, hn, hmx, by simpa using hs, ?_⟩
  rw [← ht]
  simp [List.take_set]
end
theorem Own.drew {w : World} {F : Nat → Prop} {e : TypeId} {k n : Nat} {v : Value} {xs : List Value} (h : Own w F e k v n xs) : Own w.drew F e k v n xs := h
/-! ### append -/
theorem row_none (A : Option Addr) (n : Nat) : row (.slice A n 0) = fun _ => False := by
 funext g; cases A <;> simp [row]
theorem addr_add (g o j : Nat) : (⟨g, o, none⟩ : Addr).add j = ⟨g, o + j, none⟩ := by unfold Addr.add; split <;> simp_all
section
variable {P : Program} {w : World} {F G : Nat → Prop} {e : TypeId} {k n m : Nat} {v s : Value} {xs ys : List Value}
theorem run_append_zero (t ty : TypeId) (A : Option Addr) (i : TypeInfo) (ht : P.underlying t = some (.slice e)) (hi : P.info? e = some i) (b : Addr) (m c : Nat) (hm : 0 < m)
  (h48 : m * i.bytes ≤ 140737488355328) :
  (Builtin.append_ #[t, t] ty #[.slice A 0 0, .slice (some b) m c]).run P w = (Builtin.append_ #[t, t] ty #[.slice none 0 0, .slice (some b) m c]).run P w := by
 cases A with
 | none => rfl
 | some a =>
  have hb : ¬ (281474976710656 < Builtin.nextslicecap m 0 * i.bytes) := by rw [nextslicecap_zero hm]; omega
  have hm' : m ≠ 0 := by omega
  simp [Builtin.append_, run_underlying ht, sizeOf, typeInfo, hi, Builtin.lenOf, Builtin.firstCells, loadCells, loadCellsFrom, hb, hm']
theorem run_append_nothing (t ty : TypeId) (i : TypeInfo) (ht : P.underlying t = some (.slice e)) (hi : P.info? e = some i) (A B : Option Addr) (n c d : Nat) (hc : n ≤ c) :
  (Builtin.append_ #[t, t] ty #[.slice A n c, .slice B 0 d]).run P w = .ok (.slice A n c) w := by
 cases A <;> cases B <;> simp [Builtin.append_, run_underlying ht, sizeOf, typeInfo, hi, Builtin.lenOf, Builtin.firstCells, loadCells, loadCellsFrom, storeCells, hc]
theorem own_new (w : World) (F : Nat → Prop) (e : TypeId) (k n : Nat) (cs : Array Value) (cap : Nat) (xs : List Value) (hl : xs.length = n * k) (hp : 0 < cap) (hn : n ≤ cap) (hm : cap ≤ maxLen) (hs : cs.size = cap * k)
  (ht : cs.toList.take (n * k) = xs) (hF : F w.heap.size) : Own (w.alloc (.cells cs e)) F e k (.slice (some ⟨w.heap.size, 0, none⟩) n cap) n xs :=
 ⟨hl, .inr ⟨_, cap, cs, rfl, hp, hF, heap_alloc_new w _, hn, hm, hs, ht⟩⟩
theorem run_append_rd (t ty : TypeId) (i : TypeInfo) (z : Value) (bytes : Nat) (ht : P.underlying t = some (.slice e)) (hi : P.info? e = some i) (hz : i.zero = some z)
  (hsize : i.size = k) (hby : i.bytes = bytes) (hzs : z.cells.size = k) (hk : 0 < k)
  (hv : Own w F e k v n xs) (hs : Rd w G k s m ys) (h1 : ∀ u ∈ ys, u.oneCell' = true) (h63 : n + m ≤ maxLen) (hbytes : (n + m) * bytes ≤ 140737488355328) :
  ∃ v' w', (Builtin.append_ #[t, t] ty #[v, s]).run P w = .ok v' w' ∧ Own w' (fun b => F b ∨ w.heap.size ≤ b) e k v' (n + m) (xs ++ ys) ∧ Mod (row v) w w' ∧ (∀ b, row v' b → row v b ∨ w.heap.size ≤ b) := by
 subst hsize
 subst hby
 obtain ⟨hyl, B, c, rfl, hmc, hcm, hB⟩ := hs
 by_cases hm : m = 0
 ·subst hm
  have hy : ys = [] := List.eq_nil_of_length_eq_zero (by simpa using hyl)
  subst hy
  obtain ⟨A, cap, rfl, hn, _, _⟩ := hv.form
  refine ⟨_, w, run_append_nothing t ty i ht hi A B n cap c hn, ?_, Mod.refl _ _, fun b h => .inl h⟩
  simpa using hv.mono (fun g _ _ h => Or.inl h)
 ·obtain ⟨g', o', rfl, _, _, hcell⟩ := hB (by omega)
  have hnews : ∀ j u, ys[j]? = some u → w.cell? ((⟨g', o', none⟩ : Addr).add j) = some u := fun j u hu => by rw [addr_add]; exact hcell j u hu
  have hsmall : n + m ≤ 9223372036854775807 := by simp only [maxLen] at h63; omega
  have hlen : (xs ++ ys).length = (n + m) * i.size := by rw [List.length_append, hv.1, hyl, Nat.add_mul]
  rcases hv.2 with ⟨A, rfl, rfl⟩ | ⟨g, cap, cur, rfl, hp, hF, hg, hn, hmx, hcs, htake⟩
  ·have hx : xs = [] := List.eq_nil_of_length_eq_zero (by simpa using hv.1)
   subst hx
   have hr := run_append_nil (P := P) w t ty e i z ht hi hz ⟨g', o', none⟩ m c ys hyl hnews (by omega) (by omega) (by have hb := hbytes; simp only [Nat.zero_add] at hb; omega)
   have hge := grownCap_ge w m 0 e
   have hcm' := grownCap_le_maxLen w m 0 e (by omega)
   refine ⟨_, _, (run_append_zero t ty A i ht hi ⟨g', o', none⟩ m c (by omega) (by have hb := hbytes; simp only [Nat.zero_add] at hb; omega)).trans hr, ?_, ((Mod.refl _ _).drew.alloc _), fun b hb => .inr ?_⟩
   ·simp only [Nat.zero_add, List.nil_append] at hlen ⊢
    refine own_new w.drew _ e i.size m _ _ ys hlen (by omega) hge hcm' ?_ ?_ (.inr (Nat.le_refl _))
    ·simp only [Array.size_append, List.size_toArray, size_zeroCells, hzs, hyl, ← Nat.add_mul]
     congr 1
     omega
    ·simp only [Array.toList_append]
     rw [← hyl]
     exact List.take_left
   ·have : w.heap.size = b := hb.2
    omega
  ·by_cases hroom : n + m ≤ cap
   ·have hfit : n * i.size + ys.length ≤ cur.size := by rw [hyl, hcs, ← Nat.add_mul]; exact Nat.mul_le_mul_right _ hroom
    have hr := run_append_room (P := P) w t ty e i ht hi g n cap cur hg ⟨g', o', none⟩ m c ys hyl hnews h1 hroom hfit
    refine ⟨_, _, hr, ⟨hlen, .inr ⟨g, cap, _, rfl, hp, .inl hF, setRow_heap w g cur _ e _ hg, hroom, hmx, ?_, ?_⟩⟩, ⟨rfl, rfl, rfl, by simp, fun b _ hb => setRow_other w g b _ (fun e => hb ⟨hp, e.symm⟩)⟩, fun b hb => .inl hb⟩
    ·simp only [List.size_toArray, List.length_append, List.length_take, List.length_drop, Array.length_toList]
     omega
    ·rw [htake, ← hlen]
     exact List.take_left
   ·have holds : ∀ j u, xs[j]? = some u → w.cell? ((⟨g, 0, none⟩ : Addr).add j) = some u := fun j u hu => by
     rw [addr_add, Nat.zero_add, cell_of_row w g j cur e (0, 0) hg]
     rw [← htake, List.getElem?_take] at hu
     split at hu
     ·simpa using hu
     ·cases hu
    have hr := run_append_grow (P := P) w t ty e i z ht hi hz ⟨g, 0, none⟩ n cap xs hv.1 holds ⟨g', o', none⟩ m c ys hyl hnews (by omega) (by omega) (growslice_fits (by omega) hbytes)
    have hge := grownCap_ge w (n + m) cap e
    have hcm' := grownCap_le_maxLen w (n + m) cap e (by omega)
    refine ⟨_, _, hr, ?_, ((Mod.refl _ _).drew.alloc _), fun b hb => .inr ?_⟩
    ·refine own_new w.drew _ e i.size (n + m) _ _ (xs ++ ys) hlen (by omega) hge hcm' ?_ ?_ (.inr (Nat.le_refl _))
     ·simp only [Array.size_append, List.size_toArray, size_zeroCells, hzs, hyl, hv.1, ← Nat.add_mul]
      congr 1
      omega
     ·simp only [Array.toList_append, List.append_assoc]
      rw [← List.append_assoc, ← hlen]
      exact List.take_left
    ·have : w.heap.size = b := hb.2
     omega
theorem run_make1 (t : TypeId) (i : TypeInfo) (z : Value) (bytes : Nat) (ht : P.underlying t = some (.slice e)) (hi : P.info? e = some i) (hz : i.zero = some z) (hsize : i.size = 1) (hby : i.bytes = bytes) (hzs : z.cells = #[z])
  (kl kc : IntKind) (n : Nat) (hb : bytes * n ≤ 281474976710656) (hn : n ≤ 281474976710656) :
  ∃ w', (Instr.makeSlice t (.int kl (n : Int)) (.int kc (n : Int))).run P w = .ok (.slice (some ⟨w.heap.size, 0, none⟩) n n) w' ∧
   Own w' (fun g => g = w.heap.size) e 1 (.slice (some ⟨w.heap.size, 0, none⟩) n n) n (List.replicate n z) ∧ Below w.heap.size w w' := by
 subst hby
 have hb' : (i.bytes : Int) * (n : Int) ≤ 281474976710656 := by
  have h : ((i.bytes * n : Nat) : Int) ≤ 281474976710656 := by omega
  rwa [Int.natCast_mul] at h
 have hr := run_make (P := P) w t e i z ht hi hz kl kc n n (by omega) (Int.le_refl _) hb' (by omega)
 simp only [Int.toNat_natCast] at hr
 refine ⟨_, hr, ?_, (Below.refl _ _).alloc (Nat.le_refl _) _⟩
 rw [hzs, hsize, Nat.mul_one]
 rcases Nat.eq_zero_or_pos n with h0 | h0
 ·subst h0
  exact Own.none_ _ _ _ _ _
 ·exact own_new w _ e 1 n _ n _ (by simp) h0 (Nat.le_refl _) (by unfold maxLen; omega) (by simp [size_madeCells]) (by rw [toList_madeCells_one, Nat.mul_one, List.take_replicate, Nat.min_self]) rfl
theorem wpList_make1 {ops : Array Oper} {rest : List Oper} {o : Oper} {a : Act} {Q : Exit → Act → World → Prop} (hgd : o.guard = none) (l c : Operand) (t : TypeId) (ho : o.op = .makeSlice t l c)
  (i : TypeInfo) (z : Value) (bytes : Nat) (ht : P.underlying t = some (.slice e)) (hi : P.info? e = some i) (hz : i.zero = some z) (hsize : i.size = 1) (hby : i.bytes = bytes) (hzs : z.cells = #[z])
  {kl kc : IntKind} {n : Nat} (hl : a.eval l = .int kl (n : Int)) (hc : a.eval c = .int kc (n : Int)) (hb : bytes * n ≤ 281474976710656) (hn : n ≤ 281474976710656)
  (hK : ∀ w', Own w' (fun g => g = w.heap.size) e 1 (.slice (some ⟨w.heap.size, 0, none⟩) n n) n (List.replicate n z) → Below w.heap.size w w' → wpList P ops Q rest (a.put o.dst (.slice (some ⟨w.heap.size, 0, none⟩) n n)) w') :
  wpList P ops Q (o :: rest) a w := by
 refine wpList_plain hgd fun _ hK' => ?_
 obtain ⟨w', hr, h1, h2⟩ := run_make1 (P := P) (w := w) t i z bytes ht hi hz hsize hby hzs kl kc n hb hn
 unfold Oper.wp execOp
 simp only [ho, Sem.run_bind, Sem.run_pure, Result.andThen_ok, hl, hc, hr]
 exact hK' _ _ (hK w' h1 h2)
end
end
section
open Go.RowKit
/-! ### the map's look-up -/
def keyNum (x : MapEntry) : Int := intOf x.key
theorem findNow_i64 (v : Int) : ∀ (l : List MapEntry) (i : Nat), (∀ x ∈ l, ∃ n, x.key = .int .i64 n) →
  Instr.findNow (.int .i64) (.int .i64 v) l i = some ((l.findIdx? (fun x => keyNum x == v)).bind fun j => (l[j]?).map fun x => (i + j, x.val))
 | [], i, _ => by simp [Instr.findNow]
 |x :: l, i, h => by
  obtain ⟨n, hn⟩ := h x (by simp)
  have ih := findNow_i64 v l (i + 1) (fun y hy => h y (by simp [hy]))
  have hk : keyNum x = n := by simp [keyNum, hn, intOf]
  by_cases hvn : v = n
  ·subst hvn
   simp [Instr.findNow, Instr.sameNow, hn, List.findIdx?_cons, hk]
  ·have h1 : (v == n) = false := by simpa using hvn
   have h2 : (n == v) = false := by simpa using fun e => hvn e.symm
   simp only [Instr.findNow, Instr.sameNow, hn, h1, ih, List.findIdx?_cons, hk, h2]
   cases hf : l.findIdx? (fun x => keyNum x == v) with
   | none => simp
   | some j => simp [Nat.add_assoc, Nat.add_comm 1 j]
theorem checkKey_i64 {P : Program} {k : TypeId} (hk : P.underlying k = some (.int .i64)) (b : Bool) (n : Nat) (v : Int) (w : World) :
  (Instr.checkKey b (n + 1) k (.int .i64 v)).run P w = .ok () w := by
 simp [Instr.checkKey, run_underlying hk]
theorem findKey_i64 {P : Program} {k : TypeId} (hk : P.underlying k = some (.int .i64)) (v : Int) (l : List MapEntry) (hl : ∀ x ∈ l, ∃ n, x.key = .int .i64 n) (w : World) :
  (Instr.findKey k (.int .i64 v) l).run P w = .ok ((l.findIdx? (fun x => keyNum x == v)).bind fun j => (l[j]?).map fun x => (j, x.val)) w := by
 simp [Instr.findKey, run_underlying hk, findNow_i64 v l 0 hl]
theorem lookup_i64 {P : Program} {t k e : TypeId} {z : Value} (ht : P.underlying t = some (.map k e)) (hk : P.underlying k = some (.int .i64)) (v : Int) {w : World}
  (hz : (zeroValue e).run P w = .ok z w) {m : Nat} {es : Array MapEntry} {clock : Nat}
  (hm : w.heap[m]? = some (.map es clock)) (hl : ∀ x ∈ es.toList, ∃ n, x.key = .int .i64 n) (commaOk : Bool) :
  (Instr.lookup t (.map (some m)) (.int .i64 v) commaOk).run P w = .ok (match (es.toList.findIdx? (fun x => keyNum x == v)).bind fun j => es.toList[j]? with
   | some x => if commaOk then .tuple #[x.val, .bool true] else x.val
   | none => if commaOk then .tuple #[z, .bool false] else z) w := by
 have hc := checkKey_i64 (P := P) hk es.isEmpty 9999 v w
 have hf := findKey_i64 (P := P) hk v es.toList hl w
 simp only [Instr.lookup]
 simp [run_underlying ht, MapKept.run_getObj_map hm, hc, hf]
 cases h : es.toList.findIdx? (fun x => keyNum x == v) with
 | none => simp [hz]
 | some j =>
  have hj : j < es.toList.length := by
   have := List.findIdx?_eq_some_iff_getElem.1 h
   exact this.1
  simp at hj
  simp [hj]
open Go.ChangeMaps Go.MapKept in
theorem update_i64_new {P : Program} {t k e : TypeId} (ht : P.underlying t = some (.map k e)) (hk : P.underlying k = some (.int .i64)) (v : Int) {w : World}
  {m : Nat} {es : Array MapEntry} {clock : Nat}
  (hm : w.heap[m]? = some (.map es clock)) (hl : ∀ x ∈ es.toList, ∃ n, x.key = .int .i64 n) (hno : es.toList.findIdx? (fun x => keyNum x == v) = none) (val : Value) :
  (Instr.mapUpdate t (.map (some m)) (.int .i64 v) val).run P w = .ok () (setBlock w m (.map (es.push { key := .int .i64 v, val, born := clock }) (clock + 1))) := by
 have hc := checkKey_i64 (P := P) hk false 9999 v w
 have hf := findKey_i64 (P := P) hk v es.toList hl w
 simp only [Instr.mapUpdate]
 simp [run_underlying ht, MapKept.run_getObj_map hm, hc, hf, hno, MapKept.run_setObj_map _ hm, setBlock]
open Go.ChangeMaps Go.MapKept in
theorem update_i64_old {P : Program} {t k e : TypeId} (ht : P.underlying t = some (.map k e)) (hk : P.underlying k = some (.int .i64)) (v : Int) {w : World}
  {m : Nat} {es : Array MapEntry} {clock : Nat}
  (hm : w.heap[m]? = some (.map es clock)) (hl : ∀ x ∈ es.toList, ∃ n, x.key = .int .i64 n) {j : Nat} (hj : es.toList.findIdx? (fun x => keyNum x == v) = some j) (val : Value) :
  (Instr.mapUpdate t (.map (some m)) (.int .i64 v) val).run P w = .ok () (setBlock w m (.map (es.modify j fun e => { e with key := .int .i64 v, val }) clock)) := by
 have hc := checkKey_i64 (P := P) hk false 9999 v w
 have hf := findKey_i64 (P := P) hk v es.toList hl w
 have hg := List.findIdx?_eq_some_iff_getElem.1 hj
 obtain ⟨hlt, hkey, _⟩ := hg
 have hlt' : j < es.size := by simpa using hlt
 have hkk : es[j].key = .int .i64 v := by
  obtain ⟨n, hn⟩ := hl es[j] (by simp)
  have : keyNum es[j] = v := by simpa using hkey
  rw [hn]; simp [keyNum, hn, intOf] at this; rw [this]
 have hs : (Instr.keyThatStays (.int .i64 v) (.int .i64 v)).run P w = .ok (.int .i64 v) w := by
  have : Instr.sameBits (9999 + 1) (.int .i64 v) (.int .i64 v) = true := by simp [Instr.sameBits]
  simp [Instr.keyThatStays, this]
 simp only [Instr.mapUpdate]
 simp [run_underlying ht, MapKept.run_getObj_map hm, hc, hf, hj, hlt', hkk, hs, MapKept.run_setObj_map _ hm, setBlock]
open Go.ChangeMaps Go.MapKept in
theorem delete_i64_old {P : Program} {t k e : TypeId} {ty : TypeId} (ht : P.underlying t = some (.map k e)) (hk : P.underlying k = some (.int .i64)) (v : Int) {w : World}
  {m : Nat} {es : Array MapEntry} {clock : Nat}
  (hm : w.heap[m]? = some (.map es clock)) (hl : ∀ x ∈ es.toList, ∃ n, x.key = .int .i64 n) {j : Nat} (hj : es.toList.findIdx? (fun x => keyNum x == v) = some j) :
  (Builtin.delete_ #[t, k] ty #[.map (some m), .int .i64 v]).run P w = .ok (.tuple #[]) (setBlock w m (.map (es.eraseIdxIfInBounds j) clock)) := by
 have hc := checkKey_i64 (P := P) hk es.isEmpty 9999 v w
 have hf := findKey_i64 (P := P) hk v es.toList hl w
 have hg := List.findIdx?_eq_some_iff_getElem.1 hj
 obtain ⟨hlt, hkey, _⟩ := hg
 have hlt' : j < es.size := by simpa using hlt
 simp only [Builtin.delete_]
 simp [run_underlying ht, MapKept.run_getObj_map hm, hc, hf, hj, hlt', MapKept.run_setObj_map _ hm, setBlock]
open Go.ChangeMaps Go.MapKept in
theorem wpList_delete_i64 {P : Program} {ops : Array Oper} {rest : List Oper} {o : Oper} {a : Act} {w : World} {Q : Exit → Act → World → Prop} (hg : o.guard = none) (m x : Operand) (t k : TypeId)
  (hop : o.op = .call { callee := .builtin .delete, args := #[m, x], argTypes := #[t, k] }) (e : TypeId) (ht : P.underlying t = some (.map k e)) (hk : P.underlying k = some (.int .i64))
  {mb : Nat} {es : Array MapEntry} {clock : Nat} (hm : w.heap[mb]? = some (.map es clock)) (hl : ∀ x ∈ es.toList, ∃ n, x.key = .int .i64 n) {v : Int} {j : Nat} (hj : es.toList.findIdx? (fun x => keyNum x == v) = some j)
  (ha : a.eval m = .map (some mb)) (hx : a.eval x = .int .i64 v) (hK : wpList P ops Q rest (a.put o.dst (.tuple #[])) (setBlock w mb (.map (es.eraseIdxIfInBounds j) clock))) : wpList P ops Q (o :: rest) a w := by
 refine wpList_plain hg fun K' hK' => ?_
 have hrun := delete_i64_old (P := P) (ty := o.type) ht hk v hm hl hj
 unfold Oper.wp
 simp [execOp, hop, resolve, invoke, builtin, ha, hx, hrun, Result.andThen]
 exact hK' _ _ hK
end
section
open Go.RowKit
def ints (xs : List Int) : List Value := xs.map (Value.int .i64)
theorem ints_length (xs : List Int) : (ints xs).length = xs.length := by simp [ints]
theorem ints_get (xs : List Int) (i : Nat) : (ints xs)[i]? = (xs[i]?).map (Value.int .i64) := by simp [ints]
theorem ints_append (xs ys : List Int) : ints (xs ++ ys) = ints xs ++ ints ys := by simp [ints]
theorem ints_take (xs : List Int) (n : Nat) : ints (xs.take n) = (ints xs).take n := by simp [ints, List.map_take]
theorem ints_one (xs : List Int) : ∀ u ∈ ints xs, u.oneCell' = true := by
 intro u hu
 obtain ⟨x, _, rfl⟩ := List.mem_map.1 hu
 rfl
def nth (xs : List Int) (k : Nat) : Int := xs[k]?.getD 0
theorem nth_get {xs : List Int} {k : Nat} (h : k < xs.length) : xs[k]? = some (nth xs k) := by simp [nth, h]
theorem nth_eq {xs : List Int} {k : Nat} (h : k < xs.length) : nth xs k = xs[k] := by simp [nth, h]
theorem ints_nth {xs : List Int} {k : Nat} (h : k < xs.length) : (ints xs)[k]? = some (.int .i64 (nth xs k)) := by rw [ints_get, nth_get h]; rfl
theorem nth_mem {xs : List Int} {k : Nat} (h : k < xs.length) : nth xs k ∈ xs := by rw [nth_eq h]; exact List.getElem_mem h
theorem take_nth {xs : List Int} {k : Nat} (h : k < xs.length) : xs.take (k + 1) = xs.take k ++ [nth xs k] := by
 rw [List.take_succ_eq_append_getElem h, nth_eq h]
theorem ints_set (xs : List Int) (k : Nat) (x : Int) : ints (xs.set k x) = (ints xs).set k (.int .i64 x) := by simp [ints, List.map_set]
theorem nth_set (xs : List Int) (k i : Nat) (x : Int) (h : i < xs.length) : nth (xs.set k x) i = if k = i then x else nth xs i := by
 unfold nth
 rw [List.getElem?_set]
 by_cases hk : k = i
 ·subst hk; simp [h]
 ·simp [hk]
def posB (p : Int → Bool) (xs : List Int) : Int := match xs.findIdx? p with | some i => i | none => -1
theorem posB_at {p : Int → Bool} {xs : List Int} {k : Nat} (hk : k < xs.length) (hno : ∀ y ∈ xs.take k, p y = false) (hx : p (nth xs k) = true) : posB p xs = k := by
 have : xs.findIdx? p = some k := by
  rw [List.findIdx?_eq_some_iff_getElem]
  refine ⟨hk, by rw [← nth_eq hk]; exact hx, fun j hj => ?_⟩
  have := hno xs[j] (by rw [List.mem_take_iff_getElem]; exact ⟨j, by omega, rfl⟩)
  simp [this]
 simp [posB, this]
theorem posB_none {p : Int → Bool} {xs : List Int} (hno : ∀ y ∈ xs, p y = false) : posB p xs = -1 := by
 have : xs.findIdx? p = none := by
  rw [List.findIdx?_eq_none_iff]
  exact hno
 simp [posB, this]
theorem posB_ge {p : Int → Bool} {xs : List Int} : decide (0 ≤ posB p xs) = xs.any p := by
 unfold posB
 cases h : xs.findIdx? p with
 | none =>
  have := List.findIdx?_eq_none_iff.1 h
  simp
  exact this
 | some i =>
  obtain ⟨h1, h2, _⟩ := List.findIdx?_eq_some_iff_getElem.1 h
  simp
  exact ⟨_, List.getElem_mem h1, h2⟩
structure Ent where
 lit : Int
 level : Nat
 reason : List Int
structure Tr where
 vars : Nat
 L : List Ent
 starts : List Nat
def Ent.v (e : Ent) : Nat := e.lit.natAbs
def Tr.lits (T : Tr) : List Int := T.L.map Ent.lit
def Tr.depth (T : Tr) : Nat := T.starts.length
def Tr.idx (T : Tr) (v : Int) : Option Nat := T.L.findIdx? (fun e => (e.v : Int) == v)
def Tr.value (T : Tr) (l : Int) : Int := if l ∈ T.lits then 1 else if -l ∈ T.lits then -1 else 0
def Tr.free (T : Tr) (l : Int) : Prop := l ≠ 0 ∧ l.natAbs ≤ T.vars ∧ T.value l = 0
def Tr.decide (T : Tr) (l : Int) : Tr := { T with L := T.L ++ [⟨l, T.starts.length + 1, []⟩], starts := T.starts ++ [T.L.length] }
def Tr.imply (T : Tr) (l : Int) (r : List Int) : Tr := { T with L := T.L ++ [⟨l, T.starts.length, r⟩] }
def Tr.undo (T : Tr) (k : Nat) : Tr := { T with L := T.L.take (T.starts.getD k T.L.length), starts := T.starts.take k }
structure Tr.WF (T : Tr) : Prop where
 vars : T.vars ≤ 65536
 lit : ∀ e ∈ T.L, e.lit ≠ 0 ∧ e.v ≤ T.vars
 nodup : (T.L.map Ent.v).Nodup
 starts : T.starts.Pairwise (· < ·)
 below : ∀ s ∈ T.starts, s < T.L.length
 level : ∀ (i : Nat) (e : Ent), T.L[i]? = some e → e.level = (T.starts.filter (· ≤ i)).length
 reason : ∀ (i : Nat) (e : Ent), T.L[i]? = some e → (i ∈ T.starts → e.reason = []) ∧ (i ∉ T.starts → e.lit ∈ e.reason ∧ ∀ x ∈ e.reason, x = e.lit ∨ ∃ j, j < i ∧ ∃ f, T.L[j]? = some f ∧ f.lit = -x)
structure TrailAt (w : World) (F : Nat → Prop) (b m : Nat) (es : Array MapEntry) (clock : Nat) (vl vs : Value) (T : Tr) : Prop where
 hb : F b
 hm : F m
 blk : w.heap[b]? = some (.cells #[.int .i64 T.vars, .map (some m), vl, vs] 121 (0, 0))
 map : w.heap[m]? = some (.map es clock)
 size : es.size = T.L.length
 ents : ∀ (i : Nat) (e : Ent), T.L[i]? = some e → ∃ (x : MapEntry) (A : Option Addr) (n c : Nat), es[i]? = some x ∧ x.key = .int .i64 e.v ∧ x.val = .agg #[.int .i64 e.lit, .int .i64 e.level, .int .i64 i, .slice A n c] ∧
  Rd w (fun g => F g ∧ g ≠ b ∧ g ≠ m ∧ ¬ row vl g ∧ ¬ row vs g) 1 (.slice A n c) e.reason.length (ints e.reason)
 lits : Own w F 3 1 vl T.L.length (ints T.lits)
 starts : Own w F 3 1 vs T.starts.length (ints (T.starts.map Int.ofNat))
 apart : ∀ g, row vl g → ¬ row vs g
def Trail (w : World) (F : Nat → Prop) (b : Nat) (T : Tr) : Prop := T.WF ∧ ∃ m es clock vl vs, TrailAt w F b m es clock vl vs T
theorem TrailAt.keep {w w' : World} {F : Nat → Prop} {b m : Nat} {es : Array MapEntry} {clock : Nat} {vl vs : Value} {T : Tr} (h : TrailAt w F b m es clock vl vs T) (hs : w.heap.size ≤ w'.heap.size)
  (hk : ∀ g, g < w.heap.size → F g → w'.heap[g]? = w.heap[g]?) : TrailAt w' F b m es clock vl vs T where
 hb := h.hb
 hm := h.hm
 blk := (hk b (lt_of_block h.blk) h.hb).trans h.blk
 map := (hk m (lt_of_block h.map) h.hm).trans h.map
 size := h.size
 ents := fun i e he => by
  obtain ⟨x, A, n, c, h1, h2, h3, h4⟩ := h.ents i e he
  exact ⟨x, A, n, c, h1, h2, h3, h4.keep hs fun g hg hF => hk g hg hF.1⟩
 lits := h.lits.keep fun g hg _ hF => hk g hg hF
 starts := h.starts.keep fun g hg _ hF => hk g hg hF
 apart := h.apart
theorem TrailAt.mono {w : World} {F G : Nat → Prop} {b m : Nat} {es : Array MapEntry} {clock : Nat} {vl vs : Value} {T : Tr} (h : TrailAt w F b m es clock vl vs T) (hFG : ∀ g, F g → G g) : TrailAt w G b m es clock vl vs T where
 hb := hFG _ h.hb
 hm := hFG _ h.hm
 blk := h.blk
 map := h.map
 size := h.size
 ents := fun i e he => by
  obtain ⟨x, A, n, c, h1, h2, h3, h4⟩ := h.ents i e he
  exact ⟨x, A, n, c, h1, h2, h3, h4.mono fun g _ hF => ⟨hFG g hF.1, hF.2⟩⟩
 lits := h.lits.mono fun g _ _ hF => hFG g hF
 starts := h.starts.mono fun g _ _ hF => hFG g hF
 apart := h.apart
theorem TrailAt.restrict {w : World} {F : Nat → Prop} {b m : Nat} {es : Array MapEntry} {clock : Nat} {vl vs : Value} {T : Tr} (h : TrailAt w F b m es clock vl vs T) : TrailAt w (fun g => F g ∧ g < w.heap.size) b m es clock vl vs T where
 hb := ⟨h.hb, lt_of_block h.blk⟩
 hm := ⟨h.hm, lt_of_block h.map⟩
 blk := h.blk
 map := h.map
 size := h.size
 ents := fun i e he => by
  obtain ⟨x, A, n, c, h1, h2, h3, h4⟩ := h.ents i e he
  exact ⟨x, A, n, c, h1, h2, h3, h4.mono fun g hg hF => ⟨⟨hF.1, hg⟩, hF.2⟩⟩
 lits := h.lits.mono fun g hg _ hF => ⟨hF, hg⟩
 starts := h.starts.mono fun g hg _ hF => ⟨hF, hg⟩
 apart := h.apart
theorem Trail.mono {w : World} {F G : Nat → Prop} {b : Nat} {T : Tr} (h : Trail w F b T) (hFG : ∀ g, F g → G g) : Trail w G b T := by
 obtain ⟨wf, m, es, clock, vl, vs, h⟩ := h
 exact ⟨wf, m, es, clock, vl, vs, h.mono hFG⟩
theorem Trail.mod {w w' : World} {F G : Nat → Prop} {b : Nat} {T : Tr} (h : Trail w F b T) (hm : Mod G w w') (hFG : ∀ g, g < w.heap.size → F g → ¬ G g) : Trail w' F b T := by
 obtain ⟨wf, m, es, clock, vl, vs, h⟩ := h
 exact ⟨wf, m, es, clock, vl, vs, h.keep hm.size fun g hg hF => hm.block g hg (hFG g hg hF)⟩
theorem Trail.below {w w' : World} {F : Nat → Prop} {b : Nat} {T : Tr} (h : Trail w F b T) (hm : Below w.heap.size w w') : Trail w' F b T := by
 obtain ⟨wf, m, es, clock, vl, vs, h⟩ := h
 exact ⟨wf, m, es, clock, vl, vs, h.keep hm.size fun g hg _ => hm.block g hg⟩
theorem Trail.wf {w : World} {F : Nat → Prop} {b : Nat} {T : Tr} (h : Trail w F b T) : T.WF := h.1
theorem nodup_le : ∀ (n : Nat) (l : List Nat), l.Nodup → (∀ x ∈ l, 1 ≤ x ∧ x ≤ n) → l.length ≤ n
 |0, l, _, h => by
  cases l with
  | nil => simp
  | cons x l => have := h x (by simp); omega
 |n + 1, l, hn, h => by
  have ih := nodup_le n (l.erase (n + 1)) (hn.erase _) (fun x hx => by
   have h1 := (hn.mem_erase_iff).1 hx
   have := h x h1.2
   have := h1.1
   omega)
  have := List.length_erase (a := n + 1) (l := l)
  split at this <;> omega
theorem Tr.WF.len {T : Tr} (h : T.WF) : T.L.length ≤ T.vars := by
 have := nodup_le T.vars (T.L.map Ent.v) h.nodup (fun x hx => by
  obtain ⟨e, he, rfl⟩ := List.mem_map.1 hx
  obtain ⟨h1, h2⟩ := h.lit e he
  unfold Ent.v at *
  omega)
 simpa using this
theorem sorted_le : ∀ (l : List Nat) (n : Nat), l.Pairwise (· < ·) → (∀ x ∈ l, x < n) → l.length ≤ n := by
 intro l n hp hlt
 have := nodup_le n (l.map (· + 1)) (List.pairwise_map.2 (hp.imp (fun h => by omega))) (fun x hx => by
  obtain ⟨y, hy, rfl⟩ := List.mem_map.1 hx
  have := hlt y hy
  omega)
 simpa using this
theorem Tr.WF.len' {T : Tr} (h : T.WF) : T.starts.length ≤ T.L.length := sorted_le _ _ h.starts h.below
/-! ### what the map answers -/
theorem TrailAt.keyed {w : World} {F : Nat → Prop} {b m : Nat} {es : Array MapEntry} {clock : Nat} {vl vs : Value} {T : Tr} (h : TrailAt w F b m es clock vl vs T) : ∀ x ∈ es.toList, ∃ n, x.key = .int .i64 n := by
 intro x hx
 obtain ⟨i, hi, rfl⟩ := List.mem_iff_getElem.1 hx
 have hi' : i < T.L.length := by rw [← h.size]; simpa using hi
 obtain ⟨x, _, _, _, h1, h2, _⟩ := h.ents i T.L[i] (by simp [hi'])
 have : es.toList[i] = x := by
  have h3 : i < es.size := by simpa using hi
  rw [Array.getElem?_eq_getElem h3] at h1
  simpa using h1
 exact ⟨_, by rw [this]; exact h2⟩
theorem TrailAt.keys {w : World} {F : Nat → Prop} {b m : Nat} {es : Array MapEntry} {clock : Nat} {vl vs : Value} {T : Tr} (h : TrailAt w F b m es clock vl vs T) : es.toList.map keyNum = T.L.map (fun e => (e.v : Int)) := by
 apply List.ext_getElem?
 intro i
 by_cases hi : i < T.L.length
 ·obtain ⟨x, _, _, _, h1, h2, _⟩ := h.ents i T.L[i] (by simp [hi])
  simp [h1, hi, keyNum, h2, intOf]
 ·have : es.size ≤ i := by rw [h.size]; omega
  simp [Array.getElem?_eq_none this, List.getElem?_eq_none (Nat.le_of_not_lt hi)]
theorem TrailAt.found {w : World} {F : Nat → Prop} {b m : Nat} {es : Array MapEntry} {clock : Nat} {vl vs : Value} {T : Tr} (h : TrailAt w F b m es clock vl vs T) (v : Int) :
  es.toList.findIdx? (fun x => keyNum x == v) = T.idx v := by
 have h1 := congrArg (fun (l : List Int) => l.findIdx? (· == v)) h.keys
 simp only [List.findIdx?_map] at h1
 exact h1
end
end Go.Proofs.YtcjmpobccbnpkaaGreat
