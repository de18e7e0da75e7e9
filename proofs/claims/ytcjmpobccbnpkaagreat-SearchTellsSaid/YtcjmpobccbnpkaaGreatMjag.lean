/-
 Chapter 32: several texts in one (HeapJ HeapK).
-/
import Derived.Test.YtcjmpobccbnpkaaGreatMjaf
import Derived.Deep.LoopGhost
namespace Go.Proofs.YtcjmpobccbnpkaaGreat
section
open Go.RowKit
/-! ### sifting down -/
structure HeapDown (acts hs : List Int) (m i : Nat) : Prop where
 a : ∀ k, 0 < k → k < m → (k - 1) / 2 ≠ i → ahead acts (hat hs k) (hat hs ((k - 1) / 2)) = false
 c : ∀ k, 0 < k → k < m → (k - 1) / 2 = i → 0 < i → ahead acts (hat hs k) (hat hs ((i - 1) / 2)) = false
theorem HeapDown.done {acts hs : List Int} {m i : Nat} (e : HeapDown acts hs m i) (f : ∀ k, 0 < k → k < m → (k - 1) / 2 = i → ahead acts (hat hs k) (hat hs i) = false) : HeapTo acts hs m := fun k hk hm => by
 by_cases h : (k - 1) / 2 = i
 ·rw [h]; exact f k hk hm h
 ·exact e.a k hk hm h
theorem hat_swp {hs : List Int} {i k : Nat} (hi : i < hs.length) (hk : k < hs.length) {j : Nat} (hj : j < hs.length) : hat (swp hs i k) j = if j = k then hat hs i else if j = i then hat hs k else hat hs j := by
 unfold hat
 rw [swp_nth hi hk j hj]
 split
 ·rfl
 ·split <;> rfl
theorem HeapDown.swap {acts hs : List Int} {m i c : Nat} (e : HeapDown acts hs m i) (hl : m ≤ hs.length) (hc : c < m) (h0 : 0 < c) (hp : (c - 1) / 2 = i) (hai : ahead acts (hat hs c) (hat hs i) = true)
  (best : ∀ k, 0 < k → k < m → (k - 1) / 2 = i → ahead acts (hat hs k) (hat hs c) = false) : HeapDown acts (swp hs i c) m c := by
 have hic : i < c := by omega
 have key : ∀ j, j < m → hat (swp hs i c) j = if j = c then hat hs i else if j = i then hat hs c else hat hs j := fun j hj => hat_swp (by omega) (by omega) (by omega)
 constructor
 ·intro k hk hkm hkc
  rw [key k hkm, key ((k - 1) / 2) (by omega), if_neg hkc]
  by_cases a1 : k = c
  ·subst a1
   rw [if_pos rfl, if_pos hp]
   exact ahead_asymm hai
  ·rw [if_neg a1]
   by_cases a2 : k = i
   ·subst a2
    rw [if_pos rfl, if_neg (by omega)]
    exact e.c c h0 hc hp hk
   ·rw [if_neg a2]
    by_cases a3 : (k - 1) / 2 = i
    ·rw [if_pos a3]; exact best k hk hkm a3
    ·rw [if_neg a3]; exact e.a k hk hkm a3
 ·intro k hk hkm hkc _
  rw [key k hkm, key ((c - 1) / 2) (by omega), if_neg (by omega), if_neg (by omega), hp, if_neg (by omega), if_pos rfl]
  have := e.a k hk hkm (by omega)
  rwa [hkc] at this
def lessB (acts hs : List Int) (m k b : Nat) : Bool := decide (k < m) && ahead acts (hat hs k) (hat hs b)
def pickB (acts hs : List Int) (m k b : Nat) : Nat := if lessB acts hs m k b then k else b
def bestB (acts hs : List Int) (m i : Nat) : Nat := pickB acts hs m (2 * i + 2) (pickB acts hs m (2 * i + 1) i)
theorem ahead_irr (acts : List Int) (x : Nat) : ahead acts x x = false := by rw [ahead_no]; omega
theorem ahead_trans {acts : List Int} {x y z : Nat} (e : ahead acts x y = true) (f : ahead acts y z = true) : ahead acts x z = true := by
 rw [ahead_iff] at *; omega
theorem best_spec (acts hs : List Int) (m i : Nat) :
  (bestB acts hs m i = i ∧ ∀ k, 0 < k → k < m → (k - 1) / 2 = i → ahead acts (hat hs k) (hat hs i) = false) ∨
  (0 < bestB acts hs m i ∧ bestB acts hs m i < m ∧ (bestB acts hs m i - 1) / 2 = i ∧ ahead acts (hat hs (bestB acts hs m i)) (hat hs i) = true ∧ ∀ k, 0 < k → k < m → (k - 1) / 2 = i → ahead acts (hat hs k) (hat hs (bestB acts hs m i)) = false) := by
 unfold bestB pickB lessB
 cases e1 : (decide (2 * i + 1 < m) && ahead acts (hat hs (2 * i + 1)) (hat hs i)) with
 | true =>
  obtain ⟨m1, a1⟩ : 2 * i + 1 < m ∧ ahead acts (hat hs (2 * i + 1)) (hat hs i) = true := by simpa using e1
  simp only [if_true]
  cases e2 : (decide (2 * i + 2 < m) && ahead acts (hat hs (2 * i + 2)) (hat hs (2 * i + 1))) with
  | true =>
   obtain ⟨m2, a2⟩ : 2 * i + 2 < m ∧ ahead acts (hat hs (2 * i + 2)) (hat hs (2 * i + 1)) = true := by simpa using e2
   right
   simp only [if_true]
   refine ⟨by omega, m2, by omega, ahead_trans a2 a1, fun k h1 h2 h3 => ?_⟩
   rcases (by omega : k = 2 * i + 1 ∨ k = 2 * i + 2) with rfl | rfl
   ·exact ahead_asymm a2
   ·exact ahead_irr _ _
  | false =>
   right
   simp only [Bool.false_eq_true, if_false]
   refine ⟨by omega, m1, by omega, a1, fun k h1 h2 h3 => ?_⟩
   rcases (by omega : k = 2 * i + 1 ∨ k = 2 * i + 2) with rfl | rfl
   ·exact ahead_irr _ _
   ·simpa [h2] using e2
 | false =>
  simp only [Bool.false_eq_true, if_false]
  cases e2 : (decide (2 * i + 2 < m) && ahead acts (hat hs (2 * i + 2)) (hat hs i)) with
  | true =>
   obtain ⟨m2, a2⟩ : 2 * i + 2 < m ∧ ahead acts (hat hs (2 * i + 2)) (hat hs i) = true := by simpa using e2
   right
   simp only [if_true]
   refine ⟨by omega, m2, by omega, a2, fun k h1 h2 h3 => ?_⟩
   rcases (by omega : k = 2 * i + 1 ∨ k = 2 * i + 2) with rfl | rfl
   ·exact ahead_down a2 (by simpa [h2] using e1)
   ·exact ahead_irr _ _
  | false =>
   left
   simp only [Bool.false_eq_true, if_false]
   refine ⟨trivial, fun k h1 h2 h3 => ?_⟩
   rcases (by omega : k = 2 * i + 1 ∨ k = 2 * i + 2) with rfl | rfl
   ·simpa [h2] using e1
   ·simpa [h2] using e2
/-! ### the front -/
structure Front (n : Nat) (taken : Nat → Bool) (xs : List Int) : Prop where
 nodup : xs.Nodup
 inp : InPos n xs
 ok : ∀ p : Nat, (p : Int) ∈ xs → taken p = false ∧ (p = 0 ∨ taken ((p - 1) / 2) = true)
 all : ∀ p : Nat, p < n → taken p = false → (p = 0 ∨ taken ((p - 1) / 2) = true) → (p : Int) ∈ xs
 closed : ∀ p : Nat, taken p = true → p = 0 ∨ taken ((p - 1) / 2) = true
def take1 (taken : Nat → Bool) (r : Nat) : Nat → Bool := fun p => taken p || p == r
def leftOf (n : Nat) (taken : Nat → Bool) : Nat := ((List.range n).filter fun p => !taken p).length
theorem Front.start {n : Nat} (hn : 0 < n) : Front n (fun _ => false) [0] where
 nodup := by simp
 inp := fun x hx => by simp at hx; omega
 ok := fun p hp => ⟨rfl, .inl (by simpa using hp)⟩
 all := fun p _ _ h => by
  rcases h with h | h
  ·subst h; simp
  ·cases h
 closed := fun p h => by cases h
theorem leftOf_take {n r : Nat} {taken : Nat → Bool} (hr : r < n) (ht : taken r = false) : leftOf n (take1 taken r) < leftOf n taken := by
 unfold leftOf
 have e : (List.range n).filter (fun p => !take1 taken r p) = ((List.range n).filter fun p => !taken p).filter (fun p => !(p == r)) := by
  rw [List.filter_filter]
  congr 1
  funext p
  simp [take1, Bool.and_comm]
 rw [e]
 refine List.length_filter_lt_length_iff_exists.2 ⟨r, ?_, by simp⟩
 simp [hr, ht]
def kids (n r : Nat) : List Int := (if 2 * r + 1 < n then [((2 * r + 1 : Nat) : Int)] else []) ++ (if 2 * r + 2 < n then [((2 * r + 2 : Nat) : Int)] else [])
theorem mem_kids {n r : Nat} {x : Int} : x ∈ kids n r ↔ ∃ p : Nat, x = p ∧ p < n ∧ 0 < p ∧ (p - 1) / 2 = r := by
 unfold kids
 constructor
 ·intro h
  rcases List.mem_append.1 h with h | h
  ·split at h
   ·exact ⟨2 * r + 1, by simpa using h, by assumption, by omega, by omega⟩
   ·cases h
  ·split at h
   ·exact ⟨2 * r + 2, by simpa using h, by assumption, by omega, by omega⟩
   ·cases h
 ·rintro ⟨p, rfl, h1, h2, h3⟩
  rw [List.mem_append]
  rcases (by omega : p = 2 * r + 1 ∨ p = 2 * r + 2) with rfl | rfl
  ·left; rw [if_pos h1]; simp
  ·right; rw [if_pos h1]; simp
theorem kids_nodup (n r : Nat) : (kids n r).Nodup := by
 unfold kids
 split <;> split <;> simp <;> omega
theorem Front.step {n r : Nat} {taken : Nat → Bool} {xs ys zs : List Int} (e : Front n taken xs) (h1 : xs.Perm ((r : Int) :: ys)) (h2 : zs.Perm (ys ++ kids n r)) : Front n (take1 taken r) zs := by
 have hr := e.ok r (h1.mem_iff.2 (by simp))
 have nd : ((r : Int) :: ys).Nodup := h1.nodup_iff.1 e.nodup
 obtain ⟨nr, ny⟩ := List.nodup_cons.1 nd
 have my : ∀ p : Nat, (p : Int) ∈ ys → (p : Int) ∈ xs := fun p hp => h1.mem_iff.2 (by simp [hp])
 constructor
 ·rw [h2.nodup_iff]
  rw [List.nodup_append]
  refine ⟨ny, kids_nodup n r, ?_⟩
  intro a ha c hc e'
  subst e'
  obtain ⟨p, rfl, _, h4, h5⟩ := mem_kids.1 hc
  have := (e.ok p (my p ha)).2
  rcases this with h | h
  ·omega
  ·rw [h5, hr.1] at h; cases h
 ·intro x hx
  rcases List.mem_append.1 (h2.mem_iff.1 hx) with h | h
  ·exact e.inp x (h1.mem_iff.2 (by simp [h]))
  ·obtain ⟨p, rfl, h3, _, _⟩ := mem_kids.1 h
   omega
 ·intro p hp
  rcases List.mem_append.1 (h2.mem_iff.1 hp) with h | h
  ·obtain ⟨h3, h4⟩ := e.ok p (my p h)
   refine ⟨?_, ?_⟩
   ·have : p ≠ r := by rintro rfl; exact nr h
    simp [take1, h3, this]
   ·rcases h4 with h4 | h4
    ·exact .inl h4
    ·exact .inr (by simp [take1, h4])
  ·obtain ⟨p', h3, h4, h5, h6⟩ := mem_kids.1 h
   obtain rfl : p' = p := by omega
   refine ⟨?_, .inr (by simp [take1, h6])⟩
   cases ht : taken p' with
   | false =>
    have : p' ≠ r := by omega
    simp [take1, ht, this]
   | true =>
    rcases e.closed p' ht with h | h
    ·omega
    ·rw [h6, hr.1] at h; cases h
 ·intro p hp ht hpar
  rw [h2.mem_iff, List.mem_append]
  have ht1 : taken p = false ∧ p ≠ r := by simpa [take1] using ht
  by_cases hk : 0 < p ∧ (p - 1) / 2 = r
  ·exact .inr (mem_kids.2 ⟨p, rfl, hp, hk.1, hk.2⟩)
  ·left
   have : (p : Int) ∈ xs := e.all p hp ht1.1 (by
    rcases hpar with h | h
    ·exact .inl h
    ·rcases Nat.eq_zero_or_pos p with h0 | h0
     ·exact .inl h0
     ·right
      have : (p - 1) / 2 ≠ r := fun e => hk ⟨h0, e⟩
      simpa [take1, this] using h)
   rcases List.mem_cons.1 (h1.mem_iff.1 this) with h | h
   ·omega
   ·exact h
 ·intro p hp
  have hp : taken p = true ∨ p = r := by simpa [take1] using hp
  rcases hp with hp | hp
  ·rcases e.closed p hp with h | h
   ·exact .inl h
   ·exact .inr (by simp [take1, h])
  ·subst hp
   rcases hr.2 with h | h
   ·exact .inl h
   ·exact .inr (by simp [take1, h])
theorem Front.top {n : Nat} {taken : Nat → Bool} {xs acts heap : List Int} (e : Front n taken xs) (hh : HeapTo acts heap n) (ho : HeapTo acts (vs heap xs) xs.length) {p : Nat} (hp : p < n) (ht : taken p = false) :
  0 < xs.length ∧ ahead acts (hat heap p) (hat (vs heap xs) 0) = false := by
 have front : ∀ k, k < xs.length → ahead acts (hat (vs heap xs) k) (hat (vs heap xs) 0) = false := by
  intro k
  induction k using Nat.strongRecOn with
  | _ k ih =>
   intro hk
   rcases Nat.eq_zero_or_pos k with h | h
   ·subst h; exact ahead_irr _ _
   ·exact ahead_not (ho k h hk) (ih ((k - 1) / 2) (by omega) (by omega))
 induction p using Nat.strongRecOn with
 | _ p ih =>
  by_cases hpar : p = 0 ∨ taken ((p - 1) / 2) = true
  ·have hm := e.all p hp ht hpar
   obtain ⟨k, hk, hk'⟩ := List.getElem_of_mem hm
   refine ⟨by omega, ?_⟩
   have := front k hk
   have e1 : hat (vs heap xs) k = hat heap p := by
    unfold hat
    rw [vs_nth hk, nth_eq hk, hk']
    simp
   rwa [e1] at this
  ·have h0 : p ≠ 0 := fun h => hpar (.inl h)
   have h1 : taken ((p - 1) / 2) = false := by
    cases h : taken ((p - 1) / 2) with
    | false => rfl
    | true => exact absurd (.inr h) hpar
   obtain ⟨h2, h3⟩ := ih ((p - 1) / 2) (by omega) (by omega) h1
   exact ⟨h2, ahead_not (hh p (by omega) hp) h3⟩
def behead (xs : List Int) : List Int := (xs.set 0 (nth xs (xs.length - 1))).take (xs.length - 1)
theorem behead_length (xs : List Int) : (behead xs).length = xs.length - 1 := by simp [behead]
theorem behead_perm {xs : List Int} (h : 0 < xs.length) : xs.Perm (nth xs 0 :: behead xs) := by
 cases xs with
 | nil => cases h
 | cons x t =>
  have e0 : nth (x :: t) 0 = x := rfl
  rw [e0]
  refine List.Perm.cons x ?_
  rcases List.eq_nil_or_concat t with ht | ⟨l, a, ht⟩
  ·subst ht
   simp [behead]
  ·subst ht
   have e1 : nth (x :: (l ++ [a])) ((x :: (l ++ [a])).length - 1) = a := by simp [nth]
   have e2 : behead (x :: (l ++ [a])) = a :: l := by
    unfold behead
    rw [e1]
    simp
   rw [List.concat_eq_append] at *
   first
    | rw [e2]
    | skip
   exact List.perm_append_comm.trans (by simp)
theorem behead_nth {xs : List Int} {k : Nat} (h0 : 0 < k) (hk : k < xs.length - 1) : nth (behead xs) k = nth xs k := by
 unfold behead nth
 rw [List.getElem?_take_of_lt hk, List.getElem?_set_ne (by omega)]
theorem behead_down {xs acts heap : List Int} (ho : HeapTo acts (vs heap xs) xs.length) : HeapDown acts (vs heap (behead xs)) (xs.length - 1) 0 := by
 have key : ∀ k, 0 < k → k < xs.length - 1 → hat (vs heap (behead xs)) k = hat (vs heap xs) k := fun k h0 hk => by
  unfold hat
  rw [vs_nth (by rw [behead_length]; omega), vs_nth (by omega), behead_nth h0 hk]
 exact ⟨fun k h0 hk hp => by rw [key k h0 hk, key _ (by omega) (by omega)]; exact ho k h0 (by omega), fun k _ _ _ h => by omega⟩
def NextIs (acts : List Int) (n : Nat) (val : Int → Int) (v : Int) (is : Bool) : Prop :=
 (is = false ∧ v = 0 ∧ ∀ y : Nat, 1 ≤ y → y ≤ n → val y ≠ 0) ∨
 (is = true ∧ ∃ x : Nat, v = x ∧ 1 ≤ x ∧ x ≤ n ∧ val x = 0 ∧ ∀ y : Nat, 1 ≤ y → y ≤ n → val y = 0 → y ≠ x → ahead acts x y = true)
structure Busy (heap : List Int) (n : Nat) (val : Int → Int) (taken : Nat → Bool) : Prop where
 lt : ∀ p, taken p = true → p < n
 no : ∀ p, taken p = true → val (hat heap p) ≠ 0
theorem Front.none {n : Nat} {taken : Nat → Bool} {acts heap pos : List Int} {val : Int → Int} (e : Front n taken []) (I : hInv heap pos n) (hh : HeapTo acts heap n) (hb : Busy heap n val taken) : NextIs acts n val 0 false := by
 refine .inl ⟨rfl, rfl, fun y h1 h2 => ?_⟩
 obtain ⟨p, hp, _, hy⟩ := I.bw y h1 h2
 cases ht : taken p with
 | true =>
  have := hb.no p ht
  simpa [hat, hy] using this
 | false =>
  have := (e.top (acts := acts) hh (fun k _ hk => by cases hk) hp ht).1
  simp at this
theorem Front.some {n : Nat} {taken : Nat → Bool} {xs acts heap pos : List Int} {val : Int → Int} (e : Front n taken xs) (I : hInv heap pos n) (hh : HeapTo acts heap n) (ho : HeapTo acts (vs heap xs) xs.length) (hb : Busy heap n val taken)
  {r x : Nat} (h0 : 0 < xs.length) (hr : nth xs 0 = r) (hx : nth heap r = x) (hrn : r < n) (hv : val x = 0) : NextIs acts n val x true := by
 obtain ⟨x', hx', x1, xn, _⟩ := I.fw r hrn
 obtain rfl : x' = x := by omega
 refine .inr ⟨rfl, x', rfl, x1, xn, hv, fun y h1 h2 h3 h4 => ?_⟩
 obtain ⟨p, hp, _, hy⟩ := I.bw y h1 h2
 have ht : taken p = false := by
  cases ht : taken p with
  | false => rfl
  | true =>
   have := hb.no p ht
   rw [show ((hat heap p : Nat) : Int) = y by simp [hat, hy]] at this
   exact absurd h3 this
 have := (e.top hh ho hp ht).2
 have e1 : hat heap p = y := by simp [hat, hy]
 have e2 : hat (vs heap xs) 0 = x' := by simp [hat, vs_nth h0, hr, hx]
 rw [e1, e2] at this
 exact ahead_total this h4
theorem Busy.step {n r x : Nat} {taken : Nat → Bool} {heap : List Int} {val : Int → Int} (e : Busy heap n val taken) (hrn : r < n) (hx : nth heap r = x) (hv : val x ≠ 0) : Busy heap n val (take1 taken r) := by
 constructor
 ·intro p hp
  rcases (by simpa [take1] using hp : taken p = true ∨ p = r) with h | h
  ·exact e.lt p h
  ·omega
 ·intro p hp
  rcases (by simpa [take1] using hp : taken p = true ∨ p = r) with h | h
  ·exact e.no p h
  ·subst h
   rw [show ((hat heap p : Nat) : Int) = x by simp [hat, hx]]
   exact hv
end
section
open Go.RowKit
theorem run_store_func_ {P : Program} {w : World} (a : Addr) (m : Mode) (fn : Fn) (f c : Array Value) : (store a (.func fn f c) m).run P w = stored P w a (.func fn f c) m := run_store P w a _ m rfl
attribute [go_sem] run_store_func_
theorem run_index0 (x y : Int) (W : World) : (Instr.index 171 (.agg #[.int .i64 x, .int .i64 y]) (.int .i64 0)).run Tryz.prog W = .ok (.int .i64 x) W := by kernel_rfl
theorem run_index1 (x y : Int) (W : World) : (Instr.index 171 (.agg #[.int .i64 x, .int .i64 y]) (.int .i64 1)).run Tryz.prog W = .ok (.int .i64 y) W := by kernel_rfl
attribute [go_sem] run_index0 run_index1
theorem nodup_len : ∀ (n : Nat) (xs : List Int), xs.Nodup → InPos n xs → xs.length ≤ n := by
 intro n
 induction n with
 | zero =>
  intro xs _ hi
  cases xs with
  | nil => simp
  | cons x t => have := hi x (by simp); omega
 | succ n ih =>
  intro xs hn hi
  have h1 := ih (xs.erase (n : Int)) (hn.erase _) fun x hx => by
   have h2 := (hn.mem_erase_iff).1 hx
   have := hi x h2.2
   have := h2.1
   omega
  rw [List.length_erase] at h1
  split at h1 <;> omega
section
variable {w w' : World} {F G : Nat → Prop} {b ga gh gp n np q q0 q3 : Nat} {acts : List Int} {inc : Int} {heap pos : List Int} {A : Option Addr} {m c : Nat} {xs : List Int}
theorem npush_e (ho : OrdAt w F b ga gh gp n np acts inc heap pos) (hFG : ∀ g, F g → ¬ G g) (hG : ∀ g, w.heap.size ≤ g → G g) (hg0 : ¬ G q0) (hg3 : ¬ G q3)
  (hq : w.cell? ⟨q0, 0, none⟩ = some (.pointer (some ⟨b, 0, none⟩))) (hq3 : w.cell? ⟨q3, 0, none⟩ = some (.func (.func 125) #[] #[.pointer (some ⟨q0, 0, none⟩), .pointer (some ⟨q, 0, none⟩)]))
  (hx : OpenAt w G q A m c xs) (hin : InPos n xs) (hh : HeapTo acts (vs heap xs) m) (p : Nat) (hm : m ≤ 65536) :
  Calls Tryz.prog 127 #[.int .i64 p, .pointer (some ⟨q0, 0, none⟩), .pointer (some ⟨q, 0, none⟩), .pointer (some ⟨q3, 0, none⟩)] w fun r w' => r = .returned (.tuple #[]) ∧
   ∃ A m' c xs', OpenAt w' G q A m' c xs' ∧ xs'.Perm (xs ++ (if p < n then [(p : Int)] else [])) ∧ HeapTo acts (vs heap xs') m' ∧ Mod G w w' := by
 by_cases hp : p < n
 ·refine (npush_any ho hFG hG hg0 hg3 hq hq3 hx hin hh hm hp).mono ?_
  rintro r w' ⟨rfl, ⟨A, c, ys, h1, h2, h3⟩, h4⟩
  exact ⟨rfl, A, m + 1, c, ys, h1, by rw [if_pos hp]; exact h2, h3, h4⟩
 ·refine (npush_out ho hq (by omega)).mono ?_
  rintro r w' ⟨rfl, rfl⟩
  exact ⟨rfl, A, m, c, xs, hx, by rw [if_neg hp]; simp, hh, Mod.refl _ _⟩
theorem OpenAt.beheaded {g : Nat} (e : OpenAt w G q (some ⟨g, 0, none⟩) m c xs) (hm : 0 < m) {l : Int} (hl : nth xs (m - 1) = l) {m1 : Nat} (hm1 : m - 1 = m1) :
  OpenAt ((w.setCell ⟨g, 0, none⟩ (.int .i64 l)).drew.setCell ⟨q, 0, none⟩ (.slice (some ⟨g, 0, none⟩) m1 c)) G q (some ⟨g, 0, none⟩) m1 c (behead xs) ∧
  Mod G w ((w.setCell ⟨g, 0, none⟩ (.int .i64 l)).drew.setCell ⟨q, 0, none⟩ (.slice (some ⟨g, 0, none⟩) m1 c)) := by
 subst hm1
 obtain ⟨_, he, gG, _, _, _⟩ := e.own.cell (j := 0) (by omega)
 injection he with he; injection he with he _ _; subst he
 have s1 := e.stored (x := l) hm
 have s2 := s1.own.take (m := m - 1) (by omega)
 refine ⟨{ hq := e.hq, blk := ?_, own := ?_, apart := e.apart }, ((((Mod.refl G w).setCell (p := ⟨g, 0, none⟩) (.inl gG) _).drew).setCell (p := ⟨q, 0, none⟩) (.inl e.hq) _)⟩
 ·rw [heap_setCell_same _ q 0 _ _ _ (show (w.setCell ⟨g, 0, none⟩ (.int .i64 l)).drew.heap[q]? = _ from s1.blk)]; simp
 ·have hb : ints (behead xs) = (ints (xs.set 0 l)).take ((m - 1) * 1) := by
   unfold behead
   rw [e.len, hl, ints_take, Nat.mul_one]
  rw [hb]
  refine Own.keep (w := (w.setCell ⟨g, 0, none⟩ (.int .i64 l)).drew) s2.drew fun k hk hr _ => Below.heap_setCell _ _ _ k fun e' => e.apart ?_
  have e' : k = q := e'
  rw [← e']
  exact hr
theorem next_start (w : World) {b q0 q1 q q3 : Nat} (h0 : w.heap.size = q0) (h1 : w.heap.size + 1 = q1) (h2 : w.heap.size + 1 + 1 = q) (h3 : w.heap.size + 1 + 1 + 1 = q3) {W : World}
  (hW : W = ((((w.alloc (.cells #[.pointer (some ⟨b, 0, none⟩)] 27)).alloc (.cells #[.int .i64 0] 3)).alloc (.cells #[.slice (some ⟨q1, 0, none⟩) 1 1] 23)).alloc
   (.cells #[.func (.func 125) #[] #[.pointer (some ⟨q0, 0, none⟩), .pointer (some ⟨q, 0, none⟩)]] 133))) :
  W.cell? ⟨q0, 0, none⟩ = some (.pointer (some ⟨b, 0, none⟩)) ∧ W.cell? ⟨q3, 0, none⟩ = some (.func (.func 125) #[] #[.pointer (some ⟨q0, 0, none⟩), .pointer (some ⟨q, 0, none⟩)]) ∧
  OpenAt W (fun g => q0 ≤ g ∧ g ≠ q0 ∧ g ≠ q3) q (some ⟨q1, 0, none⟩) 1 1 [0] ∧ Below q0 w W ∧ W.heap.size = q3 + 1 := by
 subst hW
 obtain ⟨u1, e1⟩ : ∃ u1, u1 = w.alloc (.cells #[.pointer (some ⟨b, 0, none⟩)] 27) := ⟨_, rfl⟩
 obtain ⟨u2, e2⟩ : ∃ u2, u2 = u1.alloc (.cells #[.int .i64 0] 3) := ⟨_, rfl⟩
 obtain ⟨u3, e3⟩ : ∃ u3, u3 = u2.alloc (.cells #[.slice (some ⟨q1, 0, none⟩) 1 1] 23) := ⟨_, rfl⟩
 rw [← e1, ← e2, ← e3]
 have s1 : u1.heap.size = w.heap.size + 1 := by rw [e1]; simp
 have s2 : u2.heap.size = w.heap.size + 2 := by rw [e2]; simp [s1]
 have s3 : u3.heap.size = w.heap.size + 3 := by rw [e3]; simp [s2]
 have k0 : u1.heap[q0]? = some (.cells #[.pointer (some ⟨b, 0, none⟩)] 27 (0, 0)) := by rw [e1, ← h0]; exact heap_alloc_new w _
 have k1 : u2.heap[q1]? = some (.cells #[.int .i64 0] 3 (0, 0)) := by rw [e2, show q1 = u1.heap.size by omega]; exact heap_alloc_new u1 _
 have k2 : u3.heap[q]? = some (.cells #[.slice (some ⟨q1, 0, none⟩) 1 1] 23 (0, 0)) := by rw [e3, show q = u2.heap.size by omega]; exact heap_alloc_new u2 _
 have o1 := own_one u1 (.int .i64 0)
 rw [← e2, show u1.heap.size = q1 by omega] at o1
 refine ⟨?_, ?_, ⟨by omega, ?_, ?_, ?_⟩, ?_, by simp; omega⟩
 ·have hb : (u3.alloc (.cells #[.func (.func 125) #[] #[.pointer (some ⟨q0, 0, none⟩), .pointer (some ⟨q, 0, none⟩)]] 133)).heap[q0]? = some (.cells #[.pointer (some ⟨b, 0, none⟩)] 27 (0, 0)) := by
   rw [World.heap_alloc_ne u3 _ q0 (by omega), e3, World.heap_alloc_ne u2 _ q0 (by omega), e2, World.heap_alloc_ne u1 _ q0 (by omega)]
   exact k0
  rw [cell_of_row _ q0 0 _ _ _ hb]; rfl
 ·have := heap_alloc_new u3 (.cells #[.func (.func 125) #[] #[.pointer (some ⟨q0, 0, none⟩), .pointer (some ⟨q, 0, none⟩)]] 133)
  rw [show u3.heap.size = q3 by omega] at this
  exact (cell_of_row _ q3 0 _ _ _ this).trans rfl
 ·rw [World.heap_alloc_ne u3 _ q (by omega)]
  exact k2
 ·refine Own.mono (F := fun g => g = q1) ?_ fun g _ _ hg => by omega
  have := (o1.below (w' := u3) (by rw [e3]; exact (Below.refl _ _).alloc (Nat.le_refl _) _))
  exact this.below ((Below.refl _ _).alloc (Nat.le_refl _) _)
 ·intro hr
  have := hr.2
  dsimp only at this
  omega
 ·have b1 : Below q0 w u1 := by rw [e1]; exact (Below.refl _ _).alloc (by omega) _
  have b2 : Below q0 w u2 := by rw [e2]; exact b1.alloc (by omega) _
  have b3 : Below q0 w u3 := by rw [e3]; exact b2.alloc (by omega) _
  exact b3.alloc (by omega) _
end
section
variable {w w' : World} {F : Nat → Prop} {b n tb : Nat} {o : Om} {T : Tr}
set_option maxRecDepth 100000 in
set_option maxHeartbeats 8000000 in
theorem next_any (ho : Order w F b n o) (ht : Trail w F tb T) :
  Calls Tryz.prog 100 #[.pointer (some ⟨b, 0, none⟩), .pointer (some ⟨tb, 0, none⟩)] w fun r w' => (∃ v is, r = .returned (.tuple #[.int .i64 v, .bool is]) ∧ NextIs o.acts n T.value v is) ∧ Below w.heap.size w w' := by
 obtain ⟨wf, ga, gh, gp, np, heap, pos, O, H⟩ := ho.restrict
 have hi1 := wf.inc1
 have hi0 : 0 < o.inc := by omega
 have blt := lt_of_block O.blk
 have HO := hid O
 have HH := hid H
 have HT := hid ht.restrict
 have hs := O.small
 clear O H ht ho wf
 rcases Nat.eq_zero_or_pos n with hn | hn
 ·subst hn
  go_enter Tryz.func100, Tryz.ntmps100
  go_wp2_with fail
  refine (len_any (HO.o.below ((Below.refl _ _).alloc (Nat.le_refl _) _)) hi0).mono ?_
  rintro r w' ⟨rfl, rfl⟩
  go_wp2_with fail
  go_ret2
  exact ⟨⟨_, _, rfl, .inl ⟨rfl, rfl, fun y h1 h2 => by omega⟩⟩, (Below.refl _ _).alloc (Nat.le_refl _) _⟩
 ·have hnF : ((n : Int) == 0) = false := by simp; omega
  go_enter Tryz.func100, Tryz.ntmps100
  go_wp2_with fail
  refine (len_any (HO.o.below ((Below.refl _ _).alloc (Nat.le_refl _) _)) hi0).mono ?_
  rintro r w' ⟨rfl, rfl⟩
  go_wp2_with fail
  obtain ⟨n0, n3, nO, nB, nS⟩ := next_start w (b := b) rfl rfl rfl rfl rfl
  generalize ((((w.alloc (.cells #[.pointer (some ⟨b, 0, none⟩)] 27)).alloc (.cells #[.int .i64 0] 3)).alloc (.cells #[.slice (some ⟨w.heap.size + 1, 0, none⟩) 1 1] 23)).alloc
   (.cells #[.func (.func 125) #[] #[.pointer (some ⟨w.heap.size, 0, none⟩), .pointer (some ⟨w.heap.size + 1 + 1, 0, none⟩)]] 133)) = w5 at *
  have hlt0 : w.heap.size < w.heap.size + 1 + 1 + 1 := by omega
  generalize w.heap.size + 1 + 1 + 1 = q3 at *
  generalize w.heap.size + 1 + 1 = q at *
  generalize w.heap.size + 1 = q1 at *
  generalize hq0 : w.heap.size = q0 at *
  obtain ⟨G, hG⟩ : ∃ G, G = fun g => q0 ≤ g ∧ g ≠ q0 ∧ g ≠ q3 := ⟨_, rfl⟩
  rw [← hG] at nO
  have HG := hid hG
  have N0 := hid n0
  have N3 := hid n3
  have NB := hid nB
  have NS := hid nS
  clear hG n0 n3 nB nS
  have q0lt : q0 < w5.heap.size := by have := NS.o; omega
  have q3lt : q3 < w5.heap.size := by have := NS.o; omega
  have gG0 : ¬ G q0 := by rw [HG.o]; exact fun h => h.2.1 rfl
  have gG3 : ¬ G q3 := by rw [HG.o]; exact fun h => h.2.2 rfl
  have gGF : Hid (∀ g, (F g ∧ g < q0) → ¬ G g) := fun g hg h => by rw [HG.o] at h; have := h.1; omega
  have gGn : Hid (∀ g, q3 < g → G g) := fun g hg => by rw [HG.o]; exact ⟨by omega, by omega, by omega⟩
  have O5 : Hid (OrdAt w5 (fun g => F g ∧ g < q0) b ga gh gp n np o.acts o.inc heap pos) := HO.o.below (by rw [hq0]; exact NB.o)
  have T5 : Hid (Trail w5 (fun g => F g ∧ g < q0) tb T) := HT.o.below (by rw [hq0]; exact NB.o)
  have NO := hid nO
  have Hq0 := hid hq0
  clear nO HO HT hq0
  go_loopg [9] (leftOf n fun _ => false) (fun k _ W => ∃ (A : Option Addr) (m c : Nat) (xs : List Int) (taken : Nat → Bool), Hid (leftOf n taken = k) ∧ Hid (OpenAt W G q A m c xs) ∧ Hid (Front n taken xs) ∧ Hid (HeapTo o.acts (vs heap xs) m) ∧ Hid (Busy heap n T.value taken) ∧ Hid (Mod G w5 W))
  case atStart => exact ⟨some ⟨q1, 0, none⟩, 1, 1, [0], fun _ => false, rfl, NO, Front.start hn, fun k h1 h2 => by omega, ⟨fun _ h => (by cases h), fun _ h => (by cases h)⟩, Mod.refl _ _⟩
  case round =>
   obtain ⟨A, m, c, xs, taken, K, O, Fr, Hh, Bu, M⟩ := hrel
   have d0 := O.o.c0
   have hl := O.o.len
   rcases Nat.eq_zero_or_pos m with hm | hm
   ·subst hm
    have hx : xs = [] := List.eq_nil_of_length_eq_zero hl
    have fin : Hid (NextIs o.acts n T.value 0 false) := by
     have := Fr.o
     rw [hx] at this
     exact this.none O5.o.inv HH.o Bu.o
    clear hx hl
    go_wp2_with fail
    go_ret2
    exact ⟨⟨_, _, rfl, fin.o⟩, by rw [Hq0.o]; exact NB.o.trans ((M.o.mono (G := fun g => q0 ≤ g) fun g _ hg => by rw [HG.o] at hg; exact hg.1).base (Nat.le_of_lt q0lt))⟩
   ·have mn : m ≤ n := by rw [← hl]; exact nodup_len n xs Fr.o.nodup Fr.o.inp
    obtain ⟨r, hr, hrn⟩ := Fr.o.inp.nat (k := 0) (by omega)
    have Ow : Hid (OrdAt wr (fun g => F g ∧ g < q0) b ga gh gp n np o.acts o.inc heap pos) := O5.o.mod M.o fun g _ hF => gGF.o g hF
    have Tw : Hid (Trail wr (fun g => F g ∧ g < q0) tb T) := T5.o.mod M.o fun g _ hF => gGF.o g hF
    obtain ⟨x, hx, x1, xn, _⟩ := Ow.o.inv.fw r hrn
    obtain ⟨g, he, gG, _, e1, f1⟩ := O.o.own.cell (j := 0) (by omega)
    subst he
    rw [ints_nth (by omega), hr] at e1
    obtain ⟨_, he, _, _, e2, _⟩ := Ow.o.oh.cell (j := r) (by omega)
    injection he with he; injection he with he _ _; subst he
    rw [ints_nth (by have := Ow.o.inv.hl; omega), hx] at e2
    have c0 := (World.cell?_of_block (M.o.block q0 q0lt gG0)).trans N0.o
    have c2 := Ow.o.c2
    have z1 : (0 : Int) < (m : Int) := by omega
    have z2 : (r : Int) < (n : Int) := by omega
    have Hl := hid hl
    have Hr := hid hr
    have Hx := hid hx
    clear hl hr hx
    go_wp2_with fail
    refine (value_any Tw.o (l := x) (by unfold I64; omega)).mono ?_
    rintro r6 w6 ⟨rfl, B6⟩
    have M6 : Hid (Mod G w5 w6) := M.o.trans ((Mod.of_below B6).mono fun g hg _ => by omega)
    have O6 : Hid (OpenAt w6 G q (some ⟨g, 0, none⟩) m c xs) := O.o.keep fun k hk _ => B6.block k hk
    by_cases hv : T.value x = 0
    ·have fin : Hid (NextIs o.acts n T.value x true) := Fr.o.some O5.o.inv HH.o (by rw [Hl.o]; exact Hh.o) Bu.o (by have := Hl.o; omega) Hr.o Hx.o hrn hv
     go_wp2_with fail
     go_ret2
     exact ⟨⟨_, _, rfl, fin.o⟩, by rw [Hq0.o]; exact NB.o.trans ((M6.o.mono (G := fun g => q0 ≤ g) fun g _ hg => by rw [HG.o] at hg; exact hg.1).base (Nat.le_of_lt q0lt))⟩
    ·have hvF : (T.value (x : Int) == 0) = false := by simpa using hv
     obtain ⟨m1, hm1⟩ : ∃ m1, m - 1 = m1 := ⟨_, rfl⟩
     obtain ⟨l, hlst⟩ : ∃ l, nth xs (m - 1) = l := ⟨_, rfl⟩
     have d6 := O6.o.c0
     have hgq : g ≠ q := fun e => O6.o.apart (by
      have hc : 0 < c := by
       obtain ⟨_, cap, he, hn, _, _⟩ := O6.o.own.form
       injection he with _ _ he
       omega
      exact ⟨hc, e⟩)
     obtain ⟨_, he, _, _, e3, f3⟩ := O6.o.own.cell (j := 0) (by omega)
     injection he with he; injection he with he _ _; subst he
     obtain ⟨_, he, _, _, e4, _⟩ := O6.o.own.cell (j := m1) (by omega)
     injection he with he; injection he with he _ _; subst he
     rw [ints_nth (by have := Hl.o; omega), Hr.o] at e3
     rw [ints_nth (by have := Hl.o; omega), ← hm1, hlst, hm1] at e4
     have f6 := frozen_of_row w6 q 0 _ _ O6.o.blk
     have y1 : (m : Int) - 1 = (m1 : Int) := by omega
     have y2 : (m1 : Int) < (m : Int) := by omega
     have mc : m ≤ c := by
      obtain ⟨_, cap, he, hn, _, _⟩ := O6.o.own.form
      injection he with _ _ he
      omega
     have y3 : (m1 : Int) ≤ (c : Int) := by omega
     have r1 : (g = q) = False := by simpa using hgq
     have r2 : (q = g) = False := by simpa using hgq.symm
     obtain ⟨O7, M7⟩ := O6.o.beheaded hm hlst hm1
     have HO7 := hid O7
     have HM7 := hid M7
     have Hlst := hid hlst
     have Hm1 := hid hm1
     clear hlst hm1 O7 M7
     go_wp2_with fail
     go_region
     go_wp2_with fail
     have eW : (w6.setCell ⟨g, 0, none⟩ (.int .i64 l)).drew.setCell ⟨q, 0, none⟩ (.slice (some ⟨g, 0, none⟩) m1 c) = ((w6.setCell ⟨g, 0, none⟩ (.int .i64 l)).setCell ⟨q, 0, none⟩ (.slice (some ⟨g, 0, none⟩) m1 c)).drew := rfl
     rw [eW] at HO7 HM7
     clear eW
     generalize ((w6.setCell ⟨g, 0, none⟩ (.int .i64 l)).setCell ⟨q, 0, none⟩ (.slice (some ⟨g, 0, none⟩) m1 c)).drew = w7 at *
     have M7 : Hid (Mod G w5 w7) := M6.o.trans (HM7.o.mono fun g _ hg => .inl hg)
     have mb : m1 < 65536 := by omega
     clear e1 f1 e2 c0 c2 d0 d6 e3 f3 e4 f6 y1 y2 y3
     go_loopw [11] (fun iv W => ∃ (i : Nat) (ys : List Int), i ≤ m1 ∧ iv = .int .i64 i ∧ Hid (OpenAt W G q (some ⟨g, 0, none⟩) m1 c ys) ∧ Hid (ys.Perm (behead xs)) ∧ Hid (HeapDown o.acts (vs heap ys) m1 i) ∧ Hid (Mod G w7 W)) (fun iv _ => m1 - (intOf iv).toNat)
     case atStart => exact ⟨0, behead xs, by omega, rfl, HO7, List.Perm.refl _, by have := behead_down (xs := xs) (acts := o.acts) (heap := heap) (by rw [Hl.o]; exact Hh.o); rwa [Hl.o, Hm1.o] at this, Mod.refl _ _⟩
     case round =>
      obtain ⟨i, ys, hi, rfl, O8, P8, D8, M8⟩ := hrel
      generalize wr = w8 at *
      obtain ⟨k1, hk1⟩ : ∃ k1, 2 * i + 1 = k1 := ⟨_, rfl⟩
      obtain ⟨k2, hk2⟩ : ∃ k2, 2 * i + 2 = k2 := ⟨_, rfl⟩
      obtain ⟨P1, hP1⟩ : ∃ P1, pickB o.acts (vs heap ys) m1 k1 i = P1 := ⟨_, rfl⟩
      obtain ⟨B1, hB1⟩ : ∃ B1, pickB o.acts (vs heap ys) m1 k2 P1 = B1 := ⟨_, rfl⟩
      have hbest : Hid (bestB o.acts (vs heap ys) m1 i = B1) := by unfold bestB; rw [hk1, hk2, hP1, hB1]; exact rfl
      have d0 := O8.o.c0
      have d3 : w8.cell? ⟨q3, 0, none⟩ = some (.func (.func 125) #[] #[.pointer (some ⟨q0, 0, none⟩), .pointer (some ⟨q, 0, none⟩)]) := (World.cell?_of_block (M8.o.block q3 (by have := M7.o.size; omega) gG3)).trans ((World.cell?_of_block (M7.o.block q3 q3lt gG3)).trans N3.o)
      have M58 : Hid (Mod G w5 w8) := M7.o.trans (M8.o.mono fun g _ hg => .inl hg)
      have O8b : Hid (OrdAt w8 (fun g => F g ∧ g < q0) b ga gh gp n np o.acts o.inc heap pos) := O5.o.mod M58.o fun g _ hF => gGF.o g hF
      have e0 := hid ((World.cell?_of_block (M58.o.block q0 q0lt gG0)).trans N0.o)
      have hl8 := hid O8.o.len
      have in8 : Hid (InPos n ys) := InPos.perm (fun x hx => Fr.o.inp x ((behead_perm (by have := Hl.o; omega)).mem_iff.2 (by simp [hx]))) P8.o
      have Lc : Hid (∀ (k j : Nat), k < m1 → j < m1 → ∀ z, Calls Tryz.prog 125 #[.int .i64 k, .int .i64 j, .pointer (some ⟨q0, 0, none⟩), .pointer (some ⟨q, 0, none⟩)] (w8.drewN z) fun r w' => r = .returned (.bool (ahead o.acts (hat (vs heap ys) k) (hat (vs heap ys) j))) ∧ ∃ z', w' = w8.drewN z') := fun k j hk hj z => by
       obtain ⟨pk, hpk, pkn⟩ := in8.o.nat (k := k) (by have := hl8.o; omega)
       obtain ⟨pj, hpj, pjn⟩ := in8.o.nat (k := j) (by have := hl8.o; omega)
       refine (less_any (w := w8.drewN z) (O8b.o.drewN z) e0.o (O8.o.drewN z) hk hj hpk hpj pkn pjn).mono ?_
       rintro r w' ⟨rfl, z', rfl⟩
       exact ⟨rfl, z + z', by rw [World.drewN_drewN]⟩
      have y1 : 2 * (i : Int) + 1 = (k1 : Int) := by omega
      have y2 : 2 * (i : Int) + 2 = (k2 : Int) := by omega
      have y3 : IntKind.i64.wrap (2 * (i : Int)) = 2 * (i : Int) := iw (by omega) (by omega)
      have y4 : IntKind.i64.wrap (k1 : Int) = (k1 : Int) := iw (by omega) (by omega)
      have y5 : IntKind.i64.wrap (k2 : Int) = (k2 : Int) := iw (by omega) (by omega)
      have HP1 := hid hP1
      have HB1 := hid hB1
      have Hk1 := hid hk1
      have Hk2 := hid hk2
      clear hP1 hB1 hk1 hk2
      go_wp2_with fail
      go_loopw [60, 12] (fun cv bv W => (cv = .int .i64 0 ∧ bv = .int .i64 i ∧ ∃ z, W = w8.drewN z) ∨ (cv = .int .i64 1 ∧ bv = .int .i64 P1 ∧ ∃ z, W = w8.drewN z) ∨ (cv = .int .i64 2 ∧ bv = .int .i64 B1 ∧ ∃ z, W = w8.drewN z)) (fun cv _ _ => 2 - (intOf cv).toNat)
      case atStart => exact .inl ⟨rfl, rfl, 0, rfl⟩
      case round =>
       rcases hrel with ⟨rfl, rfl, z, rfl⟩ | ⟨rfl, rfl, z, rfl⟩ | ⟨rfl, rfl, z, rfl⟩
       ·as_aux_lemma =>
         by_cases hk : k1 < m1
         ·have x3 : (k1 : Int) < (m1 : Int) := by omega
          have jm : i < m1 := by have := Hk1.o; omega
          cases hah : ahead o.acts (hat (vs heap ys) k1) (hat (vs heap ys) i) with
          | true =>
           have eP : Hid (P1 = k1) := hid (by rw [← HP1.o]; simp [pickB, lessB, hk, hah])
           go_wp2_with fail
           refine (Lc.o k1 i hk jm z).mono ?_
           rintro r9 w9 ⟨rfl, z', rfl⟩
           go_wp2_with fail
           go_roundw
           case rel => exact .inr (.inl ⟨by first | rfl | simp, by rw [eP.o], z', rfl⟩)
           case measure => simp [intOf]
          | false =>
           have eP : Hid (P1 = i) := hid (by rw [← HP1.o]; simp [pickB, lessB, hah])
           go_wp2_with fail
           refine (Lc.o k1 i hk jm z).mono ?_
           rintro r9 w9 ⟨rfl, z', rfl⟩
           go_wp2_with fail
           go_roundw
           case rel => exact .inr (.inl ⟨by first | rfl | simp, by rw [eP.o], z', rfl⟩)
           case measure => simp [intOf]
         ·have x3 : (m1 : Int) ≤ (k1 : Int) := by omega
          have eP : Hid (P1 = i) := hid (by rw [← HP1.o]; simp [pickB, lessB, hk])
          go_wp2_with fail
          go_roundw
          case rel => exact .inr (.inl ⟨by first | rfl | simp, by rw [eP.o], z, rfl⟩)
          case measure => simp [intOf]
       ·as_aux_lemma =>
         by_cases hk : k2 < m1
         ·have x3 : (k2 : Int) < (m1 : Int) := by omega
          have jm : P1 < m1 := by have := Hk1.o; have := Hk2.o; have := HP1.o; unfold pickB at this; split at this <;> omega
          cases hah : ahead o.acts (hat (vs heap ys) k2) (hat (vs heap ys) P1) with
          | true =>
           have eP : Hid (B1 = k2) := hid (by rw [← HB1.o]; simp [pickB, lessB, hk, hah])
           go_wp2_with fail
           refine (Lc.o k2 P1 hk jm z).mono ?_
           rintro r9 w9 ⟨rfl, z', rfl⟩
           go_wp2_with fail
           go_roundw
           case rel => exact .inr (.inr ⟨by first | rfl | simp, by rw [eP.o], z', rfl⟩)
           case measure => simp [intOf]
          | false =>
           have eP : Hid (B1 = P1) := hid (by rw [← HB1.o]; simp [pickB, lessB, hah])
           go_wp2_with fail
           refine (Lc.o k2 P1 hk jm z).mono ?_
           rintro r9 w9 ⟨rfl, z', rfl⟩
           go_wp2_with fail
           go_roundw
           case rel => exact .inr (.inr ⟨by first | rfl | simp, by rw [eP.o], z', rfl⟩)
           case measure => simp [intOf]
         ·have x3 : (m1 : Int) ≤ (k2 : Int) := by omega
          have eP : Hid (B1 = P1) := hid (by rw [← HB1.o]; simp [pickB, lessB, hk])
          go_wp2_with fail
          go_roundw
          case rel => exact .inr (.inr ⟨by first | rfl | simp, by rw [eP.o], z, rfl⟩)
          case measure => simp [intOf]
       ·rcases best_spec o.acts (vs heap ys) m1 i with ⟨hB, hno⟩ | ⟨b0, bm, bp, ba, bb⟩
        ·obtain rfl : i = B1 := by rw [← hB]; exact hbest.o
         have HT9 : Hid (HeapTo o.acts (vs heap ys) m1) := D8.o.done hno
         obtain ⟨p1, hp1⟩ : ∃ p1, 2 * r + 1 = p1 := ⟨_, rfl⟩
         obtain ⟨p2, hp2⟩ : ∃ p2, 2 * r + 2 = p2 := ⟨_, rfl⟩
         have v1 : 2 * (r : Int) + 1 = (p1 : Int) := by omega
         have v2 : 2 * (r : Int) + 2 = (p2 : Int) := by omega
         have Hp1 := hid hp1
         have Hp2 := hid hp2
         clear hp1 hp2
         have gGw : Hid (∀ W : World, w5.heap.size ≤ W.heap.size → ∀ k, W.heap.size ≤ k → G k) := fun W h1 k h2 => gGn.o k (by have := NS.o; omega)
         have tr : Hid (taken r = false) := (Fr.o.ok r (by rw [← Hr.o]; exact nth_mem (by have := Hl.o; omega))).1
         as_aux_lemma =>
          go_wp2_with fail
          refine (npush_e (w := w8.drewN z) (O8b.o.drewN z) gGF.o (gGw.o _ M58.o.size) gG0 gG3 e0.o d3 (O8.o.drewN z) in8.o HT9.o p1 (by omega)).mono ?_
          rintro r10 w10 ⟨rfl, A1, m2, c2, zs1, Q1, R1, H1, N1⟩
          have M510 : Hid (Mod G w5 w10) := (M58.o.drewN z).trans (N1.mono fun g _ hg => .inl hg)
          have O10 : Hid (OrdAt w10 (fun g => F g ∧ g < q0) b ga gh gp n np o.acts o.inc heap pos) := O5.o.mod M510.o fun g _ hF => gGF.o g hF
          have e10 := hid ((World.cell?_of_block (M510.o.block q0 q0lt gG0)).trans N0.o)
          have d10 := hid ((World.cell?_of_block (M510.o.block q3 q3lt gG3)).trans N3.o)
          have in10 : Hid (InPos n zs1) := InPos.perm (fun y hy => by
           rcases List.mem_append.1 hy with hy | hy
           ·exact in8.o y hy
           ·split at hy
            ·have : y = p1 := by simpa using hy
             omega
            ·cases hy) R1
          have m2b : m2 ≤ 65536 := by
           have e1 := R1.length_eq
           have e2 := Q1.len
           have e3 := hl8.o
           rw [List.length_append] at e1
           split at e1 <;> simp at e1 <;> omega
          go_wp2_with fail
          refine (npush_e O10.o gGF.o (gGw.o _ M510.o.size) gG0 gG3 e10.o d10.o Q1 in10.o H1 p2 m2b).mono ?_
          rintro r11 w11 ⟨rfl, A2, m3, c3, zs, Q2, R2, H2, N2⟩
          go_wp2_with fail
          go_roundg (leftOf n (take1 taken r))
          case measure => rw [← K.o]; exact leftOf_take hrn tr.o
          case rel =>
           have fr : Front n (take1 taken r) zs := by
            refine Fr.o.step (ys := behead xs) (by have := behead_perm (xs := xs) (by have := Hl.o; omega); rwa [Hr.o] at this) ?_
            refine R2.trans ?_
            unfold kids
            rw [Hp1.o, Hp2.o, ← List.append_assoc]
            exact (R1.trans (P8.o.append_right _)).append_right _
           exact ⟨A2, m3, c3, zs, take1 taken r, rfl, Q2, fr, H2, Bu.o.step hrn Hx.o hv, M510.o.trans (N2.mono fun g _ hg => .inl hg)⟩
        ·rw [hbest.o] at b0 bm bp ba bb
         have Bi : i ≠ B1 := by omega
         have x4 : ((B1 : Int) == (i : Int)) = false := by simp; omega
         obtain ⟨pi, hpi, pin⟩ := in8.o.nat (k := i) (by have := hl8.o; omega)
         obtain ⟨pB, hpB, pBn⟩ := in8.o.nat (k := B1) (by have := hl8.o; omega)
         obtain ⟨_, he, _, _, e5, f5⟩ := O8.o.own.cell (j := i) (by omega)
         injection he with he; injection he with he _ _; subst he
         obtain ⟨_, he, _, _, e6, f6⟩ := O8.o.own.cell (j := B1) (by omega)
         injection he with he; injection he with he _ _; subst he
         rw [ints_nth (by have := hl8.o; omega), hpi] at e5
         rw [ints_nth (by have := hl8.o; omega), hpB] at e6
         have x5 : (i : Int) < (m1 : Int) := by omega
         have x6 : (B1 : Int) < (m1 : Int) := by omega
         have Fin : Hid (OpenAt (((w8.drewN z).setCell ⟨g, i, none⟩ (.int .i64 pB)).setCell ⟨g, B1, none⟩ (.int .i64 pi)).drew G q (some ⟨g, 0, none⟩) m1 c (swp ys i B1) ∧ (swp ys i B1).Perm (behead xs) ∧ HeapDown o.acts (vs heap (swp ys i B1)) m1 B1 ∧
           Mod G w7 (((w8.drewN z).setCell ⟨g, i, none⟩ (.int .i64 pB)).setCell ⟨g, B1, none⟩ (.int .i64 pi)).drew) := by
          have S1 := (O8.o.drewN z).swapped (i := i) (k := B1) (by omega) (by omega) hpi hpB
          have dn : HeapDown o.acts (vs heap (swp ys i B1)) m1 B1 := by
           rw [vs_swp (by have := hl8.o; omega) (by have := hl8.o; omega)]
           exact D8.o.swap (by rw [vs_length]; have := hl8.o; omega) bm b0 bp ba bb
          exact ⟨S1.keep fun _ _ _ => rfl, (swp_perm (by have := hl8.o; omega) (by have := hl8.o; omega)).trans P8.o, dn, (((M8.o.drewN z).setCell (p := ⟨g, i, none⟩) (.inl gG) _).setCell (p := ⟨g, B1, none⟩) (.inl gG) _).drew⟩
         have iB : i < B1 := by omega
         have Bm : B1 ≤ m1 := by omega
         clear hpi hpB HP1 HB1 Hk1 Hk2 hbest Lc in8 hl8 O8b e0 M58 d3 D8 P8 M8 O8 y1 y2 y3 y4 y5 b0 bm bp ba bb Bi pin pBn M7 HM7 HO7 Hlst Hm1 hv hvF O6 M6 B6 Hr Hx Hl Tw Ow Bu Fr Hh O M K T5 O5 NO NB NS N0 N3 HG gGF gGn gG0 gG3 HH hnF Hq0
         as_aux_lemma =>
          go_wp2_with fail
          go_region
          go_wp2_with fail
          go_roundw
          case rel => exact ⟨B1, swp ys i B1, Bm, rfl, hid Fin.o.1, hid Fin.o.2.1, hid Fin.o.2.2.1, hid Fin.o.2.2.2⟩
          case measure => simp [intOf]; omega
end
end
end Go.Proofs.YtcjmpobccbnpkaaGreat
