/-
  The activity order: Next, as plain data.
-/
import Derived.Test.YtdkbchpogmiohaaHeapI
namespace Go.Proofs.Ytdkbchpogmiohaa
open Go.RowKit

/-! ### sifting down -/
structure HeapDown (acts hs : List Int) (m i : Nat) : Prop where
  a : ∀ k, 0 < k → k < m → (k - 1) / 2 ≠ i → ahead acts (hat hs k) (hat hs ((k - 1) / 2)) = false
  c : ∀ k, 0 < k → k < m → (k - 1) / 2 = i → 0 < i → ahead acts (hat hs k) (hat hs ((i - 1) / 2)) = false
theorem HeapDown.done {acts hs : List Int} {m i : Nat} (e : HeapDown acts hs m i) (f : ∀ k, 0 < k → k < m → (k - 1) / 2 = i → ahead acts (hat hs k) (hat hs i) = false) : HeapTo acts hs m := fun k hk hm => by
  by_cases h : (k - 1) / 2 = i
  · rw [h]; exact f k hk hm h
  · exact e.a k hk hm h
theorem hat_swp {hs : List Int} {i k : Nat} (hi : i < hs.length) (hk : k < hs.length) {j : Nat} (hj : j < hs.length) : hat (swp hs i k) j = if j = k then hat hs i else if j = i then hat hs k else hat hs j := by
  unfold hat
  rw [swp_nth hi hk j hj]
  split
  · rfl
  · split <;> rfl
theorem HeapDown.swap {acts hs : List Int} {m i c : Nat} (e : HeapDown acts hs m i) (hl : m ≤ hs.length) (hc : c < m) (h0 : 0 < c) (hp : (c - 1) / 2 = i) (hai : ahead acts (hat hs c) (hat hs i) = true)
    (best : ∀ k, 0 < k → k < m → (k - 1) / 2 = i → ahead acts (hat hs k) (hat hs c) = false) : HeapDown acts (swp hs i c) m c := by
  have hic : i < c := by omega
  have key : ∀ j, j < m → hat (swp hs i c) j = if j = c then hat hs i else if j = i then hat hs c else hat hs j := fun j hj => hat_swp (by omega) (by omega) (by omega)
  constructor
  · intro k hk hkm hkc
    rw [key k hkm, key ((k - 1) / 2) (by omega), if_neg hkc]
    by_cases a1 : k = c
    · subst a1
      rw [if_pos rfl, if_pos hp]
      exact ahead_asymm hai
    · rw [if_neg a1]
      by_cases a2 : k = i
      · subst a2
        rw [if_pos rfl, if_neg (by omega)]
        exact e.c c h0 hc hp hk
      · rw [if_neg a2]
        by_cases a3 : (k - 1) / 2 = i
        · rw [if_pos a3]; exact best k hk hkm a3
        · rw [if_neg a3]; exact e.a k hk hkm a3
  · intro k hk hkm hkc _
    rw [key k hkm, key ((c - 1) / 2) (by omega), if_neg (by omega), if_neg (by omega), hp, if_neg (by omega), if_pos rfl]
    have := e.a k hk hkm (by omega)
    rwa [hkc] at this

/-- The first of two places that comes before. -/
def lessB (acts hs : List Int) (m k b : Nat) : Bool := decide (k < m) && ahead acts (hat hs k) (hat hs b)
def pickB (acts hs : List Int) (m k b : Nat) : Nat := if lessB acts hs m k b then k else b
def bestB (acts hs : List Int) (m i : Nat) : Nat := pickB acts hs m (2 * i + 2) (pickB acts hs m (2 * i + 1) i)
theorem ahead_irr (acts : List Int) (x : Nat) : ahead acts x x = false := by rw [ahead_no]; omega
theorem ahead_trans {acts : List Int} {x y z : Nat} (e : ahead acts x y = true) (f : ahead acts y z = true) : ahead acts x z = true := by
  rw [ahead_iff] at *; omega
theorem best_spec (acts hs : List Int) (m i : Nat) :
    (bestB acts hs m i = i ∧ ∀ k, 0 < k → k < m → (k - 1) / 2 = i → ahead acts (hat hs k) (hat hs i) = false) ∨
    (0 < bestB acts hs m i ∧ bestB acts hs m i < m ∧ (bestB acts hs m i - 1) / 2 = i ∧ ahead acts (hat hs (bestB acts hs m i)) (hat hs i) = true ∧ ∀ k, 0 < k → k < m → (k - 1) / 2 = i → ahead acts (hat hs k) (hat hs (bestB acts hs m i)) = false) := by
  unfold bestB pickB lessB
  cases e1 : (decide (2 * i + 1 < m) && ahead acts (hat hs (2 * i + 1)) (hat hs i)) with
  | true =>
    obtain ⟨m1, a1⟩ : 2 * i + 1 < m ∧ ahead acts (hat hs (2 * i + 1)) (hat hs i) = true := by simpa using e1
    simp only [if_true]
    cases e2 : (decide (2 * i + 2 < m) && ahead acts (hat hs (2 * i + 2)) (hat hs (2 * i + 1))) with
    | true =>
      obtain ⟨m2, a2⟩ : 2 * i + 2 < m ∧ ahead acts (hat hs (2 * i + 2)) (hat hs (2 * i + 1)) = true := by simpa using e2
      right
      simp only [if_true]
      refine ⟨by omega, m2, by omega, ahead_trans a2 a1, fun k h1 h2 h3 => ?_⟩
      rcases (by omega : k = 2 * i + 1 ∨ k = 2 * i + 2) with rfl | rfl
      · exact ahead_asymm a2
      · exact ahead_irr _ _
    | false =>
      right
      simp only [Bool.false_eq_true, if_false]
      refine ⟨by omega, m1, by omega, a1, fun k h1 h2 h3 => ?_⟩
      rcases (by omega : k = 2 * i + 1 ∨ k = 2 * i + 2) with rfl | rfl
      · exact ahead_irr _ _
      · simpa [h2] using e2
  | false =>
    simp only [Bool.false_eq_true, if_false]
    cases e2 : (decide (2 * i + 2 < m) && ahead acts (hat hs (2 * i + 2)) (hat hs i)) with
    | true =>
      obtain ⟨m2, a2⟩ : 2 * i + 2 < m ∧ ahead acts (hat hs (2 * i + 2)) (hat hs i) = true := by simpa using e2
      right
      simp only [if_true]
      refine ⟨by omega, m2, by omega, a2, fun k h1 h2 h3 => ?_⟩
      rcases (by omega : k = 2 * i + 1 ∨ k = 2 * i + 2) with rfl | rfl
      · exact ahead_down a2 (by simpa [h2] using e1)
      · exact ahead_irr _ _
    | false =>
      left
      simp only [Bool.false_eq_true, if_false]
      refine ⟨trivial, fun k h1 h2 h3 => ?_⟩
      rcases (by omega : k = 2 * i + 1 ∨ k = 2 * i + 2) with rfl | rfl
      · simpa [h2] using e1
      · simpa [h2] using e2

/-! ### the front -/
/-- The open positions xs are those not taken whose parents are taken. -/
structure Front (n : Nat) (taken : Nat → Bool) (xs : List Int) : Prop where
  nodup : xs.Nodup
  inp : InPos n xs
  ok : ∀ p : Nat, (p : Int) ∈ xs → taken p = false ∧ (p = 0 ∨ taken ((p - 1) / 2) = true)
  all : ∀ p : Nat, p < n → taken p = false → (p = 0 ∨ taken ((p - 1) / 2) = true) → (p : Int) ∈ xs
  closed : ∀ p : Nat, taken p = true → p = 0 ∨ taken ((p - 1) / 2) = true
def take1 (taken : Nat → Bool) (r : Nat) : Nat → Bool := fun p => taken p || p == r
def leftOf (n : Nat) (taken : Nat → Bool) : Nat := ((List.range n).filter fun p => !taken p).length
theorem Front.start {n : Nat} (hn : 0 < n) : Front n (fun _ => false) [0] where
  nodup := by simp
  inp := fun x hx => by simp at hx; omega
  ok := fun p hp => ⟨rfl, .inl (by simpa using hp)⟩
  all := fun p _ _ h => by
    rcases h with h | h
    · subst h; simp
    · cases h
  closed := fun p h => by cases h
theorem leftOf_take {n r : Nat} {taken : Nat → Bool} (hr : r < n) (ht : taken r = false) : leftOf n (take1 taken r) < leftOf n taken := by
  unfold leftOf
  have e : (List.range n).filter (fun p => !take1 taken r p) = ((List.range n).filter fun p => !taken p).filter (fun p => !(p == r)) := by
    rw [List.filter_filter]
    congr 1
    funext p
    simp [take1, Bool.and_comm]
  rw [e]
  refine List.length_filter_lt_length_iff_exists.2 ⟨r, ?_, by simp⟩
  simp [hr, ht]
/-- The positions below r. -/
def kids (n r : Nat) : List Int := (if 2 * r + 1 < n then [((2 * r + 1 : Nat) : Int)] else []) ++ (if 2 * r + 2 < n then [((2 * r + 2 : Nat) : Int)] else [])
theorem mem_kids {n r : Nat} {x : Int} : x ∈ kids n r ↔ ∃ p : Nat, x = p ∧ p < n ∧ 0 < p ∧ (p - 1) / 2 = r := by
  unfold kids
  constructor
  · intro h
    rcases List.mem_append.1 h with h | h
    · split at h
      · exact ⟨2 * r + 1, by simpa using h, by assumption, by omega, by omega⟩
      · cases h
    · split at h
      · exact ⟨2 * r + 2, by simpa using h, by assumption, by omega, by omega⟩
      · cases h
  · rintro ⟨p, rfl, h1, h2, h3⟩
    rw [List.mem_append]
    rcases (by omega : p = 2 * r + 1 ∨ p = 2 * r + 2) with rfl | rfl
    · left; rw [if_pos h1]; simp
    · right; rw [if_pos h1]; simp
theorem kids_nodup (n r : Nat) : (kids n r).Nodup := by
  unfold kids
  split <;> split <;> simp <;> omega
theorem Front.step {n r : Nat} {taken : Nat → Bool} {xs ys zs : List Int} (e : Front n taken xs) (h1 : xs.Perm ((r : Int) :: ys)) (h2 : zs.Perm (ys ++ kids n r)) : Front n (take1 taken r) zs := by
  have hr := e.ok r (h1.mem_iff.2 (by simp))
  have nd : ((r : Int) :: ys).Nodup := h1.nodup_iff.1 e.nodup
  obtain ⟨nr, ny⟩ := List.nodup_cons.1 nd
  have my : ∀ p : Nat, (p : Int) ∈ ys → (p : Int) ∈ xs := fun p hp => h1.mem_iff.2 (by simp [hp])
  constructor
  · rw [h2.nodup_iff]
    rw [List.nodup_append]
    refine ⟨ny, kids_nodup n r, ?_⟩
    intro a ha c hc e'
    subst e'
    obtain ⟨p, rfl, _, h4, h5⟩ := mem_kids.1 hc
    have := (e.ok p (my p ha)).2
    rcases this with h | h
    · omega
    · rw [h5, hr.1] at h; cases h
  · intro x hx
    rcases List.mem_append.1 (h2.mem_iff.1 hx) with h | h
    · exact e.inp x (h1.mem_iff.2 (by simp [h]))
    · obtain ⟨p, rfl, h3, _, _⟩ := mem_kids.1 h
      omega
  · intro p hp
    rcases List.mem_append.1 (h2.mem_iff.1 hp) with h | h
    · obtain ⟨h3, h4⟩ := e.ok p (my p h)
      refine ⟨?_, ?_⟩
      · have : p ≠ r := by rintro rfl; exact nr h
        simp [take1, h3, this]
      · rcases h4 with h4 | h4
        · exact .inl h4
        · exact .inr (by simp [take1, h4])
    · obtain ⟨p', h3, h4, h5, h6⟩ := mem_kids.1 h
      obtain rfl : p' = p := by omega
      refine ⟨?_, .inr (by simp [take1, h6])⟩
      cases ht : taken p' with
      | false =>
        have : p' ≠ r := by omega
        simp [take1, ht, this]
      | true =>
        rcases e.closed p' ht with h | h
        · omega
        · rw [h6, hr.1] at h; cases h
  · intro p hp ht hpar
    rw [h2.mem_iff, List.mem_append]
    have ht1 : taken p = false ∧ p ≠ r := by simpa [take1] using ht
    by_cases hk : 0 < p ∧ (p - 1) / 2 = r
    · exact .inr (mem_kids.2 ⟨p, rfl, hp, hk.1, hk.2⟩)
    · left
      have : (p : Int) ∈ xs := e.all p hp ht1.1 (by
        rcases hpar with h | h
        · exact .inl h
        · rcases Nat.eq_zero_or_pos p with h0 | h0
          · exact .inl h0
          · right
            have : (p - 1) / 2 ≠ r := fun e => hk ⟨h0, e⟩
            simpa [take1, this] using h)
      rcases List.mem_cons.1 (h1.mem_iff.1 this) with h | h
      · omega
      · exact h
  · intro p hp
    have hp : taken p = true ∨ p = r := by simpa [take1] using hp
    rcases hp with hp | hp
    · rcases e.closed p hp with h | h
      · exact .inl h
      · exact .inr (by simp [take1, h])
    · subst hp
      rcases hr.2 with h | h
      · exact .inl h
      · exact .inr (by simp [take1, h])
/-- The first of the open positions comes before all that are not taken. -/
theorem Front.top {n : Nat} {taken : Nat → Bool} {xs acts heap : List Int} (e : Front n taken xs) (hh : HeapTo acts heap n) (ho : HeapTo acts (vs heap xs) xs.length) {p : Nat} (hp : p < n) (ht : taken p = false) :
    0 < xs.length ∧ ahead acts (hat heap p) (hat (vs heap xs) 0) = false := by
  have front : ∀ k, k < xs.length → ahead acts (hat (vs heap xs) k) (hat (vs heap xs) 0) = false := by
    intro k
    induction k using Nat.strongRecOn with
    | _ k ih =>
      intro hk
      rcases Nat.eq_zero_or_pos k with h | h
      · subst h; exact ahead_irr _ _
      · exact ahead_not (ho k h hk) (ih ((k - 1) / 2) (by omega) (by omega))
  induction p using Nat.strongRecOn with
  | _ p ih =>
    by_cases hpar : p = 0 ∨ taken ((p - 1) / 2) = true
    · have hm := e.all p hp ht hpar
      obtain ⟨k, hk, hk'⟩ := List.getElem_of_mem hm
      refine ⟨by omega, ?_⟩
      have := front k hk
      have e1 : hat (vs heap xs) k = hat heap p := by
        unfold hat
        rw [vs_nth hk, nth_eq hk, hk']
        simp
      rwa [e1] at this
    · have h0 : p ≠ 0 := fun h => hpar (.inl h)
      have h1 : taken ((p - 1) / 2) = false := by
        cases h : taken ((p - 1) / 2) with
        | false => rfl
        | true => exact absurd (.inr h) hpar
      obtain ⟨h2, h3⟩ := ih ((p - 1) / 2) (by omega) (by omega) h1
      exact ⟨h2, ahead_not (hh p (by omega) hp) h3⟩
/-- Without the first. -/
def behead (xs : List Int) : List Int := (xs.set 0 (nth xs (xs.length - 1))).take (xs.length - 1)
theorem behead_length (xs : List Int) : (behead xs).length = xs.length - 1 := by simp [behead]
theorem behead_perm {xs : List Int} (h : 0 < xs.length) : xs.Perm (nth xs 0 :: behead xs) := by
  cases xs with
  | nil => cases h
  | cons x t =>
    have e0 : nth (x :: t) 0 = x := rfl
    rw [e0]
    refine List.Perm.cons x ?_
    rcases List.eq_nil_or_concat t with ht | ⟨l, a, ht⟩
    · subst ht
      simp [behead]
    · subst ht
      have e1 : nth (x :: (l ++ [a])) ((x :: (l ++ [a])).length - 1) = a := by simp [nth]
      have e2 : behead (x :: (l ++ [a])) = a :: l := by
        unfold behead
        rw [e1]
        simp
      rw [List.concat_eq_append] at *
      first
        | rw [e2]
        | skip
      exact List.perm_append_comm.trans (by simp)
theorem behead_nth {xs : List Int} {k : Nat} (h0 : 0 < k) (hk : k < xs.length - 1) : nth (behead xs) k = nth xs k := by
  unfold behead nth
  rw [List.getElem?_take_of_lt hk, List.getElem?_set_ne (by omega)]
theorem behead_down {xs acts heap : List Int} (ho : HeapTo acts (vs heap xs) xs.length) : HeapDown acts (vs heap (behead xs)) (xs.length - 1) 0 := by
  have key : ∀ k, 0 < k → k < xs.length - 1 → hat (vs heap (behead xs)) k = hat (vs heap xs) k := fun k h0 hk => by
    unfold hat
    rw [vs_nth (by rw [behead_length]; omega), vs_nth (by omega), behead_nth h0 hk]
  exact ⟨fun k h0 hk hp => by rw [key k h0 hk, key _ (by omega) (by omega)]; exact ho k h0 (by omega), fun k _ _ _ h => by omega⟩

/-- What Next answers: the first of the free variables, or none. -/
def NextIs (acts : List Int) (n : Nat) (val : Int → Int) (v : Int) (is : Bool) : Prop :=
  (is = false ∧ v = 0 ∧ ∀ y : Nat, 1 ≤ y → y ≤ n → val y ≠ 0) ∨
  (is = true ∧ ∃ x : Nat, v = x ∧ 1 ≤ x ∧ x ≤ n ∧ val x = 0 ∧ ∀ y : Nat, 1 ≤ y → y ≤ n → val y = 0 → y ≠ x → ahead acts x y = true)
structure Busy (heap : List Int) (n : Nat) (val : Int → Int) (taken : Nat → Bool) : Prop where
  lt : ∀ p, taken p = true → p < n
  no : ∀ p, taken p = true → val (hat heap p) ≠ 0
theorem Front.none {n : Nat} {taken : Nat → Bool} {acts heap pos : List Int} {val : Int → Int} (e : Front n taken []) (I : Inv heap pos n) (hh : HeapTo acts heap n) (hb : Busy heap n val taken) : NextIs acts n val 0 false := by
  refine .inl ⟨rfl, rfl, fun y h1 h2 => ?_⟩
  obtain ⟨p, hp, _, hy⟩ := I.bw y h1 h2
  cases ht : taken p with
  | true =>
    have := hb.no p ht
    simpa [hat, hy] using this
  | false =>
    have := (e.top (acts := acts) hh (fun k _ hk => by cases hk) hp ht).1
    simp at this
theorem Front.some {n : Nat} {taken : Nat → Bool} {xs acts heap pos : List Int} {val : Int → Int} (e : Front n taken xs) (I : Inv heap pos n) (hh : HeapTo acts heap n) (ho : HeapTo acts (vs heap xs) xs.length) (hb : Busy heap n val taken)
    {r x : Nat} (h0 : 0 < xs.length) (hr : nth xs 0 = r) (hx : nth heap r = x) (hrn : r < n) (hv : val x = 0) : NextIs acts n val x true := by
  obtain ⟨x', hx', x1, xn, _⟩ := I.fw r hrn
  obtain rfl : x' = x := by omega
  refine .inr ⟨rfl, x', rfl, x1, xn, hv, fun y h1 h2 h3 h4 => ?_⟩
  obtain ⟨p, hp, _, hy⟩ := I.bw y h1 h2
  have ht : taken p = false := by
    cases ht : taken p with
    | false => rfl
    | true =>
      have := hb.no p ht
      rw [show ((hat heap p : Nat) : Int) = y by simp [hat, hy]] at this
      exact absurd h3 this
  have := (e.top hh ho hp ht).2
  have e1 : hat heap p = y := by simp [hat, hy]
  have e2 : hat (vs heap xs) 0 = x' := by simp [hat, vs_nth h0, hr, hx]
  rw [e1, e2] at this
  exact ahead_total this h4
theorem Busy.step {n r x : Nat} {taken : Nat → Bool} {heap : List Int} {val : Int → Int} (e : Busy heap n val taken) (hrn : r < n) (hx : nth heap r = x) (hv : val x ≠ 0) : Busy heap n val (take1 taken r) := by
  constructor
  · intro p hp
    rcases (by simpa [take1] using hp : taken p = true ∨ p = r) with h | h
    · exact e.lt p h
    · omega
  · intro p hp
    rcases (by simpa [take1] using hp : taken p = true ∨ p = r) with h | h
    · exact e.no p h
    · subst h
      rw [show ((hat heap p : Nat) : Int) = x by simp [hat, hx]]
      exact hv
end Go.Proofs.Ytdkbchpogmiohaa
