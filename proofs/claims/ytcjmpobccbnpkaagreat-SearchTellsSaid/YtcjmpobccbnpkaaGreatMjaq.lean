/-
 Chapter 32: several texts in one (PbE PbR PbI).
-/
import Derived.Test.YtcjmpobccbnpkaaGreatMjap
import Derived.Test.YtcjmpobccbnpkaaGreatMjaa
import Derived.Deep.OwnRows
import Derived.Maps.RangeWalk
namespace Go.Proofs.YtcjmpobccbnpkaaGreat
section
open Go.RowKit Go.Shelf
theorem i8s_length (xs : List Int) : (i8s xs).length = xs.length := by simp [i8s]
theorem i8s_nth {xs : List Int} {k : Nat} (h : k < xs.length) : (i8s xs)[k]? = some (.int .i8 (nth xs k)) := by
 unfold i8s
 rw [List.getElem?_map, nth_get h]
 rfl
theorem nth_out {xs : List Int} {k : Nat} (h : xs.length ≤ k) : nth xs k = 0 := by
 unfold nth
 rw [List.getElem?_eq_none h]
 rfl
theorem Rd.cell8 {w : World} {F : Nat → Prop} {A : Option Addr} {n c : Nat} {xs : List Int} (h : Rd w F 1 (.slice A n c) n (i8s xs)) : xs.length = n ∧
  ∀ k, k < n → ∃ g o, A = some ⟨g, o, none⟩ ∧ F g ∧ g < w.heap.size ∧ w.cell? ⟨g, o + k, none⟩ = some (.int .i8 (nth xs k)) := by
 obtain ⟨hl, A', c', hv, hc, hm, hA⟩ := h
 injection hv with h1 _ _
 subst h1
 have hln : xs.length = n := by simpa [i8s_length] using hl
 refine ⟨hln, fun k hk => ?_⟩
 obtain ⟨g, o, h1, h2, h3, h4⟩ := hA (by omega)
 exact ⟨g, o, h1, h2, h3, h4 k _ (i8s_nth (by omega))⟩
def valB (av : List Int) (l : Int) : Int := if nth av (l.natAbs - 1) = 0 then 0 else if (0 < nth av (l.natAbs - 1) ↔ 0 < l) then 1 else -1
end
section
open Go.RowKit
end
section
open Go.RowKit Go.Maps
def term (l k v : Int) : Int := if l = v then k else if l = -v then -k else 0
def vsum (ls ks : List Int) (j : Nat) (v : Int) : Int := ((List.range j).map fun i => term (nth ls i) (nth ks i) v).sum
def nsum (ls ks : List Int) (j : Nat) : Int := ((List.range j).map fun i => if nth ls i < 0 then nth ks i else 0).sum
theorem vsum_succ (ls ks : List Int) (j : Nat) (v : Int) : vsum ls ks (j + 1) v = vsum ls ks j v + term (nth ls j) (nth ks j) v := by simp [vsum, List.range_succ]
theorem nsum_succ (ls ks : List Int) (j : Nat) : nsum ls ks (j + 1) = nsum ls ks j + (if nth ls j < 0 then nth ks j else 0) := by simp [nsum, List.range_succ]
def inB (ls ks : List Int) (i : Nat) : Bool := litB (nth ls i) && decide (-16777216 ≤ nth ks i) && decide (nth ks i ≤ 16777216)
theorem inB_k {ls ks : List Int} {i : Nat} (h : inB ls ks i = true) : -16777216 ≤ nth ks i ∧ nth ks i ≤ 16777216 := by
 unfold inB at h
 simp only [Bool.and_eq_true, decide_eq_true_eq] at h
 exact ⟨h.1.2, h.2⟩
theorem vsum_bounds {ls ks : List Int} (v : Int) : ∀ j, (∀ i, i < j → inB ls ks i = true) → -(j * 16777216 : Int) ≤ vsum ls ks j v ∧ vsum ls ks j v ≤ j * 16777216 := by
 intro j
 induction j with
 | zero => intro _; simp [vsum]
 | succ j ih =>
  intro h
  obtain ⟨h1, h2⟩ := ih fun i hi => h i (by omega)
  obtain ⟨h3, h4⟩ := inB_k (h j (by omega))
  rw [vsum_succ]
  unfold term
  split
  ·omega
  ·split <;> omega
theorem nsum_bounds {ls ks : List Int} : ∀ j, (∀ i, i < j → inB ls ks i = true) → -(j * 16777216 : Int) ≤ nsum ls ks j ∧ nsum ls ks j ≤ j * 16777216 := by
 intro j
 induction j with
 | zero => intro _; simp [nsum]
 | succ j ih =>
  intro h
  obtain ⟨h1, h2⟩ := ih fun i hi => h i (by omega)
  obtain ⟨h3, h4⟩ := inB_k (h j (by omega))
  rw [nsum_succ]
  split <;> omega
def normVars (ls ks : List Int) : List Int := ((List.range 65536).map fun (i : Nat) => (i : Int) + 1).filter fun v => decide (vsum ls ks ls.length v ≠ 0)
def normBd (ls ks : List Int) (b : Int) : Int := b - nsum ls ks ls.length - ((normVars ls ks).map fun v => min (vsum ls ks ls.length v) 0).sum
def normOk (ls ks : List Int) (b : Int) : Bool := decide (ls.length = ks.length) && decide (ls.length ≤ 65536) && decide (-1099511627776 ≤ b) && decide (b ≤ 1099511627776) && (List.range ls.length).all (inB ls ks)
def normCoefs (ls ks : List Int) (b : Int) : List Int := (normVars ls ks).map fun v => min ((vsum ls ks ls.length v).natAbs : Nat) (normBd ls ks b)
def normed (ls ks : List Int) (b : Int) : Pb × Int :=
 if normOk ls ks b = false then (⟨[], [], 0⟩, 2)
 else if normBd ls ks b ≤ 0 then (⟨[], [], 0⟩, 0)
 else if (normCoefs ls ks b).sum < normBd ls ks b then (⟨[], [], 1⟩, 0)
 else if 16777216 < normBd ls ks b then (⟨[], [], 0⟩, 3)
 else (⟨(normVars ls ks).map fun v => if vsum ls ks ls.length v < 0 then -v else v, normCoefs ls ks b, normBd ls ks b⟩, 0)
theorem keyed_int : Keyed Tryz.prog 3 := int_keyed Tryz.underlying3
theorem zero_num (w : World) : (zeroValue 3).run Tryz.prog w = .ok (.int .i64 0) w := by kernel_rfl
theorem i64_wf {x : Int} (h : I64 x) : (Lit.int .i64 x).wf = true := by
 unfold I64 at h
 simp [Lit.wf, IntKind.min, IntKind.max, IntKind.signed, IntKind.bits]
 omega
theorem key_num {x : Int} (h : I64 x) : keyOf Tryz.prog 3 (.int .i64 x) = some (.int .i64 x) := keyOf_int_mk Tryz.underlying3 (i64_wf h)
theorem num_key {x : Int} (h : I64 x) : WideAt.IsKeyLit (.int .i64 x) := keyed_int.key (key_num h)
theorem num_ne {x y : Int} (h : x ≠ y) : (Lit.int .i64 x) ≠ .int .i64 y := fun e => h (by injection e)
theorem normed_bad {ls ks : List Int} {b : Int} {j : Nat} (hj : j < ls.length) (h : inB ls ks j = false) : normed ls ks b = (⟨[], [], 0⟩, 2) := by
 have : normOk ls ks b = false := by
  unfold normOk
  have hall : (List.range ls.length).all (inB ls ks) = false := by
   rw [List.all_eq_false]
   exact ⟨j, List.mem_range.2 hj, by rw [h]; simp⟩
  rw [hall]
  simp
 unfold normed
 rw [if_pos this]
structure CntD (D : DataW Unit) (f : Int → Int) : Prop where
 val : ∀ v : Int, 1 ≤ v → v ≤ 65536 → D.atKey (.int .i64 v) (.lit (.int .i64 0)) = .lit (.int .i64 (f v))
 key : ∀ kl, Maps.has D kl = true → ∃ v : Int, kl = .int .i64 v ∧ 1 ≤ v ∧ v ≤ 65536
def CntIs (w : World) (b n : Nat) (f : Int → Int) : Prop := ∃ D : DataW Unit, w.ownsMap Tryz.prog 3 (plainElem Tryz.prog 3) b n D ∧ CntD D f
theorem CntIs.put {w w' : World} {b n : Nat} {f g : Int → Int} {D : DataW Unit} {v x : Int} (h : w.ownsMap Tryz.prog 3 (plainElem Tryz.prog 3) b n D) (hD : CntD D f) (hv : 1 ≤ v) (hv2 : v ≤ 65536)
  (h' : w'.ownsMap Tryz.prog 3 (plainElem Tryz.prog 3) b (n + 1) (D.put (.int .i64 v) (.lit (.int .i64 x)))) (h1 : g v = x) (h2 : ∀ u, 1 ≤ u → u ≠ v → g u = f u) : CntIs w' b (n + 1) g := by
 have hk : WideAt.IsKeyLit (.int .i64 v) := num_key (by unfold I64; omega)
 refine ⟨_, h', ⟨fun u hu hu2 => ?_, fun kl hkl => ?_⟩⟩
 ·by_cases e : u = v
  ·subst e
   rw [atKey_put_same h.isMap hk, h1]
  ·rw [atKey_put_other (num_ne e), hD.val u hu hu2, h2 u hu e]
 ·by_cases e : kl = .int .i64 v
  ·exact ⟨v, e, hv, hv2⟩
  ·rw [has_put_other e] at hkl
   exact hD.key kl hkl
theorem CntIs.made (w : World) (f : Int → Int) (hf : ∀ v, 1 ≤ v → f v = 0) : CntIs (w.alloc (.map #[] 0)) w.heap.size 0 f :=
 ⟨_, World.ownsMap_made _ _ _ _, ⟨fun v hv _ => by rw [hf v hv]; rfl, fun kl h => by simp [Maps.has] at h⟩⟩
theorem cnt_ranges_of {w w' : World} {b r n cnt : Nat} {D : DataW Unit} {left : Lit → Bool} (h : w.ranges Tryz.prog 3 (plainElem Tryz.prog 3) b r n D left cnt) (h1 : w'.heap[b]? = w.heap[b]?) (h2 : w'.heap[r]? = w.heap[r]?) : w'.ranges Tryz.prog 3 (plainElem Tryz.prog 3) b r n D left cnt := by
 obtain ⟨es, clock, since, seen, c0, hb, F, hs, hD, hr, rest⟩ := h
 exact ⟨es, clock, since, seen, c0, h1.trans hb, F, hs, hD, h2.trans hr, rest⟩
theorem cnt_ranges_le {w : World} {b r n cnt : Nat} {D : DataW Unit} {left : Lit → Bool} (h : w.ranges Tryz.prog 3 (plainElem Tryz.prog 3) b r n D left cnt) : cnt ≤ n := by
 obtain ⟨es, clock, since, seen, c0, hb, F, hs, hD, hr, h1, h2, _⟩ := h
 rw [← h2]
 unfold leftOf
 exact Nat.le_trans Array.size_filter_le hs
theorem same_int (x y : Int) : (Lit.int .i64 x).sameKey (.int .i64 y) = decide (x = y) := by
 by_cases e : x = y
 ·subst e
  cases hs : (Lit.int IntKind.i64 x).sameKey (.int .i64 x)
  ·simp [Lit.sameKey] at hs
  ·simp
 ·rw [sameKey_ne (num_ne e)]
  simp [e]
def minus (f : Int → Int) (xs : List Int) : Int := (xs.map fun v => min (f v) 0).sum
theorem minus_snoc (f : Int → Int) (xs : List Int) (x : Int) : minus f (xs ++ [x]) = minus f xs + min (f x) 0 := by simp [minus]
theorem minus_bounds {f : Int → Int} {B : Int} (hf : ∀ v, -B ≤ f v) (hB : 0 ≤ B) : ∀ xs : List Int, -(xs.length * B) ≤ minus f xs ∧ minus f xs ≤ 0 := by
 intro xs
 induction xs with
 | nil => simp [minus]
 | cons x xs ih =>
  have e : minus f (x :: xs) = min (f x) 0 + minus f xs := by simp [minus]
  have := hf x
  have e2 : ((x :: xs).length : Int) * B = xs.length * B + B := by rw [List.length_cons, Int.natCast_add, Int.add_mul]; simp
  rw [e, e2]
  omega
end
end Go.Proofs.YtcjmpobccbnpkaaGreat
