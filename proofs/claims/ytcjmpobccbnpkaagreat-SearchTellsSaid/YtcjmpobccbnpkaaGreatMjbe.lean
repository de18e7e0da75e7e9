/-
 Chapter 32: several texts in one (PlD EnS SeT StA).
-/
import Derived.Test.YtcjmpobccbnpkaaGreatMjav
import Derived.Test.YtcjmpobccbnpkaaGreatMjbd
import Derived.Test.YtcjmpobccbnpkaaGreatMjba
import Derived.Test.YtcjmpobccbnpkaaGreatMjau
import Derived.Test.YtcjmpobccbnpkaaGreatMjay
import Derived.Test.YtcjmpobccbnpkaaGreatMjbc
namespace Go.Proofs.YtcjmpobccbnpkaaGreat
theorem arr_nth (xs : List Int) (j : Nat) : (xs.toArray)[j]! = nth xs j := by
 unfold nth
 rcases Nat.lt_or_ge j xs.length with h | h
 ·rw [getElem!_pos xs.toArray j (by simpa using h), List.getElem?_eq_getElem h]; simp
 ·rw [getElem!_neg xs.toArray j (by simpa using h), List.getElem?_eq_none h]; rfl
theorem mem_compactL {xs : List Int} {x : Int} : x ∈ compactL xs ↔ ∃ j, j < xs.length ∧ (j = 0 ∨ nth xs j ≠ nth xs (j - 1)) ∧ nth xs j = x := by
 unfold compactL Lib.compact Lib.compactUpTo
 rw [List.mem_map]
 constructor
 ·rintro ⟨j, hj, e⟩
  have hj := List.mem_filter.1 hj
  have h1 : Lib.keeps xs.toArray j = true := hj.2
  unfold Lib.keeps at h1
  rw [decide_eq_true_eq, arr_nth, arr_nth] at h1
  rw [arr_nth] at e
  exact ⟨j, List.mem_range.1 hj.1, h1, e⟩
 ·rintro ⟨j, hj, h1, e⟩
  refine ⟨j, List.mem_filter.2 ⟨List.mem_range.2 hj, ?_⟩, by rw [arr_nth]; exact e⟩
  unfold Lib.keeps
  rw [decide_eq_true_eq, arr_nth, arr_nth]
  exact h1
theorem compactL_same {xs : List Int} {x : Int} : x ∈ compactL xs ↔ x ∈ xs := by
 rw [mem_compactL]
 constructor
 ·rintro ⟨j, hj, _, rfl⟩; exact nth_mem hj
 ·intro h
  obtain ⟨j, hj, e⟩ := List.getElem_of_mem h
  rw [← nth_eq hj] at e
  induction j with
  | zero => exact ⟨0, hj, .inl rfl, e⟩
  | succ j ih =>
   by_cases e2 : nth xs (j + 1) = nth xs j
   ·exact ih (by omega) (e2 ▸ e)
   ·exact ⟨j + 1, hj, .inr e2, e⟩
theorem nth_mono {xs : List Int} (h : xs.Pairwise fun x y => x ≤ y) {i j : Nat} (hij : i ≤ j) (hj : j < xs.length) : nth xs i ≤ nth xs j := by
 rcases Nat.lt_or_ge i j with e | e
 ·rw [nth_eq hj, nth_eq (by omega)]
  exact List.pairwise_iff_getElem.1 h i j (by omega) hj e
 ·rw [show i = j by omega]; exact Int.le_refl _
theorem compactL_rise {xs : List Int} (h : xs.Pairwise fun x y => x ≤ y) : (compactL xs).Pairwise fun x y => x < y := by
 unfold compactL Lib.compact Lib.compactUpTo
 rw [List.pairwise_map]
 refine (List.pairwise_lt_range.filter _).imp_of_mem fun {i j} _ hj hij => ?_
 have hj := List.mem_filter.1 hj
 have h2 := List.mem_range.1 hj.1
 have h1 : Lib.keeps xs.toArray j = true := hj.2
 unfold Lib.keeps at h1
 rw [decide_eq_true_eq, arr_nth, arr_nth] at h1
 rw [arr_nth, arr_nth]
 have h3 := nth_mono h (show i ≤ j - 1 by omega) (by omega)
 have h4 := nth_mono h (show j - 1 ≤ j by omega) h2
 rcases h1 with h1 | h1
 ·omega
 ·omega
def once (ls : List Int) : List Int := compactL (sortL ls)
theorem mem_once {ls : List Int} {x : Int} : x ∈ once ls ↔ x ∈ ls := compactL_same.trans (sortL_perm ls).mem_iff
theorem once_nodup (ls : List Int) : (once ls).Nodup := (compactL_rise (sortL_sorted ls)).imp fun h => by omega
theorem once_len (ls : List Int) : (once ls).length ≤ ls.length := by
 have := List.Nodup.length_le_of_subset (once_nodup ls) (fun x hx => mem_once.1 hx)
 exact this
theorem clauseB_is (ls : List Int) : clauseB ls = normed (once ls) (List.replicate (once ls).length 1) 1 := rfl
theorem nth_ones {n i : Nat} (h : i < n) : nth (List.replicate n 1) i = 1 := by
 unfold nth
 rw [List.getElem?_replicate, if_pos h]; rfl
theorem once_in {ls : List Int} (h : ∀ l ∈ ls, litB l = true) (hn : ls.length ≤ 65536) : normOk (once ls) (List.replicate (once ls).length 1) 1 = true := by
 have h1 := once_len ls
 refine normOk_iff.2 ⟨by simp, by omega, by decide, by decide, fun i hi => ?_⟩
 unfold inB
 rw [nth_ones hi, h _ (mem_once.1 (nth_mem hi))]
 decide
theorem once_small {ls : List Int} (h : ∀ l ∈ ls, litB l = true) (hn : ls.length ≤ 8) : (clauseB ls).2 = 0 := by
 have h1 := once_len ls
 rw [clauseB_is]
 refine norm_fits (once_in h (by omega)) ?_
 have := normBd_le (ls := once ls) (ks := List.replicate (once ls).length 1) (b := 1) (K := 1) fun i hi => ⟨h _ (mem_once.1 (nth_mem hi)), by rw [nth_ones hi]; decide, by rw [nth_ones hi]; decide⟩
 omega
theorem got_ones (s : Int → Bool) (ls : List Int) : 1 ≤ got s ls (List.replicate ls.length 1) ls.length ↔ ls.any (tr s) = true := by
 have e : got s ls (List.replicate ls.length 1) ls.length = ((List.range ls.length).map fun i => if tr s (nth ls i) = true then (1 : Int) else 0).sum := by
  unfold got
  refine sum_cong _ fun i hi => ?_
  rw [nth_ones (List.mem_range.1 hi)]
 rw [e, List.any_eq_true]
 constructor
 ·intro h
  by_cases e2 : ∃ x ∈ ls, tr s x = true
  ·exact e2
  ·rw [sum_zero _ fun i hi => by rw [if_neg fun h => e2 ⟨_, nth_mem (List.mem_range.1 hi), h⟩]] at h
   omega
 ·rintro ⟨x, hx, h⟩
  obtain ⟨j, hj, e2⟩ := List.getElem_of_mem hx
  rw [← nth_eq hj] at e2
  refine le_sum _ (fun y hy => ?_) (List.mem_map.2 ⟨j, List.mem_range.2 hj, by rw [e2, if_pos h]⟩)
  obtain ⟨i, _, rfl⟩ := List.mem_map.1 hy
  split <;> omega
theorem clause_holds (s : Int → Bool) {ls : List Int} (h : ∀ l ∈ ls, litB l = true) (hn : ls.length ≤ 8) : (clauseB ls).1.bound ≤ (clauseB ls).1.total (tr s) ↔ ls.any (tr s) = true := by
 have h1 := once_len ls
 have h2 := once_small h hn
 rw [clauseB_is] at h2 ⊢
 rw [norm_holds s (once_in h (by omega)) h2, got_ones, List.any_eq_true, List.any_eq_true]
 exact ⟨fun ⟨x, hx, e⟩ => ⟨x, mem_once.1 hx, e⟩, fun ⟨x, hx, e⟩ => ⟨x, mem_once.2 hx, e⟩⟩
section
open Go.RowKit
def at7 (ls ks : List Int) (i : Nat) : Int × Int := (Int.tmod (nth ls i) 8, if i < ks.length then Int.tmod (nth ks i) 6 else 1)
def row7 (ls ks : List Int) (j : Nat) : List (Int × Int) := ((List.range j).map (at7 ls ks)).filter fun p => decide (p.1 ≠ 0)
theorem row7_succ (ls ks : List Int) (j : Nat) : row7 ls ks (j + 1) = row7 ls ks j ++ (if (at7 ls ks j).1 ≠ 0 then [at7 ls ks j] else []) := by
 unfold row7
 rw [List.range_succ, List.map_append, List.filter_append]
 congr 1
 by_cases e : (at7 ls ks j).1 = 0
 ·simp [e]
 ·simp [e]
theorem row7_len (ls ks : List Int) (j : Nat) : (row7 ls ks j).length ≤ j := by
 unfold row7
 have := List.length_filter_le (fun p : Int × Int => decide (p.1 ≠ 0)) ((List.range j).map (at7 ls ks))
 simpa using this
def lisAt (lls : List (List Int)) (i : Nat) : List Int := (lls[i]?).getD []
theorem lisAt_get {lls : List (List Int)} {i : Nat} {l : List Int} (h : lls[i]? = some l) : lisAt lls i = l := by simp [lisAt, h]
theorem lisAt_none {lls : List (List Int)} {i : Nat} (h : lls.length ≤ i) : lisAt lls i = [] := by simp [lisAt, h]
def rw7 (lls kks : List (List Int)) (i : Nat) : List (Int × Int) := row7 (lisAt lls i) (lisAt kks i) (min (lisAt lls i).length 8)
def bd7 (bs : List Int) (i : Nat) : Int := if i < bs.length then Int.tmod (nth bs i) 12 else 1
def sm7 (lls kks : List (List Int)) (bs : List Int) (i : Nat) : Pb × Int := normed ((rw7 lls kks i).map Prod.fst) ((rw7 lls kks i).map Prod.snd) (bd7 bs i)
def small7 (lls kks : List (List Int)) (bs : List Int) (k : Nat) : List Pb := (((List.range k).map (sm7 lls kks bs)).filter fun p => decide (p.2 = 0)).map Prod.fst
theorem small7_succ (lls kks : List (List Int)) (bs : List Int) (k : Nat) : small7 lls kks bs (k + 1) = small7 lls kks bs k ++ (if (sm7 lls kks bs k).2 = 0 then [(sm7 lls kks bs k).1] else []) := by
 unfold small7
 rw [List.range_succ, List.map_append, List.filter_append, List.map_append]
 congr 1
 by_cases e : (sm7 lls kks bs k).2 = 0
 ·simp [e]
 ·simp [e]
theorem small7_len (lls kks : List (List Int)) (bs : List Int) (k : Nat) : (small7 lls kks bs k).length ≤ k := by
 unfold small7
 have := List.length_filter_le (fun p : Pb × Int => decide (p.2 = 0)) ((List.range k).map (sm7 lls kks bs))
 simpa using this
theorem tmod_lim (x : Int) {m : Int} (hm : 0 < m) : -(m - 1) ≤ Int.tmod x m ∧ Int.tmod x m ≤ m - 1 := by
 have h1 := Int.tmod_lt_of_pos x hm
 have h2 := Int.tmod_lt_of_pos (-x) hm
 rw [Int.neg_tmod] at h2
 omega
theorem row7_mem {ls ks : List Int} {j : Nat} {p : Int × Int} (h : p ∈ row7 ls ks j) : p.1 ≠ 0 ∧ -7 ≤ p.1 ∧ p.1 ≤ 7 ∧ -5 ≤ p.2 ∧ p.2 ≤ 5 := by
 unfold row7 at h
 obtain ⟨h1, h2⟩ := List.mem_filter.1 h
 obtain ⟨i, _, rfl⟩ := List.mem_map.1 h1
 have h3 := tmod_lim (nth ls i) (m := 8) (by decide)
 have h4 := tmod_lim (nth ks i) (m := 6) (by decide)
 refine ⟨by simpa using h2, ?_, ?_, ?_, ?_⟩
 ·show -7 ≤ Int.tmod (nth ls i) 8; omega
 ·show Int.tmod (nth ls i) 8 ≤ 7; omega
 ·show -5 ≤ (if i < ks.length then Int.tmod (nth ks i) 6 else 1); split <;> omega
 ·show (if i < ks.length then Int.tmod (nth ks i) 6 else 1) ≤ 5; split <;> omega
theorem small7_mem {lls kks : List (List Int)} {bs : List Int} {k : Nat} {p : Pb} (h : p ∈ small7 lls kks bs k) : p.Ok ∧ ∀ l ∈ p.lits, l.natAbs ≤ 7 := by
 unfold small7 at h
 obtain ⟨q, h1, rfl⟩ := List.mem_map.1 h
 obtain ⟨h1, h2⟩ := List.mem_filter.1 h1
 obtain ⟨i, _, rfl⟩ := List.mem_map.1 h1
 have h2 : (sm7 lls kks bs i).2 = 0 := by simpa using h2
 unfold sm7 at h2 ⊢
 have hok : normOk ((rw7 lls kks i).map Prod.fst) ((rw7 lls kks i).map Prod.snd) (bd7 bs i) = true := by
  rw [← Bool.not_eq_false]
  intro hf
  unfold normed at h2
  rw [if_pos hf] at h2
  exact absurd h2 (by decide)
 refine ⟨(Pb.ok_iff _).1 (norm_valid hok h2), fun l hl => ?_⟩
 obtain ⟨x, hx, e⟩ := norm_lits hl
 obtain ⟨p, hp, rfl⟩ := List.mem_map.1 hx
 have := row7_mem hp
 omega
theorem Pb.Ok.i64 {p : Pb} (h : p.Ok) : ∀ k ∈ p.coefs, I64 k := by
 intro k hk
 obtain ⟨j, hj, e⟩ := List.getElem_of_mem hk
 have h1 := h.coef j (by rw [h.len]; exact hj)
 rw [nth_eq hj, e] at h1
 have := h.high
 unfold I64
 omega
structure Dbg (w0 : Nat) (G : Nat → Prop) (W : World) (A : Option Addr) (n c : Nat) (ts : List (Value × Value × Value)) (s : List Pb) : Prop where
 len : s.length = n
 own : Own W (fun g => w0 ≤ g) 41 3 (.slice A n c) n (flat3 ts)
 ps : Ps W (fun g => G g ∧ ¬ row (.slice A n c) g) ts s
section
variable {w0 : Nat} {G : Nat → Prop} {W W' : World} {A : Option Addr} {n c : Nat} {ts : List (Value × Value × Value)} {s : List Pb}
theorem Dbg.nil (w0 : Nat) (G : Nat → Prop) (W : World) : Dbg w0 G W none 0 0 [] [] := ⟨rfl, Own.nil _ _ _ _, Ps.nil _ _⟩
theorem Dbg.below (h : Dbg w0 G W A n c ts s) (b : Below W.heap.size W W') : Dbg w0 G W' A n c ts s := ⟨h.len, h.own.below b, h.ps.below b⟩
theorem Dbg.rd (h : Dbg w0 G W A n c ts s) : PsRd W (fun g => w0 ≤ g) (fun g => G g) A n c s := ⟨ts, h.own.rd, h.ps.mono fun _ _ h => h.1, h.len⟩
theorem Dbg.row (h : Dbg w0 G W A n c ts s) {g : Nat} (hr : Go.Proofs.YtcjmpobccbnpkaaGreat.row (.slice A n c) g) : w0 ≤ g ∧ g < W.heap.size := by
 obtain ⟨h1, cur, h2⟩ := h.own.row hr
 exact ⟨h1, lt_of_block h2⟩
theorem Dbg.push (h : Dbg w0 G W A n c ts s) (hw : w0 ≤ W.heap.size) {A' : Option Addr} {c' : Nat} {t : Value × Value × Value} {p : Pb} (ho : Own W' (fun b => w0 ≤ b ∨ W.heap.size ≤ b) 41 3 (.slice A' (n + 1) c') (n + 1) (flat3 ts ++ [t.1, t.2.1, t.2.2]))
  (hm : Mod (Go.Proofs.YtcjmpobccbnpkaaGreat.row (.slice A n c)) W W') (hr : ∀ b, Go.Proofs.YtcjmpobccbnpkaaGreat.row (.slice A' (n + 1) c') b → Go.Proofs.YtcjmpobccbnpkaaGreat.row (.slice A n c) b ∨ W.heap.size ≤ b) (hp : PbRd W (fun g => G g ∧ ¬ Go.Proofs.YtcjmpobccbnpkaaGreat.row (.slice A n c) g) (agg3 t) p) :
  Dbg w0 G W' A' (n + 1) c' (ts ++ [t]) (s ++ [p]) ∧ Below w0 W W' := by
 refine ⟨⟨by simp [h.len], ?_, ?_⟩, below_mod (Below.refl _ _) hw hm fun g hg => (h.row hg).1⟩
 ·rw [flat3_append]
  exact ho.mono fun g _ _ hg => hg.elim id fun e => by omega
 ·exact (((h.ps.snoc hp).mono (G := fun g => (G g ∧ ¬ Go.Proofs.YtcjmpobccbnpkaaGreat.row (.slice A' (n + 1) c') g) ∧ ¬ Go.Proofs.YtcjmpobccbnpkaaGreat.row (.slice A n c) g) fun g hg h2 => ⟨⟨h2.1, fun e => (hr g e).elim h2.2 fun e2 => by omega⟩, h2.2⟩).mod hm fun g _ h2 => h2.2).mono fun g _ h2 => h2.1
end
def GivesPs (w w' : World) (r : Ending) (ps : List Pb) : Prop := (∃ A n c ts, r = .returned (.slice A n c) ∧ Dbg w.heap.size (fun g => w.heap.size ≤ g) w' A n c ts ps) ∧ Below w.heap.size w w'
theorem below_on {w0 : Nat} {w W W' : World} (h : Below w0 w W) (hs : w0 ≤ w.heap.size) (b : Below W.heap.size W W') : Below w0 w W' := h.trans (b.mono (Nat.le_trans hs h.size))
theorem slices_to {A : Option Addr} {n c i : Nat} (hA : 0 < n → ∃ g o, A = some ⟨g, o, none⟩) (hi : i ≤ n) (hc : n ≤ c) :
  ∃ A', (0 < n → A' = A) ∧ ∀ W : World, (Instr.slice 22 (.slice A n c) none (some (.int .i64 (i : Int))) none).run Tryz.prog W = .ok (.slice A' i c) W := by
 have h1 : (0 : Int) ≤ (i : Int) ∧ (i : Int) ≤ (c : Int) := by omega
 refine ⟨if c = 0 then A else A.map (·.add (0 * 1)), fun hp => ?_, fun W => by simp [Instr.slice, Instr.sliceBounds, Instr.sliceBound, run_underlying Tryz.underlying22, asIntOf, h1, Tryz.sizeOf23]; exact fun h => absurd h (by omega)⟩
 obtain ⟨g, o, rfl⟩ := hA hp
 rw [if_neg (by omega)]
 simp [addr_add]
theorem rd_spot {w : World} {F : Nat → Prop} {k : Nat} {A : Option Addr} {n c : Nat} {xs : List Value} (h : Rd w F k (.slice A n c) n xs) : n ≤ c ∧ c ≤ maxLen ∧ (0 < n → ∃ g o, A = some ⟨g, o, none⟩) := by
 obtain ⟨_, A', c', hv, hc, hm, hA⟩ := h
 injection hv with h1 _ h3
 subst h1 h3
 refine ⟨hc, hm, fun hp => ?_⟩
 obtain ⟨g, o, e, _⟩ := hA hp
 exact ⟨g, o, e⟩
theorem LsRd.to {w : World} {F : Nat → Prop} {A A' : Option Addr} {n c i : Nat} {lls : List (List Int)} (h : LsRd w F A n c lls) (hi : i ≤ n) (hA : 0 < n → A' = A) : LsRd w F A' i c (lls.take i) := by
 obtain ⟨rows, h1, h2, h3⟩ := h
 refine ⟨rows.take i, rd_to h1 hi hA, by simp; omega, fun j l hl => ?_⟩
 rw [List.getElem?_take] at hl
 split at hl
 ·rename_i hj
  obtain ⟨R, d, h4, h5⟩ := h3 j l hl
  exact ⟨R, d, by rw [List.getElem?_take, if_pos hj]; exact h4, h5⟩
 ·cases hl
theorem LsRd.spot {w : World} {F : Nat → Prop} {A : Option Addr} {n c : Nat} {lls : List (List Int)} (h : LsRd w F A n c lls) : n ≤ c ∧ c ≤ maxLen ∧ (0 < n → ∃ g o, A = some ⟨g, o, none⟩) := by
 obtain ⟨rows, h1, _⟩ := h
 exact rd_spot h1
end
section
open Go.RowKit
def GivesPb (w w' : World) (r : Ending) (c : Pb) : Prop := (∃ A n d B m e, r = .returned (.agg #[.slice A n d, .slice B m e, .int .i64 c.bound]) ∧ PbRd w' (fun g => w.heap.size ≤ g) (.agg #[.slice A n d, .slice B m e, .int .i64 c.bound]) c) ∧ Below w.heap.size w w'
theorem run_min (a b : Int) (w : World) : (Builtin.min_ #[3, 3] 3 #[.int .i64 a, .int .i64 b]).run Tryz.prog w = .ok (.int .i64 (min a b)) w := by
 unfold Builtin.min_
 simp only [go_sem, List.foldlM, Builtin.min2]
 by_cases h : b < a
 ·have e : min a b = b := by omega
  rw [e]
  simp [h, go_sem]
 ·have e : min a b = a := by omega
  rw [e]
  simp [h, go_sem]
theorem own_lit (w : World) (xs : List Int) (h0 : 0 < xs.length) (hn : xs.length ≤ 1000000) : Own (w.alloc (.cells (ints xs).toArray 3)) (fun g => g = w.heap.size) 3 1 (.slice (some ⟨w.heap.size, 0, none⟩) xs.length xs.length) xs.length (ints xs) :=
 own_new w _ 3 1 xs.length _ xs.length _ (by simp [ints]) (by omega) (Nat.le_refl _) (by unfold maxLen; omega) (by simp [ints]) (by rw [List.toList_toArray, Nat.mul_one]; exact List.take_of_length_le (by simp [ints])) rfl
section
variable {w w' : World} {F G : Nat → Prop} {eb tb : Nat} {E : Eng} {T : Tr}
theorem EngTr.mod (h : EngTr w F eb tb E T) (hm : Mod G w w') (hFG : ∀ g, g < w.heap.size → F g → ¬ G g) : EngTr w' F eb tb E T := by
 obtain ⟨Fe, Ft, h1, h2, h3, h4, h5⟩ := h
 exact ⟨Fe, Ft, h1.mod hm fun g hg hf => hFG g hg (h3 g hf), h2.mod hm fun g hg hf => hFG g hg (h4 g hf), h3, h4, h5⟩
theorem EngTr.restrict (h : EngTr w F eb tb E T) : EngTr w (fun g => F g ∧ g < w.heap.size) eb tb E T := by
 obtain ⟨Fe, Ft, ⟨ok, m, es, clock, vl, vs, ts, h1⟩, h2, h3, h4, h5⟩ := h
 exact ⟨_, _, ⟨ok, m, es, clock, vl, vs, ts, h1.restrict⟩, h2.restrict, fun g hg => ⟨h3 g hg.1, hg.2⟩, fun g hg => ⟨h4 g hg.1, hg.2⟩, fun g hg hf => h5 g hg.1 hf.1⟩
theorem EngTr.trail (h : EngTr w F eb tb E T) : Trail w F tb T := by
 obtain ⟨Fe, Ft, h1, h2, h3, h4, h5⟩ := h
 exact h2.mono h4
theorem EngTr.engine (h : EngTr w F eb tb E T) : Engine w F eb E := by
 obtain ⟨Fe, Ft, h1, h2, h3, h4, h5⟩ := h
 exact h1.mono h3
theorem EngTr.stepT (h : EngTr w F eb tb E T) : ∃ Ft, Trail w Ft tb T ∧ (∀ g, Ft g → F g) ∧ ∀ w' T', Trail w' (fun g => Ft g ∨ w.heap.size ≤ g) tb T' → Mod Ft w w' → EngTr w' (fun g => F g ∨ w.heap.size ≤ g) eb tb E T' := by
 obtain ⟨Fe, Ft, h1, h2, h3, h4, h5⟩ := h.restrict
 refine ⟨Ft, h2, fun g hg => (h4 g hg).1, fun w' T' ht hm => ⟨Fe, _, h1.mod hm fun g _ hf => h5 g hf, ht, fun g hg => .inl (h3 g hg).1, fun g hg => hg.elim (fun hg => .inl (h4 g hg).1) .inr, fun g hg hf => hf.elim (h5 g hg) fun hf => ?_⟩⟩
 have := (h3 g hg).2
 omega
theorem EngTr.stepE (h : EngTr w F eb tb E T) : ∃ Fe, Engine w Fe eb E ∧ (∀ g, Fe g → F g) ∧ ∀ w' E', Engine w' (fun g => Fe g ∨ w.heap.size ≤ g) eb E' → Mod Fe w w' → EngTr w' (fun g => F g ∨ w.heap.size ≤ g) eb tb E' T := by
 obtain ⟨Fe, Ft, h1, h2, h3, h4, h5⟩ := h.restrict
 refine ⟨Fe, h1, fun g hg => (h3 g hg).1, fun w' E' he hm => ⟨_, Ft, he, h2.mod hm fun g _ hf hg => h5 g hg hf, fun g hg => hg.elim (fun hg => .inl (h3 g hg).1) .inr, fun g hg => .inl (h4 g hg).1, fun g hg hf => hg.elim (fun hg => h5 g hg hf) fun hg => ?_⟩⟩
 have := (h4 g hf).2
 omega
theorem etr_decide (h : EngTr w F eb tb E T) {l : Int} (hl : I64 l) :
  Calls Tryz.prog 99 #[.pointer (some ⟨tb, 0, none⟩), .int .i64 l] w fun r w' => r = .returned (.int .i64 (err (T.freeB l))) ∧ EngTr w' (fun g => F g ∨ w.heap.size ≤ g) eb tb E (T.dec l) ∧ Mod F w w' := by
 obtain ⟨Ft, ht, hF, hk⟩ := h.stepT
 refine (decide_e ht hl).mono ?_
 rintro r w' ⟨rfl, h1, h2⟩
 exact ⟨rfl, hk _ _ h1 h2, h2.mono fun g _ hg => hF g hg⟩
theorem etr_add (h : EngTr w F eb tb E T) {v : Value} {c : Pb} (hc : PbRd w G v c) (hic : ∀ k ∈ c.coefs, I64 k) (hGF : ∀ g, G g → ¬ F g) (hlen : E.cs.length ≤ 500000) :
  Calls Tryz.prog 42 #[.pointer (some ⟨eb, 0, none⟩), v] w fun r w' => r = .returned (.int .i64 (if E.fits c = true then 0 else 2)) ∧ EngTr w' (fun g => F g ∨ w.heap.size ≤ g) eb tb (if E.fits c = true then E.add c else E) T ∧ Mod F w w' := by
 obtain ⟨Fe, he, hF, hk⟩ := h.stepE
 refine (eadd_any he hc hic (fun g hg hf => hGF g hg (hF g hf)) hlen).mono ?_
 rintro r w' ⟨rfl, h1, h2⟩
 exact ⟨rfl, hk _ _ h1 h2, h2.mono fun g _ hg => hF g hg⟩
theorem ps_two {W : World} {Z : Nat} {x y x' y' : Value} {b b' : Int} {p p' : Pb} (k : W.heap[Z]? = some (.cells #[x, y, .int .i64 b, x', y', .int .i64 b'] 41)) (hp : PbRd W G (agg3 (x, y, .int .i64 b)) p) (hp' : PbRd W G (agg3 (x', y', .int .i64 b')) p') :
  PsRd W (fun g => g = Z) G (some ⟨Z, 0, none⟩) 2 2 [p, p'] := by
 refine ⟨[(x, y, .int .i64 b), (x', y', .int .i64 b')], ⟨rfl, _, _, rfl, Nat.le_refl _, by decide, fun _ => ⟨Z, 0, rfl, rfl, lt_of_block k, fun j u hj => ?_⟩⟩, ((Ps.nil W G).snoc hp).snoc hp', rfl⟩
 rw [Nat.zero_add, cell_of_row _ _ _ _ _ _ k]
 rw [← hj]
 simp [flat3]
theorem lit_step (W : World) (xs : List Int) (h0 : 0 < xs.length) (hn : xs.length ≤ 1000000) : ∃ X, W.alloc (.cells (ints xs).toArray 3) = X ∧ Below W.heap.size W X ∧ Rd X (fun g => g = W.heap.size) 1 (.slice (some ⟨W.heap.size, 0, none⟩) xs.length xs.length) xs.length (ints xs) ∧ X.heap.size = W.heap.size + 1 :=
 ⟨_, rfl, (Below.refl _ _).alloc (Nat.le_refl _) _, (own_lit W xs h0 hn).rd, World.size_alloc _ _⟩
end
theorem cAt_of_mem {cs : List Pb} {c : Pb} (h : c ∈ cs) : ∃ j, j < cs.length ∧ cAt cs j = c := by
 obtain ⟨j, hj, e⟩ := List.getElem_of_mem h
 exact ⟨j, hj, by simp [cAt, hj, e]⟩
theorem calm_all {cs : List Pb} {Y : List Int} (h : ∀ j, j < cs.length → (cAt cs j).Calm Y) : ∀ c ∈ cs, c.Calm Y := fun c hc => by
 obtain ⟨j, hj, rfl⟩ := cAt_of_mem hc
 exact h j hj
inductive PropR (E : Eng) (T : Tr) : Eng → Tr → Value → Bool → Prop
 | calm (A : Option Addr) (c : Nat) (xs : List Nat) (h1 : ∀ i ∈ xs, i < E.cs.length) (h2 : fineX E.cs T.lits xs) (h3 : ∀ j, j < E.cs.length → (cAt E.cs j).Calm (runX E.cs T.lits xs)) :
   PropR E T { E with seen := runX E.cs T.lits xs, done := E.cs.length } (T.exams E.cs xs) (.slice A 0 c) false
 | bad (u : Value) (xs : List Nat) (i : Nat) (h1 : ∀ i ∈ xs, i < E.cs.length) (h2 : fineX E.cs T.lits xs) (h3 : i < E.cs.length) (h4 : (cAt E.cs i).slackX (runX E.cs T.lits xs) < 0) :
   PropR E T { E with seen := [], done := 0 } (T.exams E.cs xs) u true
section
variable {E E' : Eng} {T T' : Tr} {v : Value} {b : Bool}
end
section
variable {E E' : Eng} {T T' : Tr} {v : Value} {b : Bool}
end
end
section
section
open Go.RowKit
theorem info_st : (Tryz.prog.info? 52).map (fun i => (i.zero, i.size, i.bytes)) = some (some (.agg #[.int .u8 0, .slice none 0 0, .slice none 0 0, .int .i64 0, .slice none 0 0, .slice none 0 0]), 6, 112) := by kernel_rfl
structure Six where
 k : Value
 a : Value
 b : Value
 z : Value
 s : Value
 o : Value
def Six.cells (t : Six) : List Value := [t.k, t.a, t.b, t.z, t.s, t.o]
def Six.agg (t : Six) : Value := .agg #[t.k, t.a, t.b, t.z, t.s, t.o]
def flat6 (ts : List Six) : List Value := ts.flatMap Six.cells
theorem flat6_append (xs ys : List Six) : flat6 (xs ++ ys) = flat6 xs ++ flat6 ys := by simp [flat6]
theorem flat6_one (t : Six) : flat6 [t] = t.cells := by simp [flat6]
theorem flat6_get : ∀ (ts : List Six) (i : Nat) (p : Six), ts[i]? = some p → ∀ j, j < 6 → (flat6 ts)[i * 6 + j]? = p.cells[j]?
 |q :: ts, 0, p, h, j, hj => by
  obtain rfl := Option.some.inj h
  have e : flat6 (q :: ts) = q.cells ++ flat6 ts := rfl
  rw [e, Nat.zero_mul, Nat.zero_add, List.getElem?_append_left (by simpa [Six.cells] using hj)]
 |q :: ts, i + 1, p, h, j, hj => by
  have e : flat6 (q :: ts) = q.cells ++ flat6 ts := rfl
  have hl : q.cells.length = 6 := rfl
  rw [e, List.getElem?_append_right (by rw [hl]; omega), hl, show (i + 1) * 6 + j - 6 = i * 6 + j by omega]
  exact flat6_get ts i p (by simpa using h) j hj
structure Stp where
 kind : Nat
 c : Pb
 set : List Int
def StRd (w : World) (G : Nat → Prop) (t : Six) (s : Stp) : Prop := ∃ A n d B m e C f, t = ⟨.int .u8 s.kind, .slice A n d, .slice B m e, .int .i64 s.c.bound, .slice C s.set.length f, (.slice none 0 0)⟩ ∧ PbRd w G (.agg #[.slice A n d, .slice B m e, .int .i64 s.c.bound]) s.c ∧ Rd w G 1 (.slice C s.set.length f) s.set.length (ints s.set)
section
variable {w w' : World} {F G H : Nat → Prop} {t : Six} {s : Stp}
theorem StRd.below (h : StRd w G t s) (hb : Below w.heap.size w w') : StRd w' G t s := by
 obtain ⟨A, n, d, B, m, e, C, f, h0, h1, h2⟩ := h
 exact ⟨A, n, d, B, m, e, C, f, h0, h1.below hb, h2.below hb⟩
theorem StRd.mono (h : StRd w F t s) (hFG : ∀ g, g < w.heap.size → F g → G g) : StRd w G t s := by
 obtain ⟨A, n, d, B, m, e, C, f, h0, h1, h2⟩ := h
 exact ⟨A, n, d, B, m, e, C, f, h0, h1.mono hFG, h2.mono hFG⟩
theorem StRd.mod (h : StRd w F t s) (hm : Mod G w w') (hFG : ∀ g, g < w.heap.size → F g → ¬ G g) : StRd w' F t s := by
 obtain ⟨A, n, d, B, m, e, C, f, h0, h1, h2⟩ := h
 exact ⟨A, n, d, B, m, e, C, f, h0, h1.mod hm hFG, h2.mod hm hFG⟩
end
def Sts (w : World) (G : Nat → Prop) (ts : List Six) (ss : List Stp) : Prop := ts.length = ss.length ∧ ∀ (i : Nat) (t : Six) (s : Stp), ts[i]? = some t → ss[i]? = some s → StRd w G t s
section
variable {w w' : World} {F G H : Nat → Prop} {ts : List Six} {ss : List Stp}
theorem Sts.nil (w : World) (G : Nat → Prop) : Sts w G [] [] := ⟨rfl, fun i t p h => by simp at h⟩
theorem Sts.below (h : Sts w G ts ss) (hb : Below w.heap.size w w') : Sts w' G ts ss := ⟨h.1, fun i t p h1 h2 => (h.2 i t p h1 h2).below hb⟩
theorem Sts.mono (h : Sts w F ts ss) (hFG : ∀ g, g < w.heap.size → F g → G g) : Sts w G ts ss := ⟨h.1, fun i t p h1 h2 => (h.2 i t p h1 h2).mono hFG⟩
theorem Sts.mod (h : Sts w F ts ss) (hm : Mod G w w') (hFG : ∀ g, g < w.heap.size → F g → ¬ G g) : Sts w' F ts ss := ⟨h.1, fun i t p h1 h2 => (h.2 i t p h1 h2).mod hm hFG⟩
theorem Sts.snoc (h : Sts w G ts ss) {t : Six} {s : Stp} (hp : StRd w G t s) : Sts w G (ts ++ [t]) (ss ++ [s]) := by
 refine ⟨by simp [h.1], fun i t' p' h1 h2 => ?_⟩
 rcases Nat.lt_or_ge i ts.length with e | e
 ·rw [List.getElem?_append_left e] at h1
  rw [List.getElem?_append_left (by rw [← h.1]; exact e)] at h2
  exact h.2 i t' p' h1 h2
 ·rw [List.getElem?_append_right e] at h1
  rw [List.getElem?_append_right (by rw [← h.1]; exact e)] at h2
  have hi : i - ts.length = 0 := by
   have := (List.getElem?_eq_some_iff.1 h1).1
   simp at this
   omega
  rw [hi] at h1
  rw [show i - ss.length = 0 by rw [← h.1]; exact hi] at h2
  simp at h1 h2
  rw [← h1, ← h2]
  exact hp
end
def StsRd (w : World) (F G : Nat → Prop) (A : Option Addr) (n c : Nat) (ss : List Stp) : Prop := ∃ ts, Rd w F 6 (.slice A n c) n (flat6 ts) ∧ Sts w G ts ss ∧ ss.length = n
section
variable {w w' : World} {F G F' G' H : Nat → Prop} {A : Option Addr} {n c : Nat} {ss : List Stp}
theorem StsRd.below (h : StsRd w F G A n c ss) (hb : Below w.heap.size w w') : StsRd w' F G A n c ss := by
 obtain ⟨ts, h1, h2, h3⟩ := h
 exact ⟨ts, h1.below hb, h2.below hb, h3⟩
theorem StsRd.mono (h : StsRd w F G A n c ss) (hF : ∀ g, g < w.heap.size → F g → F' g) (hG : ∀ g, g < w.heap.size → G g → G' g) : StsRd w F' G' A n c ss := by
 obtain ⟨ts, h1, h2, h3⟩ := h
 exact ⟨ts, h1.mono hF, h2.mono hG, h3⟩
theorem StsRd.cells (h : StsRd w F G A n c ss) {i : Nat} (hi : i < n) : ∃ g o s t, A = some ⟨g, o, none⟩ ∧ F g ∧ g < w.heap.size ∧ ss[i]? = some s ∧ StRd w G t s ∧ ∀ j u, t.cells[j]? = some u → w.cell? ⟨g, o + i * 6 + j, none⟩ = some u := by
 obtain ⟨ts, ⟨hl, A', c', hv, _, _, hA⟩, hp, hn⟩ := h
 injection hv with h1 _ _
 subst h1
 obtain ⟨g, o, rfl, hF, hg, hc⟩ := hA (by omega)
 have hl3 := hp.1
 have hq : ss[i]? = some (ss[i]'(by omega)) := List.getElem?_eq_getElem (by omega)
 have ht : ts[i]? = some (ts[i]'(by omega)) := List.getElem?_eq_getElem (by omega)
 refine ⟨g, o, _, _, rfl, hF, hg, hq, hp.2 i _ _ ht hq, fun j u hj => ?_⟩
 have hj6 : j < 6 := by have := (List.getElem?_eq_some_iff.1 hj).1; simpa [Six.cells] using this
 have := flat6_get ts i _ ht j hj6
 rw [Nat.add_assoc]
 exact hc _ _ (this.trans hj)
end
end
section
open Go.RowKit
theorem wp_append_st {o : Oper} {a : Act} {w : World} {K : Act → World → Prop} {Q : Exit → Act → World → Prop} (s x : Operand)
  (ho : o.op = .call { callee := .builtin .append, args := #[s, x], argTypes := #[29, 29] }) {F G : Nat → Prop} {v u : Value} {n m : Nat} {xs ys : List Value}
  (hv : Own w F 52 6 v n xs) (hu : Rd w G 6 u m ys) (hs : a.eval s = v) (hx : a.eval x = u) (h1 : ∀ u ∈ ys, u.oneCell' = true) (hb : n + m ≤ 1000000)
  (hK : ∀ A c w', Own w' (fun b => F b ∨ w.heap.size ≤ b) 52 6 (.slice A (n + m) c) (n + m) (xs ++ ys) → Mod (row v) w w' → (∀ b, row (.slice A (n + m) c) b → row v b ∨ w.heap.size ≤ b) → K (a.put o.dst (.slice A (n + m) c)) w') : o.wp Tryz.prog a w K Q := by
 obtain ⟨i0, hi, hz0, hz1, hz2⟩ := info_parts info_st
 obtain ⟨v', w', hr, h2, h3, h4⟩ := run_append_rd (P := Tryz.prog) 29 o.type i0 (.agg #[.int .u8 0, .slice none 0 0, .slice none 0 0, .int .i64 0, .slice none 0 0, .slice none 0 0]) 112 Tryz.underlying29 hi hz0 hz1 hz2 rfl (by decide) hv hu h1 (by unfold maxLen; omega) (by omega)
 unfold Oper.wp execOp
 simp only [ho, resolve, invoke, builtin, Sem.run_bind, Sem.run_pure, Result.andThen_ok, List.map_toArray, List.map_cons, List.map_nil, hs, hx, hr]
 obtain ⟨A, c, rfl, _⟩ := h2.form
 exact hK A c w' h2 h3 h4
theorem step_append_st {ops : Array Oper} {o : Oper} {a : Act} {w : World} {K : Act → World → Prop} {Q : Exit → Act → World → Prop} {E : Prop} (hgd : o.guard = none) (s x : Operand)
  (ho : o.op = .call { callee := .builtin .append, args := #[s, x], argTypes := #[29, 29] }) {F G : Nat → Prop} {v u : Value} {n m : Nat} {xs ys : List Value}
  (hv : Own w F 52 6 v n xs) (hu : Rd w G 6 u m ys) (hs : a.eval s = v) (hx : a.eval x = u) (h1 : ∀ u ∈ ys, u.oneCell' = true) (hb : n + m ≤ 1000000)
  (hK : ∀ A c w', Own w' (fun b => F b ∨ w.heap.size ≤ b) 52 6 (.slice A (n + m) c) (n + m) (xs ++ ys) → Mod (row v) w w' → (∀ b, row (.slice A (n + m) c) b → row v b ∨ w.heap.size ≤ b) → K (a.put o.dst (.slice A (n + m) c)) w') :
  if Region.wanted o (yielded ops a.tmps) = true then Oper.wp Tryz.prog o a w K Q else E := by
 have hw : Region.wanted o (yielded ops a.tmps) = true := by simp [Region.wanted, hgd]
 rw [if_pos hw]
 exact wp_append_st s x ho hv hu hs hx h1 hb hK
theorem rd_lit6 {w : World} {Z : Nat} {t : Six} (k : w.heap[Z]? = some (.cells t.cells.toArray 52)) : Rd w (fun g => g = Z) 6 (.slice (some ⟨Z, 0, none⟩) 1 1) 1 t.cells := by
 refine ⟨rfl, _, _, rfl, Nat.le_refl _, by decide, fun _ => ⟨Z, 0, rfl, rfl, lt_of_block k, fun j u hj => ?_⟩⟩
 rw [Nat.zero_add, cell_of_row _ _ _ _ _ _ k]
 rw [← hj]
 simp
end
end
end Go.Proofs.YtcjmpobccbnpkaaGreat
