/-
 Chapter 32: several texts in one (SgB SgC SgD).
-/
import Derived.Test.YtcjmpobccbnpkaaGreatMjbp
import Derived.Test.YtcjmpobccbnpkaaGreatMjaq
import Derived.Test.YtcjmpobccbnpkaaGreatMjas
import Derived.Test.YtcjmpobccbnpkaaGreatMjbe
namespace Go.Proofs.YtcjmpobccbnpkaaGreat
set_option maxRecDepth 100000
set_option maxHeartbeats 4000000
section
open Go.RowKit
theorem mk_i8s7 (W : World) : (Instr.makeSlice 33 (.int .i64 7) (.int .i64 7)).run Tryz.prog W = .ok (.slice (some ⟨W.heap.size, 0, none⟩) 7 7) (W.alloc (.cells (madeCells #[.int .i8 0] 7) 70)) :=
 run_make_row' (P := Tryz.prog) 33 70 (.int .i8 0) 1 Tryz.underlying33 info_i8 rfl .i64 .i64 7 (by omega) (by omega) W
theorem own_i8s7 (w : World) : Own (w.alloc (.cells (madeCells #[.int .i8 0] 7) 70)) (fun g => g = w.heap.size) 70 1 (.slice (some ⟨w.heap.size, 0, none⟩) 7 7) 7 (i8s (List.replicate 7 0)) := by
 have e : i8s (List.replicate 7 0) = List.replicate 7 (Value.int .i8 0) := by simp [i8s]
 rw [e]
 exact own_new w _ 70 1 7 _ 7 _ (by simp) (by omega) (Nat.le_refl _) (by unfold maxLen; omega) (by simp [size_madeCells]) (by rw [toList_madeCells_one, Nat.mul_one, List.take_replicate, Nat.min_self]) rfl
def bit7 (b : Int) (i : Nat) : Int := IntKind.i8.wrap (IntKind.i8.wrap (IntKind.i8.wrap (bits BinOp.and IntKind.i64 (b / 2 ^ i) 1) * 2) - 1)
def totUp7 (b : Int) (j : Nat) : List Int := (List.range 7).map fun i => if i < j then bit7 b i else 0
theorem totUp7_len (b : Int) (j : Nat) : (totUp7 b j).length = 7 := by simp [totUp7]
theorem totUp7_nth (b : Int) (j : Nat) {i : Nat} (hi : i < 7) : nth (totUp7 b j) i = if i < j then bit7 b i else 0 := by
 rw [nth_eq (by rw [totUp7_len]; exact hi)]
 simp [totUp7]
theorem bit7_all : (List.range 128).all (fun b => (List.range 7).all fun i => bit7 (b : Int) i == (if (b : Int) / 2 ^ i % 2 = 1 then 1 else -1)) = true := by kernel_rfl
theorem bit7_is {b i : Nat} (hb : b < 128) (hi : i < 7) : bit7 (b : Int) i = if (b : Int) / 2 ^ i % 2 = 1 then 1 else -1 := by
 have h := List.all_eq_true.1 bit7_all b (List.mem_range.2 hb)
 have h2 := List.all_eq_true.1 h i (List.mem_range.2 hi)
 exact eq_of_beq h2
theorem tot7_ne {b : Nat} (hb : b < 128) : ∀ i, i < 7 → nth (totUp7 (b : Int) 7) i ≠ 0 := by
 intro i hi
 rw [totUp7_nth _ _ hi, if_pos hi, bit7_is hb hi]
 split <;> decide
def finL (av : List Int) (x : Int) : Bool := !((decide (0 < x) && decide (nth av (x.natAbs - 1) < 0)) || (decide (x < 0) && decide (0 < nth av (x.natAbs - 1))))
def fineB (ps : List Pb) (ls av : List Int) : Bool := ps.all (fun p => p.holdsB av) && ls.all (finL av)
def modelsN (ps : List Pb) (ls : List Int) (j : Nat) : Nat := (List.range j).countP fun b : Nat => fineB ps ls (totUp7 (b : Int) 7)
end
section
open Go.RowKit
theorem loaded32_any {w : World} {F G : Nat → Prop} {A : Option Addr} {n m c : Nat} {ps : List Pb} (hp : PsRd w F G A m c ps) (hi : ∀ p ∈ ps, ∀ k ∈ p.coefs, I64 k) (hfit : ∀ p ∈ ps, fitsB n p = true) (hn : n ≤ 8) (hm : m ≤ 100000) :
  Calls Tryz.prog 15 #[.int .i64 n, .slice A m c] w fun r w' => (∃ sb, r = .returned (.tuple #[.pointer (some ⟨sb, 0, none⟩), .bool true]) ∧ ∃ tb eb ob pm S, SolP w' (fun g => w.heap.size ≤ g) sb tb eb ob pm S ∧ Base n S ∧ S.E.cs = ps ∧ S.log = []) ∧ Below w.heap.size w w' := by
 have hpl : ps.length = m := by obtain ⟨_, _, _, h⟩ := hp; exact h
 have HP := hid (hp.mono (F' := fun g => g < w.heap.size) (G' := fun g => g < w.heap.size) (fun g hg _ => hg) fun g hg _ => hg)
 have Hi := hid hi
 have Hfit := hid hfit
 have Hpl := hid hpl
 clear hp hi hfit hpl
 go_enter Tryz.func15, Tryz.ntmps15
 go_wp2_with fail
 refine (snew_any (n := n) (by omega)).mono ?_
 rintro r w1 ⟨⟨sb, rfl, tb, eb, ob, pm, h1⟩, b1⟩
 have s1 := b1.size
 have H1 := hid h1
 have B1 := hid b1
 have HP1 := hid (HP.o.below b1)
 clear h1 b1
 go_wp2_with fail
 go_loopw [19] (fun iv W => ∃ (k : Nat) (S : Sol), k ≤ m ∧ iv = .int .i64 k ∧ Hid (SolP W (fun g => w.heap.size ≤ g) sb tb eb ob pm S ∧ Base n S ∧ S.E.cs = ps.take k ∧ S.log = []) ∧ Hid (Below w.heap.size w W)) (fun iv _ => m - (intOf iv).toNat)
 case atStart => exact ⟨0, _, Nat.zero_le _, rfl, ⟨H1.o, Base.new hn, rfl, rfl⟩, B1⟩
 case round =>
  obtain ⟨k, S, hk, rfl, HS, HB⟩ := hrel
  by_cases hlt : k < m
  ·have x1 : (k : Int) < (m : Int) := by omega
   have HPk := hid (HP.o.below HB.o)
   obtain ⟨gA, oA, p, A1, n1, c1, A2, n2, c2, rfl, hgF, hgl, hpk, e0, e1, e2, hp⟩ := HPk.o.cells hlt
   obtain ⟨X1, hX1, bX1, kX1, sX1⟩ := alloc_step wr (.cells #[.slice A1 n1 c1, .slice A2 n2 c2, .int .i64 p.bound] 41)
   obtain ⟨q0, q1, q2⟩ := box3 kX1
   have hpm := List.mem_of_getElem? hpk
   have hcl : S.E.cs.length ≤ 500000 := by
    rw [HS.o.2.2.1, List.length_take]
    omega
   have hadd := sadd_any (HS.o.1.below bX1) HS.o.2.1 (by omega) (hp.below bX1) (Hi.o p hpm) (fun g (hg : g < w.heap.size) (h : w.heap.size ≤ g) => by omega) hcl
   rw [if_pos (Hfit.o p hpm), if_pos (Hfit.o p hpm)] at hadd
   have Hadd := hid hadd
   have hcs : Hid (S.E.cs ++ [p] = ps.take (k + 1)) := hid (by rw [HS.o.2.2.1, List.take_add_one, hpk]; rfl)
   have BX := hid (HB.o.trans (bX1.mono HB.o.size))
   have Hba := hid (HS.o.2.1.add (Hfit.o p hpm))
   have sX := bX1.size
   have hsz := HB.o.size
   clear hadd hp hpk bX1 kX1 HPk hpm hcl
   go_wp2_with (refine Hadd.o.mono ?_; rintro r W5 ⟨rfl, ⟨F5, h5, hF5⟩, hm5⟩; have H5 := hid h5; have HF5 := hid hF5; have HM5 := hid hm5; clear h5 hF5 hm5)
   go_roundw
   case rel => exact ⟨k + 1, _, by omega, by go_num, hid ⟨H5.o.mono fun g hg => (HF5.o g hg).2.elim id fun h => by omega, Hba.o, hcs.o, HS.o.2.2.2⟩, hid (below_mod BX.o (by omega) HM5.o fun g hg => hg)⟩
   case measure => simp [intOf]; omega
  ·have x1 : ¬ ((k : Int) < (m : Int)) := by omega
   have hcs : S.E.cs = ps := by rw [HS.o.2.2.1, List.take_of_length_le (by rw [Hpl.o]; omega)]
   have Hcs := hid hcs
   clear hcs
   go_wp2_with fail
   go_ret2
   exact ⟨⟨sb, rfl, tb, eb, ob, pm, S, HS.o.1, HS.o.2.1, Hcs.o, HS.o.2.2.2⟩, HB.o⟩
def lits7B (l : List Int) : List Int := (l.take 7).filterMap fun x => if Int.tmod x 8 = 0 then none else some (Int.tmod x 8)
theorem lits7B_ok {l : List Int} : (∀ x ∈ lits7B l, x ≠ 0 ∧ x.natAbs ≤ 7) ∧ (lits7B l).length ≤ 7 := by
 refine ⟨fun x hx => ?_, ?_⟩
 ·obtain ⟨y, _, h⟩ := List.mem_filterMap.1 hx
  split at h
  ·cases h
  ·obtain rfl := Option.some.inj h
   rename_i h0
   refine ⟨h0, ?_⟩
   have h1 := Int.tmod_lt_of_pos y (show (0 : Int) < 8 by omega)
   have h2 := Int.lt_tmod_of_pos y (show (0 : Int) < 8 by omega)
   omega
 ·refine Nat.le_trans (List.length_filterMap_le _ _) ?_
  rw [List.length_take]
  omega
theorem lits7B_snoc (l : List Int) (x : Int) : (l ++ [x]).filterMap (fun x => if Int.tmod x 8 = 0 then none else some (Int.tmod x 8)) = l.filterMap (fun x => if Int.tmod x 8 = 0 then none else some (Int.tmod x 8)) ++ (if Int.tmod x 8 = 0 then [] else [Int.tmod x 8]) := by
 rw [List.filterMap_append]
 congr 1
 by_cases h : Int.tmod x 8 = 0 <;> simp [h]
theorem lits7_any {w : World} {F : Nat → Prop} {A : Option Addr} {n c : Nat} {ls : List Int} (hl : Rd w F 1 (.slice A n c) n (ints ls)) :
  Calls Tryz.prog 19 #[.slice A n c] w fun r w' => (∃ B c', r = .returned (.slice B (lits7B ls).length c') ∧ Rd w' (fun g => w.heap.size ≤ g) 1 (.slice B (lits7B ls).length c') (lits7B ls).length (ints (lits7B ls))) ∧ Below w.heap.size w w' := by
 have hln : ls.length = n := hl.cell.1
 have hncap : (n : Int) ≤ (c : Int) := by
  obtain ⟨_, A2, c2, hv2, h2, _⟩ := hl
  injection hv2 with _ _ h3
  omega
 have hnl := hl.len
 have Hl := hid hl
 have Hln := hid hln
 unfold maxLen at hnl
 obtain ⟨Q, hQ⟩ : ∃ Q : Nat, min n 7 = Q := ⟨_, rfl⟩
 have hmin : ∀ w : World, (Builtin.min_ #[3, 3] 3 #[.int .i64 n, .int .i64 7]).run Tryz.prog w = .ok (.int .i64 Q) w := fun w => by
  rw [run_min]
  congr 2
  omega
 have hq1 : Q ≤ n := by omega
 have hq2 : Q ≤ 7 := by omega
 have hq3 : (Q : Int) ≤ (c : Int) := by omega
 have HQ := hid hQ
 clear hl hln hQ
 go_enter Tryz.func19, Tryz.ntmps19
 go_wp2_with fail
 go_loopw [3, 12] (fun ov jv W => ∃ (j : Nat) (xs : List Int) (X : Option Addr) (cx : Nat), j ≤ Q ∧ jv = .int .i64 j ∧ ov = .slice X xs.length cx ∧ Hid (xs = (ls.take j).filterMap fun x => if Int.tmod x 8 = 0 then none else some (Int.tmod x 8)) ∧ Hid (Own W (fun g => w.heap.size ≤ g) 3 1 (.slice X xs.length cx) xs.length (ints xs)) ∧ Hid (Below w.heap.size w W)) (fun _ jv _ => Q - (intOf jv).toNat)
 case atStart => exact ⟨0, [], none, 0, Nat.zero_le _, rfl, rfl, rfl, Own.nil _ _ _ _, Below.refl _ _⟩
 case round =>
  obtain ⟨j, xs, X, cx, jn, rfl, rfl, Hx, Ho, HB⟩ := hrel
  have hsz := HB.o.size
  by_cases hlt : j < Q
  ·have x1 : (j : Int) < (Q : Int) := by omega
   have hjl : j < ls.length := by rw [Hln.o]; omega
   obtain ⟨g, o, rfl, _, hg, e0⟩ := (Hl.o.below HB.o).cell.2 j (by omega)
   obtain ⟨l, hl⟩ : ∃ l, nth ls j = l := ⟨_, rfl⟩
   have htk := hid (show (ls.take (j + 1)).filterMap (fun x => if Int.tmod x 8 = 0 then none else some (Int.tmod x 8)) = xs ++ (if Int.tmod l 8 = 0 then [] else [Int.tmod l 8]) by rw [take_nth hjl, hl, lits7B_snoc, ← Hx.o])
   have hxl : xs.length ≤ 7 := by
    rw [Hx.o]
    refine Nat.le_trans (List.length_filterMap_le _ _) ?_
    rw [List.length_take]
    omega
   rw [hl] at e0
   have h1 := Int.tmod_lt_of_pos l (show (0 : Int) < 8 by omega)
   have h2 := Int.lt_tmod_of_pos l (show (0 : Int) < 8 by omega)
   clear hl
   by_cases hz : Int.tmod l 8 = 0
   ·rw [if_pos hz, List.append_nil] at htk
    have hzB : (Int.tmod l 8 == 0) = true := by simpa using hz
    go_wp2_with fail
    go_roundw
    case rel => exact ⟨j + 1, xs, X, cx, by omega, by go_num, rfl, hid htk.o.symm, Ho, HB⟩
    case measure => simp [intOf]; omega
   ·rw [if_neg hz] at htk
    have hzB : (Int.tmod l 8 == 0) = false := by simpa using hz
    go_wp2_with (at_builtin; refine wpList_append_ints rfl _ _ rfl (Ho.o.below ((Below.refl _ _).alloc (Nat.le_refl _) _)) (own_one wr (.int .i64 (Int.tmod l 8))).rd rfl rfl (by simp [Value.oneCell']) (by omega) ?_; intro Av cv w9 ho9 hm9 hr9)
    go_roundw
    case rel =>
     refine ⟨j + 1, xs ++ [Int.tmod l 8], Av, cv, by omega, by go_num, by simp, hid htk.o.symm, ?_, ?_⟩
     ·rw [ints_append, List.length_append]
      exact ho9.mono fun g _ _ hg => hg.elim id fun hg => by simp at hg; omega
     ·exact below_mod (HB.o.alloc hsz _) (by simp; omega) hm9 fun g hg => (Ho.o.row hg).1
    case measure => simp [intOf]; omega
  ·have x1 : ¬ ((j : Int) < (Q : Int)) := by omega
   have hxe : xs = lits7B ls := by
    rw [Hx.o]
    unfold lits7B
    congr 1
    have hjQ : j = Q := by omega
    rw [hjQ, ← HQ.o, ← Hln.o]
    rw [Nat.min_comm, ← List.take_take, List.take_length]
   subst hxe
   go_wp2_with fail
   go_ret
   exact ⟨⟨X, cx, rfl, Ho.o.rd⟩, HB.o⟩
end
section
open Go.RowKit
def Hold (s : Int → Bool) (ps : List Pb) : Prop := ∀ p ∈ ps, p.bound ≤ p.total (tr s)
def OkN (n : Nat) (ps : List Pb) : Prop := ∀ p ∈ ps, p.Ok ∧ ∀ l ∈ p.lits, l.natAbs ≤ n
theorem OkN.fits {n : Nat} {ps : List Pb} (h : OkN n ps) : ∀ p ∈ ps, fitsB n p = true := fun p hp => fitsB_iff.2 (h p hp)
theorem finL_tr {av : List Int} {x : Int} (h0 : x ≠ 0) (hv : nth av (x.natAbs - 1) ≠ 0) : finL av x = tr (sOf av) x := by
 unfold finL tr sOf
 by_cases h : 0 < x
 ·have h1 : ¬ x < 0 := by omega
  rw [if_pos h]
  by_cases h2 : 0 < nth av (x.natAbs - 1)
  ·have h3 : ¬ nth av (x.natAbs - 1) < 0 := by omega
   simp [h1, h2, h3]
  ·have h3 : nth av (x.natAbs - 1) < 0 := by omega
   simp [h, h2, h3]
 ·have h1 : x < 0 := by omega
  rw [if_neg h, Int.natAbs_neg]
  simp [h, h1]
theorem fineB_iff {ps : List Pb} {ls av : List Int} (hok : OkN 7 ps) (hls : ∀ x ∈ ls, x ≠ 0 ∧ x.natAbs ≤ 7) (hav : ∀ i, i < 7 → nth av i ≠ 0) :
  fineB ps ls av = true ↔ Hold (sOf av) ps ∧ ∀ x ∈ ls, tr (sOf av) x = true := by
 unfold fineB Hold
 rw [Bool.and_eq_true, List.all_eq_true, List.all_eq_true]
 refine ⟨fun ⟨h1, h2⟩ => ⟨fun p hp => ?_, fun x hx => ?_⟩, fun ⟨h1, h2⟩ => ⟨fun p hp => ?_, fun x hx => ?_⟩⟩
 ·have h3 := h1 p hp
  rw [holds_tr (hok p hp).1 fun j hj => hav _ (by have := (hok p hp).2 _ (nth_mem hj); have := ((hok p hp).1.lit j hj).1; omega)] at h3
  exact of_decide_eq_true h3
 ·have h3 := h2 x hx
  have := hls x hx
  rwa [finL_tr this.1 (hav _ (by omega))] at h3
 ·rw [holds_tr (hok p hp).1 fun j hj => hav _ (by have := (hok p hp).2 _ (nth_mem hj); have := ((hok p hp).1.lit j hj).1; omega)]
  exact decide_eq_true (h1 p hp)
 ·have := hls x hx
  rw [finL_tr this.1 (hav _ (by omega))]
  exact h2 x hx
def litsOf (n : Nat) (s : Int → Bool) : List Int := (List.range n).map fun i : Nat => if s ((i : Int) + 1) then (i : Int) + 1 else -((i : Int) + 1)
theorem mem_litsOf {n : Nat} {s : Int → Bool} {l : Int} : l ∈ litsOf n s ↔ l ≠ 0 ∧ l.natAbs ≤ n ∧ tr s l = true := by
 unfold litsOf tr
 rw [List.mem_map]
 constructor
 ·rintro ⟨i, hi, rfl⟩
  have := List.mem_range.1 hi
  by_cases h : s ((i : Int) + 1) = true
  ·rw [if_pos h]
   exact ⟨by omega, by omega, by rw [if_pos (by omega)]; exact h⟩
  ·rw [if_neg h]
   refine ⟨by omega, by omega, ?_⟩
   rw [if_neg (by omega), Int.neg_neg]
   simpa using h
 ·rintro ⟨h0, h1, h2⟩
  refine ⟨l.natAbs - 1, List.mem_range.2 (by omega), ?_⟩
  by_cases h : 0 < l
  ·rw [if_pos h] at h2
   rw [show ((l.natAbs - 1 : Nat) : Int) + 1 = l by omega, if_pos h2]
  ·rw [if_neg h] at h2
   rw [show ((l.natAbs - 1 : Nat) : Int) + 1 = -l by omega, if_neg (by simpa using h2)]
   omega
theorem tr_flip {s : Int → Bool} {l : Int} (h0 : l ≠ 0) : tr s (-l) = !(tr s l) := by
 unfold tr
 by_cases h : 0 < l
 ·rw [if_neg (by omega), if_pos h, Int.neg_neg]
 ·rw [if_pos (by omega), if_neg h, Bool.not_not]
theorem litsOf_ok {n : Nat} {s : Int → Bool} (hn : n ≤ 65536) : okX (litsOf n s) ∧ smX (litsOf n s) ∧ ∀ l, l ≠ 0 → l.natAbs ≤ n → valX (litsOf n s) l = if tr s l = true then 1 else -1 := by
 refine ⟨fun l hl hn' => ?_, fun l hl => Nat.le_trans (mem_litsOf.1 hl).2.1 hn, fun l h0 h1 => ?_⟩
 ·have h1 := mem_litsOf.1 hl
  have h2 := (mem_litsOf.1 hn').2.2
  rw [tr_flip h1.1, h1.2.2] at h2
  cases h2
 ·unfold valX
  by_cases h : tr s l = true
  ·rw [if_pos (mem_litsOf.2 ⟨h0, h1, h⟩), if_pos h]
  ·rw [if_neg (fun hm => h (mem_litsOf.1 hm).2.2), if_neg h, if_pos (mem_litsOf.2 ⟨by omega, by omega, by rw [tr_flip h0]; simpa using h⟩)]
theorem Hold.calm {n : Nat} {s : Int → Bool} {ps : List Pb} (hn : n ≤ 65536) (hok : OkN n ps) (h : Hold s ps) : ∀ p ∈ ps, p.Calm (litsOf n s) := fun p hp => by
 obtain ⟨_, _, hv⟩ := litsOf_ok (n := n) (s := s) hn
 have hval : ∀ j, j < p.lits.length → valX (litsOf n s) (nth p.lits j) = if tr s (nth p.lits j) = true then 1 else -1 := fun j hj => hv _ ((hok p hp).1.lit j hj).1 ((hok p hp).2 _ (nth_mem hj))
 refine ⟨?_, fun j hj _ => by rw [hval j hj]; split <;> decide⟩
 unfold Pb.slackX
 rw [Pb.total_cong (q := tr s) fun j hj => ?_]
 ·have := h p hp; omega
 ·rw [hval j hj]
  split
  ·rename_i h1; rw [h1]; rfl
  ·rename_i h1; simpa using h1
theorem RupX.sound {n : Nat} {s : Int → Bool} {ps : List Pb} {L : List Int} (hn : n ≤ 65536) (hr : RupX ps L) (hok : OkN n ps) (h : Hold s ps) (hL : ∀ x ∈ L, x ≠ 0 ∧ x.natAbs ≤ n) : L.any (tr s) = true := by
 obtain ⟨h1, h2, _⟩ := litsOf_ok (n := n) (s := s) hn
 refine Classical.byContradiction fun hno => hr _ h1 h2 (h.calm hn hok) fun x hx => ?_
 have hx0 := hL x hx
 refine mem_litsOf.2 ⟨by omega, by omega, ?_⟩
 rw [tr_flip hx0.1]
 simp only [List.any_eq_true, not_exists, not_and] at hno
 simpa using hno x hx
theorem clauseB_okN {n : Nat} {L : List Int} (hL : ∀ x ∈ L, litB x = true ∧ x.natAbs ≤ n) (h8 : L.length ≤ 8) : (clauseB L).1.Ok ∧ ∀ l ∈ (clauseB L).1.lits, l.natAbs ≤ n :=
 ⟨clause_ok (fun x hx => (hL x hx).1) h8, fun l hl => by
  obtain ⟨x, hx, e⟩ := newPb_lits l hl
  rw [← e]
  exact (hL x hx).2⟩
theorem Left.okN {a : Ask} {k : Nat} {new : List Stp} {S : Sol} (h : Left a k new S) (hG : OkN a.n a.G) (hH : OkN a.n a.Hs) : OkN a.n S.E.cs := by
 intro p hp
 rw [h.cs] at hp
 rcases List.mem_append.1 hp with hp | hp
 ·exact hG p hp
 ·obtain ⟨t, ht, rfl⟩ := List.mem_map.1 hp
  obtain ⟨i, hi, e⟩ := List.getElem_of_mem ht
  rcases h.grew.ok i t (by rw [List.getElem?_eq_getElem hi, e]) with ⟨_, _, L, e1, h1, h2, _⟩ | ⟨_, _, h1⟩
  ·rw [e1]
   exact clauseB_okN h1 h2
  ·exact hH _ h1
theorem Left.hold_take {a : Ask} {k : Nat} {new : List Stp} {S : Sol} (h : Left a k new S) (h8 : a.n ≤ 65536) (hG : OkN a.n a.G) (hH : OkN a.n a.Hs) {s : Int → Bool} (h1 : Hold s a.G) (h2 : Hold s a.Hs) : ∀ i, Hold s (a.G ++ (new.take i).map Stp.c) := by
 intro i
 induction i with
 | zero => simpa using h1
 | succ i ih =>
  rcases Nat.lt_or_ge i new.length with hi | hi
  ·have e : new.take (i + 1) = new.take i ++ [new[i]] := by rw [List.take_succ_eq_append_getElem hi]
   rw [e, List.map_append, ← List.append_assoc]
   intro p hp
   rcases List.mem_append.1 hp with hp | hp
   ·exact ih p hp
   ·simp only [List.map_cons, List.map_nil, List.mem_singleton] at hp
    subst hp
    have hokp : OkN a.n (a.G ++ (new.take i).map Stp.c) := fun p hp => h.okN hG hH p (by
     rw [h.cs]
     rcases List.mem_append.1 hp with hp | hp
     ·exact List.mem_append_left _ hp
     ·obtain ⟨t, ht, rfl⟩ := List.mem_map.1 hp
      exact List.mem_append_right _ (List.mem_map.2 ⟨t, List.mem_of_mem_take ht, rfl⟩))
    rcases h.grew.ok i new[i] (List.getElem?_eq_getElem hi) with ⟨_, _, L, e1, k1, k2, k3⟩ | ⟨_, _, k1⟩
    ·rw [e1]
     exact (clause_holds s (fun x hx => (k1 x hx).1) k2).2 (k3.sound h8 hokp ih fun x hx => ⟨(litB_iff.1 (k1 x hx).1).1, (k1 x hx).2⟩)
    ·exact h2 _ k1
  ·rw [List.take_of_length_le (by omega), ← List.take_of_length_le (l := new) (i := i) hi]
   exact ih
theorem Left.hold {a : Ask} {k : Nat} {new : List Stp} {S : Sol} (h : Left a k new S) (h8 : a.n ≤ 65536) (hG : OkN a.n a.G) (hH : OkN a.n a.Hs) {s : Int → Bool} (h1 : Hold s a.G) (h2 : Hold s a.Hs) : Hold s S.E.cs := by
 have := h.hold_take h8 hG hH h1 h2 new.length
 rw [List.take_length, ← h.cs] at this
 exact this
theorem core_no {a : Ask} {k : Nat} {new n0 : List Stp} {S : Sol} {co : List Int} {C : Pb} (h : Left a k new S) (h8 : a.n ≤ 65536) (hG : OkN a.n a.G) (hH : OkN a.n a.Hs) (hn : new = n0 ++ [⟨1, C, []⟩]) (hr : RupX (a.G ++ n0.map Stp.c) (co.map fun l => -l)) (hco : ∀ x ∈ co, x ≠ 0 ∧ x.natAbs ≤ a.n)
  {s : Int → Bool} (h1 : Hold s a.G) (h2 : Hold s a.Hs) : ¬ ∀ x ∈ co, tr s x = true := by
 intro hall
 have h3 := h.hold_take h8 hG hH h1 h2 n0.length
 have hokp : OkN a.n (a.G ++ n0.map Stp.c) := fun p hp => h.okN hG hH p (by
  rw [h.cs, hn]
  rcases List.mem_append.1 hp with hp | hp
  ·exact List.mem_append_left _ hp
  ·exact List.mem_append_right _ (by rw [List.map_append]; exact List.mem_append_left _ hp))
 rw [hn, List.take_left] at h3
 obtain ⟨x, hx, ht⟩ := List.any_eq_true.1 (hr.sound h8 hokp h3 fun x hx => by
  obtain ⟨y, hy, rfl⟩ := List.mem_map.1 hx
  have := hco y hy
  exact ⟨by omega, by omega⟩)
 obtain ⟨y, hy, rfl⟩ := List.mem_map.1 hx
 rw [tr_flip (hco y hy).1, hall y hy] at ht
 cases ht
theorem sat_hold {n : Nat} {X : List Int} {ps : List Pb} (hX : okX X) (_hn : ∀ l ∈ X, l ≠ 0 ∧ l.natAbs ≤ n) (hall : ∀ y : Nat, 1 ≤ y → y ≤ n → valX X y ≠ 0) (hok : OkN n ps) (hcal : ∀ p ∈ ps, p.Calm X) :
  (∀ i, i < n → nth (asgX n X) i ≠ 0) ∧ (∀ l, l ≠ 0 → l.natAbs ≤ n → (tr (sOf (asgX n X)) l = true ↔ l ∈ X)) ∧ Hold (sOf (asgX n X)) ps := by
 have h1 : ∀ i, i < n → nth (asgX n X) i ≠ 0 := fun i hi => by
  rw [asgX_nth X hi]
  exact hall (i + 1) (by omega) (by omega)
 have h2 : ∀ l, l ≠ 0 → l.natAbs ≤ n → decide (0 < valX X l) = tr (sOf (asgX n X)) l := fun l h0 hl => by
  rw [← valB_asgX hX h0 hl]
  exact tr_val (h1 _ (by omega)) h0
 refine ⟨h1, fun l h0 hl => ?_, fun p hp => ?_⟩
 ·rw [← h2 l h0 hl, decide_eq_true_eq]
  exact valX_pos
 ·have h3 := (hcal p hp).1
  unfold Pb.slackX at h3
  rw [Pb.total_cong (q := tr (sOf (asgX n X))) fun j hj => ?_] at h3
  ·omega
  ·have h0 := ((hok p hp).1.lit j hj).1
   have hl := (hok p hp).2 _ (nth_mem hj)
   rw [← h2 _ h0 hl]
   refine decide_eq_decide.2 ?_
   have : valX X (nth p.lits j) ≠ 0 := by
    have h4 := hall (nth p.lits j).natAbs (by omega) hl
    intro e
    rw [valX_zero] at e
    refine h4 (valX_zero.2 ?_)
    rcases Int.natAbs_eq (nth p.lits j) with e1 | e1
    ·rw [← e1]; exact e
    ·rw [show (((nth p.lits j).natAbs : Nat) : Int) = -(nth p.lits j) by omega, Int.neg_neg]
     exact ⟨e.2, e.1⟩
   omega
def ofB : List Bool → Nat
 | [] => 0
 | x :: xs => (if x then 1 else 0) + 2 * ofB xs
theorem ofB_lt : ∀ xs : List Bool, ofB xs < 2 ^ xs.length
 | [] => by simp [ofB]
 |x :: xs => by
  have := ofB_lt xs
  rw [ofB, List.length_cons, Nat.pow_succ]
  split <;> omega
theorem ofB_bit : ∀ (xs : List Bool) (i : Nat) (x : Bool), xs[i]? = some x → (ofB xs / 2 ^ i % 2 = 1 ↔ x = true)
 | [], i, x, h => by simp at h
 |y :: ys, 0, x, h => by
  obtain rfl : y = x := by simpa using h
  rw [ofB, Nat.pow_zero, Nat.div_one]
  cases y <;> simp <;> omega
 |y :: ys, i + 1, x, h => by
  have ih := ofB_bit ys i x (by simpa using h)
  rw [← ih, ofB, Nat.pow_succ, Nat.mul_comm (2 ^ i) 2, ← Nat.div_div_eq_div_mul]
  have : ((if y = true then 1 else 0) + 2 * ofB ys) / 2 = ofB ys := by split <;> omega
  rw [this]
theorem some_bits (s : Int → Bool) : ∃ b : Nat, b < 128 ∧ ∀ i : Nat, i < 7 → sOf (totUp7 (b : Int) 7) ((i : Int) + 1) = s ((i : Int) + 1) := by
 refine ⟨ofB ((List.range 7).map fun i : Nat => s ((i : Int) + 1)), by have := ofB_lt ((List.range 7).map fun i : Nat => s ((i : Int) + 1)); simpa using this, fun i hi => ?_⟩
 have hb : ofB ((List.range 7).map fun i : Nat => s ((i : Int) + 1)) < 128 := by have := ofB_lt ((List.range 7).map fun i : Nat => s ((i : Int) + 1)); simpa using this
 have h1 := ofB_bit ((List.range 7).map fun i : Nat => s ((i : Int) + 1)) i (s ((i : Int) + 1)) (by simp [hi])
 obtain ⟨b, hbe⟩ : ∃ b, ofB ((List.range 7).map fun i : Nat => s ((i : Int) + 1)) = b := ⟨_, rfl⟩
 rw [hbe] at h1 hb ⊢
 unfold sOf
 rw [show ((i : Int) + 1).natAbs - 1 = i by omega, totUp7_nth _ _ hi, if_pos hi, bit7_is hb hi]
 have hc : ((b : Int) / 2 ^ i % 2 = 1) ↔ (b / 2 ^ i % 2 = 1) := by
  rw [show ((b : Int) / 2 ^ i % 2) = ((b / 2 ^ i % 2 : Nat) : Int) by simp [Int.natCast_ediv, Int.natCast_emod, Int.natCast_pow]]
  omega
 cases hs : s ((i : Int) + 1) with
 | true => rw [if_pos (hc.2 (h1.2 hs))]; rfl
 | false => rw [if_neg (fun e => by have := h1.1 (hc.1 e); rw [hs] at this; cases this)]; rfl
theorem Hold.cong {n : Nat} {s t : Int → Bool} {ps : List Pb} (hok : OkN n ps) (h : ∀ i : Nat, i < n → s ((i : Int) + 1) = t ((i : Int) + 1)) : Hold s ps ↔ Hold t ps := by
 have key : ∀ l : Int, l ≠ 0 → l.natAbs ≤ n → tr s l = tr t l := fun l h0 hl => tr_cong h0 (by
  have := h (l.natAbs - 1) (by omega)
  rw [show ((l.natAbs - 1 : Nat) : Int) + 1 = (l.natAbs : Nat) by omega] at this
  exact this)
 unfold Hold
 constructor
 ·intro h1 p hp
  rw [← Pb.total_cong fun j hj => key _ ((hok p hp).1.lit j hj).1 ((hok p hp).2 _ (nth_mem hj))]
  exact h1 p hp
 ·intro h1 p hp
  rw [Pb.total_cong fun j hj => key _ ((hok p hp).1.lit j hj).1 ((hok p hp).2 _ (nth_mem hj))]
  exact h1 p hp
theorem models_iff {ps : List Pb} {ls : List Int} (hok : OkN 7 ps) (hls : ∀ x ∈ ls, x ≠ 0 ∧ x.natAbs ≤ 7) : 0 < modelsN ps ls 128 ↔ ∃ s, Hold s ps ∧ ∀ x ∈ ls, tr s x = true := by
 unfold modelsN
 rw [List.countP_pos_iff]
 constructor
 ·rintro ⟨b, hb, hf⟩
  exact ⟨_, (fineB_iff hok hls (tot7_ne (List.mem_range.1 hb))).1 hf⟩
 ·rintro ⟨s, h1, h2⟩
  obtain ⟨b, hb, hbit⟩ := some_bits s
  refine ⟨b, List.mem_range.2 hb, (fineB_iff hok hls (tot7_ne hb)).2 ⟨(Hold.cong hok hbit).2 h1, fun x hx => ?_⟩⟩
  have hx0 := hls x hx
  rw [tr_cong hx0.1 (t := s) (by
   have := hbit (x.natAbs - 1) (by omega)
   rw [show ((x.natAbs - 1 : Nat) : Int) + 1 = (x.natAbs : Nat) by omega] at this
   exact this)]
  exact h2 x hx
end
end Go.Proofs.YtcjmpobccbnpkaaGreat
