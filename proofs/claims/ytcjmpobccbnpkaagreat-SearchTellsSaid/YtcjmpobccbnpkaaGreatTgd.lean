/-
 Chapter 32: several texts in one (TeX RfI PbMap RfJ RfK TeC).
-/
import Derived.Test.YtcjmpobccbnpkaaGreatTgc
import Derived.Test.YtcjmpobccbnpkaaGreatMjaq
import Derived.Test.YtcjmpobccbnpkaaGreatTga
import Derived.Maps.OwnSet
import Derived.Test.YtcjmpobccbnpkaaGreatMjbd
import Derived.Test.YtcjmpobccbnpkaaGreatTgb
import Derived.Test.YtcjmpobccbnpkaaGreatTk
import Derived.Test.YtcjmpobccbnpkaaGreatTkU
namespace Go.Proofs.YtcjmpobccbnpkaaGreat
section
open Go.RowKit
theorem Pb.Ok.i64l {c : Pb} (h : c.Ok) : ∀ l ∈ c.lits, I64 l := fun l hl => by
 obtain ⟨i, hi, e⟩ := List.getElem_of_mem hl
 have h1 := h.lit i hi
 rw [nth_eq hi, e] at h1
 unfold I64
 omega
end
section
open Go.RowKit
theorem rneg_ends {W : World} {R : Ending → World → Prop} {b : Nat} {x y : Value} {z e : Int} {a : Act} (c0 : W.cell? ⟨b, 0, none⟩ = some x) (c1 : W.cell? ⟨b, 1, none⟩ = some y) (c2 : W.cell? ⟨b, 2, none⟩ = some (.int .i64 z))
  (h6 : a.tmps[2]? = some (.pointer (some ⟨b, 0, none⟩))) (h7 : a.tmps[3]? = some (.int .i64 e)) (hd : a.defers = []) (hR : R (.returned (.tuple #[.agg #[x, y, .int .i64 z], .int .i64 e])) W) : bodyPost Tryz.prog Tryz.f62 R .ret a W := by
 refine bodyPost_ret (v := .tuple #[.agg #[x, y, .int .i64 z], .int .i64 e]) ?_ hd hR
 simp [results, Tryz.f62, go_sem, c0, c1, c2, h6, h7]
theorem stored3 {W : World} {b : Nat} {x y z : Value} {n₀ : Nat} {F : Nat → Prop} {pv : Value} {c : Pb} (k : W.heap[b]? = some (.cells #[x, y, z] 41 (0, 0))) (hp : PbRd W F pv c) (hF : ∀ g, F g → n₀ ≤ g ∧ g ≠ b) (hb : n₀ ≤ b) (hn : n₀ ≤ W.heap.size) :
  ∃ A n cn B m cm, pv = .agg #[.slice A n cn, .slice B m cm, .int .i64 c.bound] ∧ ∀ W', (((W.setCell ⟨b, 0, none⟩ (.slice A n cn)).setCell ⟨b, 1, none⟩ (.slice B m cm)).setCell ⟨b, 2, none⟩ (.int .i64 c.bound)) = W' → W'.cell? ⟨b, 0, none⟩ = some (.slice A n cn) ∧ W'.cell? ⟨b, 1, none⟩ = some (.slice B m cm) ∧
   W'.cell? ⟨b, 2, none⟩ = some (.int .i64 c.bound) ∧ PbRd W' (fun g => n₀ ≤ g) (.agg #[.slice A n cn, .slice B m cm, .int .i64 c.bound]) c ∧ Below n₀ W W' := by
 obtain ⟨t0, t1, t2⟩ := box3 k
 obtain ⟨A, n, cn, B, m, cm, rfl, _, _⟩ := hp.form
 refine ⟨A, n, cn, B, m, cm, rfl, fun W' e => ?_⟩
 subst e
 obtain ⟨u0, u1, u2, m3⟩ := set3 t0 t1 t2 (.slice A n cn) (.slice B m cm) (.int .i64 c.bound)
 exact ⟨u0, u1, u2, (hp.mod m3 fun g _ h e => (hF g h).2 e).mono fun g _ h => (hF g h).1, below_mod (Below.refl _ _) hn m3 fun g e => by rw [e]; exact hb⟩
set_option maxRecDepth 100000 in
set_option maxHeartbeats 4000000 in
theorem rnegate_any {w : World} {F : Nat → Prop} {v : Value} {c : Pb} (hc : PbRd w F v c) (hi : ∀ k ∈ c.coefs, I64 k) (h40 : c.lits.length ≤ 65536) :
  Calls Tryz.prog 62 #[v] w fun r w' => (∃ pv, r = .returned (.tuple #[pv, .int .i64 c.negB.2]) ∧ PbRd w' (fun g => w.heap.size ≤ g) pv c.negB.1) ∧ Below w.heap.size w w' := by
 have Hc := hid hc
 obtain ⟨⟨L, n, cn, K, m, cm, rfl, hx, hk⟩, hb⟩ := hc
 have hxl : c.lits.length = n := by have := hx.1; simpa [ints_length] using this
 have hkl : c.coefs.length = m := by have := hk.1; simpa [ints_length] using this
 obtain ⟨X, hX, bX, kX, sX⟩ := alloc_step w (.cells #[.slice L n cn, .slice K m cm, .int .i64 c.bound] 41)
 obtain ⟨Y, hY, bY, kY, sY⟩ := alloc_step X (.cells #[.slice none 0 0, .slice none 0 0, .int .i64 0] 41)
 obtain ⟨Z, hZ⟩ : ∃ z, w.heap.size = z := ⟨_, rfl⟩
 have Hc2 := hid ((Hc.o.below bX).below bY)
 have Hx2 := hid ((hx.below bX).below bY)
 have Hk2 := hid ((hk.below bX).below bY)
 have HB := hid (bX.trans (bY.mono bX.size))
 have kX2 := keep_blk kX bY
 rw [sX] at kY
 rw [hZ] at kX2 kY sX
 have KX := hid kX2
 have KY := hid kY
 have HX := hid hX
 have HY := hid hY
 have HZ := hid hZ
 have HsX := hid sX
 have Hi := hid hi
 have Hxl := hid hxl
 have Hkl := hid hkl
 have hn6 : n ≤ 65536 := by omega
 unfold I64 at hb
 clear hx hk bX bY kX kX2 kY hX hY hZ sX sY hi Hc hxl hkl
 obtain ⟨e0, e1, e2⟩ := box3 KX.o
 obtain ⟨t0, t1, t2⟩ := box3 KY.o
 have f0 : Y.frozen? ⟨Z + 1, 0, none⟩ = false := by simp [World.frozen?, KY.o]
 have f1 : Y.frozen? ⟨Z + 1, 1, none⟩ = false := by simp [World.frozen?, KY.o]
 have f2 : Y.frozen? ⟨Z + 1, 2, none⟩ = false := by simp [World.frozen?, KY.o]
 go_enter Tryz.func62, Tryz.ntmps62
 go_wp2_with fail
 rw [HX.o, HY.o, HZ.o]
 refine (rvalid_any Hc2.o Hi.o h40).mono ?_
 rintro r w1 ⟨rfl, b1⟩
 have KX1 := hid (keep_blk KX.o b1)
 have KY1 := hid (keep_blk KY.o b1)
 have Hx3 := hid (Hx2.o.below b1)
 have Hk3 := hid (Hk2.o.below b1)
 have HB1 := hid (HB.o.trans (b1.mono HB.o.size))
 have hw1 : Z < w1.heap.size := lt_of_block KX1.o
 have hw2 : Z + 1 < w1.heap.size := lt_of_block KY1.o
 clear b1 e0 e1 e2 t0 t1 t2 f0 f1 f2
 obtain ⟨e0, e1, e2⟩ := box3 KX1.o
 cases hok : c.ok
 ·obtain ⟨t0, t1, t2⟩ := box3 KY1.o
  have f0 : w1.frozen? ⟨Z + 1, 0, none⟩ = false := by simp [World.frozen?, KY1.o]
  have f1 : w1.frozen? ⟨Z + 1, 1, none⟩ = false := by simp [World.frozen?, KY1.o]
  have f2 : w1.frozen? ⟨Z + 1, 2, none⟩ = false := by simp [World.frozen?, KY1.o]
  have he := hid (show c.negB = (⟨[], [], 0⟩, 2) by unfold Pb.negB; rw [hok]; rfl)
  clear hok
  go_wp2_with fail
  obtain ⟨u0, u1, u2, m3⟩ := set3 t0 t1 t2 (.slice none 0 0) (.slice none 0 0) (.int .i64 0)
  refine rneg_ends u0 u1 u2 rfl rfl rfl ⟨⟨_, by rw [he.o], ?_⟩, below_mod HB1.o HB1.o.size m3 fun g e => by have := HZ.o; omega⟩
  rw [he.o]
  exact ⟨⟨none, 0, 0, none, 0, 0, rfl, Rd.empty _ _ _, Rd.empty _ _ _⟩, by show I64 0; unfold I64; omega⟩
 ·have Hok := hid ((Pb.ok_iff _).1 hok)
  have he := hid (show c.negB = normed (c.lits.map fun l => -l) c.coefs (c.coefs.sum - c.bound + 1) by unfold Pb.negB; rw [hok]; rfl)
  have hnm : n = m := by rw [← Hxl.o, ← Hkl.o]; exact Hok.o.len
  subst hnm
  clear hok
  go_wp2_with fail
  go_loopw [4, 5, 6] (fun lv sv iv W => ∃ (j : Nat) (A1 : Option Addr) (c1 : Nat), j ≤ n ∧ iv = .int .i64 j ∧ sv = .int .i64 (c.sum j) ∧ lv = .slice A1 j c1 ∧ Hid (0 ≤ c.sum j ∧ c.sum j ≤ j * 16777216) ∧ Hid (Grw w1.heap.size w1 W (.slice A1 j c1) j ((c.lits.take j).map fun l => -l))) (fun _ _ iv _ => n - (intOf iv).toNat)
  case atStart => exact ⟨0, none, 0, by omega, rfl, by simp [Pb.sum], rfl, hid (by simp [Pb.sum]), hid (Grw.start w1)⟩
  case round =>
   obtain ⟨j, A1, c1, hj, rfl, rfl, rfl, Hs, HG⟩ := hrel
   clear e0 e1 e2
   obtain ⟨e0, e1, e2⟩ := box3 (keep_blk KX1.o HG.o.2.1)
   have hs := Hs.o
   by_cases hlt : j < n
   ·have x1 : (j : Int) < (n : Int) := by omega
    obtain ⟨g, o, rfl, _, hg, hcx⟩ := Hx3.o.cell.2 j hlt
    obtain ⟨g', o', rfl, _, hg', hck⟩ := Hk3.o.cell.2 j hlt
    have d0 := (HG.o.2.1.cell (p := ⟨g, o + j, none⟩) hg).trans hcx
    have hl := Hok.o.lit j (by rw [Hxl.o]; exact hlt)
    have hco := Hok.o.coef j (by rw [Hxl.o]; exact hlt)
    have hhi := Hok.o.high
    have hsum : c.sum (j + 1) = c.sum j + nth c.coefs j := by unfold Pb.sum; rw [take_nth (by rw [Hkl.o]; exact hlt), List.sum_append]; simp
    have htk : (c.lits.take (j + 1)).map (fun l => -l) = (c.lits.take j).map (fun l => -l) ++ [-(nth c.lits j)] := by rw [take_nth (by rw [Hxl.o]; exact hlt), List.map_append]; rfl
    obtain ⟨lj, hlj⟩ : ∃ x, nth c.lits j = x := ⟨_, rfl⟩
    obtain ⟨kj, hkj⟩ : ∃ x, nth c.coefs j = x := ⟨_, rfl⟩
    rw [hlj] at hl hcx d0 htk
    rw [hkj] at hco hck hsum
    obtain ⟨sj, hsj⟩ : ∃ x, c.sum j = x := ⟨_, rfl⟩
    rw [hsj] at hsum hs ⊢
    have Hsum := hid hsum
    have Htk := hid htk
    have hwl : IntKind.i64.wrap (-lj) = -lj := iw' (by omega) (by omega)
    have Hs2 := hid (show 0 ≤ sj ∧ sj ≤ j * 16777216 from hs)
    have Hck := hid hck
    clear hlj hkj hsj hsum htk Hs hcx hck
    go_wp2_with (first
     | (at_builtin; refine wpList_append_ints rfl _ _ rfl (HG.o.alloc (.cells #[.int .i64 (-lj)] 3)).1 (own_one wr (.int .i64 (-lj))).rd rfl rfl (by simp [Value.oneCell']) (by omega) ?_; intro Av3 cv3 W3 ho3 hm3 hr3; have T3 := hid ((HG.o.alloc (.cells #[.int .i64 (-lj)] 3)).push (ys := (c.lits.take j).map (fun l => -l) ++ [-lj]) (by rw [ints_append]; exact ho3) hm3); obtain ⟨q0, q1, q2⟩ := box3 (keep_blk KX1.o T3.o.2.1); have d1 := (T3.o.2.1.cell (p := ⟨g', o' + j, none⟩) hg').trans Hck.o; clear ho3 hm3 hr3))
    go_roundw
    case rel => exact ⟨j + 1, Av3, cv3, by omega, by go_num, by rw [Hsum.o], rfl, hid (by rw [Hsum.o]; have := Hs2.o; omega), hid (by rw [Htk.o]; exact T3.o)⟩
    case measure => simp [intOf]; omega
   ·have hjn : j = n := by omega
    have hsn : c.sum j = c.coefs.sum := by unfold Pb.sum; rw [List.take_of_length_le (by rw [Hkl.o]; omega)]
    have Rl := hid (show Rd wr (fun g => w1.heap.size ≤ g) 1 (.slice A1 j c1) j (ints (c.lits.map fun l => -l)) by have := HG.o.1.rd; rwa [List.take_of_length_le (by rw [Hxl.o]; omega)] at this)
    have Rk := hid (Hk3.o.below HG.o.2.1)
    have hlo := Hok.o.low
    have hhi := Hok.o.high
    rw [hsn] at hs ⊢
    have HBj := hid (HB1.o.trans (HG.o.2.1.mono HB1.o.size))
    have KYj := hid (keep_blk KY1.o HG.o.2.1)
    have hszj : w1.heap.size ≤ wr.heap.size := HG.o.2.2
    obtain ⟨bd, hbd⟩ : ∃ x, c.bound = x := ⟨_, rfl⟩
    obtain ⟨s, hs2⟩ : ∃ x, c.coefs.sum = x := ⟨_, rfl⟩
    have He := hid (show c.negB = normed (c.lits.map fun l => -l) c.coefs (s - bd + 1) by rw [he.o, hbd, hs2])
    rw [hbd] at hlo hhi e2
    rw [hs2] at hs ⊢
    have Hli := hid (fun x (hx : x ∈ c.lits.map fun l => -l) => (by
     obtain ⟨l, hl, rfl⟩ := List.mem_map.1 hx
     have := Hok.o.i64l l hl
     obtain ⟨i, hi, e⟩ := List.getElem_of_mem hl
     have h2 := Hok.o.lit i hi
     rw [nth_eq hi, e] at h2
     unfold I64
     omega : I64 x))
    clear hsn hbd hs2 he HG Hs hjn
    go_wp2_with fail
    refine (rnorm_any Rl.o Rk.o Hli.o Hi.o (by unfold I64; omega)).mono ?_
    rintro r w5 ⟨⟨pv, rfl, hpv⟩, b5⟩
    rw [← He.o] at hpv ⊢
    have KY5 := keep_blk KYj.o b5
    obtain ⟨A5, n5, c5, B5, m5, d5, rfl, hst⟩ := stored3 (n₀ := Z + 1) KY5 hpv (fun g hg => by have : wr.heap.size ≤ g := hg; omega) (Nat.le_refl _) (by have := b5.size; omega)
    obtain ⟨t0, t1, t2⟩ := box3 KY5
    have f0 : w5.frozen? ⟨Z + 1, 0, none⟩ = false := by simp [World.frozen?, KY5]
    have f1 : w5.frozen? ⟨Z + 1, 1, none⟩ = false := by simp [World.frozen?, KY5]
    have f2 : w5.frozen? ⟨Z + 1, 2, none⟩ = false := by simp [World.frozen?, KY5]
    have Hst := hid hst
    have Hb5 := hid b5
    clear hst b5 hpv KY5
    go_wp2_with fail
    obtain ⟨u0, u1, u2, hP, hB5⟩ := Hst.o _ rfl
    exact rneg_ends u0 u1 u2 rfl rfl rfl ⟨⟨_, rfl, hP.mono fun g _ h => by have := HZ.o; omega⟩, (HBj.o.trans (Hb5.o.mono HBj.o.size)).trans (hB5.mono (by have := HZ.o; omega))⟩
end
section
open Go.RowKit Go.Maps
def addK (x : Int) (ks : List Int) : List Int := if x ∈ ks then ks else ks ++ [x]
structure NumD (D : DataW Unit) (f : Int → Int) (ks : List Int) : Prop where
 tidy : Maps.Tidy D
 val : ∀ v : Int, I64 v → D.atKey (.int .i64 v) (.lit (.int .i64 0)) = .lit (.int .i64 (f v))
 has : ∀ v : Int, I64 v → Maps.has D (.int .i64 v) = decide (v ∈ ks)
 size : Maps.size D = ks.length
def keysOf (xs : List Int) : List Int := xs.foldl (fun ks x => addK x ks) []
theorem keysOf_snoc (xs : List Int) (x : Int) : keysOf (xs ++ [x]) = addK x (keysOf xs) := by simp [keysOf, List.foldl_append]
theorem addK_mem {x y : Int} {ks : List Int} : y ∈ addK x ks ↔ y = x ∨ y ∈ ks := by
 unfold addK
 split
 ·rename_i h
  exact ⟨.inr, fun e => e.elim (fun e => e ▸ h) id⟩
 ·simp [or_comm]
theorem addK_nodup {x : Int} {ks : List Int} (h : ks.Nodup) : (addK x ks).Nodup := by
 unfold addK
 split
 ·exact h
 ·rename_i e
  refine List.nodup_append.2 ⟨h, by simp, fun a ha b hb => ?_⟩
  simp at hb
  subst hb
  intro e2
  exact e (e2 ▸ ha)
theorem keysOf_is (xs : List Int) : (keysOf xs).Nodup ∧ ∀ y, y ∈ keysOf xs ↔ y ∈ xs := by
 have h : ∀ (n : Nat) (xs : List Int), xs.length = n → (keysOf xs).Nodup ∧ ∀ y, y ∈ keysOf xs ↔ y ∈ xs := by
  intro n
  induction n with
  | zero => intro xs h; have := List.length_eq_zero_iff.1 h; subst this; simp [keysOf]
  | succ n ih =>
   intro xs h
   obtain ⟨ys, y, rfl⟩ : ∃ ys y, xs = ys ++ [y] := ⟨xs.dropLast, xs.getLast (by intro e; subst e; cases h), (List.dropLast_concat_getLast _).symm⟩
   obtain ⟨h1, h2⟩ := ih ys (by simp at h; omega)
   rw [keysOf_snoc]
   refine ⟨addK_nodup h1, fun z => ?_⟩
   rw [addK_mem, h2, List.mem_append, List.mem_singleton, or_comm]
 exact h _ xs rfl
end
section
open Go.RowKit
theorem perm_sum {α : Type} (f : α → Int) {xs ys : List α} (h : xs.Perm ys) : (xs.map f).sum = (ys.map f).sum := by
  induction h with
  | nil => rfl
  | cons x _ ih => simp [ih]
  | swap x y l => simp; omega
  | trans _ _ h1 h2 => rw [h1, h2]
def ones (xs : List Int) : List Int := List.replicate xs.length 1
theorem ones_nth {xs : List Int} {i : Nat} (h : i < xs.length) : nth (ones xs) i = 1 := nth_ones h
theorem vsum_ones (xs : List Int) (v : Int) : vsum xs (ones xs) xs.length v = (xs.map fun l => term l 1 v).sum := by
  unfold vsum
  rw [show (List.range xs.length).map (fun i => term (nth xs i) (nth (ones xs) i) v) = (List.range xs.length).map fun i => term (nth xs i) 1 v from List.map_congr_left fun i hi => by rw [ones_nth (List.mem_range.1 hi)]]
  rw [show (List.range xs.length).map (fun i => term (nth xs i) 1 v) = ((List.range xs.length).map (nth xs)).map fun l => term l 1 v by rw [List.map_map]; rfl, nth_range]
theorem nsum_ones (xs : List Int) : nsum xs (ones xs) xs.length = (xs.map fun l => if l < 0 then 1 else 0).sum := by
  unfold nsum
  rw [show (List.range xs.length).map (fun i => if nth xs i < 0 then nth (ones xs) i else 0) = (List.range xs.length).map fun i => if nth xs i < 0 then 1 else 0 from List.map_congr_left fun i hi => by rw [ones_nth (List.mem_range.1 hi)]]
  rw [show (List.range xs.length).map (fun i => if nth xs i < 0 then (1 : Int) else 0) = ((List.range xs.length).map (nth xs)).map fun l => if l < 0 then 1 else 0 by rw [List.map_map]; rfl, nth_range]
theorem normOk_ones (xs : List Int) : normOk xs (ones xs) 1 = (decide (xs.length ≤ 65536) && xs.all litB) := by
  unfold normOk
  have e : (List.range xs.length).all (inB xs (ones xs)) = xs.all litB := by
    rw [Bool.eq_iff_iff, List.all_eq_true, List.all_eq_true]
    constructor
    · intro h x hx
      obtain ⟨i, hi, e⟩ := List.getElem_of_mem hx
      have := inB_lit (h i (List.mem_range.2 hi))
      rwa [nth_eq hi, e] at this
    · intro h i hi
      have hi := List.mem_range.1 hi
      unfold inB
      rw [ones_nth hi, h _ (nth_mem hi)]
      rfl
  rw [e]
  simp [ones]
theorem normed_perm {xs ys : List Int} (h : xs.Perm ys) : normed xs (ones xs) 1 = normed ys (ones ys) 1 := by
  have hl := h.length_eq
  have e1 : normOk xs (ones xs) 1 = normOk ys (ones ys) 1 := by
    rw [normOk_ones, normOk_ones, hl]
    congr 1
    rw [Bool.eq_iff_iff, List.all_eq_true, List.all_eq_true]
    exact ⟨fun k x hx => k x (h.mem_iff.2 hx), fun k x hx => k x (h.mem_iff.1 hx)⟩
  have e2 : vsum xs (ones xs) xs.length = vsum ys (ones ys) ys.length := by
    funext v
    rw [vsum_ones, vsum_ones]
    exact perm_sum _ h
  have e3 : nsum xs (ones xs) xs.length = nsum ys (ones ys) ys.length := by
    rw [nsum_ones, nsum_ones]
    exact perm_sum _ h
  have e4 : normVars xs (ones xs) = normVars ys (ones ys) := by unfold normVars; rw [e2]
  have e5 : normBd xs (ones xs) 1 = normBd ys (ones ys) 1 := by unfold normBd; rw [e2, e3, e4]
  have e6 : normCoefs xs (ones xs) 1 = normCoefs ys (ones ys) 1 := by unfold normCoefs; rw [e2, e4, e5]
  unfold normed
  rw [e1, e2, e4, e5, e6]
theorem clause_keys (ls : List Int) : clauseB ls = normed (keysOf ls) (ones (keysOf ls)) 1 := by
  rw [clauseB_is]
  refine normed_perm ((List.perm_ext_iff_of_nodup (once_nodup ls) (keysOf_is ls).1).2 fun x => ?_)
  rw [mem_once, (keysOf_is ls).2]
theorem keysOf_len (ls : List Int) : (keysOf ls).length ≤ ls.length :=
  List.Nodup.length_le_of_subset (keysOf_is ls).1 fun x hx => ((keysOf_is ls).2 x).1 hx
theorem Pr.belowW {B : Nat} {W0 W W' : World} {vL vC : Value} {n m : Nat} {xs ys : List Value} (h : Pr B W0 W vL vC n m xs ys) (hb : Below W.heap.size W W') : Pr B W0 W' vL vC n m xs ys :=
  ⟨h.1.below hb, h.2.1.below hb, h.2.2.1, h.2.2.2.1.trans (hb.mono h.2.2.2.2), Nat.le_trans h.2.2.2.2 hb.size⟩
theorem rcl_ends {W : World} {R : Ending → World → Prop} {b : Nat} {x y : Value} {z e : Int} {a : Act} (c0 : W.cell? ⟨b, 0, none⟩ = some x) (c1 : W.cell? ⟨b, 1, none⟩ = some y) (c2 : W.cell? ⟨b, 2, none⟩ = some (.int .i64 z))
    (h6 : a.tmps[2]? = some (.pointer (some ⟨b, 0, none⟩))) (h7 : a.tmps[3]? = some (.int .i64 e)) (hd : a.defers = []) (hR : R (.returned (.tuple #[.agg #[x, y, .int .i64 z], .int .i64 e])) W) : bodyPost Tryz.prog Tryz.f30 R .ret a W := by
  refine bodyPost_ret (v := .tuple #[.agg #[x, y, .int .i64 z], .int .i64 e]) ?_ hd hR
  simp [results, Tryz.f30, go_sem, c0, c1, c2, h6, h7]
set_option maxRecDepth 100000 in
set_option maxHeartbeats 4000000 in
theorem rclause_any {w : World} {F : Nat → Prop} {A : Option Addr} {n cA : Nat} {ls : List Int} (hl : Rd w F 1 (.slice A n cA) n (ints ls)) (hi : ∀ x ∈ ls, I64 x) (hn : n ≤ 1000000) :
    Calls Tryz.prog 30 #[.slice A n cA] w fun r w' => (∃ pv, r = .returned (.tuple #[pv, .int .i64 (clauseB ls).2]) ∧ PbRd w' (fun g => w.heap.size ≤ g) pv (clauseB ls).1) ∧ Below w.heap.size w w' := by
  have hll : ls.length = n := by have := hl.1; simpa [ints_length] using this
  obtain ⟨X, hX, bX, kX, sX⟩ := alloc_step w (.cells #[.slice none 0 0, .slice none 0 0, .int .i64 0] 41)
  obtain ⟨Z, hZ⟩ : ∃ z, w.heap.size = z := ⟨_, rfl⟩
  have Hl := hid (hl.below bX)
  have HB := hid bX
  rw [hZ] at kX
  have KX := hid kX
  have HX := hid hX
  have HZ := hid hZ
  have Hll := hid hll
  have Hi := hid hi
  have He := hid (clause_keys ls)
  have hZX : Z < X.heap.size := lt_of_block kX
  clear hl bX kX hX hZ hll sX hi
  go_enter Tryz.func30, Tryz.ntmps30
  go_wp2_with fail
  rw [HX.o, HZ.o]
  go_wp2_with fail
  go_loopw [4, 5, 6] (fun ov cv iv W => ∃ (i : Nat) (P : List Int) (A1 : Option Addr) (c1 : Nat) (A2 : Option Addr) (c2 : Nat), i ≤ n ∧ iv = .int .i64 i ∧ ov = .slice A1 P.length c1 ∧ cv = .slice A2 P.length c2 ∧ Hid (P = keysOf (ls.take i)) ∧
    Hid (Pr X.heap.size X W (.slice A1 P.length c1) (.slice A2 P.length c2) P.length P.length (ints P) (ints (ones P)))) (fun _ _ iv _ => n - (intOf iv).toNat)
  case atStart => exact ⟨0, [], none, 0, none, 0, by omega, rfl, rfl, rfl, hid rfl, hid (Pr.start X)⟩
  case round =>
    obtain ⟨i, P, A1, c1, A2, c2, hin, rfl, rfl, rfl, HP, HT⟩ := hrel
    have hpl : P.length ≤ i := by rw [HP.o]; have := keysOf_len (ls.take i); rw [List.length_take] at this; omega
    by_cases hlt : i < n
    · have x1 : (i : Int) < (n : Int) := by omega
      obtain ⟨g, o, rfl, _, hg, hcx⟩ := Hl.o.cell.2 i hlt
      have hks := keysOf_snoc (ls.take i) (nth ls i)
      rw [← take_nth (by rw [Hll.o]; exact hlt), ← HP.o] at hks
      obtain ⟨x, hx⟩ : ∃ x, nth ls i = x := ⟨_, rfl⟩
      rw [hx] at hcx hks
      have Hks := hid hks
      have Hcx := hid hcx
      obtain ⟨Wo, rfl⟩ : ∃ W : World, W = wr := ⟨_, rfl⟩
      clear hx hks hcx
      go_wp2_with fail
      go_loopw [7, 8] (fun mv kv W => ∃ k : Nat, k ≤ P.length ∧ kv = .int .i64 k ∧ mv = .bool ((P.take k).any fun y => y == x) ∧ Hid (Below Wo.heap.size Wo W)) (fun _ kv _ => P.length - (intOf kv).toNat)
      case atStart => exact ⟨0, by omega, rfl, by simp, hid (Below.refl _ _)⟩
      case round =>
        obtain ⟨k, hk, rfl, rfl, HBk⟩ := hrel
        have HTk := hid (HT.o.belowW HBk.o)
        have hcx := (HTk.o.2.2.2.1.cell (p := ⟨g, o + i, none⟩) hg).trans Hcx.o
        by_cases hlk : k < P.length
        · have x2 : (k : Int) < (P.length : Int) := by omega
          obtain ⟨g', e5, _, hgl, hcy, _⟩ := HTk.o.1.cell (j := k) (by omega)
          subst e5
          rw [ints_nth hlk] at hcy
          have hst : ((P.take (k + 1)).any fun y => y == x) = (((P.take k).any fun y => y == x) || (nth P k == x)) := by rw [take_nth hlk, List.any_append]; simp
          obtain ⟨y, hy⟩ : ∃ y, nth P k = y := ⟨_, rfl⟩
          rw [hy] at hcy hst
          obtain ⟨q, hq⟩ : ∃ q, ((P.take k).any fun y => y == x) = q := ⟨_, rfl⟩
          rw [hq] at hst ⊢
          have Hst := hid hst
          obtain ⟨q2, hq2⟩ : ∃ q, (y == x) = q := ⟨_, rfl⟩
          rw [hq2] at Hst
          clear hy hst hq
          cases q
          · go_wp2_with fail
            go_quiet (fail)
            go_wp2_with fail
            go_roundw
            case rel => exact ⟨k + 1, by omega, by go_num, by rw [Hst.o]; rfl, hid (Bl.drewN HBk.o _)⟩
            case measure => simp [intOf]; omega
          · go_wp2_with fail
            go_quiet (fail)
            go_wp2_with fail
            go_roundw
            case rel => exact ⟨k + 1, by omega, by go_num, by rw [Hst.o]; rfl, hid (Bl.drewN HBk.o _)⟩
            case measure => simp [intOf]; omega
        · have hke : k = P.length := by omega
          have hany : ((P.take k).any fun y => y == x) = decide (x ∈ P) := by
            rw [hke, List.take_length, Bool.eq_iff_iff, List.any_eq_true, decide_eq_true_eq]
            exact ⟨fun ⟨y, h1, h2⟩ => by have : y = x := by simpa using h2
                                         rw [← this]; exact h1, fun h => ⟨x, h, by simp⟩⟩
          rw [hany]
          clear hany hke HT HBk
          obtain ⟨W5, rfl⟩ : ∃ W : World, W = wr := ⟨_, rfl⟩
          by_cases hm : x ∈ P
          · rw [decide_eq_true hm]
            have Hk2 := hid (show keysOf (ls.take (i + 1)) = P by rw [Hks.o]; unfold addK; rw [if_pos hm])
            clear hm
            go_wp2_with fail
            go_roundw
            case rel => exact ⟨i + 1, P, A1, c1, A2, c2, by omega, by go_num, rfl, rfl, hid Hk2.o.symm, HTk⟩
            case measure => simp [intOf]; omega
          · rw [decide_eq_false hm]
            have Hk2 := hid (show keysOf (ls.take (i + 1)) = P ++ [x] by rw [Hks.o]; unfold addK; rw [if_neg hm])
            clear hm
            go_wp2_with (first
              | (at_builtin; refine wpList_append_ints rfl _ _ rfl (HTk.o.alloc (.cells #[.int .i64 x] 3)).1 (own_one W5 (.int .i64 x)).rd rfl rfl (by simp [Value.oneCell']) (by omega) ?_; intro Av3 cv3 W3 ho3 hm3 hr3; have T3 := hid ((HTk.o.alloc (.cells #[.int .i64 x] 3)).push ho3 hm3 hr3); clear ho3 hm3 hr3)
              | (at_builtin; refine wpList_append_ints rfl _ _ rfl (T3.o.alloc (.cells #[.int .i64 1] 3)).swap.1 (own_one W3 (.int .i64 1)).rd rfl rfl (by simp [Value.oneCell']) (by omega) ?_; intro Av7 cv7 W7 ho7 hm7 hr7; have T7 := hid ((T3.o.alloc (.cells #[.int .i64 1] 3)).swap.push ho7 hm7 hr7).swap; clear ho7 hm7 hr7))
            go_roundw
            case rel =>
              refine ⟨i + 1, P ++ [x], Av3, cv3, Av7, cv7, by omega, by go_num, by simp, by simp, hid Hk2.o.symm, ?_⟩
              have e1 : ints (ones (P ++ [x])) = ints (ones P) ++ [.int .i64 1] := by
                unfold ones
                rw [List.length_append, List.length_singleton, List.replicate_succ', ints_append]
                rfl
              rw [e1, ints_append, List.length_append]
              exact T7
            case measure => simp [intOf]; omega
    · have hie : i = n := by omega
      have hP := hid (show P = keysOf ls by rw [HP.o, List.take_of_length_le (by rw [Hll.o]; omega)])
      have hPi := hid (fun x (hx : x ∈ P) => Hi.o x (((keysOf_is ls).2 x).1 (by rw [← hP.o]; exact hx)))
      have hOi := hid (fun x (hx : x ∈ ones P) => (by unfold ones at hx; rw [(List.mem_replicate.1 hx).2]; unfold I64; omega : I64 x))
      have He2 := hid (show clauseB ls = normed P (ones P) 1 by rw [He.o, hP.o])
      clear hie
      go_wp2_with fail
      refine (rnorm_any HT.o.1.rd HT.o.2.1.rd hPi.o hOi.o (by unfold I64; omega)).mono ?_
      rintro r w5 ⟨⟨pv, rfl, hpv⟩, b5⟩
      rw [← He2.o] at hpv ⊢
      have KY5 := keep_blk (keep_blk KX.o HT.o.2.2.2.1) b5
      have hsz := HT.o.2.2.2.2
      obtain ⟨A5, n5, c5, B5, m5, d5, rfl, hst⟩ := stored3 (n₀ := Z) KY5 hpv (fun g hg => by have : wr.heap.size ≤ g := hg; omega) (Nat.le_refl _) (by have := b5.size; omega)
      obtain ⟨t0, t1, t2⟩ := box3 KY5
      have f0 : w5.frozen? ⟨Z, 0, none⟩ = false := by simp [World.frozen?, KY5]
      have f1 : w5.frozen? ⟨Z, 1, none⟩ = false := by simp [World.frozen?, KY5]
      have f2 : w5.frozen? ⟨Z, 2, none⟩ = false := by simp [World.frozen?, KY5]
      have Hst := hid hst
      have Hb5 := hid b5
      clear hst b5 hpv KY5
      go_wp2_with fail
      obtain ⟨u0, u1, u2, hP, hB5⟩ := Hst.o _ rfl
      have hBX : Below w.heap.size w wr := HB.o.trans (HT.o.2.2.2.1.mono HB.o.size)
      exact rcl_ends u0 u1 u2 rfl rfl rfl ⟨⟨_, rfl, hP.mono fun g _ h => by have := HZ.o; omega⟩, (hBX.trans (Hb5.o.mono hBX.size)).trans (hB5.mono (by have := HZ.o; omega))⟩
end
section
open Go.RowKit
set_option maxRecDepth 100000 in
set_option maxHeartbeats 4000000 in
theorem requal_any {w : World} {F G : Nat → Prop} {v u : Value} {c d : Pb} (hc : PbRd w F v c) (hd : PbRd w G u d) :
  Calls Tryz.prog 31 #[v, u] w fun r w' => r = .returned (.bool (c.same d)) ∧ Below w.heap.size w w' := by
 obtain ⟨⟨L, n, cn, K, m, cm, rfl, hx, hk⟩, hb⟩ := hc
 obtain ⟨⟨L2, n2, cn2, K2, m2, cm2, rfl, hx2, hk2⟩, hb2⟩ := hd
 have hxc : c.lits.length = n := by have := hx.1; simpa [ints_length] using this
 have hkc : c.coefs.length = m := by have := hk.1; simpa [ints_length] using this
 have hxd : d.lits.length = n2 := by have := hx2.1; simpa [ints_length] using this
 have hkd : d.coefs.length = m2 := by have := hk2.1; simpa [ints_length] using this
 have hn9 : n ≤ 9223372036854775807 := by have := hx.len; unfold maxLen at this; omega
 have hm9 : m ≤ 9223372036854775807 := by have := hk.len; unfold maxLen at this; omega
 obtain ⟨X, hX, bX, kX, sX⟩ := alloc_step w (.cells #[.slice L n cn, .slice K m cm, .int .i64 c.bound] 41)
 obtain ⟨Y, hY, bY, kY, sY⟩ := alloc_step X (.cells #[.slice L2 n2 cn2, .slice K2 m2 cm2, .int .i64 d.bound] 41)
 obtain ⟨Z, hZ⟩ : ∃ z, w.heap.size = z := ⟨_, rfl⟩
 have Hx1 := hid ((hx.below bX).below bY)
 have Hk1 := hid ((hk.below bX).below bY)
 have Hx2 := hid ((hx2.below bX).below bY)
 have Hk2 := hid ((hk2.below bX).below bY)
 have HB := hid (bX.trans (bY.mono bX.size))
 have kX2 := keep_blk kX bY
 rw [sX] at kY
 rw [hZ] at kX2 kY
 have KX := hid kX2
 have KY := hid kY
 have HX := hid hX
 have HY := hid hY
 have HZ := hid hZ
 have Hxc := hid hxc
 have Hkc := hid hkc
 have Hxd := hid hxd
 have Hkd := hid hkd
 clear hx hk hx2 hk2 bX bY kX kX2 kY hX hY hZ sX sY hxc hkc hxd hkd hb hb2
 obtain ⟨e0, e1, e2⟩ := box3 KX.o
 obtain ⟨d0, d1, d2⟩ := box3 KY.o
 have hbne : c.bound ≠ d.bound → c.same d = false := fun h => by unfold Pb.same; rw [decide_eq_false h]; rfl
 have hlne : n ≠ n2 → c.same d = false := fun h => by unfold Pb.same; rw [decide_eq_false (p := c.lits = d.lits) (fun e => h (by rw [← Hxc.o, ← Hxd.o, e]))]; simp
 have hkne : m ≠ m2 → c.same d = false := fun h => by unfold Pb.same; rw [decide_eq_false (p := c.coefs = d.coefs) (fun e => h (by rw [← Hkc.o, ← Hkd.o, e]))]; simp
 have Hbe0 := hid (fun (h : c.bound = d.bound) => h)
 obtain ⟨b1, hb1⟩ : ∃ x, c.bound = x := ⟨_, rfl⟩
 obtain ⟨b2, hb2⟩ : ∃ x, d.bound = x := ⟨_, rfl⟩
 rw [hb1] at e2 hbne Hbe0 HX KX
 rw [hb2] at d2 hbne Hbe0 HY KY
 have Hb1 := hid hb1
 have Hb2 := hid hb2
 have Hbne := hid hbne
 have Hlne := hid hlne
 have Hkne := hid hkne
 rw [hb1, hb2]
 clear hbne hlne hkne hb1 hb2 Hbe0
 by_cases hbq : b1 = b2
 ·subst hbq
  have q1 : (b1 != b1) = false := by simp
  have Hbe := hid (show c.bound = d.bound by rw [Hb1.o, Hb2.o])
  by_cases hnn : n = n2
  ·subst hnn
   by_cases hmm : m = m2
   ·subst hmm
    go_enter Tryz.func31, Tryz.ntmps31
    go_wp2_with fail
    rw [HX.o, HY.o, HZ.o]
    go_loopw [5] (fun iv W => ∃ j : Nat, j ≤ n ∧ iv = .int .i64 j ∧ Hid (c.lits.take j = d.lits.take j) ∧ Hid (Below Y.heap.size Y W)) (fun iv _ => n - (intOf iv).toNat)
    case atStart => exact ⟨0, by omega, rfl, hid rfl, hid (Below.refl _ _)⟩
    case round =>
     obtain ⟨j, hj, rfl, Ht, HBj⟩ := hrel
     clear e0 e1 e2 d0 d1 d2
     obtain ⟨e0, e1, e2⟩ := box3 (keep_blk KX.o HBj.o)
     obtain ⟨d0, d1, d2⟩ := box3 (keep_blk KY.o HBj.o)
     by_cases hlt : j < n
     ·have x1 : (j : Int) < (n : Int) := by omega
      obtain ⟨g, o, rfl, _, hg, hcx⟩ := (Hx1.o.below HBj.o).cell.2 j hlt
      obtain ⟨g', o', rfl, _, hg', hcy⟩ := (Hx2.o.below HBj.o).cell.2 j hlt
      have htc := take_nth (xs := c.lits) (k := j) (by rw [Hxc.o]; exact hlt)
      have htd := take_nth (xs := d.lits) (k := j) (by rw [Hxd.o]; exact hlt)
      have hne : nth c.lits j ≠ nth d.lits j → c.same d = false := fun h => by
       unfold Pb.same
       rw [decide_eq_false (p := c.lits = d.lits) (fun e => h (by rw [e]))]
       simp
      obtain ⟨x, hx⟩ : ∃ x, nth c.lits j = x := ⟨_, rfl⟩
      obtain ⟨y, hy⟩ : ∃ x, nth d.lits j = x := ⟨_, rfl⟩
      rw [hx] at hcx htc hne
      rw [hy] at hcy htd hne
      have Htc := hid htc
      have Htd := hid htd
      have Hne := hid hne
      clear hx hy htc htd hne hg hg'
      by_cases hxy : x = y
      ·subst hxy
       have hq : (x != x) = false := by simp
       go_wp2_with fail
       go_quiet (fail)
       go_wp2_with fail
       go_roundw
       case rel => exact ⟨j + 1, by omega, by go_num, hid (by rw [Htc.o, Htd.o, Ht.o]), hid (Bl.drewN HBj.o _)⟩
       case measure => simp [intOf]; omega
      ·have hq : (x != y) = true := by simpa using hxy
       have Hf := hid (Hne.o hxy)
       clear Hne hxy
       go_wp2_with fail
       go_quiet (fail)
       go_wp2_with fail
       go_ret
       exact ⟨retB Hf.o, HB.o.trans ((Bl.drewN HBj.o _).mono HB.o.size)⟩
     ·have hjn : j = n := by omega
      have Hlit := hid (show c.lits = d.lits by have h := Ht.o; rwa [List.take_of_length_le (by rw [Hxc.o]; omega), List.take_of_length_le (by rw [Hxd.o]; omega)] at h)
      clear hjn
      obtain ⟨W7, rfl⟩ : ∃ W : World, W = wr := ⟨_, rfl⟩
      have KX7 := hid (keep_blk KX.o HBj.o)
      have KY7 := hid (keep_blk KY.o HBj.o)
      have HC7 := hid (Hk1.o.below HBj.o)
      have HD7 := hid (Hk2.o.below HBj.o)
      have HB7 := hid (HB.o.trans (HBj.o.mono HB.o.size))
      clear HBj Ht
      go_wp2_with fail
      go_loopw [6] (fun iv W => ∃ j : Nat, j ≤ m ∧ iv = .int .i64 j ∧ Hid (c.coefs.take j = d.coefs.take j) ∧ Hid (Below W7.heap.size W7 W)) (fun iv _ => m - (intOf iv).toNat)
      case atStart => exact ⟨0, by omega, rfl, hid rfl, hid (Below.refl _ _)⟩
      case round =>
       obtain ⟨j, hj, rfl, Ht, HBj⟩ := hrel
       clear e0 e1 e2 d0 d1 d2
       obtain ⟨e0, e1, e2⟩ := box3 (keep_blk KX7.o HBj.o)
       obtain ⟨d0, d1, d2⟩ := box3 (keep_blk KY7.o HBj.o)
       by_cases hlt : j < m
       ·have x1 : (j : Int) < (m : Int) := by omega
        obtain ⟨g, o, rfl, _, hg, hcx⟩ := (HC7.o.below HBj.o).cell.2 j hlt
        obtain ⟨g', o', rfl, _, hg', hcy⟩ := (HD7.o.below HBj.o).cell.2 j hlt
        have htc := take_nth (xs := c.coefs) (k := j) (by rw [Hkc.o]; exact hlt)
        have htd := take_nth (xs := d.coefs) (k := j) (by rw [Hkd.o]; exact hlt)
        have hne : nth c.coefs j ≠ nth d.coefs j → c.same d = false := fun h => by
         unfold Pb.same
         rw [decide_eq_false (p := c.coefs = d.coefs) (fun e => h (by rw [e]))]
         simp
        obtain ⟨x, hx⟩ : ∃ x, nth c.coefs j = x := ⟨_, rfl⟩
        obtain ⟨y, hy⟩ : ∃ x, nth d.coefs j = x := ⟨_, rfl⟩
        rw [hx] at hcx htc hne
        rw [hy] at hcy htd hne
        have Htc := hid htc
        have Htd := hid htd
        have Hne := hid hne
        clear hx hy htc htd hne hg hg'
        by_cases hxy : x = y
        ·subst hxy
         have hq : (x != x) = false := by simp
         go_wp2_with fail
         go_quiet (fail)
         go_wp2_with fail
         go_roundw
         case rel => exact ⟨j + 1, by omega, by go_num, hid (by rw [Htc.o, Htd.o, Ht.o]), hid (Bl.drewN HBj.o _)⟩
         case measure => simp [intOf]; omega
        ·have hq : (x != y) = true := by simpa using hxy
         have Hf := hid (Hne.o hxy)
         clear Hne hxy
         go_wp2_with fail
         go_quiet (fail)
         go_wp2_with fail
         go_ret
         exact ⟨retB Hf.o, HB7.o.trans ((Bl.drewN HBj.o _).mono HB7.o.size)⟩
       ·have hjn : j = m := by omega
        have Hcof := hid (show c.coefs = d.coefs by have h := Ht.o; rwa [List.take_of_length_le (by rw [Hkc.o]; omega), List.take_of_length_le (by rw [Hkd.o]; omega)] at h)
        clear hjn
        have Hf := hid (show c.same d = true by unfold Pb.same; rw [decide_eq_true Hlit.o, decide_eq_true Hcof.o, decide_eq_true Hbe.o]; rfl)
        go_wp2_with fail
        go_ret
        exact ⟨retB Hf.o, HB7.o.trans (HBj.o.mono HB7.o.size)⟩
   ·have Hf := hid (Hkne.o hmm)
    have q2 : ((m : Int) != (m2 : Int)) = true := by simp; omega
    have q3 : (m != m2) = true := by simpa using hmm
    clear hmm
    go_enter Tryz.func31, Tryz.ntmps31
    go_wp2_with fail
    rw [HX.o, HY.o]
    go_ret
    exact ⟨retB Hf.o, HB.o⟩
  ·have Hf := hid (Hlne.o hnn)
   have q2 : ((n : Int) != (n2 : Int)) = true := by simp; omega
   have q3 : (n != n2) = true := by simpa using hnn
   clear hnn
   go_enter Tryz.func31, Tryz.ntmps31
   go_wp2_with fail
   rw [HX.o, HY.o]
   go_ret
   exact ⟨retB Hf.o, HB.o⟩
 ·have Hf := hid (Hbne.o hbq)
  have q1 : (b1 != b2) = true := by simpa using hbq
  clear hbq
  go_enter Tryz.func31, Tryz.ntmps31
  go_wp2_with fail
  rw [HX.o, HY.o]
  go_ret
  exact ⟨retB Hf.o, HB.o⟩
end
section
open Go.RowKit
set_option maxRecDepth 100000 in
set_option maxHeartbeats 4000000 in
theorem rrup_any {w : World} {F G H : Nat → Prop} {A : Option Addr} {n c : Nat} {D : List Pb} {v : Value} {L : List Int} (hp : PsRd w F G A n c D) (hD : OkN 7 D) (hc : PbRd w H v (clauseB L).1) (hL : ∀ l ∈ L, litB l = true ∧ l.natAbs ≤ 7) (h8 : L.length ≤ 8) (hr : RupX D L) (hn : n ≤ 90000) :
  Calls Tryz.prog 29 #[.int .i64 7, .slice A n c, v] w fun r w' => r = .returned (.bool true) ∧ Below w.heap.size w w' := by
 obtain ⟨hneg, hqok, hqlt, _⟩ := neg_ok hL h8
 obtain ⟨hcok, hclt⟩ := clauseB_okN hL h8
 have hcf := hcok.fewn hclt
 obtain ⟨q, hq⟩ : ∃ q, (clauseB L).1.negB.1 = q := ⟨_, rfl⟩
 have Hqe := hid hq
 rw [hq] at hqok hqlt
 have Hci := hid hcok.i64
 have HD := hid hD
 have HL := hid hL
 have Hr := hid hr
 have Hoka := hid (show ∀ p ∈ D ++ [q], p.Ok ∧ ∀ l ∈ p.lits, l.natAbs ≤ 7 from fun p hp => by
  rcases List.mem_append.1 hp with hp | hp
  ·exact hD p hp
  ·rw [List.mem_singleton.1 hp]; exact ⟨hqok, hqlt⟩)
 obtain ⟨ts, hT, hPs, hdl⟩ := hp
 have Hone := hid hPs.one
 have HT := hid (hT.mono (G := fun g => g < w.heap.size) fun g hg _ => hg)
 have HPs := hid (hPs.mono (G := fun g => g < w.heap.size) fun g hg _ => hg)
 have Hdl := hid hdl
 have hc0 := hc
 obtain ⟨⟨P1, m1, d1, P2, m2, d2, rfl, _, _⟩, _⟩ := hc0
 obtain ⟨X0, hX, bX, kX, sX⟩ := alloc_step w (.cells #[.slice P1 m1 d1, .slice P2 m2 d2, .int .i64 (clauseB L).1.bound] 41)
 obtain ⟨z0, hz0⟩ : ∃ z, w.heap.size = z := ⟨_, rfl⟩
 rw [hz0] at kX
 obtain ⟨q0, q1, q2⟩ := box3 kX
 rw [← hX] at q0 q1 q2
 have HX0 := hid hX
 have Hc := hid (hc.below bX)
 have HT := hid (HT.o.below bX)
 have HPs := hid (HPs.o.below bX)
 have HB := hid bX
 have Hneg := hid hneg
 obtain ⟨bd, hbd⟩ : ∃ b, (clauseB L).1.bound = b := ⟨_, rfl⟩
 clear hq hD hL hr hT hPs hdl hc hX bX kX sX hneg hqok hqlt hcok hclt
 rw [hbd] at q0 q1 q2 HX0 ⊢
 go_enter Tryz.func29, Tryz.ntmps29
 go_wp2_with fail
 try rw [hz0]
 rw [HX0.o]
 rw [← hbd]
 refine (rnegate_any Hc.o Hci.o (by omega)).mono ?_
 rintro r w1 ⟨⟨pv, rfl, hpv⟩, b1⟩
 rw [Hneg.o]
 rw [Hqe.o] at hpv
 have hpv0 := hpv
 obtain ⟨⟨Q1, k1, e1, Q2, k2, e2, rfl, _, _⟩, _⟩ := hpv0
 have HT := hid (HT.o.below b1)
 have HPs := hid (HPs.o.below b1)
 have HB := hid (HB.o.trans (b1.mono HB.o.size))
 obtain ⟨X2, hX, bX, kX, sX⟩ := alloc_step w1 (.cells #[.slice Q1 k1 e1, .slice Q2 k2 e2, .int .i64 q.bound] 41)
 obtain ⟨zn, hzn⟩ : ∃ z, w1.heap.size = z := ⟨_, rfl⟩
 rw [hzn] at kX
 have HX2 := hid hX
 have HN := hid (hpv.below bX)
 have HT := hid (HT.o.below bX)
 have HPs := hid (HPs.o.below bX)
 have HB := hid (HB.o.trans (bX.mono HB.o.size))
 have KN := hid kX
 obtain ⟨n0, n1, n2⟩ := box3 kX
 rw [← hX] at n0 n1 n2
 have Hq1 := hid (show ∀ u ∈ [Value.slice Q1 k1 e1, .slice Q2 k2 e2, .int .i64 q.bound], u.oneCell' = true from pb_one hpv)
 clear hpv b1 hX bX kX sX q0 q1 q2 HX0
 go_wp2_with fail
 try rw [hzn]
 rw [HX2.o] at n0 n1 n2 ⊢
 refine wp_region_held_drew (S := fun w' => w'.cell? ⟨zn, 0, none⟩ = some (.slice Q1 k1 e1) ∧ w'.cell? ⟨zn, 1, none⟩ = some (.slice Q2 k2 e2) ∧ w'.cell? ⟨zn, 2, none⟩ = some (.int .i64 q.bound)) (by kernel_rfl) ⟨n0, n1, n2⟩ (fun hHeld => ?_)
 obtain ⟨WD, hWD⟩ : ∃ Y, X2.drew = Y := ⟨_, rfl⟩
 have bD : Below X2.heap.size X2 X2.drew := Bl.drew (Below.refl _ _)
 have HN := hid (HN.o.below bD)
 have HT := hid (HT.o.below bD)
 have HPs := hid (HPs.o.below bD)
 have KN := hid (keep_blk KN.o bD)
 have HB := hid (HB.o.trans (bD.mono HB.o.size))
 rw [hWD] at hHeld HN HT HPs KN HB ⊢
 clear hWD bD n0 n1 n2 HX2
 obtain ⟨zD, hzD⟩ : ∃ z, WD.heap.size = z := ⟨_, rfl⟩
 have hz : zD ≤ WD.heap.size := by omega
 have hwz : w.heap.size ≤ zD := by have := HB.o.size; omega
 have hznD : zn < zD := by have := lt_of_block KN.o; omega
 have HT := hid (HT.o.mono (G := fun g => g < zD) fun g hg _ => by omega)
 have HPs := hid (HPs.o.mono (G := fun g => g < zD) fun g hg _ => by omega)
 have HN := hid (HN.o.mono (F := _) (G := fun g => g < zD) fun g hg _ => by omega)
 clear hzD
 refine tk 0 ?_
 refine tk 2 ?_
 refine tk 4 ?_
 refine wpAnyH_ready (rs := [1, 5]) (by kernel_rfl) (by simp) (AllReadyH.cons (o := ⟨_, _, _, _, _, _⟩) rfl (fun K hK => ?_) (AllReadyH.cons (o := ⟨_, _, _, _, _, _⟩) rfl (fun K hK => ?_) AllReadyH.nil))
 ·go_simp
  obtain ⟨V1, hX, bX, kX, sX⟩ := alloc_step WD (.cells #[] 41)
  rw [hX]
  have HT := hid (HT.o.below bX)
  have HPs := hid (HPs.o.below bX)
  have HN := hid (HN.o.below bX)
  have KN := hid (keep_blk KN.o bX)
  have HB := hid (HB.o.trans (bX.mono HB.o.size))
  have hz := Nat.le_trans hz bX.size
  obtain ⟨z1, hz1⟩ : ∃ z, WD.heap.size = z := ⟨_, rfl⟩
  rw [hz1]
  clear hX bX kX sX hz1
  obtain ⟨n0, n1, n2⟩ := box3 KN.o
  refine hK.out _ _ ⟨n0, n1, n2⟩ (fun hHeld => ?_)
  clear hK K n0 n1 n2
  refine wpAnyH_ready (rs := [3, 5]) (by kernel_rfl) (by simp) (AllReadyH.cons (o := ⟨_, _, _, _, _, _⟩) rfl (fun K hK => ?_) (AllReadyH.cons (o := ⟨_, _, _, _, _, _⟩) rfl (fun K hK => ?_) AllReadyH.nil))
  ·refine step_append_pb rfl _ _ rfl (Own.none_ _ (fun _ => False) _ _ _) HT.o rfl rfl Hone.o (by omega) fun A3 c3 V3 ho hm hr => ?_
   rw [Nat.zero_add, List.nil_append] at ho
   rw [Nat.zero_add]
   have hrow : ∀ g, row (.slice (some ⟨z1, 0, none⟩) 0 0) g → zD ≤ g := fun g hr => by rw [row_none] at hr; exact hr.elim
   have O3 := hid (ho.mono (G := fun g => zD ≤ g) fun g _ _ h => h.elim (fun h => h.elim) fun h => Nat.le_trans hz h)
   have HT := hid (HT.o.mod hm fun g _ hg hr => by have := hrow g hr; omega)
   have HPs := hid (HPs.o.mod hm fun g _ hg hr => by have := hrow g hr; omega)
   have HN := hid (HN.o.mod hm fun g _ hg hr => by have := hrow g hr; omega)
   have KN := hid ((hm.block _ (lt_of_block KN.o) fun hr => by have := hrow _ hr; omega).trans KN.o)
   have HB := hid (below_mod HB.o HB.o.size hm fun g hr => by have := hrow g hr; omega)
   have hz := Nat.le_trans hz hm.size
   clear ho hm hr hrow
   obtain ⟨n0, n1, n2⟩ := box3 KN.o
   refine hK.out _ _ ⟨n0, n1, n2⟩ (fun hHeld => ?_)
   clear hK K n0 n1 n2
   refine rd1 5 fun K hK => ?_
   go_simp
   obtain ⟨V5, hX, bX, kX, sX⟩ := alloc_step V3 (.cells #[.slice Q1 k1 e1, .slice Q2 k2 e2, .int .i64 q.bound] 41)
   rw [hX]
   have HT := hid (HT.o.below bX)
   have HPs := hid (HPs.o.below bX)
   have HN := hid (HN.o.below bX)
   have KN := hid (keep_blk KN.o bX)
   have HB := hid (HB.o.trans (bX.mono HB.o.size))
   have hz := Nat.le_trans hz bX.size
   have O3 := hid (O3.o.below bX)
   obtain ⟨z5, hz5⟩ : ∃ z, V3.heap.size = z := ⟨_, rfl⟩
   rw [hz5] at kX ⊢
   have K5 := hid ((rd_lit3 kX).mono (G := fun g => g = z5) fun g _ h => h)
   clear hX bX kX sX hz5
   obtain ⟨n0, n1, n2⟩ := box3 KN.o
   refine hK.out _ _ ⟨n0, n1, n2⟩ (fun hHeld => ?_)
   clear hK K n0 n1 n2
   refine rd1 6 fun K hK => ?_
   refine step_append_pb rfl _ _ rfl O3.o K5.o rfl rfl Hq1.o (by omega) fun A6 c6 V6 ho hm hr => ?_
   have hrow : ∀ g, row (.slice A3 n c3) g → zD ≤ g := fun g hr => (O3.o.row hr).1
   have hz6 := hz
   have HT := hid (HT.o.mod hm fun g _ hg hr => by have := hrow g hr; omega)
   have HPs := hid (HPs.o.mod hm fun g _ hg hr => by have := hrow g hr; omega)
   have HN := hid (HN.o.mod hm fun g _ hg hr => by have := hrow g hr; omega)
   have KN := hid ((hm.block _ (lt_of_block KN.o) fun hr => by have := hrow _ hr; omega).trans KN.o)
   have HB := hid (below_mod HB.o HB.o.size hm fun g hr => by have := hrow g hr; omega)
   have hz := Nat.le_trans hz hm.size
   have HQ := hid (show PsRd V6 (fun _ => True) (fun g => g < zD) A6 (n + 1) c6 (D ++ [q]) from ⟨ts ++ [(.slice Q1 k1 e1, .slice Q2 k2 e2, .int .i64 q.bound)], by rw [flat3_append]; exact ho.rd.mono fun _ _ _ => trivial, HPs.o.snoc (t := (.slice Q1 k1 e1, .slice Q2 k2 e2, .int .i64 q.bound)) HN.o, by rw [List.length_append, Hdl.o]; rfl⟩)
   clear ho hm hr hrow hz6 O3 K5
   obtain ⟨n0, n1, n2⟩ := box3 KN.o
   refine hK.out _ _ ⟨n0, n1, n2⟩ (fun hHeld => ?_)
   clear hK K n0 n1 n2
   refine rd1 7 fun K hK => ?_
   go_simp
   have hcl := rclosed32_any HQ.o Hoka.o (by omega)
   refine hcl.mono ?_
   rintro r w7 ⟨⟨A7, c7, f, xs, rfl, _, hxi, _, hcalm, _⟩, b7⟩
   obtain rfl : f = true := rup_found HD.o HL.o h8 Hr.o (by rw [Hqe.o]; exact hxi) (by rw [Hqe.o]; exact hcalm)
   have KN := hid (keep_blk KN.o b7)
   have HB := hid (HB.o.trans (b7.mono HB.o.size))
   clear hcl b7 hxi hcalm
   go_simp
   obtain ⟨n0, n1, n2⟩ := box3 KN.o
   refine hK.out _ _ ⟨n0, n1, n2⟩ (fun hHeld => ?_)
   clear hK K n0 n1 n2
   refine tk 8 ?_
   refine tk 9 ?_
   refine tk 10 ?_
   refine tk 11 ?_
   refine tk 12 ?_
   refine wpAnyH_done (by kernel_rfl) ?_ _
   clear hHeld
   go_wp2_with fail
   go_ret
   exact ⟨rfl, hz0 ▸ HB.o⟩
  ·go_simp
   obtain ⟨V5, hX, bX, kX, sX⟩ := alloc_step V1 (.cells #[.slice Q1 k1 e1, .slice Q2 k2 e2, .int .i64 q.bound] 41)
   rw [hX]
   have HT := hid (HT.o.below bX)
   have HPs := hid (HPs.o.below bX)
   have HN := hid (HN.o.below bX)
   have KN := hid (keep_blk KN.o bX)
   have HB := hid (HB.o.trans (bX.mono HB.o.size))
   have hz := Nat.le_trans hz bX.size
   obtain ⟨z5, hz5⟩ : ∃ z, V1.heap.size = z := ⟨_, rfl⟩
   rw [hz5] at kX ⊢
   have K5 := hid ((rd_lit3 kX).mono (G := fun g => g = z5) fun g _ h => h)
   clear hX bX kX sX hz5
   obtain ⟨n0, n1, n2⟩ := box3 KN.o
   refine hK.out _ _ ⟨n0, n1, n2⟩ (fun hHeld => ?_)
   clear hK K n0 n1 n2
   refine rd1 3 fun K hK => ?_
   refine step_append_pb rfl _ _ rfl (Own.none_ _ (fun _ => False) _ _ _) HT.o rfl rfl Hone.o (by omega) fun A3 c3 V3 ho hm hr => ?_
   rw [Nat.zero_add, List.nil_append] at ho
   rw [Nat.zero_add]
   have hrow : ∀ g, row (.slice (some ⟨z1, 0, none⟩) 0 0) g → zD ≤ g := fun g hr => by rw [row_none] at hr; exact hr.elim
   have O3 := hid (ho.mono (G := fun g => zD ≤ g) fun g _ _ h => h.elim (fun h => h.elim) fun h => Nat.le_trans hz h)
   have HT := hid (HT.o.mod hm fun g _ hg hr => by have := hrow g hr; omega)
   have HPs := hid (HPs.o.mod hm fun g _ hg hr => by have := hrow g hr; omega)
   have HN := hid (HN.o.mod hm fun g _ hg hr => by have := hrow g hr; omega)
   have KN := hid ((hm.block _ (lt_of_block KN.o) fun hr => by have := hrow _ hr; omega).trans KN.o)
   have HB := hid (below_mod HB.o HB.o.size hm fun g hr => by have := hrow g hr; omega)
   have hz := Nat.le_trans hz hm.size
   have K5 := hid (K5.o.mod hm fun g _ _ hr => by rw [row_none] at hr; exact hr)
   clear ho hm hr hrow
   obtain ⟨n0, n1, n2⟩ := box3 KN.o
   refine hK.out _ _ ⟨n0, n1, n2⟩ (fun hHeld => ?_)
   clear hK K n0 n1 n2
   refine rd1 6 fun K hK => ?_
   refine step_append_pb rfl _ _ rfl O3.o K5.o rfl rfl Hq1.o (by omega) fun A6 c6 V6 ho hm hr => ?_
   have hrow : ∀ g, row (.slice A3 n c3) g → zD ≤ g := fun g hr => (O3.o.row hr).1
   have hz6 := hz
   have HT := hid (HT.o.mod hm fun g _ hg hr => by have := hrow g hr; omega)
   have HPs := hid (HPs.o.mod hm fun g _ hg hr => by have := hrow g hr; omega)
   have HN := hid (HN.o.mod hm fun g _ hg hr => by have := hrow g hr; omega)
   have KN := hid ((hm.block _ (lt_of_block KN.o) fun hr => by have := hrow _ hr; omega).trans KN.o)
   have HB := hid (below_mod HB.o HB.o.size hm fun g hr => by have := hrow g hr; omega)
   have hz := Nat.le_trans hz hm.size
   have HQ := hid (show PsRd V6 (fun _ => True) (fun g => g < zD) A6 (n + 1) c6 (D ++ [q]) from ⟨ts ++ [(.slice Q1 k1 e1, .slice Q2 k2 e2, .int .i64 q.bound)], by rw [flat3_append]; exact ho.rd.mono fun _ _ _ => trivial, HPs.o.snoc (t := (.slice Q1 k1 e1, .slice Q2 k2 e2, .int .i64 q.bound)) HN.o, by rw [List.length_append, Hdl.o]; rfl⟩)
   clear ho hm hr hrow hz6 O3 K5
   obtain ⟨n0, n1, n2⟩ := box3 KN.o
   refine hK.out _ _ ⟨n0, n1, n2⟩ (fun hHeld => ?_)
   clear hK K n0 n1 n2
   refine rd1 7 fun K hK => ?_
   go_simp
   have hcl := rclosed32_any HQ.o Hoka.o (by omega)
   refine hcl.mono ?_
   rintro r w7 ⟨⟨A7, c7, f, xs, rfl, _, hxi, _, hcalm, _⟩, b7⟩
   obtain rfl : f = true := rup_found HD.o HL.o h8 Hr.o (by rw [Hqe.o]; exact hxi) (by rw [Hqe.o]; exact hcalm)
   have KN := hid (keep_blk KN.o b7)
   have HB := hid (HB.o.trans (b7.mono HB.o.size))
   clear hcl b7 hxi hcalm
   go_simp
   obtain ⟨n0, n1, n2⟩ := box3 KN.o
   refine hK.out _ _ ⟨n0, n1, n2⟩ (fun hHeld => ?_)
   clear hK K n0 n1 n2
   refine tk 8 ?_
   refine tk 9 ?_
   refine tk 10 ?_
   refine tk 11 ?_
   refine tk 12 ?_
   refine wpAnyH_done (by kernel_rfl) ?_ _
   clear hHeld
   go_wp2_with fail
   go_ret
   exact ⟨rfl, hz0 ▸ HB.o⟩
 ·go_simp
  obtain ⟨V5, hX, bX, kX, sX⟩ := alloc_step WD (.cells #[.slice Q1 k1 e1, .slice Q2 k2 e2, .int .i64 q.bound] 41)
  rw [hX]
  have HT := hid (HT.o.below bX)
  have HPs := hid (HPs.o.below bX)
  have HN := hid (HN.o.below bX)
  have KN := hid (keep_blk KN.o bX)
  have HB := hid (HB.o.trans (bX.mono HB.o.size))
  have hz := Nat.le_trans hz bX.size
  obtain ⟨z5, hz5⟩ : ∃ z, WD.heap.size = z := ⟨_, rfl⟩
  rw [hz5] at kX ⊢
  have K5 := hid ((rd_lit3 kX).mono (G := fun g => g = z5) fun g _ h => h)
  clear hX bX kX sX hz5
  obtain ⟨n0, n1, n2⟩ := box3 KN.o
  refine hK.out _ _ ⟨n0, n1, n2⟩ (fun hHeld => ?_)
  clear hK K n0 n1 n2
  refine rd1 1 fun K hK => ?_
  go_simp
  obtain ⟨V1, hX, bX, kX, sX⟩ := alloc_step V5 (.cells #[] 41)
  rw [hX]
  have HT := hid (HT.o.below bX)
  have HPs := hid (HPs.o.below bX)
  have HN := hid (HN.o.below bX)
  have KN := hid (keep_blk KN.o bX)
  have HB := hid (HB.o.trans (bX.mono HB.o.size))
  have hz := Nat.le_trans hz bX.size
  have K5 := hid (K5.o.below bX)
  obtain ⟨z1, hz1⟩ : ∃ z, V5.heap.size = z := ⟨_, rfl⟩
  rw [hz1]
  clear hX bX kX sX hz1
  obtain ⟨n0, n1, n2⟩ := box3 KN.o
  refine hK.out _ _ ⟨n0, n1, n2⟩ (fun hHeld => ?_)
  clear hK K n0 n1 n2
  refine rd1 3 fun K hK => ?_
  refine step_append_pb rfl _ _ rfl (Own.none_ _ (fun _ => False) _ _ _) HT.o rfl rfl Hone.o (by omega) fun A3 c3 V3 ho hm hr => ?_
  rw [Nat.zero_add, List.nil_append] at ho
  rw [Nat.zero_add]
  have hrow : ∀ g, row (.slice (some ⟨z1, 0, none⟩) 0 0) g → zD ≤ g := fun g hr => by rw [row_none] at hr; exact hr.elim
  have O3 := hid (ho.mono (G := fun g => zD ≤ g) fun g _ _ h => h.elim (fun h => h.elim) fun h => Nat.le_trans hz h)
  have HT := hid (HT.o.mod hm fun g _ hg hr => by have := hrow g hr; omega)
  have HPs := hid (HPs.o.mod hm fun g _ hg hr => by have := hrow g hr; omega)
  have HN := hid (HN.o.mod hm fun g _ hg hr => by have := hrow g hr; omega)
  have KN := hid ((hm.block _ (lt_of_block KN.o) fun hr => by have := hrow _ hr; omega).trans KN.o)
  have HB := hid (below_mod HB.o HB.o.size hm fun g hr => by have := hrow g hr; omega)
  have hz := Nat.le_trans hz hm.size
  have K5 := hid (K5.o.mod hm fun g _ _ hr => by rw [row_none] at hr; exact hr)
  clear ho hm hr hrow
  obtain ⟨n0, n1, n2⟩ := box3 KN.o
  refine hK.out _ _ ⟨n0, n1, n2⟩ (fun hHeld => ?_)
  clear hK K n0 n1 n2
  refine rd1 6 fun K hK => ?_
  refine step_append_pb rfl _ _ rfl O3.o K5.o rfl rfl Hq1.o (by omega) fun A6 c6 V6 ho hm hr => ?_
  have hrow : ∀ g, row (.slice A3 n c3) g → zD ≤ g := fun g hr => (O3.o.row hr).1
  have hz6 := hz
  have HT := hid (HT.o.mod hm fun g _ hg hr => by have := hrow g hr; omega)
  have HPs := hid (HPs.o.mod hm fun g _ hg hr => by have := hrow g hr; omega)
  have HN := hid (HN.o.mod hm fun g _ hg hr => by have := hrow g hr; omega)
  have KN := hid ((hm.block _ (lt_of_block KN.o) fun hr => by have := hrow _ hr; omega).trans KN.o)
  have HB := hid (below_mod HB.o HB.o.size hm fun g hr => by have := hrow g hr; omega)
  have hz := Nat.le_trans hz hm.size
  have HQ := hid (show PsRd V6 (fun _ => True) (fun g => g < zD) A6 (n + 1) c6 (D ++ [q]) from ⟨ts ++ [(.slice Q1 k1 e1, .slice Q2 k2 e2, .int .i64 q.bound)], by rw [flat3_append]; exact ho.rd.mono fun _ _ _ => trivial, HPs.o.snoc (t := (.slice Q1 k1 e1, .slice Q2 k2 e2, .int .i64 q.bound)) HN.o, by rw [List.length_append, Hdl.o]; rfl⟩)
  clear ho hm hr hrow hz6 O3 K5
  obtain ⟨n0, n1, n2⟩ := box3 KN.o
  refine hK.out _ _ ⟨n0, n1, n2⟩ (fun hHeld => ?_)
  clear hK K n0 n1 n2
  refine rd1 7 fun K hK => ?_
  go_simp
  have hcl := rclosed32_any HQ.o Hoka.o (by omega)
  refine hcl.mono ?_
  rintro r w7 ⟨⟨A7, c7, f, xs, rfl, _, hxi, _, hcalm, _⟩, b7⟩
  obtain rfl : f = true := rup_found HD.o HL.o h8 Hr.o (by rw [Hqe.o]; exact hxi) (by rw [Hqe.o]; exact hcalm)
  have KN := hid (keep_blk KN.o b7)
  have HB := hid (HB.o.trans (b7.mono HB.o.size))
  clear hcl b7 hxi hcalm
  go_simp
  obtain ⟨n0, n1, n2⟩ := box3 KN.o
  refine hK.out _ _ ⟨n0, n1, n2⟩ (fun hHeld => ?_)
  clear hK K n0 n1 n2
  refine tk 8 ?_
  refine tk 9 ?_
  refine tk 10 ?_
  refine tk 11 ?_
  refine tk 12 ?_
  refine wpAnyH_done (by kernel_rfl) ?_ _
  clear hHeld
  go_wp2_with fail
  go_ret
  exact ⟨rfl, hz0 ▸ HB.o⟩
end
end Go.Proofs.YtcjmpobccbnpkaaGreat
