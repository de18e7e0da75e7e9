/-
 Chapter 32: several texts in one (PbShelf PbK PbD).
-/
import Derived.Test.YtcjmpobccbnpkaaGreatMjaq
import Derived.Shelf.Strconv.Itoa3
import Derived.Shelf.Sort.Plain
import Derived.Shelf.Slices.Equal
import Derived.Ground.Names2Prog
import Derived.Shelf.Slices.CompactI
import Derived.Shelf.Slices.In.SortNone
import Derived.Shelf.Slices.Empties2
import Derived.Shelf.GgSortFunc.Compose
import Derived.Test.YtcjmpobccbnpkaaGreatMjap
import Derived.Shelf.RegionOpen
namespace Go.Proofs.YtcjmpobccbnpkaaGreat
section
open Go.Shelf Go.Proofs Go.RowKit
def sh_lays189_ren : Go.Shelf.Ren := ⟨fun | 189 => 79 | 125 => 72 | 257 => 104 | 128 => 102 | 129 => 103 | 294 => 128 | 295 => 129 | 296 => 130 | 297 => 131 | 298 => 132 | 299 => 133 | 216 => 134 | 300 => 135 | 301 => 136 | 328 => 143 | 329 => 144 | 330 => 145 | 331 => 146 | 332 => 147 | 215 => 148 | 343 => 150 | n => n, fun | 28 => 23 | 3 => 3 | 46 => 102 | 0 => 0 | 51 => 57 | 53 => 155 | 4 => 4 | 183 => 174 | 182 => 173 | 131 => 151 | 5 => 5 | 9 => 9 | 218 => 192 | 222 => 196 | 228 => 200 | 229 => 201 | n => n, fun | n => n⟩
theorem sh_lays189 : Go.Proofs.Lays.n189 Tryz.prog sh_lays189_ren := {
 mixed := by kernel_rfl
 f125 := Tryz.func72.trans (congrArg some (by kernel_rfl))
 f128 := Tryz.func102.trans (congrArg some (by kernel_rfl))
 f129 := Tryz.func103.trans (congrArg some (by kernel_rfl))
 f189 := Tryz.func79.trans (congrArg some (by kernel_rfl))
 f215 := Tryz.func148.trans (congrArg some (by kernel_rfl))
 f216 := Tryz.func134.trans (congrArg some (by kernel_rfl))
 f257 := Tryz.func104.trans (congrArg some (by kernel_rfl))
 f294 := Tryz.func128.trans (congrArg some (by kernel_rfl))
 f295 := Tryz.func129.trans (congrArg some (by kernel_rfl))
 f296 := Tryz.func130.trans (congrArg some (by kernel_rfl))
 f297 := Tryz.func131.trans (congrArg some (by kernel_rfl))
 f298 := Tryz.func132.trans (congrArg some (by kernel_rfl))
 f299 := Tryz.func133.trans (congrArg some (by kernel_rfl))
 f300 := Tryz.func135.trans (congrArg some (by kernel_rfl))
 f301 := Tryz.func136.trans (congrArg some (by kernel_rfl))
 f328 := Tryz.func143.trans (congrArg some (by kernel_rfl))
 f329 := Tryz.func144.trans (congrArg some (by kernel_rfl))
 f330 := Tryz.func145.trans (congrArg some (by kernel_rfl))
 f331 := Tryz.func146.trans (congrArg some (by kernel_rfl))
 f332 := Tryz.func147.trans (congrArg some (by kernel_rfl))
 f343 := Tryz.func150.trans (congrArg some (by kernel_rfl))
 t0 := Tryz.underlying0
 a0 := Tryz.isAgg0
 z0 := Tryz.sizeOf0
 v0 := Tryz.zeroValue0
 t3 := Tryz.underlying3
 a3 := Tryz.isAgg3
 z3 := Tryz.sizeOf3
 v3 := Tryz.zeroValue3
 t4 := Tryz.underlying4
 a4 := Tryz.isAgg4
 z4 := Tryz.sizeOf4
 v4 := Tryz.zeroValue4
 t5 := Tryz.underlying5
 a5 := Tryz.isAgg5
 z5 := Tryz.sizeOf5
 v5 := Tryz.zeroValue5
 t9 := Tryz.underlying9
 a9 := Tryz.isAgg9
 z9 := Tryz.sizeOf9
 v9 := Tryz.zeroValue9
 t28 := Tryz.underlying23
 a28 := Tryz.isAgg23
 z28 := Tryz.sizeOf23
 v28 := Tryz.zeroValue23
 t46 := Tryz.underlying102
 a46 := Tryz.isAgg102
 z46 := Tryz.sizeOf102
 v46 := Tryz.zeroValue102
 t51 := Tryz.underlying57
 a51 := Tryz.isAgg57
 z51 := Tryz.sizeOf57
 v51 := Tryz.zeroValue57
 t53 := Tryz.underlying155
 a53 := Tryz.isAgg155
 z53 := Tryz.sizeOf155
 v53 := Tryz.zeroValue155
 t131 := Tryz.underlying151
 a131 := Tryz.isAgg151
 z131 := Tryz.sizeOf151
 v131 := Tryz.zeroValue151
 t182 := Tryz.underlying173
 a182 := Tryz.isAgg173
 z182 := Tryz.sizeOf173
 v182 := Tryz.zeroValue173
 t183 := Tryz.underlying174
 a183 := Tryz.isAgg174
 z183 := Tryz.sizeOf174
 v183 := Tryz.zeroValue174
 t218 := Tryz.underlying192
 a218 := Tryz.isAgg192
 z218 := Tryz.sizeOf192
 v218 := Tryz.zeroValue192
 t222 := Tryz.underlying196
 a222 := Tryz.isAgg196
 z222 := Tryz.sizeOf196
 v222 := Tryz.zeroValue196
 t228 := Tryz.underlying200
 a228 := Tryz.isAgg200
 z228 := Tryz.sizeOf200
 v228 := Tryz.zeroValue200
 t229 := Tryz.underlying201
 a229 := Tryz.isAgg201
 z229 := Tryz.sizeOf201
 v229 := Tryz.zeroValue201 }
open Go.Sort Go.RowKit in
theorem sh_slices_Sort_int (blk off cap : Nat) (zs : List Int) (w : World) (hH : Holds (Value.int .i64) w blk off zs.toArray) (hblk : blk < w.heap.size) (hsz : zs.length < 4611686018427387904) :
  Calls Tryz.prog 79 #[.slice (some ⟨blk, off, none⟩) zs.length cap] w fun e w' =>
   e = .returned (.tuple #[]) ∧ ∃ n os, w' = grow (putRow (Value.int .i64) (Sort.ahead w n) blk off (zs.mergeSort fun x y => decide (x ≤ y)).toArray) os := Any.slices_Sort_int sh_lays189 blk off cap zs w hH hblk hsz
def sh_lays111_ren : Go.Shelf.Ren := ⟨fun | 111 => 54 | n => n, fun | 28 => 23 | 3 => 3 | 4 => 4 | 0 => 0 | n => n, fun | n => n⟩
theorem sh_lays111 : Go.Proofs.Lays.n111 Tryz.prog sh_lays111_ren := {
 mixed := by kernel_rfl
 f111 := Tryz.func54.trans (congrArg some (by kernel_rfl))
 t0 := Tryz.underlying0
 a0 := Tryz.isAgg0
 z0 := Tryz.sizeOf0
 v0 := Tryz.zeroValue0
 t3 := Tryz.underlying3
 a3 := Tryz.isAgg3
 z3 := Tryz.sizeOf3
 v3 := Tryz.zeroValue3
 t4 := Tryz.underlying4
 a4 := Tryz.isAgg4
 z4 := Tryz.sizeOf4
 v4 := Tryz.zeroValue4
 t28 := Tryz.underlying23
 a28 := Tryz.isAgg23
 z28 := Tryz.sizeOf23
 v28 := Tryz.zeroValue23 }
open Go.RowKit Go.Lib in
theorem sh_slices_Equal_int (b1 o1 n c b2 o2 m d : Nat) (xs ys : List Int) (w : World) (hx : n ≤ xs.length) (hy : m ≤ ys.length) (hbig : n ≤ 9223372036854775807) (hbig2 : m ≤ 9223372036854775807) (hc1 : ∀ j, j < xs.length → w.cell? ⟨b1, o1 + j, none⟩ = some (.int .i64 (xs.getD j 0))) (hc2 : ∀ j, j < ys.length → w.cell? ⟨b2, o2 + j, none⟩ = some (.int .i64 (ys.getD j 0))) :
  Calls Tryz.prog 54 #[.slice (some ⟨b1, o1, none⟩) n c, .slice (some ⟨b2, o2, none⟩) m d] w fun e w' => e = .returned (.bool (xs.take n == ys.take m)) ∧ ∃ q, w' = w.drewN q := Any.slices_Equal_int sh_lays111 b1 o1 n c b2 o2 m d xs ys w hx hy hbig hbig2 hc1 hc2
open Go.RowKit Go.Lib in
theorem sh_slices_Equal_int_empty (a1 a2 : Option Addr) (c m d : Nat) (w : World) (hbig2 : m ≤ 9223372036854775807) :
  Calls Tryz.prog 54 #[.slice a1 0 c, .slice a2 m d] w fun e w' => e = .returned (.bool (decide (m = 0))) ∧ w' = w := Any.slices_Equal_int_empty sh_lays111 a1 a2 c m d w hbig2
def sh_laysNm220_ren : Go.Shelf.Ren := ⟨fun | 20 => 85 | n => n, fun | 22 => 23 | 3 => 3 | 4 => 4 | 0 => 0 | n => n, fun | n => n⟩
theorem sh_laysNm220 : Go.Proofs.Lays2.n20 Tryz.prog sh_laysNm220_ren := {
 mixed := by kernel_rfl
 f20 := Tryz.func85.trans (congrArg some (by kernel_rfl))
 t0 := Tryz.underlying0
 a0 := Tryz.isAgg0
 z0 := Tryz.sizeOf0
 v0 := Tryz.zeroValue0
 t3 := Tryz.underlying3
 a3 := Tryz.isAgg3
 z3 := Tryz.sizeOf3
 v3 := Tryz.zeroValue3
 t4 := Tryz.underlying4
 a4 := Tryz.isAgg4
 z4 := Tryz.sizeOf4
 v4 := Tryz.zeroValue4
 t22 := Tryz.underlying23
 a22 := Tryz.isAgg23
 z22 := Tryz.sizeOf23
 v22 := Tryz.zeroValue23
 i3 := by kernel_rfl }
open Go.RowKit Go.Lib Go.Sort in
theorem sh_slices_Compact_int (blk off cap : Nat) (zs : List Int) (w : World) (hH : Holds (Value.int .i64) w blk off zs.toArray) (hsz : zs.length ≤ 9223372036854775807) (hcap : zs.length ≤ cap) :
  Calls Tryz.prog 85 #[.slice (some ⟨blk, off, none⟩) zs.length cap] w fun e w' => e = .returned (.slice (some ⟨blk, off, none⟩) (Lib.compact zs).length cap) ∧ ∃ q, w' = putRow (Value.int .i64) (Sort.ahead w q) blk off (Lib.compact zs ++ List.replicate (zs.length - (Lib.compact zs).length) 0).toArray := Any.slices_Compact_int sh_laysNm220 blk off cap zs w hH hsz hcap
open Go.RowKit Go.Lib Go.Sort in
theorem sh_slices_Compact_int_empty (a : Option Addr) (cap : Nat) (w : World) :
  Calls Tryz.prog 85 #[.slice a 0 cap] w fun e w' => e = .returned (.slice a 0 cap) ∧ w' = w := Any.slices_Compact_int_empty sh_laysNm220 a cap w
open Go.RowKit Go.Sort in
theorem sh_slices_Sort_int_none (p : Option Addr) (cap : Nat) (w : World) :
  Calls Tryz.prog 79 #[.slice p 0 cap] w fun e w' => e = .returned (.tuple #[]) ∧ w' = w := Any.slices_Sort_int_none sh_lays189 p cap w
open Go.RowKit Go.Lib in
theorem sh_slices_Equal_int_lens (a1 a2 : Option Addr) (n c m d : Nat) (w : World) (hnm : n ≠ m) :
  Calls Tryz.prog 54 #[.slice a1 n c, .slice a2 m d] w fun e w' => e = .returned (.bool false) ∧ w' = w := Any.slices_Equal_int_lens sh_lays111 a1 a2 n c m d w hnm
end
section
open Go.RowKit Go.Maps
def sortL (xs : List Int) : List Int := xs.mergeSort fun x y => decide (x ≤ y)
theorem sortL_perm (xs : List Int) : (sortL xs).Perm xs := List.mergeSort_perm _ _
theorem sortL_sorted (xs : List Int) : (sortL xs).Pairwise (fun x y => x ≤ y) := by
 have := List.pairwise_mergeSort (le := fun x y : Int => decide (x ≤ y)) (by intro a b c h1 h2; simp at *; omega) (by intro a b; simp; omega) xs
 exact this.imp fun h => by simpa using h
theorem sort_mod {α : Type} [Inhabited α] (enc : α → Value) (w : World) (blk off n : Nat) (d : Array α) (os : Array Obj) : Mod (fun g => g = blk) w (sortWorld enc w blk off n d os) := by
 refine ⟨rfl, rfl, rfl, ?_, fun k hk hne => ?_⟩
 ·unfold sortWorld
  rw [Go.Sort.size_grow]
  simp [Go.Sort.putRow, Go.Sort.mapBlock, Go.Sort.ahead]
 ·unfold sortWorld
  rw [Go.Sort.heap_grow_old _ _ (by simp [Go.Sort.putRow, Go.Sort.mapBlock, Go.Sort.ahead]; omega)]
  unfold Go.Sort.putRow Go.Sort.mapBlock Go.Sort.ahead
  simp only
  rw [Array.getElem?_modify, if_neg (fun e => hne e.symm)]
theorem Rd.empty' (w : World) (F : Nat → Prop) (R : Option Addr) (c : Nat) (hc : c ≤ maxLen) : Rd w F 1 (.slice R 0 c) 0 (ints []) := ⟨rfl, R, c, rfl, Nat.zero_le _, hc, fun h => absurd h (by omega)⟩
theorem sort_any {w : World} {F : Nat → Prop} {R : Option Addr} {n c : Nat} {xs : List Int} (ho : Own w F 3 1 (.slice R n c) n (ints xs)) (hn : n ≤ 1000000) :
  Calls Tryz.prog 79 #[.slice R n c] w fun r w' => r = .returned (.tuple #[]) ∧ Rd w' F 1 (.slice R n c) n (ints (sortL xs)) ∧ Mod (row (.slice R n c)) w w' := by
 have hl : xs.length = n := by have := ho.1; simpa [ints_length] using this
 rcases Nat.eq_zero_or_pos n with e | e
 ·subst e
  refine (sh_slices_Sort_int_none R c w).mono ?_
  rintro r w' ⟨rfl, rfl⟩
  have hx : xs = [] := List.length_eq_zero_iff.1 hl
  have hcm : c ≤ maxLen := by
   obtain ⟨_, _, hv, _, h, _⟩ := ho.form
   injection hv with _ _ h3
   omega
  exact ⟨rfl, by rw [hx, show sortL [] = [] by simp [sortL]]; exact Rd.empty' w' F R c hcm, Mod.refl _ _⟩
 ·obtain ⟨R', c', hv, hle, hmx, hg⟩ := ho.form
  injection hv with hv1 _ hv3
  subst hv1 hv3
  obtain ⟨g, rfl, hgF, hgl⟩ := hg (by omega)
  have hH : Go.Sort.Holds (Value.int .i64) w g 0 xs.toArray := by
   intro j hj
   have hj' : j < xs.length := by simpa using hj
   obtain ⟨g', e1, _, _, hc, hf⟩ := ho.cell (j := j) (by omega)
   injection e1 with e1
   injection e1 with e1
   subst e1
   rw [Nat.zero_add]
   refine ⟨?_, hf⟩
   rw [hc, ints_nth hj', nth_eq hj', getElem!_pos xs.toArray j hj]
   rfl
  have hsi := sh_slices_Sort_int g 0 c xs w hH hgl (by omega)
  rw [hl] at hsi
  refine hsi.mono ?_
  rintro r w' ⟨rfl, m, os, rfl⟩
  have hlen : (sortL xs).length = n := by rw [(sortL_perm xs).length_eq, hl]
  have hH2 := holds_sortWorld (Value.int .i64) w g 0 m xs.toArray (sortL xs).toArray os hgl hH (by simp [hlen, hl])
  have hm := sort_mod (Value.int .i64) w g 0 m (sortL xs).toArray os
  refine ⟨rfl, ⟨by rw [ints_length]; omega, _, c, rfl, hle, hmx, fun _ => ⟨g, 0, rfl, hgF, Nat.lt_of_lt_of_le hgl hm.size, fun j u hu => ?_⟩⟩, hm.mono fun k _ hk => ⟨by omega, hk.symm⟩⟩
  have hj : j < (sortL xs).length := by
   have := (List.getElem?_eq_some_iff.1 hu).1
   simpa [ints_length] using this
  rw [ints_nth hj, nth_eq hj] at hu
  injection hu with hu
  have h3 := (hH2 j (by simpa using hj)).1
  rw [getElem!_pos (sortL xs).toArray j (by simpa using hj)] at h3
  rw [← hu]
  exact h3
theorem minus_perm {f : Int → Int} {xs ys : List Int} (h : xs.Perm ys) : minus f xs = minus f ys := by
 induction h with
 | nil => rfl
 | cons x _ ih => unfold minus at *; simp only [List.map_cons, List.sum_cons]; rw [ih]
 | swap x y l => unfold minus; simp only [List.map_cons, List.sum_cons]; omega
 | trans _ _ h1 h2 => exact h1.trans h2
theorem normVars_rise (ls ks : List Int) : (normVars ls ks).Pairwise (fun x y => x < y) := by
 unfold normVars
 refine List.Pairwise.filter _ ?_
 rw [List.pairwise_map]
 exact List.pairwise_lt_range.imp fun h => by omega
theorem mem_normVars {ls ks : List Int} {v : Int} : v ∈ normVars ls ks ↔ 1 ≤ v ∧ v ≤ 65536 ∧ vsum ls ks ls.length v ≠ 0 := by
 unfold normVars
 rw [List.mem_filter, List.mem_map, decide_eq_true_eq]
 constructor
 ·rintro ⟨⟨i, hi, rfl⟩, h⟩
  have := List.mem_range.1 hi
  exact ⟨by omega, by omega, h⟩
 ·rintro ⟨h1, h2, h3⟩
  exact ⟨⟨(v - 1).toNat, List.mem_range.2 (by omega), by omega⟩, h3⟩
theorem vars_perm {ls ks : List Int} {f : Int → Int} (hf : vsum ls ks ls.length = f) {xs : List Int} (hn : xs.Nodup) (h1 : ∀ x ∈ xs, 1 ≤ x ∧ x ≤ 65536 ∧ f x ≠ 0) (h2 : ∀ v, 1 ≤ v → v ≤ 65536 → f v ≠ 0 → v ∈ xs) :
  sortL xs = normVars ls ks ∧ minus f xs = minus f (normVars ls ks) := by
 have hr := normVars_rise ls ks
 have hnn : (normVars ls ks).Nodup := hr.imp fun h => by omega
 have hp : xs.Perm (normVars ls ks) := (List.perm_ext_iff_of_nodup hn hnn).2 fun v => by
  rw [mem_normVars, hf]
  exact ⟨h1 v, fun h => h2 v h.1 h.2.1 h.2.2⟩
 refine ⟨?_, minus_perm hp⟩
 have hp2 := (sortL_perm xs).trans hp
 exact List.Perm.eq_of_pairwise (le := fun x y : Int => x ≤ y) (fun a b _ _ h1 h2 => by omega) (sortL_sorted xs) (hr.imp fun h => by omega) hp2
theorem normed_ok {ls ks : List Int} {b : Int} (h1 : ls.length = ks.length) (h2 : ls.length ≤ 65536) (h3 : -1099511627776 ≤ b) (h4 : b ≤ 1099511627776) (h5 : ∀ i, i < ls.length → inB ls ks i = true) : normOk ls ks b = true := by
 unfold normOk
 simp only [Bool.and_eq_true, decide_eq_true_eq, List.all_eq_true, List.mem_range]
 exact ⟨⟨⟨⟨h1, h2⟩, h3⟩, h4⟩, h5⟩
theorem sums_bounds {B : Int} : ∀ xs : List Int, (∀ x ∈ xs, 0 ≤ x ∧ x ≤ B) → 0 ≤ xs.sum ∧ xs.sum ≤ xs.length * B := by
 intro xs
 induction xs with
 | nil => intro _; simp
 | cons x xs ih =>
  intro h
  obtain ⟨h1, h2⟩ := ih fun y hy => h y (by simp [hy])
  obtain ⟨h3, h4⟩ := h x (by simp)
  have e2 : ((x :: xs).length : Int) * B = xs.length * B + B := by rw [List.length_cons, Int.natCast_add, Int.add_mul]; simp
  rw [List.sum_cons, e2]
  omega
theorem nth_map {xs : List Int} {g : Int → Int} {i : Nat} (hi : i < xs.length) : nth (xs.map g) i = g (nth xs i) := by
 unfold nth
 rw [List.getElem?_map, List.getElem?_eq_getElem hi]
 rfl
theorem cnt_owns_block {w w' : World} {b n : Nat} {D : DataW Unit} (h : w.ownsMap Tryz.prog 3 (plainElem Tryz.prog 3) b n D) (hb : w'.heap[b]? = w.heap[b]?) : w'.ownsMap Tryz.prog 3 (plainElem Tryz.prog 3) b n D := by
 obtain ⟨es, clock, hm, r⟩ := h
 exact ⟨es, clock, hb.trans hm, r⟩
end
section
open Go.RowKit Go.Shelf
attribute [local go_sem] Oper.semAt_some
def Pb.last (c : Pb) (j : Nat) : Int := if j = 0 then 0 else ((nth c.lits (j - 1)).natAbs : Nat)
def Pb.sum (c : Pb) (j : Nat) : Int := (c.coefs.take j).sum
def Pb.good (c : Pb) (j : Nat) : Bool := litB (nth c.lits j) && decide (c.last j < ((nth c.lits j).natAbs : Nat)) && decide (1 ≤ nth c.coefs j) && decide (nth c.coefs j ≤ c.bound)
def Pb.ok (c : Pb) : Bool := decide (c.lits.length = c.coefs.length) && decide (0 ≤ c.bound) && decide (c.bound ≤ 16777216) && (List.range c.lits.length).all c.good &&
 (decide (c.bound ≤ c.sum c.lits.length) || (decide (c.lits.length = 0) && decide (c.bound = 1)))
def Pb.step (c : Pb) (s : Int × Int × Bool) (j : Nat) : Int × Int × Bool :=
 (((nth c.lits j).natAbs : Nat), s.2.1 + nth c.coefs j, s.2.2 && (litB (nth c.lits j) && decide (s.1 < ((nth c.lits j).natAbs : Nat)) && decide (1 ≤ nth c.coefs j) && decide (nth c.coefs j ≤ c.bound)))
def Pb.fold (c : Pb) (js : List Nat) : Int × Int × Bool := js.foldl c.step (0, 0, true)
theorem Pb.fold_snoc (c : Pb) (js : List Nat) (j : Nat) : c.fold (js ++ [j]) = c.step (c.fold js) j := by simp [Pb.fold, List.foldl_append]
theorem Pb.fold_range (c : Pb) (h : c.lits.length = c.coefs.length) : ∀ k, k ≤ c.lits.length → c.fold (List.range k) = (c.last k, c.sum k, (List.range k).all c.good) := by
 intro k
 induction k with
 | zero => intro _; simp [Pb.fold, Pb.last, Pb.sum]
 | succ k ih =>
  intro hk
  rw [List.range_succ, Pb.fold_snoc, ih (by omega)]
  unfold Pb.step
  simp only [List.all_append, List.all_cons, List.all_nil, Bool.and_true]
  refine Prod.ext ?_ (Prod.ext ?_ ?_)
  ·simp [Pb.last]
  ·simp only [Pb.sum]
   rw [take_nth (by omega), List.sum_append]
   simp
  ·rfl
theorem Pb.fold_bounds (c : Pb) (hb : c.bound ≤ 16777216) : ∀ js : List Nat, (c.fold js).2.2 = true → 0 ≤ (c.fold js).1 ∧ (c.fold js).1 ≤ 65536 ∧ 0 ≤ (c.fold js).2.1 ∧ (c.fold js).2.1 ≤ (c.fold js).1 * 16777216 := by
 intro js
 have : ∀ n (js : List Nat), js.length = n → (c.fold js).2.2 = true → 0 ≤ (c.fold js).1 ∧ (c.fold js).1 ≤ 65536 ∧ 0 ≤ (c.fold js).2.1 ∧ (c.fold js).2.1 ≤ (c.fold js).1 * 16777216 := by
  intro n
  induction n with
  | zero => intro js h _; rw [List.length_eq_zero_iff.1 h]; simp [Pb.fold]
  | succ n ih =>
   intro js h hf
   have hne : js ≠ [] := fun e => by rw [e] at h; cases h
   rw [← List.dropLast_concat_getLast hne, Pb.fold_snoc] at hf ⊢
   unfold Pb.step at hf ⊢
   simp only [Bool.and_eq_true, decide_eq_true_eq] at hf
   obtain ⟨h0, ⟨⟨h1, h2⟩, h3⟩, h4⟩ := hf
   obtain ⟨b1, b2, b3, b4⟩ := ih js.dropLast (by simp [h]) h0
   unfold litB at h1
   simp only [decide_eq_true_eq] at h1
   simp only []
   generalize c.fold js.dropLast = S at *
   omega
 exact this _ js rfl
set_option maxRecDepth 100000 in
set_option maxHeartbeats 4000000 in
theorem valid_any {w : World} {F : Nat → Prop} {v : Value} {c : Pb} (hc : PbRd w F v c) (hi : ∀ k ∈ c.coefs, I64 k) :
  Calls Tryz.prog 24 #[v] w fun r w' => r = .returned (.bool c.ok) ∧ Below w.heap.size w w' := by
 obtain ⟨⟨A, n, cn, B, m, cm, rfl, hx, hk⟩, hb⟩ := hc
 have hxl : c.lits.length = n := by have := hx.1; simpa [ints_length] using this
 have hkl : c.coefs.length = m := by have := hk.1; simpa [ints_length] using this
 obtain ⟨bd, hbd⟩ : ∃ b, c.bound = b := ⟨_, rfl⟩
 rw [hbd] at hb ⊢
 unfold I64 at hb
 by_cases hnm : n = m
 ·subst hnm
  by_cases hb0 : 0 ≤ bd
  ·by_cases hb1 : bd ≤ 16777216
   ·have q1 : (bd < 0) = False := by simp; omega
    have q2 : (16777216 < bd) = False := by simp; omega
    have q3 : decide (bd < 0) = false := by simp; omega
    have q4 : decide (16777216 < bd) = false := by simp; omega
    refine callsIn_wide (n := 5).1 ?_
    refine callsIn_of_wp_marks Tryz.func24 rfl trivial ?_ rfl
    simp only [Tryz.ntmps24, List.size_toArray, List.length_cons, List.length_nil, Nat.reduceAdd, Nat.reduceSub, Array.replicate_succ, Array.replicate_zero, List.push_toArray, List.append_toArray, List.nil_append, List.cons_append]
    gi_wp2_with fail
    refine ⟨trivial, (parts_in 4 _ _ _ _).mono ?_⟩
    rintro e w' ⟨rfl, rfl⟩
    obtain ⟨z1, z2, z3⟩ := allocs_get w [.cells #[.slice A n cn, .slice B n cm, .int .i64 bd] 41, .cells #[.bool false] 4, .cells #[.int .i64 0] 3, .cells #[.int .i64 0] 3, .cells #[.slice A n cn, .slice B n cm, .int .i64 bd] 41]
    obtain ⟨W0, hW0⟩ : ∃ W0, allocs w [.cells #[.slice A n cn, .slice B n cm, .int .i64 bd] 41, .cells #[.bool false] 4, .cells #[.int .i64 0] 3, .cells #[.int .i64 0] 3, .cells #[.slice A n cn, .slice B n cm, .int .i64 bd] 41] = W0 := ⟨_, rfl⟩
    rw [hW0] at z1 z2 z3
    unfold allocs at hW0
    simp only [List.foldl_cons, List.foldl_nil] at hW0
    simp only [World.size_alloc]
    rw [hW0]
    simp only [List.length_cons, List.length_nil, Nat.zero_add, Nat.reduceAdd] at z1
    have k0 := z3 0 _ rfl
    have k1 := Bx.of_block (z3 1 _ rfl)
    have k2 := Bx.of_block (z3 2 _ rfl)
    have k3 := Bx.of_block (z3 3 _ rfl)
    have k4 := z3 4 _ rfl
    rw [Nat.add_zero] at k0
    have hx0 := (hx.mono (G := fun g => g < w.heap.size) fun g hg _ => hg).below z2
    have hk0 := (hk.mono (G := fun g => g < w.heap.size) fun g hg _ => hg).below z2
    clear hW0 z3
    obtain ⟨sz, hsz⟩ : ∃ s, w.heap.size = s := ⟨_, rfl⟩
    rw [hsz] at z1 z2 k0 k1 k2 k3 k4 hx0 hk0
    rw [hsz]
    gi_wp2_with fail
    simp only [Nat.add_assoc, Nat.reduceAdd]
    have c0 : W0.cell? ⟨sz + 4, 0, none⟩ = some (.slice A n cn) := by rw [cell_of_row _ _ _ _ _ _ k4]; rfl
    have c1 : W0.cell? ⟨sz + 4, 1, none⟩ = some (.slice B n cm) := by rw [cell_of_row _ _ _ _ _ _ k4]; rfl
    have d0 : W0.cell? ⟨sz, 0, none⟩ = some (.slice A n cn) := by rw [cell_of_row _ _ _ _ _ _ k0]; rfl
    have d2 : W0.cell? ⟨sz, 2, none⟩ = some (.int .i64 bd) := by rw [cell_of_row _ _ _ _ _ _ k0]; rfl
    refine' wpIn_rangeFunc_ownF (α := Fin n) rfl (by omega) (gf := 80) (lb := #[.pointer (some ⟨sz + 4, 0, none⟩)]) rfl trivial (enters_of Tryz.func80 (by kernel_rfl) rfl)
     (parts_stops 4 (sz + 4) sz (by omega) (F := fun g => g < sz) (fun g hg => hg) W0 c0 c1 hx0 hk0) (fun h k => h.trans k) (kpb_b (by omega) (by omega)) (Below.refl _ _) (fun _ => rfl)
     (fun pre W => ((c.fold (pre.map Fin.val)).2.2 = true ∧ Bx W (sz + 2) (.int .i64 (c.fold (pre.map Fin.val)).1) ∧ Bx W (sz + 3) (.int .i64 (c.fold (pre.map Fin.val)).2.1) ∧ Bx W (sz + 1) (.bool false) ∧ W.cell? ⟨sz, 0, none⟩ = some (.slice A n cn) ∧ W.cell? ⟨sz, 2, none⟩ = some (.int .i64 bd)) ∧ Below sz w W)
     (fun co pre W => (co = .ret ∧ (c.fold (pre.map Fin.val)).2.2 = false ∧ Bx W (sz + 1) (.bool false)) ∧ Below sz w W)
     (OwnFrom.and (Own.from (fun s A B row hs hg hr => ⟨hs.1, hs.2.1.kept hg hr, hs.2.2.1.kept hg hr, hs.2.2.2.1.kept hg hr, cell_kept hs.2.2.2.2.1 hg hr, cell_kept hs.2.2.2.2.2 hg hr⟩) _) (ownFrom_below (by omega) (by omega)))
     (fun co => OwnFrom.and (Own.from (fun s A B row hs hg hr => ⟨hs.1, hs.2.1, hs.2.2.kept hg hr⟩) _) (ownFrom_below (by omega) (by omega)))
     ⟨⟨rfl, k2, k3, k1, d0, d2⟩, z2⟩ _ ?assign ?body ?done ?stop
    case assign =>
     intro l x W K hK
     gi_wp2
     exact hK
    case body =>
     rintro l pre x W ⟨⟨hf, e2, e3, e1, e0, e4⟩, hB⟩ hpre
     have hbn := c.fold_bounds (by omega) _ hf
     have hsn := c.fold_snoc (pre.map Fin.val) x.val
     have hmp : (pre ++ [x]).map Fin.val = pre.map Fin.val ++ [x.val] := by simp
     rw [← hmp] at hsn
     obtain ⟨li, hli⟩ : ∃ l, nth c.lits x.val = l := ⟨_, rfl⟩
     obtain ⟨ki, hki⟩ : ∃ l, nth c.coefs x.val = l := ⟨_, rfl⟩
     have hki64 : I64 ki := hi ki (by rw [← hki]; exact nth_mem (by have := x.isLt; omega))
     obtain ⟨S, hS⟩ : ∃ S, c.fold (pre.map Fin.val) = S := ⟨_, rfl⟩
     rw [hS] at hf e2 e3 hbn hsn
     obtain ⟨la, su, ok⟩ := S
     simp only [] at hf e2 e3 hbn
     subst hf
     unfold Pb.step at hsn
     rw [hli, hki, hbd] at hsn
     rw [hli, hki]
     obtain ⟨b1, b2, b3, b4⟩ := hbn
     unfold I64 at hki64
     have Hsn := hid hsn
     have HB := hid hB
     clear hsn hB hli hki hS hmp
     by_cases h1 : litB li = true
     ·obtain ⟨l1, l2, l3⟩ : li ≠ 0 ∧ -65536 ≤ li ∧ li ≤ 65536 := by unfold litB at h1; simpa using h1
      have H1 := hid h1
      obtain ⟨v, hv⟩ : ∃ v, li.natAbs = v := ⟨_, rfl⟩
      have hv1 : v ≤ 65536 := by omega
      have Hv := hid hv
      clear h1 hv
      by_cases h2 : la < (v : Int)
      ·have p1 : ((v : Int) ≤ la) = False := by simp; omega
       by_cases h3 : 1 ≤ ki
       ·have p2 : (ki < 1) = False := by simp; omega
        by_cases h4 : ki ≤ bd
        ·have p3 : (bd < ki) = False := by simp; omega
         have hw : IntKind.i64.wrap (su + ki) = su + ki := iw' (by omega) (by omega)
         have e2c := e2.1
         have e2f := e2.2
         have e3c := e3.1
         have e3f := e3.2
         have hmix : Tryz.prog.follows .mixedOrders = true := by kernel_rfl
         gi_wp2_with fail
         gi_region_with_o (first
          | (refine ⟨trivial, ?_⟩; gi_at_call 55; refine (CallsIn.inRound l (callsIn_wide.2 literal_any)).mono ?_; rw [H1.o]; rintro r w4 ⟨rfl, rfl⟩)
          | (refine ⟨trivial, ?_⟩; gi_at_call 56; refine (CallsIn.inRound l (callsIn_wide.2 (abs_any (by omega) (by omega)))).mono ?_; rw [Hv.o]; rintro r w4 ⟨rfl, rfl⟩))
         all_goals gi_wp2_with (refine ⟨trivial, ?_⟩; gi_at_call 56; refine (CallsIn.inRound l (callsIn_wide.2 (abs_any (by omega) (by omega)))).mono ?_; rw [Hv.o]; rintro r w4 ⟨rfl, rfl⟩)
         all_goals exact ⟨((KeepsOthers.drew W).trans (KeepsOthers.setCell _ _ _)).trans (KeepsOthers.setCell _ _ _), ((KpB.refl _ _ _).drew.set (Nat.le_add_right _ _) (by omega) _).set (Nat.le_add_right _ _) (by omega) _,
          ⟨by rw [Hsn.o]; have := Hv.o; simp [H1.o]; omega, by rw [Hsn.o, Hv.o]; exact Bx.far (Bx.put e2 _) (by omega) _, by rw [Hsn.o]; exact Bx.put (Bx.far e3 (by omega) _) _, Bx.far (Bx.far e1 (by omega) _) (by omega) _,
           cell_set_far (cell_set_far e0 (by omega) _) (by omega) _, cell_set_far (cell_set_far e4 (by omega) _) (by omega) _⟩,
          ((Below.drew HB.o).setCell (p := ⟨sz + 2, 0, none⟩) (Nat.le_add_right _ _) _).setCell (p := ⟨sz + 3, 0, none⟩) (Nat.le_add_right _ _) _⟩
        ·have p3 : bd < ki := by omega
         have p4 : decide (bd < ki) = true := by simpa using p3
         have hmix : Tryz.prog.follows .mixedOrders = true := by kernel_rfl
         have e1c := e1.1
         have e2c := e2.1
         have e2f := e2.2
         have e1f := e1.2
         gi_wp2_with fail
         gi_region_with_o (first
                   | (refine ⟨trivial, ?_⟩; gi_at_call 55; refine (CallsIn.inRound l (callsIn_wide.2 literal_any)).mono ?_; rw [H1.o]; rintro r w4 ⟨rfl, rfl⟩)
                   | (refine ⟨trivial, ?_⟩; gi_at_call 56; refine (CallsIn.inRound l (callsIn_wide.2 (abs_any (by omega) (by omega)))).mono ?_; rw [Hv.o]; rintro r w4 ⟨rfl, rfl⟩))
         all_goals gi_wp2
         all_goals exact ⟨(KeepsOthers.drew W).trans (KeepsOthers.setCell _ _ _), ⟨rfl, by rw [Hsn.o]; have := Hv.o; simp; intros; omega, Bx.put e1 _⟩, (Below.drew HB.o).setCell (p := ⟨sz + 1, 0, none⟩) (Nat.le_add_right _ _) _⟩
       ·have p2 : ki < 1 := by omega
        have hmix : Tryz.prog.follows .mixedOrders = true := by kernel_rfl
        have e1c := e1.1
        have e2c := e2.1
        have e2f := e2.2
        have e1f := e1.2
        gi_wp2_with fail
        gi_region_with_o (first
                  | (refine ⟨trivial, ?_⟩; gi_at_call 55; refine (CallsIn.inRound l (callsIn_wide.2 literal_any)).mono ?_; rw [H1.o]; rintro r w4 ⟨rfl, rfl⟩)
                  | (refine ⟨trivial, ?_⟩; gi_at_call 56; refine (CallsIn.inRound l (callsIn_wide.2 (abs_any (by omega) (by omega)))).mono ?_; rw [Hv.o]; rintro r w4 ⟨rfl, rfl⟩))
        all_goals gi_wp2
        all_goals exact ⟨(KeepsOthers.drew W).trans (KeepsOthers.setCell _ _ _), ⟨rfl, by rw [Hsn.o]; have := Hv.o; simp; intros; omega, Bx.put e1 _⟩, (Below.drew HB.o).setCell (p := ⟨sz + 1, 0, none⟩) (Nat.le_add_right _ _) _⟩
      ·have p1 : (v : Int) ≤ la := by omega
       have hmix : Tryz.prog.follows .mixedOrders = true := by kernel_rfl
       have e1c := e1.1
       have e2c := e2.1
       have e2f := e2.2
       have e1f := e1.2
       gi_wp2_with fail
       gi_region_with_o (first
                 | (refine ⟨trivial, ?_⟩; gi_at_call 55; refine (CallsIn.inRound l (callsIn_wide.2 literal_any)).mono ?_; rw [H1.o]; rintro r w4 ⟨rfl, rfl⟩)
                 | (refine ⟨trivial, ?_⟩; gi_at_call 56; refine (CallsIn.inRound l (callsIn_wide.2 (abs_any (by omega) (by omega)))).mono ?_; rw [Hv.o]; rintro r w4 ⟨rfl, rfl⟩))
       all_goals gi_wp2
       all_goals exact ⟨(KeepsOthers.drew W).trans (KeepsOthers.setCell _ _ _), ⟨rfl, by rw [Hsn.o]; have := Hv.o; simp; intros; omega, Bx.put e1 _⟩, (Below.drew HB.o).setCell (p := ⟨sz + 1, 0, none⟩) (Nat.le_add_right _ _) _⟩
     ·have h1 : litB li = false := by simpa using h1
      have H1 := hid h1
      have Hv : Hid (li.natAbs = li.natAbs) := rfl
      clear h1
      have hmix : Tryz.prog.follows .mixedOrders = true := by kernel_rfl
      have e1c := e1.1
      have e2c := e2.1
      have e2f := e2.2
      have e1f := e1.2
      gi_wp2_with fail
      gi_region_with_o (first
                | (refine ⟨trivial, ?_⟩; gi_at_call 55; refine (CallsIn.inRound l (callsIn_wide.2 literal_any)).mono ?_; rw [H1.o]; rintro r w4 ⟨rfl, rfl⟩)
                | (refine ⟨trivial, ?_⟩; gi_at_call 56; refine (CallsIn.inRound l (callsIn_wide.2 (abs_any (by omega) (by omega)))).mono ?_; rw [Hv.o]; rintro r w4 ⟨rfl, rfl⟩)
                | (refine ⟨trivial, ?_⟩))
      all_goals gi_wp2
      all_goals exact ⟨(KeepsOthers.drew W).trans (KeepsOthers.setCell _ _ _), ⟨rfl, by rw [Hsn.o]; simp [H1.o], Bx.put e1 _⟩, (Below.drew HB.o).setCell (p := ⟨sz + 1, 0, none⟩) (Nat.le_add_right _ _) _⟩
    case done =>
     rintro D ys W hD hys ⟨⟨hf, e2, e3, e1, e0, e4⟩, hB⟩ hK
     unfold SomeOf at hys
     rw [hys, ← hxl, c.fold_range (by omega) _ (Nat.le_refl _)] at hf e3
     simp only [] at hf e3
     obtain ⟨su, hsu⟩ : ∃ s, c.sum c.lits.length = s := ⟨_, rfl⟩
     have hok : c.ok = (decide (bd ≤ su) || (decide (n = 0) && decide (bd = 1))) := by
      unfold Pb.ok
      rw [hf, hsu, hbd, hxl, hkl]
      simp [hb0, hb1]
     rw [hsu] at e3
     have e0c := e0
     have e1c := e1.1
     have e1f := e1.2
     have e3c := e3.1
     by_cases t1 : bd ≤ su
     ·have t1' : decide (bd ≤ su) = true := by simpa using t1
      have hokt : c.ok = true := by rw [hok, t1']; rfl
      have Hok := hid hokt
      clear hokt hok
      gi_wp2
      have hK' := (KeepsOthers.setCell W ⟨sz + 1, 0, none⟩ (.bool true)).same D _ hK rfl
      refine ⟨by simp, .inl ⟨_, _, rfl, run_takeDeferred hK', ?_⟩⟩
      have hc5 := cell_kept (Bx.put e1 (.bool true)).1 (grownBy_putObj' _ D (.deferred none)) (fun r e => by cases e; exact ⟨_, hK', rfl⟩)
      refine ⟨.bool true, ?_, by rw [Hok.o], by (try rw [hsz]); exact (hB.setCell (p := ⟨sz + 1, 0, none⟩) (Nat.le_add_right _ _) _).trans (belowK_b (w := w) (by omega) _ D _ _ (by omega) hK' rfl rfl)⟩
      simp [results, Tryz.f24, go_sem, hc5]
     ·have t1' : decide (bd ≤ su) = false := by simpa using t1
      by_cases t2 : n = 0
      ·by_cases t3 : bd = 1
       ·have hokt : c.ok = true := by rw [hok]; simp [t2, t3]
        have t2' : ((n : Int) == 0) = true := by simpa using t2
        have t3' : (bd == 1) = true := by simpa using t3
        clear t2 t3
        have Hok := hid hokt
        clear hokt hok
        gi_wp2
        have hK' := (KeepsOthers.setCell W ⟨sz + 1, 0, none⟩ (.bool true)).same D _ hK rfl
        refine ⟨by simp, .inl ⟨_, _, rfl, run_takeDeferred hK', ?_⟩⟩
        have hc5 := cell_kept (Bx.put e1 (.bool true)).1 (grownBy_putObj' _ D (.deferred none)) (fun r e => by cases e; exact ⟨_, hK', rfl⟩)
        refine ⟨.bool true, ?_, by rw [Hok.o], by (try rw [hsz]); exact (hB.setCell (p := ⟨sz + 1, 0, none⟩) (Nat.le_add_right _ _) _).trans (belowK_b (w := w) (by omega) _ D _ _ (by omega) hK' rfl rfl)⟩
        simp [results, Tryz.f24, go_sem, hc5]
       ·have hokt : c.ok = false := by rw [hok, t1']; simp [t3]
        have t2' : ((n : Int) == 0) = true := by simpa using t2
        have t3' : (bd == 1) = false := by simpa using t3
        clear t2 t3
        have Hok := hid hokt
        clear hokt hok
        gi_wp2
        have hK' := (KeepsOthers.setCell W ⟨sz + 1, 0, none⟩ (.bool false)).same D _ hK rfl
        refine ⟨by simp, .inl ⟨_, _, rfl, run_takeDeferred hK', ?_⟩⟩
        have hc5 := cell_kept (Bx.put e1 (.bool false)).1 (grownBy_putObj' _ D (.deferred none)) (fun r e => by cases e; exact ⟨_, hK', rfl⟩)
        refine ⟨.bool false, ?_, by rw [Hok.o], by (try rw [hsz]); exact (hB.setCell (p := ⟨sz + 1, 0, none⟩) (Nat.le_add_right _ _) _).trans (belowK_b (w := w) (by omega) _ D _ _ (by omega) hK' rfl rfl)⟩
        simp [results, Tryz.f24, go_sem, hc5]
      ·have hokt : c.ok = false := by rw [hok, t1']; simp [t2]
       have t2' : ((n : Int) == 0) = false := by simpa using t2
       clear t2
       have Hok := hid hokt
       clear hokt hok
       gi_wp2
       have hK' := (KeepsOthers.setCell W ⟨sz + 1, 0, none⟩ (.bool false)).same D _ hK rfl
       refine ⟨by simp, .inl ⟨_, _, rfl, run_takeDeferred hK', ?_⟩⟩
       have hc5 := cell_kept (Bx.put e1 (.bool false)).1 (grownBy_putObj' _ D (.deferred none)) (fun r e => by cases e; exact ⟨_, hK', rfl⟩)
       refine ⟨.bool false, ?_, by rw [Hok.o], by (try rw [hsz]); exact (hB.setCell (p := ⟨sz + 1, 0, none⟩) (Nat.le_add_right _ _) _).trans (belowK_b (w := w) (by omega) _ D _ _ (by omega) hK' rfl rfl)⟩
       simp [results, Tryz.f24, go_sem, hc5]
    case stop =>
     rintro D co pre W hD ⟨k, hkn, hpre⟩ ⟨⟨rfl, hf, e1⟩, hB⟩ hK
     unfold SomeOf at hpre
     have hok : c.ok = false := by
      rw [hpre, c.fold_range (by omega) _ (by omega)] at hf
      simp only [] at hf
      unfold Pb.ok
      have hall : (List.range c.lits.length).all c.good = false := by
       rw [List.all_eq_false] at hf ⊢
       obtain ⟨q, hq, h⟩ := hf
       exact ⟨q, by rw [List.mem_range] at hq ⊢; omega, h⟩
      rw [hall]
      simp
     have Hok := hid hok
     clear hok
     gi_wp2
     refine ⟨by simp, .inl ⟨_, _, rfl, run_takeDeferred hK, ?_⟩⟩
     have hc5 := cell_kept e1.1 (grownBy_putObj' _ D (.deferred none)) (fun r e => by cases e; exact ⟨_, hK, rfl⟩)
     refine ⟨.bool false, ?_, by rw [Hok.o], by (try rw [hsz]); exact hB.trans (belowK_b (w := w) (by omega) W D _ _ (by omega) hK rfl rfl)⟩
     simp [results, Tryz.f24, go_sem, hc5]
   ·have q1 : (bd < 0) = False := by simp; omega
    have q2 : 16777216 < bd := by omega
    have q3 : decide (bd < 0) = false := by simp; omega
    have q4 : decide (16777216 < bd) = true := by simpa using q2
    have hok : c.ok = false := by unfold Pb.ok; rw [hbd]; simp [hb1]
    rw [hok]
    go_enter Tryz.func24, Tryz.ntmps24
    go_wp2_with fail
    obtain ⟨_, y2, y3⟩ := allocs_get w [.cells #[.slice A n cn, .slice B n cm, .int .i64 bd] 41, .cells #[.bool false] 4]
    have hcell : ((w.alloc (.cells #[.slice A n cn, .slice B n cm, .int .i64 bd] 41)).alloc (.cells #[.bool false] 4)).cell? ⟨w.heap.size + 1, 0, none⟩ = some (.bool false) := (Bx.of_block (y3 1 _ rfl)).1
    exact bodyPost_ret (v := .bool false) (by simp [results, Tryz.f24, go_sem, hcell]) rfl ⟨rfl, y2⟩
  ·have q1 : bd < 0 := by omega
   have q3 : decide (bd < 0) = true := by simpa using q1
   have hok : c.ok = false := by unfold Pb.ok; rw [hbd]; simp [hb0]
   rw [hok]
   go_enter Tryz.func24, Tryz.ntmps24
   go_wp2_with fail
   obtain ⟨_, y2, y3⟩ := allocs_get w [.cells #[.slice A n cn, .slice B n cm, .int .i64 bd] 41, .cells #[.bool false] 4]
   have hcell : ((w.alloc (.cells #[.slice A n cn, .slice B n cm, .int .i64 bd] 41)).alloc (.cells #[.bool false] 4)).cell? ⟨w.heap.size + 1, 0, none⟩ = some (.bool false) := (Bx.of_block (y3 1 _ rfl)).1
   exact bodyPost_ret (v := .bool false) (by simp [results, Tryz.f24, go_sem, hcell]) rfl ⟨rfl, y2⟩
 ·have q1 : ((n : Int) != (m : Int)) = true := by simp; omega
  have q2 : (n != m) = true := by simp; omega
  have hok : c.ok = false := by unfold Pb.ok; rw [hxl, hkl]; simp [hnm]
  rw [hok]
  go_enter Tryz.func24, Tryz.ntmps24
  go_wp2_with fail
  obtain ⟨_, y2, y3⟩ := allocs_get w [.cells #[.slice A n cn, .slice B m cm, .int .i64 bd] 41, .cells #[.bool false] 4]
  have hcell : ((w.alloc (.cells #[.slice A n cn, .slice B m cm, .int .i64 bd] 41)).alloc (.cells #[.bool false] 4)).cell? ⟨w.heap.size + 1, 0, none⟩ = some (.bool false) := (Bx.of_block (y3 1 _ rfl)).1
  exact bodyPost_ret (v := .bool false) (by simp [results, Tryz.f24, go_sem, hcell]) rfl ⟨rfl, y2⟩
end
end Go.Proofs.YtcjmpobccbnpkaaGreat
