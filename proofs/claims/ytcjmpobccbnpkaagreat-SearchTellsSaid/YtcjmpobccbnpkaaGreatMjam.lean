/-
 Chapter 32: several texts in one (LnSort LnH LnI LnD).
-/
import Derived.Test.YtcjmpobccbnpkaaGreatMjak
import Derived.Ground.SlsfProg
import Derived.Shelf.SlSortCmp.Whole1
import Derived.BigRegion
import Derived.Test.YtcjmpobccbnpkaaGreatMjal
import Derived.Test.YtcjmpobccbnpkaaGreatMjaj
namespace Go.Proofs.YtcjmpobccbnpkaaGreat
set_option maxRecDepth 100000
set_option maxHeartbeats 4000000
section
open Go.Shelf Go.Proofs
def sort_ren : Go.Shelf.Ren := ⟨fun | 6 => 139 | 15 => 72 | 14 => 149 | 28 => 102 | 29 => 103 | 20 => 151 | 21 => 152 | 22 => 153 | 23 => 154 | 24 => 155 | 25 => 156 | 26 => 157 | 27 => 158 | 46 => 159 | 47 => 144 | 48 => 145 | 49 => 160 | 50 => 161 | 57 => 162 | n => n, fun | 22 => 23 | 24 => 3 | 25 => 189 | 3 => 3 | 39 => 102 | 0 => 0 | 53 => 57 | 55 => 155 | 4 => 4 | 46 => 174 | 45 => 173 | 50 => 151 | 5 => 5 | 9 => 9 | 66 => 192 | 70 => 196 | 76 => 200 | 77 => 201 | n => n, fun | n => n⟩
theorem sort_lays : Go.Proofs.SlLaysF.n6 Tryz.prog sort_ren := {
 mixed := by kernel_rfl
 f6 := ⟨Tryz.f139.name, by decide, Tryz.func139.trans (congrArg some (by kernel_rfl))⟩
 f14 := ⟨Tryz.f149.name, by decide, Tryz.func149.trans (congrArg some (by kernel_rfl))⟩
 f15 := Tryz.func72.trans (congrArg some (by kernel_rfl))
 f20 := ⟨Tryz.f151.name, by decide, Tryz.func151.trans (congrArg some (by kernel_rfl))⟩
 f21 := ⟨Tryz.f152.name, by decide, Tryz.func152.trans (congrArg some (by kernel_rfl))⟩
 f22 := ⟨Tryz.f153.name, by decide, Tryz.func153.trans (congrArg some (by kernel_rfl))⟩
 f23 := ⟨Tryz.f154.name, by decide, Tryz.func154.trans (congrArg some (by kernel_rfl))⟩
 f24 := ⟨Tryz.f155.name, by decide, Tryz.func155.trans (congrArg some (by kernel_rfl))⟩
 f25 := ⟨Tryz.f156.name, by decide, Tryz.func156.trans (congrArg some (by kernel_rfl))⟩
 f26 := ⟨Tryz.f157.name, by decide, Tryz.func157.trans (congrArg some (by kernel_rfl))⟩
 f27 := ⟨Tryz.f158.name, by decide, Tryz.func158.trans (congrArg some (by kernel_rfl))⟩
 f28 := Tryz.func102.trans (congrArg some (by kernel_rfl))
 f29 := Tryz.func103.trans (congrArg some (by kernel_rfl))
 f46 := ⟨Tryz.f159.name, by decide, Tryz.func159.trans (congrArg some (by kernel_rfl))⟩
 f47 := Tryz.func144.trans (congrArg some (by kernel_rfl))
 f48 := Tryz.func145.trans (congrArg some (by kernel_rfl))
 f49 := ⟨Tryz.f160.name, by decide, Tryz.func160.trans (congrArg some (by kernel_rfl))⟩
 f50 := ⟨Tryz.f161.name, by decide, Tryz.func161.trans (congrArg some (by kernel_rfl))⟩
 f57 := ⟨Tryz.f162.name, by decide, Tryz.func162.trans (congrArg some (by kernel_rfl))⟩
 t0 := Tryz.underlying0
 a0 := Tryz.isAgg0
 z0 := Tryz.sizeOf0
 v0 := Tryz.zeroValue0
 t3 := Tryz.underlying3
 a3 := Tryz.isAgg3
 z3 := Tryz.sizeOf3
 v3 := Tryz.zeroValue3
 t4 := Tryz.underlying4
 a4 := Tryz.isAgg4
 z4 := Tryz.sizeOf4
 v4 := Tryz.zeroValue4
 t5 := Tryz.underlying5
 a5 := Tryz.isAgg5
 z5 := Tryz.sizeOf5
 v5 := Tryz.zeroValue5
 t9 := Tryz.underlying9
 a9 := Tryz.isAgg9
 z9 := Tryz.sizeOf9
 v9 := Tryz.zeroValue9
 t22 := Tryz.underlying23
 a22 := Tryz.isAgg23
 z22 := Tryz.sizeOf23
 v22 := Tryz.zeroValue23
 a24 := Tryz.isAgg3
 z24 := Tryz.sizeOf3
 t25 := Tryz.underlying189
 a25 := Tryz.isAgg189
 z25 := Tryz.sizeOf189
 v25 := Tryz.zeroValue189
 t39 := Tryz.underlying102
 a39 := Tryz.isAgg102
 z39 := Tryz.sizeOf102
 v39 := Tryz.zeroValue102
 t45 := Tryz.underlying173
 a45 := Tryz.isAgg173
 z45 := Tryz.sizeOf173
 v45 := Tryz.zeroValue173
 t46 := Tryz.underlying174
 a46 := Tryz.isAgg174
 z46 := Tryz.sizeOf174
 v46 := Tryz.zeroValue174
 t50 := Tryz.underlying151
 a50 := Tryz.isAgg151
 z50 := Tryz.sizeOf151
 v50 := Tryz.zeroValue151
 t53 := Tryz.underlying57
 a53 := Tryz.isAgg57
 z53 := Tryz.sizeOf57
 v53 := Tryz.zeroValue57
 t55 := Tryz.underlying155
 a55 := Tryz.isAgg155
 z55 := Tryz.sizeOf155
 v55 := Tryz.zeroValue155
 t66 := Tryz.underlying192
 a66 := Tryz.isAgg192
 z66 := Tryz.sizeOf192
 v66 := Tryz.zeroValue192
 t70 := Tryz.underlying196
 a70 := Tryz.isAgg196
 z70 := Tryz.sizeOf196
 v70 := Tryz.zeroValue196
 t76 := Tryz.underlying200
 a76 := Tryz.isAgg200
 z76 := Tryz.sizeOf200
 v76 := Tryz.zeroValue200
 t77 := Tryz.underlying201
 a77 := Tryz.isAgg201
 z77 := Tryz.sizeOf201
 v77 := Tryz.zeroValue201 }
open Go.RowKit Go.Lib Go.Sort in
theorem sort_func {α : Type} [Inhabited α] (enc : α → Value) (h1 : OneCell enc) (cf : α → α → Int) (hO : SWO (ltOf cf)) (g : Nat) (cb : Array Value) (blk off cap : Nat) (d : Array α) (w : World) (eg : ∀ args w, (callFunc g args).run Tryz.prog w = .ok (.enter g args) w) (hcmp : CmpLays1 Tryz.prog g cb enc cf blk off d.size w) (hH : Holds enc w blk off d) (hblk : blk < w.heap.size) (hsz : d.size < 4611686018427387904) :
  Calls Tryz.prog 139 #[.slice (some ⟨blk, off, none⟩) d.size cap, .func (.func g) #[] cb] w fun e w' =>
   e = .returned (.tuple #[]) ∧ ∃ d' n os, PermIn 0 d.size d d' ∧ SortedIn (ltOf cf) 0 d.size d' ∧ w' = sortWorld enc w blk off n d' os := Any.slices_SortFunc sort_lays enc h1 cf hO g cb blk off cap d w eg hcmp hH hblk hsz
end
section
open Go.RowKit Go.Maps
theorem pos_look {W : World} {ma nm : Nat} {T : Tr} (h : PosIs W ma nm T) {m : Int} (hm : m ∈ T.lits) (hb : I64 ((m.natAbs : Nat) : Int)) (q : Nat) :
  (Instr.lookup 28 (.map (some ma)) (.int .i64 (m.natAbs : Nat)) false).run Tryz.prog (W.drewN q) = .ok (.int .i64 (T.pos m)) (W.drewN q) := by
 obtain ⟨D, hown, hD⟩ := h
 have hown' : (W.drewN q).ownsMap Tryz.prog 3 (plainElem Tryz.prog 3) ma nm D := hown
 obtain ⟨c, hrun, hat, _⟩ := hown'.lookup_int lkeyed_int Tryz.underlying28 Tryz.underlying3 (lzero_num _) (lkey_num hb)
 rw [hD m hm] at hat
 injection hat with hat
 injection hat with _ hat
 rw [hat]
 exact hrun
theorem later_any {W : World} {a ma nm : Nat} {T : Tr} (hc : W.cell? ⟨a, 0, none⟩ = some (.map (some ma))) (hP : PosIs W ma nm T) (hw : T.WF) {x y : Int} (hx : -x ∈ T.lits) (hy : -y ∈ T.lits) :
  Calls Tryz.prog 141 #[.pointer (some ⟨a, 0, none⟩), .int .i64 x, .int .i64 y] W fun e w' => e = .returned (.int .i64 (T.pos y - T.pos x)) ∧ ∃ q, w' = W.drewN q := by
 have hsx := lits_small hw hx
 have hsy := lits_small hw hy
 obtain ⟨p1, p2, _⟩ := pos_lt hw hx
 obtain ⟨r1, r2, _⟩ := pos_lt hw hy
 have hl := hw.len
 have hv := hw.vars
 have hl2 : T.lits.length = T.L.length := by simp [Tr.lits]
 have lx := pos_look hP hx (by unfold I64; omega)
 have ly := pos_look hP hy (by unfold I64; omega)
 rw [Int.natAbs_neg, pos_neg] at lx ly
 obtain ⟨vx, hvx⟩ : ∃ v, x.natAbs = v := ⟨_, rfl⟩
 obtain ⟨vy, hvy⟩ : ∃ v, y.natAbs = v := ⟨_, rfl⟩
 rw [hvx] at lx
 rw [hvy] at ly
 obtain ⟨px, hpx⟩ : ∃ p, T.pos x = p := ⟨_, rfl⟩
 obtain ⟨py, hpy⟩ : ∃ p, T.pos y = p := ⟨_, rfl⟩
 rw [hpx] at lx p1 p2 ⊢
 rw [hpy] at ly r1 r2 ⊢
 have hmx : max x (-x) = (vx : Int) := by omega
 have hmy : max y (-y) = (vy : Int) := by omega
 have wx : IntKind.i64.wrap (-x) = -x := liw' (by omega) (by omega)
 have wy : IntKind.i64.wrap (-y) = -y := liw' (by omega) (by omega)
 have wd : IntKind.i64.wrap (py - px) = py - px := liw' (by omega) (by omega)
 clear hP hw hx hy hpx hpy hvx hvy
 go_enter Tryz.func141, Tryz.ntmps141
 have lx1 : (Instr.lookup 28 (.map (some ma)) (.int .i64 vx) false).run Tryz.prog W.drew = .ok (.int .i64 px) W.drew := lx 1
 have ly1 : (Instr.lookup 28 (.map (some ma)) (.int .i64 vy) false).run Tryz.prog W.drew = .ok (.int .i64 py) W.drew := ly 1
 go_wp2_with fail
 go_region
 go_wp2_with fail
 go_ret
 exact ⟨rfl, 1, rfl⟩
theorem sorted_closure {W : World} {a bx ma nm : Nat} {T : Tr} (hb : W.cell? ⟨bx, 0, none⟩ = some (.pointer (some ⟨a, 0, none⟩))) (hc : W.cell? ⟨a, 0, none⟩ = some (.map (some ma))) (hP : PosIs W ma nm T) (hw : T.WF) {x y : Int} (hx : -x ∈ T.lits) (hy : -y ∈ T.lits) :
  Calls Tryz.prog 140 #[.int .i64 x, .int .i64 y, .pointer (some ⟨bx, 0, none⟩)] W fun e w' => e = .returned (.int .i64 (T.pos y - T.pos x)) ∧ ∃ q, w' = W.drewN q := by
 have hcall := hid (later_any hc hP hw hx hy)
 clear hP hw hx hy
 go_enter Tryz.func140, Tryz.ntmps140
 go_wp2_with fail
 refine hcall.o.mono ?_
 rintro r w' ⟨rfl, q, rfl⟩
 go_wp2_with fail
 go_ret
 exact ⟨rfl, q, rfl⟩
end
section
open Go.RowKit Go.Maps
def Fls (T : Tr) : Type := { x : Int // -x ∈ T.lits }
def fenc (T : Tr) (x : Fls T) : Value := .int .i64 x.1
def fcmp (T : Tr) (x y : Fls T) : Int := T.pos y.1 - T.pos x.1
theorem fcmp_swo (T : Tr) : Go.Sort.SWO (ltOf (fcmp T)) where
 irrefl x := by unfold ltOf fcmp; rw [decide_eq_false_iff_not]; omega
 trans x y z h1 h2 := by
  unfold ltOf fcmp at *
  rw [decide_eq_true_eq] at *
  omega
 ntrans x y z h1 h2 := by
  unfold ltOf fcmp at *
  rw [decide_eq_false_iff_not] at *
  omega
theorem lsort_mod {α : Type} [Inhabited α] (enc : α → Value) (w : World) (blk off n : Nat) (d : Array α) (os : Array Obj) : Mod (fun g => g = blk) w (sortWorld enc w blk off n d os) := by
 refine ⟨rfl, rfl, rfl, ?_, fun k hk hne => ?_⟩
 ·unfold sortWorld
  rw [Go.Sort.size_grow]
  simp [Go.Sort.putRow, Go.Sort.mapBlock, Go.Sort.ahead]
 ·unfold sortWorld
  rw [Go.Sort.heap_grow_old _ _ (by simp [Go.Sort.putRow, Go.Sort.mapBlock, Go.Sort.ahead]; omega)]
  unfold Go.Sort.putRow Go.Sort.mapBlock Go.Sort.ahead
  simp only
  rw [Array.getElem?_modify, if_neg (fun e => hne e.symm)]
theorem ranges_of {w w' : World} {b r n cnt : Nat} {D : DataW Unit} {left : Lit → Bool} (h : w.ranges Tryz.prog 3 unitElem b r n D left cnt) (h1 : w'.heap[b]? = w.heap[b]?) (h2 : w'.heap[r]? = w.heap[r]?) : w'.ranges Tryz.prog 3 unitElem b r n D left cnt := by
 obtain ⟨es, clock, since, seen, c0, hb, F, hs, hD, hr, rest⟩ := h
 exact ⟨es, clock, since, seen, c0, h1.trans hb, F, hs, hD, h2.trans hr, rest⟩
theorem ranges_le {w : World} {b r n cnt : Nat} {D : DataW Unit} {left : Lit → Bool} (h : w.ranges Tryz.prog 3 unitElem b r n D left cnt) : cnt ≤ n := by
 obtain ⟨es, clock, since, seen, c0, hb, F, hs, hD, hr, h1, h2, _⟩ := h
 rw [← h2]
 unfold leftOf
 exact Nat.le_trans Array.size_filter_le hs
theorem inv_key (key : Value) (kl : Lit) (h : keyOf Tryz.prog 3 key = some kl) : ∃ x, key = Value.int .i64 x := by
 obtain ⟨x, hx, _⟩ := Maps.keyOf_int_inv Tryz.underlying3 h
 exact ⟨x, hx⟩
theorem key_inv {x : Int} {kl : Lit} (h : keyOf Tryz.prog 3 (.int .i64 x) = some kl) : kl = .int .i64 x ∧ I64 x := by
 obtain ⟨y, hy, hk, hw⟩ := Maps.keyOf_int_inv Tryz.underlying3 h
 injection hy with _ hy
 subst hy
 refine ⟨hk, ?_⟩
 unfold I64
 simp [Lit.wf, IntKind.min, IntKind.max, IntKind.signed, IntKind.bits] at hw
 omega
theorem inv_unit (v : Value) (y : DataW Unit × List MemPlace) (h : unitElem v = some y) : ∃ c : Unit, v = (fun _ => Value.agg #[]) c := by
 obtain ⟨hv, _⟩ := unitElem_inv h
 exact ⟨(), hv⟩
theorem lsame_int (x y : Int) : (Lit.int .i64 x).sameKey (.int .i64 y) = decide (x = y) := by
 by_cases e : x = y
 ·subst e
  cases hs : (Lit.int IntKind.i64 x).sameKey (.int .i64 x)
  ·simp [Lit.sameKey] at hs
  ·simp
 ·rw [sameKey_ne (lnum_ne e)]
  simp [e]
theorem fls_of {T : Tr} : ∀ xs : List Int, (∀ x ∈ xs, -x ∈ T.lits) → ∃ d : Array (Fls T), d.toList.map (·.1) = xs
 | [], _ => ⟨#[], rfl⟩
 |x :: xs, h => by
  obtain ⟨d, hd⟩ := fls_of xs fun y hy => h y (List.mem_cons_of_mem _ hy)
  exact ⟨(⟨x, h x List.mem_cons_self⟩ :: d.toList).toArray, by show x :: d.toList.map _ = _; rw [hd]⟩
theorem get_bang {α : Type} [Inhabited α] (d : Array α) {j : Nat} (h : j < d.size) : d.toList[j]? = some d[j]! := by
 rw [getElem!_pos d j h, List.getElem?_eq_getElem (by simpa using h)]
 simp
theorem lholds_own {T : Tr} [Inhabited (Fls T)] {w : World} {F : Nat → Prop} {n cap g : Nat} {xs : List Int} {d : Array (Fls T)} {e : TypeId} (h : Own w F e 1 (.slice (some ⟨g, 0, none⟩) n cap) n (ints xs)) (hd : d.toList.map (·.1) = xs) : Go.Sort.Holds (fenc T) w g 0 d := by
 intro j hj
 have hl : xs.length = n := by have := h.1; simpa [ints_length] using this
 have hs : d.size = n := by rw [← hl, ← hd]; simp
 obtain ⟨g', e1, _, _, hc, hf⟩ := h.cell (j := j) (by omega)
 injection e1 with e1
 injection e1 with e1
 subst e1
 rw [Nat.zero_add]
 refine ⟨?_, hf⟩
 rw [hc, ints_get, ← hd, List.getElem?_map, get_bang d hj]
 rfl
theorem rd_holds {T : Tr} [Inhabited (Fls T)] {w : World} {F : Nat → Prop} {n cap g : Nat} {d : Array (Fls T)} (h : Go.Sort.Holds (fenc T) w g 0 d) (hs : d.size = n) (h1 : n ≤ cap) (h2 : cap ≤ maxLen) (hF : F g) (hg : g < w.heap.size) : Rd w F 1 (.slice (some ⟨g, 0, none⟩) n cap) n (ints (d.toList.map (·.1))) := by
 refine ⟨by rw [ints_length]; simp [hs], _, cap, rfl, h1, h2, fun _ => ⟨g, 0, rfl, hF, hg, fun j u hu => ?_⟩⟩
 have hj : j < d.size := by
  have := (List.getElem?_eq_some_iff.1 hu).1
  simpa [ints_length] using this
 rw [ints_get, List.getElem?_map, get_bang d hj] at hu
 injection hu with hu
 rw [(h j hj).1, ← hu]
 rfl
theorem sorted_out {T : Tr} (hw : T.WF) {S : Int → Bool} (hS : ∀ x, S x = true → -x ∈ T.lits) [Inhabited (Fls T)] {d d' : Array (Fls T)} (hn : (d.toList.map (·.1)).Nodup) (hm : ∀ x, x ∈ d.toList.map (·.1) ↔ S x = true)
  (hp : Go.Sort.PermIn 0 d.size d d') (hs : Go.Sort.SortedIn (ltOf (fcmp T)) 0 d.size d') : d'.toList.map (·.1) = T.sorted S := by
 obtain ⟨h1, _, h2⟩ := hp
 have h3 : d'.toList.Perm d.toList := by
  have e1 : d'.extract 0 d.size = d' := by rw [← h1]; exact Array.extract_size
  have e2 : d.extract 0 d.size = d := Array.extract_size
  rwa [e1, e2] at h2
 have h4 : (d'.toList.map (·.1)).Perm (d.toList.map (·.1)) := h3.map _
 refine sorted_unique hw hS (h4.nodup_iff.2 hn) (fun x => h4.mem_iff.trans (hm x)) ?_
 rw [List.pairwise_iff_getElem]
 intro i j hi hj hij
 have hi' : i < d'.size := by simpa using hi
 have hj' : j < d'.size := by simpa using hj
 have := hs i j (Nat.zero_le _) hij (by omega)
 unfold ltOf fcmp at this
 rw [decide_eq_false_iff_not, getElem!_pos d' i hi', getElem!_pos d' j hj'] at this
 simp only [List.getElem_map, Array.getElem_toList]
 omega
theorem lsorted_any {w : World} {a ma ms tb nm ns : Nat} {T : Tr} {A : An} (e : AnAt w a ma ms tb nm ns T A) (hw : T.WF) (hS : ∀ x, A.set x = true → -x ∈ T.lits) (hne : T.sorted A.set ≠ []) (hns : ns ≤ 1000000) :
  Calls Tryz.prog 117 #[.pointer (some ⟨a, 0, none⟩)] w fun r w' => (∃ R c, r = .returned (.slice R (T.sorted A.set).length c) ∧ Rd w' (fun k => w.heap.size ≤ k) 1 (.slice R (T.sorted A.set).length c) (T.sorted A.set).length (ints (T.sorted A.set))) ∧ Below w.heap.size w w' := by
 have b1 : Below w.heap.size w (w.alloc (.cells #[.pointer (some ⟨a, 0, none⟩)] 168)) := (Below.refl _ _).alloc (Nat.le_refl _) _
 have E1 := e.below b1
 have cb : (w.alloc (.cells #[.pointer (some ⟨a, 0, none⟩)] 168)).heap[w.heap.size]? = some (.cells #[.pointer (some ⟨a, 0, none⟩)] 168 (0, 0)) := heap_alloc_new w _
 obtain ⟨D, hown, hD⟩ := E1.set
 have hal := lt_of_block e.blk
 have hml := e.set.lt
 have hpl := e.pos.lt
 obtain ⟨c0, c1, c2, c3, c4, c5, _⟩ := box6 E1.blk
 have B1 := hid b1
 have HE := hid E1
 have Cb := hid cb
 have HS := hid hS
 have Hne := hid hne
 have HD := hid hD
 have Hw := hid hw
 clear e hw hS hne hD b1 cb E1
 go_enter Tryz.func117, Tryz.ntmps117
 go_wp2_with (at_range; refine wpList_range_own _ rfl _ 183 rfl 3 186 lkeyed_int Tryz.underlying183 _ ms ns D rfl hown ?_; intro w0 hrg0 hg0 hs0)
 go_frame
 simp only [World.size_alloc]
 have Hrg0 := hid hrg0
 have M0 := hid (Mod.of_grown hg0)
 have hcn0 := ranges_le hrg0
 simp only [World.size_alloc] at hs0
 clear hrg0 hg0 c0 c1 c2 c3 c4 c5 hown
 go_loopw [3] (fun xv W => ∃ (left : Lit → Bool) (cnt : Nat) (xs : List Int) (R : Option Addr) (c : Nat), xv = .slice R xs.length c ∧ Hid (W.ranges Tryz.prog 3 unitElem ms (w.heap.size + 1) ns D left cnt) ∧ xs.length + cnt ≤ ns ∧ Hid (Own W (fun g => w.heap.size + 2 ≤ g) 3 1 (.slice R xs.length c) xs.length (ints xs)) ∧ Hid xs.Nodup ∧ Hid (∀ x, left (.int .i64 x) = true → Maps.has D (.int .i64 x) = true) ∧ Hid (∀ x, x ∈ xs → I64 x) ∧ Hid (∀ x, I64 x → (x ∈ xs ↔ Maps.has D (.int .i64 x) = true ∧ left (.int .i64 x) = false)) ∧ Hid (Mod (fun g => w.heap.size < g) w0 W)) (fun _ W => W.rangeLeft ms (w.heap.size + 1))
 case atStart =>
  refine ⟨_, _, [], none, 0, rfl, ?_, by simpa using hcn0, Own.nil _ _ _ _, List.nodup_nil, fun x hx => hx, fun x hx => by simp at hx, fun x _ => ?_, Mod.refl _ _⟩
  ·have := Hrg0.o
   simp only [World.size_alloc] at this
   exact this
  ·simp
 case round =>
  obtain ⟨left, cnt, xs, R, c, rfl, Hrg, hcnt, Ho, Hnd, Hld, Hi, Hmem, M1⟩ := hrel
  have hsz := M1.o.size
  go_wp2_with (at_next; refine wpList_next_ranges _ rfl _ rfl 3 lkeyed_int unitElem (Value.int .i64) (fun _ : Unit => .agg #[]) inv_key inv_unit ms (w.heap.size + 1) ns D left cnt rfl Hrg.o ?_ ?_)
  ·intro hc0 hl0
   have hmS : ∀ x, x ∈ xs ↔ A.set x = true := fun x => by
    constructor
    ·intro hx
     have hI := Hi.o x hx
     rw [← HD.o x hI]
     exact ((Hmem.o x hI).1 hx).1
    ·intro hx
     have hb := lits_small Hw.o (HS.o x hx)
     have hI : I64 x := by unfold I64; omega
     exact (Hmem.o x hI).2 ⟨(HD.o x hI).trans hx, hl0 _⟩
   obtain ⟨x0, hx0⟩ := List.exists_mem_of_ne_nil _ Hne.o
   have hS0 := (mem_sorted_iff HS.o x0).1 hx0
   have hpos : 0 < xs.length := List.length_pos_of_mem ((hmS x0).2 hS0)
   haveI hinh : Inhabited (Fls T) := ⟨⟨x0, HS.o x0 hS0⟩⟩
   obtain ⟨d, hd⟩ := fls_of xs fun x hx => HS.o x ((hmS x).1 hx)
   have hds : d.size = xs.length := by rw [← hd]; simp
   obtain ⟨R', c', hv, hle, hmx, hg⟩ := Ho.o.form
   injection hv with hv1 _ hv3
   subst hv1 hv3
   obtain ⟨g, rfl, hgF, hgl⟩ := hg (by omega)
   have HmS := hid hmS
   have Hd := hid hd
   have Hds := hid hds
   have hk : ∀ k, k ≤ w.heap.size → wr.heap[k]? = (w.alloc (.cells #[.pointer (some ⟨a, 0, none⟩)] 168)).heap[k]? := fun k hk => (M1.o.block k (by omega) (by omega)).trans (M0.o.block k (by simp; omega) (by simp))
   have Hblk := hid ((hk a (by omega)).trans HE.o.blk)
   have Hpos := hid (HE.o.pos.of_block (hk ma (by omega)))
   have Hbox := hid ((hk w.heap.size (by omega)).trans Cb.o)
   have hsf := sort_func (fenc T) (fun x => rfl) (fcmp T) (fcmp_swo T) 140 #[.pointer (some ⟨w.heap.size, 0, none⟩)] g 0 c d wr (by intro args w; kernel_rfl) (CmpReads.lays (fun m os dk hs x y => by
    have hm := lsort_mod (fenc T) wr g 0 m dk os
    have hb := (hm.block w.heap.size (by omega) (by omega)).trans Hbox.o
    have ha := (hm.block a (by omega) (by omega)).trans Hblk.o
    have hp := Hpos.o.of_block (hm.block ma (by omega) (by omega))
    exact sorted_closure ((cell_of_row _ _ 0 _ _ _ hb).trans rfl) (box6 ha).1 hp Hw.o x.2 y.2)) (lholds_own Ho.o hd) hgl (by omega)
   rw [hds] at hsf
   have Hsf := hid hsf
   clear hmS hd hds hk hsf hcnt
   go_wp2_with fail
   refine Hsf.o.mono ?_
   rintro r w' ⟨rfl, d', n, os, hp, hs, rfl⟩
   go_wp2_with fail
   go_ret
   have hout := sorted_out Hw.o HS.o (by rw [Hd.o]; exact Hnd.o) (by rw [Hd.o]; exact HmS.o) (by rw [Hds.o]; exact hp) (by rw [Hds.o]; exact hs)
   have hds' : d'.size = xs.length := by have := hp.1; rw [this, Hds.o]
   have hlen : (T.sorted A.set).length = xs.length := by rw [← hout]; simp [hds']
   refine ⟨⟨some ⟨g, 0, none⟩, c, by rw [hlen]; rfl, ?_⟩, ?_⟩
   ·rw [hlen, ← hout]
    exact rd_holds (holds_sortWorld (fenc T) wr g 0 n d d' os hgl (lholds_own Ho.o Hd.o) (by rw [hds', Hds.o])) hds' hle hmx (by omega) (by have := (lsort_mod (fenc T) wr g 0 n d' os).size; omega)
   ·have B0 : Below w.heap.size w w0 := B1.o.trans ((Mod.below (M0.o.mono fun k _ hk => by cases hk)).mono (by simp))
    exact lbelow_mod (lbelow_mod B0 (by omega) M1.o fun g hg => by omega) (by omega) (lsort_mod (fenc T) wr g 0 n d' os) fun k hk => by omega
  ·intro x uc kl y w1 cnt1 hkey hlk hRv hat hrg1 hlt hg1 hs1 hen
   obtain ⟨rfl, hIx⟩ := key_inv hkey
   have M2 : Hid (Mod (fun g => w.heap.size < g) w0 w1) := M1.o.trans ((Mod.of_grown hg1).mono fun k _ hk => .inl (by injection hk with hk; omega))
   have Ho1 := hid (Ho.o.mod (Mod.of_grown hg1) fun g _ _ hf hk => by injection hk with hk; omega)
   have Hrg1 := hid hrg1
   have hin := hid ((show ¬ x ∈ xs from fun hx => by have := ((Hmem.o x hIx).1 hx).2; rw [hlk] at this; cases this))
   have hhas := hid (Hld.o x hlk)
   have HIx := hid hIx
   have Hs1 := hid hs1
   clear hg1 hrg1 hRv hat hkey hIx hs1
   go_wp2_with (at_builtin; refine wpList_append_ints rfl _ _ rfl (Ho1.o.below ((Below.refl _ _).alloc (Nat.le_refl _) _)) (own_one w1 (.int .i64 x)).rd rfl rfl (by simp [Value.oneCell']) (by omega) ?_; intro Av cv w3 ho3 hm3 hr3)
   have hrow : ∀ g, row (.slice R xs.length c) g → w.heap.size + 2 ≤ g := fun g hg => (Ho1.o.row hg).1
   have hs3 := hm3.size
   have hs1 := Hs1.o
   simp only [World.size_alloc] at hs3
   have hk : ∀ k, k < w.heap.size + 2 → w3.heap[k]? = w1.heap[k]? := fun k hk => (hm3.block k (by simp; omega) (fun hr => by have := hrow k hr; omega)).trans (World.heap_alloc_ne _ _ _ (by omega))
   have Hrg3 := ranges_of Hrg1.o (hk _ (by omega)) (hk _ (by omega))
   go_roundw
   case rel =>
    refine ⟨_, cnt1, xs ++ [x], Av, cv, by simp, Hrg3, by simp; omega, ?_, ?_, ?_, ?_, ?_, ?_⟩
    ·rw [ints_append, List.length_append]
     exact ho3.mono fun g _ _ hg => hg.elim id fun hg => by simp at hg; omega
    ·exact List.nodup_append.2 ⟨Hnd.o, by simp, by simp; exact fun z hz e => hin.o (e ▸ hz)⟩
    ·intro z hz
     exact Hld.o z (by simp only [Bool.and_eq_true] at hz; exact hz.1)
    ·intro z hz
     rcases List.mem_append.1 hz with hz | hz
     ·exact Hi.o z hz
     ·rw [List.mem_singleton.1 hz]; exact HIx.o
    ·intro z hz
     rw [List.mem_append, List.mem_singleton, Hmem.o z hz, lsame_int]
     by_cases e : z = x
     ·subst e
      simp [hhas.o]
     ·simp [e]
    ·exact (M2.o.alloc _).trans (hm3.mono fun k _ hk => .inl (by have := hrow k hk; omega))
   case measure => rw [Hrg3.left_eq, Hrg.o.left_eq]; exact hlt
end
section
open Go.RowKit
/-! ### plain -/
theorem Tr.level_of {T : Tr} (h : T.WF) {i : Nat} {e : Ent} (he : T.L[i]? = some e) : T.levelOf e.v = e.level := by
 simp [Tr.levelOf, h.idx he, he]
theorem level_le {T : Tr} (h : T.WF) {i : Nat} {e : Ent} (he : T.L[i]? = some e) : e.level ≤ T.starts.length := by
 rw [h.level i e he]; exact List.length_filter_le _ _
theorem level_lt {T : Tr} (h : T.WF) {i K : Nat} {e : Ent} (he : T.L[i]? = some e) (hK : K < T.starts.length) : e.level ≤ K ↔ i < T.starts[K] := by
 rw [h.level i e he]
 have e1 : T.starts = T.starts.take K ++ T.starts.drop K := (List.take_append_drop K T.starts).symm
 have e3 : T.starts.drop K = T.starts[K] :: T.starts.drop (K + 1) := List.drop_eq_getElem_cons hK
 constructor
 ·intro hle
  rcases Nat.lt_or_ge i T.starts[K] with hlt | hge
  ·exact hlt
  ·exfalso
   have h1 : (T.starts.filter (· ≤ i)).length ≥ K + 1 := by
    rw [e1, List.filter_append, List.length_append, e3, List.filter_cons, if_pos (by simpa using hge)]
    have : ((T.starts.take K).filter (· ≤ i)) = T.starts.take K := List.filter_eq_self.2 fun s hs => by
     obtain ⟨j, hj, rfl⟩ := List.mem_take_iff_getElem.1 hs
     have := pairwise_get h.starts (show j < K by omega) hK
     simp; omega
    rw [this]
    simp
    omega
   omega
 ·intro hlt
  have h2 : (T.starts.drop K).filter (· ≤ i) = [] := by
   rw [List.filter_eq_nil_iff]
   intro s hs
   obtain ⟨j, hj, rfl⟩ := List.mem_drop_iff_getElem.1 hs
   rcases Nat.eq_zero_or_pos j with h0 | h0
   ·subst h0; simp; omega
   ·have := pairwise_get h.starts (show K < K + j by omega) (show K + j < T.starts.length by omega)
    simp; omega
  rw [e1, List.filter_append, h2, List.append_nil]
  have := List.length_filter_le (fun x => decide (x ≤ i)) (T.starts.take K)
  simp at this
  omega
def Tr.upto (T : Tr) (K : Nat) : Int → Bool := fun l => Decidable.decide (T.levelOf l.natAbs ≤ K)
theorem filter_take_of {α : Type} (p : α → Bool) : ∀ (l : List α) (n : Nat), (∀ i x, l[i]? = some x → (p x = true ↔ i < n)) → l.filter p = l.take n
 | [], n, _ => by simp
 |x :: l, n, h => by
  have h0 := h 0 x rfl
  cases n with
  | zero =>
   rw [List.take_zero, List.filter_eq_nil_iff]
   intro y hy hp
   obtain ⟨i, hi, rfl⟩ := List.mem_iff_getElem.1 hy
   have := (h i _ (List.getElem?_eq_getElem hi)).1 hp
   omega
  | succ n =>
   rw [List.filter_cons, if_pos (h0.2 (by omega)), List.take_succ_cons, filter_take_of p l n fun i y hy => by
    have := h (i + 1) y (by simpa using hy)
    rw [this]; omega]
theorem Tr.back_lits {T : Tr} (h : T.WF) (K : Nat) : (T.back K).lits = T.lits.filter (T.upto K) := by
 have key : ∀ (i : Nat) (l : Int), T.lits[i]? = some l → (T.upto K l = true ↔ ∃ e : Ent, T.L[i]? = some e ∧ e.level ≤ K) := by
  intro i l hl
  simp only [Tr.lits, List.getElem?_map, Option.map_eq_some_iff] at hl
  obtain ⟨e, he, rfl⟩ := hl
  have h1 : T.levelOf (e.lit.natAbs : Nat) = e.level := Tr.level_of h he
  simp only [Tr.upto, h1, decide_eq_true_eq]
  constructor
  ·intro h2; exact ⟨e, he, by omega⟩
  ·rintro ⟨f, hf, hle⟩
   rw [he] at hf
   obtain rfl := Option.some.inj hf
   omega
 unfold Tr.back
 split
 ·rename_i hK
  rw [Tr.undo_at hK]
  rw [filter_take_of (T.upto K) T.lits T.starts[K] fun i l hl => by
   rw [key i l hl]
   constructor
   ·rintro ⟨e, he, hle⟩
    exact (level_lt h he hK).1 hle
   ·intro hlt
    have hi : i < T.L.length := by have := (List.getElem?_eq_some_iff.1 hl).1; simpa [Tr.lits] using this
    exact ⟨T.L[i], by simp [hi], (level_lt h (by simp [hi]) hK).2 hlt⟩]
  simp [Tr.lits]
 ·rename_i hK
  rw [List.filter_eq_self.2]
  intro l hl
  obtain ⟨i, hi, rfl⟩ := List.mem_iff_getElem.1 hl
  have hi' : i < T.L.length := by simpa [Tr.lits] using hi
  rw [key i _ (List.getElem?_eq_getElem hi)]
  have := level_le h (show T.L[i]? = some T.L[i] by simp [hi'])
  exact ⟨T.L[i], by simp [hi'], by omega⟩
/-! ### LearnTurned -/
theorem value_of_neg {T : Tr} (h : T.WF) {l : Int} (hl : -l ∈ T.lits) : T.value l = -1 := by
 obtain ⟨i, e, he, hel⟩ := Tr.mem_lits.1 hl
 have h1 : ¬ l ∈ T.lits := fun hm => by
  obtain ⟨j, f, hf, hfl⟩ := Tr.mem_lits.1 hm
  have := h.uniq he hf (by unfold Ent.v; omega)
  subst this
  rw [he] at hf
  have := Option.some.inj hf
  subst this
  have := (h.lit e (List.mem_of_getElem? he)).1
  omega
 simp [Tr.value, h1, hl]
/-! ### LearnErrs -/
/-! ### LearnAsserts -/
theorem learnt_form {T : Tr} (h : T.WF) {cs : List Int} (hok : okFor T cs = true) : ∃ c rest, T.learnt cs = c :: rest ∧ -c ∈ T.lits ∧ T.lvOf c = T.depth ∧
  (∀ x ∈ rest, -x ∈ T.lits ∧ 1 ≤ T.lvOf x ∧ T.lvOf x < T.depth) ∧ (c :: rest).Pairwise (fun x y => T.pos y < T.pos x) := by
 obtain ⟨e, h1⟩ := (Inv.start h hok).finish h
 have hl : T.learnt cs = T.sorted ((An.addAll T 0 An.fresh cs).run T).set := rfl
 have hp := sorted_pairwise h ((An.addAll T 0 An.fresh cs).run T).set
 have hmem := mem_sorted_iff (T := T) e.neg
 rw [← hl] at hp hmem
 have hc := e.cnt
 rw [h1] at hc
 obtain ⟨m, hm, hpm⟩ := List.countP_pos_iff.1 (show 0 < cntNow T ((An.addAll T 0 An.fresh cs).run T) by omega)
 simp only [Bool.and_eq_true, decide_eq_true_eq] at hpm
 have huniq : ∀ x, ((An.addAll T 0 An.fresh cs).run T).set x = true → T.lvOf x = T.depth → x = -m := by
  intro x hx hd
  refine Classical.byContradiction fun hne => ?_
  have hxm := e.neg x hx
  have h2 : 2 ≤ cntNow T ((An.addAll T 0 An.fresh cs).run T) := by
   unfold cntNow
   have e1 := countP_put (lits_nodup h) (p := fun y => (((An.addAll T 0 An.fresh cs).run T).set (-y) && decide (T.lvOf y = T.depth)) && !decide (y = m)) (q := fun y => ((An.addAll T 0 An.fresh cs).run T).set (-y) && decide (T.lvOf y = T.depth)) (m := m) hm (by simp) (by simp [hpm]) (fun y hy => by simp [hy])
   have e2 : 0 < T.lits.countP (fun y => (((An.addAll T 0 An.fresh cs).run T).set (-y) && decide (T.lvOf y = T.depth)) && !decide (y = m)) := by
    refine List.countP_pos_iff.2 ⟨-x, hxm, ?_⟩
    have : ¬ -x = m := fun e3 => hne (by omega)
    simp [hx, lvOf_neg, hd, this]
   omega
  omega
 cases hL : T.learnt cs with
 | nil => exact absurd (hL ▸ (hmem (-m)).2 hpm.1) (by simp)
 | cons c rest =>
  rw [hL] at hp hmem
  obtain ⟨hp1, hp2⟩ := List.pairwise_cons.1 hp
  have hcs := (hmem c).1 (by simp)
  have hcm : -m = c := by
   rcases List.mem_cons.1 ((hmem (-m)).2 hpm.1) with e1 | e1
   ·exact e1
   ·exfalso
    have hlt := hp1 (-m) e1
    obtain ⟨_, _, a⟩ := pos_lt h (e.neg c hcs)
    obtain ⟨_, _, b⟩ := pos_lt h (x := -m) (by rw [Int.neg_neg]; exact hm)
    have hle := lvOf_mono h b a (by have := (pos_lt h (x := -m) (by rw [Int.neg_neg]; exact hm)).1; omega)
    rw [Int.neg_neg, lvOf_neg] at hle
    have := (lvOf_le h (e.neg c hcs)).2
    rw [lvOf_neg] at this
    have hcm := huniq c hcs (by omega)
    rw [hcm] at hlt
    omega
  subst hcm
  refine ⟨-m, rest, rfl, by rw [Int.neg_neg]; exact hm, by rw [lvOf_neg]; exact hpm.2, fun x hx => ?_, hp⟩
  have hxs := (hmem x).1 (List.mem_cons_of_mem _ hx)
  have hxn := e.neg x hxs
  have hb := lvOf_le h hxn
  rw [lvOf_neg] at hb
  have h0 := e.lv x hxs
  have hne : T.lvOf x ≠ T.depth := fun hd => by
   have hxm := huniq x hxs hd
   have hlt := hp1 x hx
   rw [hxm] at hlt
   omega
  exact ⟨hxn, by omega, by omega⟩
theorem topLv_ge (T : Tr) : ∀ (ls : List Int) (a : Int), a ≤ ls.foldl (fun a l => max a (T.lvOf l)) a ∧ ∀ x ∈ ls, T.lvOf x ≤ ls.foldl (fun a l => max a (T.lvOf l)) a := by
 intro ls
 induction ls with
 | nil => intro a; simp
 | cons l ls ih =>
  intro a
  obtain ⟨h1, h2⟩ := ih (max a (T.lvOf l))
  simp only [List.foldl_cons]
  refine ⟨by omega, fun x hx => ?_⟩
  rcases List.mem_cons.1 hx with e | hx
  ·subst e; omega
  ·exact h2 x hx
theorem topLv_lt (T : Tr) (d : Int) : ∀ (ls : List Int) (a : Int), a < d → (∀ x ∈ ls, T.lvOf x < d) → ls.foldl (fun a l => max a (T.lvOf l)) a < d := by
 intro ls
 induction ls with
 | nil => intro a h _; exact h
 | cons l ls ih =>
  intro a h hl
  simp only [List.foldl_cons]
  exact ih _ (by have := hl l (by simp); omega) fun x hx => hl x (by simp [hx])
theorem learnt_back {T : Tr} (h : T.WF) {cs : List Int} (hok : okFor T cs = true) {c : Int} {rest : List Int} (hL : T.learnt cs = c :: rest) :
  (T.back (topLv T rest).toNat).value c = 0 ∧ ∀ x ∈ rest, (T.back (topLv T rest).toNat).value x = -1 := by
 obtain ⟨c', rest', hL', hc, hd, hr, _⟩ := learnt_form h hok
 rw [hL] at hL'
 injection hL' with e1 e2
 subst e1 e2
 have hb := Tr.back_lits h (topLv T rest).toNat
 have h0 := (topLv_ge T rest 0).1
 have hlt : topLv T rest < T.depth := by
  unfold okFor at hok
  simp only [Bool.and_eq_true, decide_eq_true_eq] at hok
  exact topLv_lt T T.depth rest 0 (by omega) fun x hx => (hr x hx).2.2
 have hupc : T.upto (topLv T rest).toNat (-c) = false := by
  have : T.levelOf ((-c).natAbs : Nat) = T.depth := by rw [Int.natAbs_neg]; exact hd
  simp only [Tr.upto, this, decide_eq_false_iff_not]
  have : 0 ≤ topLv T rest := h0
  omega
 have hupc' : T.upto (topLv T rest).toNat c = false := by
  have : T.levelOf (c.natAbs : Nat) = T.depth := hd
  simp only [Tr.upto, this, decide_eq_false_iff_not]
  have : 0 ≤ topLv T rest := h0
  omega
 refine ⟨?_, fun x hx => ?_⟩
 ·have n1 : ¬ c ∈ (T.back (topLv T rest).toNat).lits := fun hm => by rw [hb, List.mem_filter, hupc'] at hm; simp at hm
  have n2 : ¬ -c ∈ (T.back (topLv T rest).toNat).lits := fun hm => by rw [hb, List.mem_filter, hupc] at hm; simp at hm
  simp [Tr.value, n1, n2]
 ·obtain ⟨a, b, d⟩ := hr x hx
  have hge := (topLv_ge T rest 0).2 x hx
  have m1 : -x ∈ (T.back (topLv T rest).toNat).lits := by
   rw [hb, List.mem_filter]
   refine ⟨a, ?_⟩
   have : T.levelOf ((-x).natAbs : Nat) = T.lvOf x := by rw [Int.natAbs_neg]; rfl
   simp only [Tr.upto, this, decide_eq_true_eq]
   have : T.lvOf x ≤ topLv T rest := hge
   omega
  have m2 : ¬ x ∈ (T.back (topLv T rest).toNat).lits := fun hm => by
   rw [hb, List.mem_filter] at hm
   have := value_of_neg h a
   simp [Tr.value, hm.1] at this
  simp [Tr.value, m1, m2]
theorem learnt_can {T : Tr} (h : T.WF) {cs : List Int} (hok : okFor T cs = true) {c : Int} {rest : List Int} (hL : T.learnt cs = c :: rest) :
  (T.back (topLv T rest).toNat).can c (c :: rest) = true := by
 obtain ⟨h1, h2⟩ := learnt_back h hok hL
 obtain ⟨c', rest', hL', hc, _⟩ := learnt_form h hok
 rw [hL] at hL'
 injection hL' with e1 e2
 subst e1 e2
 obtain ⟨e, he, hel⟩ := List.mem_map.1 hc
 have hle := h.lit e he
 unfold Ent.v at hle
 have hv : (T.back (topLv T rest).toNat).vars = T.vars := T.back_vars _
 have hf : (T.back (topLv T rest).toNat).freeB c = true := by
  rw [Tr.free_iff]
  exact ⟨by omega, by omega, h1⟩
 have hb : (c :: rest).any (badB (T.back (topLv T rest).toNat) c) = false := by
  rw [List.any_eq_false]
  intro x hx
  unfold badB
  rcases List.mem_cons.1 hx with e1 | e1
  ·subst e1; simp
  ·rw [h2 x e1]; simp
 simp [Tr.can, hf, hb]
end
end Go.Proofs.YtcjmpobccbnpkaaGreat
