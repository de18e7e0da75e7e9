/-
 Chapter 32: several texts in one (TwalkE Tplain TwalkF TwalkG).
-/
import Derived.Test.YtcjmpobccbnpkaaGreatMjab
import Derived.Test.YtcjmpobccbnpkaaGreatMjaa
namespace Go.Proofs.YtcjmpobccbnpkaaGreat
set_option maxRecDepth 100000
set_option maxHeartbeats 1000000
section
open Go.RowKit
open Go.ChangeMaps
theorem row_blk {w : World} {F : Nat → Prop} {v : Value} {n : Nat} {xs : List Value} (h : Own w F 3 1 v n xs) {g b : Nat} {cs : Array Value} (hr : row v g) (hb : w.heap[b]? = some (.cells cs 121 (0, 0))) : g ≠ b := by
 rintro rfl
 obtain ⟨_, cur, hg⟩ := h.row hr
 rw [hg] at hb
 injection hb with hb
 injection hb with _ ht
 cases ht
theorem row_map {w : World} {F : Nat → Prop} {v : Value} {n : Nat} {xs : List Value} (h : Own w F 3 1 v n xs) {g m : Nat} {es : Array MapEntry} {clock : Nat} (hr : row v g) (hm : w.heap[m]? = some (.map es clock)) : g ≠ m := by
 rintro rfl
 obtain ⟨_, cur, hg⟩ := h.row hr
 rw [hg] at hm
 cases hm
theorem push_done {w w1 w2 w3 : World} {F : Nat → Prop} {b m : Nat} {es : Array MapEntry} {clock : Nat} {vl vs v' : Value} {T : Tr} {lit : Int} {n : Nat} {r : List Int} {A : Option Addr} {c : Nat}
  (hT : TrailAt w F b m es clock vl vs T) (hb1 : Below w.heap.size w w1) (hu : Own w1 (fun g => w.heap.size ≤ g) 3 1 (.slice A n c) n (ints r)) (hn : r.length = n)
  (h2 : w2 = setBlock w1 m (.map (es.push { key := .int .i64 lit.natAbs, val := .agg #[.int .i64 lit, .int .i64 T.starts.length, .int .i64 T.L.length, .slice A n c], born := clock }) (clock + 1)))
  (o : Obj) (ho3 : Own w3 (fun g => F g ∨ (w2.alloc o).heap.size ≤ g) 3 1 v' (T.L.length + 1) (ints T.lits ++ [.int .i64 lit])) (hm3 : Mod (row vl) (w2.alloc o) w3)
  (hr3 : ∀ g, row v' g → row vl g ∨ (w2.alloc o).heap.size ≤ g) :
  (∃ m es clock, TrailAt (w3.setCell ⟨b, 2, none⟩ v') (fun g => F g ∨ w.heap.size ≤ g) b m es clock v' vs (T.imply lit r)) ∧ Mod F w (w3.setCell ⟨b, 2, none⟩ v') := by
 subst hn
 have hbm : b ≠ m := fun e => by
  have := hT.blk
  rw [e, hT.map] at this
  cases this
 have hblt := lt_of_block hT.blk
 have hmlt := lt_of_block hT.map
 have hmap1 : w1.heap[m]? = some (.map es clock) := (hb1.block m hmlt).trans hT.map
 have hs12 : w2.heap.size = w1.heap.size := by rw [h2]; simp [ChangeMaps.setBlock]
 have hsz : (w2.alloc o).heap.size = w1.heap.size + 1 := by simp [hs12]
 have hs1 := hb1.size
 have hs3 := hm3.size
 have hm2 : w2.heap[m]? = some (.map (es.push { key := .int .i64 lit.natAbs, val := .agg #[.int .i64 lit, .int .i64 T.starts.length, .int .i64 T.L.length, .slice A r.length c], born := clock }) (clock + 1)) := by
  rw [h2]; exact heap_setBlock_same hmap1 _
 have hne2 : ∀ k, k ≠ m → w2.heap[k]? = w1.heap[k]? := fun k hk => by rw [h2]; exact heap_setBlock_other hmap1 _ hk
 have keep3 : ∀ k, k < w1.heap.size → k ≠ m → ¬ row vl k → w3.heap[k]? = w1.heap[k]? := fun k hk hkm hr =>
  (hm3.block k (by omega) hr).trans ((World.heap_alloc_ne w2 o k (by omega)).trans (hne2 k hkm))
 have keep4 : ∀ k, k < w1.heap.size → k ≠ m → ¬ row vl k → k ≠ b → (w3.setCell ⟨b, 2, none⟩ v').heap[k]? = w1.heap[k]? := fun k hk hkm hr hkb =>
  (Below.heap_setCell w3 _ _ k hkb).trans (keep3 k hk hkm hr)
 have hbl : ¬ row vl b := fun hr => row_blk hT.lits hr hT.blk rfl
 have hbs : ¬ row vs b := fun hr => row_blk hT.starts hr hT.blk rfl
 have hml : ¬ row vl m := fun hr => row_map hT.lits hr hT.map rfl
 have hms : ¬ row vs m := fun hr => row_map hT.starts hr hT.map rfl
 have hvs3 : ∀ g, row v' g → ¬ row vs g := fun g hg hv => by
  rcases hr3 g hg with h | h
  ·exact hT.apart g h hv
  ·obtain ⟨_, cur, hgs⟩ := hT.starts.row hv
   have := lt_of_block hgs
   omega
 have hb3 : w3.heap[b]? = some (.cells #[.int .i64 T.vars, .map (some m), vl, vs] 121 (0, 0)) :=
  (keep3 b (by omega) hbm hbl).trans ((hb1.block b hblt).trans hT.blk)
 have hv'b : ¬ row v' b := fun hr => by
  rcases hr3 b hr with h | h
  ·exact hbl h
  ·omega
 have hM : Mod F w (w3.setCell ⟨b, 2, none⟩ v') := by
  refine Mod.setCell ?_ (.inl hT.hb) _
  refine ⟨hm3.os.trans ?_, hm3.tape.trans ?_, hm3.output.trans ?_, by omega, fun k hk hF => ?_⟩
  ·rw [h2]; exact hb1.os
  ·rw [h2]; exact hb1.tape
  ·rw [h2]; exact hb1.output
  ·exact (keep3 k (by omega) (fun e => hF (e ▸ hT.hm)) (fun hr => hF (hT.lits.row hr).1)).trans (hb1.block k hk)
 refine ⟨⟨m, es.push { key := .int .i64 lit.natAbs, val := .agg #[.int .i64 lit, .int .i64 T.starts.length, .int .i64 T.L.length, .slice A r.length c], born := clock }, clock + 1, ?_⟩, hM⟩
 refine { hb := .inl hT.hb, hm := .inl hT.hm, blk := ?_, map := ?_, size := ?_, ents := ?_, lits := ?_, starts := ?_, apart := hvs3 }
 ·rw [heap_setCell_same w3 b 2 _ _ _ hb3]
  simp [Tr.imply]
 ·rw [Below.heap_setCell w3 _ _ m (fun e => hbm e.symm)]
  exact (hm3.block m (by omega) hml).trans ((World.heap_alloc_ne w2 o m (by omega)).trans hm2)
 ·simp [Tr.imply, hT.size]
 ·intro i e he
  simp only [Tr.imply] at he
  rw [List.getElem?_append] at he
  split at he
  ·rename_i hi
   obtain ⟨x, A', n', c', h1, h3, h4, h5⟩ := hT.ents i e he
   refine ⟨x, A', n', c', ?_, h3, h4, ?_⟩
   ·rw [Array.getElem?_push, if_neg (by have := hT.size; omega)]; exact h1
   ·refine ((h5.mono (G := fun g => ((F g ∨ w.heap.size ≤ g) ∧ g ≠ b ∧ g ≠ m ∧ ¬ row v' g ∧ ¬ row vs g) ∧ ¬ row vl g) fun g hg hF => ⟨⟨.inl hF.1, hF.2.1, hF.2.2.1, fun hr => ?_, hF.2.2.2.2⟩, hF.2.2.2.1⟩).keep hM.size fun g hg hF => ?_).mono fun g hg hF => hF.1
    ·rcases hr3 g hr with h | h
     ·exact hF.2.2.2.1 h
     ·omega
    ·exact (keep4 g (by omega) hF.1.2.2.1 hF.2 hF.1.2.1).trans (hb1.block g hg)
  ·rename_i hi
   rw [List.getElem?_singleton] at he
   split at he
   ·rename_i hi'
    obtain rfl := Option.some.inj he
    refine ⟨_, A, r.length, c, by rw [Array.getElem?_push, if_pos (by have := hT.size; omega)], rfl, ?_, ?_⟩
    ·have : i = T.L.length := by omega
     subst this
     rfl
    ·have out : ∀ g, w.heap.size ≤ g → g < w1.heap.size → ¬ row vl g ∧ ¬ row vs g ∧ ¬ row v' g := fun g h1 h2 => by
      have a1 : ¬ row vl g := fun hr => by
       obtain ⟨_, cur, hg⟩ := hT.lits.row hr
       have := lt_of_block hg
       omega
      refine ⟨a1, fun hr => ?_, fun hr => ?_⟩
      ·obtain ⟨_, cur, hg⟩ := hT.starts.row hr
       have := lt_of_block hg
       omega
      ·rcases hr3 g hr with h | h
       ·exact a1 h
       ·omega
     refine ((hu.rd.mono (G := fun g => w.heap.size ≤ g ∧ (F g ∨ w.heap.size ≤ g) ∧ g ≠ b ∧ g ≠ m ∧ ¬ row v' g ∧ ¬ row vs g) fun g hg hF => ?_).keep (by simp; omega) fun g hg hF => ?_).mono fun g hg hF => hF.2
     ·have := out g hF hg
      exact ⟨hF, .inr hF, by omega, by omega, this.2.2, this.2.1⟩
     ·exact keep4 g hg hF.2.2.2.1 (out g hF.1 hg).1 hF.2.2.1
   ·cases he
 ·have h := ho3.keep (w' := w3.setCell ⟨b, 2, none⟩ v') fun g hg hr hF => Below.heap_setCell w3 _ _ g (fun e => hv'b ((show g = b from e) ▸ hr))
  have e1 : (T.imply lit r).lits = T.lits ++ [lit] := by simp [Tr.imply, Tr.lits]
  rw [e1, ints_append]
  simp only [Tr.imply, List.length_append, List.length_singleton]
  exact h.mono fun g hg hr hF => by
   rcases hF with hF | hF
   ·exact .inl hF
   ·right; omega
 ·exact (hT.starts.keep fun g hg hr hF => (keep4 g (by omega) (fun e => hms (e ▸ hr)) (fun h => hT.apart g h hr) (fun e => hbs (e ▸ hr))).trans (hb1.block g hg)).mono fun g hg hr hF => .inl hF
theorem cells3 {w w' : World} {b : Nat} {x1 x2 x3 : Value} (c1 : w.cell? ⟨b, 1, none⟩ = some x1) (c2 : w.cell? ⟨b, 2, none⟩ = some x2) (c3 : w.cell? ⟨b, 3, none⟩ = some x3) (h : ∀ i, w'.cell? ⟨b, i, none⟩ = w.cell? ⟨b, i, none⟩) :
  w'.cell? ⟨b, 1, none⟩ = some x1 ∧ w'.cell? ⟨b, 2, none⟩ = some x2 ∧ w'.cell? ⟨b, 3, none⟩ = some x3 := ⟨(h 1).trans c1, (h 2).trans c2, (h 3).trans c3⟩
theorem cell_setBlock {w : World} {m : Nat} {es : Array MapEntry} {clock : Nat} (hm : w.heap[m]? = some (.map es clock)) {b : Nat} (hne : b ≠ m) (o : Obj) (i : Nat) : (setBlock w m o).cell? ⟨b, i, none⟩ = w.cell? ⟨b, i, none⟩ :=
 World.cell?_of_block (heap_setBlock_other hm o hne)
theorem own_one (w : World) (x : Value) : Own (w.alloc (.cells #[x] 3)) (fun g => g = w.heap.size) 3 1 (.slice (some ⟨w.heap.size, 0, none⟩) 1 1) 1 [x] :=
 own_new w _ _ 1 1 #[x] 1 [x] rfl (by decide) (Nat.le_refl _) (by decide) rfl rfl rfl
theorem push_any {w : World} {F G : Nat → Prop} {b m : Nat} {es : Array MapEntry} {clock : Nat} {vl vs : Value} {T : Tr} {lit : Int} {n : Nat} {r : List Int} {v : Value}
  (hT : TrailAt w F b m es clock vl vs T) (hv : Rd w G 1 v n (ints r)) (hn : n ≤ 17592186044416) (hlo : -65536 ≤ lit) (hhi : lit ≤ 65536) (hlen : T.L.length ≤ 65536) (hno : T.idx lit.natAbs = none) :
  Calls Tryz.prog 112 #[.pointer (some ⟨b, 0, none⟩), .int .i64 lit, v] w fun e w' => e = .returned (.tuple #[]) ∧
   (∃ v' m es clock, TrailAt w' (fun g => F g ∨ w.heap.size ≤ g) b m es clock v' vs (T.imply lit r)) ∧ Mod F w w' := by
 obtain ⟨hrl, A, c, rfl, hc, hm, hA⟩ := id hv
 have hrn : r.length = n := by simpa [ints_length] using hrl
 obtain ⟨Al, cl, hvl, _⟩ := hT.lits.form
 obtain ⟨As, cs, hvs, _⟩ := hT.starts.form
 subst hvl hvs
 have c1 : w.cell? ⟨b, 1, none⟩ = some (.map (some m)) := by rw [cell_of_row w b 1 _ _ _ hT.blk]; rfl
 have c2 : w.cell? ⟨b, 2, none⟩ = some (.slice Al T.L.length cl) := by rw [cell_of_row w b 2 _ _ _ hT.blk]; rfl
 have c3 : w.cell? ⟨b, 3, none⟩ = some (.slice As T.starts.length cs) := by rw [cell_of_row w b 3 _ _ _ hT.blk]; rfl
 have hblt := lt_of_block hT.blk
 have hbm : b ≠ m := fun e => by
  have := hT.blk
  rw [e, hT.map] at this
  cases this
 have hup : ∀ w' val, w'.heap[m]? = some (.map es clock) → (Instr.mapUpdate 119 (.map (some m)) (.int .i64 lit.natAbs) val).run Tryz.prog w' = .ok () (setBlock w' m (.map (es.push { key := .int .i64 lit.natAbs, val, born := clock }) (clock + 1))) := fun w' val hw' =>
  update_i64_new Tryz.underlying119 Tryz.underlying3 _ hw' hT.keyed ((hT.found _).trans hno) val
 have hcl : Hid (Calls Tryz.prog 76 #[.slice A n c] w.drew fun e w1 => ∃ Au cu, e = .returned (.slice Au n cu) ∧ Own w1 (fun g => w.heap.size ≤ g) 3 1 (.slice Au n cu) n (ints r) ∧ Below w.heap.size w w1 ∧ w1.heap[m]? = some (.map es clock)) := by
  refine (clone_any (w := w.drew) (F := G) (xs := r) hv hn).mono ?_
  rintro e w1 ⟨⟨u, rfl, ho⟩, hb⟩
  obtain ⟨Au, cu, rfl, _⟩ := ho.form
  exact ⟨Au, cu, rfl, ho, ⟨hb.os, hb.tape, hb.output, hb.size, hb.block⟩, (hb.block m (lt_of_block hT.map)).trans hT.map⟩
 have HT := hid hT
 have Hrn := hid hrn
 have Hno := hid hno
 clear hT hrn hno hrl hA hm hc
 rcases Int.lt_or_le lit 0 with h0 | h0
 ·have hk : (lit.natAbs : Int) = -lit := by omega
  rw [hk] at hup
  have hmx : lit < -lit := by omega
  clear hk
  have hwr : IntKind.i64.wrap (-lit) = -lit := (IntWalk.i64_left _).trans (IntWalk.wrap64_in _ ⟨by omega, by omega⟩)
  go_enter Tryz.func112, Tryz.ntmps112
  go_wp2_with fail
  go_region_held3 (fun w' => w'.cell? ⟨b, 1, none⟩ = some (.map (some m)) ∧ w'.cell? ⟨b, 2, none⟩ = some (.slice Al T.L.length cl) ∧ w'.cell? ⟨b, 3, none⟩ = some (.slice As T.starts.length cs))
   (first | go_keep | exact cells3 c1 c2 c3 (fun i => hb.cell (p := ⟨b, i, none⟩) hblt) | exact cells3 c1 c2 c3 (fun i => (cell_setBlock hm1 hbm _ i).trans (hb.cell (p := ⟨b, i, none⟩) hblt))) ((go_at_call 76; refine hcl.o.mono ?_; rintro e w1 ⟨Au, cu, rfl, ho, hb, hm1⟩))
  all_goals
   generalize hw2' : setBlock w1 m _ = w2
   have hw2 := hw2'.symm
   clear hw2'
   have hc2 : ∀ i, w2.cell? ⟨b, i, none⟩ = w.cell? ⟨b, i, none⟩ := fun i => by rw [hw2]; exact (cell_setBlock hm1 hbm _ i).trans (hb.cell (p := ⟨b, i, none⟩) hblt)
   have d2 := (hc2 2).trans c2
   have hblk2 : w2.heap[b]? = w.heap[b]? := by rw [hw2]; exact (heap_setBlock_other hm1 _ hbm).trans (hb.block b hblt)
   have hOwn : Hid (Own w2 F 3 1 (.slice Al T.L.length cl) T.L.length (ints T.lits)) := HT.o.lits.keep fun g hg hr hF => by
    rw [hw2]; exact (heap_setBlock_other hm1 _ (row_map HT.o.lits hr HT.o.map)).trans (hb.block g hg)
   have hb2 : b < w2.heap.size := by rw [hw2]; have := hb.size; simp [ChangeMaps.setBlock]; omega
   have Hw2 := hid hw2
   have Hblk2 := hid (hblk2.trans HT.o.blk)
   clear hw2 hc2 hup hwr hmx c1 c2 c3 hblk2
   go_wp2_with (at_builtin; refine wpList_append_ints rfl _ _ rfl (hOwn.o.below ((Below.refl _ _).alloc (Nat.le_refl _) _)) (own_one w2 (.int .i64 lit)).rd rfl rfl (by simp [Value.oneCell']) (by omega) ?_; intro Av cv w3 ho3 hm3 hr3; have hb3 := (hm3.block b (by simp; omega) (fun hr => row_blk HT.o.lits hr HT.o.blk rfl)).trans ((World.heap_alloc_ne w2 _ b (by omega)).trans Hblk2.o); have d3 : w3.cell? ⟨b, 2, none⟩ = some (.slice Al T.L.length cl) := (cell_of_row w3 b 2 _ _ _ hb3).trans rfl; have f3 := frozen_of_row w3 b 2 _ _ hb3; have Hb3 := hid hb3; clear hb3 d2)
   go_end0
   refine ⟨rfl, ?_⟩
   have hd := push_done (lit := lit) HT.o hb ho Hrn.o (by rw [Hw2.o]; congr 5; omega) _ ho3 hm3 hr3
   exact ⟨⟨_, hd.1⟩, hd.2⟩
 ·have hk : (lit.natAbs : Int) = lit := by omega
  rw [hk] at hup
  have hmx : ¬ lit < -lit := by omega
  clear hk
  have hwr : IntKind.i64.wrap (-lit) = -lit := (IntWalk.i64_left _).trans (IntWalk.wrap64_in _ ⟨by omega, by omega⟩)
  go_enter Tryz.func112, Tryz.ntmps112
  go_wp2_with fail
  go_region_held3 (fun w' => w'.cell? ⟨b, 1, none⟩ = some (.map (some m)) ∧ w'.cell? ⟨b, 2, none⟩ = some (.slice Al T.L.length cl) ∧ w'.cell? ⟨b, 3, none⟩ = some (.slice As T.starts.length cs))
   (first | go_keep | exact cells3 c1 c2 c3 (fun i => hb.cell (p := ⟨b, i, none⟩) hblt) | exact cells3 c1 c2 c3 (fun i => (cell_setBlock hm1 hbm _ i).trans (hb.cell (p := ⟨b, i, none⟩) hblt))) ((go_at_call 76; refine hcl.o.mono ?_; rintro e w1 ⟨Au, cu, rfl, ho, hb, hm1⟩))
  all_goals
   generalize hw2' : setBlock w1 m _ = w2
   have hw2 := hw2'.symm
   clear hw2'
   have hc2 : ∀ i, w2.cell? ⟨b, i, none⟩ = w.cell? ⟨b, i, none⟩ := fun i => by rw [hw2]; exact (cell_setBlock hm1 hbm _ i).trans (hb.cell (p := ⟨b, i, none⟩) hblt)
   have d2 := (hc2 2).trans c2
   have hblk2 : w2.heap[b]? = w.heap[b]? := by rw [hw2]; exact (heap_setBlock_other hm1 _ hbm).trans (hb.block b hblt)
   have hOwn : Hid (Own w2 F 3 1 (.slice Al T.L.length cl) T.L.length (ints T.lits)) := HT.o.lits.keep fun g hg hr hF => by
    rw [hw2]; exact (heap_setBlock_other hm1 _ (row_map HT.o.lits hr HT.o.map)).trans (hb.block g hg)
   have hb2 : b < w2.heap.size := by rw [hw2]; have := hb.size; simp [ChangeMaps.setBlock]; omega
   have Hw2 := hid hw2
   have Hblk2 := hid (hblk2.trans HT.o.blk)
   clear hw2 hc2 hup hwr hmx c1 c2 c3 hblk2
   go_wp2_with (at_builtin; refine wpList_append_ints rfl _ _ rfl (hOwn.o.below ((Below.refl _ _).alloc (Nat.le_refl _) _)) (own_one w2 (.int .i64 lit)).rd rfl rfl (by simp [Value.oneCell']) (by omega) ?_; intro Av cv w3 ho3 hm3 hr3; have hb3 := (hm3.block b (by simp; omega) (fun hr => row_blk HT.o.lits hr HT.o.blk rfl)).trans ((World.heap_alloc_ne w2 _ b (by omega)).trans Hblk2.o); have d3 : w3.cell? ⟨b, 2, none⟩ = some (.slice Al T.L.length cl) := (cell_of_row w3 b 2 _ _ _ hb3).trans rfl; have f3 := frozen_of_row w3 b 2 _ _ hb3; have Hb3 := hid hb3; clear hb3 d2)
   go_end0
   refine ⟨rfl, ?_⟩
   have hd := push_done (lit := lit) HT.o hb ho Hrn.o (by rw [Hw2.o]; congr 5; omega) _ ho3 hm3 hr3
   exact ⟨⟨_, hd.1⟩, hd.2⟩
end
theorem Tr.value_zero {T : Tr} {l : Int} (h : T.value l = 0) : l ∉ T.lits ∧ -l ∉ T.lits := by
 unfold Tr.value at h
 split at h
 ·cases h
 ·split at h
  ·cases h
  ·exact ⟨‹_›, ‹_›⟩
theorem Tr.free_v {T : Tr} {l : Int} (h : T.free l) : ∀ e ∈ T.L, e.v ≠ l.natAbs := by
 intro e he hv
 obtain ⟨h1, h2⟩ := Tr.value_zero h.2.2
 have hm : e.lit ∈ T.lits := List.mem_map.2 ⟨e, he, rfl⟩
 unfold Ent.v at hv
 rcases Int.natAbs_eq_natAbs_iff.1 hv with h3 | h3
 ·exact h1 (h3 ▸ hm)
 ·exact h2 (h3 ▸ hm)
theorem nodup_snoc {l : List Nat} {x : Nat} (h : l.Nodup) (hx : x ∉ l) : (l ++ [x]).Nodup := by
 rw [List.nodup_append]
 refine ⟨h, by simp, fun a ha b hb => ?_⟩
 rw [List.mem_singleton] at hb
 subst hb
 exact fun e => hx (e ▸ ha)
theorem Tr.WF.imply {T : Tr} (h : T.WF) {l : Int} {r : List Int} (hf : T.free l) (hl : l ∈ r) (hr : ∀ x ∈ r, x = l ∨ -x ∈ T.lits) : (T.imply l r).WF where
 vars := h.vars
 lit := fun e he => by
  rcases List.mem_append.1 he with he | he
  ·exact h.lit e he
  ·rw [List.mem_singleton.1 he]; exact ⟨hf.1, hf.2.1⟩
 nodup := by
  simp only [Tr.imply, List.map_append, List.map_cons, List.map_nil]
  refine nodup_snoc h.nodup fun hm => ?_
  obtain ⟨e, he, hv⟩ := List.mem_map.1 hm
  exact Tr.free_v hf e he hv
 starts := h.starts
 below := fun s hs => by have := h.below s hs; simp [Tr.imply]; omega
 level := fun i e he => by
  simp only [Tr.imply] at he ⊢
  rw [List.getElem?_append] at he
  split at he
  ·exact h.level i e he
  ·rw [List.getElem?_singleton] at he
   split at he
   ·obtain rfl := Option.some.inj he
    rw [List.filter_eq_self.2]
    intro s hs
    have := h.below s hs
    simp; omega
   ·cases he
 reason := fun i e he => by
  simp only [Tr.imply] at he ⊢
  rw [List.getElem?_append] at he
  split at he
  ·rename_i hi
   have := h.reason i e he
   refine ⟨this.1, fun hs => ?_⟩
   have this := this.2 hs
   refine ⟨this.1, fun x hx => ?_⟩
   rcases this.2 x hx with h1 | ⟨j, hj, f, hf', hfx⟩
   ·exact .inl h1
   ·exact .inr ⟨j, hj, f, by rw [List.getElem?_append, if_pos (by omega)]; exact hf', hfx⟩
  ·rename_i hi
   rw [List.getElem?_singleton] at he
   split at he
   ·obtain rfl := Option.some.inj he
    refine ⟨fun hs => by have := h.below i hs; omega, fun _ => ⟨hl, fun x hx => ?_⟩⟩
    rcases hr x hx with h1 | h1
    ·exact .inl h1
    ·obtain ⟨f, hf', hfx⟩ := List.mem_map.1 h1
     obtain ⟨j, hj, hjf⟩ := List.mem_iff_getElem.1 hf'
     exact .inr ⟨j, by omega, f, by rw [List.getElem?_append, if_pos hj]; simp [hj, hjf], hfx⟩
   ·cases he
theorem Tr.WF.decide {T : Tr} (h : T.WF) {l : Int} (hf : T.free l) : (T.decide l).WF where
 vars := h.vars
 lit := fun e he => by
  rcases List.mem_append.1 he with he | he
  ·exact h.lit e he
  ·rw [List.mem_singleton.1 he]; exact ⟨hf.1, hf.2.1⟩
 nodup := by
  simp only [Tr.decide, List.map_append, List.map_cons, List.map_nil]
  refine nodup_snoc h.nodup fun hm => ?_
  obtain ⟨e, he, hv⟩ := List.mem_map.1 hm
  exact Tr.free_v hf e he hv
 starts := by
  simp only [Tr.decide, List.pairwise_append]
  refine ⟨h.starts, by simp, fun a ha b hb => ?_⟩
  rw [List.mem_singleton.1 hb]
  exact h.below a ha
 below := fun s hs => by
  simp only [Tr.decide, List.length_append, List.length_singleton] at hs ⊢
  rcases List.mem_append.1 hs with hs | hs
  ·have := h.below s hs; omega
  ·rw [List.mem_singleton.1 hs]; omega
 level := fun i e he => by
  simp only [Tr.decide] at he ⊢
  rw [List.getElem?_append] at he
  rw [List.filter_append, List.length_append]
  split at he
  ·rename_i hi
   have := h.level i e he
   simp only [this, List.filter_cons, List.filter_nil]
   rw [if_neg (by simp; omega)]
   simp
  ·rename_i hi
   rw [List.getElem?_singleton] at he
   split at he
   ·obtain rfl := Option.some.inj he
    rw [List.filter_eq_self.2]
    ·simp only [List.filter_cons, List.filter_nil]
     rw [if_pos (by simp; omega)]
     simp
    ·intro s hs
     have := h.below s hs
     simp; omega
   ·cases he
 reason := fun i e he => by
  simp only [Tr.decide] at he ⊢
  rw [List.getElem?_append] at he
  split at he
  ·rename_i hi
   have hmem : i ∈ T.starts ++ [T.L.length] ↔ i ∈ T.starts := by
    simp; omega
   have := h.reason i e he
   refine ⟨fun hs => this.1 (hmem.1 hs), fun hs => ?_⟩
   have this := this.2 (fun h => hs (hmem.2 h))
   refine ⟨this.1, fun x hx => ?_⟩
   rcases this.2 x hx with h1 | ⟨j, hj, f, hf', hfx⟩
   ·exact .inl h1
   ·exact .inr ⟨j, hj, f, by rw [List.getElem?_append, if_pos (by omega)]; exact hf', hfx⟩
  ·rename_i hi
   rw [List.getElem?_singleton] at he
   split at he
   ·obtain rfl := Option.some.inj he
    exact ⟨fun _ => rfl, fun hs => absurd (by simp; omega) hs⟩
   ·cases he
theorem Tr.undo_at {T : Tr} {k : Nat} (hk : k < T.starts.length) : T.undo k = { T with L := T.L.take T.starts[k], starts := T.starts.take k } := by
 simp [Tr.undo, hk]
theorem pairwise_get {l : List Nat} (h : l.Pairwise (· < ·)) {i j : Nat} (hij : i < j) (hj : j < l.length) : l[i] < l[j] :=
 List.pairwise_iff_getElem.1 h i j (by omega) hj hij
theorem Tr.WF.undo {T : Tr} (h : T.WF) {k : Nat} (hk : k < T.starts.length) : (T.undo k).WF := by
 have hs : T.starts[k] < T.L.length := h.below _ (List.getElem_mem hk)
 have hin : ∀ s, s ∈ T.starts.take k ↔ s ∈ T.starts ∧ s < T.starts[k] := fun s => by
  constructor
  ·intro hm
   obtain ⟨i, hi, rfl⟩ := List.mem_take_iff_getElem.1 hm
   exact ⟨List.getElem_mem _, pairwise_get h.starts (by omega) hk⟩
  ·rintro ⟨hm, hlt⟩
   obtain ⟨i, hi, rfl⟩ := List.mem_iff_getElem.1 hm
   refine List.mem_take_iff_getElem.2 ⟨i, ?_, rfl⟩
   rcases Nat.lt_or_ge i k with h1 | h1
   ·omega
   ·rcases Nat.eq_or_lt_of_le h1 with h2 | h2
    ·subst h2; omega
    ·have := pairwise_get h.starts h2 hi; omega
 rw [Tr.undo_at hk]
 exact {
  vars := h.vars
  lit := fun e he => h.lit e (List.mem_of_mem_take he)
  nodup := by
   simp only [List.map_take]
   exact h.nodup.sublist (List.take_sublist _ _)
  starts := h.starts.sublist (List.take_sublist _ _)
  below := fun s hs' => by
   have := ((hin s).1 hs').2
   simp only [List.length_take]
   omega
  level := fun i e he => by
   simp only [List.getElem?_take] at he
   split at he
   ·rename_i hi
    rw [h.level i e he]
    have e1 : T.starts = T.starts.take k ++ T.starts.drop k := (List.take_append_drop k T.starts).symm
    have e2 : (T.starts.drop k).filter (· ≤ i) = [] := by
     rw [List.filter_eq_nil_iff]
     intro s hs'
     obtain ⟨j, hj, rfl⟩ := List.mem_drop_iff_getElem.1 hs'
     rcases Nat.eq_zero_or_pos j with h0 | h0
     ·subst h0; simp; omega
     ·have := pairwise_get h.starts (show k < k + j by omega) (show k + j < T.starts.length by omega)
      simp; omega
    calc (T.starts.filter (· ≤ i)).length = ((T.starts.take k ++ T.starts.drop k).filter (· ≤ i)).length := by rw [← e1]
     _ = _ := by rw [List.filter_append, e2, List.append_nil]
   ·cases he
  reason := fun i e he => by
   simp only [List.getElem?_take] at he
   split at he
   ·rename_i hi
    have := h.reason i e he
    refine ⟨fun hm => this.1 ((hin i).1 hm).1, fun hm => ?_⟩
    have this := this.2 (fun hm' => hm ((hin i).2 ⟨hm', hi⟩))
    refine ⟨this.1, fun x hx => ?_⟩
    rcases this.2 x hx with h1 | ⟨j, hj, f, hf', hfx⟩
    ·exact .inl h1
    ·exact .inr ⟨j, hj, f, by simp only [List.getElem?_take]; rw [if_pos (by omega)]; exact hf', hfx⟩
   ·cases he }
section
open Go.RowKit
open Go.ChangeMaps
theorem start_done {w w3 : World} {F : Nat → Prop} {b m : Nat} {es : Array MapEntry} {clock : Nat} {vl vs v' : Value} {T : Tr} {w1 : World}
  (hT : TrailAt w F b m es clock vl vs T) (hb1 : Below w.heap.size w w1)
  (ho3 : Own w3 (fun g => F g ∨ w1.heap.size ≤ g) 3 1 v' (T.starts.length + 1) (ints (T.starts.map Int.ofNat) ++ [.int .i64 T.L.length])) (hm3 : Mod (row vs) w1 w3)
  (hr3 : ∀ g, row v' g → row vs g ∨ w1.heap.size ≤ g) :
  TrailAt (w3.setCell ⟨b, 3, none⟩ v') (fun g => F g ∨ w.heap.size ≤ g) b m es clock vl v' { T with starts := T.starts ++ [T.L.length] } ∧ Mod F w (w3.setCell ⟨b, 3, none⟩ v') := by
 have hblt := lt_of_block hT.blk
 have hmlt := lt_of_block hT.map
 have hs1 := hb1.size
 have hs3 := hm3.size
 have hbm : b ≠ m := fun e => by
  have := hT.blk
  rw [e, hT.map] at this
  cases this
 have hbl : ¬ row vl b := fun hr => row_blk hT.lits hr hT.blk rfl
 have hbs : ¬ row vs b := fun hr => row_blk hT.starts hr hT.blk rfl
 have hms : ¬ row vs m := fun hr => row_map hT.starts hr hT.map rfl
 have keep3 : ∀ k, k < w.heap.size → ¬ row vs k → w3.heap[k]? = w.heap[k]? := fun k hk hr =>
  (hm3.block k (by omega) hr).trans (hb1.block k hk)
 have keep4 : ∀ k, k < w.heap.size → ¬ row vs k → k ≠ b → (w3.setCell ⟨b, 3, none⟩ v').heap[k]? = w.heap[k]? := fun k hk hr hkb =>
  (Below.heap_setCell w3 _ _ k hkb).trans (keep3 k hk hr)
 have hb3 := (keep3 b hblt hbs).trans hT.blk
 have hv'b : ¬ row v' b := fun hr => by
  rcases hr3 b hr with h | h
  ·exact hbs h
  ·omega
 have hM : Mod F w (w3.setCell ⟨b, 3, none⟩ v') :=
  Mod.setCell ⟨hm3.os.trans hb1.os, hm3.tape.trans hb1.tape, hm3.output.trans hb1.output, by omega, fun k hk hF => keep3 k hk (fun hr => hF (hT.starts.row hr).1)⟩ (.inl hT.hb) _
 refine ⟨?_, hM⟩
 refine { hb := .inl hT.hb, hm := .inl hT.hm, blk := ?_, map := ?_, size := hT.size, ents := ?_, lits := ?_, starts := ?_, apart := ?_ }
 ·rw [heap_setCell_same w3 b 3 _ _ _ hb3]
  simp
 ·exact (keep4 m hmlt hms hbm.symm).trans hT.map
 ·intro i e he
  obtain ⟨x, A', n', c', h1, h3, h4, h5⟩ := hT.ents i e he
  refine ⟨x, A', n', c', h1, h3, h4, ?_⟩
  refine ((h5.mono (G := fun g => ((F g ∨ w.heap.size ≤ g) ∧ g ≠ b ∧ g ≠ m ∧ ¬ row vl g ∧ ¬ row v' g) ∧ ¬ row vs g) fun g hg hF => ⟨⟨.inl hF.1, hF.2.1, hF.2.2.1, hF.2.2.2.1, fun hr => ?_⟩, hF.2.2.2.2⟩).keep hM.size fun g hg hF => keep4 g hg hF.2 hF.1.2.1).mono fun g _ hF => hF.1
  rcases hr3 g hr with h | h
  ·exact hF.2.2.2.2 h
  ·omega
 ·exact (hT.lits.keep fun g hg hr hF => keep4 g hg (fun h => hT.apart g hr h) (fun e => hbl (e ▸ hr))).mono fun g hg hr hF => .inl hF
 ·have h := ho3.keep (w' := w3.setCell ⟨b, 3, none⟩ v') fun g hg hr hF => Below.heap_setCell w3 _ _ g (fun e => hv'b ((show g = b from e) ▸ hr))
  simp only [List.length_append, List.length_singleton, List.map_append, ints_append]
  exact h.mono fun g hg hr hF => by
   rcases hF with hF | hF
   ·exact .inl hF
   ·right; omega
 ·intro g hl hr
  rcases hr3 g hr with h | h
  ·exact hT.apart g hl h
  ·obtain ⟨_, cur, hgs⟩ := hT.lits.row hl
   have := lt_of_block hgs
   omega
theorem decide_ok {w : World} {F : Nat → Prop} {b : Nat} {T : Tr} (ht : Trail w F b T) {l : Int} (hl : I64 l) (hf : T.free l) :
  Calls Tryz.prog 99 #[.pointer (some ⟨b, 0, none⟩), .int .i64 l] w fun r w' => r = .returned (.int .i64 0) ∧ Trail w' (fun g => F g ∨ w.heap.size ≤ g) b (T.decide l) ∧ Mod F w w' := by
 have hwf := ht.1
 have hfb := Tr.free_iff.2 hf
 have Hd := hid (hwf.decide hf)
 have h1 := hwf.len
 have h2 := hwf.vars
 have h3 := hwf.len'
 go_enter Tryz.func99, Tryz.ntmps99
 go_wp2_with (first | (go_at_call 73; refine (none_any ht).mono ?_; rintro r w1 ⟨rfl, rfl⟩) | (go_at_call 109; refine (free_any ht hl).mono ?_; rintro r w1 ⟨rfl, hb⟩; rw [hfb]))
 obtain ⟨_, m, es, clock, vl, vs, hT0⟩ := ht.below hb
 obtain ⟨Al, cl, rfl, _⟩ := hT0.lits.form
 obtain ⟨As, cs, rfl, _⟩ := hT0.starts.form
 have HT := hid hT0
 have hfree := hid hf
 clear hT0 hwf hf hfb
 have c2 : w1.cell? ⟨b, 2, none⟩ = some (.slice Al T.L.length cl) := by rw [cell_of_row w1 b 2 _ _ _ HT.o.blk]; rfl
 have c3 : w1.cell? ⟨b, 3, none⟩ = some (.slice As T.starts.length cs) := by rw [cell_of_row w1 b 3 _ _ _ HT.o.blk]; rfl
 have hblt := lt_of_block HT.o.blk
 go_region_law (refine step_append_ints rfl _ _ rfl (HT.o.starts.below ((Below.refl _ _).alloc (Nat.le_refl _) _).drew) (own_one w1 (.int .i64 T.L.length)).drew.rd rfl rfl (by simp [Value.oneCell']) (by omega) ?_; intro Av cv w3 ho3 hm3 hr3; have hb3 := (hm3.block b (by simp; omega) (fun hr => row_blk HT.o.starts hr HT.o.blk rfl)).trans ((World.heap_alloc_ne w1 _ b (by omega)).trans HT.o.blk); have d3 : w3.cell? ⟨b, 3, none⟩ = some (.slice As T.starts.length cs) := (cell_of_row w3 b 3 _ _ _ hb3).trans rfl; have f3 := frozen_of_row w3 b 3 _ _ hb3; have Hb3 := hid hb3; clear hb3)
 all_goals
  obtain ⟨hT4, hm4⟩ := start_done HT.o ((Below.refl _ _).alloc (Nat.le_refl _) _).drew (ho3.mono fun g _ _ h => h) hm3 hr3
  generalize w3.setCell ⟨b, 3, none⟩ (.slice Av (T.starts.length + 1) cv) = w4 at hT4 hm4 ⊢
  have HT4 := hid hT4
  have Hno : Hid (T.idx l.natAbs = none) := by
   have hfr := hfree.o
   cases hx : T.idx l.natAbs with
   | none => exact hid rfl
   | some i =>
    obtain ⟨e, he, hv⟩ := Tr.idx_some hx
    exact absurd (by omega) (Tr.free_v hfr e (List.mem_of_getElem? he))
  have hlo : -65536 ≤ l := by have := hfree.o.2.1; omega
  have hhi : l ≤ 65536 := by have := hfree.o.2.1; omega
  clear hT4 ho3 hm3 hr3 d3 f3 c2 c3
  go_wp2_with (go_at_call 112; refine (push_any (r := []) (n := 0) HT4.o (Own.nil w4 (fun _ => False) 0 1).rd (by omega) hlo hhi (by simp; omega) Hno.o).mono ?_; rintro r w5 ⟨rfl, ⟨v5, m5, es5, clock5, hT5⟩, hm5⟩)
  go_ret
  have s4 := hm4.size
  have sb := hb.size
  have e5 : ({ T with starts := T.starts ++ [T.L.length] } : Tr).imply l [] = T.decide l := by simp [Tr.imply, Tr.decide]
  rw [e5] at hT5
  refine ⟨rfl, ⟨Hd.o, m5, es5, clock5, v5, _, hT5.mono fun g hg => ?_⟩, ?_⟩
  ·rcases hg with (hg | hg) | hg
   ·exact .inl hg
   ·right; omega
   ·right; omega
  ·refine (Mod.of_below hb).trans ((hm4.mono fun g _ hg => .inl hg).trans (hm5.mono fun g _ hg => ?_))
   rcases hg with hg | hg
   ·exact .inl (.inl hg)
   ·exact .inl (.inr (by omega))
theorem decide_bad {w : World} {F : Nat → Prop} {b : Nat} {T : Tr} (ht : Trail w F b T) {l : Int} (hl : I64 l) (hf : ¬ T.free l) :
  Calls Tryz.prog 99 #[.pointer (some ⟨b, 0, none⟩), .int .i64 l] w fun r w' => r = .returned (.int .i64 2) ∧ Below w.heap.size w w' := by
 have hfb : T.freeB l = false := by
  cases h : T.freeB l with
  | false => rfl
  | true => exact absurd (Tr.free_iff.1 h) hf
 clear hf
 go_enter Tryz.func99, Tryz.ntmps99
 go_wp2_with (first | (go_at_call 73; refine (none_any ht).mono ?_; rintro r w1 ⟨rfl, rfl⟩) | (go_at_call 109; refine (free_any ht hl).mono ?_; rintro r w1 ⟨rfl, hb⟩; rw [hfb]))
 go_ret
 exact ⟨rfl, hb⟩
end
section
open Go.RowKit
open Go.ChangeMaps
def badB (T : Tr) (l x : Int) : Bool := x != l && decide (0 ≤ T.value x)
theorem closure_any {w : World} {F : Nat → Prop} {b : Nat} {T : Tr} (ht : Trail w F b T) {l x : Int} (hx : I64 x) {bl bt : Nat} (cl : w.cell? ⟨bl, 0, none⟩ = some (.int .i64 l)) (ct : w.cell? ⟨bt, 0, none⟩ = some (.pointer (some ⟨b, 0, none⟩))) :
  Calls Tryz.prog 111 #[.int .i64 x, .pointer (some ⟨bl, 0, none⟩), .pointer (some ⟨bt, 0, none⟩)] w fun r w' => r = .returned (.bool (badB T l x)) ∧ Below w.heap.size w w' := by
 by_cases hxl : x = l
 ·have hv : badB T l x = false := by simp [badB, hxl]
  rw [hv]; clear hv
  have hq : (x != l) = false := by simpa using hxl
  clear hxl
  go_enter Tryz.func111, Tryz.ntmps111
  go_wp2
  go_ret
  exact ⟨rfl, Below.refl _ _⟩
 ·have hv : badB T l x = decide (0 ≤ T.value x) := by simp [badB, hxl]
  rw [hv]; clear hv
  have hq : (x != l) = true := by simpa using hxl
  clear hxl
  go_enter Tryz.func111, Tryz.ntmps111
  go_wp2_with (go_at_call 90; refine (value_any ht hx).mono ?_; rintro r w1 ⟨rfl, hb⟩)
  go_ret
  exact ⟨rfl, hb⟩
def Tr.can (T : Tr) (l : Int) (r : List Int) : Bool := T.freeB l && r.any (l == ·) && !r.any (badB T l)
theorem imply_ok {w : World} {F G : Nat → Prop} {b : Nat} {T : Tr} (ht : Trail w F b T) {l : Int} (hl : I64 l) {v : Value} {n : Nat} {r : List Int} (hv : Rd w G 1 v n (ints r)) (hn : n ≤ 17592186044416) (hr : ∀ x ∈ r, I64 x) (hc : T.can l r = true) :
  Calls Tryz.prog 91 #[.pointer (some ⟨b, 0, none⟩), .int .i64 l, v] w fun e w' => e = .returned (.int .i64 0) ∧ Trail w' (fun g => F g ∨ w.heap.size ≤ g) b (T.imply l r) ∧ Mod F w w' := by
 unfold Tr.can at hc
 simp only [Bool.and_eq_true, Bool.not_eq_true'] at hc
 obtain ⟨⟨hf, hin⟩, hbad⟩ := hc
 have hb0 := ((Below.refl w.heap.size w).alloc (Nat.le_refl _) (.cells #[.pointer (some ⟨b, 0, none⟩)] 25)).alloc (by simp) (.cells #[.int .i64 l] 3)
 have ht0 := hid (ht.below hb0)
 have hv0 := hid (hv.below hb0)
 have hfree := Tr.free_iff.1 hf
 have hwf := ht.wf
 have Hd := hid (hwf.imply (r := r) hfree (by
  obtain ⟨y, hy, hyl⟩ := List.any_eq_true.1 hin
  rw [show l = y by simpa using hyl]; exact hy) (fun x hx => by
  have := List.any_eq_false.1 hbad x hx
  by_cases hxl : x = l
  ·exact .inl hxl
  ·right
   simp only [badB, hxl, bne_iff_ne, ne_eq, not_false_eq_true, Bool.and_eq_true, decide_eq_true_eq, true_and] at this
   unfold Tr.value at this
   split at this
   ·omega
   ·split at this
    ·assumption
    ·omega))
 have Hr := hid hr
 have h1 := hwf.len
 have h2 := hwf.vars
 have Hno : Hid (T.idx l.natAbs = none) := by
  cases hx : T.idx l.natAbs with
  | none => exact hid rfl
  | some i =>
   obtain ⟨e, he, hv⟩ := Tr.idx_some hx
   exact absurd (by omega) (Tr.free_v hfree e (List.mem_of_getElem? he))
 have hlo : -65536 ≤ l := by have := hfree.2.1; omega
 have hhi : l ≤ 65536 := by have := hfree.2.1; omega
 clear hb0 ht hv hfree hwf hr
 go_enter Tryz.func91, Tryz.ntmps91
 go_wp2_with (first | (go_at_call 73; refine (none_any ht0.o).mono ?_; rintro r w1 ⟨rfl, rfl⟩) | (go_at_call 109; refine (free_any ht0.o hl).mono ?_; rintro e w2 ⟨rfl, hb⟩; have k1 := (hb.cell (p := ⟨w.heap.size, 0, none⟩) (by simp; omega)).trans (show _ = some (Value.pointer (some ⟨b, 0, none⟩)) from by simp); have k2 := (hb.cell (p := ⟨w.heap.size + 1, 0, none⟩) (by simp)).trans (show _ = some (Value.int .i64 l) from by simp)) | (go_at_call 110; refine (contains_any (hv0.o.below hb)).mono ?_; rintro e w3 ⟨rfl, rfl⟩) | (go_at_call 34; refine (containsfunc_any (p := badB T l) (hv0.o.below hb) Tryz.call111 (fun W x hW hx => by simpa using closure_any ((ht0.o.below hb).below hW) (Hr.o x hx) ((hW.cell (p := ⟨w.heap.size + 1, 0, none⟩) (World.block_lt_of_cell? _ _ k2)).trans k2) ((hW.cell (p := ⟨w.heap.size, 0, none⟩) (World.block_lt_of_cell? _ _ k1)).trans k1))).mono ?_; rintro e w3 ⟨rfl, hb3⟩; have j1 := (hb3.cell (p := ⟨w.heap.size, 0, none⟩) (World.block_lt_of_cell? _ _ k1)).trans k1; have j2 := (hb3.cell (p := ⟨w.heap.size + 1, 0, none⟩) (World.block_lt_of_cell? _ _ k2)).trans k2; clear k1 k2))
 obtain ⟨_, m, es, clock, vl, vs, hT⟩ := (ht0.o.below hb).below hb3
 have HT := hid hT
 have s1 := hb.size
 have s3 := hb3.size
 simp only [World.size_alloc] at s1
 clear hT
 go_wp2_with (go_at_call 112; refine (push_any HT.o ((hv0.o.below hb).below hb3) hn hlo hhi (by omega) Hno.o).mono ?_; rintro e w5 ⟨rfl, ⟨v5, m5, es5, clock5, hT5⟩, hm5⟩)
 go_ret
 refine ⟨rfl, ⟨Hd.o, m5, es5, clock5, v5, _, hT5.mono fun g hg => ?_⟩, ?_⟩
 ·rcases hg with hg | hg
  ·exact .inl hg
  ·right; omega
 ·refine (Mod.of_below ((((Below.refl w.heap.size w).alloc (Nat.le_refl _) _).alloc (by simp) _).trans (hb.mono (by simp; omega)))).trans ((Mod.of_below hb3).trans (hm5.mono fun g _ hg => .inl (.inl hg)))
theorem imply_bad {w : World} {F G : Nat → Prop} {b : Nat} {T : Tr} (ht : Trail w F b T) {l : Int} (hl : I64 l) {v : Value} {n : Nat} {r : List Int} (hv : Rd w G 1 v n (ints r)) (hr : ∀ x ∈ r, I64 x) (hc : T.can l r = false) :
  Calls Tryz.prog 91 #[.pointer (some ⟨b, 0, none⟩), .int .i64 l, v] w fun e w' => e = .returned (.int .i64 2) ∧ Below w.heap.size w w' := by
 have hb0 := ((Below.refl w.heap.size w).alloc (Nat.le_refl _) (.cells #[.pointer (some ⟨b, 0, none⟩)] 25)).alloc (by simp) (.cells #[.int .i64 l] 3)
 have ht0 := hid (ht.below hb0)
 have hv0 := hid (hv.below hb0)
 have Hr := hid hr
 unfold Tr.can at hc
 have Hc := hid hc
 clear hb0 ht hv hr hc
 cases hf : T.freeB l
 case' true => cases hin : r.any (l == ·)
 case' true.true =>
  have hbad : r.any (badB T l) = true := by
   have := Hc.o
   rw [hf, hin] at this
   simpa using this
 all_goals
  clear Hc
  go_enter Tryz.func91, Tryz.ntmps91
  go_wp2_with (first | (go_at_call 73; refine (none_any ht0.o).mono ?_; rintro r w1 ⟨rfl, rfl⟩) | (go_at_call 109; refine (free_any ht0.o hl).mono ?_; rintro e w2 ⟨rfl, hb⟩; have k1 := (hb.cell (p := ⟨w.heap.size, 0, none⟩) (by simp; omega)).trans (show _ = some (Value.pointer (some ⟨b, 0, none⟩)) from by simp); have k2 := (hb.cell (p := ⟨w.heap.size + 1, 0, none⟩) (by simp)).trans (show _ = some (Value.int .i64 l) from by simp)) | (go_at_call 110; refine (contains_any (hv0.o.below hb)).mono ?_; rintro e w3 ⟨rfl, rfl⟩) | (go_at_call 34; refine (containsfunc_any (p := badB T l) (hv0.o.below hb) Tryz.call111 (fun W x hW hx => by simpa using closure_any ((ht0.o.below hb).below hW) (Hr.o x hx) ((hW.cell (p := ⟨w.heap.size + 1, 0, none⟩) (World.block_lt_of_cell? _ _ k2)).trans k2) ((hW.cell (p := ⟨w.heap.size, 0, none⟩) (World.block_lt_of_cell? _ _ k1)).trans k1))).mono ?_; rintro e w3 ⟨rfl, hb3⟩))
  go_ret
  have s1 := hb.size
  simp only [World.size_alloc] at s1
  have hb1 := (((Below.refl w.heap.size w).alloc (Nat.le_refl _) (.cells #[.pointer (some ⟨b, 0, none⟩)] 25)).alloc (by simp) (.cells #[.int .i64 l] 3)).trans (hb.mono (by simp; omega))
  first
   | exact ⟨rfl, hb1⟩
   | exact ⟨rfl, hb1.trans (hb3.mono (by omega))⟩
end
end Go.Proofs.YtcjmpobccbnpkaaGreat
