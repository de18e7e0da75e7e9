/-
  Walks: push, Decide.
-/
import Derived.Test.YtbghfdhijlpogaaTwalkD
namespace Go.Proofs.Ytbghfdhijlpogaa
open Go.RowKit
open Go.ChangeMaps

theorem row_blk {w : World} {F : Nat → Prop} {v : Value} {n : Nat} {xs : List Value} (h : Own w F 3 1 v n xs) {g b : Nat} {cs : Array Value} (hr : row v g) (hb : w.heap[b]? = some (.cells cs 59 (0, 0))) : g ≠ b := by
  rintro rfl
  obtain ⟨_, cur, hg⟩ := h.row hr
  rw [hg] at hb
  injection hb with hb
  injection hb with _ ht
  cases ht
theorem row_map {w : World} {F : Nat → Prop} {v : Value} {n : Nat} {xs : List Value} (h : Own w F 3 1 v n xs) {g m : Nat} {es : Array MapEntry} {clock : Nat} (hr : row v g) (hm : w.heap[m]? = some (.map es clock)) : g ≠ m := by
  rintro rfl
  obtain ⟨_, cur, hg⟩ := h.row hr
  rw [hg] at hm
  cases hm

/-- What push has done. -/
theorem push_done {w w1 w2 w3 : World} {F : Nat → Prop} {b m : Nat} {es : Array MapEntry} {clock : Nat} {vl vs v' : Value} {T : Tr} {lit : Int} {n : Nat} {r : List Int} {A : Option Addr} {c : Nat}
    (hT : TrailAt w F b m es clock vl vs T) (hb1 : Below w.heap.size w w1) (hu : Own w1 (fun g => w.heap.size ≤ g) 3 1 (.slice A n c) n (ints r)) (hn : r.length = n)
    (h2 : w2 = setBlock w1 m (.map (es.push { key := .int .i64 lit.natAbs, val := .agg #[.int .i64 lit, .int .i64 T.starts.length, .int .i64 T.L.length, .slice A n c], born := clock }) (clock + 1)))
    (o : Obj) (ho3 : Own w3 (fun g => F g ∨ (w2.alloc o).heap.size ≤ g) 3 1 v' (T.L.length + 1) (ints T.lits ++ [.int .i64 lit])) (hm3 : Mod (row vl) (w2.alloc o) w3)
    (hr3 : ∀ g, row v' g → row vl g ∨ (w2.alloc o).heap.size ≤ g) :
    (∃ m es clock, TrailAt (w3.setCell ⟨b, 2, none⟩ v') (fun g => F g ∨ w.heap.size ≤ g) b m es clock v' vs (T.imply lit r)) ∧ Mod F w (w3.setCell ⟨b, 2, none⟩ v') := by
  subst hn
  have hbm : b ≠ m := fun e => by
    have := hT.blk
    rw [e, hT.map] at this
    cases this
  have hblt := lt_of_block hT.blk
  have hmlt := lt_of_block hT.map
  have hmap1 : w1.heap[m]? = some (.map es clock) := (hb1.block m hmlt).trans hT.map
  have hs12 : w2.heap.size = w1.heap.size := by rw [h2]; simp [ChangeMaps.setBlock]
  have hsz : (w2.alloc o).heap.size = w1.heap.size + 1 := by simp [hs12]
  have hs1 := hb1.size
  have hs3 := hm3.size
  have hm2 : w2.heap[m]? = some (.map (es.push { key := .int .i64 lit.natAbs, val := .agg #[.int .i64 lit, .int .i64 T.starts.length, .int .i64 T.L.length, .slice A r.length c], born := clock }) (clock + 1)) := by
    rw [h2]; exact heap_setBlock_same hmap1 _
  have hne2 : ∀ k, k ≠ m → w2.heap[k]? = w1.heap[k]? := fun k hk => by rw [h2]; exact heap_setBlock_other hmap1 _ hk
  have keep3 : ∀ k, k < w1.heap.size → k ≠ m → ¬ row vl k → w3.heap[k]? = w1.heap[k]? := fun k hk hkm hr =>
    (hm3.block k (by omega) hr).trans ((World.heap_alloc_ne w2 o k (by omega)).trans (hne2 k hkm))
  have keep4 : ∀ k, k < w1.heap.size → k ≠ m → ¬ row vl k → k ≠ b → (w3.setCell ⟨b, 2, none⟩ v').heap[k]? = w1.heap[k]? := fun k hk hkm hr hkb =>
    (Below.heap_setCell w3 _ _ k hkb).trans (keep3 k hk hkm hr)
  have hbl : ¬ row vl b := fun hr => row_blk hT.lits hr hT.blk rfl
  have hbs : ¬ row vs b := fun hr => row_blk hT.starts hr hT.blk rfl
  have hml : ¬ row vl m := fun hr => row_map hT.lits hr hT.map rfl
  have hms : ¬ row vs m := fun hr => row_map hT.starts hr hT.map rfl
  have hvs3 : ∀ g, row v' g → ¬ row vs g := fun g hg hv => by
    rcases hr3 g hg with h | h
    · exact hT.apart g h hv
    · obtain ⟨_, cur, hgs⟩ := hT.starts.row hv
      have := lt_of_block hgs
      omega
  have hb3 : w3.heap[b]? = some (.cells #[.int .i64 T.vars, .map (some m), vl, vs] 59 (0, 0)) :=
    (keep3 b (by omega) hbm hbl).trans ((hb1.block b hblt).trans hT.blk)
  have hv'b : ¬ row v' b := fun hr => by
    rcases hr3 b hr with h | h
    · exact hbl h
    · omega
  have hM : Mod F w (w3.setCell ⟨b, 2, none⟩ v') := by
    refine Mod.setCell ?_ (.inl hT.hb) _
    refine ⟨hm3.os.trans ?_, hm3.tape.trans ?_, hm3.output.trans ?_, by omega, fun k hk hF => ?_⟩
    · rw [h2]; exact hb1.os
    · rw [h2]; exact hb1.tape
    · rw [h2]; exact hb1.output
    · exact (keep3 k (by omega) (fun e => hF (e ▸ hT.hm)) (fun hr => hF (hT.lits.row hr).1)).trans (hb1.block k hk)
  refine ⟨⟨m, es.push { key := .int .i64 lit.natAbs, val := .agg #[.int .i64 lit, .int .i64 T.starts.length, .int .i64 T.L.length, .slice A r.length c], born := clock }, clock + 1, ?_⟩, hM⟩
  refine { hb := .inl hT.hb, hm := .inl hT.hm, blk := ?_, map := ?_, size := ?_, ents := ?_, lits := ?_, starts := ?_, apart := hvs3 }
  · rw [heap_setCell_same w3 b 2 _ _ _ hb3]
    simp [Tr.imply]
  · rw [Below.heap_setCell w3 _ _ m (fun e => hbm e.symm)]
    exact (hm3.block m (by omega) hml).trans ((World.heap_alloc_ne w2 o m (by omega)).trans hm2)
  · simp [Tr.imply, hT.size]
  · intro i e he
    simp only [Tr.imply] at he
    rw [List.getElem?_append] at he
    split at he
    · rename_i hi
      obtain ⟨x, A', n', c', h1, h3, h4, h5⟩ := hT.ents i e he
      refine ⟨x, A', n', c', ?_, h3, h4, ?_⟩
      · rw [Array.getElem?_push, if_neg (by have := hT.size; omega)]; exact h1
      · refine ((h5.mono (G := fun g => ((F g ∨ w.heap.size ≤ g) ∧ g ≠ b ∧ g ≠ m ∧ ¬ row v' g ∧ ¬ row vs g) ∧ ¬ row vl g) fun g hg hF => ⟨⟨.inl hF.1, hF.2.1, hF.2.2.1, fun hr => ?_, hF.2.2.2.2⟩, hF.2.2.2.1⟩).keep hM.size fun g hg hF => ?_).mono fun g hg hF => hF.1
        · rcases hr3 g hr with h | h
          · exact hF.2.2.2.1 h
          · omega
        · exact (keep4 g (by omega) hF.1.2.2.1 hF.2 hF.1.2.1).trans (hb1.block g hg)
    · rename_i hi
      rw [List.getElem?_singleton] at he
      split at he
      · rename_i hi'
        obtain rfl := Option.some.inj he
        refine ⟨_, A, r.length, c, by rw [Array.getElem?_push, if_pos (by have := hT.size; omega)], rfl, ?_, ?_⟩
        · have : i = T.L.length := by omega
          subst this
          rfl
        · have out : ∀ g, w.heap.size ≤ g → g < w1.heap.size → ¬ row vl g ∧ ¬ row vs g ∧ ¬ row v' g := fun g h1 h2 => by
            have a1 : ¬ row vl g := fun hr => by
              obtain ⟨_, cur, hg⟩ := hT.lits.row hr
              have := lt_of_block hg
              omega
            refine ⟨a1, fun hr => ?_, fun hr => ?_⟩
            · obtain ⟨_, cur, hg⟩ := hT.starts.row hr
              have := lt_of_block hg
              omega
            · rcases hr3 g hr with h | h
              · exact a1 h
              · omega
          refine ((hu.rd.mono (G := fun g => w.heap.size ≤ g ∧ (F g ∨ w.heap.size ≤ g) ∧ g ≠ b ∧ g ≠ m ∧ ¬ row v' g ∧ ¬ row vs g) fun g hg hF => ?_).keep (by simp; omega) fun g hg hF => ?_).mono fun g hg hF => hF.2
          · have := out g hF hg
            exact ⟨hF, .inr hF, by omega, by omega, this.2.2, this.2.1⟩
          · exact keep4 g hg hF.2.2.2.1 (out g hF.1 hg).1 hF.2.2.1
      · cases he
  · have h := ho3.keep (w' := w3.setCell ⟨b, 2, none⟩ v') fun g hg hr hF => Below.heap_setCell w3 _ _ g (fun e => hv'b ((show g = b from e) ▸ hr))
    have e1 : (T.imply lit r).lits = T.lits ++ [lit] := by simp [Tr.imply, Tr.lits]
    rw [e1, ints_append]
    simp only [Tr.imply, List.length_append, List.length_singleton]
    exact h.mono fun g hg hr hF => by
      rcases hF with hF | hF
      · exact .inl hF
      · right; omega
  · exact (hT.starts.keep fun g hg hr hF => (keep4 g (by omega) (fun e => hms (e ▸ hr)) (fun h => hT.apart g h hr) (fun e => hbs (e ▸ hr))).trans (hb1.block g hg)).mono fun g hg hr hF => .inl hF

theorem cells3 {w w' : World} {b : Nat} {x1 x2 x3 : Value} (c1 : w.cell? ⟨b, 1, none⟩ = some x1) (c2 : w.cell? ⟨b, 2, none⟩ = some x2) (c3 : w.cell? ⟨b, 3, none⟩ = some x3) (h : ∀ i, w'.cell? ⟨b, i, none⟩ = w.cell? ⟨b, i, none⟩) :
    w'.cell? ⟨b, 1, none⟩ = some x1 ∧ w'.cell? ⟨b, 2, none⟩ = some x2 ∧ w'.cell? ⟨b, 3, none⟩ = some x3 := ⟨(h 1).trans c1, (h 2).trans c2, (h 3).trans c3⟩
theorem cell_setBlock {w : World} {m : Nat} {es : Array MapEntry} {clock : Nat} (hm : w.heap[m]? = some (.map es clock)) {b : Nat} (hne : b ≠ m) (o : Obj) (i : Nat) : (setBlock w m o).cell? ⟨b, i, none⟩ = w.cell? ⟨b, i, none⟩ :=
  World.cell?_of_block (heap_setBlock_other hm o hne)
theorem own_one (w : World) (x : Value) : Own (w.alloc (.cells #[x] 3)) (fun g => g = w.heap.size) 3 1 (.slice (some ⟨w.heap.size, 0, none⟩) 1 1) 1 [x] :=
  own_new w _ _ 1 1 #[x] 1 [x] rfl (by decide) (Nat.le_refl _) (by decide) rfl rfl rfl
set_option maxRecDepth 100000 in
set_option maxHeartbeats 1000000 in
theorem push_any {w : World} {F G : Nat → Prop} {b m : Nat} {es : Array MapEntry} {clock : Nat} {vl vs : Value} {T : Tr} {lit : Int} {n : Nat} {r : List Int} {v : Value}
    (hT : TrailAt w F b m es clock vl vs T) (hv : Rd w G 1 v n (ints r)) (hn : n ≤ 17592186044416) (hlo : -65536 ≤ lit) (hhi : lit ≤ 65536) (hlen : T.L.length ≤ 65536) (hno : T.idx lit.natAbs = none) :
    Calls Try.prog 35 #[.pointer (some ⟨b, 0, none⟩), .int .i64 lit, v] w fun e w' => e = .returned (.tuple #[]) ∧
      (∃ v' m es clock, TrailAt w' (fun g => F g ∨ w.heap.size ≤ g) b m es clock v' vs (T.imply lit r)) ∧ Mod F w w' := by
  obtain ⟨hrl, A, c, rfl, hc, hm, hA⟩ := id hv
  have hrn : r.length = n := by simpa [ints_length] using hrl
  obtain ⟨Al, cl, hvl, _⟩ := hT.lits.form
  obtain ⟨As, cs, hvs, _⟩ := hT.starts.form
  subst hvl hvs
  have c1 : w.cell? ⟨b, 1, none⟩ = some (.map (some m)) := by rw [cell_of_row w b 1 _ _ _ hT.blk]; rfl
  have c2 : w.cell? ⟨b, 2, none⟩ = some (.slice Al T.L.length cl) := by rw [cell_of_row w b 2 _ _ _ hT.blk]; rfl
  have c3 : w.cell? ⟨b, 3, none⟩ = some (.slice As T.starts.length cs) := by rw [cell_of_row w b 3 _ _ _ hT.blk]; rfl
  have hblt := lt_of_block hT.blk
  have hbm : b ≠ m := fun e => by
    have := hT.blk
    rw [e, hT.map] at this
    cases this
  have hup : ∀ w' val, w'.heap[m]? = some (.map es clock) → (Instr.mapUpdate 57 (.map (some m)) (.int .i64 lit.natAbs) val).run Try.prog w' = .ok () (setBlock w' m (.map (es.push { key := .int .i64 lit.natAbs, val, born := clock }) (clock + 1))) := fun w' val hw' =>
    update_i64_new Try.underlying57 Try.underlying3 _ hw' hT.keyed ((hT.found _).trans hno) val
  have hcl : Hid (Calls Try.prog 31 #[.slice A n c] w.drew fun e w1 => ∃ Au cu, e = .returned (.slice Au n cu) ∧ Own w1 (fun g => w.heap.size ≤ g) 3 1 (.slice Au n cu) n (ints r) ∧ Below w.heap.size w w1 ∧ w1.heap[m]? = some (.map es clock)) := by
    refine (clone_any (w := w.drew) (F := G) (xs := r) hv hn).mono ?_
    rintro e w1 ⟨⟨u, rfl, ho⟩, hb⟩
    obtain ⟨Au, cu, rfl, _⟩ := ho.form
    exact ⟨Au, cu, rfl, ho, ⟨hb.os, hb.tape, hb.output, hb.size, hb.block⟩, (hb.block m (lt_of_block hT.map)).trans hT.map⟩
  have HT := hid hT
  have Hrn := hid hrn
  have Hno := hid hno
  clear hT hrn hno hrl hA hm hc
  rcases Int.lt_or_le lit 0 with h0 | h0
  · have hk : (lit.natAbs : Int) = -lit := by omega
    rw [hk] at hup
    have hmx : lit < -lit := by omega
    clear hk
    have hwr : IntKind.i64.wrap (-lit) = -lit := (IntWalk.i64_left _).trans (IntWalk.wrap64_in _ ⟨by omega, by omega⟩)
    go_enter Try.func35, Try.ntmps35
    go_wp2_with fail
    go_region_held3 (fun w' => w'.cell? ⟨b, 1, none⟩ = some (.map (some m)) ∧ w'.cell? ⟨b, 2, none⟩ = some (.slice Al T.L.length cl) ∧ w'.cell? ⟨b, 3, none⟩ = some (.slice As T.starts.length cs))
      (first | go_keep | exact cells3 c1 c2 c3 (fun i => hb.cell (p := ⟨b, i, none⟩) hblt) | exact cells3 c1 c2 c3 (fun i => (cell_setBlock hm1 hbm _ i).trans (hb.cell (p := ⟨b, i, none⟩) hblt))) ((go_at_call 31; refine hcl.out.mono ?_; rintro e w1 ⟨Au, cu, rfl, ho, hb, hm1⟩))
    all_goals
      generalize hw2' : setBlock w1 m _ = w2
      have hw2 := hw2'.symm
      clear hw2'
      have hc2 : ∀ i, w2.cell? ⟨b, i, none⟩ = w.cell? ⟨b, i, none⟩ := fun i => by rw [hw2]; exact (cell_setBlock hm1 hbm _ i).trans (hb.cell (p := ⟨b, i, none⟩) hblt)
      have d2 := (hc2 2).trans c2
      have hblk2 : w2.heap[b]? = w.heap[b]? := by rw [hw2]; exact (heap_setBlock_other hm1 _ hbm).trans (hb.block b hblt)
      have hOwn : Hid (Own w2 F 3 1 (.slice Al T.L.length cl) T.L.length (ints T.lits)) := HT.out.lits.keep fun g hg hr hF => by
        rw [hw2]; exact (heap_setBlock_other hm1 _ (row_map HT.out.lits hr HT.out.map)).trans (hb.block g hg)
      have hb2 : b < w2.heap.size := by rw [hw2]; have := hb.size; simp [ChangeMaps.setBlock]; omega
      have Hw2 := hid hw2
      have Hblk2 := hid (hblk2.trans HT.out.blk)
      clear hw2 hc2 hup hwr hmx c1 c2 c3 hblk2
      go_wp2_with (at_builtin; refine wpList_append_ints rfl _ _ rfl (hOwn.out.below ((Below.refl _ _).alloc (Nat.le_refl _) _)) (own_one w2 (.int .i64 lit)).rd rfl rfl (by simp [Value.oneCell']) (by omega) ?_; intro Av cv w3 ho3 hm3 hr3; have hb3 := (hm3.block b (by simp; omega) (fun hr => row_blk HT.out.lits hr HT.out.blk rfl)).trans ((World.heap_alloc_ne w2 _ b (by omega)).trans Hblk2.out); have d3 : w3.cell? ⟨b, 2, none⟩ = some (.slice Al T.L.length cl) := (cell_of_row w3 b 2 _ _ _ hb3).trans rfl; have f3 := frozen_of_row w3 b 2 _ _ hb3; have Hb3 := hid hb3; clear hb3 d2)
      go_end0
      refine ⟨rfl, ?_⟩
      have hd := push_done (lit := lit) HT.out hb ho Hrn.out (by rw [Hw2.out]; congr 5; omega) _ ho3 hm3 hr3
      exact ⟨⟨_, hd.1⟩, hd.2⟩
  · have hk : (lit.natAbs : Int) = lit := by omega
    rw [hk] at hup
    have hmx : ¬ lit < -lit := by omega
    clear hk
    have hwr : IntKind.i64.wrap (-lit) = -lit := (IntWalk.i64_left _).trans (IntWalk.wrap64_in _ ⟨by omega, by omega⟩)
    go_enter Try.func35, Try.ntmps35
    go_wp2_with fail
    go_region_held3 (fun w' => w'.cell? ⟨b, 1, none⟩ = some (.map (some m)) ∧ w'.cell? ⟨b, 2, none⟩ = some (.slice Al T.L.length cl) ∧ w'.cell? ⟨b, 3, none⟩ = some (.slice As T.starts.length cs))
      (first | go_keep | exact cells3 c1 c2 c3 (fun i => hb.cell (p := ⟨b, i, none⟩) hblt) | exact cells3 c1 c2 c3 (fun i => (cell_setBlock hm1 hbm _ i).trans (hb.cell (p := ⟨b, i, none⟩) hblt))) ((go_at_call 31; refine hcl.out.mono ?_; rintro e w1 ⟨Au, cu, rfl, ho, hb, hm1⟩))
    all_goals
      generalize hw2' : setBlock w1 m _ = w2
      have hw2 := hw2'.symm
      clear hw2'
      have hc2 : ∀ i, w2.cell? ⟨b, i, none⟩ = w.cell? ⟨b, i, none⟩ := fun i => by rw [hw2]; exact (cell_setBlock hm1 hbm _ i).trans (hb.cell (p := ⟨b, i, none⟩) hblt)
      have d2 := (hc2 2).trans c2
      have hblk2 : w2.heap[b]? = w.heap[b]? := by rw [hw2]; exact (heap_setBlock_other hm1 _ hbm).trans (hb.block b hblt)
      have hOwn : Hid (Own w2 F 3 1 (.slice Al T.L.length cl) T.L.length (ints T.lits)) := HT.out.lits.keep fun g hg hr hF => by
        rw [hw2]; exact (heap_setBlock_other hm1 _ (row_map HT.out.lits hr HT.out.map)).trans (hb.block g hg)
      have hb2 : b < w2.heap.size := by rw [hw2]; have := hb.size; simp [ChangeMaps.setBlock]; omega
      have Hw2 := hid hw2
      have Hblk2 := hid (hblk2.trans HT.out.blk)
      clear hw2 hc2 hup hwr hmx c1 c2 c3 hblk2
      go_wp2_with (at_builtin; refine wpList_append_ints rfl _ _ rfl (hOwn.out.below ((Below.refl _ _).alloc (Nat.le_refl _) _)) (own_one w2 (.int .i64 lit)).rd rfl rfl (by simp [Value.oneCell']) (by omega) ?_; intro Av cv w3 ho3 hm3 hr3; have hb3 := (hm3.block b (by simp; omega) (fun hr => row_blk HT.out.lits hr HT.out.blk rfl)).trans ((World.heap_alloc_ne w2 _ b (by omega)).trans Hblk2.out); have d3 : w3.cell? ⟨b, 2, none⟩ = some (.slice Al T.L.length cl) := (cell_of_row w3 b 2 _ _ _ hb3).trans rfl; have f3 := frozen_of_row w3 b 2 _ _ hb3; have Hb3 := hid hb3; clear hb3 d2)
      go_end0
      refine ⟨rfl, ?_⟩
      have hd := push_done (lit := lit) HT.out hb ho Hrn.out (by rw [Hw2.out]; congr 5; omega) _ ho3 hm3 hr3
      exact ⟨⟨_, hd.1⟩, hd.2⟩

end Go.Proofs.Ytbghfdhijlpogaa
