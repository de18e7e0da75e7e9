/-
 Chapter 32: several texts in one (TwalkH TwalkI TwalkJ TwalkM).
-/
import Derived.Test.YtcjmpobccbnpkaaGreatMjac
import Derived.BigRegion
import Derived.Maps.OwnSet
namespace Go.Proofs.YtcjmpobccbnpkaaGreat
set_option maxRecDepth 100000
set_option maxHeartbeats 2000000
section
open Go.RowKit
open Go.ChangeMaps
theorem Rd.drop {w : World} {F : Nat → Prop} {A : Option Addr} {n c k : Nat} {xs : List Int} (h : Rd w F 1 (.slice A n c) n (ints xs)) (hk : k < n) :
  Rd w F 1 (.slice (A.map (·.add k)) (n - k) (c - k)) (n - k) (ints (xs.drop k)) := by
 obtain ⟨hl, A', c', hv, hc, hm, hA⟩ := h
 injection hv with h1 _ h3
 subst h1; subst h3
 obtain ⟨g, o, rfl, hF, hlt, hcell⟩ := hA (by omega)
 refine ⟨by simp [ints_length] at hl ⊢; omega, _, _, rfl, by omega, by omega, fun _ => ⟨g, o + k, by simp [addr_add], hF, hlt, fun j u hu => ?_⟩⟩
 rw [Nat.add_assoc]
 exact hcell (k + j) u (by rw [← hu]; simp [ints, List.map_drop])
/-! ### the map while entries are deleted -/
def cutEs (es : Array MapEntry) (s j : Nat) : Array MapEntry := (es.toList.take s ++ es.toList.drop (s + j)).toArray
theorem cutEs_zero (es : Array MapEntry) (s : Nat) : cutEs es s 0 = es := by simp [cutEs]
theorem cutEs_all (es : Array MapEntry) (s j : Nat) (h : es.size ≤ s + j) : (cutEs es s j).toList = es.toList.take s := by
 simp [cutEs, List.drop_eq_nil_of_le (show es.toList.length ≤ s + j by simpa using h)]
theorem cutEs_next (es : Array MapEntry) (s j : Nat) (h : s + j < es.size) : (cutEs es s j).eraseIdxIfInBounds s = cutEs es s (j + 1) := by
 apply Array.toList_inj.1
 have hl : s < (cutEs es s j).size := by simp [cutEs]; omega
 rw [Array.eraseIdxIfInBounds, dif_pos hl, Array.toList_eraseIdx]
 simp only [cutEs]
 rw [List.eraseIdx_append_of_length_le (by simp; omega)]
 rw [List.length_take, Array.length_toList, Nat.min_eq_left (by omega), Nat.sub_self, List.eraseIdx_zero, List.tail_drop, Nat.add_assoc]
theorem cutEs_find {es : Array MapEntry} {ks : List Nat} (hk : es.toList.map keyNum = ks.map (fun (n : Nat) => (n : Int))) (hn : ks.Nodup) {s j : Nat} (hs : s + j < ks.length) :
  (cutEs es s j).toList.findIdx? (fun x => keyNum x == (ks[s + j] : Int)) = some s := by
 have hlen : es.toList.length = ks.length := by have := congrArg List.length hk; simpa using this
 have hget : ∀ i (h : i < ks.length), keyNum (es.toList[i]'(by omega)) = (ks[i] : Int) := fun i h => by
  have h1 := congrArg (fun l => l[i]?) hk
  simp only [List.getElem?_map, List.getElem?_eq_getElem (show i < es.toList.length by omega), List.getElem?_eq_getElem h, Option.map_some] at h1
  exact Option.some.inj h1
 rw [List.findIdx?_eq_some_iff_getElem]
 refine ⟨by simp [cutEs] at hlen ⊢; omega, ?_, fun i hi => ?_⟩
 ·simp only [cutEs]
  rw [List.getElem_append_right (by simp; omega)]
  have e : s - (es.toList.take s).length = 0 := by simp at hlen ⊢; omega
  simp only [e, List.getElem_drop, Nat.add_zero]
  rw [hget (s + j) hs]
  simp
 ·simp only [cutEs]
  rw [List.getElem_append_left (by simp at hlen ⊢; omega)]
  rw [List.getElem_take, hget i (by omega)]
  simp only [beq_iff_eq]
  intro hc
  have : ks[i] = ks[s + j] := by omega
  have := (List.getElem_inj hn).1 this
  omega
theorem undo_none {w : World} {F : Nat → Prop} {b : Nat} {T : Tr} (ht : Trail w F b T) {k : Int} {K : Nat} (hkK : k = K ∨ k < 0 ∧ K = 0) (hk : T.starts.length ≤ K) :
  Calls Tryz.prog 71 #[.pointer (some ⟨b, 0, none⟩), .int .i64 k] w fun r w' => r = .returned (.slice none 0 0) ∧ w = w' := by
 obtain ⟨m, Al, cl, As, cs, c0, c1, c2, c3, _, _⟩ := ht.cells
 rcases hkK with rfl | ⟨hk0, rfl⟩
 ·have h0 : ¬ (K : Int) < 0 := by omega
  go_enter Tryz.func71, Tryz.ntmps71
  go_wp2_with (go_at_call 73; refine (none_any ht).mono ?_; rintro r w1 ⟨rfl, rfl⟩)
  go_ret
  exact ⟨rfl, rfl⟩
 ·have he : T.starts = [] := List.eq_nil_of_length_eq_zero (by omega)
  have hd : decide (T.starts = []) = true := by simpa using he
  clear he
  go_enter Tryz.func71, Tryz.ntmps71
  go_wp2_with (go_at_call 73; refine (none_any ht).mono ?_; rintro r w1 ⟨rfl, rfl⟩)
  go_ret
  exact ⟨rfl, rfl⟩
theorem max0 {k : Int} {K : Nat} (h : k = K ∨ k < 0 ∧ K = 0) : (if k < 0 then 0 else k) = (K : Int) := by
 rcases h with rfl | ⟨h0, rfl⟩
 ·rw [if_neg (by omega)]
 ·rw [if_pos h0]; rfl
theorem Own.cut {w : World} {F : Nat → Prop} {g n c m : Nat} {xs : List Int} (h : Own w F 3 1 (.slice (some ⟨g, 0, none⟩) n c) n (ints xs)) (hm : m ≤ n) :
  Own w F 3 1 (.slice (some ⟨g, 0, none⟩) m c) m (ints (xs.take m)) := by
 have := h.take hm
 rw [Nat.mul_one, ← ints_take] at this
 exact this
theorem lit_at {T : Tr} (h : T.WF) {s j : Nat} (hj : s + j < T.L.length) : ∃ l, nth (T.lits.drop s) j = l ∧ -65536 ≤ l ∧ l ≤ 65536 ∧ ∃ h : s + j < (T.L.map Ent.v).length, (T.L.map Ent.v)[s + j] = l.natAbs := by
 have h1 := h.lit T.L[s + j] (List.getElem_mem hj)
 have h2 := h.vars
 refine ⟨T.L[s + j].lit, ?_, ?_, ?_, by simpa using hj, by simp [Ent.v]⟩
 ·rw [nth_eq (by simp [Tr.lits]; omega)]
  simp [Tr.lits]
 ·unfold Ent.v at h1; omega
 ·unfold Ent.v at h1; omega
theorem undo_done {w1 w2 : World} {F : Nat → Prop} {b m : Nat} {es : Array MapEntry} {clock : Nat} {gl gs cl cs : Nat} {T : Tr} {K s : Nat} (hwf : T.WF) (hk : K < T.starts.length) (hs : T.starts[K] = s)
  (hT : TrailAt w1 F b m es clock (.slice (some ⟨gl, 0, none⟩) T.L.length cl) (.slice (some ⟨gs, 0, none⟩) T.starts.length cs) T)
  (hsz : w1.heap.size ≤ w2.heap.size) (hmap : w2.heap[m]? = some (.map (cutEs es s (T.L.length - s)) clock))
  (hblk : w2.heap[b]? = some (.cells #[.int .i64 T.vars, .map (some m), .slice (some ⟨gl, 0, none⟩) s cl, .slice (some ⟨gs, 0, none⟩) K cs] 121 (0, 0)))
  (hk2 : ∀ g, g < w1.heap.size → F g → g ≠ b → g ≠ m → w2.heap[g]? = w1.heap[g]?) :
  Trail w2 F b (T.undo K) := by
 have hsl : s < T.L.length := by rw [← hs]; exact hwf.below _ (List.getElem_mem hk)
 have hu := Tr.undo_at hk
 rw [hs] at hu
 have hwf' := hwf.undo hk
 have h1 := hT.size
 have hcl : 0 < cl := by obtain ⟨A, c, hv, h, _⟩ := hT.lits.form; injection hv with _ _ hc; omega
 have hcs : 0 < cs := by obtain ⟨A, c, hv, h, _⟩ := hT.starts.form; injection hv with _ _ hc; omega
 have hgl : gl ≠ b := row_blk hT.lits (g := gl) ⟨hcl, rfl⟩ hT.blk
 have hgs : gs ≠ b := row_blk hT.starts (g := gs) ⟨hcs, rfl⟩ hT.blk
 have hgl' : gl ≠ m := row_map hT.lits (g := gl) ⟨hcl, rfl⟩ hT.map
 have hgs' : gs ≠ m := row_map hT.starts (g := gs) ⟨hcs, rfl⟩ hT.map
 have hlist := cutEs_all es s (T.L.length - s) (by omega)
 refine ⟨hwf', m, cutEs es s (T.L.length - s), clock, .slice (some ⟨gl, 0, none⟩) s cl, .slice (some ⟨gs, 0, none⟩) K cs, ?_⟩
 rw [hu]
 refine { hb := hT.hb, hm := hT.hm, blk := hblk, map := hmap, size := ?_, ents := ?_, lits := ?_, starts := ?_, apart := ?_ }
 ·rw [← Array.length_toList, hlist]; simp; omega
 ·intro i e he
  simp only [List.getElem?_take] at he
  split at he
  ·rename_i hi
   obtain ⟨x, A, n, c, h2, h3, h4, h5⟩ := hT.ents i e he
   refine ⟨x, A, n, c, ?_, h3, h4, ?_⟩
   ·rw [← Array.getElem?_toList, hlist, List.getElem?_take, if_pos hi, Array.getElem?_toList]; exact h2
   ·refine (h5.keep hsz fun g hg hF => hk2 g hg hF.1 hF.2.1 hF.2.2.1).mono fun g hg hF => ⟨hF.1, hF.2.1, hF.2.2.1, fun hr => hF.2.2.2.1 ?_, fun hr => hF.2.2.2.2 ?_⟩
    ·exact ⟨hcl, hr.2⟩
    ·exact ⟨hcs, hr.2⟩
  ·cases he
 ·have h := (hT.lits.cut (m := s) (by omega)).keep (w' := w2) fun g hg hr hF => by
   obtain ⟨_, rfl⟩ := hr
   exact hk2 _ hg hF hgl hgl'
  have e1 : (T.L.take s).length = s := by simp; omega
  simp only [Tr.lits, List.map_take, e1] at h ⊢
  exact h
 ·have h := (hT.starts.cut (m := K) (by omega)).keep (w' := w2) fun g hg hr hF => by
   obtain ⟨_, rfl⟩ := hr
   exact hk2 _ hg hF hgs hgs'
  have e1 : (T.starts.take K).length = K := by simp; omega
  simp only [List.map_take, e1] at h ⊢
  exact h
 ·intro g hl hr
  exact hT.apart g ⟨hcl, hl.2⟩ ⟨hcs, hr.2⟩
theorem undo_walk {w : World} {F : Nat → Prop} {b : Nat} {T : Tr} (ht : Trail w F b T) {k : Int} {K : Nat} (hkK : k = K ∨ k < 0 ∧ K = 0) (hk : K < T.starts.length) :
  Calls Tryz.prog 71 #[.pointer (some ⟨b, 0, none⟩), .int .i64 k] w fun r w' =>
   (∃ u, r = .returned u ∧ Own w' (fun g => w.heap.size ≤ g) 3 1 u (T.L.length - T.starts[K]) (ints (T.lits.drop T.starts[K]).reverse)) ∧ Trail w' (fun g => F g ∨ w.heap.size ≤ g) b (T.undo K) ∧ Mod F w w' := by
 obtain ⟨s, hs⟩ : ∃ s, T.starts[K] = s := ⟨_, rfl⟩
 have hwf := ht.wf
 have hsl : s < T.L.length := by rw [← hs]; exact hwf.below _ (List.getElem_mem hk)
 have h1 := hwf.len
 have h2 := hwf.vars
 have h3 := hwf.len'
 rw [hs]
 have Hs := hid hs
 have Hwf := hid hwf
 obtain ⟨_, m, es, clock, vl, vs, hT⟩ := ht
 have ht : Trail w F b T := ⟨hwf, m, es, clock, vl, vs, hT⟩
 obtain ⟨Al, cl, rfl, hcl, hclm, hAl⟩ := hT.lits.form
 obtain ⟨As, cs, rfl, hcs, hcsm, hAs⟩ := hT.starts.form
 obtain ⟨gl, rfl, _, _⟩ := hAl (by omega)
 obtain ⟨gs, rfl, _, hgs⟩ := hAs (by omega)
 have c1 : w.cell? ⟨b, 1, none⟩ = some (.map (some m)) := by rw [cell_of_row w b 1 _ _ _ hT.blk]; rfl
 have c2 : w.cell? ⟨b, 2, none⟩ = some (.slice (some ⟨gl, 0, none⟩) T.L.length cl) := by rw [cell_of_row w b 2 _ _ _ hT.blk]; rfl
 have c3 : w.cell? ⟨b, 3, none⟩ = some (.slice (some ⟨gs, 0, none⟩) T.starts.length cs) := by rw [cell_of_row w b 3 _ _ _ hT.blk]; rfl
 have ck : w.cell? ⟨gs, K, none⟩ = some (.int .i64 s) := by
  obtain ⟨_, hgk⟩ := hT.starts.rd.cell
  obtain ⟨g, o, hA, _, _, hc⟩ := hgk K hk
  injection hA with hA
  injection hA with hA ho
  subst hA; subst ho
  rw [Nat.zero_add] at hc
  rw [hc]
  congr 2
  rw [nth_eq (by simpa using hk)]
  simp [hs]
 have HT := hid hT
 have Ht := hid ht
 have hKs : (K : Int) < (T.starts.length : Int) := by omega
 have hsl' : (s : Int) ≤ (T.L.length : Int) := by omega
 have hscl : (s : Int) ≤ (cl : Int) := by omega
 have hKcs : (K : Int) ≤ (cs : Int) := by omega
 have hne : (cl = s) = False := by simp; omega
 have hclone : Hid (Calls Tryz.prog 76 #[.slice (some ⟨gl, s, none⟩) (T.L.length - s) (cl - s)] w.drew fun e w1 => ∃ Au cu, e = .returned (.slice Au (T.L.length - s) cu) ∧ Own w1 (fun g => w.heap.size ≤ g) 3 1 (.slice Au (T.L.length - s) cu) (T.L.length - s) (ints (T.lits.drop s)) ∧ Below w.heap.size w w1) := by
  have hd := hT.lits.rd.drop (k := s) hsl
  simp only [Option.map_some, addr_add, Nat.zero_add] at hd
  refine (clone_any (w := w.drew) (F := F) (xs := T.lits.drop s) hd (by omega)).mono ?_
  rintro e w1 ⟨⟨u, rfl, ho⟩, hb⟩
  obtain ⟨Au, cu, rfl, _⟩ := ho.form
  exact ⟨Au, cu, rfl, ho, ⟨hb.os, hb.tape, hb.output, hb.size, hb.block⟩⟩
 have hblt := lt_of_block hT.blk
 have hmx := max0 hkK
 clear hkK
 have d1 : decide (T.starts.length ≤ K) = false := by simpa using hk
 clear hs hT ht hwf hAl hAs
 go_enter Tryz.func71, Tryz.ntmps71
 go_upto_region 4 with (go_at_call 73; refine (none_any Ht.o).mono ?_; rintro r w1 ⟨rfl, rfl⟩)
 go_region_held3 (fun w' => w'.cell? ⟨b, 2, none⟩ = some (.slice (some ⟨gl, 0, none⟩) T.L.length cl) ∧ w'.cell? ⟨b, 3, none⟩ = some (.slice (some ⟨gs, 0, none⟩) T.starts.length cs) ∧ w'.cell? ⟨gs, K, none⟩ = some (.int .i64 s))
  (first | go_keep | exact ⟨(hb.cell (p := ⟨b, 2, none⟩) hblt).trans c2, (hb.cell (p := ⟨b, 3, none⟩) hblt).trans c3, (hb.cell (p := ⟨gs, K, none⟩) hgs).trans ck⟩)
  ((go_at_call 76; refine hclone.o.mono ?_; rintro e w1 ⟨Au, cu, rfl, ho, hb⟩))
 have HT1 := hid (HT.o.restrict.keep hb.size fun g hg _ => hb.block g hg)
 have Ho := hid ho
 have e1 := (hb.cell (p := ⟨b, 1, none⟩) hblt).trans c1
 have e2 := (hb.cell (p := ⟨b, 2, none⟩) hblt).trans c2
 have e3 := (hb.cell (p := ⟨b, 3, none⟩) hblt).trans c3
 have ek := (hb.cell (p := ⟨gs, K, none⟩) hgs).trans ck
 have f2 : w1.frozen? ⟨b, 2, none⟩ = false := frozen_of_row w1 b 2 _ _ HT1.o.blk
 have f3 : w1.frozen? ⟨b, 3, none⟩ = false := frozen_of_row w1 b 3 _ _ HT1.o.blk
 have hgsb : (gs = b) = False := by
  have := row_blk HT.o.starts (g := gs) ⟨by omega, rfl⟩ HT.o.blk
  simpa using this
 have hgsb' : (b = gs) = False := by
  have := row_blk HT.o.starts (g := gs) ⟨by omega, rfl⟩ HT.o.blk
  simpa using this.symm
 clear c1 c2 c3 ck ho hclone
 go_wp2_with fail
 go_region
 have hblk4 : (((w1.setCell ⟨b, 2, none⟩ (.slice (some ⟨gl, 0, none⟩) s cl)).setCell ⟨b, 3, none⟩ (.slice (some ⟨gs, 0, none⟩) K cs)).drew).heap[b]? = some (.cells #[.int .i64 T.vars, .map (some m), .slice (some ⟨gl, 0, none⟩) s cl, .slice (some ⟨gs, 0, none⟩) K cs] 121 (0, 0)) := by
  rw [World.heap_drew, heap_setCell_same _ b 3 _ _ _ (heap_setCell_same w1 b 2 _ _ _ HT1.o.blk)]
  simp
 have hm4 : Mod (fun g => g = b) w1 (((w1.setCell ⟨b, 2, none⟩ (.slice (some ⟨gl, 0, none⟩) s cl)).setCell ⟨b, 3, none⟩ (.slice (some ⟨gs, 0, none⟩) K cs)).drew) :=
  (((Mod.refl (fun g => g = b) w1).setCell (p := ⟨b, 2, none⟩) (.inl rfl) _).setCell (p := ⟨b, 3, none⟩) (.inl rfl) _).drew
 generalize ((w1.setCell ⟨b, 2, none⟩ (.slice (some ⟨gl, 0, none⟩) s cl)).setCell ⟨b, 3, none⟩ (.slice (some ⟨gs, 0, none⟩) K cs)).drew = w4 at hblk4 hm4 ⊢
 have hmb : m ≠ b := fun e => by
  have := HT.o.blk
  rw [← e, HT.o.map] at this
  cases this
 have hmap4 : w4.heap[m]? = some (.map es clock) := (hm4.block m (lt_of_block HT1.o.map) hmb).trans HT1.o.map
 have Ho4 : Hid (Own w4 (fun g => w.heap.size ≤ g) 3 1 (.slice Au (T.L.length - s) cu) (T.L.length - s) (ints (T.lits.drop s))) := Ho.o.mod hm4 fun g hg hr hF e => by omega
 have Hblk4 := hid hblk4
 clear e2 e3 ek f2 f3 hblk4 e1
 go_wp2_with fail
 go_loopw [60, 7] (fun i _ W => ∃ j : Nat, j ≤ T.L.length - s ∧ i = .int .i64 j ∧ W.heap[m]? = some (.map (cutEs es s j) clock) ∧ Mod (fun g => g = m) w4 W) (fun i _ _ => T.L.length - s - (intOf i).toNat)
 case atStart => exact ⟨0, by omega, rfl, by rw [cutEs_zero]; exact hmap4, Mod.refl _ _⟩
 case round =>
  obtain ⟨j, hj, rfl, hmj, hmw⟩ := hrel
  by_cases hlt : j < T.L.length - s
  ·obtain ⟨_, hcell⟩ := Ho4.o.rd.cell
   obtain ⟨g, o, rfl, hg, _, hcg0⟩ := hcell j hlt
   have hmlt := lt_of_block HT.o.map
   have hcg := (World.cell?_of_block (hmw.block g (by have := World.block_lt_of_cell? _ _ hcg0; exact this) (by omega))).trans hcg0
   obtain ⟨l, hl, hl1, hl2, hlv, hlk⟩ := lit_at Hwf.o (s := s) (j := j) (by omega)
   rw [hl] at hcg
   have Hkd : Hid (∀ x ∈ (cutEs es s j).toList, ∃ n, x.key = .int .i64 n) := fun x hx => HT.o.keyed x (by
    simp only [cutEs, List.mem_append] at hx
    rcases hx with hx | hx
    ·exact List.mem_of_mem_take hx
    ·exact List.mem_of_mem_drop hx)
   have Hfd : Hid (∀ v : Int, v = l.natAbs → (cutEs es s j).toList.findIdx? (fun x => keyNum x == v) = some s) := by
    rintro v rfl
    rw [← hlk]
    exact cutEs_find (ks := T.L.map Ent.v) (by rw [HT.o.keys, List.map_map]; rfl) Hwf.o.nodup hlv
   have Hnx := hid (cutEs_next es s j (by rw [HT.o.size]; omega))
   have cm := (World.cell?_of_block (a := ⟨b, 1, none⟩) (hmw.block b (lt_of_block Hblk4.o) (fun e => hmb e.symm))).trans ((cell_of_row w4 b 1 _ _ _ Hblk4.o).trans rfl)
   clear hcell hcg0 hl hlk hlv
   go_wp2_with (at_delete; refine wpList_delete_i64 rfl _ _ _ _ rfl _ Tryz.underlying119 Tryz.underlying3 hmj Hkd.o (Hfd.o _ (by omega)) rfl rfl ?_; rw [Hnx.o])
   all_goals
    go_roundw
    case rel => exact ⟨j + 1, by omega, by go_num, heap_setBlock_same hmj _, hmw.setBlock hmj (.inl rfl) _⟩
    case measure => simp [intOf]; omega
  ·have hje : j = T.L.length - s := by omega
   have Hje := hid hje
   clear hje
   have Ho5 : Hid (Own wr (fun g => w.heap.size ≤ g) 3 1 (.slice Au (T.L.length - s) cu) (T.L.length - s) (ints (T.lits.drop s))) := Ho4.o.mod hmw fun g hg hr hF e => by
    have := lt_of_block HT.o.map
    omega
   go_wp2_with (go_at_call 101; refine (reverse_any Ho5.o).mono ?_; rintro e w6 ⟨rfl, ho6, hm6⟩)
   go_ret
   have hblt' : b < w1.heap.size := lt_of_block HT1.o.blk
   have hmlt := lt_of_block HT.o.map
   have hmlt' : m < w1.heap.size := lt_of_block HT1.o.map
   have s0 := hb.size
   have s4 := hm4.size
   have s5 := hmw.size
   have s6 := hm6.size
   have hrow : ∀ g, row (.slice Au (T.L.length - s) cu) g → w.heap.size ≤ g := fun g hr => (Ho5.o.row hr).1
   refine ⟨⟨_, rfl, ho6⟩, (undo_done Hwf.o hk Hs.o HT1.o (by omega) ?_ ?_ fun g hg hF hgb hgm => ?_).mono fun g hg => .inl hg.1, ?_⟩
   ·rw [hm6.block m (by omega) (fun hr => by have := hrow m hr; omega), hmj, Hje.o]
   ·rw [hm6.block b (by omega) (fun hr => by have := hrow b hr; omega), hmw.block b (by omega) hmb.symm]
    exact Hblk4.o
   ·rw [hm6.block g (by omega) (fun hr => by have := hrow g hr; have := hF.2; omega), hmw.block g (by omega) hgm, hm4.block g hg hgb]
   ·refine (Mod.of_below hb).trans ((hm4.mono fun g _ hg => ?_).trans ((hmw.mono fun g _ hg => ?_).trans (hm6.mono fun g _ hg => ?_)))
    ·subst hg; exact .inl HT.o.hb
    ·subst hg; exact .inl (.inl HT.o.hm)
    ·exact .inl (.inl (.inr (hrow g hg)))
end
section
open Go.RowKit
theorem info_i8 : (Tryz.prog.info? 70).map (fun i => (i.zero, i.size, i.bytes)) = some (some (.int .i8 0), 1, 1) := by kernel_rfl
def i8s (xs : List Int) : List Value := xs.map (Value.int .i8)
theorem i8s_set (xs : List Int) (k : Nat) (x : Int) : i8s (xs.set k x) = (i8s xs).set k (.int .i8 x) := by simp [i8s, List.map_set]
def Tr.assign (T : Tr) : List Int := (List.range T.vars).map fun (i : Nat) => T.value ((i : Int) + 1)
def assignTo (vars : Nat) (ls : List Int) : List Int := ls.foldl (fun acc l => acc.set (l.natAbs - 1) (if 0 < l then 1 else -1)) (List.replicate vars 0)
theorem assignTo_length (vars : Nat) (ls : List Int) : (assignTo vars ls).length = vars := by
 unfold assignTo
 have : ∀ (ls : List Int) (acc : List Int), (ls.foldl (fun acc l => acc.set (l.natAbs - 1) (if 0 < l then 1 else -1)) acc).length = acc.length := by
  intro ls
  induction ls with
  | nil => intro acc; rfl
  | cons l ls ih => intro acc; rw [List.foldl_cons, ih]; simp
 rw [this]; simp
theorem assignTo_snoc (vars : Nat) (ls : List Int) (l : Int) : assignTo vars (ls ++ [l]) = (assignTo vars ls).set (l.natAbs - 1) (if 0 < l then 1 else -1) := by simp [assignTo, List.foldl_append]
theorem snoc_ind {P : List Int → Prop} (h0 : P []) (h1 : ∀ l x, P l → P (l ++ [x])) (l : List Int) : P l := by
 have : ∀ r : List Int, P r.reverse := by
  intro r
  induction r with
  | nil => exact h0
  | cons x r ih => rw [List.reverse_cons]; exact h1 _ _ ih
 simpa using this l.reverse
theorem assignTo_nth {vars : Nat} {ls : List Int} (h : ∀ l ∈ ls, l ≠ 0) (hn : (ls.map Int.natAbs).Nodup) {i : Nat} (hi : i < vars) :
  nth (assignTo vars ls) i = if (i : Int) + 1 ∈ ls then 1 else if -((i : Int) + 1) ∈ ls then -1 else 0 := by
 refine snoc_ind (P := fun ls => (∀ l ∈ ls, l ≠ 0) → (ls.map Int.natAbs).Nodup → nth (assignTo vars ls) i = if (i : Int) + 1 ∈ ls then 1 else if -((i : Int) + 1) ∈ ls then -1 else 0) (fun _ _ => by simp [assignTo, nth, hi]) (fun ls l ih h hn => ?_) ls h hn
 ·have ih := ih (fun x hx => h x (by simp [hx])) (by rw [List.map_append] at hn; exact (List.nodup_append.1 hn).1)
  have hl := h l (by simp)
  have hd : ∀ x ∈ ls, x.natAbs ≠ l.natAbs := fun x hx => by
   rw [List.map_append, List.nodup_append] at hn
   exact hn.2.2 _ (List.mem_map.2 ⟨x, hx, rfl⟩) _ (by simp)
  rw [assignTo_snoc, nth_set _ _ _ _ (by rw [assignTo_length]; exact hi), ih]
  by_cases hk : l.natAbs - 1 = i
  ·rw [if_pos hk]
   have a1 : ¬ (i : Int) + 1 ∈ ls := fun hm => hd _ hm (by omega)
   have a2 : ¬ -((i : Int) + 1) ∈ ls := fun hm => hd _ hm (by omega)
   by_cases hp : 0 < l
   ·have h1 : (i : Int) + 1 ∈ ls ++ [l] := by simp; right; omega
    rw [if_pos hp, if_pos h1]
   ·have : l = -((i : Int) + 1) := by omega
    have hne : ¬ (i : Int) + 1 = l := by omega
    have h2 : -((i : Int) + 1) ∈ ls ++ [l] := by simp [this]
    have h1 : ¬ (i : Int) + 1 ∈ ls ++ [l] := by simp only [List.mem_append, List.mem_singleton, not_or]; exact ⟨a1, hne⟩
    rw [if_neg hp, if_neg h1, if_pos h2]
  ·rw [if_neg hk]
   have hne : ¬ (i : Int) + 1 = l := by omega
   have hne' : ¬ -((i : Int) + 1) = l := by omega
   simp only [List.mem_append, List.mem_singleton, hne, hne', or_false]
theorem Tr.assign_eq {T : Tr} (h : T.WF) : assignTo T.vars T.lits = T.assign := by
 apply List.ext_getElem (by rw [assignTo_length]; simp [Tr.assign])
 intro i h1 h2
 rw [assignTo_length] at h1
 have := assignTo_nth (vars := T.vars) (ls := T.lits) (fun l hl => by
  obtain ⟨e, he, rfl⟩ := List.mem_map.1 hl
  exact (h.lit e he).1) (by rw [Tr.lits, List.map_map]; exact h.nodup) h1
 rw [nth_eq (by rw [assignTo_length]; exact h1)] at this
 rw [this]
 simp [Tr.assign, Tr.value]
theorem assign_any {w : World} {F : Nat → Prop} {b : Nat} {T : Tr} (ht : Trail w F b T) :
  Calls Tryz.prog 41 #[.pointer (some ⟨b, 0, none⟩)] w fun r w' => (∃ u, r = .returned u ∧ Own w' (fun g => w.heap.size ≤ g) 70 1 u T.vars (i8s T.assign)) ∧ Below w.heap.size w w' := by
 obtain ⟨m, Al, cl, As, cs, c0, c1, c2, c3, hL, _⟩ := ht.cells
 have hwf := ht.wf
 have Hwf := hid hwf
 have h1 := hwf.len
 have h2 := hwf.vars
 have hblt := World.block_lt_of_cell? w _ c0
 have HL := hid hL
 obtain ⟨i0, hi, hz0, hz1, hz2⟩ := info_parts info_i8
 clear hwf hL
 go_enter Tryz.func41, Tryz.ntmps41
 go_wp2_with (first | (go_at_call 73; refine (none_any ht).mono ?_; rintro r w1 ⟨rfl, rfl⟩) | (at_make; refine wpList_make1 rfl _ _ _ rfl i0 (.int .i8 0) 1 Tryz.underlying33 hi hz0 hz1 hz2 rfl rfl rfl (by omega) (by omega) ?_; intro w1 ho1 hb1; have d2 := (hb1.cell (p := ⟨b, 2, none⟩) hblt).trans c2))
 go_loopw [18, 5] (fun i _ W => ∃ k : Nat, k ≤ T.L.length ∧ i = .int .i64 k ∧ Own W (fun g => g = w.heap.size) 70 1 (.slice (some ⟨w.heap.size, 0, none⟩) T.vars T.vars) T.vars (i8s (assignTo T.vars (T.lits.take k))) ∧ Mod (fun g => g = w.heap.size) w1 W) (fun i _ _ => T.L.length - (intOf i).toNat)
 case atStart => exact ⟨0, by omega, rfl, by simpa [assignTo, i8s] using ho1, Mod.refl _ _⟩
 case round =>
  obtain ⟨k, hk, rfl, ho, hm⟩ := hrel
  have hs1 := hb1.size
  by_cases hlt : k < T.L.length
  ·obtain ⟨_, hcell⟩ := HL.o.rd.cell
   obtain ⟨g, o, rfl, _, hg, hcg0⟩ := hcell k hlt
   have hcg := ((World.cell?_of_block (a := ⟨g, o + k, none⟩) (hm.block g (show g < w1.heap.size by omega) (show ¬ g = w.heap.size by omega))).trans (hb1.cell (p := ⟨g, o + k, none⟩) hg)).trans hcg0
   have hlit := Hwf.o.lit T.L[k] (List.getElem_mem hlt)
   have hnl : nth T.lits k = T.L[k].lit := by rw [nth_eq (by simpa [Tr.lits] using hlt)]; simp [Tr.lits]
   have Htk : Hid (T.lits.take (k + 1) = T.lits.take k ++ [nth T.lits k]) := take_nth (by simpa [Tr.lits] using hlt)
   rw [hnl] at hcg
   have hl1 : T.L[k].lit ≠ 0 := hlit.1
   have hl2 : T.L[k].lit.natAbs ≤ T.vars := hlit.2
   have Hnl := hid hnl
   have Ho := hid ho
   generalize T.L[k].lit = l at *
   clear hcell hcg0 hlit hnl ho ho1
   rcases Int.lt_or_lt_of_ne hl1 with hneg | hpos
   ·obtain ⟨j, rfl⟩ : ∃ j : Nat, l = -((j : Int) + 1) := ⟨l.natAbs - 1, by omega⟩
    have hjv : (j : Int) < (T.vars : Int) := by omega
    obtain ⟨g', hg', _, _, cj, fj⟩ := Ho.o.cell (j := j) (by omega)
    injection hg' with hg'
    injection hg' with hg' _ _
    subst hg'
    have hcj : ∃ x, (i8s (assignTo T.vars (List.take k T.lits)))[j]? = some (.int .i8 x) := by
     simp only [i8s, List.getElem?_map]
     rw [List.getElem?_eq_getElem (by rw [assignTo_length]; omega)]
     exact ⟨_, rfl⟩
    obtain ⟨x, hx⟩ := hcj
    rw [hx] at cj
    clear hx hl1 hneg
    go_wp2
    go_roundw
    case rel => exact ⟨k + 1, by omega, by go_num, by
     have h3 := Ho.o.stored (j := j) (.int .i8 (-1))
     rw [Htk.o, assignTo_snoc, i8s_set, Hnl.o, if_neg (by omega)]
     rw [show (-((j : Int) + 1)).natAbs - 1 = j from by omega]
     exact h3, hm.setCell (p := ⟨w.heap.size, j, none⟩) (.inl rfl) _⟩
    case measure => simp [intOf]; omega
   ·obtain ⟨j, rfl⟩ : ∃ j : Nat, l = (j : Int) + 1 := ⟨l.natAbs - 1, by omega⟩
    have hjv : (j : Int) < (T.vars : Int) := by omega
    obtain ⟨g', hg', _, _, cj, fj⟩ := Ho.o.cell (j := j) (by omega)
    injection hg' with hg'
    injection hg' with hg' _ _
    subst hg'
    have hcj : ∃ x, (i8s (assignTo T.vars (List.take k T.lits)))[j]? = some (.int .i8 x) := by
     simp only [i8s, List.getElem?_map]
     rw [List.getElem?_eq_getElem (by rw [assignTo_length]; omega)]
     exact ⟨_, rfl⟩
    obtain ⟨x, hx⟩ := hcj
    rw [hx] at cj
    clear hx hl1
    go_wp2
    go_roundw
    case rel => exact ⟨k + 1, by omega, by go_num, by
     have h3 := Ho.o.stored (j := j) (.int .i8 1)
     rw [Htk.o, assignTo_snoc, i8s_set, Hnl.o, if_pos (by omega)]
     rw [show ((j : Int) + 1).natAbs - 1 = j from by omega]
     exact h3, hm.setCell (p := ⟨w.heap.size, j, none⟩) (.inl rfl) _⟩
    case measure => simp [intOf]; omega
  ·have hall : T.lits.take k = T.lits := List.take_of_length_le (by simp [Tr.lits]; omega)
   rw [hall, Tr.assign_eq Hwf.o] at ho
   have Ho := hid ho
   clear ho hall ho1
   go_wp2
   go_ret
   exact ⟨⟨_, rfl, Ho.o.mono fun g _ _ h => by omega⟩, hb1.trans ⟨hm.os, hm.tape, hm.output, hm.size, fun g hg => hm.block g (by omega) (by omega)⟩⟩
end
section
open Go.RowKit
theorem Mod.base {B : Nat} {w w' : World} (h : Mod (fun g => B ≤ g) w w') (hB : B ≤ w.heap.size) : Below B w w' :=
 ⟨h.os, h.tape, h.output, h.size, fun k hk => h.block k (by omega) (by omega)⟩
section
variable {w : World} {B b : Nat} {T : Tr}
def lvl (k : Int) : Nat := if k < 0 then 0 else k.toNat
theorem lvl_spec (k : Int) : k = (lvl k : Int) ∨ k < 0 ∧ lvl k = 0 := by unfold lvl; split <;> omega
def Tr.gone (T : Tr) (K : Nat) : List Int := if h : K < T.starts.length then (T.lits.drop T.starts[K]).reverse else []
def Tr.back (T : Tr) (K : Nat) : Tr := if K < T.starts.length then T.undo K else T
end
end
section
open Go.RowKit
/-! ### the mutators, whatever comes in -/
def Tr.dec (T : Tr) (l : Int) : Tr := if T.freeB l then T.decide l else T
def Tr.imp (T : Tr) (l : Int) (r : List Int) : Tr := if T.can l r then T.imply l r else T
def err (b : Bool) : Int := if b then 0 else 2
theorem Trail.restrict {w : World} {F : Nat → Prop} {b : Nat} {T : Tr} (h : Trail w F b T) : Trail w (fun g => F g ∧ g < w.heap.size) b T := by
 obtain ⟨wf, m, es, clock, vl, vs, h⟩ := h
 exact ⟨wf, m, es, clock, vl, vs, h.restrict⟩
section
variable {w : World} {F : Nat → Prop} {b : Nat} {T : Tr}
theorem Trail.drew (h : Trail w F b T) : Trail w.drew F b T := h.below ((Below.refl _ _).drew)
theorem decide_e (ht : Trail w F b T) {l : Int} (hl : I64 l) :
  Calls Tryz.prog 99 #[.pointer (some ⟨b, 0, none⟩), .int .i64 l] w fun r w' => r = .returned (.int .i64 (err (T.freeB l))) ∧ Trail w' (fun g => F g ∨ w.heap.size ≤ g) b (T.dec l) ∧ Mod F w w' := by
 cases hf : T.freeB l with
 | true =>
  have e : T.dec l = T.decide l := by simp [Tr.dec, hf]
  rw [e]
  exact decide_ok ht hl (Tr.free_iff.1 hf)
 | false =>
  have e : T.dec l = T := by simp [Tr.dec, hf]
  rw [e]
  refine (decide_bad ht hl (fun h => by rw [Tr.free_iff.2 h] at hf; cases hf)).mono ?_
  rintro r w' ⟨rfl, h1⟩
  exact ⟨rfl, (ht.below h1).mono fun g hg => .inl hg, Mod.of_below h1⟩
theorem imply_e {G : Nat → Prop} (ht : Trail w F b T) {l : Int} (hl : I64 l) {v : Value} {n : Nat} {r : List Int} (hv : Rd w G 1 v n (ints r)) (hn : n ≤ 17592186044416) (hr : ∀ x ∈ r, I64 x) :
  Calls Tryz.prog 91 #[.pointer (some ⟨b, 0, none⟩), .int .i64 l, v] w fun e w' => e = .returned (.int .i64 (err (T.can l r))) ∧ Trail w' (fun g => F g ∨ w.heap.size ≤ g) b (T.imp l r) ∧ Mod F w w' := by
 cases hf : T.can l r with
 | true =>
  have e : T.imp l r = T.imply l r := by simp [Tr.imp, hf]
  rw [e]
  exact imply_ok ht hl hv hn hr hf
 | false =>
  have e : T.imp l r = T := by simp [Tr.imp, hf]
  rw [e]
  refine (imply_bad ht hl hv hr hf).mono ?_
  rintro r w' ⟨rfl, h1⟩
  exact ⟨rfl, (ht.below h1).mono fun g hg => .inl hg, Mod.of_below h1⟩
theorem undo_e (ht : Trail w F b T) (k : Int) :
  Calls Tryz.prog 71 #[.pointer (some ⟨b, 0, none⟩), .int .i64 k] w fun r w' =>
   (∃ u, r = .returned u ∧ Own w' (fun g => w.heap.size ≤ g) 3 1 u (T.gone (lvl k)).length (ints (T.gone (lvl k)))) ∧ Trail w' (fun g => F g ∨ w.heap.size ≤ g) b (T.back (lvl k)) ∧ Mod F w w' := by
 by_cases hk : lvl k < T.starts.length
 ·have e1 : T.gone (lvl k) = (T.lits.drop T.starts[lvl k]).reverse := by simp [Tr.gone, hk]
  have e2 : T.back (lvl k) = T.undo (lvl k) := by simp [Tr.back, hk]
  rw [e1, e2]
  refine (undo_walk ht (lvl_spec k) hk).mono ?_
  rintro r w' ⟨⟨u, rfl, ho⟩, h1, h2⟩
  refine ⟨⟨u, rfl, ?_⟩, h1, h2⟩
  have e3 : (T.lits.drop T.starts[lvl k]).reverse.length = T.L.length - T.starts[lvl k] := by simp [Tr.lits]
  rw [e3]
  exact ho
 ·have e1 : T.gone (lvl k) = [] := by simp [Tr.gone, hk]
  have e2 : T.back (lvl k) = T := by simp [Tr.back, hk]
  rw [e1, e2]
  refine (undo_none ht (lvl_spec k) (by omega)).mono ?_
  rintro r w' ⟨rfl, rfl⟩
  exact ⟨⟨_, rfl, Own.nil _ _ _ _⟩, ht.mono fun g hg => .inl hg, Mod.refl _ _⟩
end
theorem Tr.dec_vars (T : Tr) (l : Int) : (T.dec l).vars = T.vars := by unfold Tr.dec; split <;> rfl
theorem Tr.imp_vars (T : Tr) (l : Int) (r : List Int) : (T.imp l r).vars = T.vars := by unfold Tr.imp; split <;> rfl
theorem Tr.back_vars (T : Tr) (K : Nat) : (T.back K).vars = T.vars := by unfold Tr.back; split <;> rfl
end
end Go.Proofs.YtcjmpobccbnpkaaGreat
