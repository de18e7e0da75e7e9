/-
  Walks: Undo.
-/
import Derived.Test.YtbghfdhijlpogaaTwalkG
import Derived.BigRegion
import Derived.Maps.OwnSet
namespace Go.Proofs.Ytbghfdhijlpogaa
open Go.RowKit
open Go.ChangeMaps

theorem Rd.drop {w : World} {F : Nat → Prop} {A : Option Addr} {n c k : Nat} {xs : List Int} (h : Rd w F 1 (.slice A n c) n (ints xs)) (hk : k < n) :
    Rd w F 1 (.slice (A.map (·.add k)) (n - k) (c - k)) (n - k) (ints (xs.drop k)) := by
  obtain ⟨hl, A', c', hv, hc, hm, hA⟩ := h
  injection hv with h1 _ h3
  subst h1; subst h3
  obtain ⟨g, o, rfl, hF, hlt, hcell⟩ := hA (by omega)
  refine ⟨by simp [ints_length] at hl ⊢; omega, _, _, rfl, by omega, by omega, fun _ => ⟨g, o + k, by simp [addr_add], hF, hlt, fun j u hu => ?_⟩⟩
  rw [Nat.add_assoc]
  exact hcell (k + j) u (by rw [← hu]; simp [ints, List.map_drop])

/-! ### the map while entries are deleted -/
def cutEs (es : Array MapEntry) (s j : Nat) : Array MapEntry := (es.toList.take s ++ es.toList.drop (s + j)).toArray
theorem cutEs_zero (es : Array MapEntry) (s : Nat) : cutEs es s 0 = es := by simp [cutEs]
theorem cutEs_all (es : Array MapEntry) (s j : Nat) (h : es.size ≤ s + j) : (cutEs es s j).toList = es.toList.take s := by
  simp [cutEs, List.drop_eq_nil_of_le (show es.toList.length ≤ s + j by simpa using h)]
theorem cutEs_next (es : Array MapEntry) (s j : Nat) (h : s + j < es.size) : (cutEs es s j).eraseIdxIfInBounds s = cutEs es s (j + 1) := by
  apply Array.toList_inj.1
  have hl : s < (cutEs es s j).size := by simp [cutEs]; omega
  rw [Array.eraseIdxIfInBounds, dif_pos hl, Array.toList_eraseIdx]
  simp only [cutEs]
  rw [List.eraseIdx_append_of_length_le (by simp; omega)]
  rw [List.length_take, Array.length_toList, Nat.min_eq_left (by omega), Nat.sub_self, List.eraseIdx_zero, List.tail_drop, Nat.add_assoc]
theorem cutEs_find {es : Array MapEntry} {ks : List Nat} (hk : es.toList.map keyNum = ks.map (fun (n : Nat) => (n : Int))) (hn : ks.Nodup) {s j : Nat} (hs : s + j < ks.length) :
    (cutEs es s j).toList.findIdx? (fun x => keyNum x == (ks[s + j] : Int)) = some s := by
  have hlen : es.toList.length = ks.length := by have := congrArg List.length hk; simpa using this
  have hget : ∀ i (h : i < ks.length), keyNum (es.toList[i]'(by omega)) = (ks[i] : Int) := fun i h => by
    have h1 := congrArg (fun l => l[i]?) hk
    simp only [List.getElem?_map, List.getElem?_eq_getElem (show i < es.toList.length by omega), List.getElem?_eq_getElem h, Option.map_some] at h1
    exact Option.some.inj h1
  rw [List.findIdx?_eq_some_iff_getElem]
  refine ⟨by simp [cutEs] at hlen ⊢; omega, ?_, fun i hi => ?_⟩
  · simp only [cutEs]
    rw [List.getElem_append_right (by simp; omega)]
    have e : s - (es.toList.take s).length = 0 := by simp at hlen ⊢; omega
    simp only [e, List.getElem_drop, Nat.add_zero]
    rw [hget (s + j) hs]
    simp
  · simp only [cutEs]
    rw [List.getElem_append_left (by simp at hlen ⊢; omega)]
    rw [List.getElem_take, hget i (by omega)]
    simp only [beq_iff_eq]
    intro hc
    have : ks[i] = ks[s + j] := by omega
    have := (List.getElem_inj hn).1 this
    omega

set_option maxRecDepth 100000 in
set_option maxHeartbeats 400000 in
theorem undo_none {w : World} {F : Nat → Prop} {b : Nat} {T : Tr} (ht : Trail w F b T) {k : Int} {K : Nat} (hkK : k = K ∨ k < 0 ∧ K = 0) (hk : T.starts.length ≤ K) :
    Calls Try.prog 13 #[.pointer (some ⟨b, 0, none⟩), .int .i64 k] w fun r w' => r = .returned (.slice none 0 0) ∧ w = w' := by
  obtain ⟨m, Al, cl, As, cs, c0, c1, c2, c3, _, _⟩ := ht.cells
  rcases hkK with rfl | ⟨hk0, rfl⟩
  · have h0 : ¬ (K : Int) < 0 := by omega
    go_enter Try.func13, Try.ntmps13
    go_wp2_with (go_at_call 30; refine (none_any ht).mono ?_; rintro r w1 ⟨rfl, rfl⟩)
    go_ret
    exact ⟨rfl, rfl⟩
  · have he : T.starts = [] := List.eq_nil_of_length_eq_zero (by omega)
    have hd : decide (T.starts = []) = true := by simpa using he
    clear he
    go_enter Try.func13, Try.ntmps13
    go_wp2_with (go_at_call 30; refine (none_any ht).mono ?_; rintro r w1 ⟨rfl, rfl⟩)
    go_ret
    exact ⟨rfl, rfl⟩

theorem max0 {k : Int} {K : Nat} (h : k = K ∨ k < 0 ∧ K = 0) : (if k < 0 then 0 else k) = (K : Int) := by
  rcases h with rfl | ⟨h0, rfl⟩
  · rw [if_neg (by omega)]
  · rw [if_pos h0]; rfl
theorem Own.cut {w : World} {F : Nat → Prop} {g n c m : Nat} {xs : List Int} (h : Own w F 3 1 (.slice (some ⟨g, 0, none⟩) n c) n (ints xs)) (hm : m ≤ n) :
    Own w F 3 1 (.slice (some ⟨g, 0, none⟩) m c) m (ints (xs.take m)) := by
  have := h.take hm
  rw [Nat.mul_one, ← ints_take] at this
  exact this
theorem lit_at {T : Tr} (h : T.WF) {s j : Nat} (hj : s + j < T.L.length) : ∃ l, nth (T.lits.drop s) j = l ∧ -65536 ≤ l ∧ l ≤ 65536 ∧ ∃ h : s + j < (T.L.map Ent.v).length, (T.L.map Ent.v)[s + j] = l.natAbs := by
  have h1 := h.lit T.L[s + j] (List.getElem_mem hj)
  have h2 := h.vars
  refine ⟨T.L[s + j].lit, ?_, ?_, ?_, by simpa using hj, by simp [Ent.v]⟩
  · rw [nth_eq (by simp [Tr.lits]; omega)]
    simp [Tr.lits]
  · unfold Ent.v at h1; omega
  · unfold Ent.v at h1; omega
/-- What Undo has done. -/
theorem undo_done {w1 w2 : World} {F : Nat → Prop} {b m : Nat} {es : Array MapEntry} {clock : Nat} {gl gs cl cs : Nat} {T : Tr} {K s : Nat} (hwf : T.WF) (hk : K < T.starts.length) (hs : T.starts[K] = s)
    (hT : TrailAt w1 F b m es clock (.slice (some ⟨gl, 0, none⟩) T.L.length cl) (.slice (some ⟨gs, 0, none⟩) T.starts.length cs) T)
    (hsz : w1.heap.size ≤ w2.heap.size) (hmap : w2.heap[m]? = some (.map (cutEs es s (T.L.length - s)) clock))
    (hblk : w2.heap[b]? = some (.cells #[.int .i64 T.vars, .map (some m), .slice (some ⟨gl, 0, none⟩) s cl, .slice (some ⟨gs, 0, none⟩) K cs] 59 (0, 0)))
    (hk2 : ∀ g, g < w1.heap.size → F g → g ≠ b → g ≠ m → w2.heap[g]? = w1.heap[g]?) :
    Trail w2 F b (T.undo K) := by
  have hsl : s < T.L.length := by rw [← hs]; exact hwf.below _ (List.getElem_mem hk)
  have hu := Tr.undo_at hk
  rw [hs] at hu
  have hwf' := hwf.undo hk
  have h1 := hT.size
  have hcl : 0 < cl := by obtain ⟨A, c, hv, h, _⟩ := hT.lits.form; injection hv with _ _ hc; omega
  have hcs : 0 < cs := by obtain ⟨A, c, hv, h, _⟩ := hT.starts.form; injection hv with _ _ hc; omega
  have hgl : gl ≠ b := row_blk hT.lits (g := gl) ⟨hcl, rfl⟩ hT.blk
  have hgs : gs ≠ b := row_blk hT.starts (g := gs) ⟨hcs, rfl⟩ hT.blk
  have hgl' : gl ≠ m := row_map hT.lits (g := gl) ⟨hcl, rfl⟩ hT.map
  have hgs' : gs ≠ m := row_map hT.starts (g := gs) ⟨hcs, rfl⟩ hT.map
  have hlist := cutEs_all es s (T.L.length - s) (by omega)
  refine ⟨hwf', m, cutEs es s (T.L.length - s), clock, .slice (some ⟨gl, 0, none⟩) s cl, .slice (some ⟨gs, 0, none⟩) K cs, ?_⟩
  rw [hu]
  refine { hb := hT.hb, hm := hT.hm, blk := hblk, map := hmap, size := ?_, ents := ?_, lits := ?_, starts := ?_, apart := ?_ }
  · rw [← Array.length_toList, hlist]; simp; omega
  · intro i e he
    simp only [List.getElem?_take] at he
    split at he
    · rename_i hi
      obtain ⟨x, A, n, c, h2, h3, h4, h5⟩ := hT.ents i e he
      refine ⟨x, A, n, c, ?_, h3, h4, ?_⟩
      · rw [← Array.getElem?_toList, hlist, List.getElem?_take, if_pos hi, Array.getElem?_toList]; exact h2
      · refine (h5.keep hsz fun g hg hF => hk2 g hg hF.1 hF.2.1 hF.2.2.1).mono fun g hg hF => ⟨hF.1, hF.2.1, hF.2.2.1, fun hr => hF.2.2.2.1 ?_, fun hr => hF.2.2.2.2 ?_⟩
        · exact ⟨hcl, hr.2⟩
        · exact ⟨hcs, hr.2⟩
    · cases he
  · have h := (hT.lits.cut (m := s) (by omega)).keep (w' := w2) fun g hg hr hF => by
      obtain ⟨_, rfl⟩ := hr
      exact hk2 _ hg hF hgl hgl'
    have e1 : (T.L.take s).length = s := by simp; omega
    simp only [Tr.lits, List.map_take, e1] at h ⊢
    exact h
  · have h := (hT.starts.cut (m := K) (by omega)).keep (w' := w2) fun g hg hr hF => by
      obtain ⟨_, rfl⟩ := hr
      exact hk2 _ hg hF hgs hgs'
    have e1 : (T.starts.take K).length = K := by simp; omega
    simp only [List.map_take, e1] at h ⊢
    exact h
  · intro g hl hr
    exact hT.apart g ⟨hcl, hl.2⟩ ⟨hcs, hr.2⟩

set_option maxRecDepth 100000 in
set_option maxHeartbeats 2000000 in
theorem undo_walk {w : World} {F : Nat → Prop} {b : Nat} {T : Tr} (ht : Trail w F b T) {k : Int} {K : Nat} (hkK : k = K ∨ k < 0 ∧ K = 0) (hk : K < T.starts.length) :
    Calls Try.prog 13 #[.pointer (some ⟨b, 0, none⟩), .int .i64 k] w fun r w' =>
      (∃ u, r = .returned u ∧ Own w' (fun g => w.heap.size ≤ g) 3 1 u (T.L.length - T.starts[K]) (ints (T.lits.drop T.starts[K]).reverse)) ∧ Trail w' (fun g => F g ∨ w.heap.size ≤ g) b (T.undo K) ∧ Mod F w w' := by
  obtain ⟨s, hs⟩ : ∃ s, T.starts[K] = s := ⟨_, rfl⟩
  have hwf := ht.wf
  have hsl : s < T.L.length := by rw [← hs]; exact hwf.below _ (List.getElem_mem hk)
  have h1 := hwf.len
  have h2 := hwf.vars
  have h3 := hwf.len'
  rw [hs]
  have Hs := hid hs
  have Hwf := hid hwf
  obtain ⟨_, m, es, clock, vl, vs, hT⟩ := ht
  have ht : Trail w F b T := ⟨hwf, m, es, clock, vl, vs, hT⟩
  obtain ⟨Al, cl, rfl, hcl, hclm, hAl⟩ := hT.lits.form
  obtain ⟨As, cs, rfl, hcs, hcsm, hAs⟩ := hT.starts.form
  obtain ⟨gl, rfl, _, _⟩ := hAl (by omega)
  obtain ⟨gs, rfl, _, hgs⟩ := hAs (by omega)
  have c1 : w.cell? ⟨b, 1, none⟩ = some (.map (some m)) := by rw [cell_of_row w b 1 _ _ _ hT.blk]; rfl
  have c2 : w.cell? ⟨b, 2, none⟩ = some (.slice (some ⟨gl, 0, none⟩) T.L.length cl) := by rw [cell_of_row w b 2 _ _ _ hT.blk]; rfl
  have c3 : w.cell? ⟨b, 3, none⟩ = some (.slice (some ⟨gs, 0, none⟩) T.starts.length cs) := by rw [cell_of_row w b 3 _ _ _ hT.blk]; rfl
  have ck : w.cell? ⟨gs, K, none⟩ = some (.int .i64 s) := by
    obtain ⟨_, hgk⟩ := hT.starts.rd.cell
    obtain ⟨g, o, hA, _, _, hc⟩ := hgk K hk
    injection hA with hA
    injection hA with hA ho
    subst hA; subst ho
    rw [Nat.zero_add] at hc
    rw [hc]
    congr 2
    rw [nth_eq (by simpa using hk)]
    simp [hs]
  have HT := hid hT
  have Ht := hid ht
  have hKs : (K : Int) < (T.starts.length : Int) := by omega
  have hsl' : (s : Int) ≤ (T.L.length : Int) := by omega
  have hscl : (s : Int) ≤ (cl : Int) := by omega
  have hKcs : (K : Int) ≤ (cs : Int) := by omega
  have hne : (cl = s) = False := by simp; omega
  have hclone : Hid (Calls Try.prog 31 #[.slice (some ⟨gl, s, none⟩) (T.L.length - s) (cl - s)] w.drew fun e w1 => ∃ Au cu, e = .returned (.slice Au (T.L.length - s) cu) ∧ Own w1 (fun g => w.heap.size ≤ g) 3 1 (.slice Au (T.L.length - s) cu) (T.L.length - s) (ints (T.lits.drop s)) ∧ Below w.heap.size w w1) := by
    have hd := hT.lits.rd.drop (k := s) hsl
    simp only [Option.map_some, addr_add, Nat.zero_add] at hd
    refine (clone_any (w := w.drew) (F := F) (xs := T.lits.drop s) hd (by omega)).mono ?_
    rintro e w1 ⟨⟨u, rfl, ho⟩, hb⟩
    obtain ⟨Au, cu, rfl, _⟩ := ho.form
    exact ⟨Au, cu, rfl, ho, ⟨hb.os, hb.tape, hb.output, hb.size, hb.block⟩⟩
  have hblt := lt_of_block hT.blk
  have hmx := max0 hkK
  clear hkK
  have d1 : decide (T.starts.length ≤ K) = false := by simpa using hk
  clear hs hT ht hwf hAl hAs
  go_enter Try.func13, Try.ntmps13
  go_upto_region 4 with (go_at_call 30; refine (none_any Ht.out).mono ?_; rintro r w1 ⟨rfl, rfl⟩)
  go_region_held3 (fun w' => w'.cell? ⟨b, 2, none⟩ = some (.slice (some ⟨gl, 0, none⟩) T.L.length cl) ∧ w'.cell? ⟨b, 3, none⟩ = some (.slice (some ⟨gs, 0, none⟩) T.starts.length cs) ∧ w'.cell? ⟨gs, K, none⟩ = some (.int .i64 s))
    (first | go_keep | exact ⟨(hb.cell (p := ⟨b, 2, none⟩) hblt).trans c2, (hb.cell (p := ⟨b, 3, none⟩) hblt).trans c3, (hb.cell (p := ⟨gs, K, none⟩) hgs).trans ck⟩)
    ((go_at_call 31; refine hclone.out.mono ?_; rintro e w1 ⟨Au, cu, rfl, ho, hb⟩))
  have HT1 := hid (HT.out.restrict.keep hb.size fun g hg _ => hb.block g hg)
  have Ho := hid ho
  have e1 := (hb.cell (p := ⟨b, 1, none⟩) hblt).trans c1
  have e2 := (hb.cell (p := ⟨b, 2, none⟩) hblt).trans c2
  have e3 := (hb.cell (p := ⟨b, 3, none⟩) hblt).trans c3
  have ek := (hb.cell (p := ⟨gs, K, none⟩) hgs).trans ck
  have f2 : w1.frozen? ⟨b, 2, none⟩ = false := frozen_of_row w1 b 2 _ _ HT1.out.blk
  have f3 : w1.frozen? ⟨b, 3, none⟩ = false := frozen_of_row w1 b 3 _ _ HT1.out.blk
  have hgsb : (gs = b) = False := by
    have := row_blk HT.out.starts (g := gs) ⟨by omega, rfl⟩ HT.out.blk
    simpa using this
  have hgsb' : (b = gs) = False := by
    have := row_blk HT.out.starts (g := gs) ⟨by omega, rfl⟩ HT.out.blk
    simpa using this.symm
  clear c1 c2 c3 ck ho hclone
  go_wp2_with fail
  go_region
  have hblk4 : (((w1.setCell ⟨b, 2, none⟩ (.slice (some ⟨gl, 0, none⟩) s cl)).setCell ⟨b, 3, none⟩ (.slice (some ⟨gs, 0, none⟩) K cs)).drew).heap[b]? = some (.cells #[.int .i64 T.vars, .map (some m), .slice (some ⟨gl, 0, none⟩) s cl, .slice (some ⟨gs, 0, none⟩) K cs] 59 (0, 0)) := by
    rw [World.heap_drew, heap_setCell_same _ b 3 _ _ _ (heap_setCell_same w1 b 2 _ _ _ HT1.out.blk)]
    simp
  have hm4 : Mod (fun g => g = b) w1 (((w1.setCell ⟨b, 2, none⟩ (.slice (some ⟨gl, 0, none⟩) s cl)).setCell ⟨b, 3, none⟩ (.slice (some ⟨gs, 0, none⟩) K cs)).drew) :=
    (((Mod.refl (fun g => g = b) w1).setCell (p := ⟨b, 2, none⟩) (.inl rfl) _).setCell (p := ⟨b, 3, none⟩) (.inl rfl) _).drew
  generalize ((w1.setCell ⟨b, 2, none⟩ (.slice (some ⟨gl, 0, none⟩) s cl)).setCell ⟨b, 3, none⟩ (.slice (some ⟨gs, 0, none⟩) K cs)).drew = w4 at hblk4 hm4 ⊢
  have hmb : m ≠ b := fun e => by
    have := HT.out.blk
    rw [← e, HT.out.map] at this
    cases this
  have hmap4 : w4.heap[m]? = some (.map es clock) := (hm4.block m (lt_of_block HT1.out.map) hmb).trans HT1.out.map
  have Ho4 : Hid (Own w4 (fun g => w.heap.size ≤ g) 3 1 (.slice Au (T.L.length - s) cu) (T.L.length - s) (ints (T.lits.drop s))) := Ho.out.mod hm4 fun g hg hr hF e => by omega
  have Hblk4 := hid hblk4
  clear e2 e3 ek f2 f3 hblk4 e1
  go_wp2_with fail
  go_loopw [60, 7] (fun i _ W => ∃ j : Nat, j ≤ T.L.length - s ∧ i = .int .i64 j ∧ W.heap[m]? = some (.map (cutEs es s j) clock) ∧ Mod (fun g => g = m) w4 W) (fun i _ _ => T.L.length - s - (intOf i).toNat)
  case atStart => exact ⟨0, by omega, rfl, by rw [cutEs_zero]; exact hmap4, Mod.refl _ _⟩
  case round =>
    obtain ⟨j, hj, rfl, hmj, hmw⟩ := hrel
    by_cases hlt : j < T.L.length - s
    · obtain ⟨_, hcell⟩ := Ho4.out.rd.cell
      obtain ⟨g, o, rfl, hg, _, hcg0⟩ := hcell j hlt
      have hmlt := lt_of_block HT.out.map
      have hcg := (World.cell?_of_block (hmw.block g (by have := World.block_lt_of_cell? _ _ hcg0; exact this) (by omega))).trans hcg0
      obtain ⟨l, hl, hl1, hl2, hlv, hlk⟩ := lit_at Hwf.out (s := s) (j := j) (by omega)
      rw [hl] at hcg
      have Hkd : Hid (∀ x ∈ (cutEs es s j).toList, ∃ n, x.key = .int .i64 n) := fun x hx => HT.out.keyed x (by
        simp only [cutEs, List.mem_append] at hx
        rcases hx with hx | hx
        · exact List.mem_of_mem_take hx
        · exact List.mem_of_mem_drop hx)
      have Hfd : Hid (∀ v : Int, v = l.natAbs → (cutEs es s j).toList.findIdx? (fun x => keyNum x == v) = some s) := by
        rintro v rfl
        rw [← hlk]
        exact cutEs_find (ks := T.L.map Ent.v) (by rw [HT.out.keys, List.map_map]; rfl) Hwf.out.nodup hlv
      have Hnx := hid (cutEs_next es s j (by rw [HT.out.size]; omega))
      have cm := (World.cell?_of_block (a := ⟨b, 1, none⟩) (hmw.block b (lt_of_block Hblk4.out) (fun e => hmb e.symm))).trans ((cell_of_row w4 b 1 _ _ _ Hblk4.out).trans rfl)
      clear hcell hcg0 hl hlk hlv
      go_wp2_with (at_delete; refine wpList_delete_i64 rfl _ _ _ _ rfl _ Try.underlying57 Try.underlying3 hmj Hkd.out (Hfd.out _ (by omega)) rfl rfl ?_; rw [Hnx.out])
      all_goals
        go_roundw
        case rel => exact ⟨j + 1, by omega, by go_num, heap_setBlock_same hmj _, hmw.setBlock hmj (.inl rfl) _⟩
        case measure => simp [intOf]; omega
    · have hje : j = T.L.length - s := by omega
      have Hje := hid hje
      clear hje
      have Ho5 : Hid (Own wr (fun g => w.heap.size ≤ g) 3 1 (.slice Au (T.L.length - s) cu) (T.L.length - s) (ints (T.lits.drop s))) := Ho4.out.mod hmw fun g hg hr hF e => by
        have := lt_of_block HT.out.map
        omega
      go_wp2_with (go_at_call 33; refine (reverse_any Ho5.out).mono ?_; rintro e w6 ⟨rfl, ho6, hm6⟩)
      go_ret
      have hblt' : b < w1.heap.size := lt_of_block HT1.out.blk
      have hmlt := lt_of_block HT.out.map
      have hmlt' : m < w1.heap.size := lt_of_block HT1.out.map
      have s0 := hb.size
      have s4 := hm4.size
      have s5 := hmw.size
      have s6 := hm6.size
      have hrow : ∀ g, row (.slice Au (T.L.length - s) cu) g → w.heap.size ≤ g := fun g hr => (Ho5.out.row hr).1
      refine ⟨⟨_, rfl, ho6⟩, (undo_done Hwf.out hk Hs.out HT1.out (by omega) ?_ ?_ fun g hg hF hgb hgm => ?_).mono fun g hg => .inl hg.1, ?_⟩
      · rw [hm6.block m (by omega) (fun hr => by have := hrow m hr; omega), hmj, Hje.out]
      · rw [hm6.block b (by omega) (fun hr => by have := hrow b hr; omega), hmw.block b (by omega) hmb.symm]
        exact Hblk4.out
      · rw [hm6.block g (by omega) (fun hr => by have := hrow g hr; have := hF.2; omega), hmw.block g (by omega) hgm, hm4.block g hg hgb]
      · refine (Mod.of_below hb).trans ((hm4.mono fun g _ hg => ?_).trans ((hmw.mono fun g _ hg => ?_).trans (hm6.mono fun g _ hg => ?_)))
        · subst hg; exact .inl HT.out.hb
        · subst hg; exact .inl (.inl HT.out.hm)
        · exact .inl (.inl (.inr (hrow g hg)))

end Go.Proofs.Ytbghfdhijlpogaa
