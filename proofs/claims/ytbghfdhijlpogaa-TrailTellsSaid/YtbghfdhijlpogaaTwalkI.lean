/-
  Walks: the trail's Assign; ostlerlaw24.Ints.
-/
import Derived.Test.YtbghfdhijlpogaaTwalkH
namespace Go.Proofs.Ytbghfdhijlpogaa
open Go.RowKit

theorem info_i8 : (Try.prog.info? 43).map (fun i => (i.zero, i.size, i.bytes)) = some (some (.int .i8 0), 1, 1) := by kernel_rfl
def i8s (xs : List Int) : List Value := xs.map (Value.int .i8)
theorem i8s_set (xs : List Int) (k : Nat) (x : Int) : i8s (xs.set k x) = (i8s xs).set k (.int .i8 x) := by simp [i8s, List.map_set]
/-- The value of each variable. -/
def Tr.assign (T : Tr) : List Int := (List.range T.vars).map fun (i : Nat) => T.value ((i : Int) + 1)
/-- .. of the first k literals alone. -/
def assignTo (vars : Nat) (ls : List Int) : List Int := ls.foldl (fun acc l => acc.set (l.natAbs - 1) (if 0 < l then 1 else -1)) (List.replicate vars 0)
theorem assignTo_length (vars : Nat) (ls : List Int) : (assignTo vars ls).length = vars := by
  unfold assignTo
  have : ∀ (ls : List Int) (acc : List Int), (ls.foldl (fun acc l => acc.set (l.natAbs - 1) (if 0 < l then 1 else -1)) acc).length = acc.length := by
    intro ls
    induction ls with
    | nil => intro acc; rfl
    | cons l ls ih => intro acc; rw [List.foldl_cons, ih]; simp
  rw [this]; simp
theorem assignTo_snoc (vars : Nat) (ls : List Int) (l : Int) : assignTo vars (ls ++ [l]) = (assignTo vars ls).set (l.natAbs - 1) (if 0 < l then 1 else -1) := by simp [assignTo, List.foldl_append]
theorem snoc_ind {P : List Int → Prop} (h0 : P []) (h1 : ∀ l x, P l → P (l ++ [x])) (l : List Int) : P l := by
  have : ∀ r : List Int, P r.reverse := by
    intro r
    induction r with
    | nil => exact h0
    | cons x r ih => rw [List.reverse_cons]; exact h1 _ _ ih
  simpa using this l.reverse
theorem assignTo_nth {vars : Nat} {ls : List Int} (h : ∀ l ∈ ls, l ≠ 0) (hn : (ls.map Int.natAbs).Nodup) {i : Nat} (hi : i < vars) :
    nth (assignTo vars ls) i = if (i : Int) + 1 ∈ ls then 1 else if -((i : Int) + 1) ∈ ls then -1 else 0 := by
  refine snoc_ind (P := fun ls => (∀ l ∈ ls, l ≠ 0) → (ls.map Int.natAbs).Nodup → nth (assignTo vars ls) i = if (i : Int) + 1 ∈ ls then 1 else if -((i : Int) + 1) ∈ ls then -1 else 0) (fun _ _ => by simp [assignTo, nth, hi]) (fun ls l ih h hn => ?_) ls h hn
  · have ih := ih (fun x hx => h x (by simp [hx])) (by rw [List.map_append] at hn; exact (List.nodup_append.1 hn).1)
    have hl := h l (by simp)
    have hd : ∀ x ∈ ls, x.natAbs ≠ l.natAbs := fun x hx => by
      rw [List.map_append, List.nodup_append] at hn
      exact hn.2.2 _ (List.mem_map.2 ⟨x, hx, rfl⟩) _ (by simp)
    rw [assignTo_snoc, nth_set _ _ _ _ (by rw [assignTo_length]; exact hi), ih]
    by_cases hk : l.natAbs - 1 = i
    · rw [if_pos hk]
      have a1 : ¬ (i : Int) + 1 ∈ ls := fun hm => hd _ hm (by omega)
      have a2 : ¬ -((i : Int) + 1) ∈ ls := fun hm => hd _ hm (by omega)
      by_cases hp : 0 < l
      · have h1 : (i : Int) + 1 ∈ ls ++ [l] := by simp; right; omega
        rw [if_pos hp, if_pos h1]
      · have : l = -((i : Int) + 1) := by omega
        have hne : ¬ (i : Int) + 1 = l := by omega
        have h2 : -((i : Int) + 1) ∈ ls ++ [l] := by simp [this]
        have h1 : ¬ (i : Int) + 1 ∈ ls ++ [l] := by simp only [List.mem_append, List.mem_singleton, not_or]; exact ⟨a1, hne⟩
        rw [if_neg hp, if_neg h1, if_pos h2]
    · rw [if_neg hk]
      have hne : ¬ (i : Int) + 1 = l := by omega
      have hne' : ¬ -((i : Int) + 1) = l := by omega
      simp only [List.mem_append, List.mem_singleton, hne, hne', or_false]
theorem Tr.assign_eq {T : Tr} (h : T.WF) : assignTo T.vars T.lits = T.assign := by
  apply List.ext_getElem (by rw [assignTo_length]; simp [Tr.assign])
  intro i h1 h2
  rw [assignTo_length] at h1
  have := assignTo_nth (vars := T.vars) (ls := T.lits) (fun l hl => by
    obtain ⟨e, he, rfl⟩ := List.mem_map.1 hl
    exact (h.lit e he).1) (by rw [Tr.lits, List.map_map]; exact h.nodup) h1
  rw [nth_eq (by rw [assignTo_length]; exact h1)] at this
  rw [this]
  simp [Tr.assign, Tr.value]

set_option maxRecDepth 100000 in
set_option maxHeartbeats 1000000 in
theorem assign_any {w : World} {F : Nat → Prop} {b : Nat} {T : Tr} (ht : Trail w F b T) :
    Calls Try.prog 21 #[.pointer (some ⟨b, 0, none⟩)] w fun r w' => (∃ u, r = .returned u ∧ Own w' (fun g => w.heap.size ≤ g) 43 1 u T.vars (i8s T.assign)) ∧ Below w.heap.size w w' := by
  obtain ⟨m, Al, cl, As, cs, c0, c1, c2, c3, hL, _⟩ := ht.cells
  have hwf := ht.wf
  have Hwf := hid hwf
  have h1 := hwf.len
  have h2 := hwf.vars
  have hblt := World.block_lt_of_cell? w _ c0
  have HL := hid hL
  obtain ⟨i0, hi, hz0, hz1, hz2⟩ := info_parts info_i8
  clear hwf hL
  go_enter Try.func21, Try.ntmps21
  go_wp2_with (first | (go_at_call 30; refine (none_any ht).mono ?_; rintro r w1 ⟨rfl, rfl⟩) | (at_make; refine wpList_make1 rfl _ _ _ rfl i0 (.int .i8 0) 1 Try.underlying41 hi hz0 hz1 hz2 rfl rfl rfl (by omega) (by omega) ?_; intro w1 ho1 hb1; have d2 := (hb1.cell (p := ⟨b, 2, none⟩) hblt).trans c2))
  go_loopw [18, 5] (fun i _ W => ∃ k : Nat, k ≤ T.L.length ∧ i = .int .i64 k ∧ Own W (fun g => g = w.heap.size) 43 1 (.slice (some ⟨w.heap.size, 0, none⟩) T.vars T.vars) T.vars (i8s (assignTo T.vars (T.lits.take k))) ∧ Mod (fun g => g = w.heap.size) w1 W) (fun i _ _ => T.L.length - (intOf i).toNat)
  case atStart => exact ⟨0, by omega, rfl, by simpa [assignTo, i8s] using ho1, Mod.refl _ _⟩
  case round =>
    obtain ⟨k, hk, rfl, ho, hm⟩ := hrel
    have hs1 := hb1.size
    by_cases hlt : k < T.L.length
    · obtain ⟨_, hcell⟩ := HL.out.rd.cell
      obtain ⟨g, o, rfl, _, hg, hcg0⟩ := hcell k hlt
      have hcg := ((World.cell?_of_block (a := ⟨g, o + k, none⟩) (hm.block g (show g < w1.heap.size by omega) (show ¬ g = w.heap.size by omega))).trans (hb1.cell (p := ⟨g, o + k, none⟩) hg)).trans hcg0
      have hlit := Hwf.out.lit T.L[k] (List.getElem_mem hlt)
      have hnl : nth T.lits k = T.L[k].lit := by rw [nth_eq (by simpa [Tr.lits] using hlt)]; simp [Tr.lits]
      have Htk : Hid (T.lits.take (k + 1) = T.lits.take k ++ [nth T.lits k]) := take_nth (by simpa [Tr.lits] using hlt)
      rw [hnl] at hcg
      have hl1 : T.L[k].lit ≠ 0 := hlit.1
      have hl2 : T.L[k].lit.natAbs ≤ T.vars := hlit.2
      have Hnl := hid hnl
      have Ho := hid ho
      generalize T.L[k].lit = l at *
      clear hcell hcg0 hlit hnl ho ho1
      rcases Int.lt_or_lt_of_ne hl1 with hneg | hpos
      · obtain ⟨j, rfl⟩ : ∃ j : Nat, l = -((j : Int) + 1) := ⟨l.natAbs - 1, by omega⟩
        have hjv : (j : Int) < (T.vars : Int) := by omega
        obtain ⟨g', hg', _, _, cj, fj⟩ := Ho.out.cell (j := j) (by omega)
        injection hg' with hg'
        injection hg' with hg' _ _
        subst hg'
        have hcj : ∃ x, (i8s (assignTo T.vars (List.take k T.lits)))[j]? = some (.int .i8 x) := by
          simp only [i8s, List.getElem?_map]
          rw [List.getElem?_eq_getElem (by rw [assignTo_length]; omega)]
          exact ⟨_, rfl⟩
        obtain ⟨x, hx⟩ := hcj
        rw [hx] at cj
        clear hx hl1 hneg
        go_wp2
        go_roundw
        case rel => exact ⟨k + 1, by omega, by go_num, by
          have h3 := Ho.out.stored (j := j) (.int .i8 (-1))
          rw [Htk.out, assignTo_snoc, i8s_set, Hnl.out, if_neg (by omega)]
          rw [show (-((j : Int) + 1)).natAbs - 1 = j from by omega]
          exact h3, hm.setCell (p := ⟨w.heap.size, j, none⟩) (.inl rfl) _⟩
        case measure => simp [intOf]; omega
      · obtain ⟨j, rfl⟩ : ∃ j : Nat, l = (j : Int) + 1 := ⟨l.natAbs - 1, by omega⟩
        have hjv : (j : Int) < (T.vars : Int) := by omega
        obtain ⟨g', hg', _, _, cj, fj⟩ := Ho.out.cell (j := j) (by omega)
        injection hg' with hg'
        injection hg' with hg' _ _
        subst hg'
        have hcj : ∃ x, (i8s (assignTo T.vars (List.take k T.lits)))[j]? = some (.int .i8 x) := by
          simp only [i8s, List.getElem?_map]
          rw [List.getElem?_eq_getElem (by rw [assignTo_length]; omega)]
          exact ⟨_, rfl⟩
        obtain ⟨x, hx⟩ := hcj
        rw [hx] at cj
        clear hx hl1
        go_wp2
        go_roundw
        case rel => exact ⟨k + 1, by omega, by go_num, by
          have h3 := Ho.out.stored (j := j) (.int .i8 1)
          rw [Htk.out, assignTo_snoc, i8s_set, Hnl.out, if_pos (by omega)]
          rw [show ((j : Int) + 1).natAbs - 1 = j from by omega]
          exact h3, hm.setCell (p := ⟨w.heap.size, j, none⟩) (.inl rfl) _⟩
        case measure => simp [intOf]; omega
    · have hall : T.lits.take k = T.lits := List.take_of_length_le (by simp [Tr.lits]; omega)
      rw [hall, Tr.assign_eq Hwf.out] at ho
      have Ho := hid ho
      clear ho hall ho1
      go_wp2
      go_ret
      exact ⟨⟨_, rfl, Ho.out.mono fun g _ _ h => by omega⟩, hb1.trans ⟨hm.os, hm.tape, hm.output, hm.size, fun g hg => hm.block g (by omega) (by omega)⟩⟩
set_option maxRecDepth 100000 in
set_option maxHeartbeats 1000000 in
/-- ostlerlaw24.Ints: are two slices equal? -/
theorem ints_eq {w : World} {F G : Nat → Prop} {u v : Value} {n m : Nat} {xs ys : List Int} (hu : Rd w F 1 u n (ints xs)) (hv : Rd w G 1 v m (ints ys)) :
    Calls Try.prog 14 #[u, v] w fun r w' => r = .returned (.bool (decide (xs = ys))) ∧ Below w.heap.size w w' := by
  obtain ⟨A, c, rfl, hc, hcm, _⟩ := hu.2
  obtain ⟨B, d, rfl, hd, hdm, _⟩ := hv.2
  obtain ⟨rfl, hA⟩ := hu.cell
  obtain ⟨rfl, hB⟩ := hv.cell
  have hn : xs.length ≤ 9223372036854775807 := by unfold maxLen at hcm; omega
  by_cases hl : xs.length = ys.length
  · have hq : (xs.length != ys.length) = false := by simpa using hl
    have hq' : ((xs.length : Int) != (ys.length : Int)) = false := by simp [hl]
    have Hl := hid hl
    clear hl hcm hdm
    go_enter Try.func14, Try.ntmps14
    go_wp2
    go_loopw [13, 5] (fun i _ W => ∃ k : Nat, k ≤ xs.length ∧ i = .int .i64 k ∧ (∀ j, j < k → nth xs j = nth ys j) ∧ Below w.heap.size w W) (fun i _ _ => xs.length - (intOf i).toNat)
    case atStart => exact ⟨0, by omega, rfl, fun j hj => by omega, Below.refl _ _⟩
    case round =>
      obtain ⟨k, hk, rfl, hno, hb⟩ := hrel
      have Hno := hid hno
      clear hno
      by_cases hlt : k < xs.length
      · obtain ⟨g, o, rfl, _, hg, hc1⟩ := hA k hlt
        obtain ⟨g', o', rfl, _, hg', hc2⟩ := hB k (by rw [← Hl.out]; exact hlt)
        have e1 := (hb.cell (p := ⟨g, o + k, none⟩) hg).trans hc1
        have e2 := (hb.cell (p := ⟨g', o' + k, none⟩) hg').trans hc2
        have hk1 : (k : Int) < (xs.length : Int) := by omega
        have hk2 : (k : Int) < (ys.length : Int) := by have := Hl.out; omega
        clear hA hB hc1 hc2
        cases hx : (nth xs k != nth ys k)
        · go_wp2_with fail
          go_quiet (fail)
          have Hx := hid hx
          clear hx
          go_wp2
          go_roundw
          case rel => exact ⟨k + 1, by omega, by go_num, fun j hj => by
            by_cases hjk : j = k
            · subst hjk; simpa using Hx.out
            · exact Hno.out j (by omega), below_drewN hb _⟩
          case measure => simp [intOf]; omega
        · have He : Hid (decide (xs = ys) = false) := by
            have : xs ≠ ys := fun h => by subst h; simp at hx
            exact hid (by simpa using this)
          go_wp2_with fail
          go_quiet (fail)
          clear hx
          go_wp2
          go_ret
          rw [He.out]
          exact ⟨rfl, below_drewN hb _⟩
      · clear hA hB
        have He : Hid (decide (xs = ys) = true) := by
          have : xs = ys := List.ext_getElem Hl.out fun j h1 h2 => by
            rw [← nth_eq h1, ← nth_eq h2]; exact Hno.out j (by omega)
          exact hid (by simpa using this)
        go_wp2
        go_ret
        rw [He.out]
        exact ⟨rfl, hb⟩
  · have hq' : ((xs.length : Int) != (ys.length : Int)) = true := by simp; omega
    have hq : (xs.length != ys.length) = true := by simpa using hl
    have He : decide (xs = ys) = false := by simp; intro h; exact hl (by rw [h])
    rw [He]
    clear hl hA hB hcm hdm He
    go_enter Try.func14, Try.ntmps14
    go_wp2
    go_ret
    exact ⟨rfl, Below.refl _ _⟩
end Go.Proofs.Ytbghfdhijlpogaa
