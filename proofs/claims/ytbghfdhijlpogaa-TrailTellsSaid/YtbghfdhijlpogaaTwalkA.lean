/-
  Walks: none, find, Value, Level, Index, Depth, free.
-/
import Derived.Test.YtbghfdhijlpogaaTbase
namespace Go.Proofs.Ytbghfdhijlpogaa
open Go.RowKit

theorem eql_map (w : World) (r : Option Nat) : (binOp .eql 57 (.map r) (.map none)).run Try.prog w = .ok (.bool r.isNone) w := run_eql_map_nil w _ _ _ r Try.underlying57
attribute [go_sem] eql_map
theorem zero_entry (w : World) : (zeroValue 65).run Try.prog w = .ok (.agg #[.int .i64 0, .int .i64 0, .int .i64 0, .slice none 0 0]) w := by kernel_rfl

set_option maxHeartbeats 400000 in
theorem none_no {w : World} {b m : Nat} (hc : w.cell? ⟨b, 1, none⟩ = some (.map (some m))) :
    Calls Try.prog 30 #[.pointer (some ⟨b, 0, none⟩)] w fun e w' => e = .returned (.bool false) ∧ w = w' := by
  go_enter Try.func30, Try.ntmps30
  go_wp2
  go_ret
  exact ⟨rfl, rfl⟩

set_option maxHeartbeats 400000 in
theorem none_nil {w : World} :
    Calls Try.prog 30 #[.pointer none] w fun e w' => e = .returned (.bool true) ∧ w = w' := by
  go_enter Try.func30, Try.ntmps30
  go_wp2
  go_ret
  exact ⟨rfl, rfl⟩

set_option maxHeartbeats 400000 in
theorem find_walk {w : World} {b m : Nat} {v : Int} {o : Obj} {l1 l2 l3 : Int} {A : Option Addr} {n c : Nat} {ok : Bool} (hc : w.cell? ⟨b, 1, none⟩ = some (.map (some m))) (hm : w.heap[m]? = some o)
    (hlk : ∀ w' : World, w'.heap[m]? = some o → (Instr.lookup 57 (.map (some m)) (.int .i64 v) true).run Try.prog w' = .ok (.tuple #[.agg #[.int .i64 l1, .int .i64 l2, .int .i64 l3, .slice A n c], .bool ok]) w') :
    Calls Try.prog 32 #[.pointer (some ⟨b, 0, none⟩), .int .i64 v] w fun e w' => e = .returned (.tuple #[.agg #[.int .i64 l1, .int .i64 l2, .int .i64 l3, .slice A n c], .bool ok]) ∧ Below w.heap.size w w' := by
  obtain ⟨h1, h2, h3, h4, h5, h6⟩ := steps (World.block_lt_of_cell? w _ hc)
  obtain ⟨g1, g2, g3, g4, g5, g6⟩ := steps (lt_of_block hm)
  go_enter Try.func32, Try.ntmps32
  go_wp2_with (go_at_call 30; refine (none_no (m := m) (by go_simp)).mono ?_; rintro e w' ⟨rfl, rfl⟩)
  exact bodyPost_ret (v := .tuple #[.agg #[.int .i64 l1, .int .i64 l2, .int .i64 l3, .slice A n c], .bool ok]) (by simp [results, Try.results32, go_sem]) rfl ⟨rfl, (((Below.refl _ _).alloc (Nat.le_refl _) _).alloc (by simp) _)⟩


/-! ### plain -/
/-- The numbers that an int holds. -/
def I64 (x : Int) : Prop := -9223372036854775808 ≤ x ∧ x ≤ 9223372036854775807
/-- max(l, -l), as Go computes it. -/
def absw (l : Int) : Int := if l < wrap64 (-l) then wrap64 (-l) else l
theorem absw_eq {l : Int} (h : -9223372036854775807 ≤ l) (h' : l ≤ 9223372036854775807) : absw l = l.natAbs := by
  have : wrap64 (-l) = -l := IntWalk.wrap64_in _ ⟨by omega, by omega⟩
  unfold absw
  rw [this]
  split <;> omega
theorem absw_min : absw (-9223372036854775808) = -9223372036854775808 := by decide +kernel
theorem Tr.idx_some {T : Tr} {v : Int} {i : Nat} (h : T.idx v = some i) : ∃ e, T.L[i]? = some e ∧ (e.v : Int) = v := by
  obtain ⟨h1, h2, _⟩ := List.findIdx?_eq_some_iff_getElem.1 h
  exact ⟨T.L[i], by simp [h1], by simpa using h2⟩
theorem Tr.idx_none {T : Tr} {v : Int} (h : T.idx v = none) : ∀ e ∈ T.L, (e.v : Int) ≠ v := by
  have := List.findIdx?_eq_none_iff.1 h
  intro e he
  simpa using this e he
theorem Tr.WF.uniq {T : Tr} (h : T.WF) {i j : Nat} {e f : Ent} (hi : T.L[i]? = some e) (hj : T.L[j]? = some f) (hv : e.v = f.v) : i = j := by
  have hn := h.nodup
  have h1 : (T.L.map Ent.v)[i]? = some e.v := by simp [hi]
  have h2 : (T.L.map Ent.v)[j]? = some e.v := by simp [hj, hv]
  have l1 : i < (T.L.map Ent.v).length := (List.getElem?_eq_some_iff.1 h1).1
  exact (List.getElem?_inj l1 hn).1 (h1.trans h2.symm)
theorem Tr.WF.idx {T : Tr} (h : T.WF) {i : Nat} {e : Ent} (hi : T.L[i]? = some e) : T.idx e.v = some i := by
  cases hx : T.idx e.v with
  | none => exact absurd rfl (Tr.idx_none hx e (List.mem_of_getElem? hi))
  | some j =>
    obtain ⟨f, hf, hv⟩ := Tr.idx_some hx
    rw [h.uniq hf hi (by omega)]
theorem Tr.mem_lits {T : Tr} {l : Int} : l ∈ T.lits ↔ ∃ (i : Nat) (e : Ent), T.L[i]? = some e ∧ e.lit = l := by
  unfold Tr.lits
  rw [List.mem_map]
  constructor
  · rintro ⟨e, he, rfl⟩
    obtain ⟨i, hi, rfl⟩ := List.mem_iff_getElem.1 he
    exact ⟨i, _, by simp [hi], rfl⟩
  · rintro ⟨i, e, hi, rfl⟩
    exact ⟨e, List.mem_of_getElem? hi, rfl⟩
theorem Tr.value_none {T : Tr} (hw : T.WF) {l : Int} (h : I64 l) (hx : T.idx (absw l) = none) : T.value l = 0 := by
  have hno := Tr.idx_none hx
  obtain ⟨h1, h2⟩ := h
  have key : ∀ e ∈ T.L, e.lit ≠ l ∧ e.lit ≠ -l := by
    intro e he
    have h3 := hno e he
    obtain ⟨h4, h5⟩ := hw.lit e he
    have h6 := hw.vars
    unfold Ent.v at *
    by_cases hm : l = -9223372036854775808
    · subst hm; omega
    · rw [absw_eq (by omega) (by omega)] at h3; omega
  have a1 : l ∉ T.lits := fun hm => by obtain ⟨i, e, hi, he⟩ := Tr.mem_lits.1 hm; exact (key e (List.mem_of_getElem? hi)).1 he
  have a2 : -l ∉ T.lits := fun hm => by obtain ⟨i, e, hi, he⟩ := Tr.mem_lits.1 hm; exact (key e (List.mem_of_getElem? hi)).2 he
  simp [Tr.value, a1, a2]
theorem Tr.value_some {T : Tr} (hw : T.WF) {l : Int} (h : I64 l) {i : Nat} {e : Ent} (hx : T.idx (absw l) = some i) (he : T.L[i]? = some e) :
    T.value l = if e.lit = l then 1 else -1 := by
  obtain ⟨h1, h2⟩ := h
  obtain ⟨f, hf, hv⟩ := Tr.idx_some hx
  have hfe : f = e := by rw [hf] at he; exact Option.some.inj he
  subst hfe
  obtain ⟨h4, h5⟩ := hw.lit f (List.mem_of_getElem? hf)
  have h6 := hw.vars
  have hab : f.v = l.natAbs := by
    by_cases hm : l = -9223372036854775808
    · subst hm; rw [absw_min] at hv; unfold Ent.v at *; omega
    · rw [absw_eq (by omega) (by omega)] at hv; omega
  by_cases hl : f.lit = l
  · have : l ∈ T.lits := Tr.mem_lits.2 ⟨i, f, hf, hl⟩
    simp [Tr.value, this, hl]
  · have hn : f.lit = -l := by unfold Ent.v at hab; omega
    have a1 : l ∉ T.lits := fun hm => by
      obtain ⟨j, g, hj, hg⟩ := Tr.mem_lits.1 hm
      have := hw.uniq hf hj (by unfold Ent.v at *; omega)
      subst this
      rw [hf] at hj
      exact hl (by rw [Option.some.inj hj]; exact hg)
    have a2 : -l ∈ T.lits := Tr.mem_lits.2 ⟨i, f, hf, hn⟩
    simp [Tr.value, a1, a2, hl]

/-! ### the walks, said of the plain trail -/
theorem find_yes {w : World} {F : Nat → Prop} {b : Nat} {T : Tr} (h : Trail w F b T) {v : Int} {i : Nat} {e : Ent} (hi : T.idx v = some i) (he : T.L[i]? = some e) :
    Calls Try.prog 32 #[.pointer (some ⟨b, 0, none⟩), .int .i64 v] w fun r w' =>
      (∃ A n c, r = .returned (.tuple #[.agg #[.int .i64 e.lit, .int .i64 e.level, .int .i64 i, .slice A n c], .bool true]) ∧ Rd w' F 1 (.slice A n c) e.reason.length (ints e.reason)) ∧ Below w.heap.size w w' := by
  obtain ⟨_, m, es, clock, vl, vs, h⟩ := h
  obtain ⟨x, A, n, c, h1, h2, h3, h4⟩ := h.ents i e he
  refine (find_walk (m := m) (o := .map es clock) (l1 := e.lit) (l2 := e.level) (l3 := i) (A := A) (n := n) (c := c) (ok := true) (by rw [cell_of_row w b 1 _ _ _ h.blk]; rfl) h.map (fun w' hw' => ?_)).mono ?_
  · have hl := lookup_i64 (P := Try.prog) Try.underlying57 Try.underlying3 v (zero_entry w') hw' h.keyed true
    rw [hl, h.found v, hi]
    simp [h1, h3]
  · rintro r w' ⟨rfl, hb⟩
    exact ⟨⟨A, n, c, rfl, (h4.below hb).mono fun g _ hg => hg.1⟩, hb⟩
theorem find_no {w : World} {F : Nat → Prop} {b : Nat} {T : Tr} (h : Trail w F b T) {v : Int} (hi : T.idx v = none) :
    Calls Try.prog 32 #[.pointer (some ⟨b, 0, none⟩), .int .i64 v] w fun r w' =>
      r = .returned (.tuple #[.agg #[.int .i64 0, .int .i64 0, .int .i64 0, .slice none 0 0], .bool false]) ∧ Below w.heap.size w w' := by
  obtain ⟨_, m, es, clock, vl, vs, h⟩ := h
  refine find_walk (m := m) (o := .map es clock) (l1 := 0) (l2 := 0) (l3 := 0) (A := none) (n := 0) (c := 0) (ok := false) (by rw [cell_of_row w b 1 _ _ _ h.blk]; rfl) h.map (fun w' hw' => ?_)
  have hl := lookup_i64 (P := Try.prog) Try.underlying57 Try.underlying3 v (zero_entry w') hw' h.keyed true
  rw [hl, h.found v, hi]
  simp

set_option maxHeartbeats 400000 in
theorem value_yes {w : World} {F : Nat → Prop} {b : Nat} {T : Tr} (ht : Trail w F b T) {l : Int} {i : Nat} {e : Ent} (h1 : l < wrap64 (-l) → T.idx (wrap64 (-l)) = some i) (h2 : wrap64 (-l) ≤ l → T.idx l = some i) (he : T.L[i]? = some e)
    {q : Bool} (hq : (e.lit == l) = q) :
    Calls Try.prog 18 #[.pointer (some ⟨b, 0, none⟩), .int .i64 l] w fun r w' => r = .returned (.int .i64 (if q then 1 else -1)) ∧ Below w.heap.size w w' := by
  cases q
  all_goals
    go_enter Try.func18, Try.ntmps18
    go_wp2_with (go_at_call 32; refine (find_yes ht (i := i) (by first | exact h1 (by assumption) | exact h2 (by assumption)) he).mono ?_; rintro r w1 ⟨⟨A, n, c, rfl, hr⟩, hb⟩)
    all_goals (go_ret; exact ⟨rfl, hb.alloc hb.size _⟩)
set_option maxHeartbeats 400000 in
theorem value_no {w : World} {F : Nat → Prop} {b : Nat} {T : Tr} (ht : Trail w F b T) {l : Int} (h1 : l < wrap64 (-l) → T.idx (wrap64 (-l)) = none) (h2 : wrap64 (-l) ≤ l → T.idx l = none) :
    Calls Try.prog 18 #[.pointer (some ⟨b, 0, none⟩), .int .i64 l] w fun r w' => r = .returned (.int .i64 0) ∧ Below w.heap.size w w' := by
  go_enter Try.func18, Try.ntmps18
  go_wp2_with (go_at_call 32; refine (find_no ht (by first | exact h1 (by assumption) | exact h2 (by assumption))).mono ?_; rintro r w1 ⟨rfl, hb⟩)
  all_goals (go_ret; exact ⟨rfl, hb.alloc hb.size _⟩)
theorem value_any {w : World} {F : Nat → Prop} {b : Nat} {T : Tr} (ht : Trail w F b T) {l : Int} (hl : I64 l) :
    Calls Try.prog 18 #[.pointer (some ⟨b, 0, none⟩), .int .i64 l] w fun r w' => r = .returned (.int .i64 (T.value l)) ∧ Below w.heap.size w w' := by
  have e1 : l < wrap64 (-l) → absw l = wrap64 (-l) := fun h => by simp [absw, h]
  have e2 : wrap64 (-l) ≤ l → absw l = l := fun h => by simp [absw, show ¬ l < wrap64 (-l) by omega]
  cases hx : T.idx (absw l) with
  | none =>
    rw [Tr.value_none ht.wf hl hx]
    exact value_no ht (fun h => by rw [← e1 h]; exact hx) (fun h => by rw [← e2 h]; exact hx)
  | some i =>
    obtain ⟨e, he, _⟩ := Tr.idx_some hx
    rw [Tr.value_some ht.wf hl hx he]
    have := value_yes ht (i := i) (q := decide (e.lit = l)) (fun h => by rw [← e1 h]; exact hx) (fun h => by rw [← e2 h]; exact hx) he (by by_cases h : e.lit = l <;> simp [h])
    simpa using this

/-- The level of a variable, or -1; its position, or -1; its reason. -/
def Tr.levelOf (T : Tr) (v : Int) : Int := match (T.idx v).bind (T.L[·]?) with | some e => e.level | none => -1
def Tr.indexOf (T : Tr) (v : Int) : Int := match T.idx v with | some i => i | none => -1
def Tr.reasonOf (T : Tr) (v : Int) : List Int := match (T.idx v).bind (T.L[·]?) with | some e => e.reason | none => []

set_option maxHeartbeats 400000 in
theorem level_any {w : World} {F : Nat → Prop} {b : Nat} {T : Tr} (ht : Trail w F b T) {v : Int} :
    Calls Try.prog 11 #[.pointer (some ⟨b, 0, none⟩), .int .i64 v] w fun r w' => r = .returned (.int .i64 (T.levelOf v)) ∧ Below w.heap.size w w' := by
  cases hx : T.idx v with
  | none =>
    have hv : T.levelOf v = -1 := by simp [Tr.levelOf, hx]
    rw [hv]
    clear hv
    go_enter Try.func11, Try.ntmps11
    go_wp2_with (go_at_call 32; refine (find_no ht hx).mono ?_; rintro r w1 ⟨rfl, hb⟩)
    all_goals (go_ret; exact ⟨rfl, hb.alloc hb.size _⟩)
  | some i =>
    obtain ⟨e, he, _⟩ := Tr.idx_some hx
    have hv : T.levelOf v = e.level := by simp [Tr.levelOf, hx, he]
    rw [hv]
    clear hv
    go_enter Try.func11, Try.ntmps11
    go_wp2_with (go_at_call 32; refine (find_yes ht hx he).mono ?_; rintro r w1 ⟨⟨A, n, c, rfl, hr⟩, hb⟩)
    all_goals (go_ret; exact ⟨rfl, hb.alloc hb.size _⟩)
set_option maxHeartbeats 400000 in
theorem index_any {w : World} {F : Nat → Prop} {b : Nat} {T : Tr} (ht : Trail w F b T) {v : Int} :
    Calls Try.prog 20 #[.pointer (some ⟨b, 0, none⟩), .int .i64 v] w fun r w' => r = .returned (.int .i64 (T.indexOf v)) ∧ Below w.heap.size w w' := by
  cases hx : T.idx v with
  | none =>
    have hv : T.indexOf v = -1 := by simp [Tr.indexOf, hx]
    rw [hv]
    clear hv
    go_enter Try.func20, Try.ntmps20
    go_wp2_with (go_at_call 32; refine (find_no ht hx).mono ?_; rintro r w1 ⟨rfl, hb⟩)
    all_goals (go_ret; exact ⟨rfl, hb.alloc hb.size _⟩)
  | some i =>
    obtain ⟨e, he, _⟩ := Tr.idx_some hx
    have hv : T.indexOf v = i := by simp [Tr.indexOf, hx]
    rw [hv]
    clear hv
    go_enter Try.func20, Try.ntmps20
    go_wp2_with (go_at_call 32; refine (find_yes ht hx he).mono ?_; rintro r w1 ⟨⟨A, n, c, rfl, hr⟩, hb⟩)
    all_goals (go_ret; exact ⟨rfl, hb.alloc hb.size _⟩)
theorem none_any {w : World} {F : Nat → Prop} {b : Nat} {T : Tr} (ht : Trail w F b T) :
    Calls Try.prog 30 #[.pointer (some ⟨b, 0, none⟩)] w fun e w' => e = .returned (.bool false) ∧ w = w' := by
  obtain ⟨_, m, es, clock, vl, vs, h⟩ := ht
  exact none_no (m := m) (by rw [cell_of_row w b 1 _ _ _ h.blk]; rfl)
theorem Trail.cells {w : World} {F : Nat → Prop} {b : Nat} {T : Tr} (ht : Trail w F b T) :
    ∃ m Al cl As cs, w.cell? ⟨b, 0, none⟩ = some (.int .i64 T.vars) ∧ w.cell? ⟨b, 1, none⟩ = some (.map (some m)) ∧ w.cell? ⟨b, 2, none⟩ = some (.slice Al T.L.length cl) ∧ w.cell? ⟨b, 3, none⟩ = some (.slice As T.starts.length cs) ∧
      Own w F 3 1 (.slice Al T.L.length cl) T.L.length (ints T.lits) ∧ Own w F 3 1 (.slice As T.starts.length cs) T.starts.length (ints (T.starts.map Int.ofNat)) := by
  obtain ⟨_, m, es, clock, vl, vs, h⟩ := ht
  obtain ⟨Al, cl, rfl, _⟩ := h.lits.form
  obtain ⟨As, cs, rfl, _⟩ := h.starts.form
  exact ⟨m, Al, cl, As, cs, by rw [cell_of_row w b 0 _ _ _ h.blk]; rfl, by rw [cell_of_row w b 1 _ _ _ h.blk]; rfl, by rw [cell_of_row w b 2 _ _ _ h.blk]; rfl, by rw [cell_of_row w b 3 _ _ _ h.blk]; rfl, h.lits, h.starts⟩
set_option maxHeartbeats 400000 in
theorem depth_any {w : World} {F : Nat → Prop} {b : Nat} {T : Tr} (ht : Trail w F b T) :
    Calls Try.prog 12 #[.pointer (some ⟨b, 0, none⟩)] w fun r w' => r = .returned (.int .i64 T.depth) ∧ w = w' := by
  obtain ⟨m, Al, cl, As, cs, c0, c1, c2, c3, _, _⟩ := ht.cells
  unfold Tr.depth
  go_enter Try.func12, Try.ntmps12
  go_wp2_with (go_at_call 30; refine (none_any ht).mono ?_; rintro r w1 ⟨rfl, rfl⟩)
  go_ret
  exact ⟨rfl, rfl⟩
def Tr.freeB (T : Tr) (l : Int) : Bool := l ≠ 0 && -T.vars ≤ l && l ≤ T.vars && T.value l = 0
theorem Tr.free_iff {T : Tr} {l : Int} : T.freeB l = true ↔ T.free l := by
  unfold Tr.freeB Tr.free
  simp
  omega
set_option maxHeartbeats 400000 in
theorem free_any {w : World} {F : Nat → Prop} {b : Nat} {T : Tr} (ht : Trail w F b T) {l : Int} (hl : I64 l) :
    Calls Try.prog 34 #[.pointer (some ⟨b, 0, none⟩), .int .i64 l] w fun r w' => r = .returned (.bool (T.freeB l)) ∧ Below w.heap.size w w' := by
  obtain ⟨m, Al, cl, As, cs, c0, c1, c2, c3, _, _⟩ := ht.cells
  have hvv := ht.wf.vars
  by_cases h0 : l = 0
  · have hv : T.freeB l = false := by simp [Tr.freeB, h0]
    rw [hv]; clear hv
    subst h0
    go_enter Try.func34, Try.ntmps34
    go_wp2_with (go_at_call 18; refine (value_any ht hl).mono ?_; rintro r w1 ⟨rfl, hb⟩)
    go_ret
    exact ⟨rfl, Below.refl _ _⟩
  · have g0 : (l != 0) = true := by simpa using h0
    by_cases h1 : -(T.vars : Int) ≤ l
    · by_cases h2 : l ≤ T.vars
      · have hv : T.freeB l = (T.value l == 0) := by simp [Tr.freeB, h0, h1, h2]; rfl
        rw [hv]; clear hv
        go_enter Try.func34, Try.ntmps34
        go_wp2_with (go_at_call 18; refine (value_any ht hl).mono ?_; rintro r w1 ⟨rfl, hb⟩)
        go_ret
        exact ⟨rfl, hb⟩
      · have hv : T.freeB l = false := by simp [Tr.freeB, h2]
        rw [hv]; clear hv
        have g2 : decide (l ≤ T.vars) = false := by simpa using h2
        go_enter Try.func34, Try.ntmps34
        go_wp2_with (go_at_call 18; refine (value_any ht hl).mono ?_; rintro r w1 ⟨rfl, hb⟩)
        go_ret
        exact ⟨rfl, Below.refl _ _⟩
    · have hv : T.freeB l = false := by simp [Tr.freeB, h1]
      rw [hv]; clear hv
      have g1 : decide (-(T.vars : Int) ≤ l) = false := by simpa using h1
      go_enter Try.func34, Try.ntmps34
      go_wp2_with (go_at_call 18; refine (value_any ht hl).mono ?_; rintro r w1 ⟨rfl, hb⟩)
      go_ret
      exact ⟨rfl, Below.refl _ _⟩

end Go.Proofs.Ytbghfdhijlpogaa
