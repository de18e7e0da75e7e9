/-
 Chapter 32: several texts in one (TwalkA TwalkB TwalkC TwalkD).
-/
import Derived.Test.YtcjmpobccbnpkaaGreatMjaa
namespace Go.Proofs.YtcjmpobccbnpkaaGreat
set_option maxHeartbeats 1000000
section
open Go.RowKit
theorem eql_map (w : World) (r : Option Nat) : (binOp .eql 119 (.map r) (.map none)).run Tryz.prog w = .ok (.bool r.isNone) w := run_eql_map_nil w _ _ _ r Tryz.underlying119
attribute [go_sem] eql_map
theorem zero_entry (w : World) : (zeroValue 160).run Tryz.prog w = .ok (.agg #[.int .i64 0, .int .i64 0, .int .i64 0, .slice none 0 0]) w := by kernel_rfl
theorem none_no {w : World} {b m : Nat} (hc : w.cell? ⟨b, 1, none⟩ = some (.map (some m))) :
  Calls Tryz.prog 73 #[.pointer (some ⟨b, 0, none⟩)] w fun e w' => e = .returned (.bool false) ∧ w = w' := by
 go_enter Tryz.func73, Tryz.ntmps73
 go_wp2
 go_ret
 exact ⟨rfl, rfl⟩
theorem find_walk {w : World} {b m : Nat} {v : Int} {o : Obj} {l1 l2 l3 : Int} {A : Option Addr} {n c : Nat} {ok : Bool} (hc : w.cell? ⟨b, 1, none⟩ = some (.map (some m))) (hm : w.heap[m]? = some o)
  (hlk : ∀ w' : World, w'.heap[m]? = some o → (Instr.lookup 119 (.map (some m)) (.int .i64 v) true).run Tryz.prog w' = .ok (.tuple #[.agg #[.int .i64 l1, .int .i64 l2, .int .i64 l3, .slice A n c], .bool ok]) w') :
  Calls Tryz.prog 108 #[.pointer (some ⟨b, 0, none⟩), .int .i64 v] w fun e w' => e = .returned (.tuple #[.agg #[.int .i64 l1, .int .i64 l2, .int .i64 l3, .slice A n c], .bool ok]) ∧ Below w.heap.size w w' := by
 obtain ⟨h1, h2, h3, h4, h5, h6⟩ := steps (World.block_lt_of_cell? w _ hc)
 obtain ⟨g1, g2, g3, g4, g5, g6⟩ := steps (lt_of_block hm)
 go_enter Tryz.func108, Tryz.ntmps108
 go_wp2_with (go_at_call 73; refine (none_no (m := m) (by go_simp)).mono ?_; rintro e w' ⟨rfl, rfl⟩)
 exact bodyPost_ret (v := .tuple #[.agg #[.int .i64 l1, .int .i64 l2, .int .i64 l3, .slice A n c], .bool ok]) (by simp [results, Tryz.results108, go_sem]) rfl ⟨rfl, (((Below.refl _ _).alloc (Nat.le_refl _) _).alloc (by simp) _)⟩
/-! ### plain -/
def I64 (x : Int) : Prop := -9223372036854775808 ≤ x ∧ x ≤ 9223372036854775807
def absw (l : Int) : Int := if l < wrap64 (-l) then wrap64 (-l) else l
theorem absw_eq {l : Int} (h : -9223372036854775807 ≤ l) (h' : l ≤ 9223372036854775807) : absw l = l.natAbs := by
 have : wrap64 (-l) = -l := IntWalk.wrap64_in _ ⟨by omega, by omega⟩
 unfold absw
 rw [this]
 split <;> omega
theorem absw_min : absw (-9223372036854775808) = -9223372036854775808 := by decide +kernel
theorem Tr.idx_some {T : Tr} {v : Int} {i : Nat} (h : T.idx v = some i) : ∃ e, T.L[i]? = some e ∧ (e.v : Int) = v := by
 obtain ⟨h1, h2, _⟩ := List.findIdx?_eq_some_iff_getElem.1 h
 exact ⟨T.L[i], by simp [h1], by simpa using h2⟩
theorem Tr.idx_none {T : Tr} {v : Int} (h : T.idx v = none) : ∀ e ∈ T.L, (e.v : Int) ≠ v := by
 have := List.findIdx?_eq_none_iff.1 h
 intro e he
 simpa using this e he
theorem Tr.WF.uniq {T : Tr} (h : T.WF) {i j : Nat} {e f : Ent} (hi : T.L[i]? = some e) (hj : T.L[j]? = some f) (hv : e.v = f.v) : i = j := by
 have hn := h.nodup
 have h1 : (T.L.map Ent.v)[i]? = some e.v := by simp [hi]
 have h2 : (T.L.map Ent.v)[j]? = some e.v := by simp [hj, hv]
 have l1 : i < (T.L.map Ent.v).length := (List.getElem?_eq_some_iff.1 h1).1
 exact (List.getElem?_inj l1 hn).1 (h1.trans h2.symm)
theorem Tr.WF.idx {T : Tr} (h : T.WF) {i : Nat} {e : Ent} (hi : T.L[i]? = some e) : T.idx e.v = some i := by
 cases hx : T.idx e.v with
 | none => exact absurd rfl (Tr.idx_none hx e (List.mem_of_getElem? hi))
 | some j =>
  obtain ⟨f, hf, hv⟩ := Tr.idx_some hx
  rw [h.uniq hf hi (by omega)]
theorem Tr.mem_lits {T : Tr} {l : Int} : l ∈ T.lits ↔ ∃ (i : Nat) (e : Ent), T.L[i]? = some e ∧ e.lit = l := by
 unfold Tr.lits
 rw [List.mem_map]
 constructor
 ·rintro ⟨e, he, rfl⟩
  obtain ⟨i, hi, rfl⟩ := List.mem_iff_getElem.1 he
  exact ⟨i, _, by simp [hi], rfl⟩
 ·rintro ⟨i, e, hi, rfl⟩
  exact ⟨e, List.mem_of_getElem? hi, rfl⟩
theorem Tr.value_none {T : Tr} (hw : T.WF) {l : Int} (h : I64 l) (hx : T.idx (absw l) = none) : T.value l = 0 := by
 have hno := Tr.idx_none hx
 obtain ⟨h1, h2⟩ := h
 have key : ∀ e ∈ T.L, e.lit ≠ l ∧ e.lit ≠ -l := by
  intro e he
  have h3 := hno e he
  obtain ⟨h4, h5⟩ := hw.lit e he
  have h6 := hw.vars
  unfold Ent.v at *
  by_cases hm : l = -9223372036854775808
  ·subst hm; omega
  ·rw [absw_eq (by omega) (by omega)] at h3; omega
 have a1 : l ∉ T.lits := fun hm => by obtain ⟨i, e, hi, he⟩ := Tr.mem_lits.1 hm; exact (key e (List.mem_of_getElem? hi)).1 he
 have a2 : -l ∉ T.lits := fun hm => by obtain ⟨i, e, hi, he⟩ := Tr.mem_lits.1 hm; exact (key e (List.mem_of_getElem? hi)).2 he
 simp [Tr.value, a1, a2]
theorem Tr.value_some {T : Tr} (hw : T.WF) {l : Int} (h : I64 l) {i : Nat} {e : Ent} (hx : T.idx (absw l) = some i) (he : T.L[i]? = some e) :
  T.value l = if e.lit = l then 1 else -1 := by
 obtain ⟨h1, h2⟩ := h
 obtain ⟨f, hf, hv⟩ := Tr.idx_some hx
 have hfe : f = e := by rw [hf] at he; exact Option.some.inj he
 subst hfe
 obtain ⟨h4, h5⟩ := hw.lit f (List.mem_of_getElem? hf)
 have h6 := hw.vars
 have hab : f.v = l.natAbs := by
  by_cases hm : l = -9223372036854775808
  ·subst hm; rw [absw_min] at hv; unfold Ent.v at *; omega
  ·rw [absw_eq (by omega) (by omega)] at hv; omega
 by_cases hl : f.lit = l
 ·have : l ∈ T.lits := Tr.mem_lits.2 ⟨i, f, hf, hl⟩
  simp [Tr.value, this, hl]
 ·have hn : f.lit = -l := by unfold Ent.v at hab; omega
  have a1 : l ∉ T.lits := fun hm => by
   obtain ⟨j, g, hj, hg⟩ := Tr.mem_lits.1 hm
   have := hw.uniq hf hj (by unfold Ent.v at *; omega)
   subst this
   rw [hf] at hj
   exact hl (by rw [Option.some.inj hj]; exact hg)
  have a2 : -l ∈ T.lits := Tr.mem_lits.2 ⟨i, f, hf, hn⟩
  simp [Tr.value, a1, a2, hl]
/-! ### the walks, said of the plain trail -/
theorem find_yes {w : World} {F : Nat → Prop} {b : Nat} {T : Tr} (h : Trail w F b T) {v : Int} {i : Nat} {e : Ent} (hi : T.idx v = some i) (he : T.L[i]? = some e) :
  Calls Tryz.prog 108 #[.pointer (some ⟨b, 0, none⟩), .int .i64 v] w fun r w' =>
   (∃ A n c, r = .returned (.tuple #[.agg #[.int .i64 e.lit, .int .i64 e.level, .int .i64 i, .slice A n c], .bool true]) ∧ Rd w' F 1 (.slice A n c) e.reason.length (ints e.reason)) ∧ Below w.heap.size w w' := by
 obtain ⟨_, m, es, clock, vl, vs, h⟩ := h
 obtain ⟨x, A, n, c, h1, h2, h3, h4⟩ := h.ents i e he
 refine (find_walk (m := m) (o := .map es clock) (l1 := e.lit) (l2 := e.level) (l3 := i) (A := A) (n := n) (c := c) (ok := true) (by rw [cell_of_row w b 1 _ _ _ h.blk]; rfl) h.map (fun w' hw' => ?_)).mono ?_
 ·have hl := lookup_i64 (P := Tryz.prog) Tryz.underlying119 Tryz.underlying3 v (zero_entry w') hw' h.keyed true
  rw [hl, h.found v, hi]
  simp [h1, h3]
 ·rintro r w' ⟨rfl, hb⟩
  exact ⟨⟨A, n, c, rfl, (h4.below hb).mono fun g _ hg => hg.1⟩, hb⟩
theorem find_no {w : World} {F : Nat → Prop} {b : Nat} {T : Tr} (h : Trail w F b T) {v : Int} (hi : T.idx v = none) :
  Calls Tryz.prog 108 #[.pointer (some ⟨b, 0, none⟩), .int .i64 v] w fun r w' =>
   r = .returned (.tuple #[.agg #[.int .i64 0, .int .i64 0, .int .i64 0, .slice none 0 0], .bool false]) ∧ Below w.heap.size w w' := by
 obtain ⟨_, m, es, clock, vl, vs, h⟩ := h
 refine find_walk (m := m) (o := .map es clock) (l1 := 0) (l2 := 0) (l3 := 0) (A := none) (n := 0) (c := 0) (ok := false) (by rw [cell_of_row w b 1 _ _ _ h.blk]; rfl) h.map (fun w' hw' => ?_)
 have hl := lookup_i64 (P := Tryz.prog) Tryz.underlying119 Tryz.underlying3 v (zero_entry w') hw' h.keyed true
 rw [hl, h.found v, hi]
 simp
theorem value_yes {w : World} {F : Nat → Prop} {b : Nat} {T : Tr} (ht : Trail w F b T) {l : Int} {i : Nat} {e : Ent} (h1 : l < wrap64 (-l) → T.idx (wrap64 (-l)) = some i) (h2 : wrap64 (-l) ≤ l → T.idx l = some i) (he : T.L[i]? = some e)
  {q : Bool} (hq : (e.lit == l) = q) :
  Calls Tryz.prog 90 #[.pointer (some ⟨b, 0, none⟩), .int .i64 l] w fun r w' => r = .returned (.int .i64 (if q then 1 else -1)) ∧ Below w.heap.size w w' := by
 cases q
 all_goals
  go_enter Tryz.func90, Tryz.ntmps90
  go_wp2_with (go_at_call 108; refine (find_yes ht (i := i) (by first | exact h1 (by assumption) | exact h2 (by assumption)) he).mono ?_; rintro r w1 ⟨⟨A, n, c, rfl, hr⟩, hb⟩)
  all_goals (go_ret; exact ⟨rfl, hb.alloc hb.size _⟩)
theorem value_no {w : World} {F : Nat → Prop} {b : Nat} {T : Tr} (ht : Trail w F b T) {l : Int} (h1 : l < wrap64 (-l) → T.idx (wrap64 (-l)) = none) (h2 : wrap64 (-l) ≤ l → T.idx l = none) :
  Calls Tryz.prog 90 #[.pointer (some ⟨b, 0, none⟩), .int .i64 l] w fun r w' => r = .returned (.int .i64 0) ∧ Below w.heap.size w w' := by
 go_enter Tryz.func90, Tryz.ntmps90
 go_wp2_with (go_at_call 108; refine (find_no ht (by first | exact h1 (by assumption) | exact h2 (by assumption))).mono ?_; rintro r w1 ⟨rfl, hb⟩)
 all_goals (go_ret; exact ⟨rfl, hb.alloc hb.size _⟩)
theorem value_any {w : World} {F : Nat → Prop} {b : Nat} {T : Tr} (ht : Trail w F b T) {l : Int} (hl : I64 l) :
  Calls Tryz.prog 90 #[.pointer (some ⟨b, 0, none⟩), .int .i64 l] w fun r w' => r = .returned (.int .i64 (T.value l)) ∧ Below w.heap.size w w' := by
 have e1 : l < wrap64 (-l) → absw l = wrap64 (-l) := fun h => by simp [absw, h]
 have e2 : wrap64 (-l) ≤ l → absw l = l := fun h => by simp [absw, show ¬ l < wrap64 (-l) by omega]
 cases hx : T.idx (absw l) with
 | none =>
  rw [Tr.value_none ht.wf hl hx]
  exact value_no ht (fun h => by rw [← e1 h]; exact hx) (fun h => by rw [← e2 h]; exact hx)
 | some i =>
  obtain ⟨e, he, _⟩ := Tr.idx_some hx
  rw [Tr.value_some ht.wf hl hx he]
  have := value_yes ht (i := i) (q := decide (e.lit = l)) (fun h => by rw [← e1 h]; exact hx) (fun h => by rw [← e2 h]; exact hx) he (by by_cases h : e.lit = l <;> simp [h])
  simpa using this
def Tr.levelOf (T : Tr) (v : Int) : Int := match (T.idx v).bind (T.L[·]?) with | some e => e.level | none => -1
def Tr.indexOf (T : Tr) (v : Int) : Int := match T.idx v with | some i => i | none => -1
def Tr.reasonOf (T : Tr) (v : Int) : List Int := match (T.idx v).bind (T.L[·]?) with | some e => e.reason | none => []
theorem level_any {w : World} {F : Nat → Prop} {b : Nat} {T : Tr} (ht : Trail w F b T) {v : Int} :
  Calls Tryz.prog 113 #[.pointer (some ⟨b, 0, none⟩), .int .i64 v] w fun r w' => r = .returned (.int .i64 (T.levelOf v)) ∧ Below w.heap.size w w' := by
 cases hx : T.idx v with
 | none =>
  have hv : T.levelOf v = -1 := by simp [Tr.levelOf, hx]
  rw [hv]
  clear hv
  go_enter Tryz.func113, Tryz.ntmps113
  go_wp2_with (go_at_call 108; refine (find_no ht hx).mono ?_; rintro r w1 ⟨rfl, hb⟩)
  all_goals (go_ret; exact ⟨rfl, hb.alloc hb.size _⟩)
 | some i =>
  obtain ⟨e, he, _⟩ := Tr.idx_some hx
  have hv : T.levelOf v = e.level := by simp [Tr.levelOf, hx, he]
  rw [hv]
  clear hv
  go_enter Tryz.func113, Tryz.ntmps113
  go_wp2_with (go_at_call 108; refine (find_yes ht hx he).mono ?_; rintro r w1 ⟨⟨A, n, c, rfl, hr⟩, hb⟩)
  all_goals (go_ret; exact ⟨rfl, hb.alloc hb.size _⟩)
theorem none_any {w : World} {F : Nat → Prop} {b : Nat} {T : Tr} (ht : Trail w F b T) :
  Calls Tryz.prog 73 #[.pointer (some ⟨b, 0, none⟩)] w fun e w' => e = .returned (.bool false) ∧ w = w' := by
 obtain ⟨_, m, es, clock, vl, vs, h⟩ := ht
 exact none_no (m := m) (by rw [cell_of_row w b 1 _ _ _ h.blk]; rfl)
theorem Trail.cells {w : World} {F : Nat → Prop} {b : Nat} {T : Tr} (ht : Trail w F b T) :
  ∃ m Al cl As cs, w.cell? ⟨b, 0, none⟩ = some (.int .i64 T.vars) ∧ w.cell? ⟨b, 1, none⟩ = some (.map (some m)) ∧ w.cell? ⟨b, 2, none⟩ = some (.slice Al T.L.length cl) ∧ w.cell? ⟨b, 3, none⟩ = some (.slice As T.starts.length cs) ∧
   Own w F 3 1 (.slice Al T.L.length cl) T.L.length (ints T.lits) ∧ Own w F 3 1 (.slice As T.starts.length cs) T.starts.length (ints (T.starts.map Int.ofNat)) := by
 obtain ⟨_, m, es, clock, vl, vs, h⟩ := ht
 obtain ⟨Al, cl, rfl, _⟩ := h.lits.form
 obtain ⟨As, cs, rfl, _⟩ := h.starts.form
 exact ⟨m, Al, cl, As, cs, by rw [cell_of_row w b 0 _ _ _ h.blk]; rfl, by rw [cell_of_row w b 1 _ _ _ h.blk]; rfl, by rw [cell_of_row w b 2 _ _ _ h.blk]; rfl, by rw [cell_of_row w b 3 _ _ _ h.blk]; rfl, h.lits, h.starts⟩
theorem depth_any {w : World} {F : Nat → Prop} {b : Nat} {T : Tr} (ht : Trail w F b T) :
  Calls Tryz.prog 178 #[.pointer (some ⟨b, 0, none⟩)] w fun r w' => r = .returned (.int .i64 T.depth) ∧ w = w' := by
 obtain ⟨m, Al, cl, As, cs, c0, c1, c2, c3, _, _⟩ := ht.cells
 unfold Tr.depth
 go_enter Tryz.func178, Tryz.ntmps178
 go_wp2_with (go_at_call 73; refine (none_any ht).mono ?_; rintro r w1 ⟨rfl, rfl⟩)
 go_ret
 exact ⟨rfl, rfl⟩
def Tr.freeB (T : Tr) (l : Int) : Bool := l ≠ 0 && -T.vars ≤ l && l ≤ T.vars && T.value l = 0
theorem Tr.free_iff {T : Tr} {l : Int} : T.freeB l = true ↔ T.free l := by
 unfold Tr.freeB Tr.free
 simp
 omega
theorem free_any {w : World} {F : Nat → Prop} {b : Nat} {T : Tr} (ht : Trail w F b T) {l : Int} (hl : I64 l) :
  Calls Tryz.prog 109 #[.pointer (some ⟨b, 0, none⟩), .int .i64 l] w fun r w' => r = .returned (.bool (T.freeB l)) ∧ Below w.heap.size w w' := by
 obtain ⟨m, Al, cl, As, cs, c0, c1, c2, c3, _, _⟩ := ht.cells
 have hvv := ht.wf.vars
 by_cases h0 : l = 0
 ·have hv : T.freeB l = false := by simp [Tr.freeB, h0]
  rw [hv]; clear hv
  subst h0
  go_enter Tryz.func109, Tryz.ntmps109
  go_wp2_with (go_at_call 90; refine (value_any ht hl).mono ?_; rintro r w1 ⟨rfl, hb⟩)
  go_ret
  exact ⟨rfl, Below.refl _ _⟩
 ·have g0 : (l != 0) = true := by simpa using h0
  by_cases h1 : -(T.vars : Int) ≤ l
  ·by_cases h2 : l ≤ T.vars
   ·have hv : T.freeB l = (T.value l == 0) := by simp [Tr.freeB, h0, h1, h2]; rfl
    rw [hv]; clear hv
    go_enter Tryz.func109, Tryz.ntmps109
    go_wp2_with (go_at_call 90; refine (value_any ht hl).mono ?_; rintro r w1 ⟨rfl, hb⟩)
    go_ret
    exact ⟨rfl, hb⟩
   ·have hv : T.freeB l = false := by simp [Tr.freeB, h2]
    rw [hv]; clear hv
    have g2 : decide (l ≤ T.vars) = false := by simpa using h2
    go_enter Tryz.func109, Tryz.ntmps109
    go_wp2_with (go_at_call 90; refine (value_any ht hl).mono ?_; rintro r w1 ⟨rfl, hb⟩)
    go_ret
    exact ⟨rfl, Below.refl _ _⟩
  ·have hv : T.freeB l = false := by simp [Tr.freeB, h1]
   rw [hv]; clear hv
   have g1 : decide (-(T.vars : Int) ≤ l) = false := by simpa using h1
   go_enter Tryz.func109, Tryz.ntmps109
   go_wp2_with (go_at_call 90; refine (value_any ht hl).mono ?_; rintro r w1 ⟨rfl, hb⟩)
   go_ret
   exact ⟨rfl, Below.refl _ _⟩
end
section
open Go.RowKit
theorem info_int : (Tryz.prog.info? 3).map (fun i => (i.zero, i.size, i.bytes)) = some (some (.int .i64 0), 1, 8) := by kernel_rfl
theorem eql_ints_nil (w : World) (a : Option Addr) (n c : Nat) : (binOp .eql 23 (.slice a n c) (.slice none 0 0)).run Tryz.prog w = .ok (.bool a.isNone) w := Lib.run_eql_slice_nil w _ _ a n c 0 0 Tryz.underlying23
attribute [go_sem] eql_ints_nil
theorem wp_append_ints {o : Oper} {a : Act} {w : World} {K : Act → World → Prop} {Q : Exit → Act → World → Prop} (s x : Operand)
  (ho : o.op = .call { callee := .builtin .append, args := #[s, x], argTypes := #[23, 23] }) {F G : Nat → Prop} {v u : Value} {n m : Nat} {xs ys : List Value}
  (hv : Own w F 3 1 v n xs) (hu : Rd w G 1 u m ys) (hs : a.eval s = v) (hx : a.eval x = u) (h1 : ∀ u ∈ ys, u.oneCell' = true) (hb : n + m ≤ 17592186044416)
  (hK : ∀ A c w', Own w' (fun b => F b ∨ w.heap.size ≤ b) 3 1 (.slice A (n + m) c) (n + m) (xs ++ ys) → Mod (row v) w w' → (∀ b, row (.slice A (n + m) c) b → row v b ∨ w.heap.size ≤ b) → K (a.put o.dst (.slice A (n + m) c)) w') : o.wp Tryz.prog a w K Q := by
 obtain ⟨i0, hi, hz0, hz1, hz2⟩ := info_parts info_int
 obtain ⟨v', w', hr, h2, h3, h4⟩ := run_append_rd (P := Tryz.prog) 23 o.type i0 (.int .i64 0) 8 Tryz.underlying23 hi hz0 hz1 hz2 rfl (by decide) hv hu h1 (by unfold maxLen; omega) (by omega)
 unfold Oper.wp execOp
 simp only [ho, resolve, invoke, builtin, Sem.run_bind, Sem.run_pure, Result.andThen_ok, List.map_toArray, List.map_cons, List.map_nil, hs, hx, hr]
 obtain ⟨A, c, rfl, _⟩ := h2.form
 exact hK A c w' h2 h3 h4
theorem wpList_append_ints {ops : Array Oper} {rest : List Oper} {o : Oper} {a : Act} {w : World} {Q : Exit → Act → World → Prop} (hgd : o.guard = none) (s x : Operand)
  (ho : o.op = .call { callee := .builtin .append, args := #[s, x], argTypes := #[23, 23] }) {F G : Nat → Prop} {v u : Value} {n m : Nat} {xs ys : List Value}
  (hv : Own w F 3 1 v n xs) (hu : Rd w G 1 u m ys) (hs : a.eval s = v) (hx : a.eval x = u) (h1 : ∀ u ∈ ys, u.oneCell' = true) (hb : n + m ≤ 17592186044416)
  (hK : ∀ A c w', Own w' (fun b => F b ∨ w.heap.size ≤ b) 3 1 (.slice A (n + m) c) (n + m) (xs ++ ys) → Mod (row v) w w' → (∀ b, row (.slice A (n + m) c) b → row v b ∨ w.heap.size ≤ b) → wpList Tryz.prog ops Q rest (a.put o.dst (.slice A (n + m) c)) w') :
  wpList Tryz.prog ops Q (o :: rest) a w :=
 wpList_plain hgd fun _ hK' => wp_append_ints s x ho hv hu hs hx h1 hb fun A c w' h2 h3 h4 => hK' _ _ (hK A c w' h2 h3 h4)
theorem step_append_ints {ops : Array Oper} {o : Oper} {a : Act} {w : World} {K : Act → World → Prop} {Q : Exit → Act → World → Prop} {E : Prop} (hgd : o.guard = none) (s x : Operand)
  (ho : o.op = .call { callee := .builtin .append, args := #[s, x], argTypes := #[23, 23] }) {F G : Nat → Prop} {v u : Value} {n m : Nat} {xs ys : List Value}
  (hv : Own w F 3 1 v n xs) (hu : Rd w G 1 u m ys) (hs : a.eval s = v) (hx : a.eval x = u) (h1 : ∀ u ∈ ys, u.oneCell' = true) (hb : n + m ≤ 17592186044416)
  (hK : ∀ A c w', Own w' (fun b => F b ∨ w.heap.size ≤ b) 3 1 (.slice A (n + m) c) (n + m) (xs ++ ys) → Mod (row v) w w' → (∀ b, row (.slice A (n + m) c) b → row v b ∨ w.heap.size ≤ b) → K (a.put o.dst (.slice A (n + m) c)) w') :
  if Region.wanted o (yielded ops a.tmps) = true then Oper.wp Tryz.prog o a w K Q else E := by
 have hw : Region.wanted o (yielded ops a.tmps) = true := by simp [Region.wanted, hgd]
 rw [if_pos hw]
 exact wp_append_ints s x ho hv hu hs hx h1 hb hK
theorem clone_any {w : World} {F : Nat → Prop} {v : Value} {n : Nat} {xs : List Int} (hv : Rd w F 1 v n (ints xs)) (hn : n ≤ 17592186044416) :
  Calls Tryz.prog 76 #[v] w fun r w' => (∃ u, r = .returned u ∧ Own w' (fun b => w.heap.size ≤ b) 3 1 u n (ints xs)) ∧ Below w.heap.size w w' := by
 have hv0 := hv
 obtain ⟨hl, A, c, rfl, hc, hm, hA⟩ := hv
 cases A with
 | none =>
  have hn0 : n = 0 := by
   rcases Nat.eq_zero_or_pos n with h | h
   ·exact h
   ·obtain ⟨_, _, h, _⟩ := hA h; cases h
  subst hn0
  have hx : ints xs = [] := List.eq_nil_of_length_eq_zero (by simpa using hl)
  rw [hx]
  clear hA hl hx hv0
  go_enter Tryz.func76, Tryz.ntmps76
  go_wp2
  go_ret
  exact ⟨⟨_, rfl, Own.nil _ _ _ _⟩, Below.refl _ _⟩
 | some a =>
  clear hA
  have Hv := hid hv0
  have Hl := hid hl
  clear hv0 hl
  go_enter Tryz.func76, Tryz.ntmps76
  go_wp2_with (at_builtin; refine wpList_append_ints rfl _ _ rfl (Own.none_ _ (fun _ => False) _ _ _) (Hv.o.below ((Below.refl _ _).alloc (Nat.le_refl _) _)) rfl rfl (ints_one xs) (by omega) ?_; intro A1 c1 w1 ho1 hm1 hr1)
  go_ret
  rw [row_none] at hm1
  simp only [Nat.zero_add, List.nil_append] at ho1
  exact ⟨⟨_, rfl, ho1.mono fun g _ _ h => by
   rcases h with h | h
   ·exact h.elim
   ·simp at h; omega⟩, ((Below.refl _ _).alloc (Nat.le_refl _) _).trans (hm1.below.mono (by simp))⟩
theorem Rd.cell {w : World} {F : Nat → Prop} {A : Option Addr} {n c : Nat} {xs : List Int} (h : Rd w F 1 (.slice A n c) n (ints xs)) : xs.length = n ∧
  ∀ k, k < n → ∃ g o, A = some ⟨g, o, none⟩ ∧ F g ∧ g < w.heap.size ∧ w.cell? ⟨g, o + k, none⟩ = some (.int .i64 (nth xs k)) := by
 obtain ⟨hl, A', c', hv, hc, hm, hA⟩ := h
 injection hv with h1 _ _
 subst h1
 have hln : xs.length = n := by simpa [ints_length] using hl
 refine ⟨hln, fun k hk => ?_⟩
 obtain ⟨g, o, h1, h2, h3, h4⟩ := hA (by omega)
 exact ⟨g, o, h1, h2, h3, h4 k _ (ints_nth (by omega))⟩
theorem index_slice {w : World} {F : Nat → Prop} {v : Value} {n : Nat} {xs : List Int} {x : Int} (hv : Rd w F 1 v n (ints xs)) :
  Calls Tryz.prog 138 #[v, .int .i64 x] w fun r w' => r = .returned (.int .i64 (posB (x == ·) xs)) ∧ w = w' := by
 have hv0 := hv
 obtain ⟨hl, A, c, rfl, hc, hm, hA⟩ := hv
 obtain ⟨rfl, hcell⟩ := hv0.cell
 have hn : xs.length ≤ 9223372036854775807 := by unfold maxLen at hm; omega
 clear hl hm hA hv0
 go_enter Tryz.func138, Tryz.ntmps138
 go_wp2
 go_loop [8, 5] (fun i _ => ∃ k : Nat, k ≤ xs.length ∧ i = .int .i64 k ∧ ∀ y ∈ xs.take k, (x == y) = false) (fun i _ => xs.length - (intOf i).toNat)
 case atStart => exact ⟨0, Nat.zero_le _, rfl, by simp⟩
 case round =>
  obtain ⟨k, hk, rfl, hno⟩ := hrel
  have Hno := hid hno
  clear hno
  by_cases hlt : k < xs.length
  ·obtain ⟨g, o, rfl, _, _, hcl⟩ := hcell k hlt
   clear hcell
   cases hq : (x == nth xs k)
   ·go_wp2
    go_round
    case rel => exact ⟨k + 1, by omega, by go_num, fun y hy => by
     rw [take_nth hlt] at hy
     rcases List.mem_append.1 hy with hy | hy
     ·exact Hno.o y hy
     ·rw [List.mem_singleton.1 hy]; exact hq⟩
    case measure => simp [intOf]; omega
   ·go_wp2
    go_ret
    rw [posB_at hlt Hno.o hq]
    exact ⟨rfl, rfl⟩
  ·clear hcell
   have hall : xs.take k = xs := List.take_of_length_le (by omega)
   have H := Hno.o
   rw [hall] at H
   have Hn := hid (posB_none H)
   clear H hall
   go_wp2
   go_ret
   rw [Hn.o]
   exact ⟨rfl, rfl⟩
theorem contains_any {w : World} {F : Nat → Prop} {v : Value} {n : Nat} {xs : List Int} {x : Int} (hv : Rd w F 1 v n (ints xs)) :
  Calls Tryz.prog 110 #[v, .int .i64 x] w fun r w' => r = .returned (.bool (xs.any (x == ·))) ∧ w = w' := by
 have He : Hid (decide (0 ≤ posB (x == ·) xs) = xs.any (x == ·)) := hid posB_ge
 have Hv := hid hv
 clear hv
 go_enter Tryz.func110, Tryz.ntmps110
 go_wp2_with (go_at_call 138; refine (index_slice Hv.o).mono ?_; rintro r w1 ⟨rfl, rfl⟩)
 go_ret
 rw [← He.o]
 exact ⟨rfl, rfl⟩
end
section
open Go.RowKit
theorem indexfunc_slice {w : World} {F : Nat → Prop} {v : Value} {n : Nat} {xs : List Int} {f : FuncId} {first captured : Array Value} {p : Int → Bool} (hv : Rd w F 1 v n (ints xs))
  (hcf : ∀ args W, (callFunc f args).run Tryz.prog W = .ok (.enter f args) W)
  (hf : ∀ W x, Below w.heap.size w W → x ∈ xs → Calls Tryz.prog f (first ++ #[.int .i64 x] ++ captured) W fun r W' => r = .returned (.bool (p x)) ∧ Below W.heap.size W W') :
  Calls Tryz.prog 66 #[v, .func (.func f) first captured] w fun r w' => r = .returned (.int .i64 (posB p xs)) ∧ Below w.heap.size w w' := by
 have Hf := hid hf
 clear hf
 have hv0 := hv
 obtain ⟨hl, A, c, rfl, hc, hm, hA⟩ := hv
 obtain ⟨rfl, hcell⟩ := hv0.cell
 have hn : xs.length ≤ 9223372036854775807 := by unfold maxLen at hm; omega
 clear hl hm hA hv0
 go_enter Tryz.func66, Tryz.ntmps66
 go_wp2
 go_loopw [8, 5] (fun i _ W => ∃ k : Nat, k ≤ xs.length ∧ i = .int .i64 k ∧ (∀ y ∈ xs.take k, p y = false) ∧ Below w.heap.size w W) (fun i _ _ => xs.length - (intOf i).toNat)
 case atStart => exact ⟨0, Nat.zero_le _, rfl, by simp, Below.refl _ _⟩
 case round =>
  obtain ⟨k, hk, rfl, hno, hb⟩ := hrel
  have Hno := hid hno
  clear hno
  by_cases hlt : k < xs.length
  ·obtain ⟨g, o, rfl, _, hg, hcl0⟩ := hcell k hlt
   have hcl := (hb.cell (p := ⟨g, o + k, none⟩) hg).trans hcl0
   clear hcell hcl0
   cases hq : p (nth xs k)
   ·have hq' := hid hq
    clear hq
    go_wp2_with fail
    refine (by simpa using Hf.o wr (nth xs k) hb (nth_mem hlt) : Calls Tryz.prog f (first.push (.int .i64 (nth xs k)) ++ captured) wr _).mono ?_
    rintro r w1 ⟨rfl, hb1⟩
    rw [hq'.o]
    go_wp2
    go_roundw
    case rel => exact ⟨k + 1, by omega, by go_num, fun y hy => by
     rw [take_nth hlt] at hy
     rcases List.mem_append.1 hy with hy | hy
     ·exact Hno.o y hy
     ·rw [List.mem_singleton.1 hy]; exact hq'.o, hb.trans (hb1.mono hb.size)⟩
    case measure => simp [intOf]; omega
   ·have hq' := hid hq
    clear hq
    go_wp2_with fail
    refine (by simpa using Hf.o wr (nth xs k) hb (nth_mem hlt) : Calls Tryz.prog f (first.push (.int .i64 (nth xs k)) ++ captured) wr _).mono ?_
    rintro r w1 ⟨rfl, hb1⟩
    rw [hq'.o]
    go_wp2
    go_ret
    rw [posB_at hlt Hno.o hq'.o]
    exact ⟨rfl, hb.trans (hb1.mono hb.size)⟩
  ·clear hcell
   have hall : xs.take k = xs := List.take_of_length_le (by omega)
   have H := Hno.o
   rw [hall] at H
   have Hn := hid (posB_none H)
   clear H hall
   go_wp2
   go_ret
   rw [Hn.o]
   exact ⟨rfl, hb⟩
theorem containsfunc_any {w : World} {F : Nat → Prop} {v : Value} {n : Nat} {xs : List Int} {f : FuncId} {first captured : Array Value} {p : Int → Bool} (hv : Rd w F 1 v n (ints xs))
  (hcf : ∀ args W, (callFunc f args).run Tryz.prog W = .ok (.enter f args) W)
  (hf : ∀ W x, Below w.heap.size w W → x ∈ xs → Calls Tryz.prog f (first ++ #[.int .i64 x] ++ captured) W fun r W' => r = .returned (.bool (p x)) ∧ Below W.heap.size W W') :
  Calls Tryz.prog 34 #[v, .func (.func f) first captured] w fun r w' => r = .returned (.bool (xs.any p)) ∧ Below w.heap.size w w' := by
 have He : Hid (decide (0 ≤ posB p xs) = xs.any p) := hid posB_ge
 have Hv := hid hv
 have Hf := hid hf
 have Hcf := hid hcf
 clear hv hf hcf
 go_enter Tryz.func34, Tryz.ntmps34
 go_wp2_with (go_at_call 66; refine (indexfunc_slice Hv.o Hcf.o Hf.o).mono ?_; rintro r w1 ⟨rfl, hb⟩)
 go_ret
 rw [← He.o]
 exact ⟨rfl, hb⟩
theorem reversed {xs ys : List Int} {k : Nat} (hl : ys.length = xs.length) (hy : ∀ i, i < xs.length → nth ys i = if i < k ∨ xs.length - k ≤ i then nth xs (xs.length - 1 - i) else nth xs i) (hk : xs.length ≤ 2 * k + 1) : ys = xs.reverse := by
 apply List.ext_getElem (by simpa using hl)
 intro i h1 h2
 have hi : i < xs.length := by omega
 have h3 := hy i hi
 rw [nth_eq h1] at h3
 rw [h3, List.getElem_reverse]
 split
 ·rw [nth_eq (by omega)]
 ·rw [nth_eq hi]
  congr 1
  omega
theorem reverse_any {w : World} {F : Nat → Prop} {v : Value} {n : Nat} {xs : List Int} (hv : Own w F 3 1 v n (ints xs)) :
  Calls Tryz.prog 101 #[v] w fun r w' => r = .returned (.tuple #[]) ∧ Own w' F 3 1 v n (ints xs.reverse) ∧ Mod (row v) w w' := by
 obtain ⟨A, c, rfl, hc, hm, hA⟩ := hv.form
 have hln : xs.length = n := by have := hv.1; simpa [ints_length] using this
 subst hln
 have hn : xs.length ≤ 9223372036854775807 := by unfold maxLen at hm; omega
 have Hv := hid hv
 clear hv hA hm
 go_enter Tryz.func101, Tryz.ntmps101
 go_wp2
 go_loopw [2, 3] (fun i j W => ∃ (k : Nat) (ys : List Int), k ≤ xs.length ∧ i = .int .i64 k ∧ j = .int .i64 (xs.length - 1 - k) ∧ ys.length = xs.length ∧
  (∀ i, i < xs.length → nth ys i = if i < k ∨ xs.length - k ≤ i then nth xs (xs.length - 1 - i) else nth xs i) ∧ 2 * k ≤ xs.length + 1 ∧
  Own W F 3 1 (.slice A xs.length c) xs.length (ints ys) ∧ Mod (row (.slice A xs.length c)) w W) (fun i _ _ => xs.length - (intOf i).toNat)
 case atStart => exact ⟨0, xs, by omega, rfl, by go_num, rfl, fun i hi => by rw [if_neg (by omega)], by omega, Hv.o, Mod.refl _ _⟩
 case round =>
  obtain ⟨k, ys, hk, rfl, rfl, hl, hy, h2k, ho, hmod⟩ := hrel
  have Hy := hid hy
  have Hl := hid hl
  have Ho := hid ho
  clear hy hl ho
  by_cases hlt : (k : Int) < (xs.length : Int) - 1 - k
  ·obtain ⟨j, hj⟩ : ∃ j : Nat, (xs.length : Int) - 1 - k = j := ⟨((xs.length : Int) - 1 - k).toNat, by omega⟩
   have hjn : xs.length - 1 - k = j := by omega
   rw [hj] at hlt ⊢
   have hlj : j < xs.length := by omega
   have hkj : k < j := by omega
   have hkl : k < xs.length := by omega
   have Hj := hid hj
   have Hjn := hid hjn
   clear hj hjn hlt
   obtain ⟨g, rfl, hFg, hg, c1, f1⟩ := Ho.o.cell (j := k) (by omega)
   obtain ⟨g', hA', _, _, c2, f2⟩ := Ho.o.cell (j := j) (by omega)
   injection hA' with hA'
   injection hA' with hA' _ _
   subst hA'
   rw [ints_nth (by rw [Hl.o]; omega)] at c1
   rw [ints_nth (by rw [Hl.o]; omega)] at c2
   go_wp2
   go_region
   go_wp2
   go_roundw
   case rel =>
    have hs1 := (Ho.o.stored (j := k) (.int .i64 (nth ys j))).stored (j := j) (.int .i64 (nth ys k))
    rw [← ints_set, ← ints_set] at hs1
    have e1 := Hj.o
    have e2 := Hjn.o
    refine ⟨k + 1, (ys.set k (nth ys j)).set j (nth ys k), by omega, by go_num, by rw [show (j : Int) - 1 = (xs.length : Int) - 1 - ((k + 1 : Nat) : Int) from by omega], by simp [Hl.o], fun i hi => ?_, by omega, hs1,
     ((hmod.setCell (p := ⟨g, k, none⟩) (.inl ⟨by omega, rfl⟩) _).setCell (p := ⟨g, j, none⟩) (.inl ⟨by omega, rfl⟩) _).drew⟩
    have hl := Hl.o
    rw [nth_set _ _ _ _ (by simp; omega), nth_set _ _ _ _ (by omega), Hy.o k (by omega), Hy.o j hlj, Hy.o i hi]
    by_cases a1 : j = i
    ·subst a1; rw [if_pos rfl, if_neg (by omega), if_pos (by omega)]; congr 1; omega
    ·rw [if_neg a1]
     by_cases a2 : k = i
     ·subst a2; rw [if_pos rfl, if_neg (by omega), if_pos (by omega)]; congr 1; omega
     ·rw [if_neg a2]
      by_cases a3 : i < k ∨ xs.length - k ≤ i
      ·rw [if_pos a3, if_pos (by omega)]
      ·rw [if_neg a3, if_neg (by omega)]
   case measure => simp [intOf]; omega
  ·have hge : decide ((k : Int) < (xs.length : Int) - 1 - k) = false := by simpa using hlt
   have hrev := hid (reversed Hl.o Hy.o (by omega))
   clear hlt
   go_wp2
   go_end0
   refine ⟨rfl, ?_, hmod⟩
   rw [← hrev.o]
   exact Ho.o
end
section
open Go.RowKit
open Go.ChangeMaps
theorem Mod.setBlock {F : Nat → Prop} {a w : World} (h : Mod F a w) {m : Nat} {es : Array MapEntry} {clock : Nat} (hm : w.heap[m]? = some (.map es clock)) (hF : F m ∨ a.heap.size ≤ m) (o : Obj) : Mod F a (setBlock w m o) :=
 h.trans ⟨rfl, rfl, rfl, by simp [ChangeMaps.setBlock], fun k _ hk => heap_setBlock_other hm o (fun e => hk (e ▸ hF))⟩
theorem new_ok {w : World} {vars : Nat} (hv : vars ≤ 65536) :
  Calls Tryz.prog 46 #[.int .i64 vars] w fun r w' => (∃ b, r = .returned (.tuple #[.pointer (some ⟨b, 0, none⟩), .int .i64 0]) ∧ Trail w' (fun g => w.heap.size ≤ g) b ⟨vars, [], []⟩) ∧ Below w.heap.size w w' := by
 have hlt : ((vars : Int) < 0) = False := by simp
 have hmm := @run_makeMap Tryz.prog
 go_enter Tryz.func46, Tryz.ntmps46
 go_wp2
 go_ret2
 refine ⟨⟨_, rfl, ⟨hv, by simp, by simp, by simp, by simp, by simp, by simp⟩, w.heap.size, #[], 0, .slice none 0 0, .slice none 0 0, ?_⟩, ((Below.refl _ _).alloc (Nat.le_refl _) _).alloc (by simp) _⟩
 exact { hb := by simp, hm := by simp, blk := heap_alloc2_new w _ _, map := heap_alloc2_old w _ _, size := rfl, ents := by simp, lits := Own.nil _ _ _ _, starts := Own.nil _ _ _ _, apart := by simp [row] }
theorem lits_any {w : World} {F : Nat → Prop} {b : Nat} {T : Tr} (ht : Trail w F b T) :
  Calls Tryz.prog 92 #[.pointer (some ⟨b, 0, none⟩)] w fun r w' => (∃ u, r = .returned u ∧ Own w' (fun g => w.heap.size ≤ g) 3 1 u T.L.length (ints T.lits)) ∧ Below w.heap.size w w' := by
 obtain ⟨m, Al, cl, As, cs, c0, c1, c2, c3, hl, _⟩ := ht.cells
 have h1 := ht.wf.len
 have h2 := ht.wf.vars
 go_enter Tryz.func92, Tryz.ntmps92
 go_wp2_with (first | (go_at_call 73; refine (none_any ht).mono ?_; rintro r w1 ⟨rfl, rfl⟩) | (go_at_call 76; refine (clone_any hl.rd (by omega)).mono ?_; rintro r w1 ⟨⟨u, rfl, ho⟩, hb⟩))
 go_ret
 exact ⟨⟨_, rfl, ho⟩, hb⟩
theorem reason_any {w : World} {F : Nat → Prop} {b : Nat} {T : Tr} (ht : Trail w F b T) {v : Int} (hlen : (T.reasonOf v).length ≤ 17592186044416) :
  Calls Tryz.prog 123 #[.pointer (some ⟨b, 0, none⟩), .int .i64 v] w fun r w' => (∃ u, r = .returned u ∧ Own w' (fun g => w.heap.size ≤ g) 3 1 u (T.reasonOf v).length (ints (T.reasonOf v))) ∧ Below w.heap.size w w' := by
 cases hx : T.idx v with
 | none =>
  have hv : T.reasonOf v = [] := by simp [Tr.reasonOf, hx]
  rw [hv]
  clear hv hlen
  go_enter Tryz.func123, Tryz.ntmps123
  go_wp2_with (first | (go_at_call 108; refine (find_no ht hx).mono ?_; rintro r w1 ⟨rfl, hb⟩) | (go_at_call 76; refine (clone_any (xs := []) (Own.nil _ (fun _ => False) 0 1).rd (by omega)).mono ?_; rintro r w2 ⟨⟨u, rfl, ho⟩, hb2⟩))
  go_ret
  exact ⟨⟨_, rfl, ho.mono fun g _ _ h => by have := hb.size; simp at h; omega⟩, (hb.alloc hb.size _).trans (hb2.mono (by have := hb.size; simp; omega))⟩
 | some i =>
  obtain ⟨e, he, _⟩ := Tr.idx_some hx
  have hv : T.reasonOf v = e.reason := by simp [Tr.reasonOf, hx, he]
  rw [hv] at hlen ⊢
  clear hv
  go_enter Tryz.func123, Tryz.ntmps123
  go_wp2_with (first | (go_at_call 108; refine (find_yes ht hx he).mono ?_; rintro r w1 ⟨⟨A, n, c, rfl, hr⟩, hb⟩) | (go_at_call 76; refine (clone_any (hr.below ((Below.refl _ _).alloc (Nat.le_refl _) _)) hlen).mono ?_; rintro r w2 ⟨⟨u, rfl, ho⟩, hb2⟩))
  go_ret
  exact ⟨⟨_, rfl, ho.mono fun g _ _ h => by have := hb.size; simp at h; omega⟩, (hb.alloc hb.size _).trans (hb2.mono (by have := hb.size; simp; omega))⟩
end
end Go.Proofs.YtcjmpobccbnpkaaGreat
