/-
  LearnFollows: appending a clause; the plain invariants.
-/
import Derived.Test.YtanhacdadgbjdaaLnS
namespace Go.Proofs.Ytanhacdadgbjdaa
open Go.RowKit

theorem info_row : (Try.prog.info? 23).map (fun i => (i.zero, i.size, i.bytes)) = some (some (.slice none 0 0), 1, 24) := by kernel_rfl
theorem own_row (w : World) (x : Value) : Own (w.alloc (.cells #[x] 23)) (fun g => g = w.heap.size) 23 1 (.slice (some ⟨w.heap.size, 0, none⟩) 1 1) 1 [x] :=
  own_new w _ _ 1 1 #[x] 1 [x] rfl (by decide) (Nat.le_refl _) (by decide) rfl rfl rfl
/-- append onto a slice of slices: its row lies in block bd, no clause lies there or in g0. -/
theorem wpList_append_db {ops : Array Oper} {rest : List Oper} {o : Oper} {a : Act} {w : World} {Q : Exit → Act → World → Prop} (hgd : o.guard = none) (s x : Operand)
    (ho : o.op = .call { callee := .builtin .append, args := #[s, x], argTypes := #[32, 32] }) {bd g0 d : Nat} {G : Nat → Prop} {R : Option Addr} {v u : Value} {cls : List (List Int)} {cl : List Int}
    (hv : DbOwn w (fun b => b = bd) (fun b => b ≠ g0 ∧ b ≠ bd) v cls) (hu : Rd w G 1 u 1 [.slice R cl.length d])
    (hcl : Rd w (fun b => b ≠ g0 ∧ b ≠ bd) 1 (.slice R cl.length d) cl.length (ints cl)) (hs : a.eval s = v) (hx : a.eval x = u) (hb : cls.length ≤ 1000)
    (hK : ∀ A c w' bd', DbOwn w' (fun b => b = bd') (fun b => b ≠ g0 ∧ b ≠ bd') (.slice A (cls.length + 1) c) (cls ++ [cl]) → (bd' = bd ∨ w.heap.size ≤ bd') → bd' < w'.heap.size → Mod (fun b => b = bd) w w' → wpList Try.prog ops Q rest (a.put o.dst (.slice A (cls.length + 1) c)) w') :
    wpList Try.prog ops Q (o :: rest) a w := by
  refine wpList_plain hgd fun K hK' => ?_
  obtain ⟨rows, hrow, hcont⟩ := hv
  have hrl : rows.length = cls.length := by have := hrow.1; omega
  obtain ⟨i0, hi, hz0, hz1, hz2⟩ := info_parts info_row
  obtain ⟨v', w', hr, h2, h3, h4⟩ := run_append_rd (P := Try.prog) 32 o.type i0 (.slice none 0 0) 24 Try.underlying32 hi hz0 hz1 hz2 rfl (by decide) hrow hu (by intro u hu; rw [List.mem_singleton.1 hu]; rfl) (by unfold maxLen; omega) (by omega)
  unfold Oper.wp execOp
  simp only [ho, resolve, invoke, builtin, Sem.run_bind, Sem.run_pure, Result.andThen_ok, List.map_toArray, List.map_cons, List.map_nil, hs, hx, hr]
  obtain ⟨A, c, rfl, hnc, _, hform⟩ := h2.form
  obtain ⟨g', rfl, _, hg'⟩ := hform (by omega)
  have hrow' : row (.slice (some ⟨g', 0, none⟩) (cls.length + 1) c) g' := ⟨by omega, rfl⟩
  have hcase : g' = bd ∨ w.heap.size ≤ g' := by
    rcases h4 g' hrow' with e | e
    · exact .inl (hrow.row e).1
    · exact .inr e
  have hM : Mod (fun b => b = bd) w w' := h3.mono fun k _ hk => (hrow.row hk).1
  refine hK' _ _ (hK _ _ w' g' ⟨rows ++ [.slice R cl.length d], ?_, fun i q hq => ?_⟩ hcase hg' hM)
  · rw [List.length_append, List.length_singleton]
    exact h2.mono fun g _ hr _ => hr.2.symm
  · rcases Nat.lt_or_ge i cls.length with e | e
    · rw [List.getElem?_append_left e] at hq
      obtain ⟨R', c', a1, a2⟩ := hcont i q hq
      refine ⟨R', c', by rw [List.getElem?_append_left (by omega)]; exact a1, ?_⟩
      refine (a2.mono (G := fun b => (b ≠ g0 ∧ b ≠ g') ∧ b ≠ bd) fun g hg hG => ⟨⟨hG.1, ?_⟩, hG.2⟩).mod hM (fun g _ hG e => hG.2 e) |>.mono fun g _ hG => hG.1
      intro e1
      rcases hcase with e2 | e2
      · exact hG.2 (e1.trans e2)
      · omega
    · have hie : i = cls.length := by
        have := (List.getElem?_eq_some_iff.1 hq).1
        simp at this
        omega
      subst hie
      rw [List.getElem?_append_right (Nat.le_refl _)] at hq
      have hq : cl = q := by simpa using hq
      subst hq
      refine ⟨R, d, by rw [← hrl, List.getElem?_append_right (Nat.le_refl _)]; simp, ?_⟩
      refine (hcl.mono (G := fun b => (b ≠ g0 ∧ b ≠ g') ∧ b ≠ bd) fun g hg hG => ⟨⟨hG.1, ?_⟩, hG.2⟩).mod hM (fun g _ hG e => hG.2 e) |>.mono fun g _ hG => hG.1
      intro e1
      rcases hcase with e2 | e2
      · exact hG.2 (e1.trans e2)
      · omega

theorem lits_few {T : Tr} (h : T.WF) (hf : T.few) {x : Int} (hx : x ∈ T.lits) : x ≠ 0 ∧ x.natAbs < 31 := by
  obtain ⟨e, he, rfl⟩ := List.mem_map.1 hx
  have h1 := h.lit e he
  have h2 := hf.vars
  unfold Ent.v at h1
  exact ⟨h1.1, by omega⟩
theorem lits_anti {T : Tr} (h : T.WF) {x y : Int} (hx : x ∈ T.lits) (hy : y ∈ T.lits) : y ≠ -x := by
  intro e
  have h1 := value_of_neg h (l := x) (by rw [← e]; exact hy)
  simp [Tr.value, hx] at h1
theorem reason_small {T : Tr} (h : T.WF) (hf : T.few) {m : Int} (hm : m ∈ T.lits) : (T.reasonOf (m.natAbs : Nat)).length ≤ 1000 ∧ ∀ x ∈ T.reasonOf (m.natAbs : Nat), x ≠ 0 ∧ x.natAbs < 31 := by
  refine ⟨by have := few_reasons hf m hm; omega, fun x hx => ?_⟩
  rcases reasonOf_neg h hm x hx with e | e
  · have := lits_few h hf hm
    omega
  · have := lits_few h hf e
    omega
/-- What the values keep: true literals lie on the trail. -/
structure Vals (T : Tr) (xs : List Int) : Prop where
  len : xs.length = 31
  tri : Tri xs
  sub : ∀ x : Int, x ≠ 0 → x.natAbs < 31 → gv xs x = 1 → x ∈ T.lits
theorem vals_new {T : Tr} : Vals T (List.replicate 31 0) := by
  refine ⟨by simp, fun y hy => .inl (List.eq_of_mem_replicate hy), fun x hx hl h1 => ?_⟩
  have hn : ∀ k, nth (List.replicate 31 (0 : Int)) k = 0 := fun k => by
    unfold nth
    rw [List.getElem?_replicate]
    split <;> rfl
  unfold gv at h1
  rw [hn, hn] at h1
  split at h1 <;> omega
theorem Vals.put {T : Tr} {xs : List Int} (v : Vals T xs) (h : T.WF) (hf : T.few) {x : Int} (hx : x ∈ T.lits) : Vals T (sv xs x) ∧ gv (sv xs x) x = 1 ∧ ∀ y ∈ T.lits, gv xs y = 1 → gv (sv xs x) y = 1 := by
  obtain ⟨x0, x1⟩ := lits_few h hf hx
  have hl := v.len
  refine ⟨⟨by rw [sv_length]; exact hl, v.tri.sv x, fun y hy hyl hy1 => ?_⟩, ?_, fun y hy hy1 => ?_⟩
  · rw [gv_sv xs x0 (by omega) hy (by omega)] at hy1
    by_cases e : y = x
    · rw [e]; exact hx
    · rw [if_neg e] at hy1
      by_cases e2 : y = -x
      · rw [if_pos e2] at hy1; omega
      · rw [if_neg e2] at hy1; exact v.sub y hy hyl hy1
  · rw [gv_sv xs x0 (by omega) x0 (by omega), if_pos rfl]
  · obtain ⟨y0, y1⟩ := lits_few h hf hy
    rw [gv_sv xs x0 (by omega) y0 (by omega)]
    by_cases e : y = x
    · rw [if_pos e]
    · rw [if_neg e, if_neg (lits_anti h hx hy)]; exact hy1
end Go.Proofs.Ytanhacdadgbjdaa
