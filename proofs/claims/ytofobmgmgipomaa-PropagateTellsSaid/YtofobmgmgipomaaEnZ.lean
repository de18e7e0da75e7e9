/-
  A slice of clauses that grows; the reasons that a run leaves.
-/
import Derived.Test.YtofobmgmgipomaaPrE
namespace Go.Proofs.Ytofobmgmgipomaa
open Go.RowKit

theorem info_row : (Try.prog.info? 23).map (fun i => (i.zero, i.size, i.bytes)) = some (some (.slice none 0 0), 1, 24) := by kernel_rfl
theorem own_row (w : World) (x : Value) : Own (w.alloc (.cells #[x] 23)) (fun g => g = w.heap.size) 23 1 (.slice (some ⟨w.heap.size, 0, none⟩) 1 1) 1 [x] :=
  own_new w _ _ 1 1 #[x] 1 [x] rfl (by decide) (Nat.le_refl _) (by decide) rfl rfl rfl
theorem wpList_append_row {ops : Array Oper} {rest : List Oper} {o : Oper} {a : Act} {w : World} {Q : Exit → Act → World → Prop} (hgd : o.guard = none) (s x : Operand)
    (ho : o.op = .call { callee := .builtin .append, args := #[s, x], argTypes := #[22, 22] }) {F G : Nat → Prop} {v u y : Value} {n : Nat} {xs : List Value}
    (hv : Own w F 23 1 v n xs) (hu : Rd w G 1 u 1 [y]) (hs : a.eval s = v) (hx : a.eval x = u) (h1 : y.oneCell' = true) (hb : n ≤ 1000000)
    (hK : ∀ A c w', Own w' (fun b => F b ∨ w.heap.size ≤ b) 23 1 (.slice A (n + 1) c) (n + 1) (xs ++ [y]) → Mod (row v) w w' → (∀ b, row (.slice A (n + 1) c) b → row v b ∨ w.heap.size ≤ b) → wpList Try.prog ops Q rest (a.put o.dst (.slice A (n + 1) c)) w') :
    wpList Try.prog ops Q (o :: rest) a w := by
  refine wpList_plain hgd fun _ hK' => ?_
  obtain ⟨i0, hi, hz0, hz1, hz2⟩ := info_parts info_row
  obtain ⟨v', w', hr, h2, h3, h4⟩ := run_append_rd (P := Try.prog) 22 o.type i0 (.slice none 0 0) 24 Try.underlying22 hi hz0 hz1 hz2 rfl (by decide) hv hu (by intro u hu; rw [List.mem_singleton.1 hu]; exact h1) (by unfold maxLen; omega) (by omega)
  unfold Oper.wp execOp
  simp only [ho, resolve, invoke, builtin, Sem.run_bind, Sem.run_pure, Result.andThen_ok, List.map_toArray, List.map_cons, List.map_nil, hs, hx, hr]
  obtain ⟨A, c, rfl, _⟩ := h2.form
  exact hK' _ _ (hK A c w' h2 h3 h4)
/-- A slice of clauses that grows: its row is the call's own (from w0 on); G: where its clauses lie. -/
structure Rws (w0 : Nat) (G : Nat → Prop) (W : World) (A : Option Addr) (n c : Nat) (rows : List Value) (s : List (List Int)) : Prop where
  len : s.length = n
  own : Own W (fun g => w0 ≤ g) 23 1 (.slice A n c) n rows
  ps : ∀ (i : Nat) (l : List Int), s[i]? = some l → ∃ R d, rows[i]? = some (.slice R l.length d) ∧ Rd W (fun g => G g ∧ ¬ row (.slice A n c) g) 1 (.slice R l.length d) l.length (ints l)
section
variable {w0 : Nat} {G : Nat → Prop} {W W' : World} {A : Option Addr} {n c : Nat} {rows : List Value} {s : List (List Int)}
theorem Rws.nil (w0 : Nat) (G : Nat → Prop) (W : World) : Rws w0 G W none 0 0 [] [] := ⟨rfl, Own.nil _ _ _ _, fun i l h => by simp at h⟩
theorem Rws.below (h : Rws w0 G W A n c rows s) (b : Below W.heap.size W W') : Rws w0 G W' A n c rows s :=
  ⟨h.len, h.own.below b, fun i l hl => by obtain ⟨R, d, h1, h2⟩ := h.ps i l hl; exact ⟨R, d, h1, h2.below b⟩⟩
theorem Rws.row (h : Rws w0 G W A n c rows s) {g : Nat} (hr : Go.Proofs.Ytofobmgmgipomaa.row (.slice A n c) g) : w0 ≤ g ∧ g < W.heap.size := by
  obtain ⟨h1, cur, h2⟩ := h.own.row hr
  exact ⟨h1, lt_of_block h2⟩
theorem Rws.push (h : Rws w0 G W A n c rows s) (hw : w0 ≤ W.heap.size) {A' : Option Addr} {c' d : Nat} {R : Option Addr} {l : List Int} (ho : Own W' (fun b => w0 ≤ b ∨ W.heap.size ≤ b) 23 1 (.slice A' (n + 1) c') (n + 1) (rows ++ [.slice R l.length d]))
    (hm : Mod (Go.Proofs.Ytofobmgmgipomaa.row (.slice A n c)) W W') (hr : ∀ b, Go.Proofs.Ytofobmgmgipomaa.row (.slice A' (n + 1) c') b → Go.Proofs.Ytofobmgmgipomaa.row (.slice A n c) b ∨ W.heap.size ≤ b) (hp : Rd W (fun g => G g ∧ ¬ Go.Proofs.Ytofobmgmgipomaa.row (.slice A n c) g) 1 (.slice R l.length d) l.length (ints l)) :
    Rws w0 G W' A' (n + 1) c' (rows ++ [.slice R l.length d]) (s ++ [l]) ∧ Below w0 W W' := by
  have key : ∀ {v : Value} {m : Nat} {xs : List Value}, Rd W (fun g => G g ∧ ¬ Go.Proofs.Ytofobmgmgipomaa.row (.slice A n c) g) 1 v m xs → Rd W' (fun g => G g ∧ ¬ Go.Proofs.Ytofobmgmgipomaa.row (.slice A' (n + 1) c') g) 1 v m xs := fun hp =>
    ((hp.mono (G := fun g => (G g ∧ ¬ Go.Proofs.Ytofobmgmgipomaa.row (.slice A' (n + 1) c') g) ∧ ¬ Go.Proofs.Ytofobmgmgipomaa.row (.slice A n c) g) fun g hg h2 => ⟨⟨h2.1, fun e => (hr g e).elim h2.2 fun e2 => by omega⟩, h2.2⟩).mod hm fun g _ h2 => h2.2).mono fun g _ h2 => h2.1
  have hrl : rows.length = n := by have := h.own.1; omega
  refine ⟨⟨by simp [h.len], ho.mono fun g _ _ hg => hg.elim id fun e => by omega, fun i q hq => ?_⟩, below_mod (Below.refl _ _) hw hm fun g hg => (h.row hg).1⟩
  rcases Nat.lt_or_ge i n with e | e
  · rw [List.getElem?_append_left (by rw [h.len]; exact e)] at hq
    obtain ⟨R', c', a1, a2⟩ := h.ps i q hq
    exact ⟨R', c', by rw [List.getElem?_append_left (by omega)]; exact a1, key a2⟩
  · have hie : i = n := by
      have := (List.getElem?_eq_some_iff.1 hq).1
      simp [h.len] at this
      omega
    subst hie
    rw [List.getElem?_append_right (by rw [h.len]; exact Nat.le_refl _), h.len, Nat.sub_self] at hq
    have hq : l = q := by simpa using hq
    subst hq
    exact ⟨R, d, by rw [List.getElem?_append_right (by rw [hrl]; exact Nat.le_refl _), hrl, Nat.sub_self]; rfl, key hp⟩
theorem Rws.ls (h : Rws w0 G W A n c rows s) : LsRd W (fun _ => True) A n c s := by
  refine ⟨rows, h.own.rd.mono fun _ _ _ => trivial, h.len, fun i l hl => ?_⟩
  obtain ⟨R, d, h1, h2⟩ := h.ps i l hl
  exact ⟨R, d, h1, h2.mono fun _ _ _ => trivial⟩
end
theorem reason_at {T : Tr} (h : T.WF) {i : Nat} {e : Ent} (he : T.L[i]? = some e) : T.reasonOf ((e.lit.natAbs : Nat) : Int) = e.reason := by
  have : T.idx ((e.v : Nat) : Int) = some i := h.idx he
  unfold Ent.v at this
  simp [Tr.reasonOf, this, he]
theorem level_at {T : Tr} (h : T.WF) {i : Nat} {e : Ent} (he : T.L[i]? = some e) : T.levelOf ((e.lit.natAbs : Nat) : Int) = e.level := by
  have : T.idx ((e.v : Nat) : Int) = some i := h.idx he
  unfold Ent.v at this
  simp [Tr.levelOf, this, he]
theorem FromX.len {cs : List Pb} {v : Nat} {e : Ent} (hok : ∀ c ∈ cs, c.Ok) (h : FromX cs v e) : e.reason.length ≤ 65537 := by
  obtain ⟨i, X, hi, _, hr, _⟩ := h
  have h1 := (hok _ (cAt_mem hi)).few
  have h2 : ((cAt cs i).offX X).length ≤ (cAt cs i).lits.length := List.length_filter_le _ _
  rw [hr, List.length_cons]
  omega
end Go.Proofs.Ytofobmgmgipomaa
