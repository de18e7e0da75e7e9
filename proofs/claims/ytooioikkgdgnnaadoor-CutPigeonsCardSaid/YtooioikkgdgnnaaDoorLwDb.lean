/-
  Chapter 25: a growing slice of constraints, a growing slice of operations; the first elements of an argument.
-/
import Derived.Test.YtooioikkgdgnnaaDoorLwWrH
import Derived.Test.YtooioikkgdgnnaaDoorPbOpen3
namespace Go.Proofs.YtooioikkgdgnnaaDoor
open Go.RowKit

theorem info_cop : (Tryd.prog.info? 44).map (fun i => (i.zero, i.size, i.bytes)) = some (some (.agg #[.int .u8 0, .int .i64 0]), 2, 16) := by kernel_rfl
/-- append onto a slice of operations of the call's own. -/
theorem wp_append_op {o : Oper} {a : Act} {w : World} {K : Act → World → Prop} {Q : Exit → Act → World → Prop} (s x : Operand)
    (ho : o.op = .call { callee := .builtin .append, args := #[s, x], argTypes := #[35, 35] }) {F G : Nat → Prop} {v u : Value} {n m : Nat} {xs ys : List Value}
    (hv : Own w F 44 2 v n xs) (hu : Rd w G 2 u m ys) (hs : a.eval s = v) (hx : a.eval x = u) (h1 : ∀ u ∈ ys, u.oneCell' = true) (hb : n + m ≤ 1000000)
    (hK : ∀ A c w', Own w' (fun b => F b ∨ w.heap.size ≤ b) 44 2 (.slice A (n + m) c) (n + m) (xs ++ ys) → Mod (row v) w w' → (∀ b, row (.slice A (n + m) c) b → row v b ∨ w.heap.size ≤ b) → K (a.put o.dst (.slice A (n + m) c)) w') : o.wp Tryd.prog a w K Q := by
  obtain ⟨i0, hi, hz0, hz1, hz2⟩ := info_parts info_cop
  obtain ⟨v', w', hr, h2, h3, h4⟩ := run_append_rd (P := Tryd.prog) 35 o.type i0 (.agg #[.int .u8 0, .int .i64 0]) 16 Tryd.underlying35 hi hz0 hz1 hz2 rfl (by decide) hv hu h1 (by unfold maxLen; omega) (by omega)
  unfold Oper.wp execOp
  simp only [ho, resolve, invoke, builtin, Sem.run_bind, Sem.run_pure, Result.andThen_ok, List.map_toArray, List.map_cons, List.map_nil, hs, hx, hr]
  obtain ⟨A, c, rfl, _⟩ := h2.form
  exact hK A c w' h2 h3 h4
theorem wpList_append_op {ops : Array Oper} {rest : List Oper} {o : Oper} {a : Act} {w : World} {Q : Exit → Act → World → Prop} (hgd : o.guard = none) (s x : Operand)
    (ho : o.op = .call { callee := .builtin .append, args := #[s, x], argTypes := #[35, 35] }) {F G : Nat → Prop} {v u : Value} {n m : Nat} {xs ys : List Value}
    (hv : Own w F 44 2 v n xs) (hu : Rd w G 2 u m ys) (hs : a.eval s = v) (hx : a.eval x = u) (h1 : ∀ u ∈ ys, u.oneCell' = true) (hb : n + m ≤ 1000000)
    (hK : ∀ A c w', Own w' (fun b => F b ∨ w.heap.size ≤ b) 44 2 (.slice A (n + m) c) (n + m) (xs ++ ys) → Mod (row v) w w' → (∀ b, row (.slice A (n + m) c) b → row v b ∨ w.heap.size ≤ b) → wpList Tryd.prog ops Q rest (a.put o.dst (.slice A (n + m) c)) w') :
    wpList Tryd.prog ops Q (o :: rest) a w :=
  wpList_plain hgd fun _ hK' => wp_append_op s x ho hv hu hs hx h1 hb fun A c w' h2 h3 h4 => hK' _ _ (hK A c w' h2 h3 h4)

/-- A slice of constraints that grows: its row is the call's own (from w0 on). -/
structure Dbg (w0 : Nat) (W : World) (A : Option Addr) (n c : Nat) (ts : List (Value × Value × Value)) (s : List Pb) : Prop where
  len : s.length = n
  own : Own W (fun g => w0 ≤ g) 24 3 (.slice A n c) n (flat3 ts)
  ps : Ps W (fun g => ¬ row (.slice A n c) g) ts s
section
variable {w0 : Nat} {W W' : World} {A : Option Addr} {n c : Nat} {ts : List (Value × Value × Value)} {s : List Pb}
theorem Dbg.nil (w0 : Nat) (W : World) : Dbg w0 W none 0 0 [] [] := ⟨rfl, Own.nil _ _ _ _, Ps.nil _ _⟩
theorem Dbg.below (h : Dbg w0 W A n c ts s) (b : Below W.heap.size W W') : Dbg w0 W' A n c ts s := ⟨h.len, h.own.below b, h.ps.below b⟩
theorem Dbg.rd (h : Dbg w0 W A n c ts s) : PsRd W (fun g => w0 ≤ g) (fun g => ¬ row (.slice A n c) g) A n c s := ⟨ts, h.own.rd, h.ps, h.len⟩
theorem Dbg.row (h : Dbg w0 W A n c ts s) {g : Nat} (hr : Go.Proofs.YtooioikkgdgnnaaDoor.row (.slice A n c) g) : w0 ≤ g ∧ g < W.heap.size := by
  obtain ⟨h1, cur, h2⟩ := h.own.row hr
  exact ⟨h1, lt_of_block h2⟩
theorem Dbg.push (h : Dbg w0 W A n c ts s) (hw : w0 ≤ W.heap.size) {A' : Option Addr} {c' : Nat} {t : Value × Value × Value} {p : Pb} (ho : Own W' (fun b => w0 ≤ b ∨ W.heap.size ≤ b) 24 3 (.slice A' (n + 1) c') (n + 1) (flat3 ts ++ [t.1, t.2.1, t.2.2]))
    (hm : Mod (Go.Proofs.YtooioikkgdgnnaaDoor.row (.slice A n c)) W W') (hr : ∀ b, Go.Proofs.YtooioikkgdgnnaaDoor.row (.slice A' (n + 1) c') b → Go.Proofs.YtooioikkgdgnnaaDoor.row (.slice A n c) b ∨ W.heap.size ≤ b) (hp : PbRd W (fun g => ¬ Go.Proofs.YtooioikkgdgnnaaDoor.row (.slice A n c) g) (agg3 t) p) :
    Dbg w0 W' A' (n + 1) c' (ts ++ [t]) (s ++ [p]) ∧ Below w0 W W' := by
  refine ⟨⟨by simp [h.len], ?_, ?_⟩, below_mod (Below.refl _ _) hw hm fun g hg => (h.row hg).1⟩
  · rw [flat3_append]
    exact ho.mono fun g _ _ hg => hg.elim id fun e => by omega
  · exact (((h.ps.snoc hp).mono (G := fun g => ¬ Go.Proofs.YtooioikkgdgnnaaDoor.row (.slice A' (n + 1) c') g ∧ ¬ Go.Proofs.YtooioikkgdgnnaaDoor.row (.slice A n c) g) fun g hg h2 => ⟨fun e => (hr g e).elim h2 fun e2 => by omega, h2⟩).mod hm fun g _ h2 => h2.2).mono fun g _ h2 => h2.1
end
/-- A slice of operations that grows. -/
def Opg (w0 : Nat) (W : World) (A : Option Addr) (n c : Nat) (os : List Cop) : Prop := os.length = n ∧ Own W (fun g => w0 ≤ g) 44 2 (.slice A n c) n (ocells os)
theorem Opg.nil (w0 : Nat) (W : World) : Opg w0 W none 0 0 [] := ⟨rfl, Own.nil _ _ _ _⟩
theorem Opg.below {w0 : Nat} {W W' : World} {A : Option Addr} {n c : Nat} {os : List Cop} (h : Opg w0 W A n c os) (b : Below W.heap.size W W') : Opg w0 W' A n c os := ⟨h.1, h.2.below b⟩
theorem Opg.push {w0 : Nat} {W W' : World} {A : Option Addr} {n c : Nat} {os : List Cop} (h : Opg w0 W A n c os) (hw : w0 ≤ W.heap.size) {A' : Option Addr} {c' k : Nat} {z : Int}
    (ho : Own W' (fun b => w0 ≤ b ∨ W.heap.size ≤ b) 44 2 (.slice A' (n + 1) c') (n + 1) (ocells os ++ [.int .u8 k, .int .i64 z])) (hm : Mod (row (.slice A n c)) W W') :
    Opg w0 W' A' (n + 1) c' (os ++ [⟨k, z⟩]) ∧ Below w0 W W' := by
  refine ⟨⟨by simp [h.1], ?_⟩, below_mod (Below.refl _ _) hw hm fun g hg => (h.2.row hg).1⟩
  have e : ocells (os ++ [⟨k, z⟩]) = ocells os ++ [.int .u8 k, .int .i64 z] := by simp [ocells]
  rw [e]
  exact ho.mono fun g _ _ hg => hg.elim id fun e => by omega
theorem rd_lit2 {w : World} {Z : Nat} {x y : Value} (k : w.heap[Z]? = some (.cells #[x, y] 44)) : Rd w (fun g => g = Z) 2 (.slice (some ⟨Z, 0, none⟩) 1 1) 1 [x, y] := by
  refine ⟨rfl, _, _, rfl, Nat.le_refl _, by decide, fun _ => ⟨Z, 0, rfl, rfl, lt_of_block k, fun j u hj => ?_⟩⟩
  rw [Nat.zero_add, cell_of_row _ _ _ _ _ _ k]
  rw [← hj]
  simp

theorem below_on {w0 : Nat} {w W W' : World} (h : Below w0 w W) (hs : w0 ≤ w.heap.size) (b : Below W.heap.size W W') : Below w0 w W' := h.trans (b.mono (Nat.le_trans hs h.size))
theorem below_eq {v0 : Nat} {w W : World} (h : Below v0 w W) (hv : w.heap.size = v0) : Below w.heap.size w W := hv ▸ h
theorem box2c {W : World} {b : Nat} {x y : Value} {t : TypeId} {fz : Nat × Nat} (k : W.heap[b]? = some (.cells #[x, y] t fz)) : W.cell? ⟨b, 0, none⟩ = some x ∧ W.cell? ⟨b, 1, none⟩ = some y :=
  ⟨by rw [cell_of_row _ _ _ _ _ _ k]; rfl, by rw [cell_of_row _ _ _ _ _ _ k]; rfl⟩
theorem froz2c {W : World} {b : Nat} {x y : Value} {t : TypeId} (k : W.heap[b]? = some (.cells #[x, y] t (0, 0))) : W.frozen? ⟨b, 0, none⟩ = false ∧ W.frozen? ⟨b, 1, none⟩ = false :=
  ⟨by simp [World.frozen?, k], by simp [World.frozen?, k]⟩
theorem set_snd {W : World} {b : Nat} {x y : Value} (t0 : W.cell? ⟨b, 0, none⟩ = some x) (t1 : W.cell? ⟨b, 1, none⟩ = some y) (y' : Value) :
    (W.setCell ⟨b, 1, none⟩ y').cell? ⟨b, 0, none⟩ = some x ∧ (W.setCell ⟨b, 1, none⟩ y').cell? ⟨b, 1, none⟩ = some y' ∧ Mod (fun g => g = b) W (W.setCell ⟨b, 1, none⟩ y') :=
  ⟨(World.cell?_setCell_other _ _ _ _ (by simp)).trans t0, World.cell?_setCell_same' _ _ _ (by rw [t1]; rfl), (Mod.refl (fun g => g = b) W).setCell (p := ⟨b, 1, none⟩) (.inl rfl) _⟩
theorem Opg.mod {w0 : Nat} {W W' : World} {A : Option Addr} {n c : Nat} {os : List Cop} {G : Nat → Prop} (h : Opg w0 W A n c os) (hm : Mod G W W') (hG : ∀ g, G g → ¬ row (.slice A n c) g) : Opg w0 W' A n c os := ⟨h.1, h.2.mod hm fun g _ hr _ e => hG g e hr⟩
theorem rd_to {w : World} {F : Nat → Prop} {A A' : Option Addr} {n c i : Nat} {xs : List Value} (h : Rd w F 1 (.slice A n c) n xs) (hi : i ≤ n) (hA : 0 < n → A' = A) : Rd w F 1 (.slice A' i c) i (xs.take i) := by
  rcases Nat.eq_zero_or_pos n with e | e
  · obtain ⟨_, A'', c', hv, _, hm, _⟩ := h
    injection hv with _ _ h3
    subst h3
    have hi0 : i = 0 := by omega
    subst hi0
    exact ⟨by simp, _, _, rfl, Nat.zero_le _, hm, fun h => absurd h (by omega)⟩
  · rw [hA e]
    have := h.take hi
    rwa [Nat.mul_one] at this
theorem rd_spot {w : World} {F : Nat → Prop} {k : Nat} {A : Option Addr} {n c : Nat} {xs : List Value} (h : Rd w F k (.slice A n c) n xs) : n ≤ c ∧ (0 < n → ∃ g o, A = some ⟨g, o, none⟩) := by
  obtain ⟨_, A', c', hv, hc, hm, hA⟩ := h
  injection hv with h1 _ h3
  subst h1 h3
  refine ⟨hc, fun hp => ?_⟩
  obtain ⟨g, o, e, _⟩ := hA hp
  exact ⟨g, o, e⟩
theorem slice8_to {A : Option Addr} {n c i : Nat} (hA : 0 < n → ∃ g o, A = some ⟨g, o, none⟩) (hi : i ≤ n) (hc : n ≤ c) :
    ∃ A', (0 < n → A' = A) ∧ ∀ W : World, (Instr.slice 50 (.slice A n c) none (some (.int .i64 (i : Int))) none).run Tryd.prog W = .ok (.slice A' i c) W := by
  have h1 : (0 : Int) ≤ (i : Int) ∧ (i : Int) ≤ (c : Int) := by omega
  refine ⟨if c = 0 then A else A.map (·.add (0 * 1)), fun hp => ?_, fun W => by simp [Instr.slice, Instr.sliceBounds, Instr.sliceBound, run_underlying Tryd.underlying50, asIntOf, h1, Tryd.sizeOf5]; exact fun h => absurd h (by omega)⟩
  obtain ⟨g, o, rfl⟩ := hA hp
  rw [if_neg (by omega)]
  simp [addr_add]
theorem slices_to {A : Option Addr} {n c i : Nat} (hA : 0 < n → ∃ g o, A = some ⟨g, o, none⟩) (hi : i ≤ n) (hc : n ≤ c) :
    ∃ A', (0 < n → A' = A) ∧ ∀ W : World, (Instr.slice 51 (.slice A n c) none (some (.int .i64 (i : Int))) none).run Tryd.prog W = .ok (.slice A' i c) W := by
  have h1 : (0 : Int) ≤ (i : Int) ∧ (i : Int) ≤ (c : Int) := by omega
  refine ⟨if c = 0 then A else A.map (·.add (0 * 1)), fun hp => ?_, fun W => by simp [Instr.slice, Instr.sliceBounds, Instr.sliceBound, run_underlying Tryd.underlying51, asIntOf, h1, Tryd.sizeOf22]; exact fun h => absurd h (by omega)⟩
  obtain ⟨g, o, rfl⟩ := hA hp
  rw [if_neg (by omega)]
  simp [addr_add]
theorem LsRd.to {w : World} {F : Nat → Prop} {A A' : Option Addr} {n c i : Nat} {lls : List (List Int)} (h : LsRd w F A n c lls) (hi : i ≤ n) (hA : 0 < n → A' = A) : LsRd w F A' i c (lls.take i) := by
  obtain ⟨rows, h1, h2, h3⟩ := h
  refine ⟨rows.take i, rd_to h1 hi hA, by simp; omega, fun j l hl => ?_⟩
  rw [List.getElem?_take] at hl
  split at hl
  · rename_i hj
    obtain ⟨R, d, h4, h5⟩ := h3 j l hl
    exact ⟨R, d, by rw [List.getElem?_take, if_pos hj]; exact h4, h5⟩
  · cases hl
theorem Rd.cellu8 {w : World} {F : Nat → Prop} {A : Option Addr} {n c : Nat} {xs : List Int} (h : Rd w F 1 (.slice A n c) n (u8s xs)) : xs.length = n ∧
    ∀ k, k < n → ∃ g o, A = some ⟨g, o, none⟩ ∧ F g ∧ g < w.heap.size ∧ w.cell? ⟨g, o + k, none⟩ = some (.int .u8 (nth xs k)) := by
  obtain ⟨hl, A', c', hv, hc, hm, hA⟩ := h
  injection hv with h1 _ _
  subst h1
  have hln : xs.length = n := by simpa [u8s_length] using hl
  refine ⟨hln, fun k hk => ?_⟩
  obtain ⟨g, o, h1, h2, h3, h4⟩ := hA (by omega)
  exact ⟨g, o, h1, h2, h3, h4 k _ (by rw [u8s_get, nth_get (by omega)]; rfl)⟩
theorem u8s_take (xs : List Int) (n : Nat) : (u8s xs).take n = u8s (xs.take n) := by simp [u8s, List.map_take]
end Go.Proofs.YtooioikkgdgnnaaDoor
