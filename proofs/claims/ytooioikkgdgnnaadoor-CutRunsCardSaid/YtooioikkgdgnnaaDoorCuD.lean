/-
  Chapter 25: several texts in one (merge.py: CtK CtL CtM CtN).
-/
import Derived.Test.YtooioikkgdgnnaaDoorCuC
import Derived.Test.YtooioikkgdgnnaaDoorCuA
namespace Go.Proofs.YtooioikkgdgnnaaDoor
section
open Go.RowKit

/-- append onto a slice of constraints of the call's own. -/
theorem wp_append_pb {o : Oper} {a : Act} {w : World} {K : Act → World → Prop} {Q : Exit → Act → World → Prop} (s x : Operand)
    (ho : o.op = .call { callee := .builtin .append, args := #[s, x], argTypes := #[36, 36] }) {F G : Nat → Prop} {v u : Value} {n m : Nat} {xs ys : List Value}
    (hv : Own w F 24 3 v n xs) (hu : Rd w G 3 u m ys) (hs : a.eval s = v) (hx : a.eval x = u) (h1 : ∀ u ∈ ys, u.oneCell' = true) (hb : n + m ≤ 1000000)
    (hK : ∀ A c w', Own w' (fun b => F b ∨ w.heap.size ≤ b) 24 3 (.slice A (n + m) c) (n + m) (xs ++ ys) → Mod (row v) w w' → (∀ b, row (.slice A (n + m) c) b → row v b ∨ w.heap.size ≤ b) → K (a.put o.dst (.slice A (n + m) c)) w') : o.wp Tryd.prog a w K Q := by
  obtain ⟨i0, hi, hz0, hz1, hz2⟩ := info_parts info_pb
  obtain ⟨v', w', hr, h2, h3, h4⟩ := run_append_rd (P := Tryd.prog) 36 o.type i0 (.agg #[.slice none 0 0, .slice none 0 0, .int .i64 0]) 56 Tryd.underlying36 hi hz0 hz1 hz2 rfl (by decide) hv hu h1 (by unfold maxLen; omega) (by omega)
  unfold Oper.wp execOp
  simp only [ho, resolve, invoke, builtin, Sem.run_bind, Sem.run_pure, Result.andThen_ok, List.map_toArray, List.map_cons, List.map_nil, hs, hx, hr]
  obtain ⟨A, c, rfl, _⟩ := h2.form
  exact hK A c w' h2 h3 h4
theorem wpList_append_pb {ops : Array Oper} {rest : List Oper} {o : Oper} {a : Act} {w : World} {Q : Exit → Act → World → Prop} (hgd : o.guard = none) (s x : Operand)
    (ho : o.op = .call { callee := .builtin .append, args := #[s, x], argTypes := #[36, 36] }) {F G : Nat → Prop} {v u : Value} {n m : Nat} {xs ys : List Value}
    (hv : Own w F 24 3 v n xs) (hu : Rd w G 3 u m ys) (hs : a.eval s = v) (hx : a.eval x = u) (h1 : ∀ u ∈ ys, u.oneCell' = true) (hb : n + m ≤ 1000000)
    (hK : ∀ A c w', Own w' (fun b => F b ∨ w.heap.size ≤ b) 24 3 (.slice A (n + m) c) (n + m) (xs ++ ys) → Mod (row v) w w' → (∀ b, row (.slice A (n + m) c) b → row v b ∨ w.heap.size ≤ b) → wpList Tryd.prog ops Q rest (a.put o.dst (.slice A (n + m) c)) w') :
    wpList Tryd.prog ops Q (o :: rest) a w :=
  wpList_plain hgd fun _ hK' => wp_append_pb s x ho hv hu hs hx h1 hb fun A c w' h2 h3 h4 => hK' _ _ (hK A c w' h2 h3 h4)
theorem step_append_pb {ops : Array Oper} {o : Oper} {a : Act} {w : World} {K : Act → World → Prop} {Q : Exit → Act → World → Prop} {E : Prop} (hgd : o.guard = none) (s x : Operand)
    (ho : o.op = .call { callee := .builtin .append, args := #[s, x], argTypes := #[36, 36] }) {F G : Nat → Prop} {v u : Value} {n m : Nat} {xs ys : List Value}
    (hv : Own w F 24 3 v n xs) (hu : Rd w G 3 u m ys) (hs : a.eval s = v) (hx : a.eval x = u) (h1 : ∀ u ∈ ys, u.oneCell' = true) (hb : n + m ≤ 1000000)
    (hK : ∀ A c w', Own w' (fun b => F b ∨ w.heap.size ≤ b) 24 3 (.slice A (n + m) c) (n + m) (xs ++ ys) → Mod (row v) w w' → (∀ b, row (.slice A (n + m) c) b → row v b ∨ w.heap.size ≤ b) → K (a.put o.dst (.slice A (n + m) c)) w') :
    if Region.wanted o (yielded ops a.tmps) = true then Oper.wp Tryd.prog o a w K Q else E := by
  have hw : Region.wanted o (yielded ops a.tmps) = true := by simp [Region.wanted, hgd]
  rw [if_pos hw]
  exact wp_append_pb s x ho hv hu hs hx h1 hb hK
theorem rd_lit3 {w : World} {Z : Nat} {x y z : Value} (k : w.heap[Z]? = some (.cells #[x, y, z] 24)) : Rd w (fun g => g = Z) 3 (.slice (some ⟨Z, 0, none⟩) 1 1) 1 [x, y, z] := by
  refine ⟨rfl, _, _, rfl, Nat.le_refl _, by decide, fun _ => ⟨Z, 0, rfl, rfl, lt_of_block k, fun j u hj => ?_⟩⟩
  rw [Nat.zero_add, cell_of_row _ _ _ _ _ _ k]
  rw [← hj]
  simp

/-- The stack at st: its values' memory. -/
structure Stk (st : Nat) (dv : Value) (W : World) (A : Option Addr) (c : Nat) (ts : List (Value × Value × Value)) (s : List Pb) : Prop where
  c0 : W.cell? ⟨st, 0, none⟩ = some (.slice A s.length c)
  c1 : W.cell? ⟨st, 1, none⟩ = some dv
  f0 : W.frozen? ⟨st, 0, none⟩ = false
  own : Own W (fun g => st < g) 24 3 (.slice A s.length c) s.length (flat3 ts)
  ps : Ps W (fun g => g ≠ st ∧ ¬ row (.slice A s.length c) g) ts s
section
variable {st : Nat} {dv : Value} {W W' : World} {A : Option Addr} {c : Nat} {ts : List (Value × Value × Value)} {s : List Pb}
theorem Stk.lt (h : Stk st dv W A c ts s) : st < W.heap.size := World.block_lt_of_cell? W _ h.c0
theorem Stk.below (h : Stk st dv W A c ts s) (hb : Below W.heap.size W W') : Stk st dv W' A c ts s :=
  ⟨keep_cell h.c0 hb, keep_cell h.c1 hb, (World.frozen?_of_block (hb.block _ h.lt)).trans h.f0, h.own.below hb, h.ps.below hb⟩
theorem Stk.rd (h : Stk st dv W A c ts s) : PsRd W (fun g => st < g) (fun g => g ≠ st ∧ ¬ row (.slice A s.length c) g) A s.length c s := ⟨ts, h.own.rd, h.ps, rfl⟩
theorem row_len (A : Option Addr) (n m c : Nat) : row (.slice A n c) = row (.slice A m c) := by
  funext g; cases A <;> simp [row]
/-- The slice after an append onto its first k, stored. -/
theorem Stk.push (h : Stk st dv W A c ts s) {k : Nat} (hk : k ≤ s.length) {A' : Option Addr} {c' : Nat} {t : Value × Value × Value} {p : Pb} (ho : Own W' (fun b => st < b ∨ W.heap.size ≤ b) 24 3 (.slice A' (k + 1) c') (k + 1) (flat3 (ts.take k) ++ [t.1, t.2.1, t.2.2]))
    (hm : Mod (row (.slice A k c)) W W') (hr : ∀ b, row (.slice A' (k + 1) c') b → row (.slice A k c) b ∨ W.heap.size ≤ b) (hp : PbRd W (fun g => g ≠ st ∧ ¬ row (.slice A s.length c) g) (agg3 t) p) :
    Stk st dv (W'.setCell ⟨st, 0, none⟩ (.slice A' (k + 1) c')) A' c' (ts.take k ++ [t]) (s.take k ++ [p]) ∧ Below st W (W'.setCell ⟨st, 0, none⟩ (.slice A' (k + 1) c')) := by
  have hlt := h.lt
  have hl : (s.take k ++ [p]).length = k + 1 := by simp [Nat.min_eq_left hk]
  rw [row_len A k s.length c] at hm hr
  have hst : ¬ row (.slice A s.length c) st := fun e => by have := (h.own.row e).1; omega
  have hb : W'.heap[st]? = W.heap[st]? := hm.block st hlt hst
  have e0 : W'.cell? ⟨st, 0, none⟩ = some (.slice A s.length c) := (World.cell?_of_block hb).trans h.c0
  have e1 : W'.cell? ⟨st, 1, none⟩ = some dv := (World.cell?_of_block hb).trans h.c1
  have m2 : Mod (fun g => g = st) W' (W'.setCell ⟨st, 0, none⟩ (.slice A' (k + 1) c')) := (Mod.refl (fun g => g = st) _).setCell (p := ⟨st, 0, none⟩) (.inl rfl) _
  have hps : Ps W' (fun g => g ≠ st ∧ ¬ row (.slice A' (k + 1) c') g) (ts.take k ++ [t]) (s.take k ++ [p]) := by
    have hG : ∀ g, g < W.heap.size → (g ≠ st ∧ ¬ row (.slice A s.length c) g) → (g ≠ st ∧ ¬ row (.slice A' (k + 1) c') g) ∧ ¬ row (.slice A s.length c) g := fun g hg h2 => ⟨⟨h2.1, fun e => (hr g e).elim h2.2 fun e2 => by omega⟩, h2.2⟩
    exact ((((h.ps.take k).snoc hp).mono hG).mod hm fun g _ h2 => h2.2).mono fun g _ h2 => h2.1
  refine ⟨⟨?_, ?_, ?_, ?_, ?_⟩, ?_⟩
  · rw [hl]; exact World.cell?_setCell_same' _ _ _ (by rw [e0]; rfl)
  · exact (World.cell?_setCell_other _ _ _ _ (by simp)).trans e1
  · rw [World.frozen?_setCell]; exact (World.frozen?_of_block hb).trans h.f0
  · rw [hl, flat3_append]
    refine (ho.mono fun g _ _ hg => ?_).mod m2 fun g _ _ hg e => ?_
    · exact hg.elim id fun hg => by omega
    · have : st < g := hg
      omega
  · rw [hl]
    exact hps.mod m2 fun g _ h2 e => h2.1 e
  · have b1 : Below st W W' := below_mod (Below.refl _ _) (by omega) hm fun g hg => by have := (h.own.row hg).1; omega
    exact below_mod b1 (by have := hm.size; omega) m2 fun g hg => by omega
end

/-! ### a map with keys of one byte -/
def key8 (x : MapEntry) : Int := intOf x.key
theorem findNow_u8 (v : Int) : ∀ (l : List MapEntry) (i : Nat), (∀ x ∈ l, ∃ n, x.key = .int .u8 n) →
    Instr.findNow (.int .u8) (.int .u8 v) l i = some ((l.findIdx? (fun x => key8 x == v)).bind fun j => (l[j]?).map fun x => (i + j, x.val))
  | [], i, _ => by simp [Instr.findNow]
  | x :: l, i, h => by
    obtain ⟨n, hn⟩ := h x (by simp)
    have ih := findNow_u8 v l (i + 1) (fun y hy => h y (by simp [hy]))
    have hk : key8 x = n := by simp [key8, hn, intOf]
    by_cases hvn : v = n
    · subst hvn
      simp [Instr.findNow, Instr.sameNow, hn, List.findIdx?_cons, hk]
    · have h1 : (v == n) = false := by simpa using hvn
      have h2 : (n == v) = false := by simpa using fun e => hvn e.symm
      simp only [Instr.findNow, Instr.sameNow, hn, h1, ih, List.findIdx?_cons, hk, h2]
      cases hf : l.findIdx? (fun x => key8 x == v) with
      | none => simp
      | some j => simp [Nat.add_assoc, Nat.add_comm 1 j]
theorem checkKey_u8 {P : Program} {k : TypeId} (hk : P.underlying k = some (.int .u8)) (b : Bool) (n : Nat) (v : Int) (w : World) :
    (Instr.checkKey b (n + 1) k (.int .u8 v)).run P w = .ok () w := by
  simp [Instr.checkKey, run_underlying hk]
theorem findKey_u8 {P : Program} {k : TypeId} (hk : P.underlying k = some (.int .u8)) (v : Int) (l : List MapEntry) (hl : ∀ x ∈ l, ∃ n, x.key = .int .u8 n) (w : World) :
    (Instr.findKey k (.int .u8 v) l).run P w = .ok ((l.findIdx? (fun x => key8 x == v)).bind fun j => (l[j]?).map fun x => (j, x.val)) w := by
  simp [Instr.findKey, run_underlying hk, findNow_u8 v l 0 hl]
theorem lookup_u8 {P : Program} {t k e : TypeId} {z : Value} (ht : P.underlying t = some (.map k e)) (hk : P.underlying k = some (.int .u8)) (v : Int) {w : World}
    (hz : (zeroValue e).run P w = .ok z w) {m : Nat} {es : Array MapEntry} {clock : Nat}
    (hm : w.heap[m]? = some (.map es clock)) (hl : ∀ x ∈ es.toList, ∃ n, x.key = .int .u8 n) :
    (Instr.lookup t (.map (some m)) (.int .u8 v) true).run P w = .ok (match (es.toList.findIdx? (fun x => key8 x == v)).bind fun j => es.toList[j]? with
      | some x => .tuple #[x.val, .bool true]
      | none => .tuple #[z, .bool false]) w := by
  have hc := checkKey_u8 (P := P) hk es.isEmpty 9999 v w
  have hf := findKey_u8 (P := P) hk v es.toList hl w
  simp only [Instr.lookup]
  simp [run_underlying ht, MapKept.run_getObj_map hm, hc, hf]
  cases h : es.toList.findIdx? (fun x => key8 x == v) with
  | none => simp [hz]
  | some j =>
    have hj : j < es.toList.length := by
      have := List.findIdx?_eq_some_iff_getElem.1 h
      exact this.1
    simp at hj
    simp [hj]
open Go.ChangeMaps Go.MapKept in
theorem update_u8_new {P : Program} {t k e : TypeId} (ht : P.underlying t = some (.map k e)) (hk : P.underlying k = some (.int .u8)) (v : Int) {w : World}
    {m : Nat} {es : Array MapEntry} {clock : Nat}
    (hm : w.heap[m]? = some (.map es clock)) (hl : ∀ x ∈ es.toList, ∃ n, x.key = .int .u8 n) (hno : es.toList.findIdx? (fun x => key8 x == v) = none) (val : Value) :
    (Instr.mapUpdate t (.map (some m)) (.int .u8 v) val).run P w = .ok () (setBlock w m (.map (es.push { key := .int .u8 v, val, born := clock }) (clock + 1))) := by
  have hc := checkKey_u8 (P := P) hk false 9999 v w
  have hf := findKey_u8 (P := P) hk v es.toList hl w
  simp only [Instr.mapUpdate]
  simp [run_underlying ht, MapKept.run_getObj_map hm, hc, hf, hno, MapKept.run_setObj_map _ hm, setBlock]
end

section
open Go.RowKit

/-- What a step of the stack leaves. -/
def StepTo (st : Nat) (dv : Value) (W W' : World) (r : Ending) (x : List Pb × Int) : Prop := r = .returned (.int .i64 x.2) ∧ (x.2 = 0 → ∃ A c ts, Stk st dv W' A c ts x.1) ∧ Below st W W'
theorem pb_one {w : World} {F : Nat → Prop} {A B : Option Addr} {n c m d : Nat} {z : Int} {p : Pb} (_h : PbRd w F (.agg #[.slice A n c, .slice B m d, .int .i64 z]) p) : ∀ u ∈ [Value.slice A n c, .slice B m d, .int .i64 z], u.oneCell' = true := by
  intro u hu
  simp only [List.mem_cons, List.not_mem_nil, or_false] at hu
  rcases hu with rfl | rfl | rfl <;> rfl

set_option maxRecDepth 100000 in
set_option maxHeartbeats 4000000 in
theorem push_any {W : World} {st sb : Nat} {A D : Option Addr} {c dn dc : Nat} {ts : List (Value × Value × Value)} {s db : List Pb} {n : Int} (hb : W.cell? ⟨sb, 0, none⟩ = some (.pointer (some ⟨st, 0, none⟩))) (hS : Stk st (.slice D dn dc) W A c ts s)
    (hd : PsRd W (fun g => g < st) (fun g => g < st) D dn dc db) (hsr : ¬ row (.slice A s.length c) sb) (hlen : s.length ≤ 1000) :
    Calls Tryd.prog 69 #[.int .i64 n, .pointer (some ⟨sb, 0, none⟩)] W fun r W' => StepTo st (.slice D dn dc) W W' r (stepB db s ⟨1, n⟩) := by
  obtain ⟨x, hx⟩ : ∃ x, stepB db s ⟨1, n⟩ = x := ⟨_, rfl⟩
  rw [hx]
  have Hx := hid hx
  clear hx
  have hdl : db.length = dn := by obtain ⟨_, _, _, h⟩ := hd; exact h
  have hdn : dn ≤ 9223372036854775807 := by obtain ⟨_, h, _⟩ := hd; have := h.len; unfold maxLen at this; omega
  have s0 := hS.c0
  have s1 := hS.c1
  by_cases h0 : n < 0
  · obtain rfl : x = (s, 2) := by rw [← Hx.out]; simp [stepB, h0]
    clear Hx hS hd
    go_enter Tryd.func69, Tryd.ntmps69
    go_wp2_with fail
    go_ret
    exact ⟨rfl, fun h => absurd (show (2 : Int) = 0 from h) (by decide), Below.refl _ _⟩
  · by_cases h1 : (dn : Int) ≤ n
    · have h1g : n ≥ (dn : Int) := h1
      obtain rfl : x = (s, 2) := by rw [← Hx.out]; simp [stepB, hdl, h1]
      clear Hx hS hd
      go_enter Tryd.func69, Tryd.ntmps69
      go_wp2_with fail
      go_ret
      exact ⟨rfl, fun h => absurd (show (2 : Int) = 0 from h) (by decide), Below.refl _ _⟩
    · obtain ⟨k, rfl⟩ : ∃ k : Nat, n = k := ⟨n.toNat, by omega⟩
      have h2 : ¬ ((k : Int) ≥ (dn : Int)) := h1
      have h3 : (k : Int) < (dn : Int) := by omega
      obtain ⟨gD, oD, p, A1, n1, c1, A2, n2, c2, rfl, hgD, hgD2, hpk, e0, e1, e2, hp⟩ := hd.cells (i := k) (by omega)
      obtain rfl : x = (s ++ [p], 0) := by
        rw [← Hx.out]
        have h4 : ¬ ((db.length : Int) ≤ (k : Int)) := by omega
        simp [stepB, pbAt, hpk]
        omega
      clear Hx hpk
      have hst : ¬ row (.slice A s.length c) st := fun e => by have := (hS.own.row e).1; omega
      have hel : ¬ row (.slice A s.length c) gD := fun e => by have := (hS.own.row e).1; omega
      go_enter Tryd.func69, Tryd.ntmps69
      go_upto_region 3 with fail
      -- PUSH
      refine wp_region_upto (S := fun w' => w'.cell? ⟨sb, 0, none⟩ = some (.pointer (some ⟨st, 0, none⟩)) ∧ w'.cell? ⟨st, 0, none⟩ = some (.slice A s.length c) ∧ w'.cell? ⟨st, 1, none⟩ = some (.slice (some ⟨gD, oD, none⟩) dn dc) ∧ w'.cell? ⟨gD, oD + k * 3, none⟩ = some (.slice A1 n1 c1) ∧ w'.cell? ⟨gD, oD + k * 3 + 1, none⟩ = some (.slice A2 n2 c2) ∧ w'.cell? ⟨gD, oD + k * 3 + 2, none⟩ = some (.int .i64 p.bound)) 16 (by kernel_rfl) ⟨hb, hS.c0, hS.c1, e0, e1, e2⟩ (fun hHeld => ?_)
      obtain ⟨WD, hWD⟩ : ∃ X, W.drew = X := ⟨_, rfl⟩
      have bD : Below W.heap.size W W.drew := Bl.drew (Below.refl _ _)
      have hSD := hid (hS.below bD)
      have hpD := hid (hp.below bD)
      have sD : W.heap.size ≤ W.drew.heap.size := Nat.le_refl _
      have hlt := hS.lt
      rw [hWD] at hHeld hSD hpD bD sD ⊢
      clear hWD hb hS hd hp e0 e1 e2
      refine wpAnyU_take [16, 15, 14] (i := 0) (oi := ⟨_, _, _, _, _, _⟩) (v := ?_) rfl (by kernel_rfl) (by kernel_rfl) (by kernel_rfl) (by kernel_rfl) (fun _ _ _ h => h) (Or.inl ⟨by rfl, ?_⟩) hHeld ?_
      rotate_left
      · intro w hSw
        try dsimp only at hSw
        obtain ⟨hS0, hS1, hS2, hS3, hS4, hS5⟩ := hSw
        go_simp
        try with_reducible rfl
      simp only [Act.put, List.setIfInBounds_toArray, List.set_cons_zero, List.set_cons_succ]
      refine wpAnyU_take [16, 13, 4, 3, 2] (i := 1) (oi := ⟨_, _, _, _, _, _⟩) (v := ?_) rfl (by kernel_rfl) (by kernel_rfl) (by kernel_rfl) (by kernel_rfl) (fun _ _ _ h => h) (Or.inl ⟨by rfl, ?_⟩) hHeld ?_
      rotate_left
      · intro w hSw
        try dsimp only at hSw
        obtain ⟨hS0, hS1, hS2, hS3, hS4, hS5⟩ := hSw
        go_simp
        try with_reducible rfl
      simp only [Act.put, List.setIfInBounds_toArray, List.set_cons_zero, List.set_cons_succ]
      refine wpAnyU_take [16, 13, 12, 11, 10, 8, 7, 6] (i := 5) (oi := ⟨_, _, _, _, _, _⟩) (v := ?_) rfl (by kernel_rfl) (by kernel_rfl) (by kernel_rfl) (by kernel_rfl) (fun _ _ _ h => h) (Or.inl ⟨by rfl, ?_⟩) hHeld ?_
      rotate_left
      · intro w hSw
        try dsimp only at hSw
        obtain ⟨hS0, hS1, hS2, hS3, hS4, hS5⟩ := hSw
        go_simp
        try with_reducible rfl
      simp only [Act.put, List.setIfInBounds_toArray, List.set_cons_zero, List.set_cons_succ]
      refine wpAnyU_any (i := 9) (oi := ⟨_, _, _, _, _, _⟩) (v := ?_) rfl (by kernel_rfl) (by kernel_rfl) (by kernel_rfl) (by rfl) (fun _ _ _ h => h) (Or.inl ⟨by rfl, ?_⟩) hHeld ?_
      rotate_left
      · intro w _
        go_simp
        try with_reducible rfl
      simp only [Act.put, List.setIfInBounds_toArray, List.set_cons_zero, List.set_cons_succ]
      refine wpAnyU_any (i := 2) (oi := ⟨_, _, _, _, _, _⟩) (v := ?_) rfl (by kernel_rfl) (by kernel_rfl) (by kernel_rfl) (by rfl) (fun _ _ _ h => h) (Or.inl ⟨by rfl, ?_⟩) hHeld ?_
      rotate_left
      · intro w _
        go_simp
        try with_reducible rfl
      simp only [Act.put, List.setIfInBounds_toArray, List.set_cons_zero, List.set_cons_succ]
      refine wpAnyU_any (i := 6) (oi := ⟨_, _, _, _, _, _⟩) (v := ?_) rfl (by kernel_rfl) (by kernel_rfl) (by kernel_rfl) (by rfl) (fun _ _ _ h => h) (Or.inl ⟨by rfl, ?_⟩) hHeld ?_
      rotate_left
      · intro w _
        go_simp
        try with_reducible rfl
      simp only [Act.put, List.setIfInBounds_toArray, List.set_cons_zero, List.set_cons_succ]
      refine wpAnyU_any (i := 3) (oi := ⟨_, _, _, _, _, _⟩) (v := ?_) rfl (by kernel_rfl) (by kernel_rfl) (by kernel_rfl) (by rfl) (fun _ _ _ h => h) (Or.inl ⟨by rfl, ?_⟩) hHeld ?_
      rotate_left
      · intro w _
        go_simp
        try with_reducible rfl
      simp only [Act.put, List.setIfInBounds_toArray, List.set_cons_zero, List.set_cons_succ]
      refine wpAnyU_any (i := 7) (oi := ⟨_, _, _, _, _, _⟩) (v := ?_) rfl (by kernel_rfl) (by kernel_rfl) (by kernel_rfl) (by rfl) (fun _ _ _ h => h) (Or.inl ⟨by rfl, ?_⟩) hHeld ?_
      rotate_left
      · intro w _
        go_simp
        try with_reducible rfl
      simp only [Act.put, List.setIfInBounds_toArray, List.set_cons_zero, List.set_cons_succ]
      refine wpAnyU_take [16, 13] (i := 4) (oi := ⟨_, _, _, _, _, _⟩) (v := ?_) rfl (by kernel_rfl) (by kernel_rfl) (by kernel_rfl) (by kernel_rfl) (fun _ _ _ h => h) (Or.inl ⟨by rfl, ?_⟩) hHeld ?_
      rotate_left
      · intro w hSw
        try dsimp only at hSw
        obtain ⟨hS0, hS1, hS2, hS3, hS4, hS5⟩ := hSw
        go_simp
        try with_reducible rfl
      simp only [Act.put, List.setIfInBounds_toArray, List.set_cons_zero, List.set_cons_succ]
      refine wpAnyU_take [16, 13, 12, 11, 10] (i := 8) (oi := ⟨_, _, _, _, _, _⟩) (v := ?_) rfl (by kernel_rfl) (by kernel_rfl) (by kernel_rfl) (by kernel_rfl) (fun _ _ _ h => h) (Or.inl ⟨by rfl, ?_⟩) hHeld ?_
      rotate_left
      · intro w hSw
        try dsimp only at hSw
        obtain ⟨hS0, hS1, hS2, hS3, hS4, hS5⟩ := hSw
        go_simp
        try with_reducible rfl
      simp only [Act.put, List.setIfInBounds_toArray, List.set_cons_zero, List.set_cons_succ]
      refine wpAnyU_any (i := 10) (oi := ⟨_, _, _, _, _, _⟩) (v := ?_) rfl (by kernel_rfl) (by kernel_rfl) (by kernel_rfl) (by rfl) (fun _ _ _ h => h) (Or.inl ⟨by rfl, ?_⟩) hHeld ?_
      rotate_left
      · intro w _
        go_simp
        try with_reducible rfl
      simp only [Act.put, List.setIfInBounds_toArray, List.set_cons_zero, List.set_cons_succ]
      refine wpAnyU_take [16, 13, 12] (i := 11) (oi := ⟨_, _, _, _, _, _⟩) (v := ?_) rfl (by kernel_rfl) (by kernel_rfl) (by kernel_rfl) (by kernel_rfl) (fun _ _ _ h => h) (Or.inl ⟨by rfl, ?_⟩) hHeld ?_
      rotate_left
      · intro w hSw
        try dsimp only at hSw
        obtain ⟨hS0, hS1, hS2, hS3, hS4, hS5⟩ := hSw
        go_simp
        try with_reducible rfl
      simp only [Act.put, List.setIfInBounds_toArray, List.set_cons_zero, List.set_cons_succ]
      refine wpAnyU_ready (rs := [12]) (by kernel_rfl) (by simp) ?_
      refine AllReadyU.cons (o := ⟨_, _, _, _, _, _⟩) rfl (fun K hK => ?_) ?_
      · skip
        go_simp
        obtain ⟨X, hX, bX, kX, sX⟩ := alloc_step WD (.cells #[.slice A1 n1 c1, .slice A2 n2 c2, .int .i64 p.bound] 24)
        rw [hX]
        refine hK.out _ _ ⟨keep_cell hHeld.1 bX, keep_cell hHeld.2.1 bX, keep_cell hHeld.2.2.1 bX, keep_cell hHeld.2.2.2.1 bX, keep_cell hHeld.2.2.2.2.1 bX, keep_cell hHeld.2.2.2.2.2 bX⟩ (fun hHeld => ?_)
        clear hK K
        have hS2 := hid (hSD.out.below bX)
        have hp2 := hid (hpD.out.below bX)
        have rl := hid (rd_lit3 kX)
        have bWX : Below st W X := (bD.trans (bX.mono bD.size)).mono (by omega)
        have sWX := bX.size
        clear hX kX sX bX
        try simp only [Act.put, List.setIfInBounds_toArray, List.set_cons_zero, List.set_cons_succ]
        refine wpAnyU_ready (rs := [13]) (by kernel_rfl) (by simp) ?_
        refine AllReadyU.cons (o := ⟨_, _, _, _, _, _⟩) rfl (fun K hK => ?_) ?_
        · skip
          refine step_append_pb rfl _ _ rfl hS2.out.own rl.out rfl rfl (pb_one hp2.out) (by omega) ?_
          intro A3 c3 W3 ho3 hm3 hr3
          refine hK.out _ _ ⟨(World.cell?_of_block (hm3.block _ (World.block_lt_of_cell? _ _ hHeld.1) hsr)).trans hHeld.1, (World.cell?_of_block (hm3.block _ (World.block_lt_of_cell? _ _ hHeld.2.1) hst)).trans hHeld.2.1, (World.cell?_of_block (hm3.block _ (World.block_lt_of_cell? _ _ hHeld.2.2.1) hst)).trans hHeld.2.2.1, (World.cell?_of_block (hm3.block _ (World.block_lt_of_cell? _ _ hHeld.2.2.2.1) hel)).trans hHeld.2.2.2.1, (World.cell?_of_block (hm3.block _ (World.block_lt_of_cell? _ _ hHeld.2.2.2.2.1) hel)).trans hHeld.2.2.2.2.1, (World.cell?_of_block (hm3.block _ (World.block_lt_of_cell? _ _ hHeld.2.2.2.2.2) hel)).trans hHeld.2.2.2.2.2⟩ (fun hHeld => ?_)
          clear hK K
          have hE := hid (hS2.out.push (Nat.le_refl _) (t := (_, _, _)) (p := p) (by rw [List.take_of_length_le (by rw [hS2.out.ps.1]; exact Nat.le_refl _)]; exact ho3) hm3 hr3 (hp2.out.mono fun g _ hg => ⟨by omega, fun e => by have := (hS2.out.own.row e).1; omega⟩))
          have g0 : W3.cell? ⟨st, 0, none⟩ = some (.slice A s.length c) := (World.cell?_of_block (hm3.block _ hS2.out.lt hst)).trans hS2.out.c0
          have q0 : W3.frozen? ⟨st, 0, none⟩ = false := (World.frozen?_of_block (hm3.block _ hS2.out.lt hst)).trans hS2.out.f0
          clear ho3 hm3 hr3
          try simp only [Act.put, List.setIfInBounds_toArray, List.set_cons_zero, List.set_cons_succ]
          refine wpAnyU_any (i := 14) (oi := ⟨_, _, _, _, _, _⟩) (v := ?_) rfl (by kernel_rfl) (by kernel_rfl) (by kernel_rfl) (by rfl) (fun _ _ _ h => h) (Or.inl ⟨by rfl, ?_⟩) hHeld ?_
          rotate_left
          · intro w _
            go_simp
            try with_reducible rfl
          simp only [Act.put, List.setIfInBounds_toArray, List.set_cons_zero, List.set_cons_succ]
          refine wpAnyU_any (i := 15) (oi := ⟨_, _, _, _, _, _⟩) (v := ?_) rfl (by kernel_rfl) (by kernel_rfl) (by kernel_rfl) (by rfl) (fun _ _ _ h => h) (Or.inl ⟨by rfl, ?_⟩) hHeld ?_
          rotate_left
          · intro w _
            go_simp
            try with_reducible rfl
          simp only [Act.put, List.setIfInBounds_toArray, List.set_cons_zero, List.set_cons_succ]
          refine wpAnyU_ready (rs := [16]) (by kernel_rfl) (by simp) ?_
          refine AllReadyU.late (o := ⟨_, _, _, _, _, _⟩) rfl (by rfl) (fun K hK => ?_) ?_
          · skip
            go_simp
            refine hK.out _ _ ?_
            clear hK K
            try simp only [Act.put, List.setIfInBounds_toArray, List.set_cons_zero, List.set_cons_succ]
            refine wpAnyU_done (by kernel_rfl) ?_ _
            have hl : s.take s.length = s := List.take_length
            go_wp2_with fail
            go_ret
            obtain ⟨hE1, hE2⟩ := hE.out
            rw [hl] at hE1
            exact ⟨rfl, fun _ => ⟨_, _, _, hE1⟩, bWX.trans hE2⟩
          exact AllReadyU.nil
        exact AllReadyU.nil
      exact AllReadyU.nil
      -- END PUSH
end

section
open Go.RowKit

theorem set_last {α : Type} {s : List α} {k : Nat} {x : α} (h : s.length = k + 1) : s.set k x = s.take k ++ [x] := by
  apply List.ext_getElem
  · simp; omega
  · intro i h1 h2
    rw [List.getElem_set]
    split
    · rename_i e
      subst e
      rw [List.getElem_append_right (by rw [List.length_take]; omega)]
      simp
    · rw [List.getElem_append_left (by simp at h1 ⊢; omega), List.getElem_take]
theorem rd_capN {w : World} {F : Nat → Prop} {A : Option Addr} {q n c : Nat} {xs : List Value} (h : Rd w F q (.slice A n c) n xs) : n ≤ c := by
  obtain ⟨_, _, c', hv, h1, _⟩ := h
  injection hv with _ _ h3
  omega
section
variable {st : Nat} {dv : Value} {W W' : World} {A : Option Addr} {c : Nat} {ts : List (Value × Value × Value)} {s : List Pb}
/-- A constraint of the stack. -/
theorem Stk.elem (h : Stk st dv W A c ts s) {k : Nat} (hk : k < s.length) : ∃ g A1 n1 c1 A2 n2 c2, A = some ⟨g, 0, none⟩ ∧ st < g ∧ g < W.heap.size ∧ row (.slice A s.length c) g ∧
    W.cell? ⟨g, k * 3, none⟩ = some (.slice A1 n1 c1) ∧ W.cell? ⟨g, k * 3 + 1, none⟩ = some (.slice A2 n2 c2) ∧ W.cell? ⟨g, k * 3 + 2, none⟩ = some (.int .i64 (pbAt s k).bound) ∧
    W.frozen? ⟨g, k * 3, none⟩ = false ∧ W.frozen? ⟨g, k * 3 + 1, none⟩ = false ∧ W.frozen? ⟨g, k * 3 + 2, none⟩ = false ∧
    PbRd W (fun g => g ≠ st ∧ ¬ row (.slice A s.length c) g) (.agg #[.slice A1 n1 c1, .slice A2 n2 c2, .int .i64 (pbAt s k).bound]) (pbAt s k) := by
  obtain ⟨g, e1, h1, h2, h3, h4⟩ := h.own.cell (j := k * 3) (by omega)
  obtain ⟨g', e1', _, _, h5, h6⟩ := h.own.cell (j := k * 3 + 1) (by omega)
  obtain ⟨g'', e1'', _, _, h7, h8⟩ := h.own.cell (j := k * 3 + 2) (by omega)
  have e2 : g' = g := by have := e1'.symm.trans e1; injection this with this; injection this
  have e3 : g'' = g := by have := e1''.symm.trans e1; injection this with this; injection this
  subst e2
  subst e3
  have hl := h.ps.1
  have hq : s[k]? = some (pbAt s k) := pbAt_get hk
  have ht : ts[k]? = some (ts[k]'(by omega)) := List.getElem?_eq_getElem (by omega)
  obtain ⟨c0, c1', c2'⟩ := flat3_get ts k _ ht
  have hr := h.ps.2 k _ _ ht hq
  obtain ⟨A1, n1, d1, A2, n2, d2, hv, r1, r2⟩ := hr.form
  unfold agg3 at hv
  injection hv with hv
  have f1 := congrArg (·[0]?) hv
  have f2 := congrArg (·[1]?) hv
  have f3 := congrArg (·[2]?) hv
  simp only [List.getElem?_toArray, List.getElem?_cons_zero, List.getElem?_cons_succ, Option.some.injEq] at f1 f2 f3
  rw [f1] at c0
  rw [f2] at c1'
  rw [f3] at c2'
  have hrow : row (.slice A s.length c) g'' := by
    have hc : 0 < c := by
      have := rd_capN h.own.rd
      omega
    rw [e1]
    exact ⟨hc, rfl⟩
  exact ⟨g'', A1, n1, d1, A2, n2, d2, e1, h1, h2, hrow, h3.trans c0, h5.trans c1', h7.trans c2', h4, h6, h8, ⟨A1, n1, d1, A2, n2, d2, rfl, r1, r2⟩, hr.bnd⟩
/-- A constraint of the stack is stored. -/
theorem Stk.store {g : Nat} (h : Stk st dv W (some ⟨g, 0, none⟩) c ts s) {k : Nat} (hk : k < s.length) {t : Value × Value × Value} {p : Pb} (hp : PbRd W (fun b => b ≠ st ∧ ¬ row (.slice (some ⟨g, 0, none⟩) s.length c) b) (agg3 t) p) :
    Stk st dv (((W.setCell ⟨g, k * 3, none⟩ t.1).setCell ⟨g, k * 3 + 1, none⟩ t.2.1).setCell ⟨g, k * 3 + 2, none⟩ t.2.2) (some ⟨g, 0, none⟩) c (ts.set k t) (s.set k p) ∧
    Below st W (((W.setCell ⟨g, k * 3, none⟩ t.1).setCell ⟨g, k * 3 + 1, none⟩ t.2.1).setCell ⟨g, k * 3 + 2, none⟩ t.2.2) ∧ Mod (fun b => b = g) W (((W.setCell ⟨g, k * 3, none⟩ t.1).setCell ⟨g, k * 3 + 1, none⟩ t.2.1).setCell ⟨g, k * 3 + 2, none⟩ t.2.2) := by
  obtain ⟨g', _, _, _, _, _, _, e1, h1, h2, hrow, _⟩ := h.elem hk
  injection e1 with e1
  injection e1 with e1
  subst e1
  have m : Mod (fun b => b = g) W (((W.setCell ⟨g, k * 3, none⟩ t.1).setCell ⟨g, k * 3 + 1, none⟩ t.2.1).setCell ⟨g, k * 3 + 2, none⟩ t.2.2) :=
    (((Mod.refl (fun b => b = g) W).setCell (p := ⟨g, k * 3, none⟩) (.inl rfl) _).setCell (p := ⟨g, k * 3 + 1, none⟩) (.inl rfl) _).setCell (p := ⟨g, k * 3 + 2, none⟩) (.inl rfl) _
  have hl : (s.set k p).length = s.length := List.length_set
  have hb := m.block st h.lt (by omega)
  refine ⟨⟨?_, ?_, ?_, ?_, ?_⟩, below_mod (Below.refl _ _) (by omega) m fun b e => by omega, m⟩
  · rw [hl]; exact (World.cell?_of_block hb).trans h.c0
  · exact (World.cell?_of_block hb).trans h.c1
  · exact (World.frozen?_of_block hb).trans h.f0
  · rw [hl, ← flat3_set]
    exact ((h.own.stored _).stored _).stored _
  · rw [hl]
    exact (h.ps.set k hp).mod m fun b _ hb e => hb.2 (e ▸ hrow)
end
set_option maxRecDepth 100000 in
set_option maxHeartbeats 4000000 in
theorem top_any {W : World} {st f : Nat} {dv : Value} {A : Option Addr} {c : Nat} {ts : List (Value × Value × Value)} {s : List Pb} {n : Int} {op : Pb → Pb × Int} (hS : Stk st dv W A c ts s) (hok : ∀ p ∈ s, p.Ok)
    (eg : ∀ args w, (callFunc f args).run Tryd.prog w = .ok (.enter f args) w)
    (hf : ∀ (F : Nat → Prop) (v : Value) (p : Pb), PbRd W F v p → (∀ k ∈ p.coefs, I64 k) → Calls Tryd.prog f #[v, .int .i64 n] W fun r W' => Gives W W' r (op p)) :
    Calls Tryd.prog 72 #[.pointer (some ⟨st, 0, none⟩), .func (.func f) #[] #[], .int .i64 n] W fun r W' => StepTo st dv W W' r (if s.length < 1 then (s, 2) else (s.take (s.length - 1) ++ [(op (pbAt s (s.length - 1))).1], (op (pbAt s (s.length - 1))).2)) := by
  by_cases h0 : s.length = 0
  · obtain rfl : s = [] := List.length_eq_zero_iff.1 h0
    have s0 := hS.c0
    have hn : IntKind.i64.wrap (0 - 1) = -1 := by decide
    clear hS hf hok
    go_enter Tryd.func72, Tryd.ntmps72
    go_wp2_with fail
    go_ret
    exact ⟨rfl, fun h => absurd (show (2 : Int) = 0 from h) (by decide), Below.refl _ _⟩
  · obtain ⟨k, hk⟩ : ∃ k, s.length = k + 1 := ⟨s.length - 1, by omega⟩
    have e : s.length - 1 = k := by omega
    rw [if_neg (by omega), e]
    obtain ⟨R, hR⟩ : ∃ R, op (pbAt s k) = R := ⟨_, rfl⟩
    rw [hR]
    have HR := hid hR
    have hpk := hok _ (pbAt_mem (s := s) (i := k) (by omega))
    have hSS := hid hS
    obtain ⟨g, A1, n1, c1, A2, n2, c2, rfl, hg1, hg2, hrow, e0, e1, e2, _, _, _, hp⟩ := hS.elem (k := k) (by omega)
    have s0 := hS.c0
    have hmx : s.length ≤ 9223372036854775807 := by have := hS.own.rd.len; unfold maxLen at this; omega
    have hw : IntKind.i64.wrap ((s.length : Int) - 1) = (k : Int) := by rw [iw' (by omega) (by omega)]; omega
    have hk1 : ¬ ((k : Int) < 0) := by omega
    have hk2 : (k : Int) < (s.length : Int) := by omega
    have Hp := hid hp
    have Hi := hid hpk.i64
    have Hk := hid hk
    clear hp hpk hok hR hS e h0 hk
    go_enter Tryd.func72, Tryd.ntmps72
    go_wp2_with fail
    refine (hf _ _ _ Hp.out Hi.out).mono ?_
    rintro r W1 ⟨⟨pv, rfl, hpv⟩, bv⟩
    rw [HR.out] at hpv ⊢
    obtain ⟨⟨B1, m1, d1, B2, m2, d2, rfl, r1, r2⟩, hb1⟩ := hpv
    have hS1 := hid (hSS.out.below bv)
    have hp1 := hid (PbRd.mk ⟨B1, m1, d1, B2, m2, d2, rfl, r1, r2⟩ hb1 : PbRd W1 (fun g => W.heap.size ≤ g) (.agg #[.slice B1 m1 d1, .slice B2 m2 d2, .int .i64 R.1.bound]) R.1)
    have sW1 := bv.size
    have hlt := hSS.out.lt
    have BW1 := hid (bv.mono (show st ≤ W.heap.size by omega))
    clear r1 r2 hb1 bv e0 e1 e2 s0 hSS Hp Hi hf
    go_upto_region 5 with fail
    obtain ⟨W3, hW3, bW3, k3, s3⟩ := alloc_step W1 (.cells #[.slice B1 m1 d1, .slice B2 m2 d2, .int .i64 R.1.bound] 24)
    rw [hW3]
    have hS3 := hid (hS1.out.below bW3)
    have hp3 := hid (((hp1.out.mono (G := fun b => b ≠ st ∧ ¬ row (.slice (some ⟨g, 0, none⟩) s.length c) b) fun b _ hb => ⟨by omega, fun e => by have : g = b := e.2; omega⟩)).below bW3)
    have B3 := hid (BW1.out.trans (bW3.mono (by omega)))
    obtain ⟨tb, htb⟩ : ∃ t, W1.heap.size = t := ⟨_, rfl⟩
    rw [htb] at k3 s3 ⊢
    obtain ⟨b0, b1, b2⟩ := box3 k3
    have ht3 : tb < W3.heap.size := by omega
    clear hW3 bW3 k3 hS1 hp1 BW1
    -- TOP
    refine wp_region_held_drew (S := fun w' => w'.cell? ⟨st, 0, none⟩ = some (.slice (some ⟨g, 0, none⟩) s.length c) ∧ w'.cell? ⟨tb, 0, none⟩ = some (.slice B1 m1 d1) ∧ w'.cell? ⟨tb, 1, none⟩ = some (.slice B2 m2 d2) ∧ w'.cell? ⟨tb, 2, none⟩ = some (.int .i64 R.1.bound)) (by kernel_rfl) ⟨hS3.out.c0, b0, b1, b2⟩ (fun hHeld => ?_)
    obtain ⟨WD, hWD⟩ : ∃ X, W3.drew = X := ⟨_, rfl⟩
    have bD : Below W3.heap.size W3 W3.drew := Bl.drew (Below.refl _ _)
    have hSD := hid (hS3.out.below bD)
    have hpD := hid (hp3.out.below bD)
    have bW : Below st W W3.drew := B3.out.drew
    have htb : tb < W3.drew.heap.size := ht3
    rw [hWD] at hHeld hSD hpD htb bW ⊢
    obtain ⟨g0, _, _, _, _, _, _, eg1, zg, zg2, zrow, z0, z1, z2, q0, q1, q2, _⟩ := hSD.out.elem (k := k) (by omega)
    injection eg1 with eg1
    injection eg1 with eg1
    subst eg1
    clear hWD bD hS3 hp3 B3 b0 b1 b2
    refine wpAnyH_take (i := 0) (oi := ⟨_, _, _, _, _, _⟩) (v := ?_) rfl (by kernel_rfl) (by kernel_rfl) (by kernel_rfl) (fun _ _ _ h => h) (Or.inl ⟨by rfl, ?_⟩) (by assumption) ?_
    rotate_left
    · intro w hSw
      try dsimp only at hSw
      go_simp
      try with_reducible rfl
    simp only [Act.put, List.setIfInBounds_toArray, List.set_cons_zero, List.set_cons_succ]
    refine wpAnyH_take (i := 4) (oi := ⟨_, _, _, _, _, _⟩) (v := ?_) rfl (by kernel_rfl) (by kernel_rfl) (by kernel_rfl) (fun _ _ _ h => h) (Or.inl ⟨by rfl, ?_⟩) (by assumption) ?_
    rotate_left
    · intro w hSw
      try dsimp only at hSw
      go_simp
      try with_reducible rfl
    simp only [Act.put, List.setIfInBounds_toArray, List.set_cons_zero, List.set_cons_succ]
    refine wpAnyH_take (i := 5) (oi := ⟨_, _, _, _, _, _⟩) (v := ?_) rfl (by kernel_rfl) (by kernel_rfl) (by kernel_rfl) (fun _ _ _ h => h) (Or.inl ⟨by rfl, ?_⟩) (by assumption) ?_
    rotate_left
    · intro w hSw
      try dsimp only at hSw
      go_simp
      try with_reducible rfl
    simp only [Act.put, List.setIfInBounds_toArray, List.set_cons_zero, List.set_cons_succ]
    refine wpAnyH_take (i := 1) (oi := ⟨_, _, _, _, _, _⟩) (v := ?_) rfl (by kernel_rfl) (by kernel_rfl) (by kernel_rfl) (fun _ _ _ h => h) (Or.inl ⟨by rfl, ?_⟩) (by assumption) ?_
    rotate_left
    · intro w hSw
      try dsimp only at hSw
      go_simp
      try with_reducible rfl
    simp only [Act.put, List.setIfInBounds_toArray, List.set_cons_zero, List.set_cons_succ]
    refine wpAnyH_take (i := 2) (oi := ⟨_, _, _, _, _, _⟩) (v := ?_) rfl (by kernel_rfl) (by kernel_rfl) (by kernel_rfl) (fun _ _ _ h => h) (Or.inl ⟨by rfl, ?_⟩) (by assumption) ?_
    rotate_left
    · intro w hSw
      try dsimp only at hSw
      go_simp
      try with_reducible rfl
    simp only [Act.put, List.setIfInBounds_toArray, List.set_cons_zero, List.set_cons_succ]
    refine wpAnyH_take (i := 3) (oi := ⟨_, _, _, _, _, _⟩) (v := ?_) rfl (by kernel_rfl) (by kernel_rfl) (by kernel_rfl) (fun _ _ _ h => h) (Or.inl ⟨by rfl, ?_⟩) (by assumption) ?_
    rotate_left
    · intro w hSw
      try dsimp only at hSw
      go_simp
      try with_reducible rfl
    simp only [Act.put, List.setIfInBounds_toArray, List.set_cons_zero, List.set_cons_succ]
    refine wpAnyH_take (i := 6) (oi := ⟨_, _, _, _, _, _⟩) (v := ?_) rfl (by kernel_rfl) (by kernel_rfl) (by kernel_rfl) (fun _ _ _ h => h) (Or.inl ⟨by rfl, ?_⟩) (by assumption) ?_
    rotate_left
    · intro w hSw
      try dsimp only at hSw
      go_simp
      try with_reducible rfl
    simp only [Act.put, List.setIfInBounds_toArray, List.set_cons_zero, List.set_cons_succ]
    refine wpAnyH_ready (rs := [7]) (by kernel_rfl) (by simp) (AllReadyH.cons (o := ⟨_, _, _, _, _, _⟩) rfl (fun K hK => ?_) AllReadyH.nil)
    go_simp
    obtain ⟨hE1, hE2, hE3⟩ := hSD.out.store (k := k) (t := (.slice B1 m1 d1, .slice B2 m2 d2, .int .i64 R.1.bound)) (p := R.1) (by omega) hpD.out
    refine hK.out _ _ ⟨(World.cell?_of_block (hE3.block st hSD.out.lt (by omega))).trans hHeld.1, (World.cell?_of_block (hE3.block tb htb (by omega))).trans hHeld.2.1, (World.cell?_of_block (hE3.block tb htb (by omega))).trans hHeld.2.2.1, (World.cell?_of_block (hE3.block tb htb (by omega))).trans hHeld.2.2.2⟩ (fun hHeld => ?_)
    clear hK K
    have hE := hid hE1
    have hF := hid hE2
    clear hE1 hE2 hE3
    try simp only [Act.put, List.setIfInBounds_toArray, List.set_cons_zero, List.set_cons_succ]
    refine wpAnyH_done (by kernel_rfl) ?_ _
    go_wp2_with fail
    go_ret
    have hE1 := hE.out
    rw [set_last Hk.out] at hE1
    exact ⟨rfl, fun _ => ⟨_, _, _, hE1⟩, bW.trans hF.out⟩
    -- END TOP
end

section
open Go.RowKit

theorem slice_pb {g n c i : Nat} (hi : i ≤ n) (hc : n ≤ c) (W : World) : (Instr.slice 36 (.slice (some ⟨g, 0, none⟩) n c) none (some (.int .i64 (i : Int))) none).run Tryd.prog W = .ok (.slice (some ⟨g, 0, none⟩) i c) W := by
  have h1 : (0 : Int) ≤ (i : Int) ∧ (i : Int) ≤ (c : Int) := by omega
  have h2 : (⟨g, 0, none⟩ : Addr).add 0 = ⟨g, 0, none⟩ := addr_add g 0 0
  simp [Instr.slice, Instr.sliceBounds, Instr.sliceBound, run_underlying Tryd.underlying36, asIntOf, h1, h2, Tryd.sizeOf24]
  exact fun h => absurd h (by omega)

set_option maxRecDepth 100000 in
set_option maxHeartbeats 8000000 in
theorem add2_any {W : World} {st sb : Nat} {dv : Value} {A : Option Addr} {c : Nat} {ts : List (Value × Value × Value)} {s db : List Pb} {n : Int} (hb : W.cell? ⟨sb, 0, none⟩ = some (.pointer (some ⟨st, 0, none⟩))) (hS : Stk st dv W A c ts s)
    (hok : ∀ p ∈ s, p.Ok) (hsr : ¬ row (.slice A s.length c) sb) (hlen : s.length ≤ 1000) :
    Calls Tryd.prog 70 #[.int .i64 n, .pointer (some ⟨sb, 0, none⟩)] W fun r W' => StepTo st dv W W' r (stepB db s ⟨2, n⟩) := by
  obtain ⟨x, hx⟩ : ∃ x, stepB db s ⟨2, n⟩ = x := ⟨_, rfl⟩
  rw [hx]
  have Hx := hid hx
  clear hx
  have s0 := hS.c0
  have hw : IntKind.i64.wrap ((s.length : Int) - 2) = (s.length : Int) - 2 := iw' (by omega) (by omega)
  by_cases h0 : s.length < 2
  · obtain rfl : x = (s, 2) := by rw [← Hx.out]; simp [stepB, h0]
    have h1 : (s.length : Int) - 2 < 0 := by omega
    clear Hx hS h0
    go_enter Tryd.func70, Tryd.ntmps70
    go_wp2_with fail
    go_ret
    exact ⟨rfl, fun h => absurd (show (2 : Int) = 0 from h) (by decide), Below.refl _ _⟩
  · obtain ⟨k, hk⟩ : ∃ k, s.length = k + 2 := ⟨s.length - 2, by omega⟩
    have hwk : IntKind.i64.wrap ((s.length : Int) - 2) = (k : Int) := by rw [hw]; omega
    have hk0 : ¬ ((k : Int) < 0) := by omega
    by_cases h1 : n = 0
    · subst h1
      obtain ⟨R, hR⟩ : ∃ R, (pbAt s k).addB (pbAt s (k + 1)) = R := ⟨_, rfl⟩
      have HR := hid hR
      obtain rfl : x = (s.take k ++ [R.1], R.2) := by
        rw [← Hx.out, ← hR]
        have e1 : s.length - 2 = k := by omega
        have e2 : s.length - 1 = k + 1 := by omega
        simp only [stepB, e1, e2]
        simp [h0]
      have hok1 := hok _ (pbAt_mem (s := s) (i := k) (by omega))
      have hok2 := hok _ (pbAt_mem (s := s) (i := k + 1) (by omega))
      have Hi1 := hid hok1.i64
      have Hi2 := hid hok2.i64
      have hSS := hid hS
      obtain ⟨g, A1, n1, c1, A2, n2, c2, rfl, hg1, hg2, hrow, e0, e1, e2, _, _, _, hp⟩ := hS.elem (k := k) (by omega)
      obtain ⟨g', B1, m1, d1, B2, m2, d2, e3, _, _, _, z0, z1, z2, _, _, _, hq⟩ := hS.elem (k := k + 1) (by omega)
      injection e3 with e3
      injection e3 with e3
      subst e3
      obtain ⟨p, hpp⟩ : ∃ p, pbAt s k = p := ⟨_, rfl⟩
      obtain ⟨q, hqq⟩ : ∃ q, pbAt s (k + 1) = q := ⟨_, rfl⟩
      rw [hpp] at HR Hi1 hp e2
      rw [hqq] at HR Hi2 hq z2
      have Hp := hid hp
      have Hq := hid hq
      have hst := hS.lt
      have hsbW : sb < W.heap.size := World.block_lt_of_cell? _ _ hb
      have hk1 : (k : Int) < (s.length : Int) := by omega
      have hk2 : (k : Int) + 1 < (s.length : Int) := by omega
      have hk3 : (0 : Int) ≤ (k : Int) + 1 := by omega
      have hw1 : IntKind.i64.wrap ((k : Int) + 1) = (k : Int) + 1 := iw' (by omega) (by omega)
      have hkl : k < s.length := by omega
      have hstr : ¬ row (.slice (some ⟨g, 0, none⟩) s.length c) st := fun e => by have h8 : g = st := e.2; omega
      have hcap := rd_capN hS.own.rd
      have hsl := fun X => slice_pb (g := g) (n := s.length) (c := c) (i := k) (by omega) hcap X
      have hst := hstr
      have hltst := hS.lt
      clear Hx hR hok hok1 hok2 hS h0 hk hw hpp hqq hp hq
      go_enter Tryd.func70, Tryd.ntmps70
      go_upto_region 4 with fail
      -- ADD2
      refine wp_region_held_drew (S := fun w' => w'.cell? ⟨sb, 0, none⟩ = some (.pointer (some ⟨st, 0, none⟩)) ∧ w'.cell? ⟨st, 0, none⟩ = some (.slice (some ⟨g, 0, none⟩) s.length c) ∧ w'.cell? ⟨g, k * 3, none⟩ = some (.slice A1 n1 c1) ∧ w'.cell? ⟨g, k * 3 + 1, none⟩ = some (.slice A2 n2 c2) ∧ w'.cell? ⟨g, k * 3 + 2, none⟩ = some (.int .i64 p.bound) ∧ w'.cell? ⟨g, (k + 1) * 3, none⟩ = some (.slice B1 m1 d1) ∧ w'.cell? ⟨g, (k + 1) * 3 + 1, none⟩ = some (.slice B2 m2 d2) ∧ w'.cell? ⟨g, (k + 1) * 3 + 2, none⟩ = some (.int .i64 q.bound) ∧ Hid (Below W.heap.size W w')) (by kernel_rfl) ⟨hb, hSS.out.c0, e0, e1, e2, z0, z1, z2, hid (Bl.drew (Below.refl _ _))⟩ (fun hHeld => ?_)
      obtain ⟨WD, hWD⟩ : ∃ X, W.drew = X := ⟨_, rfl⟩
      rw [hWD] at hHeld ⊢
      clear hWD hb e0 e1 e2 z0 z1 z2 s0
      refine wpAnyH_take (i := 0) (oi := ⟨_, _, _, _, _, _⟩) (v := ?_) rfl (by kernel_rfl) (by kernel_rfl) (by kernel_rfl) (fun _ _ _ h => h) (Or.inl ⟨by rfl, ?_⟩) (by assumption) ?_
      rotate_left
      · intro w hSw
        try dsimp only at hSw
        go_simp
        try with_reducible rfl
      simp only [Act.put, List.setIfInBounds_toArray, List.set_cons_zero, List.set_cons_succ]
      refine wpAnyH_take (i := 4) (oi := ⟨_, _, _, _, _, _⟩) (v := ?_) rfl (by kernel_rfl) (by kernel_rfl) (by kernel_rfl) (fun _ _ _ h => h) (Or.inl ⟨by rfl, ?_⟩) (by assumption) ?_
      rotate_left
      · intro w hSw
        try dsimp only at hSw
        go_simp
        try with_reducible rfl
      simp only [Act.put, List.setIfInBounds_toArray, List.set_cons_zero, List.set_cons_succ]
      refine wpAnyH_take (i := 7) (oi := ⟨_, _, _, _, _, _⟩) (v := ?_) rfl (by kernel_rfl) (by kernel_rfl) (by kernel_rfl) (fun _ _ _ h => h) (Or.inl ⟨by rfl, ?_⟩) (by assumption) ?_
      rotate_left
      · intro w hSw
        try dsimp only at hSw
        go_simp
        try with_reducible rfl
      simp only [Act.put, List.setIfInBounds_toArray, List.set_cons_zero, List.set_cons_succ]
      refine wpAnyH_take (i := 11) (oi := ⟨_, _, _, _, _, _⟩) (v := ?_) rfl (by kernel_rfl) (by kernel_rfl) (by kernel_rfl) (fun _ _ _ h => h) (Or.inl ⟨by rfl, ?_⟩) (by assumption) ?_
      rotate_left
      · intro w hSw
        try dsimp only at hSw
        go_simp
        try with_reducible rfl
      simp only [Act.put, List.setIfInBounds_toArray, List.set_cons_zero, List.set_cons_succ]
      refine wpAnyH_take (i := 1) (oi := ⟨_, _, _, _, _, _⟩) (v := ?_) rfl (by kernel_rfl) (by kernel_rfl) (by kernel_rfl) (fun _ _ _ h => h) (Or.inl ⟨by rfl, ?_⟩) (by assumption) ?_
      rotate_left
      · intro w hSw
        try dsimp only at hSw
        go_simp
        try with_reducible rfl
      simp only [Act.put, List.setIfInBounds_toArray, List.set_cons_zero, List.set_cons_succ]
      refine wpAnyH_take (i := 8) (oi := ⟨_, _, _, _, _, _⟩) (v := ?_) rfl (by kernel_rfl) (by kernel_rfl) (by kernel_rfl) (fun _ _ _ h => h) (Or.inl ⟨by rfl, ?_⟩) (by assumption) ?_
      rotate_left
      · intro w hSw
        try dsimp only at hSw
        go_simp
        try with_reducible rfl
      simp only [Act.put, List.setIfInBounds_toArray, List.set_cons_zero, List.set_cons_succ]
      refine wpAnyH_take (i := 12) (oi := ⟨_, _, _, _, _, _⟩) (v := ?_) rfl (by kernel_rfl) (by kernel_rfl) (by kernel_rfl) (fun _ _ _ h => h) (Or.inl ⟨by rfl, ?_⟩) (by assumption) ?_
      rotate_left
      · intro w hSw
        try dsimp only at hSw
        go_simp
        try with_reducible rfl
      simp only [Act.put, List.setIfInBounds_toArray, List.set_cons_zero, List.set_cons_succ]
      refine wpAnyH_take (i := 2) (oi := ⟨_, _, _, _, _, _⟩) (v := ?_) rfl (by kernel_rfl) (by kernel_rfl) (by kernel_rfl) (fun _ _ _ h => h) (Or.inl ⟨by rfl, ?_⟩) (by assumption) ?_
      rotate_left
      · intro w hSw
        try dsimp only at hSw
        go_simp
        try with_reducible rfl
      simp only [Act.put, List.setIfInBounds_toArray, List.set_cons_zero, List.set_cons_succ]
      refine wpAnyH_take (i := 9) (oi := ⟨_, _, _, _, _, _⟩) (v := ?_) rfl (by kernel_rfl) (by kernel_rfl) (by kernel_rfl) (fun _ _ _ h => h) (Or.inl ⟨by rfl, ?_⟩) (by assumption) ?_
      rotate_left
      · intro w hSw
        try dsimp only at hSw
        go_simp
        try with_reducible rfl
      simp only [Act.put, List.setIfInBounds_toArray, List.set_cons_zero, List.set_cons_succ]
      refine wpAnyH_take (i := 3) (oi := ⟨_, _, _, _, _, _⟩) (v := ?_) rfl (by kernel_rfl) (by kernel_rfl) (by kernel_rfl) (fun _ _ _ h => h) (Or.inl ⟨by rfl, ?_⟩) (by assumption) ?_
      rotate_left
      · intro w hSw
        try dsimp only at hSw
        go_simp
        try with_reducible rfl
      simp only [Act.put, List.setIfInBounds_toArray, List.set_cons_zero, List.set_cons_succ]
      refine wpAnyH_take (i := 10) (oi := ⟨_, _, _, _, _, _⟩) (v := ?_) rfl (by kernel_rfl) (by kernel_rfl) (by kernel_rfl) (fun _ _ _ h => h) (Or.inl ⟨by rfl, ?_⟩) (by assumption) ?_
      rotate_left
      · intro w hSw
        try dsimp only at hSw
        go_simp
        try with_reducible rfl
      simp only [Act.put, List.setIfInBounds_toArray, List.set_cons_zero, List.set_cons_succ]
      refine wpAnyH_take (i := 5) (oi := ⟨_, _, _, _, _, _⟩) (v := ?_) rfl (by kernel_rfl) (by kernel_rfl) (by kernel_rfl) (fun _ _ _ h => h) (Or.inl ⟨by rfl, ?_⟩) (by assumption) ?_
      rotate_left
      · intro w hSw
        try dsimp only at hSw
        go_simp
        try with_reducible rfl
      simp only [Act.put, List.setIfInBounds_toArray, List.set_cons_zero, List.set_cons_succ]
      refine wpAnyH_take (i := 13) (oi := ⟨_, _, _, _, _, _⟩) (v := ?_) rfl (by kernel_rfl) (by kernel_rfl) (by kernel_rfl) (fun _ _ _ h => h) (Or.inl ⟨by rfl, ?_⟩) (by assumption) ?_
      rotate_left
      · intro w hSw
        try dsimp only at hSw
        go_simp
        try with_reducible rfl
      simp only [Act.put, List.setIfInBounds_toArray, List.set_cons_zero, List.set_cons_succ]
      refine wpAnyH_take (i := 6) (oi := ⟨_, _, _, _, _, _⟩) (v := ?_) rfl (by kernel_rfl) (by kernel_rfl) (by kernel_rfl) (fun _ _ _ h => h) (Or.inl ⟨by rfl, ?_⟩) (by assumption) ?_
      rotate_left
      · intro w hSw
        try dsimp only at hSw
        go_simp
        try with_reducible rfl
      simp only [Act.put, List.setIfInBounds_toArray, List.set_cons_zero, List.set_cons_succ]
      refine wpAnyH_take (i := 14) (oi := ⟨_, _, _, _, _, _⟩) (v := ?_) rfl (by kernel_rfl) (by kernel_rfl) (by kernel_rfl) (fun _ _ _ h => h) (Or.inl ⟨by rfl, ?_⟩) (by assumption) ?_
      rotate_left
      · intro w hSw
        try dsimp only at hSw
        go_simp
        try with_reducible rfl
      simp only [Act.put, List.setIfInBounds_toArray, List.set_cons_zero, List.set_cons_succ]
      refine wpAnyH_ready (rs := [15, 19]) (by kernel_rfl) (by simp) (AllReadyH.cons (o := ⟨_, _, _, _, _, _⟩) rfl (fun K hK => ?_) (AllReadyH.cons (o := ⟨_, _, _, _, _, _⟩) rfl (fun K hK => ?_) AllReadyH.nil))
      · go_simp
        refine (add_any (Hp.out.below hHeld.2.2.2.2.2.2.2.2.out) (Hq.out.below hHeld.2.2.2.2.2.2.2.2.out) Hi1.out Hi2.out).mono ?_
        rintro r W15 ⟨⟨pv, rfl, hpv⟩, bv⟩
        rw [HR.out] at hpv ⊢
        have s15 : W.heap.size ≤ WD.heap.size := hHeld.2.2.2.2.2.2.2.2.out.size
        have hpv2 := hid hpv
        obtain ⟨⟨E1, q1, f1, E2, q2, f2, rfl, _, _⟩, _⟩ := hpv
        refine hK.out _ _ ⟨keep_cell hHeld.1 bv, keep_cell hHeld.2.1 bv, keep_cell hHeld.2.2.1 bv, keep_cell hHeld.2.2.2.1 bv, keep_cell hHeld.2.2.2.2.1 bv, keep_cell hHeld.2.2.2.2.2.1 bv, keep_cell hHeld.2.2.2.2.2.2.1 bv, keep_cell hHeld.2.2.2.2.2.2.2.1 bv, hid (hHeld.2.2.2.2.2.2.2.2.out.trans (bv.mono hHeld.2.2.2.2.2.2.2.2.out.size))⟩ (fun hHeld => ?_)
        clear hK K
        have hR := hid (hpv2.out.mono (G := fun b => W.heap.size ≤ b) fun b _ (hb : WD.heap.size ≤ b) => Nat.le_trans s15 hb)
        clear bv
        try simp only [Act.put, List.setIfInBounds_toArray, List.set_cons_zero, List.set_cons_succ]
        refine wpAnyH_take (i := 16) (oi := ⟨_, _, _, _, _, _⟩) (v := ?_) rfl (by kernel_rfl) (by kernel_rfl) (by kernel_rfl) (fun _ _ _ h => h) (Or.inl ⟨by rfl, ?_⟩) (by assumption) ?_
        rotate_left
        · intro w hSw
          try dsimp only at hSw
          go_simp
          try with_reducible rfl
        simp only [Act.put, List.setIfInBounds_toArray, List.set_cons_zero, List.set_cons_succ]
        refine wpAnyH_take (i := 17) (oi := ⟨_, _, _, _, _, _⟩) (v := ?_) rfl (by kernel_rfl) (by kernel_rfl) (by kernel_rfl) (fun _ _ _ h => h) (Or.inl ⟨by rfl, ?_⟩) (by assumption) ?_
        rotate_left
        · intro w hSw
          try dsimp only at hSw
          go_simp
          try with_reducible rfl
        simp only [Act.put, List.setIfInBounds_toArray, List.set_cons_zero, List.set_cons_succ]
        refine wpAnyH_take (i := 18) (oi := ⟨_, _, _, _, _, _⟩) (v := ?_) rfl (by kernel_rfl) (by kernel_rfl) (by kernel_rfl) (fun _ _ _ h => h) (Or.inl ⟨by rfl, ?_⟩) (by assumption) ?_
        rotate_left
        · intro w hSw
          try dsimp only at hSw
          go_simp
          try with_reducible rfl
        simp only [Act.put, List.setIfInBounds_toArray, List.set_cons_zero, List.set_cons_succ]
        refine wpAnyH_ready (rs := [19]) (by kernel_rfl) (by simp) (AllReadyH.cons (o := ⟨_, _, _, _, _, _⟩) rfl (fun K hK => ?_) AllReadyH.nil)
        go_simp
        obtain ⟨X19, hX, bX, kX, sX⟩ := alloc_step W15 (.cells #[.slice none 0 0, .slice none 0 0, .int .i64 0] 24)
        rw [hX]
        have s19 : W.heap.size ≤ W15.heap.size := hHeld.2.2.2.2.2.2.2.2.out.size
        obtain ⟨tb, htb⟩ : ∃ t, W15.heap.size = t := ⟨_, rfl⟩
        refine hK.out _ _ ⟨keep_cell hHeld.1 bX, keep_cell hHeld.2.1 bX, keep_cell hHeld.2.2.1 bX, keep_cell hHeld.2.2.2.1 bX, keep_cell hHeld.2.2.2.2.1 bX, keep_cell hHeld.2.2.2.2.2.1 bX, keep_cell hHeld.2.2.2.2.2.2.1 bX, keep_cell hHeld.2.2.2.2.2.2.2.1 bX, hid (hHeld.2.2.2.2.2.2.2.2.out.trans (bX.mono hHeld.2.2.2.2.2.2.2.2.out.size))⟩ (fun hHeld => ?_)
        clear hK K
        rw [htb] at kX sX s19
        try rw [htb]
        have KT := hid kX
        have htX : tb < X19.heap.size := by omega
        have hR := hid ((hR.out.mono (G := fun b => W.heap.size ≤ b ∧ b ≠ tb) fun b hlt hb => ⟨hb, by omega⟩).below bX)
        clear hX bX kX sX
        try simp only [Act.put, List.setIfInBounds_toArray, List.set_cons_zero, List.set_cons_succ]
        refine wpAnyH_ready (rs := [20]) (by kernel_rfl) (by simp) (AllReadyH.cons (o := ⟨_, _, _, _, _, _⟩) rfl (fun K hK => ?_) AllReadyH.nil)
        go_simp
        obtain ⟨t0, t1, t2⟩ := box3 KT.out
        obtain ⟨y0, y1, y2⟩ := froz3 KT.out
        go_simp
        obtain ⟨u0, u1, u2, m3⟩ := set3 t0 t1 t2 (.slice E1 q1 f1) (.slice E2 q2 f2) (.int .i64 R.1.bound)
        refine hK.out _ _ ⟨(World.cell?_of_block (m3.block sb (World.block_lt_of_cell? _ _ hHeld.1) (by omega))).trans hHeld.1, (World.cell?_of_block (m3.block st (World.block_lt_of_cell? _ _ hHeld.2.1) (by omega))).trans hHeld.2.1, (World.cell?_of_block (m3.block g (World.block_lt_of_cell? _ _ hHeld.2.2.1) (by omega))).trans hHeld.2.2.1, (World.cell?_of_block (m3.block g (World.block_lt_of_cell? _ _ hHeld.2.2.2.1) (by omega))).trans hHeld.2.2.2.1, (World.cell?_of_block (m3.block g (World.block_lt_of_cell? _ _ hHeld.2.2.2.2.1) (by omega))).trans hHeld.2.2.2.2.1, (World.cell?_of_block (m3.block g (World.block_lt_of_cell? _ _ hHeld.2.2.2.2.2.1) (by omega))).trans hHeld.2.2.2.2.2.1, (World.cell?_of_block (m3.block g (World.block_lt_of_cell? _ _ hHeld.2.2.2.2.2.2.1) (by omega))).trans hHeld.2.2.2.2.2.2.1, (World.cell?_of_block (m3.block g (World.block_lt_of_cell? _ _ hHeld.2.2.2.2.2.2.2.1) (by omega))).trans hHeld.2.2.2.2.2.2.2.1, hid (below_mod hHeld.2.2.2.2.2.2.2.2.out hHeld.2.2.2.2.2.2.2.2.out.size m3 fun b hb => by omega)⟩ (fun hHeld => ?_)
        clear hK K
        have hp5 := hid ((hR.out.mod m3 fun b _ hb e => hb.2 e).mono (G := fun b => b ≠ st ∧ ¬ row (.slice (some ⟨g, 0, none⟩) s.length c) b) fun b _ hb => ⟨by omega, fun e => by have h8 : g = b := e.2; omega⟩)
        have htb5 : tb < _ := Nat.lt_of_lt_of_le htX m3.size
        clear t0 t1 t2 y0 y1 y2
        try simp only [Act.put, List.setIfInBounds_toArray, List.set_cons_zero, List.set_cons_succ]
        refine wpAnyH_ready (rs := [21]) (by kernel_rfl) (by simp) (AllReadyH.cons (o := ⟨_, _, _, _, _, _⟩) rfl (fun K hK => ?_) AllReadyH.nil)
        go_simp
        go_simp
        refine hK.out _ _ hHeld (fun hHeld => ?_)
        clear hK K
        try simp only [Act.put, List.setIfInBounds_toArray, List.set_cons_zero, List.set_cons_succ]
        refine wpAnyH_done (by kernel_rfl) ?_ _
        have hS5 := hid (hSS.out.below hHeld.2.2.2.2.2.2.2.2.out)
        have bW5 := hid (hHeld.2.2.2.2.2.2.2.2.out.mono (show st ≤ W.heap.size by omega))
        have hb5 := hHeld.1
        obtain ⟨W5, hW5⟩ : ∃ X, (((X19.setCell ⟨tb, 0, none⟩ (.slice E1 q1 f1)).setCell ⟨tb, 1, none⟩ (.slice E2 q2 f2)).setCell ⟨tb, 2, none⟩ (.int .i64 R.1.bound)) = X := ⟨_, rfl⟩
        rw [hW5] at hS5 bW5 hb5 u0 u1 u2 hp5 htb5 ⊢
        clear hW5 m3 KT hR hHeld
        have x0 := u0
        have x1 := u1
        have x2 := u2
        have hsb5 : sb < W5.heap.size := World.block_lt_of_cell? _ _ hb5
        have htr : ¬ row (.slice (some ⟨g, 0, none⟩) s.length c) tb := fun e => by have h8 : g = tb := e.2; omega
        clear u0 u1 u2
        go_upto_region 5 with fail
        refine wp_region_upto (S := fun w' => w'.cell? ⟨sb, 0, none⟩ = some (.pointer (some ⟨st, 0, none⟩)) ∧ w'.cell? ⟨st, 0, none⟩ = some (.slice (some ⟨g, 0, none⟩) s.length c) ∧ w'.cell? ⟨tb, 0, none⟩ = some (.slice E1 q1 f1) ∧ w'.cell? ⟨tb, 1, none⟩ = some (.slice E2 q2 f2) ∧ w'.cell? ⟨tb, 2, none⟩ = some (.int .i64 R.1.bound)) 12 (by kernel_rfl) ⟨hb5, hS5.out.c0, x0, x1, x2⟩ (fun hHeld => ?_)
        obtain ⟨WE, hWE⟩ : ∃ X, W5.drew = X := ⟨_, rfl⟩
        have bD : Below W5.heap.size W5 W5.drew := Bl.drew (Below.refl _ _)
        have hS6 := hid (hS5.out.below bD)
        have hp6 := hid (hp5.out.below bD)
        have bW6 := hid bW5.out.drew
        have htb6 : tb < W5.drew.heap.size := htb5
        have hsb6 : sb < W5.drew.heap.size := hsb5
        have sE : st ≤ W5.drew.heap.size := by have := hS5.out.lt; exact Nat.le_of_lt this
        rw [hWE] at hHeld hS6 hp6 bW6 htb6 hsb6 sE ⊢
        clear hWE bD hS5 hp5 bW5 x0 x1 x2 hb5
        refine wpAnyU_take [12, 11, 10] (i := 0) (oi := ⟨_, _, _, _, _, _⟩) (v := ?_) rfl (by kernel_rfl) (by kernel_rfl) (by kernel_rfl) (by kernel_rfl) (fun _ _ _ h => h) (Or.inl ⟨by rfl, ?_⟩) hHeld ?_
        rotate_left
        · intro w hSw
          try dsimp only at hSw
          obtain ⟨hS0, hS1, hS2, hS3, hS4⟩ := hSw
          go_simp
          try with_reducible rfl
        simp only [Act.put, List.setIfInBounds_toArray, List.set_cons_zero, List.set_cons_succ]
        refine wpAnyU_take [12, 9, 6, 4, 3, 2] (i := 1) (oi := ⟨_, _, _, _, _, _⟩) (v := ?_) rfl (by kernel_rfl) (by kernel_rfl) (by kernel_rfl) (by kernel_rfl) (fun _ _ _ h => h) (Or.inl ⟨by rfl, ?_⟩) hHeld ?_
        rotate_left
        · intro w hSw
          try dsimp only at hSw
          obtain ⟨hS0, hS1, hS2, hS3, hS4⟩ := hSw
          go_simp
          try with_reducible rfl
        simp only [Act.put, List.setIfInBounds_toArray, List.set_cons_zero, List.set_cons_succ]
        refine wpAnyU_any (i := 5) (oi := ⟨_, _, _, _, _, _⟩) (v := ?_) rfl (by kernel_rfl) (by kernel_rfl) (by kernel_rfl) (by rfl) (fun _ _ _ h => h) (Or.inl ⟨by rfl, ?_⟩) hHeld ?_
        rotate_left
        · intro w _
          go_simp
          try with_reducible rfl
        simp only [Act.put, List.setIfInBounds_toArray, List.set_cons_zero, List.set_cons_succ]
        refine wpAnyU_take [12, 9, 8] (i := 7) (oi := ⟨_, _, _, _, _, _⟩) (v := ?_) rfl (by kernel_rfl) (by kernel_rfl) (by kernel_rfl) (by kernel_rfl) (fun _ _ _ h => h) (Or.inl ⟨by rfl, ?_⟩) hHeld ?_
        rotate_left
        · intro w hSw
          try dsimp only at hSw
          obtain ⟨hS0, hS1, hS2, hS3, hS4⟩ := hSw
          go_simp
          try with_reducible rfl
        simp only [Act.put, List.setIfInBounds_toArray, List.set_cons_zero, List.set_cons_succ]
        refine wpAnyU_any (i := 2) (oi := ⟨_, _, _, _, _, _⟩) (v := ?_) rfl (by kernel_rfl) (by kernel_rfl) (by kernel_rfl) (by rfl) (fun _ _ _ h => h) (Or.inl ⟨by rfl, ?_⟩) hHeld ?_
        rotate_left
        · intro w _
          go_simp
          try with_reducible rfl
        simp only [Act.put, List.setIfInBounds_toArray, List.set_cons_zero, List.set_cons_succ]
        refine wpAnyU_any (i := 3) (oi := ⟨_, _, _, _, _, _⟩) (v := ?_) rfl (by kernel_rfl) (by kernel_rfl) (by kernel_rfl) (by rfl) (fun _ _ _ h => h) (Or.inl ⟨by rfl, ?_⟩) hHeld ?_
        rotate_left
        · intro w _
          go_simp
          try with_reducible rfl
        simp only [Act.put, List.setIfInBounds_toArray, List.set_cons_zero, List.set_cons_succ]
        refine wpAnyU_take [12, 9, 6] (i := 4) (oi := ⟨_, _, _, _, _, _⟩) (v := ?_) rfl (by kernel_rfl) (by kernel_rfl) (by kernel_rfl) (by kernel_rfl) (fun _ _ _ h => h) (Or.inl ⟨by rfl, ?_⟩) hHeld ?_
        rotate_left
        · intro w hSw
          try dsimp only at hSw
          obtain ⟨hS0, hS1, hS2, hS3, hS4⟩ := hSw
          go_simp
          try with_reducible rfl
        simp only [Act.put, List.setIfInBounds_toArray, List.set_cons_zero, List.set_cons_succ]
        refine wpAnyU_any (i := 6) (oi := ⟨_, _, _, _, _, _⟩) (v := ?_) rfl (by kernel_rfl) (by kernel_rfl) (by kernel_rfl) (by rfl) (fun _ _ _ h => h) (Or.inl ⟨by rfl, ?_⟩) hHeld ?_
        rotate_left
        · intro w _
          go_simp
          try with_reducible rfl
        simp only [Act.put, List.setIfInBounds_toArray, List.set_cons_zero, List.set_cons_succ]
        refine wpAnyU_ready (rs := [8]) (by kernel_rfl) (by simp) ?_
        refine AllReadyU.cons (o := ⟨_, _, _, _, _, _⟩) rfl (fun K hK => ?_) ?_
        · skip
          go_simp
          obtain ⟨X, hX, bX, kX, sX⟩ := alloc_step WE (.cells #[.slice E1 q1 f1, .slice E2 q2 f2, .int .i64 R.1.bound] 24)
          rw [hX]
          refine hK.out _ _ ⟨keep_cell hHeld.1 bX, keep_cell hHeld.2.1 bX, keep_cell hHeld.2.2.1 bX, keep_cell hHeld.2.2.2.1 bX, keep_cell hHeld.2.2.2.2 bX⟩ (fun hHeld => ?_)
          clear hK K
          have hS7 := hid (hS6.out.below bX)
          have hp7 := hid (hp6.out.below bX)
          have rl := hid (rd_lit3 kX)
          have bW7 := hid (bW6.out.trans (bX.mono sE))
          have htb7 : tb < X.heap.size := Nat.lt_of_lt_of_le htb6 bX.size
          have hsb7 : sb < X.heap.size := Nat.lt_of_lt_of_le hsb6 bX.size
          clear hX kX sX bX
          try simp only [Act.put, List.setIfInBounds_toArray, List.set_cons_zero, List.set_cons_succ]
          refine wpAnyU_ready (rs := [9]) (by kernel_rfl) (by simp) ?_
          refine AllReadyU.cons (o := ⟨_, _, _, _, _, _⟩) rfl (fun K hK => ?_) ?_
          · skip
            refine step_append_pb rfl _ _ rfl (hS7.out.own.take (show k ≤ s.length by omega)) rl.out rfl rfl (pb_one hp7.out) (by omega) ?_
            intro A3 c3 W3 ho3 hm3 hr3
            rw [flat3_take] at ho3
            have hm4 := hm3
            rw [row_len _ k s.length _] at hm4
            refine hK.out _ _ ⟨(World.cell?_of_block (hm4.block _ (World.block_lt_of_cell? _ _ hHeld.1) hsr)).trans hHeld.1, (World.cell?_of_block (hm4.block _ (World.block_lt_of_cell? _ _ hHeld.2.1) hst)).trans hHeld.2.1, (World.cell?_of_block (hm4.block _ (World.block_lt_of_cell? _ _ hHeld.2.2.1) htr)).trans hHeld.2.2.1, (World.cell?_of_block (hm4.block _ (World.block_lt_of_cell? _ _ hHeld.2.2.2.1) htr)).trans hHeld.2.2.2.1, (World.cell?_of_block (hm4.block _ (World.block_lt_of_cell? _ _ hHeld.2.2.2.2) htr)).trans hHeld.2.2.2.2⟩ (fun hHeld => ?_)
            clear hK K
            have hE := hid (hS7.out.push (show k ≤ s.length by omega) (t := (.slice E1 q1 f1, .slice E2 q2 f2, .int .i64 R.1.bound)) (p := R.1) ho3 hm3 hr3 hp7.out)
            have g0 : W3.cell? ⟨st, 0, none⟩ = some (.slice (some ⟨g, 0, none⟩) s.length c) := (World.cell?_of_block (hm4.block _ hS7.out.lt hst)).trans hS7.out.c0
            have y0 : W3.frozen? ⟨st, 0, none⟩ = false := (World.frozen?_of_block (hm4.block _ hS7.out.lt hst)).trans hS7.out.f0
            clear ho3 hm3 hr3 hm4
            try simp only [Act.put, List.setIfInBounds_toArray, List.set_cons_zero, List.set_cons_succ]
            refine wpAnyU_any (i := 10) (oi := ⟨_, _, _, _, _, _⟩) (v := ?_) rfl (by kernel_rfl) (by kernel_rfl) (by kernel_rfl) (by rfl) (fun _ _ _ h => h) (Or.inl ⟨by rfl, ?_⟩) hHeld ?_
            rotate_left
            · intro w _
              go_simp
              try with_reducible rfl
            simp only [Act.put, List.setIfInBounds_toArray, List.set_cons_zero, List.set_cons_succ]
            refine wpAnyU_any (i := 11) (oi := ⟨_, _, _, _, _, _⟩) (v := ?_) rfl (by kernel_rfl) (by kernel_rfl) (by kernel_rfl) (by rfl) (fun _ _ _ h => h) (Or.inl ⟨by rfl, ?_⟩) hHeld ?_
            rotate_left
            · intro w _
              go_simp
              try with_reducible rfl
            simp only [Act.put, List.setIfInBounds_toArray, List.set_cons_zero, List.set_cons_succ]
            refine wpAnyU_ready (rs := [12]) (by kernel_rfl) (by simp) ?_
            refine AllReadyU.late (o := ⟨_, _, _, _, _, _⟩) rfl (by rfl) (fun K hK => ?_) ?_
            · skip
              go_simp
              refine hK.out _ _ ?_
              clear hK K
              try simp only [Act.put, List.setIfInBounds_toArray, List.set_cons_zero, List.set_cons_succ]
              refine wpAnyU_done (by kernel_rfl) ?_ _
              go_wp2_with fail
              go_ret
              obtain ⟨hE1, hE2⟩ := hE.out
              exact ⟨rfl, fun _ => ⟨_, _, _, hE1⟩, bW7.out.trans hE2⟩
            exact AllReadyU.nil
          exact AllReadyU.nil
        exact AllReadyU.nil
      · go_simp
        obtain ⟨X19, hX, bX, kX, sX⟩ := alloc_step WD (.cells #[.slice none 0 0, .slice none 0 0, .int .i64 0] 24)
        rw [hX]
        have s19 : W.heap.size ≤ WD.heap.size := hHeld.2.2.2.2.2.2.2.2.out.size
        obtain ⟨tb, htb⟩ : ∃ t, WD.heap.size = t := ⟨_, rfl⟩
        refine hK.out _ _ ⟨keep_cell hHeld.1 bX, keep_cell hHeld.2.1 bX, keep_cell hHeld.2.2.1 bX, keep_cell hHeld.2.2.2.1 bX, keep_cell hHeld.2.2.2.2.1 bX, keep_cell hHeld.2.2.2.2.2.1 bX, keep_cell hHeld.2.2.2.2.2.2.1 bX, keep_cell hHeld.2.2.2.2.2.2.2.1 bX, hid (hHeld.2.2.2.2.2.2.2.2.out.trans (bX.mono hHeld.2.2.2.2.2.2.2.2.out.size))⟩ (fun hHeld => ?_)
        clear hK K
        rw [htb] at kX sX s19
        try rw [htb]
        have KT := hid kX
        have htX : tb < X19.heap.size := by omega
        clear hX bX kX sX
        try simp only [Act.put, List.setIfInBounds_toArray, List.set_cons_zero, List.set_cons_succ]
        refine wpAnyH_ready (rs := [15]) (by kernel_rfl) (by simp) (AllReadyH.cons (o := ⟨_, _, _, _, _, _⟩) rfl (fun K hK => ?_) AllReadyH.nil)
        go_simp
        refine (add_any (Hp.out.below hHeld.2.2.2.2.2.2.2.2.out) (Hq.out.below hHeld.2.2.2.2.2.2.2.2.out) Hi1.out Hi2.out).mono ?_
        rintro r W15 ⟨⟨pv, rfl, hpv⟩, bv⟩
        rw [HR.out] at hpv ⊢
        have s15 : W.heap.size ≤ X19.heap.size := hHeld.2.2.2.2.2.2.2.2.out.size
        have hpv2 := hid hpv
        obtain ⟨⟨E1, q1, f1, E2, q2, f2, rfl, _, _⟩, _⟩ := hpv
        refine hK.out _ _ ⟨keep_cell hHeld.1 bv, keep_cell hHeld.2.1 bv, keep_cell hHeld.2.2.1 bv, keep_cell hHeld.2.2.2.1 bv, keep_cell hHeld.2.2.2.2.1 bv, keep_cell hHeld.2.2.2.2.2.1 bv, keep_cell hHeld.2.2.2.2.2.2.1 bv, keep_cell hHeld.2.2.2.2.2.2.2.1 bv, hid (hHeld.2.2.2.2.2.2.2.2.out.trans (bv.mono hHeld.2.2.2.2.2.2.2.2.out.size))⟩ (fun hHeld => ?_)
        clear hK K
        have hR := hid (hpv2.out.mono (G := fun b => W.heap.size ≤ b ∧ b ≠ tb) fun b _ (hb : X19.heap.size ≤ b) => ⟨by omega, by omega⟩)
        have KT := hid (keep_blk KT.out bv)
        have htX : tb < W15.heap.size := by have := bv.size; omega
        clear bv
        try simp only [Act.put, List.setIfInBounds_toArray, List.set_cons_zero, List.set_cons_succ]
        refine wpAnyH_take (i := 16) (oi := ⟨_, _, _, _, _, _⟩) (v := ?_) rfl (by kernel_rfl) (by kernel_rfl) (by kernel_rfl) (fun _ _ _ h => h) (Or.inl ⟨by rfl, ?_⟩) (by assumption) ?_
        rotate_left
        · intro w hSw
          try dsimp only at hSw
          go_simp
          try with_reducible rfl
        simp only [Act.put, List.setIfInBounds_toArray, List.set_cons_zero, List.set_cons_succ]
        refine wpAnyH_take (i := 17) (oi := ⟨_, _, _, _, _, _⟩) (v := ?_) rfl (by kernel_rfl) (by kernel_rfl) (by kernel_rfl) (fun _ _ _ h => h) (Or.inl ⟨by rfl, ?_⟩) (by assumption) ?_
        rotate_left
        · intro w hSw
          try dsimp only at hSw
          go_simp
          try with_reducible rfl
        simp only [Act.put, List.setIfInBounds_toArray, List.set_cons_zero, List.set_cons_succ]
        refine wpAnyH_take (i := 18) (oi := ⟨_, _, _, _, _, _⟩) (v := ?_) rfl (by kernel_rfl) (by kernel_rfl) (by kernel_rfl) (fun _ _ _ h => h) (Or.inl ⟨by rfl, ?_⟩) (by assumption) ?_
        rotate_left
        · intro w hSw
          try dsimp only at hSw
          go_simp
          try with_reducible rfl
        simp only [Act.put, List.setIfInBounds_toArray, List.set_cons_zero, List.set_cons_succ]
        refine wpAnyH_ready (rs := [20]) (by kernel_rfl) (by simp) (AllReadyH.cons (o := ⟨_, _, _, _, _, _⟩) rfl (fun K hK => ?_) AllReadyH.nil)
        go_simp
        obtain ⟨t0, t1, t2⟩ := box3 KT.out
        obtain ⟨y0, y1, y2⟩ := froz3 KT.out
        go_simp
        obtain ⟨u0, u1, u2, m3⟩ := set3 t0 t1 t2 (.slice E1 q1 f1) (.slice E2 q2 f2) (.int .i64 R.1.bound)
        refine hK.out _ _ ⟨(World.cell?_of_block (m3.block sb (World.block_lt_of_cell? _ _ hHeld.1) (by omega))).trans hHeld.1, (World.cell?_of_block (m3.block st (World.block_lt_of_cell? _ _ hHeld.2.1) (by omega))).trans hHeld.2.1, (World.cell?_of_block (m3.block g (World.block_lt_of_cell? _ _ hHeld.2.2.1) (by omega))).trans hHeld.2.2.1, (World.cell?_of_block (m3.block g (World.block_lt_of_cell? _ _ hHeld.2.2.2.1) (by omega))).trans hHeld.2.2.2.1, (World.cell?_of_block (m3.block g (World.block_lt_of_cell? _ _ hHeld.2.2.2.2.1) (by omega))).trans hHeld.2.2.2.2.1, (World.cell?_of_block (m3.block g (World.block_lt_of_cell? _ _ hHeld.2.2.2.2.2.1) (by omega))).trans hHeld.2.2.2.2.2.1, (World.cell?_of_block (m3.block g (World.block_lt_of_cell? _ _ hHeld.2.2.2.2.2.2.1) (by omega))).trans hHeld.2.2.2.2.2.2.1, (World.cell?_of_block (m3.block g (World.block_lt_of_cell? _ _ hHeld.2.2.2.2.2.2.2.1) (by omega))).trans hHeld.2.2.2.2.2.2.2.1, hid (below_mod hHeld.2.2.2.2.2.2.2.2.out hHeld.2.2.2.2.2.2.2.2.out.size m3 fun b hb => by omega)⟩ (fun hHeld => ?_)
        clear hK K
        have hp5 := hid ((hR.out.mod m3 fun b _ hb e => hb.2 e).mono (G := fun b => b ≠ st ∧ ¬ row (.slice (some ⟨g, 0, none⟩) s.length c) b) fun b _ hb => ⟨by omega, fun e => by have h8 : g = b := e.2; omega⟩)
        have htb5 : tb < _ := Nat.lt_of_lt_of_le htX m3.size
        clear t0 t1 t2 y0 y1 y2
        try simp only [Act.put, List.setIfInBounds_toArray, List.set_cons_zero, List.set_cons_succ]
        refine wpAnyH_ready (rs := [21]) (by kernel_rfl) (by simp) (AllReadyH.cons (o := ⟨_, _, _, _, _, _⟩) rfl (fun K hK => ?_) AllReadyH.nil)
        go_simp
        go_simp
        refine hK.out _ _ hHeld (fun hHeld => ?_)
        clear hK K
        try simp only [Act.put, List.setIfInBounds_toArray, List.set_cons_zero, List.set_cons_succ]
        refine wpAnyH_done (by kernel_rfl) ?_ _
        have hS5 := hid (hSS.out.below hHeld.2.2.2.2.2.2.2.2.out)
        have bW5 := hid (hHeld.2.2.2.2.2.2.2.2.out.mono (show st ≤ W.heap.size by omega))
        have hb5 := hHeld.1
        obtain ⟨W5, hW5⟩ : ∃ X, (((W15.setCell ⟨tb, 0, none⟩ (.slice E1 q1 f1)).setCell ⟨tb, 1, none⟩ (.slice E2 q2 f2)).setCell ⟨tb, 2, none⟩ (.int .i64 R.1.bound)) = X := ⟨_, rfl⟩
        rw [hW5] at hS5 bW5 hb5 u0 u1 u2 hp5 htb5 ⊢
        clear hW5 m3 KT hR hHeld
        have x0 := u0
        have x1 := u1
        have x2 := u2
        have hsb5 : sb < W5.heap.size := World.block_lt_of_cell? _ _ hb5
        have htr : ¬ row (.slice (some ⟨g, 0, none⟩) s.length c) tb := fun e => by have h8 : g = tb := e.2; omega
        clear u0 u1 u2
        go_upto_region 5 with fail
        refine wp_region_upto (S := fun w' => w'.cell? ⟨sb, 0, none⟩ = some (.pointer (some ⟨st, 0, none⟩)) ∧ w'.cell? ⟨st, 0, none⟩ = some (.slice (some ⟨g, 0, none⟩) s.length c) ∧ w'.cell? ⟨tb, 0, none⟩ = some (.slice E1 q1 f1) ∧ w'.cell? ⟨tb, 1, none⟩ = some (.slice E2 q2 f2) ∧ w'.cell? ⟨tb, 2, none⟩ = some (.int .i64 R.1.bound)) 12 (by kernel_rfl) ⟨hb5, hS5.out.c0, x0, x1, x2⟩ (fun hHeld => ?_)
        obtain ⟨WE, hWE⟩ : ∃ X, W5.drew = X := ⟨_, rfl⟩
        have bD : Below W5.heap.size W5 W5.drew := Bl.drew (Below.refl _ _)
        have hS6 := hid (hS5.out.below bD)
        have hp6 := hid (hp5.out.below bD)
        have bW6 := hid bW5.out.drew
        have htb6 : tb < W5.drew.heap.size := htb5
        have hsb6 : sb < W5.drew.heap.size := hsb5
        have sE : st ≤ W5.drew.heap.size := by have := hS5.out.lt; exact Nat.le_of_lt this
        rw [hWE] at hHeld hS6 hp6 bW6 htb6 hsb6 sE ⊢
        clear hWE bD hS5 hp5 bW5 x0 x1 x2 hb5
        refine wpAnyU_take [12, 11, 10] (i := 0) (oi := ⟨_, _, _, _, _, _⟩) (v := ?_) rfl (by kernel_rfl) (by kernel_rfl) (by kernel_rfl) (by kernel_rfl) (fun _ _ _ h => h) (Or.inl ⟨by rfl, ?_⟩) hHeld ?_
        rotate_left
        · intro w hSw
          try dsimp only at hSw
          obtain ⟨hS0, hS1, hS2, hS3, hS4⟩ := hSw
          go_simp
          try with_reducible rfl
        simp only [Act.put, List.setIfInBounds_toArray, List.set_cons_zero, List.set_cons_succ]
        refine wpAnyU_take [12, 9, 6, 4, 3, 2] (i := 1) (oi := ⟨_, _, _, _, _, _⟩) (v := ?_) rfl (by kernel_rfl) (by kernel_rfl) (by kernel_rfl) (by kernel_rfl) (fun _ _ _ h => h) (Or.inl ⟨by rfl, ?_⟩) hHeld ?_
        rotate_left
        · intro w hSw
          try dsimp only at hSw
          obtain ⟨hS0, hS1, hS2, hS3, hS4⟩ := hSw
          go_simp
          try with_reducible rfl
        simp only [Act.put, List.setIfInBounds_toArray, List.set_cons_zero, List.set_cons_succ]
        refine wpAnyU_any (i := 5) (oi := ⟨_, _, _, _, _, _⟩) (v := ?_) rfl (by kernel_rfl) (by kernel_rfl) (by kernel_rfl) (by rfl) (fun _ _ _ h => h) (Or.inl ⟨by rfl, ?_⟩) hHeld ?_
        rotate_left
        · intro w _
          go_simp
          try with_reducible rfl
        simp only [Act.put, List.setIfInBounds_toArray, List.set_cons_zero, List.set_cons_succ]
        refine wpAnyU_take [12, 9, 8] (i := 7) (oi := ⟨_, _, _, _, _, _⟩) (v := ?_) rfl (by kernel_rfl) (by kernel_rfl) (by kernel_rfl) (by kernel_rfl) (fun _ _ _ h => h) (Or.inl ⟨by rfl, ?_⟩) hHeld ?_
        rotate_left
        · intro w hSw
          try dsimp only at hSw
          obtain ⟨hS0, hS1, hS2, hS3, hS4⟩ := hSw
          go_simp
          try with_reducible rfl
        simp only [Act.put, List.setIfInBounds_toArray, List.set_cons_zero, List.set_cons_succ]
        refine wpAnyU_any (i := 2) (oi := ⟨_, _, _, _, _, _⟩) (v := ?_) rfl (by kernel_rfl) (by kernel_rfl) (by kernel_rfl) (by rfl) (fun _ _ _ h => h) (Or.inl ⟨by rfl, ?_⟩) hHeld ?_
        rotate_left
        · intro w _
          go_simp
          try with_reducible rfl
        simp only [Act.put, List.setIfInBounds_toArray, List.set_cons_zero, List.set_cons_succ]
        refine wpAnyU_any (i := 3) (oi := ⟨_, _, _, _, _, _⟩) (v := ?_) rfl (by kernel_rfl) (by kernel_rfl) (by kernel_rfl) (by rfl) (fun _ _ _ h => h) (Or.inl ⟨by rfl, ?_⟩) hHeld ?_
        rotate_left
        · intro w _
          go_simp
          try with_reducible rfl
        simp only [Act.put, List.setIfInBounds_toArray, List.set_cons_zero, List.set_cons_succ]
        refine wpAnyU_take [12, 9, 6] (i := 4) (oi := ⟨_, _, _, _, _, _⟩) (v := ?_) rfl (by kernel_rfl) (by kernel_rfl) (by kernel_rfl) (by kernel_rfl) (fun _ _ _ h => h) (Or.inl ⟨by rfl, ?_⟩) hHeld ?_
        rotate_left
        · intro w hSw
          try dsimp only at hSw
          obtain ⟨hS0, hS1, hS2, hS3, hS4⟩ := hSw
          go_simp
          try with_reducible rfl
        simp only [Act.put, List.setIfInBounds_toArray, List.set_cons_zero, List.set_cons_succ]
        refine wpAnyU_any (i := 6) (oi := ⟨_, _, _, _, _, _⟩) (v := ?_) rfl (by kernel_rfl) (by kernel_rfl) (by kernel_rfl) (by rfl) (fun _ _ _ h => h) (Or.inl ⟨by rfl, ?_⟩) hHeld ?_
        rotate_left
        · intro w _
          go_simp
          try with_reducible rfl
        simp only [Act.put, List.setIfInBounds_toArray, List.set_cons_zero, List.set_cons_succ]
        refine wpAnyU_ready (rs := [8]) (by kernel_rfl) (by simp) ?_
        refine AllReadyU.cons (o := ⟨_, _, _, _, _, _⟩) rfl (fun K hK => ?_) ?_
        · skip
          go_simp
          obtain ⟨X, hX, bX, kX, sX⟩ := alloc_step WE (.cells #[.slice E1 q1 f1, .slice E2 q2 f2, .int .i64 R.1.bound] 24)
          rw [hX]
          refine hK.out _ _ ⟨keep_cell hHeld.1 bX, keep_cell hHeld.2.1 bX, keep_cell hHeld.2.2.1 bX, keep_cell hHeld.2.2.2.1 bX, keep_cell hHeld.2.2.2.2 bX⟩ (fun hHeld => ?_)
          clear hK K
          have hS7 := hid (hS6.out.below bX)
          have hp7 := hid (hp6.out.below bX)
          have rl := hid (rd_lit3 kX)
          have bW7 := hid (bW6.out.trans (bX.mono sE))
          have htb7 : tb < X.heap.size := Nat.lt_of_lt_of_le htb6 bX.size
          have hsb7 : sb < X.heap.size := Nat.lt_of_lt_of_le hsb6 bX.size
          clear hX kX sX bX
          try simp only [Act.put, List.setIfInBounds_toArray, List.set_cons_zero, List.set_cons_succ]
          refine wpAnyU_ready (rs := [9]) (by kernel_rfl) (by simp) ?_
          refine AllReadyU.cons (o := ⟨_, _, _, _, _, _⟩) rfl (fun K hK => ?_) ?_
          · skip
            refine step_append_pb rfl _ _ rfl (hS7.out.own.take (show k ≤ s.length by omega)) rl.out rfl rfl (pb_one hp7.out) (by omega) ?_
            intro A3 c3 W3 ho3 hm3 hr3
            rw [flat3_take] at ho3
            have hm4 := hm3
            rw [row_len _ k s.length _] at hm4
            refine hK.out _ _ ⟨(World.cell?_of_block (hm4.block _ (World.block_lt_of_cell? _ _ hHeld.1) hsr)).trans hHeld.1, (World.cell?_of_block (hm4.block _ (World.block_lt_of_cell? _ _ hHeld.2.1) hst)).trans hHeld.2.1, (World.cell?_of_block (hm4.block _ (World.block_lt_of_cell? _ _ hHeld.2.2.1) htr)).trans hHeld.2.2.1, (World.cell?_of_block (hm4.block _ (World.block_lt_of_cell? _ _ hHeld.2.2.2.1) htr)).trans hHeld.2.2.2.1, (World.cell?_of_block (hm4.block _ (World.block_lt_of_cell? _ _ hHeld.2.2.2.2) htr)).trans hHeld.2.2.2.2⟩ (fun hHeld => ?_)
            clear hK K
            have hE := hid (hS7.out.push (show k ≤ s.length by omega) (t := (.slice E1 q1 f1, .slice E2 q2 f2, .int .i64 R.1.bound)) (p := R.1) ho3 hm3 hr3 hp7.out)
            have g0 : W3.cell? ⟨st, 0, none⟩ = some (.slice (some ⟨g, 0, none⟩) s.length c) := (World.cell?_of_block (hm4.block _ hS7.out.lt hst)).trans hS7.out.c0
            have y0 : W3.frozen? ⟨st, 0, none⟩ = false := (World.frozen?_of_block (hm4.block _ hS7.out.lt hst)).trans hS7.out.f0
            clear ho3 hm3 hr3 hm4
            try simp only [Act.put, List.setIfInBounds_toArray, List.set_cons_zero, List.set_cons_succ]
            refine wpAnyU_any (i := 10) (oi := ⟨_, _, _, _, _, _⟩) (v := ?_) rfl (by kernel_rfl) (by kernel_rfl) (by kernel_rfl) (by rfl) (fun _ _ _ h => h) (Or.inl ⟨by rfl, ?_⟩) hHeld ?_
            rotate_left
            · intro w _
              go_simp
              try with_reducible rfl
            simp only [Act.put, List.setIfInBounds_toArray, List.set_cons_zero, List.set_cons_succ]
            refine wpAnyU_any (i := 11) (oi := ⟨_, _, _, _, _, _⟩) (v := ?_) rfl (by kernel_rfl) (by kernel_rfl) (by kernel_rfl) (by rfl) (fun _ _ _ h => h) (Or.inl ⟨by rfl, ?_⟩) hHeld ?_
            rotate_left
            · intro w _
              go_simp
              try with_reducible rfl
            simp only [Act.put, List.setIfInBounds_toArray, List.set_cons_zero, List.set_cons_succ]
            refine wpAnyU_ready (rs := [12]) (by kernel_rfl) (by simp) ?_
            refine AllReadyU.late (o := ⟨_, _, _, _, _, _⟩) rfl (by rfl) (fun K hK => ?_) ?_
            · skip
              go_simp
              refine hK.out _ _ ?_
              clear hK K
              try simp only [Act.put, List.setIfInBounds_toArray, List.set_cons_zero, List.set_cons_succ]
              refine wpAnyU_done (by kernel_rfl) ?_ _
              go_wp2_with fail
              go_ret
              obtain ⟨hE1, hE2⟩ := hE.out
              exact ⟨rfl, fun _ => ⟨_, _, _, hE1⟩, bW7.out.trans hE2⟩
            exact AllReadyU.nil
          exact AllReadyU.nil
        exact AllReadyU.nil
      -- END ADD2
    · obtain rfl : x = (s, 2) := by rw [← Hx.out]; simp [stepB, h1]
      have hn : (n = 0) = False := by simp [h1]
      have Hk := hid hk
      clear Hx hS h0 hk hw
      go_enter Tryd.func70, Tryd.ntmps70
      go_wp2_with fail
      go_ret
      exact ⟨rfl, fun h => absurd (show (2 : Int) = 0 from h) (by decide), Below.refl _ _⟩
end
end Go.Proofs.YtooioikkgdgnnaaDoor
