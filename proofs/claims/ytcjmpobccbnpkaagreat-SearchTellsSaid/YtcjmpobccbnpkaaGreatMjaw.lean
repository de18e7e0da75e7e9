/-
 Chapter 32: several texts in one (PsA EnA PrA PrB).
-/
import Derived.Test.YtcjmpobccbnpkaaGreatMjav
import Derived.Test.YtcjmpobccbnpkaaGreatMjao
import Derived.Maps.OwnSet
namespace Go.Proofs.YtcjmpobccbnpkaaGreat
section
section
open Go.RowKit
theorem alloc_step (W : World) (o : Obj) : ∃ X, W.alloc o = X ∧ Below W.heap.size W X ∧ X.heap[W.heap.size]? = some o ∧ X.heap.size = W.heap.size + 1 :=
 ⟨_, rfl, (Below.refl _ _).alloc (Nat.le_refl _) _, heap_alloc_new _ _, World.size_alloc _ _⟩
theorem box3 {W : World} {b : Nat} {x y z : Value} {t : TypeId} {fz : Nat × Nat} (k : W.heap[b]? = some (.cells #[x, y, z] t fz)) : W.cell? ⟨b, 0, none⟩ = some x ∧ W.cell? ⟨b, 1, none⟩ = some y ∧ W.cell? ⟨b, 2, none⟩ = some z :=
 ⟨by rw [cell_of_row _ _ _ _ _ _ k]; rfl, by rw [cell_of_row _ _ _ _ _ _ k]; rfl, by rw [cell_of_row _ _ _ _ _ _ k]; rfl⟩
theorem keep_blk {W X : World} {b : Nat} {o : Obj} (k : W.heap[b]? = some o) (h : Below W.heap.size W X) : X.heap[b]? = some o := (h.block b (lt_of_block k)).trans k
theorem froz3 {W : World} {b : Nat} {x y z : Value} {t : TypeId} (k : W.heap[b]? = some (.cells #[x, y, z] t (0, 0))) : W.frozen? ⟨b, 0, none⟩ = false ∧ W.frozen? ⟨b, 1, none⟩ = false ∧ W.frozen? ⟨b, 2, none⟩ = false :=
 ⟨by simp [World.frozen?, k], by simp [World.frozen?, k], by simp [World.frozen?, k]⟩
theorem info_pb : (Tryz.prog.info? 41).map (fun i => (i.zero, i.size, i.bytes)) = some (some (.agg #[.slice none 0 0, .slice none 0 0, .int .i64 0]), 3, 56) := by kernel_rfl
def flat3 (ts : List (Value × Value × Value)) : List Value := ts.flatMap fun t => [t.1, t.2.1, t.2.2]
def agg3 (t : Value × Value × Value) : Value := .agg #[t.1, t.2.1, t.2.2]
theorem flat3_append (xs ys : List (Value × Value × Value)) : flat3 (xs ++ ys) = flat3 xs ++ flat3 ys := by simp [flat3]
theorem flat3_get : ∀ (ts : List (Value × Value × Value)) (i : Nat) (p : Value × Value × Value), ts[i]? = some p → (flat3 ts)[i * 3]? = some p.1 ∧ (flat3 ts)[i * 3 + 1]? = some p.2.1 ∧ (flat3 ts)[i * 3 + 2]? = some p.2.2
 |q :: ts, 0, p, h => by
  obtain rfl := Option.some.inj h
  exact ⟨rfl, rfl, rfl⟩
 |q :: ts, i + 1, p, h => by
  obtain ⟨h1, h2, h3⟩ := flat3_get ts i p (by simpa using h)
  have e : flat3 (q :: ts) = q.1 :: q.2.1 :: q.2.2 :: flat3 ts := rfl
  rw [e, show (i + 1) * 3 = i * 3 + 1 + 1 + 1 by omega, show i * 3 + 1 + 1 + 1 + 1 = i * 3 + 1 + 1 + 1 + 1 from rfl, show i * 3 + 1 + 1 + 1 + 2 = i * 3 + 2 + 1 + 1 + 1 by omega, show i * 3 + 1 + 1 + 1 + 1 = i * 3 + 1 + 1 + 1 + 1 from rfl]
  simp only [List.getElem?_cons_succ]
  exact ⟨h1, h2, h3⟩
def Ps (w : World) (G : Nat → Prop) (ts : List (Value × Value × Value)) (ps : List Pb) : Prop := ts.length = ps.length ∧ ∀ (i : Nat) (t : Value × Value × Value) (p : Pb), ts[i]? = some t → ps[i]? = some p → PbRd w G (agg3 t) p
theorem Ps.nil (w : World) (G : Nat → Prop) : Ps w G [] [] := ⟨rfl, fun i t p h => by simp at h⟩
theorem Ps.below {w w' : World} {G : Nat → Prop} {ts : List (Value × Value × Value)} {ps : List Pb} (h : Ps w G ts ps) (hb : Below w.heap.size w w') : Ps w' G ts ps := ⟨h.1, fun i t p h1 h2 => (h.2 i t p h1 h2).below hb⟩
theorem Ps.mono {w : World} {F G : Nat → Prop} {ts : List (Value × Value × Value)} {ps : List Pb} (h : Ps w F ts ps) (hFG : ∀ g, g < w.heap.size → F g → G g) : Ps w G ts ps := ⟨h.1, fun i t p h1 h2 => (h.2 i t p h1 h2).mono hFG⟩
theorem Ps.mod {w w' : World} {F G : Nat → Prop} {ts : List (Value × Value × Value)} {ps : List Pb} (h : Ps w F ts ps) (hm : Mod G w w') (hFG : ∀ g, g < w.heap.size → F g → ¬ G g) : Ps w' F ts ps := ⟨h.1, fun i t p h1 h2 => (h.2 i t p h1 h2).mod hm hFG⟩
theorem Ps.snoc {w : World} {G : Nat → Prop} {ts : List (Value × Value × Value)} {ps : List Pb} (h : Ps w G ts ps) {t : Value × Value × Value} {p : Pb} (hp : PbRd w G (agg3 t) p) : Ps w G (ts ++ [t]) (ps ++ [p]) := by
 refine ⟨by simp [h.1], fun i t' p' h1 h2 => ?_⟩
 rcases Nat.lt_or_ge i ts.length with e | e
 ·rw [List.getElem?_append_left e] at h1
  rw [List.getElem?_append_left (by rw [← h.1]; exact e)] at h2
  exact h.2 i t' p' h1 h2
 ·rw [List.getElem?_append_right e] at h1
  rw [List.getElem?_append_right (by rw [← h.1]; exact e)] at h2
  have hi : i - ts.length = 0 := by
   have := (List.getElem?_eq_some_iff.1 h1).1
   simp at this
   omega
  rw [hi] at h1
  rw [show i - ps.length = 0 by rw [← h.1]; exact hi] at h2
  simp at h1 h2
  rw [← h1, ← h2]
  exact hp
theorem Ps.one {w : World} {G : Nat → Prop} {ts : List (Value × Value × Value)} {ps : List Pb} (h : Ps w G ts ps) : ∀ u ∈ flat3 ts, u.oneCell' = true := by
 intro u hu
 obtain ⟨t, ht, hu⟩ := List.mem_flatMap.1 hu
 obtain ⟨i, hi, e⟩ := List.getElem_of_mem ht
 have hl := h.1
 have hp : ps[i]? = some (ps[i]'(by omega)) := List.getElem?_eq_getElem (by omega)
 obtain ⟨A, n, c, B, m, d, hv, _⟩ := (h.2 i t _ (by rw [List.getElem?_eq_getElem hi, e]) hp).form
 injection hv with hv
 have h1 := congrArg (·[0]?) hv
 have h2 := congrArg (·[1]?) hv
 have h3 := congrArg (·[2]?) hv
 simp at h1 h2 h3
 simp only [List.mem_cons, List.not_mem_nil, or_false] at hu
 rcases hu with rfl | rfl | rfl
 ·rw [h1]; rfl
 ·rw [h2]; rfl
 ·rw [h3]; rfl
def PsRd (w : World) (F G : Nat → Prop) (A : Option Addr) (n c : Nat) (ps : List Pb) : Prop := ∃ ts, Rd w F 3 (.slice A n c) n (flat3 ts) ∧ Ps w G ts ps ∧ ps.length = n
theorem PsRd.below {w w' : World} {F G : Nat → Prop} {A : Option Addr} {n c : Nat} {ps : List Pb} (h : PsRd w F G A n c ps) (hb : Below w.heap.size w w') : PsRd w' F G A n c ps := by
 obtain ⟨ts, h1, h2, h3⟩ := h
 exact ⟨ts, h1.below hb, h2.below hb, h3⟩
theorem PsRd.mono {w : World} {F G F' G' : Nat → Prop} {A : Option Addr} {n c : Nat} {ps : List Pb} (h : PsRd w F G A n c ps) (hF : ∀ g, g < w.heap.size → F g → F' g) (hG : ∀ g, g < w.heap.size → G g → G' g) : PsRd w F' G' A n c ps := by
 obtain ⟨ts, h1, h2, h3⟩ := h
 exact ⟨ts, h1.mono hF, h2.mono hG, h3⟩
theorem PsRd.mod {w w' : World} {F G H : Nat → Prop} {A : Option Addr} {n c : Nat} {ps : List Pb} (h : PsRd w F G A n c ps) (hm : Mod H w w') (hF : ∀ g, g < w.heap.size → F g → ¬ H g) (hG : ∀ g, g < w.heap.size → G g → ¬ H g) : PsRd w' F G A n c ps := by
 obtain ⟨ts, h1, h2, h3⟩ := h
 exact ⟨ts, h1.mod hm hF, h2.mod hm hG, h3⟩
theorem PsRd.cells {w : World} {F G : Nat → Prop} {A : Option Addr} {n c : Nat} {ps : List Pb} (h : PsRd w F G A n c ps) {i : Nat} (hi : i < n) :
  ∃ g o p A1 n1 c1 A2 n2 c2, A = some ⟨g, o, none⟩ ∧ F g ∧ g < w.heap.size ∧ ps[i]? = some p ∧ w.cell? ⟨g, o + i * 3, none⟩ = some (.slice A1 n1 c1) ∧ w.cell? ⟨g, o + i * 3 + 1, none⟩ = some (.slice A2 n2 c2) ∧ w.cell? ⟨g, o + i * 3 + 2, none⟩ = some (.int .i64 p.bound) ∧ PbRd w G (.agg #[.slice A1 n1 c1, .slice A2 n2 c2, .int .i64 p.bound]) p := by
 obtain ⟨ts, ⟨hl, A', c', hv, _, _, hA⟩, hp, hn⟩ := h
 injection hv with h1 _ _
 subst h1
 obtain ⟨g, o, rfl, hF, hg, hc⟩ := hA (by omega)
 have hl3 := hp.1
 have hq : ps[i]? = some (ps[i]'(by omega)) := List.getElem?_eq_getElem (by omega)
 have ht : ts[i]? = some (ts[i]'(by omega)) := List.getElem?_eq_getElem (by omega)
 obtain ⟨c0, c1, c2⟩ := flat3_get ts i _ ht
 have hr := hp.2 i _ _ ht hq
 obtain ⟨A1, n1, d1, A2, n2, d2, hv, r1, r2⟩ := hr.form
 have hv' := hv
 unfold agg3 at hv
 injection hv with hv
 have e1 := congrArg (·[0]?) hv
 have e2 := congrArg (·[1]?) hv
 have e3 := congrArg (·[2]?) hv
 simp only [List.getElem?_toArray, List.getElem?_cons_zero, List.getElem?_cons_succ, Option.some.injEq] at e1 e2 e3
 rw [e1] at c0
 rw [e2] at c1
 rw [e3] at c2
 exact ⟨g, o, ps[i]'(by omega), A1, n1, d1, A2, n2, d2, rfl, hF, hg, hq, hc _ _ c0, by rw [Nat.add_assoc]; exact hc _ _ c1, by rw [Nat.add_assoc]; exact hc _ _ c2, ⟨A1, n1, d1, A2, n2, d2, rfl, r1, r2⟩, hr.bnd⟩
end
section
open Go.RowKit
theorem wp_append_pb {o : Oper} {a : Act} {w : World} {K : Act → World → Prop} {Q : Exit → Act → World → Prop} (s x : Operand)
  (ho : o.op = .call { callee := .builtin .append, args := #[s, x], argTypes := #[45, 45] }) {F G : Nat → Prop} {v u : Value} {n m : Nat} {xs ys : List Value}
  (hv : Own w F 41 3 v n xs) (hu : Rd w G 3 u m ys) (hs : a.eval s = v) (hx : a.eval x = u) (h1 : ∀ u ∈ ys, u.oneCell' = true) (hb : n + m ≤ 1000000)
  (hK : ∀ A c w', Own w' (fun b => F b ∨ w.heap.size ≤ b) 41 3 (.slice A (n + m) c) (n + m) (xs ++ ys) → Mod (row v) w w' → (∀ b, row (.slice A (n + m) c) b → row v b ∨ w.heap.size ≤ b) → K (a.put o.dst (.slice A (n + m) c)) w') : o.wp Tryz.prog a w K Q := by
 obtain ⟨i0, hi, hz0, hz1, hz2⟩ := info_parts info_pb
 obtain ⟨v', w', hr, h2, h3, h4⟩ := run_append_rd (P := Tryz.prog) 45 o.type i0 (.agg #[.slice none 0 0, .slice none 0 0, .int .i64 0]) 56 Tryz.underlying45 hi hz0 hz1 hz2 rfl (by decide) hv hu h1 (by unfold maxLen; omega) (by omega)
 unfold Oper.wp execOp
 simp only [ho, resolve, invoke, builtin, Sem.run_bind, Sem.run_pure, Result.andThen_ok, List.map_toArray, List.map_cons, List.map_nil, hs, hx, hr]
 obtain ⟨A, c, rfl, _⟩ := h2.form
 exact hK A c w' h2 h3 h4
theorem wpList_append_pb {ops : Array Oper} {rest : List Oper} {o : Oper} {a : Act} {w : World} {Q : Exit → Act → World → Prop} (hgd : o.guard = none) (s x : Operand)
  (ho : o.op = .call { callee := .builtin .append, args := #[s, x], argTypes := #[45, 45] }) {F G : Nat → Prop} {v u : Value} {n m : Nat} {xs ys : List Value}
  (hv : Own w F 41 3 v n xs) (hu : Rd w G 3 u m ys) (hs : a.eval s = v) (hx : a.eval x = u) (h1 : ∀ u ∈ ys, u.oneCell' = true) (hb : n + m ≤ 1000000)
  (hK : ∀ A c w', Own w' (fun b => F b ∨ w.heap.size ≤ b) 41 3 (.slice A (n + m) c) (n + m) (xs ++ ys) → Mod (row v) w w' → (∀ b, row (.slice A (n + m) c) b → row v b ∨ w.heap.size ≤ b) → wpList Tryz.prog ops Q rest (a.put o.dst (.slice A (n + m) c)) w') :
  wpList Tryz.prog ops Q (o :: rest) a w :=
 wpList_plain hgd fun _ hK' => wp_append_pb s x ho hv hu hs hx h1 hb fun A c w' h2 h3 h4 => hK' _ _ (hK A c w' h2 h3 h4)
theorem step_append_pb {ops : Array Oper} {o : Oper} {a : Act} {w : World} {K : Act → World → Prop} {Q : Exit → Act → World → Prop} {E : Prop} (hgd : o.guard = none) (s x : Operand)
  (ho : o.op = .call { callee := .builtin .append, args := #[s, x], argTypes := #[45, 45] }) {F G : Nat → Prop} {v u : Value} {n m : Nat} {xs ys : List Value}
  (hv : Own w F 41 3 v n xs) (hu : Rd w G 3 u m ys) (hs : a.eval s = v) (hx : a.eval x = u) (h1 : ∀ u ∈ ys, u.oneCell' = true) (hb : n + m ≤ 1000000)
  (hK : ∀ A c w', Own w' (fun b => F b ∨ w.heap.size ≤ b) 41 3 (.slice A (n + m) c) (n + m) (xs ++ ys) → Mod (row v) w w' → (∀ b, row (.slice A (n + m) c) b → row v b ∨ w.heap.size ≤ b) → K (a.put o.dst (.slice A (n + m) c)) w') :
  if Region.wanted o (yielded ops a.tmps) = true then Oper.wp Tryz.prog o a w K Q else E := by
 have hw : Region.wanted o (yielded ops a.tmps) = true := by simp [Region.wanted, hgd]
 rw [if_pos hw]
 exact wp_append_pb s x ho hv hu hs hx h1 hb hK
theorem rd_lit3 {w : World} {Z : Nat} {x y z : Value} (k : w.heap[Z]? = some (.cells #[x, y, z] 41)) : Rd w (fun g => g = Z) 3 (.slice (some ⟨Z, 0, none⟩) 1 1) 1 [x, y, z] := by
 refine ⟨rfl, _, _, rfl, Nat.le_refl _, by decide, fun _ => ⟨Z, 0, rfl, rfl, lt_of_block k, fun j u hj => ?_⟩⟩
 rw [Nat.zero_add, cell_of_row _ _ _ _ _ _ k]
 rw [← hj]
 simp
theorem pb_one {w : World} {F : Nat → Prop} {A B : Option Addr} {n c m d : Nat} {z : Int} {p : Pb} (_h : PbRd w F (.agg #[.slice A n c, .slice B m d, .int .i64 z]) p) : ∀ u ∈ [Value.slice A n c, .slice B m d, .int .i64 z], u.oneCell' = true := by
 intro u hu
 simp only [List.mem_cons, List.not_mem_nil, or_false] at hu
 rcases hu with rfl | rfl | rfl <;> rfl
end
end
section
open Go.RowKit Go.ChangeMaps
structure InMap (w : World) (F : Nat → Prop) (m : Nat) (es : Array MapEntry) (clock : Nat) (f : Int → List Int) : Prop where
 hm : F m
 map : w.heap[m]? = some (.map es clock)
 keyed : ∀ (i : Nat) (x : MapEntry), es[i]? = some x → ∃ n, x.key = .int .i64 n
 inj : ∀ (i j : Nat) (x y : MapEntry), es[i]? = some x → es[j]? = some y → keyNum x = keyNum y → i = j
 vals : ∀ (i : Nat) (x : MapEntry), es[i]? = some x → Own w F 3 1 x.val (f (keyNum x)).length (ints (f (keyNum x)))
 gone : ∀ l, (∀ (i : Nat) (x : MapEntry), es[i]? = some x → keyNum x ≠ l) → f l = []
 apart : ∀ (i j : Nat) (x y : MapEntry), es[i]? = some x → es[j]? = some y → i ≠ j → ∀ g, row x.val g → ¬ row y.val g
def rowsIn (es : Array MapEntry) (g : Nat) : Prop := ∃ (i : Nat) (x : MapEntry), es[i]? = some x ∧ row x.val g
section
variable {w w' : World} {F G : Nat → Prop} {m : Nat} {es : Array MapEntry} {clock : Nat} {f : Int → List Int}
theorem InMap.keep (h : InMap w F m es clock f) (hb : ∀ g, g < w.heap.size → F g → (g = m ∨ rowsIn es g) → w'.heap[g]? = w.heap[g]?) : InMap w' F m es clock f :=
 ⟨h.hm, (hb m (lt_of_block h.map) h.hm (.inl rfl)).trans h.map, h.keyed, h.inj, fun i x hx => (h.vals i x hx).keep fun g hg hr hF => hb g hg hF (.inr ⟨i, x, hx, hr⟩), h.gone, h.apart⟩
theorem InMap.mod (h : InMap w F m es clock f) (hm : Mod G w w') (hG : ∀ g, g < w.heap.size → F g → (g = m ∨ rowsIn es g) → ¬ G g) : InMap w' F m es clock f :=
 h.keep fun g hg hF hr => hm.block g hg (hG g hg hF hr)
theorem InMap.mono (h : InMap w F m es clock f) (hFG : ∀ g, F g → G g) : InMap w G m es clock f :=
 ⟨hFG _ h.hm, h.map, h.keyed, h.inj, fun i x hx => (h.vals i x hx).mono fun g _ _ hF => hFG g hF, h.gone, h.apart⟩
theorem InMap.inRow (h : InMap w F m es clock f) {g : Nat} (hr : rowsIn es g) : F g ∧ ∃ cur, w.heap[g]? = some (.cells cur 3 (0, 0)) := by
 obtain ⟨i, x, hx, hr⟩ := hr
 exact (h.vals i x hx).row hr
theorem InMap.keyedL (h : InMap w F m es clock f) : ∀ x ∈ es.toList, ∃ n, x.key = .int .i64 n := by
 intro x hx
 obtain ⟨i, hi⟩ := List.mem_iff_getElem?.1 hx
 exact h.keyed i x (by simpa using hi)
theorem InMap.look (h : InMap w F m es clock f) (l : Int) : ∃ v, (∀ (w2 : World) (t k e : TypeId), w2.heap[m]? = some (.map es clock) → Tryz.prog.underlying t = some (.map k e) → Tryz.prog.underlying k = some (.int .i64) → (zeroValue e).run Tryz.prog w2 = .ok (.slice none 0 0) w2 → (Instr.lookup t (.map (some m)) (.int .i64 l) false).run Tryz.prog w2 = .ok v w2) ∧
  Own w F 3 1 v (f l).length (ints (f l)) ∧ ((∃ (j : Nat) (x : MapEntry), es.toList.findIdx? (fun x => keyNum x == l) = some j ∧ es[j]? = some x ∧ x.val = v ∧ keyNum x = l) ∨
   (es.toList.findIdx? (fun x => keyNum x == l) = none ∧ v = .slice none 0 0 ∧ f l = [] ∧ ∀ (i : Nat) (x : MapEntry), es[i]? = some x → keyNum x ≠ l)) := by
 cases hf : es.toList.findIdx? (fun x => keyNum x == l) with
 | none =>
  have hno : ∀ (i : Nat) (x : MapEntry), es[i]? = some x → keyNum x ≠ l := fun i x hx e => by
   have h1 := List.findIdx?_eq_none_iff.1 hf x (List.mem_iff_getElem?.2 ⟨i, by simpa using hx⟩)
   rw [e] at h1
   simp at h1
  have h0 := h.gone l hno
  refine ⟨.slice none 0 0, fun w2 t k e hw2 ht hk hz => ?_, by rw [h0]; exact Own.nil _ _ _ _, .inr ⟨rfl, rfl, h0, hno⟩⟩
  have := lookup_i64 (P := Tryz.prog) (e := e) ht hk l hz hw2 h.keyedL false
  rw [hf] at this
  exact this
 | some j =>
  obtain ⟨hj, h1, _⟩ := List.findIdx?_eq_some_iff_getElem.1 hf
  have hx : es[j]? = some es.toList[j] := by
   have : j < es.size := by simpa using hj
   simp [this]
  have hk : keyNum es.toList[j] = l := by simpa using h1
  refine ⟨es.toList[j].val, fun w2 t k e hw2 ht hkk hz => ?_, by have := h.vals j _ hx; rwa [hk] at this, .inl ⟨j, es.toList[j], rfl, hx, rfl, hk⟩⟩
  have := lookup_i64 (P := Tryz.prog) (e := e) ht hkk l hz hw2 h.keyedL false
  rw [hf] at this
  rw [this]
  simp [hx]
theorem row_zero {g : Nat} : ¬ row (.slice none 0 0) g := by simp [row]
theorem InMap.put {w1 : World} {v v' : Value} {l : Int} {n : Nat} {ys : List Int} (h : InMap w F m es clock f)
  (hv : (∃ (j : Nat) (x : MapEntry), es.toList.findIdx? (fun x => keyNum x == l) = some j ∧ es[j]? = some x ∧ x.val = v ∧ keyNum x = l) ∨ (es.toList.findIdx? (fun x => keyNum x == l) = none ∧ v = .slice none 0 0 ∧ f l = [] ∧ ∀ (i : Nat) (x : MapEntry), es[i]? = some x → keyNum x ≠ l))
  (ho : Own w1 (fun b => F b ∨ w.heap.size ≤ b) 3 1 v' n (ints ys)) (hn : ys.length = n) (hm : Mod (row v) w w1) (hr : ∀ b, row v' b → row v b ∨ w.heap.size ≤ b) :
  ∃ es' clock', (∀ (t k e : TypeId), Tryz.prog.underlying t = some (.map k e) → Tryz.prog.underlying k = some (.int .i64) → (Instr.mapUpdate t (.map (some m)) (.int .i64 l) v').run Tryz.prog w1 = .ok () (setBlock w1 m (.map es' clock'))) ∧
   InMap (setBlock w1 m (.map es' clock')) (fun b => F b ∨ w.heap.size ≤ b) m es' clock' (fun x => if x = l then ys else f x) ∧
   Mod (fun g => g = m ∨ row v g) w (setBlock w1 m (.map es' clock')) ∧ (∀ g, rowsIn es' g → rowsIn es g ∨ w.heap.size ≤ g) := by
 have hrow : ∀ g, row v g → rowsIn es g := fun g hg => by
  rcases hv with ⟨j, x, _, h2, h3, _⟩ | ⟨_, h2, _⟩
  ·exact ⟨j, x, h2, h3 ▸ hg⟩
  ·rw [h2] at hg; exact absurd hg row_zero
 have hmr : ¬ row v m := fun e => by
  obtain ⟨_, cur, h2⟩ := h.inRow (hrow m e)
  rw [h.map] at h2
  cases h2
 have hmap1 : w1.heap[m]? = some (.map es clock) := (hm.block m (lt_of_block h.map) hmr).trans h.map
 have hset : ∀ o, Mod (fun g => g = m) w1 (setBlock w1 m o) := fun o => ⟨rfl, rfl, rfl, by simp [setBlock], fun g _ hg => by unfold setBlock; exact Array.getElem?_setIfInBounds_ne (fun e => hg e.symm)⟩
 have hMod : ∀ o, Mod (fun g => g = m ∨ row v g) w (setBlock w1 m o) := fun o => (hm.mono fun g _ hg => .inr hg).trans ((hset o).mono fun g _ hg => .inl (.inl hg))
 have hnew : ∀ o, (setBlock w1 m o).heap[m]? = some o := fun o => by
  have := lt_of_block hmap1
  unfold setBlock
  simp [this]
 have hrm : ∀ g, row v' g → g ≠ m := fun g hg e => by
  subst e
  obtain ⟨_, cur, h2⟩ := ho.row hg
  rw [hmap1] at h2
  cases h2
 have hkeep : ∀ (o : Obj) (i : Nat) (x : MapEntry), es[i]? = some x → (∀ g, row x.val g → ¬ row v g) → Own (setBlock w1 m o) (fun b => F b ∨ w.heap.size ≤ b) 3 1 x.val (f (keyNum x)).length (ints (f (keyNum x))) := fun o i x hx hno => by
  refine ((h.vals i x hx).mod (hMod o) fun g _ hg _ e => ?_).mono fun g _ _ hg => .inl hg
  rcases e with e | e
  ·subst e
   obtain ⟨_, cur, h2⟩ := (h.vals i x hx).row hg
   rw [h.map] at h2
   cases h2
  ·exact hno g hg e
 have hown : ∀ o, Own (setBlock w1 m o) (fun b => F b ∨ w.heap.size ≤ b) 3 1 v' n (ints ys) := fun o => ho.mod (hset o) fun g _ hg _ e => hrm g hg e
 rcases hv with ⟨j, x, h1, h2, h3, h4⟩ | ⟨h1, h2, h3, h4⟩
 ·have hjs : j < es.size := (Array.getElem?_eq_some_iff.1 h2).1
  have hget : ∀ (i : Nat) (y : MapEntry), (es.modify j fun e => { e with key := .int .i64 l, val := v' })[i]? = some y → (i = j ∧ y = { x with key := .int .i64 l, val := v' }) ∨ (i ≠ j ∧ es[i]? = some y) := fun i y hy => by
   rw [Array.getElem?_modify] at hy
   by_cases e : j = i
   ·subst e
    rw [if_pos rfl, h2] at hy
    exact .inl ⟨rfl, (Option.some.inj hy).symm⟩
   ·rw [if_neg e] at hy
    exact .inr ⟨Ne.symm e, hy⟩
  have hkx : ∀ b : Nat, keyNum { x with key := .int .i64 l, val := v' } = l := fun _ => rfl
  refine ⟨es.modify j fun e => { e with key := .int .i64 l, val := v' }, clock, fun t k e ht hk => update_i64_old (P := Tryz.prog) (e := e) ht hk l hmap1 h.keyedL h1 v', ⟨.inl h.hm, hnew _, fun i y hy => ?_, fun i k y z hy hz e => ?_, fun i y hy => ?_, fun q hq => ?_, fun i k y z hy hz hne g hg hg2 => ?_⟩, hMod _, fun g hg => ?_⟩
  ·rcases hget i y hy with ⟨rfl, rfl⟩ | ⟨_, hy2⟩
   ·exact ⟨l, rfl⟩
   ·exact h.keyed i y hy2
  ·rcases hget i y hy with ⟨rfl, rfl⟩ | ⟨hne, hy2⟩
   ·rcases hget k z hz with ⟨rfl, rfl⟩ | ⟨hne2, hz2⟩
    ·rfl
    ·exact h.inj i k x z h2 hz2 (by rw [h4]; exact e)
   ·rcases hget k z hz with ⟨rfl, rfl⟩ | ⟨hne2, hz2⟩
    ·exact h.inj i k y x hy2 h2 (by rw [h4]; exact e)
    ·exact h.inj i k y z hy2 hz2 e
  ·rcases hget i y hy with ⟨rfl, rfl⟩ | ⟨hne, hy2⟩
   ·show Own _ _ _ _ v' (if l = l then ys else f l).length (ints (if l = l then ys else f l))
    rw [if_pos rfl, hn]
    exact hown _
   ·have hk : keyNum y ≠ l := fun e => hne (h.inj i j y x hy2 h2 (by rw [h4, e]))
    simp only [if_neg hk]
    exact hkeep _ i y hy2 fun g hg hg2 => h.apart i j y x hy2 h2 hne g hg (h3.symm ▸ hg2)
  ·have hql : q ≠ l := fun e => hq j _ (by rw [Array.getElem?_modify, if_pos rfl, h2]; rfl) (by rw [e]; rfl)
   simp only [if_neg hql]
   refine h.gone q fun i y hy => ?_
   by_cases e : i = j
   ·subst e
    rw [h2] at hy
    obtain rfl := Option.some.inj hy
    rw [h4]; exact Ne.symm hql
   ·exact hq i y (by rw [Array.getElem?_modify, if_neg (Ne.symm e)]; exact hy)
  ·rcases hget i y hy with ⟨rfl, rfl⟩ | ⟨hne1, hy2⟩
   ·rcases hget k z hz with ⟨rfl, rfl⟩ | ⟨hne2, hz2⟩
    ·exact hne rfl
    ·rcases hr g hg with e | e
     ·exact h.apart k i z x hz2 h2 hne2 g hg2 (h3.symm ▸ e)
     ·have := lt_of_block ((h.vals k z hz2).row hg2).2.choose_spec
      omega
   ·rcases hget k z hz with ⟨rfl, rfl⟩ | ⟨hne2, hz2⟩
    ·rcases hr g hg2 with e | e
     ·exact h.apart i k y x hy2 h2 hne1 g hg (h3.symm ▸ e)
     ·have := lt_of_block ((h.vals i y hy2).row hg).2.choose_spec
      omega
    ·exact h.apart i k y z hy2 hz2 hne g hg hg2
  ·obtain ⟨i, y, hy, hg⟩ := hg
   rcases hget i y hy with ⟨rfl, rfl⟩ | ⟨_, hy2⟩
   ·exact (hr g hg).imp_left (hrow g)
   ·exact .inl ⟨i, y, hy2, hg⟩
 ·have hget : ∀ (i : Nat) (y : MapEntry), (es.push { key := .int .i64 l, val := v', born := clock })[i]? = some y → (i = es.size ∧ y = { key := .int .i64 l, val := v', born := clock }) ∨ (i < es.size ∧ es[i]? = some y) := fun i y hy => by
   rw [Array.getElem?_push] at hy
   by_cases e : i = es.size
   ·rw [if_pos e] at hy
    exact .inl ⟨e, (Option.some.inj hy).symm⟩
   ·rw [if_neg e] at hy
    exact .inr ⟨(Array.getElem?_eq_some_iff.1 hy).1, hy⟩
  have hvr : ∀ g, ¬ row v g := fun g hg => by rw [h2] at hg; exact absurd hg row_zero
  have hput : ∀ (i : Nat) (y : MapEntry), es[i]? = some y → (es.push { key := .int .i64 l, val := v', born := clock })[i]? = some y := fun i y hy => by
   rw [Array.getElem?_push, if_neg (by have := (Array.getElem?_eq_some_iff.1 hy).1; omega)]; exact hy
  refine ⟨es.push { key := .int .i64 l, val := v', born := clock }, clock + 1, fun t k e ht hk => update_i64_new (P := Tryz.prog) (e := e) ht hk l hmap1 h.keyedL h1 v', ⟨.inl h.hm, hnew _, fun i y hy => ?_, fun i k y z hy hz e => ?_, fun i y hy => ?_, fun q hq => ?_, fun i k y z hy hz hne g hg hg2 => ?_⟩, hMod _, fun g hg => ?_⟩
  ·rcases hget i y hy with ⟨_, rfl⟩ | ⟨_, hy⟩
   ·exact ⟨l, rfl⟩
   ·exact h.keyed i y hy
  ·rcases hget i y hy with ⟨e1, rfl⟩ | ⟨_, hy⟩
   ·rcases hget k z hz with ⟨e2, rfl⟩ | ⟨_, hz⟩
    ·omega
    ·exact absurd e.symm (h4 k z hz)
   ·rcases hget k z hz with ⟨e2, rfl⟩ | ⟨_, hz⟩
    ·exact absurd e (h4 i y hy)
    ·exact h.inj i k y z hy hz e
  ·rcases hget i y hy with ⟨_, rfl⟩ | ⟨_, hy⟩
   ·show Own _ _ _ _ v' (if l = l then ys else f l).length (ints (if l = l then ys else f l))
    rw [if_pos rfl, hn]
    exact hown _
   ·simp only [if_neg (h4 i y hy)]
    exact hkeep _ i y hy fun g _ => hvr g
  ·have hql : q ≠ l := fun e => hq es.size _ (by rw [Array.getElem?_push, if_pos rfl]) (by rw [e]; rfl)
   simp only [if_neg hql]
   exact h.gone q fun i y hy => hq i y (hput i y hy)
  ·rcases hget i y hy with ⟨e1, rfl⟩ | ⟨_, hy⟩
   ·rcases hget k z hz with ⟨e2, rfl⟩ | ⟨_, hz⟩
    ·omega
    ·rcases hr g hg with e | e
     ·exact hvr g e
     ·have := lt_of_block ((h.vals k z hz).row hg2).2.choose_spec
      omega
   ·rcases hget k z hz with ⟨e2, rfl⟩ | ⟨_, hz⟩
    ·rcases hr g hg2 with e | e
     ·exact hvr g e
     ·have := lt_of_block ((h.vals i y hy).row hg).2.choose_spec
      omega
    ·exact h.apart i k y z hy hz hne g hg hg2
  ·obtain ⟨i, y, hy, hg⟩ := hg
   rcases hget i y hy with ⟨_, rfl⟩ | ⟨_, hy⟩
   ·exact (hr g hg).imp_left (hrow g)
   ·exact .inl ⟨i, y, hy, hg⟩
end
end
section
open Go.RowKit
def valX (X : List Int) (l : Int) : Int := if l ∈ X then 1 else if -l ∈ X then -1 else 0
def okX (X : List Int) : Prop := ∀ l ∈ X, -l ∉ X
theorem valX_neg {X : List Int} {l : Int} : valX X l < 0 ↔ l ∉ X ∧ -l ∈ X := by
 unfold valX
 by_cases h1 : l ∈ X
 ·simp [h1]
 ·by_cases h2 : -l ∈ X
  ·simp [h1, h2]
  ·simp [h1, h2]
theorem valX_zero {X : List Int} {l : Int} : valX X l = 0 ↔ l ∉ X ∧ -l ∉ X := by
 unfold valX
 by_cases h1 : l ∈ X
 ·simp [h1]
 ·by_cases h2 : -l ∈ X
  ·simp [h1, h2]
  ·simp [h1, h2]
theorem valX_pos {X : List Int} {l : Int} : 0 < valX X l ↔ l ∈ X := by
 unfold valX
 by_cases h1 : l ∈ X
 ·simp [h1]
 ·by_cases h2 : -l ∈ X
  ·simp [h1, h2]
  ·simp [h1, h2]
def Pb.slackX (c : Pb) (X : List Int) : Int := (c.total fun l => decide (0 ≤ valX X l)) - c.bound
def Pb.offX (c : Pb) (X : List Int) : List Int := c.lits.filter fun l => decide (valX X l < 0)
def Pb.newX (c : Pb) (X : List Int) : List Int := c.pick (fun l k => decide (c.slackX X < k) && decide (valX X l = 0)) (List.range c.lits.length)
def Pb.Calm (c : Pb) (X : List Int) : Prop := 0 ≤ c.slackX X ∧ ∀ j, j < c.lits.length → c.slackX X < nth c.coefs j → valX X (nth c.lits j) ≠ 0
section
variable {c : Pb} {X Y N : List Int}
theorem mem_newX {l : Int} : l ∈ c.newX X ↔ ∃ j, j < c.lits.length ∧ c.slackX X < nth c.coefs j ∧ valX X (nth c.lits j) = 0 ∧ nth c.lits j = l := by
 unfold Pb.newX
 rw [mem_pick]
 constructor
 ·rintro ⟨j, h1, h2, h3⟩
  simp only [Bool.and_eq_true, decide_eq_true_eq] at h2
  exact ⟨j, h1, h2.1, h2.2, h3⟩
 ·rintro ⟨j, h1, h2, h3, h4⟩
  exact ⟨j, h1, by simp [h2, h3], h4⟩
theorem mem_offX {l : Int} : l ∈ c.offX X ↔ l ∈ c.lits ∧ l ∉ X ∧ -l ∈ X := by
 unfold Pb.offX
 rw [List.mem_filter, decide_eq_true_eq, valX_neg]
theorem slackX_same (hY : okX (X ++ N)) (hN : ∀ x ∈ N, -x ∉ c.lits) : c.slackX (X ++ N) = c.slackX X := by
 unfold Pb.slackX
 congr 1
 refine Pb.total_cong fun j hj => ?_
 have hm := nth_mem hj
 have : valX (X ++ N) (nth c.lits j) < 0 ↔ valX X (nth c.lits j) < 0 := by
  rw [valX_neg, valX_neg]
  constructor
  ·rintro ⟨h1, h2⟩
   refine ⟨fun h3 => h1 (List.mem_append_left _ h3), (List.mem_append.1 h2).elim id fun h3 => ?_⟩
   exact absurd hm (by have := hN _ h3; rwa [Int.neg_neg] at this)
  ·rintro ⟨h1, h2⟩
   exact ⟨fun h3 => hY _ h3 (List.mem_append_left _ h2), List.mem_append_left _ h2⟩
 by_cases h : valX X (nth c.lits j) < 0
 ·rw [decide_eq_false (by have := this.2 h; omega), decide_eq_false (by omega)]
 ·rw [decide_eq_true (by have := fun e => h (this.1 e); omega), decide_eq_true (by omega)]
theorem Pb.Calm.more (h : c.Calm X) (hY : okX (X ++ N)) (hN : ∀ x ∈ N, -x ∉ c.lits) : c.Calm (X ++ N) := by
 have e := slackX_same hY hN
 refine ⟨by rw [e]; exact h.1, fun j hj hlt => ?_⟩
 rw [e] at hlt
 have h1 := h.2 j hj hlt
 intro h2
 obtain ⟨h3, h4⟩ := valX_zero.1 h2
 exact h1 (valX_zero.2 ⟨fun h5 => h3 (List.mem_append_left _ h5), fun h5 => h4 (List.mem_append_left _ h5)⟩)
theorem Pb.Ok.inj (h : c.Ok) {i j : Nat} (hi : i < c.lits.length) (hj : j < c.lits.length) (e : (nth c.lits i).natAbs = (nth c.lits j).natAbs) : i = j := by
 rcases Nat.lt_or_ge i j with h1 | h1
 ·exact absurd (show c.av i = c.av j by unfold Pb.av; rw [e]) (h.differ (by omega) hi hj)
 ·rcases Nat.lt_or_ge j i with h2 | h2
  ·exact absurd (show c.av i = c.av j by unfold Pb.av; rw [e]) (h.differ (by omega) hi hj)
  ·omega
theorem Pb.Ok.lit0 (h : c.Ok) {j : Nat} (hj : j < c.lits.length) : nth c.lits j ≠ 0 := by
 have := h.lit j hj
 omega
theorem Pb.Ok.no_neg (h : c.Ok) {l : Int} (hl : l ∈ c.lits) : -l ∉ c.lits := by
 intro h2
 obtain ⟨i, hi, e1⟩ := List.getElem_of_mem hl
 obtain ⟨j, hj, e2⟩ := List.getElem_of_mem h2
 have e3 : nth c.lits i = l := by rw [nth_eq hi, e1]
 have e4 : nth c.lits j = -l := by rw [nth_eq hj, e2]
 have := h.inj hi hj (by rw [e3, e4]; omega)
 subst this
 have := h.lit0 hi
 omega
theorem calm_exam (h : c.Ok) (h0 : 0 ≤ c.slackX X) (hY : okX (X ++ c.newX X)) : c.Calm (X ++ c.newX X) := by
 have hN : ∀ x ∈ c.newX X, -x ∉ c.lits := fun x hx => by
  obtain ⟨j, hj, _, _, rfl⟩ := mem_newX.1 hx
  exact h.no_neg (nth_mem hj)
 have e := slackX_same hY hN
 refine ⟨by rw [e]; exact h0, fun j hj hlt h2 => ?_⟩
 rw [e] at hlt
 obtain ⟨h3, h4⟩ := valX_zero.1 h2
 have h5 : valX X (nth c.lits j) = 0 := valX_zero.2 ⟨fun h5 => h3 (List.mem_append_left _ h5), fun h5 => h4 (List.mem_append_left _ h5)⟩
 exact h3 (List.mem_append_right _ (mem_newX.2 ⟨j, hj, hlt, h5, rfl⟩))
theorem okX_exam (h : c.Ok) (hX : okX X) : okX (X ++ c.newX X) := by
 intro l hl hn
 rcases List.mem_append.1 hl with h1 | h1
 ·rcases List.mem_append.1 hn with h2 | h2
  ·exact hX l h1 h2
  ·obtain ⟨j, _, _, h3, h4⟩ := mem_newX.1 h2
   rw [h4] at h3
   have := (valX_zero.1 h3).2
   rw [Int.neg_neg] at this
   exact this h1
 ·obtain ⟨j, hj, _, h3, h4⟩ := mem_newX.1 h1
  rcases List.mem_append.1 hn with h2 | h2
  ·rw [h4] at h3
   exact (valX_zero.1 h3).2 h2
  ·obtain ⟨k, hk, _, _, h6⟩ := mem_newX.1 h2
   exact h.no_neg (nth_mem hj) (by rw [h4, ← h6]; exact nth_mem hk)
theorem total_drop (h : c.Ok) {p q : Int → Bool} {j : Nat} (hj : j < c.lits.length) (hp : p (nth c.lits j) = true) (hq : q (nth c.lits j) = false) (hqp : ∀ i, i < c.lits.length → q (nth c.lits i) = true → p (nth c.lits i) = true) : c.total q + nth c.coefs j ≤ c.total p := by
 have key : ∀ (V : List Nat), V.Nodup → (∀ i ∈ V, i < c.lits.length) → c.part q V + (if j ∈ V then nth c.coefs j else 0) ≤ c.part p V := by
  intro V
  induction V with
  | nil => intro _ _; simp [Pb.part]
  | cons i V ih =>
   intro hnd hV
   have h1 := ih (List.nodup_cons.1 hnd).2 fun k hk => hV k (List.mem_cons_of_mem _ hk)
   have h2 := hV i (List.mem_cons_self ..)
   have h3 := h.coef i h2
   have e1 : ∀ r : Int → Bool, c.part r (i :: V) = (if r (nth c.lits i) = true then nth c.coefs i else 0) + c.part r V := fun r => by simp [Pb.part]
   rw [e1, e1]
   by_cases e : i = j
   ·subst e
    have h4 : i ∉ V := (List.nodup_cons.1 hnd).1
    rw [if_neg h4] at h1
    rw [hq, hp, if_pos (List.mem_cons_self ..)]
    simp only [Bool.false_eq_true, if_false, if_true]
    omega
   ·have h5 : (if j ∈ i :: V then nth c.coefs j else 0) = (if j ∈ V then nth c.coefs j else 0) := by simp [Ne.symm e]
    rw [h5]
    cases hqi : q (nth c.lits i) with
    | true =>
     rw [hqp i h2 hqi]
     simp only [if_true]
     omega
    | false =>
     have h6 : (0 : Int) ≤ (if p (nth c.lits i) = true then nth c.coefs i else 0) := by split <;> omega
     simp only [Bool.false_eq_true, if_false]
     omega
 have := key (List.range c.lits.length) List.nodup_range fun i hi => List.mem_range.1 hi
 rw [if_pos (List.mem_range.2 hj)] at this
 exact this
theorem tr_off {s : Int → Bool} (hl : ∀ l ∈ X, tr s l = true) (h0 : ∀ l ∈ X, l ≠ 0) {l : Int} (hn : valX X l < 0) : tr s l = false := by
 obtain ⟨_, h2⟩ := valX_neg.1 hn
 have h3 := hl _ h2
 rw [tr_neg s (by have := h0 _ h2; omega)] at h3
 simpa using h3
theorem sound_slack (h : c.Ok) {s : Int → Bool} (hl : ∀ l ∈ X, tr s l = true) (h0 : ∀ l ∈ X, l ≠ 0) (hc : c.bound ≤ c.total (tr s)) : 0 ≤ c.slackX X ∧ ∀ l ∈ c.newX X, tr s l = true := by
 have h1 := h.total_le (p := tr s) (q := fun l => decide (0 ≤ valX X l)) fun j _ hp => by
  simp only [decide_eq_true_eq]
  refine Int.not_lt.1 fun hn => ?_
  rw [tr_off hl h0 hn] at hp
  cases hp
 refine ⟨by unfold Pb.slackX; omega, fun l hn => ?_⟩
 obtain ⟨j, hj, h2, h3, rfl⟩ := mem_newX.1 hn
 by_cases e : tr s (nth c.lits j) = true
 ·exact e
 ·exfalso
  have h8 := total_drop h (p := fun l => decide (0 ≤ valX X l)) (q := tr s) hj (by simp [h3]) (by simpa using e) fun i _ hq => by
   simp only [decide_eq_true_eq]
   refine Int.not_lt.1 fun hn => ?_
   rw [tr_off hl h0 hn] at hq
   cases hq
  unfold Pb.slackX at h2
  omega
end
end
section
open Go.RowKit
def cAt (cs : List Pb) (i : Nat) : Pb := cs[i]?.getD ⟨[], [], 0⟩
theorem cAt_mem {cs : List Pb} {i : Nat} (h : i < cs.length) : cAt cs i ∈ cs := by
 have : cAt cs i = cs[i] := by simp [cAt, h]
 rw [this]; exact List.getElem_mem h
def exX (cs : List Pb) (X : List Int) (i : Nat) : List Int := X ++ (cAt cs i).newX X
def runX (cs : List Pb) (X : List Int) (is : List Nat) : List Int := is.foldl (exX cs) X
theorem runX_snoc (cs : List Pb) (X : List Int) (is : List Nat) (i : Nat) : runX cs X (is ++ [i]) = exX cs (runX cs X is) i := by simp [runX, List.foldl_append]
def fineX (cs : List Pb) : List Int → List Nat → Prop
 | _, [] => True
 | X, i :: is => 0 ≤ (cAt cs i).slackX X ∧ fineX cs (exX cs X i) is
theorem fineX_snoc {cs : List Pb} {i : Nat} : ∀ {is : List Nat} {X : List Int}, fineX cs X (is ++ [i]) ↔ fineX cs X is ∧ 0 ≤ (cAt cs i).slackX (runX cs X is)
 | [], X => by simp [fineX, runX]
 |k :: is, X => by
  have := fineX_snoc (cs := cs) (i := i) (is := is) (X := exX cs X k)
  simp only [List.cons_append, fineX, this, runX, List.foldl_cons]
  constructor
  ·rintro ⟨h1, h2, h3⟩; exact ⟨⟨h1, h2⟩, h3⟩
  ·rintro ⟨⟨h1, h2⟩, h3⟩; exact ⟨h1, h2, h3⟩
section
variable {cs : List Pb} {X Y : List Int} {is : List Nat}
theorem okX_run (hcs : ∀ c ∈ cs, c.Ok) (hi : ∀ i ∈ is, i < cs.length) (hX : okX X) : okX (runX cs X is) := by
 induction is generalizing X with
 | nil => exact hX
 | cons i is ih =>
  exact ih (fun k hk => hi k (List.mem_cons_of_mem _ hk)) (okX_exam (hcs _ (cAt_mem (hi i (List.mem_cons_self ..)))) hX)
theorem runX_grow (is : List Nat) : ∀ X : List Int, ∃ N, runX cs X is = X ++ N := by
 induction is with
 | nil => exact fun X => ⟨[], by simp [runX]⟩
 | cons i is ih =>
  intro X
  obtain ⟨N, h⟩ := ih (exX cs X i)
  refine ⟨(cAt cs i).newX X ++ N, ?_⟩
  show runX cs (exX cs X i) is = _
  rw [h, exX, List.append_assoc]
def CalmTo (cs : List Pb) (start : Nat) (Y : List Int) (p : Nat → Prop) : Prop := ∀ j, j < cs.length → p j → (∀ x ∈ Y.drop start, -x ∉ (cAt cs j).lits) → (cAt cs j).Calm Y
theorem CalmTo.weak {p q : Nat → Prop} {start : Nat} (h : CalmTo cs start Y p) (hq : ∀ j, j < cs.length → q j → p j) : CalmTo cs start Y q := fun j hj hqj hx => h j hj (hq j hj hqj) hx
theorem CalmTo.step {p : Nat → Prop} {start i : Nat} (h : CalmTo cs start Y p) (hcs : ∀ c ∈ cs, c.Ok) (hi : i < cs.length) (hY : okX Y) (hs : start ≤ Y.length) (h0 : 0 ≤ (cAt cs i).slackX Y) : CalmTo cs start (exX cs Y i) (fun j => p j ∨ j = i) := by
 intro j hj hp hx
 have hok := okX_exam (hcs _ (cAt_mem hi)) hY
 unfold exX at hx ⊢
 by_cases e : j = i
 ·subst e
  exact calm_exam (hcs _ (cAt_mem hi)) h0 hok
 ·rw [List.drop_append_of_le_length hs] at hx
  exact (h j hj (hp.elim id fun e2 => absurd e2 e) fun x hm => hx x (List.mem_append_left _ hm)).more hok fun x hm => hx x (List.mem_append_right _ hm)
theorem CalmTo.start {done start : Nat} (hX : okX X) (h : ∀ j, j < cs.length → j < done → (cAt cs j).Calm (X.take start)) : CalmTo cs start X (· < done) := by
 intro j hj hd hx
 have := (h j hj hd).more (N := X.drop start) (by rw [List.take_append_drop]; exact hX) hx
 rwa [List.take_append_drop] at this
theorem CalmTo.none (start : Nat) (Y : List Int) : CalmTo cs start Y (· < 0) := fun _ _ h => absurd h (by omega)
theorem CalmTo.next {start : Nat} (h : CalmTo cs start Y fun _ => True) (hs : start < Y.length) : CalmTo cs (start + 1) Y (fun j => -(nth Y start) ∉ (cAt cs j).lits) := by
 intro j hj hp hx
 refine h j hj trivial fun x hm => ?_
 rw [List.drop_eq_getElem_cons hs, ← nth_eq hs] at hm
 rcases List.mem_cons.1 hm with e | e
 ·rw [e]; exact hp
 ·exact hx x e
theorem CalmTo.all {start : Nat} (h : CalmTo cs start Y fun _ => True) (hs : Y.length ≤ start) : ∀ j, j < cs.length → (cAt cs j).Calm Y :=
 fun j hj => h j hj trivial fun x hx => by rw [List.drop_eq_nil_of_le hs] at hx; cases hx
def occL (cs : List Pb) (l : Int) : List Nat := (List.range cs.length).filter fun j => decide (l ∈ (cAt cs j).lits)
theorem mem_occL {l : Int} {j : Nat} : j ∈ occL cs l ↔ j < cs.length ∧ l ∈ (cAt cs j).lits := by
 unfold occL
 rw [List.mem_filter, List.mem_range, decide_eq_true_eq]
end
end
end Go.Proofs.YtcjmpobccbnpkaaGreat
