/-
  Chapter 24: assignments under a mask.
-/
import Derived.Test.YtooioikkgdgnnaaDoorPbR
import Derived.Test.YtooioikkgdgnnaaDoorPlE
import Derived.Laws.BitsAllLaws
namespace Go.Proofs.YtooioikkgdgnnaaDoor
open Go.RowKit

/-- append onto a slice of int8s of the call's own. -/
theorem wp_append_i8s {o : Oper} {a : Act} {w : World} {K : Act → World → Prop} {Q : Exit → Act → World → Prop} (s x : Operand)
    (ho : o.op = .call { callee := .builtin .append, args := #[s, x], argTypes := #[79, 79] }) {F G : Nat → Prop} {v u : Value} {n m : Nat} {xs ys : List Value}
    (hv : Own w F 107 1 v n xs) (hu : Rd w G 1 u m ys) (hs : a.eval s = v) (hx : a.eval x = u) (h1 : ∀ u ∈ ys, u.oneCell' = true) (hb : n + m ≤ 17592186044416)
    (hK : ∀ A c w', Own w' (fun b => F b ∨ w.heap.size ≤ b) 107 1 (.slice A (n + m) c) (n + m) (xs ++ ys) → Mod (row v) w w' → (∀ b, row (.slice A (n + m) c) b → row v b ∨ w.heap.size ≤ b) → K (a.put o.dst (.slice A (n + m) c)) w') : o.wp Tryd.prog a w K Q := by
  obtain ⟨i0, hi, hz0, hz1, hz2⟩ := info_parts info_i8
  obtain ⟨v', w', hr, h2, h3, h4⟩ := run_append_rd (P := Tryd.prog) 79 o.type i0 (.int .i8 0) 1 Tryd.underlying79 hi hz0 hz1 hz2 rfl (by decide) hv hu h1 (by unfold maxLen; omega) (by omega)
  unfold Oper.wp execOp
  simp only [ho, resolve, invoke, builtin, Sem.run_bind, Sem.run_pure, Result.andThen_ok, List.map_toArray, List.map_cons, List.map_nil, hs, hx, hr]
  obtain ⟨A, c, rfl, _⟩ := h2.form
  exact hK A c w' h2 h3 h4
theorem wpList_append_i8s {ops : Array Oper} {rest : List Oper} {o : Oper} {a : Act} {w : World} {Q : Exit → Act → World → Prop} (hgd : o.guard = none) (s x : Operand)
    (ho : o.op = .call { callee := .builtin .append, args := #[s, x], argTypes := #[79, 79] }) {F G : Nat → Prop} {v u : Value} {n m : Nat} {xs ys : List Value}
    (hv : Own w F 107 1 v n xs) (hu : Rd w G 1 u m ys) (hs : a.eval s = v) (hx : a.eval x = u) (h1 : ∀ u ∈ ys, u.oneCell' = true) (hb : n + m ≤ 17592186044416)
    (hK : ∀ A c w', Own w' (fun b => F b ∨ w.heap.size ≤ b) 107 1 (.slice A (n + m) c) (n + m) (xs ++ ys) → Mod (row v) w w' → (∀ b, row (.slice A (n + m) c) b → row v b ∨ w.heap.size ≤ b) → wpList Tryd.prog ops Q rest (a.put o.dst (.slice A (n + m) c)) w') :
    wpList Tryd.prog ops Q (o :: rest) a w :=
  wpList_plain hgd fun _ hK' => wp_append_i8s s x ho hv hu hs hx h1 hb fun A c w' h2 h3 h4 => hK' _ _ (hK A c w' h2 h3 h4)
theorem PbRd.mono {w : World} {F G : Nat → Prop} {v : Value} {c : Pb} (h : PbRd w F v c) (hFG : ∀ g, g < w.heap.size → F g → G g) : PbRd w G v c := by
  obtain ⟨A, n, cn, B, m, cm, e, h1, h2⟩ := h.form
  exact ⟨⟨A, n, cn, B, m, cm, e, h1.mono hFG, h2.mono hFG⟩, h.bnd⟩
theorem PbRd.mod {w w' : World} {F G : Nat → Prop} {v : Value} {c : Pb} (h : PbRd w F v c) (hm : Mod G w w') (hFG : ∀ g, g < w.heap.size → F g → ¬ G g) : PbRd w' F v c := by
  obtain ⟨A, n, cn, B, m, cm, e, h1, h2⟩ := h.form
  exact ⟨⟨A, n, cn, B, m, cm, e, h1.mod hm hFG, h2.mod hm hFG⟩, h.bnd⟩
theorem PbRd.lits {w : World} {F : Nat → Prop} {A B : Option Addr} {n c m d : Nat} {z : Int} {N : Pb} (h : PbRd w F (.agg #[.slice A n c, .slice B m d, .int .i64 z]) N) : Rd w F 1 (.slice A n c) n (ints N.lits) := by
  obtain ⟨A', n', cn', B', m', cm', e, h1, h2⟩ := h.form
  simp only [Value.agg.injEq, Array.mk.injEq, List.cons.injEq, Value.slice.injEq] at e
  obtain ⟨⟨rfl, rfl, rfl⟩, _⟩ := e
  exact h1
theorem PbRd.cos {w : World} {F : Nat → Prop} {A B : Option Addr} {n c m d : Nat} {z : Int} {N : Pb} (h : PbRd w F (.agg #[.slice A n c, .slice B m d, .int .i64 z]) N) : Rd w F 1 (.slice B m d) m (ints N.coefs) := by
  obtain ⟨A', n', cn', B', m', cm', e, h1, h2⟩ := h.form
  simp only [Value.agg.injEq, Array.mk.injEq, List.cons.injEq, Value.slice.injEq] at e
  obtain ⟨_, ⟨rfl, rfl, rfl⟩, _⟩ := e
  exact h2
theorem Below.mod_lt {w w' : World} {G : Nat → Prop} {b : Nat} {o : Obj} (k : w.heap[b]? = some o) (hm : Mod G w w') (hG : ¬ G b) : w'.heap[b]? = some o := (hm.block b (lt_of_block k) hG).trans k
theorem i8s_one (xs : List Int) : ∀ u ∈ i8s xs, u.oneCell' = true := by
  intro u hu
  obtain ⟨x, _, rfl⟩ := List.mem_map.1 hu
  rfl

theorem own_cell8 {w : World} {F : Nat → Prop} {n c g k : Nat} {xs : List Int} (h : Own w F 107 1 (.slice (some ⟨g, 0, none⟩) n c) n (i8s xs)) (hk : k < n) : w.cell? ⟨g, k, none⟩ = some (.int .i8 (nth xs k)) ∧ w.frozen? ⟨g, k, none⟩ = false ∧ F g ∧ g < w.heap.size := by
  have hl : xs.length = n := by have := h.rd.1; simpa [i8s_length] using this
  obtain ⟨g', e1, hF, hg, hc, hf⟩ := h.cell (j := k) (by omega)
  injection e1 with e1
  injection e1 with e1
  subst e1
  rw [i8s_nth (by omega)] at hc
  exact ⟨hc, hf, hF, hg⟩
theorem own_at {w : World} {F : Nat → Prop} {e : TypeId} {A : Option Addr} {n c : Nat} {xs : List Value} (h : Own w F e 1 (.slice A n c) n xs) (hn : 0 < n) : ∃ g, A = some ⟨g, 0, none⟩ := by
  obtain ⟨g, e1, _⟩ := h.cell (j := 0) (by omega)
  exact ⟨g, e1⟩
theorem Own.one {w : World} {F : Nat → Prop} {e : TypeId} {k n cap g : Nat} {xs : List Value} (h : Own w F e k (.slice (some ⟨g, 0, none⟩) n cap) n xs) : Own w (fun b => b = g) e k (.slice (some ⟨g, 0, none⟩) n cap) n xs :=
  h.mono fun _ _ hr _ => hr.2.symm
theorem run_max (a b : Int) (w : World) : (Builtin.max_ #[3, 3] 3 #[.int .i64 a, .int .i64 b]).run Tryd.prog w = .ok (.int .i64 (max a b)) w := by
  unfold Builtin.max_
  simp only [go_sem, List.foldlM, Builtin.max2]
  by_cases h : a < b
  · have e : max a b = b := by omega
    rw [e]
    simp [h, go_sem]
  · have e : max a b = a := by omega
    rw [e]
    simp [h, go_sem]
theorem run_max_pos (p : Nat) {nx : Int} (h : nx = -((p : Int) + 1)) (w : World) : (Builtin.max_ #[3, 3] 3 #[.int .i64 ((p : Int) + 1), .int .i64 nx]).run Tryd.prog w = .ok (.int .i64 ((p : Int) + 1)) w := by
  rw [run_max]
  congr 2
  omega
theorem run_max_neg (p : Nat) {x : Int} (h : x < 0) (w : World) : (Builtin.max_ #[3, 3] 3 #[.int .i64 x, .int .i64 ((p : Int) + 1)]).run Tryd.prog w = .ok (.int .i64 ((p : Int) + 1)) w := by
  rw [run_max]
  congr 2
  omega
theorem and_mod {x : Int} (h1 : 0 ≤ x) (h2 : x ≤ 255) : bits BinOp.and IntKind.u8 x 1 = ((x.toNat % 2 : Nat) : Int) := by
  rw [u8_and x 1 h1 (by omega) (by omega) (by omega), show (1 : Int).toNat = 1 from rfl, Nat.and_one_is_mod]
theorem and_one {x : Int} (h1 : 0 ≤ x) (h2 : x ≤ 255) : (bits BinOp.and IntKind.u8 x 1 == 0) = !(bits BinOp.and IntKind.u8 x 1 == 1) := by
  rw [and_mod h1 h2]
  rcases Nat.mod_two_eq_zero_or_one x.toNat with e | e <;> rw [e] <;> rfl
theorem shr_in {x : Int} (h1 : 0 ≤ x) (h2 : x ≤ 255) (i : Nat) : 0 ≤ x / 2 ^ i ∧ x / 2 ^ i ≤ 255 := by
  have hp : (0 : Int) < 2 ^ i := Int.pow_pos (by decide)
  refine ⟨Int.ediv_nonneg h1 (Int.le_of_lt hp), Int.le_trans (Int.ediv_le_self _ h1) h2⟩
theorem bitOf_test {x : Int} (h1 : 0 ≤ x) (h2 : x ≤ 255) (i : Nat) : bitOf x i = x.toNat.testBit i := by
  obtain ⟨n, rfl⟩ := Int.eq_ofNat_of_zero_le h1
  have h3 := shr_in h1 h2 i
  unfold bitOf
  rw [and_mod h3.1 h3.2, Nat.testBit_eq_decide_div_mod_eq]
  have e : ((n : Int) / 2 ^ i).toNat = n / 2 ^ i := by
    have : ((n : Int) / 2 ^ i) = ((n / 2 ^ i : Nat) : Int) := by simp
    rw [this, Int.toNat_natCast]
  rw [e, Int.toNat_natCast]
  rcases Nat.mod_two_eq_zero_or_one (n / 2 ^ i) with e2 | e2 <;> rw [e2] <;> rfl
/-- The assignment, of which the places outside the mask are unknown; the first j places are done. -/
def maskUp (m b : Int) (j : Nat) : List Int := (List.range 6).map fun i => if i < j ∧ bitOf m i = false then 0 else if bitOf b i = true then 1 else -1
theorem maskUp_len (m b : Int) (j : Nat) : (maskUp m b j).length = 6 := by simp [maskUp]
theorem maskUp_nth (m b : Int) (j : Nat) {i : Nat} (hi : i < 6) : nth (maskUp m b j) i = if i < j ∧ bitOf m i = false then 0 else if bitOf b i = true then 1 else -1 := by
  rw [nth_eq (by rw [maskUp_len]; exact hi)]
  simp [maskUp]
theorem maskUp_none (m b : Int) : maskUp m b 0 = totUp b 6 := by
  apply List.ext_getElem (by simp [maskUp_len, totUp_len])
  intro k h1 h2
  rw [maskUp_len] at h1
  rw [← nth_eq (by rw [maskUp_len]; exact h1), ← nth_eq h2, maskUp_nth m b 0 h1, totUp_nth b 6 h1]
  simp [h1]
theorem maskUp_set (m b : Int) {i : Nat} : (bitOf m i = false → (maskUp m b i).set i 0 = maskUp m b (i + 1)) ∧ (bitOf m i = true → maskUp m b i = maskUp m b (i + 1)) := by
  constructor
  · intro hm
    apply List.ext_getElem (by simp [maskUp_len])
    intro k h1 h2
    rw [maskUp_len] at h2
    rw [← nth_eq h1, ← nth_eq (by rw [maskUp_len]; exact h2), nth_set _ _ _ _ (by rw [maskUp_len]; exact h2), maskUp_nth m b i h2, maskUp_nth m b (i + 1) h2]
    by_cases e : i = k
    · subst e
      rw [if_pos rfl, if_pos (show i < i + 1 ∧ bitOf m i = false from ⟨by omega, hm⟩)]
    · rw [if_neg e]
      by_cases e2 : k < i ∧ bitOf m k = false
      · rw [if_pos e2, if_pos (show k < i + 1 ∧ bitOf m k = false from ⟨by omega, e2.2⟩)]
      · rw [if_neg e2, if_neg (show ¬ (k < i + 1 ∧ bitOf m k = false) from fun h => e2 ⟨by omega, h.2⟩)]
  · intro hm
    apply List.ext_getElem (by simp [maskUp_len])
    intro k h1 h2
    rw [maskUp_len] at h2
    rw [← nth_eq h1, ← nth_eq (by rw [maskUp_len]; exact h2), maskUp_nth m b i h2, maskUp_nth m b (i + 1) h2]
    by_cases e2 : k < i ∧ bitOf m k = false
    · rw [if_pos e2, if_pos (show k < i + 1 ∧ bitOf m k = false from ⟨by omega, e2.2⟩)]
    · rw [if_neg e2, if_neg (show ¬ (k < i + 1 ∧ bitOf m k = false) from fun h => e2 ⟨by
        have : k ≠ i := fun e => by subst e; rw [hm] at h; cases h.2
        omega, h.2⟩)]
def maskL (m b : Int) : List Int := maskUp m b 6
theorem maskL_nth (m b : Int) {i : Nat} (hi : i < 6) : nth (maskL m b) i = if bitOf m i = true then (if bitOf b i = true then 1 else -1) else 0 := by
  unfold maskL
  rw [maskUp_nth m b 6 hi]
  cases bitOf m i <;> simp [hi]
end Go.Proofs.YtooioikkgdgnnaaDoor
