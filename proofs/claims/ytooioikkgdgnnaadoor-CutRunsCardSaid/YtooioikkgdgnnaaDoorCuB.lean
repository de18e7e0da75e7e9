/-
  Chapter 25: several texts in one (merge.py: CtC CtE CtF CtG).
-/
import Derived.Test.YtooioikkgdgnnaaDoorCuA
import Derived.Test.YtooioikkgdgnnaaDoorPbW
import Derived.Test.YtooioikkgdgnnaaDoorPbS
import Derived.Lib.AppendZerosOnto
import Derived.Test.YtooioikkgdgnnaaDoorPbN
import Derived.Test.YtooioikkgdgnnaaDoorRegU
namespace Go.Proofs.YtooioikkgdgnnaaDoor
section
open Go.RowKit

theorem info_pb : (Tryd.prog.info? 24).map (fun i => (i.zero, i.size, i.bytes)) = some (some (.agg #[.slice none 0 0, .slice none 0 0, .int .i64 0]), 3, 56) := by kernel_rfl
/-- The cells of constraints. -/
def flat3 (ts : List (Value × Value × Value)) : List Value := ts.flatMap fun t => [t.1, t.2.1, t.2.2]
def agg3 (t : Value × Value × Value) : Value := .agg #[t.1, t.2.1, t.2.2]
theorem flat3_length (ts : List (Value × Value × Value)) : (flat3 ts).length = ts.length * 3 := by
  induction ts with
  | nil => rfl
  | cons p ts ih => simp only [flat3, List.flatMap_cons, List.length_append, List.length_cons, List.length_nil] at ih ⊢; omega
theorem flat3_append (xs ys : List (Value × Value × Value)) : flat3 (xs ++ ys) = flat3 xs ++ flat3 ys := by simp [flat3]
theorem flat3_get : ∀ (ts : List (Value × Value × Value)) (i : Nat) (p : Value × Value × Value), ts[i]? = some p → (flat3 ts)[i * 3]? = some p.1 ∧ (flat3 ts)[i * 3 + 1]? = some p.2.1 ∧ (flat3 ts)[i * 3 + 2]? = some p.2.2
  | q :: ts, 0, p, h => by
    obtain rfl := Option.some.inj h
    exact ⟨rfl, rfl, rfl⟩
  | q :: ts, i + 1, p, h => by
    obtain ⟨h1, h2, h3⟩ := flat3_get ts i p (by simpa using h)
    have e : flat3 (q :: ts) = q.1 :: q.2.1 :: q.2.2 :: flat3 ts := rfl
    rw [e, show (i + 1) * 3 = i * 3 + 1 + 1 + 1 by omega, show i * 3 + 1 + 1 + 1 + 1 = i * 3 + 1 + 1 + 1 + 1 from rfl, show i * 3 + 1 + 1 + 1 + 2 = i * 3 + 2 + 1 + 1 + 1 by omega, show i * 3 + 1 + 1 + 1 + 1 = i * 3 + 1 + 1 + 1 + 1 from rfl]
    simp only [List.getElem?_cons_succ]
    exact ⟨h1, h2, h3⟩
theorem flat3_take (ts : List (Value × Value × Value)) (k : Nat) : (flat3 ts).take (k * 3) = flat3 (ts.take k) := by
  induction ts generalizing k with
  | nil => simp [flat3]
  | cons q ts ih =>
    cases k with
    | zero => simp [flat3]
    | succ k =>
      have e : flat3 (q :: ts) = q.1 :: q.2.1 :: q.2.2 :: flat3 ts := rfl
      rw [e, show (k + 1) * 3 = k * 3 + 1 + 1 + 1 by omega, List.take_succ_cons, List.take_succ_cons, List.take_succ_cons, ih]
      rfl
theorem flat3_set (ts : List (Value × Value × Value)) (k : Nat) (q : Value × Value × Value) : (((flat3 ts).set (k * 3) q.1).set (k * 3 + 1) q.2.1).set (k * 3 + 2) q.2.2 = flat3 (ts.set k q) := by
  induction ts generalizing k with
  | nil => simp [flat3]
  | cons p ts ih =>
    have e : flat3 (p :: ts) = p.1 :: p.2.1 :: p.2.2 :: flat3 ts := rfl
    cases k with
    | zero => rfl
    | succ k =>
      rw [e, show (k + 1) * 3 = k * 3 + 1 + 1 + 1 by omega, show k * 3 + 1 + 1 + 1 + 2 = k * 3 + 2 + 1 + 1 + 1 by omega, show k * 3 + 1 + 1 + 1 + 1 = k * 3 + 1 + 1 + 1 + 1 from rfl]
      simp only [List.set_cons_succ]
      rw [ih]
      rfl
/-- The values ts read as the constraints ps. -/
def Ps (w : World) (G : Nat → Prop) (ts : List (Value × Value × Value)) (ps : List Pb) : Prop := ts.length = ps.length ∧ ∀ (i : Nat) (t : Value × Value × Value) (p : Pb), ts[i]? = some t → ps[i]? = some p → PbRd w G (agg3 t) p
theorem Ps.nil (w : World) (G : Nat → Prop) : Ps w G [] [] := ⟨rfl, fun i t p h => by simp at h⟩
theorem Ps.below {w w' : World} {G : Nat → Prop} {ts : List (Value × Value × Value)} {ps : List Pb} (h : Ps w G ts ps) (hb : Below w.heap.size w w') : Ps w' G ts ps := ⟨h.1, fun i t p h1 h2 => (h.2 i t p h1 h2).below hb⟩
theorem Ps.mono {w : World} {F G : Nat → Prop} {ts : List (Value × Value × Value)} {ps : List Pb} (h : Ps w F ts ps) (hFG : ∀ g, g < w.heap.size → F g → G g) : Ps w G ts ps := ⟨h.1, fun i t p h1 h2 => (h.2 i t p h1 h2).mono hFG⟩
theorem Ps.mod {w w' : World} {F G : Nat → Prop} {ts : List (Value × Value × Value)} {ps : List Pb} (h : Ps w F ts ps) (hm : Mod G w w') (hFG : ∀ g, g < w.heap.size → F g → ¬ G g) : Ps w' F ts ps := ⟨h.1, fun i t p h1 h2 => (h.2 i t p h1 h2).mod hm hFG⟩
theorem Ps.take {w : World} {G : Nat → Prop} {ts : List (Value × Value × Value)} {ps : List Pb} (h : Ps w G ts ps) (k : Nat) : Ps w G (ts.take k) (ps.take k) := by
  refine ⟨by simp [h.1], fun i t p h1 h2 => ?_⟩
  rw [List.getElem?_take] at h1 h2
  split at h1
  · rename_i e
    rw [if_pos e] at h2
    exact h.2 i t p h1 h2
  · cases h1
theorem Ps.snoc {w : World} {G : Nat → Prop} {ts : List (Value × Value × Value)} {ps : List Pb} (h : Ps w G ts ps) {t : Value × Value × Value} {p : Pb} (hp : PbRd w G (agg3 t) p) : Ps w G (ts ++ [t]) (ps ++ [p]) := by
  refine ⟨by simp [h.1], fun i t' p' h1 h2 => ?_⟩
  rcases Nat.lt_or_ge i ts.length with e | e
  · rw [List.getElem?_append_left e] at h1
    rw [List.getElem?_append_left (by rw [← h.1]; exact e)] at h2
    exact h.2 i t' p' h1 h2
  · rw [List.getElem?_append_right e] at h1
    rw [List.getElem?_append_right (by rw [← h.1]; exact e)] at h2
    have hi : i - ts.length = 0 := by
      have := (List.getElem?_eq_some_iff.1 h1).1
      simp at this
      omega
    rw [hi] at h1
    rw [show i - ps.length = 0 by rw [← h.1]; exact hi] at h2
    simp at h1 h2
    rw [← h1, ← h2]
    exact hp
theorem Ps.set {w : World} {G : Nat → Prop} {ts : List (Value × Value × Value)} {ps : List Pb} (h : Ps w G ts ps) (k : Nat) {t : Value × Value × Value} {p : Pb} (hp : PbRd w G (agg3 t) p) : Ps w G (ts.set k t) (ps.set k p) := by
  refine ⟨by simp [h.1], fun i t' p' h1 h2 => ?_⟩
  rw [List.getElem?_set] at h1 h2
  by_cases e : k = i
  · rw [if_pos e] at h1 h2
    split at h1
    · split at h2
      · injection h1 with h1
        injection h2 with h2
        rw [← h1, ← h2]
        exact hp
      · cases h2
    · cases h1
  · rw [if_neg e] at h1 h2
    exact h.2 i t' p' h1 h2
theorem Ps.one {w : World} {G : Nat → Prop} {ts : List (Value × Value × Value)} {ps : List Pb} (h : Ps w G ts ps) : ∀ u ∈ flat3 ts, u.oneCell' = true := by
  intro u hu
  obtain ⟨t, ht, hu⟩ := List.mem_flatMap.1 hu
  obtain ⟨i, hi, e⟩ := List.getElem_of_mem ht
  have hl := h.1
  have hp : ps[i]? = some (ps[i]'(by omega)) := List.getElem?_eq_getElem (by omega)
  obtain ⟨A, n, c, B, m, d, hv, _⟩ := (h.2 i t _ (by rw [List.getElem?_eq_getElem hi, e]) hp).form
  injection hv with hv
  have h1 := congrArg (·[0]?) hv
  have h2 := congrArg (·[1]?) hv
  have h3 := congrArg (·[2]?) hv
  simp at h1 h2 h3
  simp only [List.mem_cons, List.not_mem_nil, or_false] at hu
  rcases hu with rfl | rfl | rfl
  · rw [h1]; rfl
  · rw [h2]; rfl
  · rw [h3]; rfl
/-- A slice of constraints. -/
def PsRd (w : World) (F G : Nat → Prop) (A : Option Addr) (n c : Nat) (ps : List Pb) : Prop := ∃ ts, Rd w F 3 (.slice A n c) n (flat3 ts) ∧ Ps w G ts ps ∧ ps.length = n
theorem PsRd.below {w w' : World} {F G : Nat → Prop} {A : Option Addr} {n c : Nat} {ps : List Pb} (h : PsRd w F G A n c ps) (hb : Below w.heap.size w w') : PsRd w' F G A n c ps := by
  obtain ⟨ts, h1, h2, h3⟩ := h
  exact ⟨ts, h1.below hb, h2.below hb, h3⟩
theorem PsRd.mono {w : World} {F G F' G' : Nat → Prop} {A : Option Addr} {n c : Nat} {ps : List Pb} (h : PsRd w F G A n c ps) (hF : ∀ g, g < w.heap.size → F g → F' g) (hG : ∀ g, g < w.heap.size → G g → G' g) : PsRd w F' G' A n c ps := by
  obtain ⟨ts, h1, h2, h3⟩ := h
  exact ⟨ts, h1.mono hF, h2.mono hG, h3⟩
theorem PsRd.mod {w w' : World} {F G H : Nat → Prop} {A : Option Addr} {n c : Nat} {ps : List Pb} (h : PsRd w F G A n c ps) (hm : Mod H w w') (hF : ∀ g, g < w.heap.size → F g → ¬ H g) (hG : ∀ g, g < w.heap.size → G g → ¬ H g) : PsRd w' F G A n c ps := by
  obtain ⟨ts, h1, h2, h3⟩ := h
  exact ⟨ts, h1.mod hm hF, h2.mod hm hG, h3⟩
/-- A constraint's cells. -/
theorem PsRd.cells {w : World} {F G : Nat → Prop} {A : Option Addr} {n c : Nat} {ps : List Pb} (h : PsRd w F G A n c ps) {i : Nat} (hi : i < n) :
    ∃ g o p A1 n1 c1 A2 n2 c2, A = some ⟨g, o, none⟩ ∧ F g ∧ g < w.heap.size ∧ ps[i]? = some p ∧ w.cell? ⟨g, o + i * 3, none⟩ = some (.slice A1 n1 c1) ∧ w.cell? ⟨g, o + i * 3 + 1, none⟩ = some (.slice A2 n2 c2) ∧ w.cell? ⟨g, o + i * 3 + 2, none⟩ = some (.int .i64 p.bound) ∧ PbRd w G (.agg #[.slice A1 n1 c1, .slice A2 n2 c2, .int .i64 p.bound]) p := by
  obtain ⟨ts, ⟨hl, A', c', hv, _, _, hA⟩, hp, hn⟩ := h
  injection hv with h1 _ _
  subst h1
  obtain ⟨g, o, rfl, hF, hg, hc⟩ := hA (by omega)
  have hl3 := hp.1
  have hq : ps[i]? = some (ps[i]'(by omega)) := List.getElem?_eq_getElem (by omega)
  have ht : ts[i]? = some (ts[i]'(by omega)) := List.getElem?_eq_getElem (by omega)
  obtain ⟨c0, c1, c2⟩ := flat3_get ts i _ ht
  have hr := hp.2 i _ _ ht hq
  obtain ⟨A1, n1, d1, A2, n2, d2, hv, r1, r2⟩ := hr.form
  have hv' := hv
  unfold agg3 at hv
  injection hv with hv
  have e1 := congrArg (·[0]?) hv
  have e2 := congrArg (·[1]?) hv
  have e3 := congrArg (·[2]?) hv
  simp only [List.getElem?_toArray, List.getElem?_cons_zero, List.getElem?_cons_succ, Option.some.injEq] at e1 e2 e3
  rw [e1] at c0
  rw [e2] at c1
  rw [e3] at c2
  exact ⟨g, o, ps[i]'(by omega), A1, n1, d1, A2, n2, d2, rfl, hF, hg, hq, hc _ _ c0, by rw [Nat.add_assoc]; exact hc _ _ c1, by rw [Nat.add_assoc]; exact hc _ _ c2, ⟨A1, n1, d1, A2, n2, d2, rfl, r1, r2⟩, hr.bnd⟩
end

section
open Go.RowKit

set_option maxRecDepth 100000 in
set_option maxHeartbeats 2000000 in
theorem grow_any {w : World} {n : Nat} (hn : n ≤ 1000000) :
    Calls Tryd.prog 65 #[.slice none 0 0, .int .i64 n] w fun r w' => (∃ A c, r = .returned (.slice A 0 c) ∧ Own w' (fun g => w.heap.size ≤ g) 3 1 (.slice A 0 c) 0 []) ∧ Below w.heap.size w w' := by
  rcases Nat.eq_zero_or_pos n with e | e
  · subst e
    go_enter Tryd.func65, Tryd.ntmps65
    go_wp2_with fail
    go_ret
    exact ⟨⟨none, 0, rfl, Own.nil _ _ _ _⟩, Below.refl _ _⟩
  · obtain ⟨i0, hi, hz0, hz1, hz2⟩ := info_parts info_int
    have hold : (Builtin.firstCells i0.size 0 (.slice none 0 0)).run Tryd.prog w.drew = .ok ([] : List Value).toArray w.drew := run_firstCells_none w.drew i0.size 0 0 0
    have hrz : ∀ ty, (Builtin.append_ #[22, 3] ty #[.slice none 0 0, .int .i64 n]).run Tryd.prog w = _ := fun ty => Lib.run_append_grow_zeros w 22 3 ty 3 i0 (.int .i64 0) .i64 .i64 Tryd.underlying22 Tryd.underlying3 hi hz0 none 0 0 [] hold n e (by omega) (by omega) (by omega) (by rw [hz2]; omega) (growslice_fits (by omega) (by rw [hz2]; omega))
    rw [Nat.zero_add] at hrz
    have hG1 : n ≤ grownCap w n 0 3 := grownCap_ge w _ _ _
    have hG2 := grownCap_le_maxLen w n 0 3 (by unfold maxLen; omega)
    obtain ⟨G, hG⟩ : ∃ G, grownCap w n 0 3 = G := ⟨_, rfl⟩
    rw [hG] at hrz hG1 hG2
    have hG3 : G ≤ 9223372036854775807 := by unfold maxLen at hG2; omega
    have hsz : (([] : List Value).toArray ++ Builtin.zeroCells (Value.int .i64 0).cells n ++ Builtin.zeroCells (Value.int .i64 0).cells (G - n)).size = G * 1 := by
      simp [Builtin.zeroCells, Value.cells]
      omega
    obtain ⟨cs, hcs⟩ : ∃ cs, ([] : List Value).toArray ++ Builtin.zeroCells (Value.int .i64 0).cells n ++ Builtin.zeroCells (Value.int .i64 0).cells (G - n) = cs := ⟨_, rfl⟩
    rw [hcs] at hrz hsz
    have hO : Own (w.drew.alloc (.cells cs 3)) (fun g => w.heap.size ≤ g) 3 1 (.slice (some ⟨w.heap.size, 0, none⟩) 0 G) 0 [] :=
      own_new w.drew _ 3 1 0 cs G [] rfl (by omega) (by omega) hG2 hsz (by simp) (Nat.le_refl _)
    have hB : Below w.heap.size w (w.drew.alloc (.cells cs 3)) := Bl.alloc (Bl.drew (Below.refl _ _))
    have Hrz := hid hrz
    clear hcs hG hsz hold hrz
    have h4 : ((n : Int) > 0) := by omega
    go_enter Tryd.func65, Tryd.ntmps65
    go_wp2_with (at_builtin; refine Lib.wpList_append_run _ rfl _ _ _ _ rfl _ _ rfl rfl _ _ (Hrz.out _) ?_)
    go_ret
    exact ⟨⟨_, _, rfl, hO⟩, hB⟩

def cat2 (xs ys : List Int) (i : Nat) : List Int := if i = 0 then [] else if i = 1 then xs else xs ++ ys
set_option maxRecDepth 100000 in
set_option maxHeartbeats 2000000 in
theorem concat_any {w : World} {F G : Nat → Prop} {A B : Option Addr} {n cA m cB Z : Nat} {xs ys : List Int} (c0 : w.cell? ⟨Z, 0, none⟩ = some (.slice A n cA)) (c1 : w.cell? ⟨Z, 1, none⟩ = some (.slice B m cB))
    (hx : Rd w F 1 (.slice A n cA) n (ints xs)) (hy : Rd w G 1 (.slice B m cB) m (ints ys)) (hn : n ≤ 500000) (hm : m ≤ 500000) :
    Calls Tryd.prog 35 #[.slice (some ⟨Z, 0, none⟩) 2 2] w fun r w' => (∃ R cc, r = .returned (.slice R (n + m) cc) ∧ Own w' (fun g => w.heap.size ≤ g) 3 1 (.slice R (n + m) cc) (n + m) (ints (xs ++ ys))) ∧ Below w.heap.size w w' := by
  have hxl : xs.length = n := by have := hx.1; simpa [ints_length] using this
  have hyl : ys.length = m := by have := hy.1; simpa [ints_length] using this
  have hZ : Z < w.heap.size := World.block_lt_of_cell? w _ c0
  have hpart : ∀ i, i < 2 → ∃ A' n' c' zs, w.cell? ⟨Z, i, none⟩ = some (.slice A' n' c') ∧ Rd w (fun g => g < w.heap.size) 1 (.slice A' n' c') n' (ints zs) ∧ n' ≤ 500000 ∧ zs.length = n' ∧ cat2 xs ys i ++ zs = cat2 xs ys (i + 1) := by
    intro i hi
    rcases (show i = 0 ∨ i = 1 by omega) with rfl | rfl
    · exact ⟨A, n, cA, xs, c0, hx.mono fun g hg _ => hg, hn, hxl, by simp [cat2]⟩
    · exact ⟨B, m, cB, ys, c1, hy.mono fun g hg _ => hg, hm, hyl, by simp [cat2]⟩
  have hlen : ∀ i, i ≤ 2 → (cat2 xs ys i).length ≤ 1000000 := by
    intro i _
    unfold cat2
    split
    · simp
    · split
      · omega
      · rw [List.length_append]; omega
  have h2 : (cat2 xs ys 2) = xs ++ ys := rfl
  have h2l : (xs ++ ys).length = n + m := by rw [List.length_append, hxl, hyl]
  have Hpart := hid hpart
  have Hlen := hid hlen
  have H2 := hid h2
  have H2l := hid h2l
  clear hpart hlen h2 h2l c0 c1 hx hy hxl hyl hn hm
  go_enter Tryd.func35, Tryd.ntmps35
  go_wp2_with fail
  go_loopw [11, 3] (fun iv sv W => ∃ i : Nat, i ≤ 2 ∧ iv = .int .i64 i ∧ sv = .int .i64 (cat2 xs ys i).length ∧ w = W) (fun iv _ _ => 2 - (intOf iv).toNat)
  case atStart => exact ⟨0, by omega, rfl, rfl, rfl⟩
  case round =>
    obtain ⟨i, hi, rfl, rfl, rfl⟩ := hrel
    by_cases hlt : i < 2
    · have x1 : (i : Int) < 2 := by omega
      obtain ⟨A', n', c', zs, hc, hr, hn', hzl, hcat⟩ := Hpart.out i hlt
      have e1 := Hlen.out i (by omega)
      have e2 : ((cat2 xs ys (i + 1)).length : Int) = (cat2 xs ys i).length + n' := by rw [← hcat, List.length_append, hzl]; omega
      obtain ⟨q, hq⟩ : ∃ q, (cat2 xs ys i).length = q := ⟨_, rfl⟩
      rw [hq] at e1 e2 ⊢
      have E2 := hid e2
      have x2 : ¬ ((q : Int) + n' < 0) := by omega
      clear hcat hq e2 hzl hr
      go_wp2_with fail
      go_roundw
      case rel => exact ⟨i + 1, by omega, by go_num, by rw [E2.out], trivial⟩
      case measure => simp [intOf]; omega
    · have x1 : ¬ (i : Int) < 2 := by omega
      have hi2 : i = 2 := by omega
      have hl2 : (cat2 xs ys i).length = n + m := by rw [hi2, H2.out, H2l.out]
      have hb2 := Hlen.out i hi
      rw [hl2] at hb2 ⊢
      clear hi2 hl2
      go_wp2_with fail
      refine (grow_any hb2).mono ?_
      rintro r w1 ⟨⟨R, cc, rfl, ho⟩, b1⟩
      have Ho := hid ho
      have B1 := hid b1
      clear ho b1
      go_wp2_with fail
      go_loopw [27, 6] (fun iv sv W => ∃ (j : Nat) (R : Option Addr) (cc : Nat), j ≤ 2 ∧ iv = .int .i64 j ∧ sv = .slice R (cat2 xs ys j).length cc ∧ Hid (Own W (fun g => w.heap.size ≤ g) 3 1 (.slice R (cat2 xs ys j).length cc) (cat2 xs ys j).length (ints (cat2 xs ys j))) ∧ Hid (Below w.heap.size w W)) (fun iv _ _ => 2 - (intOf iv).toNat)
      case atStart => exact ⟨0, R, cc, by omega, rfl, rfl, Ho, B1⟩
      case round =>
        obtain ⟨j, R2, cc2, hj, rfl, rfl, Ho2, B2⟩ := hrel
        by_cases hlt2 : j < 2
        · have y1 : (j : Int) < 2 := by omega
          obtain ⟨A', n', c', zs, hc, hr, hn', hzl, hcat⟩ := Hpart.out j hlt2
          have e1 := Hlen.out j (by omega)
          have hc' : wr.cell? ⟨Z, j, none⟩ = some (.slice A' n' c') := (B2.out.cell (p := ⟨Z, j, none⟩) hZ).trans hc
          have Hr' := hid (hr.below B2.out)
          have Hcat := hid hcat
          have Hzl := hid hzl
          clear hc hr hcat hzl
          go_wp2_with (at_builtin; refine wpList_append_ints rfl _ _ rfl Ho2.out Hr'.out rfl rfl (ints_one _) (by omega) fun A3 c3 w3 ho3 m3 hr3 => ?_)
          have Ho3 := hid ho3
          have B3 := hid (below_mod B2.out B2.out.size m3 fun g hg => (Ho2.out.row hg).1)
          clear ho3 m3 hr3
          have hL : (cat2 xs ys (j + 1)).length = (cat2 xs ys j).length + n' := by rw [← Hcat.out, List.length_append, Hzl.out]
          have HL := hid hL
          clear hL
          go_wp2_with fail
          go_roundw
          case rel =>
            refine ⟨j + 1, A3, c3, by omega, by go_num, by rw [HL.out], ?_, B3⟩
            rw [HL.out, ← Hcat.out, ints_append]
            exact hid (Ho3.out.mono fun g hg _ h => h.elim id fun h => by have := B2.out.size; omega)
          case measure => simp [intOf]; omega
        · have y1 : ¬ (j : Int) < 2 := by omega
          have hj2 : j = 2 := by omega
          have hl2 : (cat2 xs ys j).length = n + m := by rw [hj2, H2.out, H2l.out]
          have hc2 : cat2 xs ys j = xs ++ ys := by rw [hj2, H2.out]
          have ho := Ho2.out
          rw [hl2, hc2] at ho
          rw [hl2]
          have Ho3 := hid ho
          clear hl2 hc2 hj2 ho Ho2
          go_wp2_with fail
          go_ret
          exact ⟨⟨R2, cc2, rfl, Ho3.out⟩, B2.out⟩
end

section
open Go.RowKit

/-- Weaken's closure. -/
theorem weak1_any {w : World} {K : Nat} {v x : Int} (hK : w.cell? ⟨K, 0, none⟩ = some (.int .i64 v)) (hv : -65536 ≤ v ∧ v ≤ 65536) :
    Calls Tryd.prog 45 #[.int .i64 x, .pointer (some ⟨K, 0, none⟩)] w fun r w' => r = .returned (.bool (x == v || x == -v)) ∧ w = w' := by
  have h1 : IntKind.i64.wrap (-v) = -v := iw' (by omega) (by omega)
  go_enter Tryd.func45, Tryd.ntmps45
  by_cases e : x = v
  · subst e
    go_wp2_with fail
    go_ret
    simp
  · by_cases e2 : x = -v
    · have e3 : (x = v) = False := by simp [e]
      have e4 : (x = -v) = True := by simp [e2]
      go_wp2_with fail
      go_ret
      simp [e2]
    · have e3 : (x = v) = False := by simp [e]
      have e4 : (x = -v) = False := by simp [e2]
      go_wp2_with fail
      go_ret
      simp
set_option maxRecDepth 100000 in
theorem indexFunc_any {w : World} {F : Nat → Prop} {A : Option Addr} {n c K : Nat} {xs : List Int} {v : Int} (hx : Rd w F 1 (.slice A n c) n (ints xs)) (hK : w.cell? ⟨K, 0, none⟩ = some (.int .i64 v)) (hv : -65536 ≤ v ∧ v ≤ 65536) :
    Calls Tryd.prog 44 #[.slice A n c, .func (.func 45) #[] #[.pointer (some ⟨K, 0, none⟩)]] w fun r w' => r = .returned (.int .i64 (posB (fun x => x == v || x == -v) xs)) ∧ w = w' := by
  have hxl : xs.length = n := by have := hx.1; simpa [ints_length] using this
  have hnb : n ≤ 9223372036854775807 := by have := hx.len; unfold maxLen at this; omega
  have Hx := hid hx
  have HK := hid hK
  clear hx hK
  go_enter Tryd.func44, Tryd.ntmps44
  go_wp2_with fail
  go_loopw [8] (fun iv W => ∃ i : Nat, i ≤ n ∧ iv = .int .i64 i ∧ w = W ∧ Hid (∀ y ∈ xs.take i, (y == v || y == -v) = false)) (fun iv _ => n - (intOf iv).toNat)
  case atStart => exact ⟨0, by omega, rfl, rfl, fun y hy => by simp at hy⟩
  case round =>
    obtain ⟨i, hi, rfl, rfl, Hno⟩ := hrel
    by_cases hlt : i < n
    · have x1 : (i : Int) < (n : Int) := by omega
      obtain ⟨g, o, rfl, _, hg, e0⟩ := Hx.out.cell.2 i hlt
      go_wp2_with fail
      refine (weak1_any HK.out hv).mono ?_
      rintro r w1 ⟨rfl, rfl⟩
      by_cases hp : (nth xs i == v || nth xs i == -v) = true
      · rw [hp]
        have hpos := posB_at (p := fun x => x == v || x == -v) (by omega) Hno.out hp
        have Hpos := hid hpos
        clear hpos
        go_wp2_with fail
        go_ret
        exact ⟨by rw [Hpos.out]; rfl, rfl⟩
      · have hp' : (nth xs i == v || nth xs i == -v) = false := by simpa using hp
        rw [hp']
        have Hn2 : Hid (∀ y ∈ xs.take (i + 1), (y == v || y == -v) = false) := hid fun y hy => by
          rw [take_nth (by omega)] at hy
          rcases List.mem_append.1 hy with h | h
          · exact Hno.out y h
          · rw [List.mem_singleton.1 h]; exact hp'
        clear hp hp'
        go_wp2_with fail
        go_roundw
        case rel => exact ⟨i + 1, by omega, by go_num, trivial, Hn2⟩
        case measure => simp [intOf]; omega
    · obtain rfl : i = n := by omega
      have hpos := posB_none (p := fun x => x == v || x == -v) (xs := xs) (by have := Hno.out; rw [List.take_of_length_le (by omega)] at this; exact this)
      have Hpos := hid hpos
      clear hpos
      go_wp2_with fail
      go_ret
      exact ⟨by rw [Hpos.out]; rfl, rfl⟩
set_option maxRecDepth 100000 in
theorem clone_any {w : World} {F : Nat → Prop} {A : Option Addr} {n c : Nat} {xs : List Int} (hx : Rd w F 1 (.slice A n c) n (ints xs)) (hn : n ≤ 1000000) :
    Calls Tryd.prog 50 #[.slice A n c] w fun r w' => (∃ R cc, r = .returned (.slice R n cc) ∧ Rd w' (fun g => w.heap.size ≤ g) 1 (.slice R n cc) n (ints xs)) ∧ Below w.heap.size w w' := by
  rcases A with _ | ⟨⟩
  · have hn0 : n = 0 := by
      rcases Nat.eq_zero_or_pos n with e | e
      · exact e
      · obtain ⟨_, _, h, _⟩ := hx.cell.2 0 e; cases h
    subst hn0
    have hx0 : xs = [] := List.length_eq_zero_iff.1 hx.cell.1
    subst hx0
    clear hx
    go_enter Tryd.func50, Tryd.ntmps50
    go_wp2_with fail
    go_ret
    exact ⟨⟨none, 0, rfl, Rd.empty _ _ _⟩, Below.refl _ _⟩
  · have Hx := hid hx
    clear hx
    go_enter Tryd.func50, Tryd.ntmps50
    have hb0 : Below w.heap.size w (w.alloc (.cells #[] 3)) := (Below.refl _ _).alloc (Nat.le_refl _) _
    have Hx2 := hid (Hx.out.below hb0)
    go_wp2_with (at_builtin; refine wpList_append_ints rfl _ _ rfl (Own.none_ _ (fun g => w.heap.size ≤ g) _ _ _) Hx2.out rfl rfl (ints_one _) (by omega) fun A3 c3 w3 ho3 m3 hr3 => ?_)
    rw [Nat.zero_add, List.nil_append] at ho3
    have Ho3 := hid ho3
    have B3 := hid (below_mod hb0 hb0.size m3 fun g hg => by rw [row_none] at hg; exact hg.elim)
    clear ho3 m3 hr3
    go_wp2_with fail
    go_ret
    refine ⟨⟨A3, c3, rfl, Ho3.out.rd.mono fun g hg h => ?_⟩, B3.out⟩
    rcases h with h | h
    · exact h
    · simp only [World.size_alloc] at h; omega

/-- up, over numbers that a constraint may hold. -/
theorem up_any {w : World} {n k : Int} (hn : 0 ≤ n ∧ n ≤ 16777216) (hk : 1 ≤ k ∧ k ≤ 16777216) :
    Calls Tryd.prog 42 #[.int .i64 n, .int .i64 k] w fun r w' => r = .returned (.int .i64 (upN n k)) ∧ w = w' := by
  have h1 : IntKind.i64.wrap (n + k) = n + k := iw' (by omega) (by omega)
  have h2 : IntKind.i64.wrap (n + k - 1) = n + k - 1 := iw' (by omega) (by omega)
  have h3 : ¬ k = 0 := by omega
  have h5 : Int.tdiv (n + k - 1) k = upN n k := by rw [Int.tdiv_eq_ediv_of_nonneg (by omega)]; rfl
  have h6 := upN_bounds hn.1 hk.1
  have h4 : IntKind.i64.wrap (upN n k) = upN n k := iw' (by omega) (by omega)
  go_enter Tryd.func42, Tryd.ntmps42
  go_wp2_with fail
  go_ret
  simp
theorem mul1_any {w : World} {K : Nat} {k x : Int} (hK : w.cell? ⟨K, 0, none⟩ = some (.int .i64 k)) (hx : 0 ≤ x ∧ x ≤ 16777216) (hk : 1 ≤ k ∧ k ≤ 16777216) :
    Calls Tryd.prog 40 #[.int .i64 x, .pointer (some ⟨K, 0, none⟩)] w fun r w' => r = .returned (.int .i64 (x * k)) ∧ w = w' := by
  have h0 : 0 ≤ x * k := Int.mul_nonneg hx.1 (by omega)
  have h1 : x * k ≤ 16777216 * 16777216 := Int.mul_le_mul hx.2 hk.2 (by omega) (by omega)
  have h2 : IntKind.i64.wrap (x * k) = x * k := iw' (by omega) (by omega)
  go_enter Tryd.func40, Tryd.ntmps40
  go_wp2_with fail
  go_ret
  simp
theorem div1_any {w : World} {K : Nat} {k x : Int} (hK : w.cell? ⟨K, 0, none⟩ = some (.int .i64 k)) (hx : 0 ≤ x ∧ x ≤ 16777216) (hk : 1 ≤ k ∧ k ≤ 16777216) :
    Calls Tryd.prog 41 #[.int .i64 x, .pointer (some ⟨K, 0, none⟩)] w fun r w' => r = .returned (.int .i64 (upN x k)) ∧ w = w' := by
  go_enter Tryd.func41, Tryd.ntmps41
  go_wp2_with fail
  refine (up_any hx hk).mono ?_
  rintro r w1 ⟨rfl, rfl⟩
  go_wp2_with fail
  go_ret
  simp
end

section
open Go.RowKit

def mapUp (f : Int → Int) (ks : List Int) (i : Nat) : List Int := (ks.take i).map f ++ List.replicate (ks.length - i) 0
theorem mapUp_len {f : Int → Int} {ks : List Int} {i : Nat} (hi : i ≤ ks.length) : (mapUp f ks i).length = ks.length := by
  simp [mapUp]; omega
theorem mapUp_none (f : Int → Int) (ks : List Int) : mapUp f ks 0 = List.replicate ks.length 0 := by simp [mapUp]
theorem mapUp_all (f : Int → Int) (ks : List Int) : mapUp f ks ks.length = ks.map f := by simp [mapUp]
theorem mapUp_set {f : Int → Int} {ks : List Int} {i : Nat} (hi : i < ks.length) : (mapUp f ks i).set i (f (nth ks i)) = mapUp f ks (i + 1) := by
  unfold mapUp
  have hl : ((ks.take i).map f).length = i := by simp; omega
  rw [List.set_append_right _ _ (by omega), hl, Nat.sub_self, show ks.length - i = (ks.length - (i + 1)) + 1 by omega, List.replicate_succ, List.set_cons_zero, take_nth hi, List.map_append]
  simp
theorem box2 {W : World} {b : Nat} {x y : Value} {t : TypeId} {fz : Nat × Nat} (k : W.heap[b]? = some (.cells #[x, y] t fz)) : W.cell? ⟨b, 0, none⟩ = some x ∧ W.cell? ⟨b, 1, none⟩ = some y :=
  ⟨by rw [cell_of_row _ _ _ _ _ _ k]; rfl, by rw [cell_of_row _ _ _ _ _ _ k]; rfl⟩
theorem box1 {W : World} {b : Nat} {x : Value} {t : TypeId} {fz : Nat × Nat} (k : W.heap[b]? = some (.cells #[x] t fz)) : W.cell? ⟨b, 0, none⟩ = some x :=
  by rw [cell_of_row _ _ _ _ _ _ k]; rfl
theorem froz3 {W : World} {b : Nat} {x y z : Value} {t : TypeId} (k : W.heap[b]? = some (.cells #[x, y, z] t (0, 0))) : W.frozen? ⟨b, 0, none⟩ = false ∧ W.frozen? ⟨b, 1, none⟩ = false ∧ W.frozen? ⟨b, 2, none⟩ = false :=
  ⟨by simp [World.frozen?, k], by simp [World.frozen?, k], by simp [World.frozen?, k]⟩

set_option maxRecDepth 100000 in
set_option maxHeartbeats 4000000 in
theorem scaled_any {w : World} {F : Nat → Prop} {v : Value} {c : Pb} {g : Nat} {lb : Array Value} {f : Int → Int} (hc : PbRd w F v c) (hok : c.Ok)
    (eg : ∀ args w, (callFunc g args).run Tryd.prog w = .ok (.enter g args) w)
    (hf : ∀ W x, Below w.heap.size w W → 0 ≤ x ∧ x ≤ 16777216 → Calls Tryd.prog g (#[.int .i64 x] ++ lb) W fun r W' => r = .returned (.int .i64 (f x)) ∧ W = W') (hfi : ∀ x, 0 ≤ x ∧ x ≤ 16777216 → I64 (f x)) :
    Calls Tryd.prog 39 #[v, .func (.func g) #[] lb] w fun r w' => (∃ pv, r = .returned (.tuple #[pv, .int .i64 (normed c.lits (c.coefs.map f) (f c.bound)).2]) ∧ PbRd w' (fun g => w.heap.size ≤ g) pv (normed c.lits (c.coefs.map f) (f c.bound)).1) ∧ Below w.heap.size w w' := by
  obtain ⟨⟨L, n, cn, K, m, cm, rfl, hx, hk⟩, hb⟩ := hc
  have hxl : c.lits.length = n := by have := hx.1; simpa [ints_length] using this
  have hkl : c.coefs.length = m := by have := hk.1; simpa [ints_length] using this
  have hlen := hok.len
  obtain rfl : n = m := by omega
  have hnb := hok.few
  have hbr : 0 ≤ c.bound ∧ c.bound ≤ 16777216 := ⟨hok.low, hok.high⟩
  have hco : ∀ j, j < n → 0 ≤ nth c.coefs j ∧ nth c.coefs j ≤ 16777216 := fun j hj => by have := hok.coef j (by omega); omega
  have hI1 := hok.i64l
  have hI2 : ∀ x ∈ c.coefs.map f, I64 x := fun x hx => by
    obtain ⟨y, hy, rfl⟩ := List.mem_map.1 hx
    obtain ⟨i, hi, rfl⟩ := nth_of_mem hy
    exact hfi _ (hco i (by omega))
  have hI3 := hfi _ hbr
  obtain ⟨bd, hbd⟩ : ∃ b, c.bound = b := ⟨_, rfl⟩
  rw [hbd] at hb hbr hI3 ⊢
  obtain ⟨R, hR⟩ : ∃ R, normed c.lits (c.coefs.map f) (f bd) = R := ⟨_, rfl⟩
  rw [hR]
  have HR := hid hR
  have hmk := fun W => mk_ints W (n := n) (by omega)
  have HI1 := hid hI1
  have HI2 := hid hI2
  have HI3 := hid hI3
  have Hhf := hid hf
  have Hco := hid hco
  have Hkl := hid hkl
  have Hbd := hid hbd
  have hn6 : n ≤ 65536 := by omega
  have hx0 := hid (hx.mono (G := fun g => g < w.heap.size) fun g hg _ => hg)
  have hk0 := hid (hk.mono (G := fun g => g < w.heap.size) fun g hg _ => hg)
  clear hR hI1 hI2 hI3 hf hfi hco hxl hkl hlen hnb hok hbd hx hk
  go_enter Tryd.func39, Tryd.ntmps39
  go_wp2_with fail
  obtain ⟨X0, hX0, bX0, k0, s0⟩ := alloc_step w (.cells #[.slice L n cn, .slice K n cm, .int .i64 bd] 24)
  rw [hX0]
  obtain ⟨X1, hX1, bX1, k1, s1⟩ := alloc_step X0 (.cells #[.slice none 0 0, .slice none 0 0, .int .i64 0] 24)
  rw [hX1]
  have hoZ := own_made X1 n (by omega)
  obtain ⟨X2, hX2, bX2, _, s2⟩ := alloc_step X1 (.cells (madeCells #[.int .i64 0] n) 3)
  rw [hX2] at hoZ ⊢
  have hB2 : Below w.heap.size w X2 := bX0.trans ((bX1.mono bX0.size).trans (bX2.mono (Nat.le_trans bX0.size bX1.size)))
  obtain ⟨sz, hsz⟩ : ∃ s, w.heap.size = s := ⟨_, rfl⟩
  rw [s1, s0, hsz] at hoZ
  rw [s1, s0, hsz] at s2
  have K0 := hid (keep_blk (keep_blk k0 bX1) bX2)
  have K1 := hid (keep_blk k1 bX2)
  rw [hsz] at K0
  rw [s0, hsz] at K1
  rw [hsz]
  obtain ⟨Z, hZ⟩ : ∃ z, sz + 1 + 1 = z := ⟨_, rfl⟩
  rw [hZ] at hoZ s2 ⊢
  have HoZ := hid hoZ
  have HB2 := hid hB2
  clear hX0 hX1 hX2 bX0 bX1 bX2 k0 k1 s0 s1 hoZ hB2
  go_loopw [16] (fun iv W => ∃ i : Nat, i ≤ n ∧ iv = .int .i64 i ∧ Hid (Own W (fun g => g = Z) 3 1 (.slice (some ⟨Z, 0, none⟩) n n) n (ints (mapUp f c.coefs i))) ∧ Hid (Mod (fun g => g = Z) X2 W)) (fun iv _ => n - (intOf iv).toNat)
  case atStart => exact ⟨0, by omega, rfl, by rw [mapUp_none, Hkl.out]; exact HoZ, Mod.refl _ _⟩
  case round =>
    obtain ⟨i, hi, rfl, Ho, M⟩ := hrel
    have s5 := M.out.size
    have b5 : Below w.heap.size w wr := below_mod HB2.out HB2.out.size M.out fun g hg => by omega
    have k5 := hid ((M.out.block sz (by omega) (by omega)).trans K0.out)
    have k6 := hid ((M.out.block (sz + 1) (by omega) (by omega)).trans K1.out)
    obtain ⟨e0, e1, e2⟩ := box3 k5.out
    by_cases hlt : i < n
    · have x1 : (i : Int) < (n : Int) := by omega
      obtain ⟨g0, o0, rfl, _, hg0, ec⟩ := (hk0.out.below b5).cell.2 i hlt
      obtain ⟨g', e3, _, hg, hc, hf⟩ := Ho.out.cell (j := i) (by omega)
      injection e3 with e3
      injection e3 with e3
      subst e3
      rw [ints_nth (by rw [mapUp_len (by rw [Hkl.out]; omega), Hkl.out]; omega)] at hc
      have hco := Hco.out i hlt
      go_wp2_with fail
      refine (Hhf.out _ _ b5 hco).mono ?_
      rintro r w6 ⟨rfl, rfl⟩
      go_wp2_with fail
      go_roundw
      case rel =>
        refine ⟨i + 1, by omega, by go_num, ?_, hid (M.out.setCell (p := ⟨Z, i, none⟩) (.inl rfl) _)⟩
        rw [← mapUp_set (by rw [Hkl.out]; omega), ints_set]
        exact hid (Ho.out.stored _)
      case measure => simp [intOf]; omega
    · have hin : i = n := by omega
      have hr5 := hid Ho.out.rd
      rw [hin, ← Hkl.out, mapUp_all, Hkl.out] at hr5
      have x1 : ¬ (i : Int) < (n : Int) := by omega
      clear hin Ho
      go_upto_region 7 with fail
      -- NORM
      refine wp_region_held_drew (S := fun w' => (w'.cell? ⟨sz, 0, none⟩ = some (.slice L n cn) ∧ w'.cell? ⟨sz, 1, none⟩ = some (.slice K n cm) ∧ w'.cell? ⟨sz, 2, none⟩ = some (.int .i64 bd)) ∧ Hid (Below w.heap.size w w') ∧ Hid (w'.heap[sz]? = some (.cells #[.slice L n cn, .slice K n cm, .int .i64 bd] 24)) ∧ Hid (Rd w' (fun g => g = Z) 1 (.slice (some ⟨Z, 0, none⟩) n n) n (ints (c.coefs.map f)))) (by kernel_rfl) ⟨box3 k5.out, hid (Bl.drew b5), k5, hid hr5.out.drew⟩ (fun hHeld => ?_)
      refine wpAnyH_take (i := 0) (oi := ⟨_, _, _, _, _, _⟩) (v := ?_) rfl (by kernel_rfl) (by kernel_rfl) (by kernel_rfl) (fun _ _ _ h => h) (Or.inl ⟨by rfl, ?_⟩) (by assumption) ?_
      rotate_left
      · intro w hSw
        try dsimp only at hSw
        go_simp
        try with_reducible rfl
      simp only [Act.put, List.setIfInBounds_toArray, List.set_cons_zero, List.set_cons_succ]
      refine wpAnyH_take (i := 2) (oi := ⟨_, _, _, _, _, _⟩) (v := ?_) rfl (by kernel_rfl) (by kernel_rfl) (by kernel_rfl) (fun _ _ _ h => h) (Or.inl ⟨by rfl, ?_⟩) (by assumption) ?_
      rotate_left
      · intro w hSw
        try dsimp only at hSw
        go_simp
        try with_reducible rfl
      simp only [Act.put, List.setIfInBounds_toArray, List.set_cons_zero, List.set_cons_succ]
      refine wpAnyH_take (i := 3) (oi := ⟨_, _, _, _, _, _⟩) (v := ?_) rfl (by kernel_rfl) (by kernel_rfl) (by kernel_rfl) (fun _ _ _ h => h) (Or.inl ⟨by rfl, ?_⟩) (by assumption) ?_
      rotate_left
      · intro w hSw
        try dsimp only at hSw
        go_simp
        try with_reducible rfl
      simp only [Act.put, List.setIfInBounds_toArray, List.set_cons_zero, List.set_cons_succ]
      refine wpAnyH_take (i := 4) (oi := ⟨_, _, _, _, _, _⟩) (v := ?_) rfl (by kernel_rfl) (by kernel_rfl) (by kernel_rfl) (fun _ _ _ h => h) (Or.inl ⟨by rfl, ?_⟩) (by assumption) ?_
      rotate_left
      · intro w hSw
        try dsimp only at hSw
        go_simp
        try with_reducible rfl
      simp only [Act.put, List.setIfInBounds_toArray, List.set_cons_zero, List.set_cons_succ]
      refine wpAnyH_take (i := 1) (oi := ⟨_, _, _, _, _, _⟩) (v := ?_) rfl (by kernel_rfl) (by kernel_rfl) (by kernel_rfl) (fun _ _ _ h => h) (Or.inl ⟨by rfl, ?_⟩) (by assumption) ?_
      rotate_left
      · intro w hSw
        try dsimp only at hSw
        go_simp
        try with_reducible rfl
      simp only [Act.put, List.setIfInBounds_toArray, List.set_cons_zero, List.set_cons_succ]
      refine wpAnyH_take (i := 5) (oi := ⟨_, _, _, _, _, _⟩) (v := ?_) rfl (by kernel_rfl) (by kernel_rfl) (by kernel_rfl) (fun _ _ _ h => h) (Or.inl ⟨by rfl, ?_⟩) (by assumption) ?_
      rotate_left
      · intro w hSw
        try dsimp only at hSw
        go_simp
        try with_reducible rfl
      simp only [Act.put, List.setIfInBounds_toArray, List.set_cons_zero, List.set_cons_succ]
      refine wpAnyH_ready (rs := [6]) (by kernel_rfl) (by simp) (AllReadyH.cons (o := ⟨_, _, _, _, _, _⟩) rfl (fun K hK => ?_) AllReadyH.nil)
      go_simp
      refine (Hhf.out _ _ hHeld.2.1.out hbr).mono ?_
      rintro r w6 ⟨rfl, rfl⟩
      refine hK.out _ _ hHeld (fun hHeld => ?_)
      clear hK K
      try simp only [Act.put, List.setIfInBounds_toArray, List.set_cons_zero, List.set_cons_succ]
      refine wpAnyH_ready (rs := [7]) (by kernel_rfl) (by simp) (AllReadyH.cons (o := ⟨_, _, _, _, _, _⟩) rfl (fun K hK => ?_) AllReadyH.nil)
      go_simp
      refine (norm_any (hx0.out.below hHeld.2.1.out) hHeld.2.2.2.out HI1.out HI2.out HI3.out).mono ?_
      rintro r w7 ⟨⟨pv, rfl, hpv⟩, b7⟩
      have K7 := hid (keep_blk (show wr.drew.heap[sz + 1]? = _ from k6.out) b7)
      rw [HR.out] at hpv ⊢
      obtain ⟨⟨A1, n1, c1, A2, n2, c2, rfl, r1, r2⟩, hb1⟩ := hpv
      refine hK.out _ _ ⟨box3 (keep_blk hHeld.2.2.1.out b7), hid (hHeld.2.1.out.trans (b7.mono hHeld.2.1.out.size)), hid (keep_blk hHeld.2.2.1.out b7), hid (hHeld.2.2.2.out.below b7)⟩ (fun hHeld => ?_)
      clear hK K
      have R1 := hid r1
      have R2 := hid r2
      have Hb1 := hid hb1
      have hsz7 : wr.heap.size ≤ w7.heap.size := b7.size
      obtain ⟨t0, t1, t2⟩ := box3 K7.out
      obtain ⟨f0, f1, f2⟩ := froz3 K7.out
      clear r1 r2 hb1 b7
      try simp only [Act.put, List.setIfInBounds_toArray, List.set_cons_zero, List.set_cons_succ]
      refine wpAnyH_take (i := 8) (oi := ⟨_, _, _, _, _, _⟩) (v := ?_) rfl (by kernel_rfl) (by kernel_rfl) (by kernel_rfl) (fun _ _ _ h => h) (Or.inl ⟨by rfl, ?_⟩) (by assumption) ?_
      rotate_left
      · intro w hSw
        try dsimp only at hSw
        go_simp
        try with_reducible rfl
      simp only [Act.put, List.setIfInBounds_toArray, List.set_cons_zero, List.set_cons_succ]
      refine wpAnyH_take (i := 9) (oi := ⟨_, _, _, _, _, _⟩) (v := ?_) rfl (by kernel_rfl) (by kernel_rfl) (by kernel_rfl) (fun _ _ _ h => h) (Or.inl ⟨by rfl, ?_⟩) (by assumption) ?_
      rotate_left
      · intro w hSw
        try dsimp only at hSw
        go_simp
        try with_reducible rfl
      simp only [Act.put, List.setIfInBounds_toArray, List.set_cons_zero, List.set_cons_succ]
      refine wpAnyH_ready (rs := [10]) (by kernel_rfl) (by simp) (AllReadyH.cons (o := ⟨_, _, _, _, _, _⟩) rfl (fun K hK => ?_) AllReadyH.nil)
      go_simp
      obtain ⟨u0, u1, u2, m3⟩ := set3 t0 t1 t2 (.slice A1 n1 c1) (.slice A2 n2 c2) (.int .i64 R.1.bound)
      have q3 := (m3.block sz (by omega) (by omega)).trans hHeld.2.2.1.out
      refine hK.out _ _ ⟨box3 q3, hid (below_mod hHeld.2.1.out hHeld.2.1.out.size m3 fun g hg => by omega), hid q3, hid (hHeld.2.2.2.out.mod m3 fun g _ hf e => by omega)⟩ (fun hHeld => ?_)
      clear hK K
      try simp only [Act.put, List.setIfInBounds_toArray, List.set_cons_zero, List.set_cons_succ]
      refine wpAnyH_ready (rs := [11]) (by kernel_rfl) (by simp) (AllReadyH.cons (o := ⟨_, _, _, _, _, _⟩) rfl (fun K hK => ?_) AllReadyH.nil)
      go_simp
      refine hK.out _ _ hHeld (fun hHeld => ?_)
      clear hK K
      try simp only [Act.put, List.setIfInBounds_toArray, List.set_cons_zero, List.set_cons_succ]
      refine wpAnyH_done (by kernel_rfl) ?_ _
      go_wp2_with fail
      have hfin := hHeld.2.1.out
      rw [hsz] at hfin
      refine bodyPost_ret (v := .tuple #[.agg #[.slice A1 n1 c1, .slice A2 n2 c2, .int .i64 R.1.bound], .int .i64 R.2]) (by simp [results, Tryd.f39, go_sem, u0, u1, u2]) rfl ⟨⟨_, rfl, ⟨A1, n1, c1, A2, n2, c2, rfl, ?_, ?_⟩, Hb1.out⟩, hfin⟩
      · exact (R1.out.mod m3 fun g _ hf e => by have : wr.heap.size ≤ g := hf; omega).mono fun g _ hf => by have : wr.heap.size ≤ g := hf; omega
      · exact (R2.out.mod m3 fun g _ hf e => by have : wr.heap.size ≤ g := hf; omega).mono fun g _ hf => by have : wr.heap.size ≤ g := hf; omega
      -- END NORM
end
end Go.Proofs.YtooioikkgdgnnaaDoor
