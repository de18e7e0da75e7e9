/-
  Chapter 24: the plain laws of PbUnits' maps.
-/
import Derived.Test.YtbibjlaepmfoeaaDoorPlG
import Derived.Test.YtbibjlaepmfoeaaDoorPbMap
namespace Go.Proofs.YtbibjlaepmfoeaaDoor
open Go.RowKit Go.Maps

/-- A store into a map of numbers, at the operation. -/
theorem wpList_update_num {ops : Array Oper} {rest : List Oper} {o : Oper} {a : Act} {w : World} {Q : Exit → Act → World → Prop} (hg : o.guard = none) (m x v : Operand) (hop : o.op = Op.mapUpdate 38 m x v)
    {b n : Nat} {f : Int → Int} {ks : List Int} (hN : NumIs w b n f ks) (hn : n < 1000000) {k y : Int} (hk : I64 k) (hy : I64 y) (hm : a.eval m = .map (some b)) (hx : a.eval x = .int .i64 k) (hv : a.eval v = .int .i64 y)
    (hK : ∀ w', NumIs w' b (n + 1) (upd f k y) (addK k ks) → Mod (fun g => g = b) w w' → wpList Tryd.prog ops Q rest (a.put o.dst undef) w') :
    wpList Tryd.prog ops Q (o :: rest) a w := by
  obtain ⟨D, hown, hD⟩ := hN
  exact wpList_mapUpdate_own w hg m x v _ hop 3 3 keyed_int Tryd.underlying38 (plainElem (H := Unit) Tryd.prog 3) b n D hm hown (by unfold maxLen; omega) _ _ _ hx hv (key_num hk) _ [] (plainElem_int Tryd.underlying3 (i64_wf hy)) fun w' h1 h2 =>
    hK w' ⟨_, h1, hD.put hk y⟩ ((Mod.of_grown h2).mono fun k _ hk => by injection hk with hk; exact hk.symm)

/-- A map of numbers, of some keys, after at most n stores. -/
def NumF (w : World) (b n : Nat) (f : Int → Int) : Prop := ∃ c ks, c ≤ n ∧ NumIs w b c f ks
theorem NumF.mono {w : World} {b n m : Nat} {f : Int → Int} (h : NumF w b n f) (hnm : n ≤ m) : NumF w b m f := by
  obtain ⟨c, ks, h1, h2⟩ := h
  exact ⟨c, ks, by omega, h2⟩
theorem NumF.below {w w' : World} {b n : Nat} {f : Int → Int} (h : NumF w b n f) (hb : Below w.heap.size w w') : NumF w' b n f := by
  obtain ⟨c, ks, h1, h2⟩ := h
  exact ⟨c, ks, h1, h2.below hb⟩
theorem NumF.mod {w w' : World} {b n : Nat} {f : Int → Int} {G : Nat → Prop} (h : NumF w b n f) (hm : Mod G w w') (hG : ¬ G b) : NumF w' b n f := by
  obtain ⟨c, ks, h1, h2⟩ := h
  exact ⟨c, ks, h1, h2.of_block (hm.block b h2.lt hG)⟩
theorem NumF.lt {w : World} {b n : Nat} {f : Int → Int} (h : NumF w b n f) : b < w.heap.size := by
  obtain ⟨c, ks, h1, h2⟩ := h
  exact h2.lt
theorem NumF.look {w : World} {b n : Nat} {f : Int → Int} (h : NumF w b n f) {v c : Int} (hv : I64 v) (hc : f v = c) :
    (Instr.lookup 38 (.map (some b)) (.int .i64 v) false).run Tryd.prog w = .ok (.int .i64 c) w := by
  obtain ⟨n', ks, _, h2⟩ := h
  exact h2.look hv hc
theorem NumF.made (w : World) : NumF (w.alloc (.map #[] 0)) w.heap.size 0 (fun _ => 0) := ⟨0, [], Nat.le_refl _, NumIs.made w⟩
theorem NumF.fn {w : World} {b n : Nat} {f g : Int → Int} (h : NumF w b n f) (e : f = g) : NumF w b n g := e ▸ h
theorem wpList_update_f {ops : Array Oper} {rest : List Oper} {o : Oper} {a : Act} {w : World} {Q : Exit → Act → World → Prop} (hg : o.guard = none) (m x v : Operand) (hop : o.op = Op.mapUpdate 38 m x v)
    {b n : Nat} {f : Int → Int} (hN : NumF w b n f) (hn : n < 1000000) {k y : Int} (hk : I64 k) (hy : I64 y) (hm : a.eval m = .map (some b)) (hx : a.eval x = .int .i64 k) (hv : a.eval v = .int .i64 y)
    (hK : ∀ w', NumF w' b (n + 1) (upd f k y) → Mod (fun g => g = b) w w' → wpList Tryd.prog ops Q rest (a.put o.dst undef) w') :
    wpList Tryd.prog ops Q (o :: rest) a w := by
  obtain ⟨c, ks, h1, h2⟩ := hN
  exact wpList_update_num hg m x v hop h2 (by omega) hk hy hm hx hv fun w' h3 h4 => hK w' ⟨c + 1, _, by omega, h3⟩ h4

/-! ### what the map 'always' holds -/
/-- The first literals are 1. -/
def alS (v : Nat) (l : Int) : Int := if l ≠ 0 ∧ l.natAbs < v then 1 else 0
theorem alS_one : (fun _ : Int => (0 : Int)) = alS 1 := by
  funext l
  unfold alS
  rw [if_neg (by omega)]
theorem alS_step (v : Nat) (hv : 1 ≤ v) : upd (upd (alS v) (v : Int) 1) (-(v : Int)) 1 = alS (v + 1) := by
  funext l
  unfold upd alS
  by_cases e1 : l = -(v : Int)
  · rw [if_pos e1, if_pos (by omega)]
  · rw [if_neg e1]
    by_cases e2 : l = (v : Int)
    · rw [if_pos e2, if_pos (by omega)]
    · rw [if_neg e2]
      by_cases e3 : l ≠ 0 ∧ l.natAbs < v
      · rw [if_pos e3, if_pos (by omega)]
      · rw [if_neg e3, if_neg (by omega)]
/-- Within a round: of the variables up to i, only the literals that are true stay. -/
def alI (g : Int → Bool) (s : Int → Bool) (i : Nat) (l : Int) : Int := if (l ≠ 0 ∧ l.natAbs < 7) ∧ g l = true ∧ (l.natAbs ≤ i → tr s l = true) then 1 else 0
def alX (g : Int → Bool) (l : Int) : Int := if (l ≠ 0 ∧ l.natAbs < 7) ∧ g l = true then 1 else 0
theorem alX_start {g : Int → Bool} (h : ∀ l, g l = true) : alS 7 = alX g := by
  funext l
  unfold alS alX
  simp [h]
theorem alI_zero (g s : Int → Bool) : alX g = alI g s 0 := by
  funext l
  unfold alX alI
  by_cases e : (l ≠ 0 ∧ l.natAbs < 7) ∧ g l = true
  · rw [if_pos e, if_pos ⟨e.1, e.2, fun h => by omega⟩]
  · rw [if_neg e, if_neg fun h => e ⟨h.1, h.2.1⟩]
theorem alI_step {g s : Int → Bool} {i : Nat} {k : Int} (hk : k.natAbs = i + 1) (ht : tr s k = false) : upd (alI g s i) k 0 = alI g s (i + 1) := by
  funext l
  unfold upd
  by_cases e : l = k
  · subst e
    rw [if_pos rfl]
    unfold alI
    rw [if_neg fun h => by rw [h.2.2 (by omega)] at ht; cases ht]
  · rw [if_neg e]
    unfold alI
    by_cases e2 : (l ≠ 0 ∧ l.natAbs < 7) ∧ g l = true
    · by_cases e3 : l.natAbs = i + 1
      · have hl : l = -k := by omega
        have ht2 : tr s l = true := by rw [hl, tr_neg s (by omega), ht]; rfl
        rw [if_pos ⟨e2.1, e2.2, fun _ => ht2⟩, if_pos ⟨e2.1, e2.2, fun _ => ht2⟩]
      · by_cases e4 : l.natAbs ≤ i → tr s l = true
        · rw [if_pos ⟨e2.1, e2.2, e4⟩, if_pos ⟨e2.1, e2.2, fun h => e4 (by omega)⟩]
        · rw [if_neg fun h => e4 h.2.2, if_neg fun h => e4 fun h5 => h.2.2 (by omega)]
    · rw [if_neg fun h => e2 ⟨h.1, h.2.1⟩, if_neg fun h => e2 ⟨h.1, h.2.1⟩]
theorem alI_six {g h s : Int → Bool} (hh : ∀ l, h l = (g l && tr s l)) : alI g s 6 = alX h := by
  funext l
  unfold alI alX
  by_cases e : l ≠ 0 ∧ l.natAbs < 7
  · rw [hh]
    by_cases e2 : g l = true
    · by_cases e3 : tr s l = true
      · rw [if_pos ⟨e, e2, fun _ => e3⟩, if_pos ⟨e, by rw [e2, e3]; rfl⟩]
      · rw [if_neg fun h => e3 (h.2.2 (by omega)), if_neg fun h => by have := h.2; rw [e2] at this; exact e3 (by simpa using this)]
    · rw [if_neg fun h => e2 h.2.1, if_neg fun h => by have := h.2; rw [Bool.and_eq_true] at this; exact e2 this.1]
  · rw [if_neg fun h => e h.1, if_neg fun h => e h.1]
theorem alX_cong {g h : Int → Bool} (e : ∀ l, g l = h l) : alX g = alX h := by rw [funext e]
theorem alX_at {g : Int → Bool} {l : Int} (h0 : l ≠ 0) (h6 : l.natAbs ≤ 6) : alX g l = if g l = true then 1 else 0 := by
  unfold alX
  by_cases e : g l = true
  · rw [if_pos ⟨⟨h0, by omega⟩, e⟩, if_pos e]
  · rw [if_neg fun h => e h.2, if_neg e]
theorem tr_bit {x : Int} {i : Nat} (hi : i < 6) : tr (sOf (totUp x 6)) ((i : Int) + 1) = bitOf x i ∧ tr (sOf (totUp x 6)) (-(i : Int) - 1) = !(bitOf x i) := by
  have e : sOf (totUp x 6) ((i : Int) + 1) = bitOf x i := by
    unfold sOf
    rw [show ((i : Int) + 1).natAbs - 1 = i by omega, totUp_nth x 6 hi, if_pos hi]
    cases bitOf x i <;> rfl
  constructor
  · unfold tr
    rw [if_pos (by omega), e]
  · unfold tr
    rw [if_neg (by omega), show -(-(i : Int) - 1) = (i : Int) + 1 by omega, e]
/-! ### what the map 'met' holds -/
def metT (U : List Int) (k : Nat) (l : Int) : Int := if l ∈ U.take k then 1 else 0
theorem metT_none (U : List Int) : (fun _ : Int => (0 : Int)) = metT U 0 := by
  funext l; simp [metT]
theorem metT_new {U : List Int} (hU : U.Nodup) {k : Nat} (hk : k < U.length) : metT U k (nth U k) = 0 := by
  unfold metT
  rw [if_neg]
  intro h
  obtain ⟨j, hj, e⟩ := List.getElem_of_mem h
  rw [List.length_take] at hj
  rw [List.getElem_take, nth_eq hk] at e
  have := (List.getElem_inj hU).1 e
  omega
theorem metT_step {U : List Int} {k : Nat} (hk : k < U.length) : upd (metT U k) (nth U k) 1 = metT U (k + 1) := by
  funext l
  unfold upd metT
  rw [take_nth hk]
  by_cases e : l = nth U k
  · rw [if_pos e, if_pos (by simp [e])]
  · rw [if_neg e]; simp [e]
theorem metT_all {U : List Int} (l : Int) : metT U U.length l = if l ∈ U then 1 else 0 := by
  unfold metT
  rw [List.take_length]
theorem units_low {c : Pb} {a : List Int} (h : c.slackB a < 0) : c.unitsB a = [] := by
  unfold Pb.unitsB
  rw [if_neg fun e => by omega]
end Go.Proofs.YtbibjlaepmfoeaaDoor
