/-
  A map from numbers to numbers, with its keys.
-/
import Derived.Test.YtooioikkgdgnnaaDoorPbI
import Derived.Test.YtooioikkgdgnnaaDoorPlE
import Derived.Maps.OwnSet
namespace Go.Proofs.YtooioikkgdgnnaaDoor
open Go.RowKit Go.Maps

def addK (x : Int) (ks : List Int) : List Int := if x ∈ ks then ks else ks ++ [x]
structure NumD (D : DataW Unit) (f : Int → Int) (ks : List Int) : Prop where
  tidy : Maps.Tidy D
  val : ∀ v : Int, I64 v → D.atKey (.int .i64 v) (.lit (.int .i64 0)) = .lit (.int .i64 (f v))
  has : ∀ v : Int, I64 v → Maps.has D (.int .i64 v) = decide (v ∈ ks)
  size : Maps.size D = ks.length
def upd (f : Int → Int) (x y : Int) (u : Int) : Int := if u = x then y else f u
theorem NumD.put {D : DataW Unit} {f : Int → Int} {ks : List Int} (h : NumD D f ks) {x : Int} (hx : I64 x) (y : Int) : NumD (D.put (.int .i64 x) (.lit (.int .i64 y))) (upd f x y) (addK x ks) := by
  have hk := num_key hx
  refine ⟨h.tidy.put hk _, fun v hv => ?_, fun v hv => ?_, ?_⟩
  · unfold upd
    by_cases e : v = x
    · subst e; rw [atKey_put_same h.tidy.isMap hk, if_pos rfl]
    · rw [atKey_put_other (num_ne e), h.val v hv, if_neg e]
  · by_cases e : v = x
    · subst e
      rw [has_put_same h.tidy.isMap hk]
      refine (decide_eq_true ?_).symm
      unfold addK
      split
      · assumption
      · simp
    · rw [has_put_other (num_ne e), h.has v hv]
      refine decide_eq_decide.2 ?_
      unfold addK
      split
      · rfl
      · simp [e]
  · rw [size_put h.tidy, h.has x hx, h.size]
    unfold addK
    by_cases e : x ∈ ks
    · rw [if_pos (decide_eq_true e), if_pos e]
    · rw [if_neg (by simp [e]), if_neg e]; simp
theorem NumD.new : NumD (.map []) (fun _ => 0) [] := ⟨tidy_empty, fun v _ => by simp [DataW.atKey], fun v _ => by simp [Maps.has], rfl⟩
def NumIs (w : World) (b n : Nat) (f : Int → Int) (ks : List Int) : Prop := ∃ D : DataW Unit, w.ownsMap Tryd.prog 3 (plainElem Tryd.prog 3) b n D ∧ NumD D f ks
theorem NumIs.of_block {w w' : World} {b n : Nat} {f : Int → Int} {ks : List Int} (h : NumIs w b n f ks) (hb : w'.heap[b]? = w.heap[b]?) : NumIs w' b n f ks := by
  obtain ⟨D, ⟨es, clock, hm, r⟩, hD⟩ := h
  exact ⟨D, ⟨es, clock, hb.trans hm, r⟩, hD⟩
theorem NumIs.lt {w : World} {b n : Nat} {f : Int → Int} {ks : List Int} (h : NumIs w b n f ks) : b < w.heap.size := by
  obtain ⟨D, ⟨es, clock, hm, r⟩, hD⟩ := h
  exact lt_of_block hm
theorem NumIs.below {w w' : World} {b n : Nat} {f : Int → Int} {ks : List Int} (h : NumIs w b n f ks) (hb : Below w.heap.size w w') : NumIs w' b n f ks := h.of_block (hb.block _ h.lt)
theorem NumIs.made (w : World) : NumIs (w.alloc (.map #[] 0)) w.heap.size 0 (fun _ => 0) [] := ⟨_, World.ownsMap_made _ _ _ _, NumD.new⟩
set_option maxRecDepth 100000 in
theorem NumD.look {w : World} {b n : Nat} {D : DataW Unit} {f : Int → Int} {ks : List Int} (hown : w.ownsMap Tryd.prog 3 (plainElem Tryd.prog 3) b n D) (hD : NumD D f ks) {v c : Int} (hv : I64 v) (hc : f v = c) :
    (Instr.lookup 55 (.map (some b)) (.int .i64 v) false).run Tryd.prog w = .ok (.int .i64 c) w := by
  obtain ⟨c', hrun, hat, _⟩ := hown.lookup_int keyed_int Tryd.underlying55 Tryd.underlying3 (zero_num _) (key_num hv)
  have h9 := hD.val v hv
  rw [hat, hc] at h9
  injection h9 with h9
  injection h9 with _ h9
  subst h9
  exact hrun
theorem NumIs.look {w : World} {b n : Nat} {f : Int → Int} {ks : List Int} (h : NumIs w b n f ks) {v c : Int} (hv : I64 v) (hc : f v = c) :
    (Instr.lookup 55 (.map (some b)) (.int .i64 v) false).run Tryd.prog w = .ok (.int .i64 c) w := by
  obtain ⟨D, hown, hD⟩ := h
  exact hD.look hown hv hc
/-- The keys of a list, each once. -/
def keysOf (xs : List Int) : List Int := xs.foldl (fun ks x => addK x ks) []
theorem keysOf_snoc (xs : List Int) (x : Int) : keysOf (xs ++ [x]) = addK x (keysOf xs) := by simp [keysOf, List.foldl_append]
theorem addK_mem {x y : Int} {ks : List Int} : y ∈ addK x ks ↔ y = x ∨ y ∈ ks := by
  unfold addK
  split
  · rename_i h
    exact ⟨.inr, fun e => e.elim (fun e => e ▸ h) id⟩
  · simp [or_comm]
theorem addK_nodup {x : Int} {ks : List Int} (h : ks.Nodup) : (addK x ks).Nodup := by
  unfold addK
  split
  · exact h
  · rename_i e
    refine List.nodup_append.2 ⟨h, by simp, fun a ha b hb => ?_⟩
    simp at hb
    subst hb
    intro e2
    exact e (e2 ▸ ha)
theorem keysOf_is (xs : List Int) : (keysOf xs).Nodup ∧ ∀ y, y ∈ keysOf xs ↔ y ∈ xs := by
  have h : ∀ (n : Nat) (xs : List Int), xs.length = n → (keysOf xs).Nodup ∧ ∀ y, y ∈ keysOf xs ↔ y ∈ xs := by
    intro n
    induction n with
    | zero => intro xs h; have := List.length_eq_zero_iff.1 h; subst this; simp [keysOf]
    | succ n ih =>
      intro xs h
      obtain ⟨ys, y, rfl⟩ : ∃ ys y, xs = ys ++ [y] := ⟨xs.dropLast, xs.getLast (by intro e; subst e; cases h), (List.dropLast_concat_getLast _).symm⟩
      obtain ⟨h1, h2⟩ := ih ys (by simp at h; omega)
      rw [keysOf_snoc]
      refine ⟨addK_nodup h1, fun z => ?_⟩
      rw [addK_mem, h2, List.mem_append, List.mem_singleton, or_comm]
  exact h _ xs rfl
end Go.Proofs.YtooioikkgdgnnaaDoor
