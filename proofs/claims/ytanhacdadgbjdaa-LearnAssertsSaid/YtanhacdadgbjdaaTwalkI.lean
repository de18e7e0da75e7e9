/-
  Walks: the trail's Assign; ostlerlaw24.Ints.
-/
import Derived.Test.YtanhacdadgbjdaaTwalkH
namespace Go.Proofs.Ytanhacdadgbjdaa
open Go.RowKit

def i8s (xs : List Int) : List Value := xs.map (Value.int .i8)
theorem i8s_set (xs : List Int) (k : Nat) (x : Int) : i8s (xs.set k x) = (i8s xs).set k (.int .i8 x) := by simp [i8s, List.map_set]
/-- The value of each variable. -/
def Tr.assign (T : Tr) : List Int := (List.range T.vars).map fun (i : Nat) => T.value ((i : Int) + 1)
/-- .. of the first k literals alone. -/
def assignTo (vars : Nat) (ls : List Int) : List Int := ls.foldl (fun acc l => acc.set (l.natAbs - 1) (if 0 < l then 1 else -1)) (List.replicate vars 0)
theorem assignTo_length (vars : Nat) (ls : List Int) : (assignTo vars ls).length = vars := by
  unfold assignTo
  have : ∀ (ls : List Int) (acc : List Int), (ls.foldl (fun acc l => acc.set (l.natAbs - 1) (if 0 < l then 1 else -1)) acc).length = acc.length := by
    intro ls
    induction ls with
    | nil => intro acc; rfl
    | cons l ls ih => intro acc; rw [List.foldl_cons, ih]; simp
  rw [this]; simp
theorem assignTo_snoc (vars : Nat) (ls : List Int) (l : Int) : assignTo vars (ls ++ [l]) = (assignTo vars ls).set (l.natAbs - 1) (if 0 < l then 1 else -1) := by simp [assignTo, List.foldl_append]
theorem snoc_ind {P : List Int → Prop} (h0 : P []) (h1 : ∀ l x, P l → P (l ++ [x])) (l : List Int) : P l := by
  have : ∀ r : List Int, P r.reverse := by
    intro r
    induction r with
    | nil => exact h0
    | cons x r ih => rw [List.reverse_cons]; exact h1 _ _ ih
  simpa using this l.reverse
theorem assignTo_nth {vars : Nat} {ls : List Int} (h : ∀ l ∈ ls, l ≠ 0) (hn : (ls.map Int.natAbs).Nodup) {i : Nat} (hi : i < vars) :
    nth (assignTo vars ls) i = if (i : Int) + 1 ∈ ls then 1 else if -((i : Int) + 1) ∈ ls then -1 else 0 := by
  refine snoc_ind (P := fun ls => (∀ l ∈ ls, l ≠ 0) → (ls.map Int.natAbs).Nodup → nth (assignTo vars ls) i = if (i : Int) + 1 ∈ ls then 1 else if -((i : Int) + 1) ∈ ls then -1 else 0) (fun _ _ => by simp [assignTo, nth, hi]) (fun ls l ih h hn => ?_) ls h hn
  · have ih := ih (fun x hx => h x (by simp [hx])) (by rw [List.map_append] at hn; exact (List.nodup_append.1 hn).1)
    have hl := h l (by simp)
    have hd : ∀ x ∈ ls, x.natAbs ≠ l.natAbs := fun x hx => by
      rw [List.map_append, List.nodup_append] at hn
      exact hn.2.2 _ (List.mem_map.2 ⟨x, hx, rfl⟩) _ (by simp)
    rw [assignTo_snoc, nth_set _ _ _ _ (by rw [assignTo_length]; exact hi), ih]
    by_cases hk : l.natAbs - 1 = i
    · rw [if_pos hk]
      have a1 : ¬ (i : Int) + 1 ∈ ls := fun hm => hd _ hm (by omega)
      have a2 : ¬ -((i : Int) + 1) ∈ ls := fun hm => hd _ hm (by omega)
      by_cases hp : 0 < l
      · have h1 : (i : Int) + 1 ∈ ls ++ [l] := by simp; right; omega
        rw [if_pos hp, if_pos h1]
      · have : l = -((i : Int) + 1) := by omega
        have hne : ¬ (i : Int) + 1 = l := by omega
        have h2 : -((i : Int) + 1) ∈ ls ++ [l] := by simp [this]
        have h1 : ¬ (i : Int) + 1 ∈ ls ++ [l] := by simp only [List.mem_append, List.mem_singleton, not_or]; exact ⟨a1, hne⟩
        rw [if_neg hp, if_neg h1, if_pos h2]
    · rw [if_neg hk]
      have hne : ¬ (i : Int) + 1 = l := by omega
      have hne' : ¬ -((i : Int) + 1) = l := by omega
      simp only [List.mem_append, List.mem_singleton, hne, hne', or_false]
theorem Tr.assign_eq {T : Tr} (h : T.WF) : assignTo T.vars T.lits = T.assign := by
  apply List.ext_getElem (by rw [assignTo_length]; simp [Tr.assign])
  intro i h1 h2
  rw [assignTo_length] at h1
  have := assignTo_nth (vars := T.vars) (ls := T.lits) (fun l hl => by
    obtain ⟨e, he, rfl⟩ := List.mem_map.1 hl
    exact (h.lit e he).1) (by rw [Tr.lits, List.map_map]; exact h.nodup) h1
  rw [nth_eq (by rw [assignTo_length]; exact h1)] at this
  rw [this]
  simp [Tr.assign, Tr.value]

end Go.Proofs.Ytanhacdadgbjdaa
