/-
  Taking the operations of a drawn region, in short rows.
-/
import Derived.Test.YtbghfdhijlpogaaTk
import Derived.Test.YtbghfdhijlpogaaRegU
namespace Go.Proofs.Ytbghfdhijlpogaa

theorem rd1 {P : Program} {md : Region.Mode} {ops : Array Oper} {Q : Exit → Act → World → Prop} {S : World → Prop} (i : Nat) {dst : Option Tmp} {op : Op} {type : TypeId} {pos : String} {after : Array Edge} {guard : Option (Nat × Bool)} {fuel : Nat} {listed : Array Bool} {a : Act} {w : World}
    (h : ∀ K' : Act → World → Prop, Shut (∀ a w, S w → (S w → wpAnyH P md ops Q S fuel (listed.setIfInBounds i true) a w) → K' a w) → if Region.wanted ⟨dst, op, type, pos, after, guard⟩ (yielded ops a.tmps) = true then Oper.wp P ⟨dst, op, type, pos, after, guard⟩ a w K' Q else K' (a.put dst undef) w)
    (hr : Region.ready md ops listed = [i] := by kernel_rfl) (ho : ops[i]? = some ⟨dst, op, type, pos, after, guard⟩ := by rfl) : wpAnyH P md ops Q S (fuel + 1) listed a w :=
  wpAnyH_ready hr (by simp) (AllReadyH.cons ho h AllReadyH.nil)
theorem tu {P : Program} {md : Region.Mode} {ops : Array Oper} {Q : Exit → Act → World → Prop} {S : World → Prop} {k : Nat} (i : Nat) {dst : Option Tmp} {op : Op} {type : TypeId} {pos : String} {after : Array Edge} {guard : Option (Nat × Bool)} {v : Value} {fuel : Nat} {listed : Array Bool} {a a' : Act} {w : World}
    (hh : wpAnyU P md ops Q S k fuel (listed.setIfInBounds i true) a' w) (hi : ops[i]? = some ⟨dst, op, type, pos, after, guard⟩ := by rfl) (hs : Region.noSelect ops = true := by kernel_rfl) (hf : Region.free md ops listed i = true := by kernel_rfl) (hr : (Region.ready md ops listed).contains i = true := by kernel_rfl) (hik : (i == k) = false := by rfl)
    (hQ : ∀ c a w, Q (.panic c) (a.put dst v) w → Q (.panic c) a w := by exact fun _ _ _ h => h) (hw : Region.wanted ⟨dst, op, type, pos, after, guard⟩ (yielded ops a.tmps) = true := by rfl)
    (hv : ∀ w, (execOp a.eval ⟨dst, op, type, pos, after, guard⟩).run P w = .ok (.value v) w := by intro w; go_simp; (try with_reducible rfl)) (hS : S w := by assumption)
    (ha : a.put dst v = a' := by simp only [Act.put, List.setIfInBounds_toArray, List.set_cons_zero, List.set_cons_succ]; try rfl) : wpAnyU P md ops Q S k (fuel + 1) listed a w :=
  wpAnyU_any hi hs hf hr hik hQ (.inl ⟨hw, fun w _ => hv w⟩) hS (ha ▸ hh)
theorem tv {P : Program} {md : Region.Mode} {ops : Array Oper} {Q : Exit → Act → World → Prop} {S : World → Prop} {k : Nat} (B : List Nat) (i : Nat) {dst : Option Tmp} {op : Op} {type : TypeId} {pos : String} {after : Array Edge} {guard : Option (Nat × Bool)} {v : Value} {fuel : Nat} {listed : Array Bool} {a a' : Act} {w : World}
    (hh : wpAnyU P md ops Q S k fuel (listed.setIfInBounds i true) a' w) (hi : ops[i]? = some ⟨dst, op, type, pos, after, guard⟩ := by rfl) (hs : Region.noSelect ops = true := by kernel_rfl) (hf : Region.free md ops listed i = true := by kernel_rfl) (hr : (Region.ready md ops listed).contains i = true := by kernel_rfl) (hB : (B.contains k && !(B.contains i) && shuts md ops B i listed) = true := by kernel_rfl)
    (hQ : ∀ c a w, Q (.panic c) (a.put dst v) w → Q (.panic c) a w := by exact fun _ _ _ h => h) (hw : Region.wanted ⟨dst, op, type, pos, after, guard⟩ (yielded ops a.tmps) = true := by rfl)
    (hv : ∀ w, S w → (execOp a.eval ⟨dst, op, type, pos, after, guard⟩).run P w = .ok (.value v) w := by intro w hSw; (try dsimp only at hSw); go_simp; (try with_reducible rfl)) (hS : S w := by assumption)
    (ha : a.put dst v = a' := by simp only [Act.put, List.setIfInBounds_toArray, List.set_cons_zero, List.set_cons_succ]; try rfl) : wpAnyU P md ops Q S k (fuel + 1) listed a w :=
  wpAnyU_take B hi hs hf hr hB hQ (.inl ⟨hw, hv⟩) hS (ha ▸ hh)
theorem ru {P : Program} {md : Region.Mode} {ops : Array Oper} {Q : Exit → Act → World → Prop} {S : World → Prop} {k : Nat} (rs : List Nat) {fuel : Nat} {listed : Array Bool} {a : Act} {w : World} (hh : AllReadyU P md ops Q S k fuel listed a w rs) (hr : Region.ready md ops listed = rs := by kernel_rfl) (hne : rs ≠ [] := by simp) : wpAnyU P md ops Q S k (fuel + 1) listed a w :=
  wpAnyU_ready hr hne hh
theorem cu {P : Program} {md : Region.Mode} {ops : Array Oper} {Q : Exit → Act → World → Prop} {S : World → Prop} {k : Nat} {i : Nat} {rs : List Nat} {dst : Option Tmp} {op : Op} {type : TypeId} {pos : String} {after : Array Edge} {guard : Option (Nat × Bool)} {fuel : Nat} {listed : Array Bool} {a : Act} {w : World}
    (hh : ∀ K' : Act → World → Prop, Shut (∀ a w, S w → (S w → wpAnyU P md ops Q S k fuel (listed.setIfInBounds i true) a w) → K' a w) → if Region.wanted ⟨dst, op, type, pos, after, guard⟩ (yielded ops a.tmps) = true then Oper.wp P ⟨dst, op, type, pos, after, guard⟩ a w K' Q else K' (a.put dst undef) w)
    (hs : AllReadyU P md ops Q S k fuel listed a w rs) (ho : ops[i]? = some ⟨dst, op, type, pos, after, guard⟩ := by rfl) : AllReadyU P md ops Q S k fuel listed a w (i :: rs) :=
  AllReadyU.cons ho hh hs
theorem r1 {P : Program} {md : Region.Mode} {ops : Array Oper} {Q : Exit → Act → World → Prop} {S : World → Prop} {k : Nat} (i : Nat) {dst : Option Tmp} {op : Op} {type : TypeId} {pos : String} {after : Array Edge} {guard : Option (Nat × Bool)} {fuel : Nat} {listed : Array Bool} {a : Act} {w : World}
    (hh : ∀ K' : Act → World → Prop, Shut (∀ a w, S w → (S w → wpAnyU P md ops Q S k fuel (listed.setIfInBounds i true) a w) → K' a w) → if Region.wanted ⟨dst, op, type, pos, after, guard⟩ (yielded ops a.tmps) = true then Oper.wp P ⟨dst, op, type, pos, after, guard⟩ a w K' Q else K' (a.put dst undef) w)
    (hr : Region.ready md ops listed = [i] := by kernel_rfl) (ho : ops[i]? = some ⟨dst, op, type, pos, after, guard⟩ := by rfl) : wpAnyU P md ops Q S k (fuel + 1) listed a w :=
  wpAnyU_ready hr (by simp) (AllReadyU.cons ho hh AllReadyU.nil)
theorem l1 {P : Program} {md : Region.Mode} {ops : Array Oper} {Q : Exit → Act → World → Prop} {S : World → Prop} {k : Nat} (i : Nat) {dst : Option Tmp} {op : Op} {type : TypeId} {pos : String} {after : Array Edge} {guard : Option (Nat × Bool)} {fuel : Nat} {listed : Array Bool} {a : Act} {w : World}
    (hh : ∀ K' : Act → World → Prop, Shut (∀ a w, wpAnyU P md ops Q S k fuel (listed.setIfInBounds i true) a w → K' a w) → if Region.wanted ⟨dst, op, type, pos, after, guard⟩ (yielded ops a.tmps) = true then Oper.wp P ⟨dst, op, type, pos, after, guard⟩ a w K' Q else K' (a.put dst undef) w)
    (hr : Region.ready md ops listed = [i] := by kernel_rfl) (ho : ops[i]? = some ⟨dst, op, type, pos, after, guard⟩ := by rfl) (hl : (listed.setIfInBounds i true).getD k false = true := by rfl) : wpAnyU P md ops Q S k (fuel + 1) listed a w :=
  wpAnyU_ready hr (by simp) (AllReadyU.late ho hl hh AllReadyU.nil)
end Go.Proofs.Ytbghfdhijlpogaa
