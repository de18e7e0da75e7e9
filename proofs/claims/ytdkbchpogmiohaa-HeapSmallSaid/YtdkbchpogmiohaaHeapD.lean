/-
  The activity order: rescale; made, has, Len, Activity; copy.
-/
import Derived.Test.YtdkbchpogmiohaaHeapC
namespace Go.Proofs.Ytdkbchpogmiohaa
open Go.RowKit

theorem info_size_int : (Try.prog.info? 3).map (·.size) = some 1 := by kernel_rfl
/-- copy of a list into a slice of the call's own, of the same length. -/
theorem wpList_copy_ints {ops : Array Oper} {rest : List Oper} {o : Oper} {a : Act} {w : World} {Q : Exit → Act → World → Prop} (hgd : o.guard = none) (s x : Operand)
    (ho : o.op = .call { callee := .builtin .copy, args := #[s, x], argTypes := #[37, 37] }) {F G : Nat → Prop} {g c : Nat} {u : Value} {n : Nat} {xs ys : List Value}
    (hv : Own w F 3 1 (.slice (some ⟨g, 0, none⟩) n c) n xs) (hu : Rd w G 1 u n ys) (hs : a.eval s = .slice (some ⟨g, 0, none⟩) n c) (hx : a.eval x = u) (h1 : ∀ u ∈ ys, u.oneCell' = true)
    (hK : ∀ r w', Own w' F 3 1 (.slice (some ⟨g, 0, none⟩) n c) n ys → Mod (fun k => k = g) w w' → wpList Try.prog ops Q rest (a.put o.dst r) w') :
    wpList Try.prog ops Q (o :: rest) a w := by
  refine wpList_plain hgd fun _ hK' => ?_
  have run : ∃ r w', (Builtin.copy_ #[37, 37] o.type #[.slice (some ⟨g, 0, none⟩) n c, u]).run Try.prog w = .ok r w' ∧ Own w' F 3 1 (.slice (some ⟨g, 0, none⟩) n c) n ys ∧ Mod (fun k => k = g) w w' := by
    obtain ⟨hyl, B, cb, rfl, hmc, hcm, hB⟩ := hu
    rcases Nat.eq_zero_or_pos n with h0 | h0
    · subst h0
      have hy : ys = [] := List.eq_nil_of_length_eq_zero (by simpa using hyl)
      have hxs : xs = [] := List.eq_nil_of_length_eq_zero (by simpa using hv.1)
      subst hy hxs
      exact ⟨_, _, run_copy_none (P := Try.prog) w _ _ _ 3 _ _ 0 c 0 cb Try.underlying37 info_size_int rfl, hv, Mod.refl _ _⟩
    · obtain ⟨gb, ob, rfl, _, _, hcell⟩ := hB h0
      obtain ⟨hl, e | ⟨g', cap, cur, e, hp, hF, hg, hn, hm, hsz, ht⟩⟩ := hv
      · obtain ⟨_, e, e'⟩ := e; omega
      · injection e with e1 _ e3
        injection e1 with e1; injection e1 with e1 _ _
        subst e1 e3
        have hyn : ys.length = n := by simpa using hyl
        refine ⟨_, _, run_copy_row (P := Try.prog) w _ _ _ 3 g 0 n c ⟨gb, ob, none⟩ n cb cur 3 ys Try.underlying37 info_size_int hg (by rw [hyn]; exact (Nat.min_self n).symm) (fun j v hj => by rw [addr_add]; exact hcell j v hj) (by omega) h1, ?_, ?_⟩
        · refine ⟨hyl, .inr ⟨g, c, _, rfl, hp, hF, setRow_heap w g cur _ _ _ hg, hn, hm, ?_, ?_⟩⟩
          · simp; omega
          · simp [hyn]
        · exact ⟨rfl, rfl, rfl, by simp, fun k _ hk => setRow_other w g k _ (fun e => hk e)⟩
  obtain ⟨r, w', hr, h2, h3⟩ := run
  unfold Oper.wp execOp
  simp only [ho, resolve, invoke, builtin, Sem.run_bind, Sem.run_pure, Result.andThen_ok, List.map_toArray, List.map_cons, List.map_nil, hs, hx, hr]
  exact hK' _ _ (hK r w' h2 h3)

theorem nth_ext {xs ys : List Int} (hl : xs.length = ys.length) (e : ∀ k, k < xs.length → nth xs k = nth ys k) : xs = ys := by
  apply List.ext_getElem hl
  intro k h1 h2
  have := e k h1
  rwa [nth_eq h1, nth_eq h2] at this
theorem nth_map {xs : List Int} {f : Int → Int} {k : Nat} (hk : k < xs.length) : nth (xs.map f) k = f (nth xs k) := by
  rw [nth_eq (by simpa using hk), nth_eq hk]; simp

/-- Divided by 2^30. -/
def low (x : Int) : Int := x / 1073741824
def one_or (x : Int) : Int := if x < 1 then 1 else x
section
variable {w w' : World} {F G : Nat → Prop} {b ga gh gp n np : Nat} {acts : List Int} {inc : Int} {heap pos : List Int}
theorem OrdAt.al (e : OrdAt w F b ga gh gp n np acts inc heap pos) : acts.length = np := by have := e.oa.1; simpa [ints_length] using this
theorem OrdAt.acted (e : OrdAt w F b ga gh gp n np acts inc heap pos) (j : Nat) (x : Int) : OrdAt (w.setCell ⟨ga, j, none⟩ (.int .i64 x)) F b ga gh gp n np (acts.set j x) inc heap pos := by
  have hm : Mod (fun g => g = ga) w (w.setCell ⟨ga, j, none⟩ (.int .i64 x)) := (Mod.refl (fun g => g = ga) w).setCell (p := ⟨ga, j, none⟩) (.inl rfl) _
  refine { e with
    blk := (hm.block b (lt_of_block e.blk) e.hab.symm).trans e.blk
    oa := ?_
    oh := e.oh.mod hm fun g _ hr _ x => ?_
    op := e.op.mod hm fun g _ hr _ x => ?_ }
  · rw [ints_set]; exact e.oa.stored _
  · have := hr.2
    dsimp only at this
    have := e.hah
    omega
  · have := hr.2
    dsimp only at this
    have := e.hap
    omega
theorem OrdAt.inced (e : OrdAt w F b ga gh gp n np acts inc heap pos) (x : Int) : OrdAt (w.setCell ⟨b, 1, none⟩ (.int .i64 x)) F b ga gh gp n np acts x heap pos := by
  have hm : Mod (fun g => g = b) w (w.setCell ⟨b, 1, none⟩ (.int .i64 x)) := (Mod.refl (fun g => g = b) w).setCell (p := ⟨b, 1, none⟩) (.inl rfl) _
  refine { e with
    blk := ?_
    oa := e.oa.mod hm fun g _ hr _ x => ?_
    oh := e.oh.mod hm fun g _ hr _ x => ?_
    op := e.op.mod hm fun g _ hr _ x => ?_ }
  · rw [heap_setCell_same w b 1 _ _ _ e.blk]; simp
  · have := hr.2
    dsimp only at this
    have := e.hab
    omega
  · have := hr.2
    dsimp only at this
    have := e.hhb
    omega
  · have := hr.2
    dsimp only at this
    have := e.hpb
    omega

set_option maxRecDepth 100000 in
set_option maxHeartbeats 4000000 in
theorem rescale_any (ho : OrdAt w F b ga gh gp n np acts inc heap pos) :
    Calls Try.prog 32 #[.pointer (some ⟨b, 0, none⟩)] w fun r w' => r = .returned (.tuple #[]) ∧ OrdAt w' F b ga gh gp n np (acts.map low) (one_or (low inc)) heap pos ∧ Mod (fun g => g = ga ∨ g = b) w w' := by
  have Ho := hid ho
  have hs := ho.small
  have Hnp := hid ho.hnp
  have hnp2 : np ≤ 65537 := by have := ho.hnp; omega
  have c0 := ho.c0
  clear ho
  go_enter Try.func32, Try.ntmps32
  go_wp2_with fail
  go_loopw [8, 2] (fun iv _ W => ∃ (j : Nat) (xs : List Int), j ≤ np ∧ iv = .int .i64 j ∧ Hid (OrdAt W F b ga gh gp n np xs inc heap pos) ∧ Hid (∀ k, k < np → nth xs k = if k < j then low (nth acts k) else nth acts k) ∧ Mod (fun g => g = ga ∨ g = b) w W) (fun iv _ _ => np - (intOf iv).toNat)
  case atStart => exact ⟨0, acts, by omega, rfl, Ho, hid fun k _ => by simp, Mod.refl _ _⟩
  case round =>
    obtain ⟨j, xs, hj, rfl, O, E, M⟩ := hrel
    have c0 := O.out.c0
    have c1 := O.out.c1
    have f1 := O.out.f1
    by_cases hlt : j < np
    · have q1 : (j : Int) < (np : Int) := by omega
      obtain ⟨_, he, _, _, e1, f2⟩ := O.out.oa.cell (j := j) (by omega)
      injection he with he; injection he with he _ _; subst he
      rw [ints_nth (by have := O.out.al; omega), E.out j hlt, if_neg (by omega)] at e1
      generalize hv : nth acts j = v at e1
      have Hv := hid hv
      clear hv
      go_wp2_with fail
      go_roundw
      case rel =>
        refine ⟨j + 1, xs.set j (low v), by omega, by go_num, hid (O.out.acted j (low v)), hid fun k hk => ?_, M.setCell (p := ⟨ga, j, none⟩) (.inl (.inl rfl)) _⟩
        have hv := Hv.out
        rw [nth_set _ _ _ _ (by have := O.out.al; omega), E.out k hk]
        by_cases a : j = k
        · subst a; rw [if_pos rfl, if_pos (by omega), hv]
        · rw [if_neg a]
          by_cases a2 : k < j
          · rw [if_pos a2, if_pos (by omega)]
          · rw [if_neg a2, if_neg (by omega)]
      case measure => simp [intOf]; omega
    · have q1 : (np : Int) ≤ (j : Int) := by omega
      have lst : Hid (xs = acts.map low) := nth_ext (by rw [List.length_map, O.out.al, Ho.out.al]) fun k hk => by
        have := O.out.al
        have := Ho.out.al
        rw [nth_map (by omega), E.out k (by omega), if_pos (by omega)]
      by_cases hq : inc / 1073741824 ≤ 1
      · go_wp2_with fail
        go_end0
        refine ⟨rfl, ?_, M.setCell (p := ⟨b, 1, none⟩) (.inl (.inr rfl)) _⟩
        rw [← lst.out, show one_or (low inc) = 1 by unfold one_or low; split <;> omega]
        exact O.out.inced _
      · go_wp2_with fail
        go_end0
        refine ⟨rfl, ?_, M.setCell (p := ⟨b, 1, none⟩) (.inl (.inr rfl)) _⟩
        rw [← lst.out, show one_or (low inc) = inc / 1073741824 by unfold one_or low; split <;> omega]
        exact O.out.inced _
end
end Go.Proofs.Ytdkbchpogmiohaa
