/-
  The activity order: made, has, Len, Activity; rebuild.
-/
import Derived.Test.YtdkbchpogmiohaaHeapD
namespace Go.Proofs.Ytdkbchpogmiohaa
open Go.RowKit

theorem made_any {w : World} {b : Nat} {inc : Int} (c1 : w.cell? ⟨b, 1, none⟩ = some (.int .i64 inc)) :
    Calls Try.prog 29 #[.pointer (some ⟨b, 0, none⟩)] w fun r w' => r = .returned (.bool (decide (0 < inc))) ∧ w' = w := by
  go_enter Try.func29, Try.ntmps29
  go_wp2_with fail
  go_ret
  exact ⟨rfl, rfl⟩
theorem made_nil {w : World} :
    Calls Try.prog 29 #[.pointer none] w fun r w' => r = .returned (.bool false) ∧ w' = w := by
  go_enter Try.func29, Try.ntmps29
  go_wp2_with fail
  go_ret
  exact ⟨rfl, rfl⟩
/-- There is such a variable. -/
def hasv (n : Nat) (v : Int) : Bool := decide (1 ≤ v) && decide (v ≤ n)
theorem has_any {w : World} {b n c : Nat} {A : Option Addr} {v : Int} (c2 : w.cell? ⟨b, 2, none⟩ = some (.slice A n c)) :
    Calls Try.prog 30 #[.pointer (some ⟨b, 0, none⟩), .int .i64 v] w fun r w' => r = .returned (.bool (hasv n v)) ∧ w' = w := by
  by_cases h1 : 1 ≤ v
  · go_enter Try.func30, Try.ntmps30
    go_wp2_with fail
    go_ret
    exact ⟨by simp [hasv, h1], rfl⟩
  · go_enter Try.func30, Try.ntmps30
    go_wp2_with fail
    go_ret
    exact ⟨by simp [hasv]; omega, rfl⟩
section
variable {w w' : World} {F G : Nat → Prop} {b ga gh gp n np : Nat} {acts : List Int} {inc : Int} {heap pos : List Int}
theorem len_any (ho : OrdAt w F b ga gh gp n np acts inc heap pos) (hi : 0 < inc) :
    Calls Try.prog 20 #[.pointer (some ⟨b, 0, none⟩)] w fun r w' => r = .returned (.int .i64 n) ∧ w' = w := by
  have c1 := ho.c1
  have c2 := ho.c2
  clear ho
  go_enter Try.func20, Try.ntmps20
  go_wp2_with fail
  refine (made_any c1).mono ?_
  rintro r w' ⟨rfl, rfl⟩
  go_wp2_with fail
  go_ret
  exact ⟨rfl, rfl⟩
theorem len_none {p : Value} (hm : Calls Try.prog 29 #[p] w fun r w' => r = .returned (.bool false) ∧ w' = w) :
    Calls Try.prog 20 #[p] w fun r w' => r = .returned (.int .i64 0) ∧ w' = w := by
  go_enter Try.func20, Try.ntmps20
  go_wp2_with fail
  refine hm.mono ?_
  rintro r w' ⟨rfl, rfl⟩
  go_wp2_with fail
  go_ret
  exact ⟨rfl, rfl⟩
/-- The activity of any number. -/
def actv (acts : List Int) (n : Nat) (v : Int) : Int := if hasv n v then nth acts v.toNat else 0
theorem activity_any (ho : OrdAt w F b ga gh gp n np acts inc heap pos) (hi : 0 < inc) (v : Int) :
    Calls Try.prog 19 #[.pointer (some ⟨b, 0, none⟩), .int .i64 v] w fun r w' => r = .returned (.int .i64 (actv acts n v)) ∧ w' = w := by
  have c0 := ho.c0
  have c1 := ho.c1
  have c2 := ho.c2
  have Ho := hid ho
  have hnp := ho.hnp
  have hs := ho.small
  clear ho
  cases hv : hasv n v with
  | false =>
    go_enter Try.func19, Try.ntmps19
    go_wp2_with fail
    refine (made_any c1).mono ?_
    rintro r w' ⟨rfl, rfl⟩
    go_wp2_with fail
    refine (has_any c2).mono ?_
    rintro r w' ⟨rfl, rfl⟩
    go_wp2_with fail
    go_ret
    exact ⟨by simp [actv, hv], rfl⟩
  | true =>
    have hv2 : 1 ≤ v ∧ v ≤ n := by simpa [hasv] using hv
    obtain ⟨x, rfl⟩ : ∃ x : Nat, v = x := ⟨v.toNat, by omega⟩
    obtain ⟨_, he, _, _, e1, _⟩ := Ho.out.oa.cell (j := x) (by omega)
    injection he with he; injection he with he _ _; subst he
    rw [ints_nth (by have := Ho.out.al; omega)] at e1
    have q1 : (x : Int) < (np : Int) := by omega
    have Hnp := hid hnp
    clear hnp
    go_enter Try.func19, Try.ntmps19
    go_wp2_with fail
    refine (made_any c1).mono ?_
    rintro r w' ⟨rfl, rfl⟩
    go_wp2_with fail
    refine (has_any c2).mono ?_
    rintro r w' ⟨rfl, rfl⟩
    go_wp2_with fail
    go_ret
    exact ⟨by simp [actv, hv], rfl⟩
theorem activity_none {p : Value} (hm : Calls Try.prog 29 #[p] w fun r w' => r = .returned (.bool false) ∧ w' = w) (v : Int) :
    Calls Try.prog 19 #[p, .int .i64 v] w fun r w' => r = .returned (.int .i64 0) ∧ w' = w := by
  go_enter Try.func19, Try.ntmps19
  go_wp2_with fail
  refine hm.mono ?_
  rintro r w' ⟨rfl, rfl⟩
  go_wp2_with fail
  go_ret
  exact ⟨rfl, rfl⟩

theorem HeapTo.but {m : Nat} (e : HeapTo acts heap m) : HeapBut acts heap (m + 1) m :=
  ⟨fun k h1 h2 h3 => e k h1 (by omega), fun k h1 h2 h3 _ => by omega⟩
theorem set_nth {xs : List Int} {j : Nat} (_hj : j < xs.length) : xs.set j (nth xs j) = xs := by
  apply nth_ext (by simp)
  intro k hk
  rw [nth_set _ _ _ _ (by simpa using hk)]
  split
  · rename_i e; subst e; rfl
  · rfl

set_option maxRecDepth 100000 in
set_option maxHeartbeats 4000000 in
theorem rebuild_any (ho : OrdAt w F b ga gh gp n np acts inc heap pos) :
    Calls Try.prog 33 #[.pointer (some ⟨b, 0, none⟩)] w fun r w' => r = .returned (.tuple #[]) ∧
      (∃ heap' pos', OrdAt w' F b ga gh gp n np acts inc heap' pos' ∧ HeapTo acts heap' n) ∧ Mod (fun g => (g = gh ∧ 0 < n) ∨ g = gp) w w' := by
  have Ho := hid ho
  have hs := ho.small
  have c2 := ho.c2
  have hblt := lt_of_block ho.blk
  have Hnp := hid ho.hnp
  have hnp2 : np ≤ 65537 := by have := ho.hnp; omega
  obtain ⟨i0, hi, hz0, hz1, hz2⟩ := info_parts info_int
  clear ho
  go_enter Try.func33, Try.ntmps33
  go_wp2_with (first | (at_make; refine wpList_make1 rfl _ _ _ rfl i0 (.int .i64 0) 8 Try.underlying37 hi hz0 hz1 hz2 rfl rfl rfl (by omega) (by omega) ?_; intro w1 ho1 hb1; have d2 := (hb1.cell (p := ⟨b, 2, none⟩) hblt).trans c2) | (refine wpList_copy_ints rfl _ _ rfl ho1 (Ho.out.oh.rd.below hb1) rfl rfl (ints_one _) ?_; intro r1 w2 ho2 hm2))
  have Hb1 := hid hb1
  have Hm2 := hid hm2
  have O2 : Hid (OrdAt w2 F b ga gh gp n np acts inc heap pos) := Ho.out.keep fun g hg _ => (hm2.block g (by have := hb1.size; omega) (by omega)).trans (hb1.block g hg)
  have hM2 : Hid (Mod (fun _ => False) w w2) := (Mod.of_below hb1).trans (hm2.mono fun g _ hg => .inr (by omega))
  have hr2 := ho2.rd
  obtain ⟨q, hq⟩ : ∃ q, w.heap.size = q := ⟨_, rfl⟩
  rw [hq] at hr2 ⊢
  clear hb1 hm2 ho1 ho2 d2 c2 hz0 hz1 hz2 hi
  go_loopw [19, 3, 4] (fun iv _ _ W => ∃ (j : Nat) (heap' pos' : List Int), j ≤ n ∧ iv = .int .i64 j ∧ Hid (OrdAt W F b ga gh gp n np acts inc heap' pos') ∧ Hid (HeapTo acts heap' j) ∧ Hid (∀ k, j ≤ k → nth heap' k = nth heap k) ∧ Hid (Rd W (fun g => g = q) 1 (.slice (some ⟨q, 0, none⟩) n n) n (ints heap)) ∧ Mod (fun g => (g = gh ∧ 0 < n) ∨ g = gp) w2 W) (fun iv _ _ _ => n - (intOf iv).toNat)
  case atStart => exact ⟨0, heap, pos, by omega, rfl, O2, hid fun k h1 h2 => by omega, hid fun _ _ => rfl, hid hr2, Mod.refl _ _⟩
  case round =>
    obtain ⟨j, heap', pos', hj, rfl, O, H, E, R, M⟩ := hrel
    have c2 := O.out.c2
    have c3 := O.out.c3
    by_cases hlt : j < n
    · have q1 : (j : Int) < (n : Int) := by omega
      obtain ⟨x, hx, x1, xn, px⟩ := O.out.inv.fw j hlt
      have hnp := Hnp.out
      have q2 : (x : Int) < (np : Int) := by omega
      have hlh := O.out.inv.hl
      have hlp := O.out.inv.pl
      obtain ⟨_, he, _, hgh, e1, f1⟩ := O.out.oh.cell (j := j) (by omega)
      injection he with he; injection he with he _ _; subst he
      obtain ⟨_, he, _, _, e2, f2⟩ := O.out.op.cell (j := x) (by omega)
      injection he with he; injection he with he _ _; subst he
      obtain ⟨_, hcell⟩ := R.out.cell
      obtain ⟨_, _, he, _, _, e3⟩ := hcell j hlt
      injection he with he; injection he with he1 he2; subst he1 he2
      rw [ints_nth (by omega), hx] at e1
      rw [ints_nth (by omega), px] at e2
      rw [← E.out j (Nat.le_refl _), hx, Nat.zero_add] at e3
      have Hx := hid hx
      have Px := hid px
      have Hlh := hid hlh
      have Hlp := hid hlp
      have hhp := O.out.hhp
      have hhb := O.out.hhb
      have hpb := O.out.hpb
      have hqh : q ≠ gh := by
        obtain ⟨_, he, _, hg, _, _⟩ := Ho.out.oh.cell (j := j) (by omega)
        injection he with he; injection he with he _ _; subst he
        omega
      have hqp : q ≠ gp := by
        obtain ⟨_, he, _, hg, _, _⟩ := Ho.out.op.cell (j := x) (by omega)
        injection he with he; injection he with he _ _; subst he
        omega
      have r1 : (gh = b) = False := by simpa using hhb
      have r2 : (gp = b) = False := by simpa using hpb
      have r3 : (gh = gp) = False := by simpa using hhp
      have r4 : (gp = gh) = False := by simpa using hhp.symm
      have r5 : (b = gh) = False := by simpa using hhb.symm
      have r6 : (b = gp) = False := by simpa using hpb.symm
      have Hnp' := hid hnp
      clear hnp hlh hlp hx px hcell hhp hhb hpb
      go_wp2_with fail
      go_region
      go_wp2_with fail
      have hm3 : Mod (fun g => g = gh ∨ g = gp) wr ((wr.setCell ⟨gh, j, none⟩ (.int .i64 x)).setCell ⟨gp, x, none⟩ (.int .i64 j)).drew :=
        (((Mod.refl _ wr).setCell (p := ⟨gh, j, none⟩) (.inl (.inl rfl)) _).setCell (p := ⟨gp, x, none⟩) (.inl (.inr rfl)) _).drew
      have a1 := O.out.oh.stored (j := j) (.int .i64 x)
      rw [← ints_set, ← Hx.out, set_nth (by have := Hlh.out; omega), Hx.out] at a1
      have a2 := (a1.mod (w' := (wr.setCell ⟨gh, j, none⟩ (.int .i64 x)).setCell ⟨gp, x, none⟩ (.int .i64 j)) ((Mod.refl (fun g => g = gp) _).setCell (p := ⟨gp, x, none⟩) (.inl rfl) _) fun g _ hr _ e => by
        have := hr.2
        have := O.out.hhp
        dsimp only at *
        omega).drew
      have b1 := ((O.out.op.mod (w' := wr.setCell ⟨gh, j, none⟩ (.int .i64 x)) ((Mod.refl (fun g => g = gh) _).setCell (p := ⟨gh, j, none⟩) (.inl rfl) _) fun g _ hr _ e => by
        have := hr.2
        have := O.out.hhp
        dsimp only at *
        omega).stored (j := x) (.int .i64 j)).drew
      rw [← ints_set, ← Px.out, set_nth (by have := Hlp.out; omega), Px.out] at b1
      have O3 := O.out.turned hm3 a2 b1 O.out.inv
      refine (up_any O3 (i := j) (m := j + 1) (by omega) (by omega) H.out.but).mono ?_
      rintro r w4 ⟨rfl, ⟨heap4, pos4, O4, H4, E4⟩, M4⟩
      have m4 := hm3.trans (M4.mono fun g _ hg => .inl hg)
      go_wp2_with fail
      go_roundw
      case rel =>
        refine ⟨j + 1, heap4, pos4, by omega, by go_num, hid O4, hid H4, hid fun k hk => ?_, hid (R.out.mod m4 fun g _ hg e => ?_), M.trans (m4.mono fun g _ hg => .inl (hg.imp (fun e => ⟨e, by omega⟩) id))⟩
        · rw [E4 k hk]; exact E.out k (by omega)
        · rcases e with e | e
          · exact hqh (hg.symm.trans e)
          · exact hqp (hg.symm.trans e)
      case measure => simp [intOf]; omega
    · have q1 : (n : Int) ≤ (j : Int) := by omega
      obtain rfl : j = n := by omega
      go_wp2_with fail
      go_end0
      exact ⟨rfl, ⟨heap', pos', O.out, H.out⟩, (hM2.out.mono fun g _ hg => hg.elim).trans (M.mono fun g _ hg => .inl hg)⟩
end
end Go.Proofs.Ytdkbchpogmiohaa
