/-
  The activity order: Bump, Decay.
-/
import Derived.Test.YtdkbchpogmiohaaHeapE
namespace Go.Proofs.Ytdkbchpogmiohaa
open Go.RowKit

/-- An order as plain data: activities (by variable; none at 0), increment. -/
structure Om where
  acts : List Int
  inc : Int
def Om.rescale (o : Om) : Om := ⟨o.acts.map low, one_or (low o.inc)⟩
def Om.bump (o : Om) (v : Nat) : Om :=
  if 1152921504606846976 < nth o.acts v + o.inc then Om.rescale ⟨o.acts.set v (nth o.acts v + o.inc), o.inc⟩ else ⟨o.acts.set v (nth o.acts v + o.inc), o.inc⟩
def Om.decay (o : Om) : Om :=
  if 1099511627776 < o.inc + (o.inc / 8 + 1) then Om.rescale ⟨o.acts, o.inc + (o.inc / 8 + 1)⟩ else ⟨o.acts, o.inc + (o.inc / 8 + 1)⟩
structure Om.WF (o : Om) (n : Nat) : Prop where
  len : o.acts.length = n + 1
  vars : n ≤ 65536
  inc1 : 1 ≤ o.inc
  inc2 : o.inc ≤ 1099511627776
  act : ∀ x, 0 ≤ nth o.acts x ∧ nth o.acts x ≤ 1152921504606846976
theorem nth_out {xs : List Int} {k : Nat} (h : xs.length ≤ k) : nth xs k = 0 := by simp [nth, h]
theorem nth_low (xs : List Int) (k : Nat) : nth (xs.map low) k = low (nth xs k) := by
  by_cases hk : k < xs.length
  · exact nth_map hk
  · rw [nth_out (by simp; omega), nth_out (by omega)]; rfl
theorem one_or_ge (x : Int) : 1 ≤ one_or x := by unfold one_or; split <;> omega
theorem one_or_le {x y : Int} (h1 : 1 ≤ y) (h2 : x ≤ y) : one_or x ≤ y := by unfold one_or; split <;> omega
theorem Om.WF.rescaled {o : Om} {n : Nat} (hl : o.acts.length = n + 1) (hv : n ≤ 65536) (hi : o.inc ≤ 1152921504606846976) (ha : ∀ x, 0 ≤ nth o.acts x ∧ nth o.acts x ≤ 1152922604118474752) : o.rescale.WF n where
  len := by simp [Om.rescale, hl]
  vars := hv
  inc1 := one_or_ge _
  inc2 := one_or_le (by omega) (by unfold low; omega)
  act := fun x => by
    have := ha x
    simp only [Om.rescale, nth_low, low]
    omega
theorem nth_set' (xs : List Int) (k i : Nat) (x : Int) : nth (xs.set k x) i = if k = i ∧ i < xs.length then x else nth xs i := by
  by_cases h : i < xs.length
  · rw [nth_set _ _ _ _ h]; simp [h]
  · rw [nth_out (by simp; omega), nth_out (by omega), if_neg (fun e => h e.2)]
theorem Om.WF.bump {o : Om} {n : Nat} (e : o.WF n) (v : Nat) : (o.bump v).WF n := by
  have h1 := e.inc1
  have h2 := e.inc2
  have h3 := e.len
  unfold Om.bump
  split
  · refine Om.WF.rescaled (by simpa using h3) e.vars (by dsimp only; omega) fun x => ?_
    dsimp only
    have := e.act x
    have := e.act v
    rw [nth_set']
    split <;> omega
  · refine ⟨by simpa using h3, e.vars, h1, h2, fun x => ?_⟩
    dsimp only
    have := e.act x
    have := e.act v
    rw [nth_set']
    split <;> omega
theorem Om.WF.decay {o : Om} {n : Nat} (e : o.WF n) : o.decay.WF n := by
  have h1 := e.inc1
  have h2 := e.inc2
  unfold Om.decay
  split
  · refine Om.WF.rescaled e.len e.vars (by dsimp only; omega) fun x => ?_
    have := e.act x
    dsimp only
    omega
  · exact ⟨e.len, e.vars, by dsimp only; omega, by dsimp only; omega, e.act⟩

/-- The order of n variables lies in memory at block b. -/
def Order (w : World) (F : Nat → Prop) (b n : Nat) (o : Om) : Prop := o.WF n ∧ ∃ ga gh gp np heap pos, OrdAt w F b ga gh gp n np o.acts o.inc heap pos ∧ HeapTo o.acts heap n
section
variable {w w' : World} {F G : Nat → Prop} {b n : Nat} {o : Om}
theorem Order.wf (e : Order w F b n o) : o.WF n := e.1
theorem Order.mod (e : Order w F b n o) (hm : Mod G w w') (hFG : ∀ g, g < w.heap.size → F g → ¬ G g) : Order w' F b n o := by
  obtain ⟨wf, ga, gh, gp, np, heap, pos, O, H⟩ := e
  exact ⟨wf, ga, gh, gp, np, heap, pos, O.mod hm hFG, H⟩
theorem Order.below (e : Order w F b n o) (hm : Below w.heap.size w w') : Order w' F b n o := by
  obtain ⟨wf, ga, gh, gp, np, heap, pos, O, H⟩ := e
  exact ⟨wf, ga, gh, gp, np, heap, pos, O.below hm, H⟩
theorem Order.mono (e : Order w F b n o) (hFG : ∀ g, g < w.heap.size → F g → G g) : Order w G b n o := by
  obtain ⟨wf, ga, gh, gp, np, heap, pos, O, H⟩ := e
  exact ⟨wf, ga, gh, gp, np, heap, pos, O.mono hFG, H⟩
theorem Order.restrict (e : Order w F b n o) : Order w (fun g => F g ∧ g < w.heap.size) b n o := e.mono fun _ hg hF => ⟨hF, hg⟩

theorem HeapTo.bumped {acts heap pos : List Int} {n i v : Nat} {x : Int} (e : HeapTo acts heap n) (I : Inv heap pos n) (hl : acts.length = n + 1) (hi : i < n) (hv : nth heap i = v) (hx : nth acts v ≤ x) : HeapBut (acts.set v x) heap n i := by
  have hat' : ∀ k, k < n → hat heap k < acts.length ∧ (k ≠ i → hat heap k ≠ v) := fun k hk => by
    obtain ⟨y, h1, h2, h3, h4⟩ := I.fw k hk
    obtain ⟨z, h5, h6, h7, h8⟩ := I.fw i hi
    have : hat heap k = y := by simp [hat, h1]
    rw [this]
    refine ⟨by omega, fun hne hyv => ?_⟩
    have : z = y := by omega
    subst this
    omega
  have hati : hat heap i = v := by simp [hat, hv]
  have key : ∀ k, k < n → k ≠ i → nth (acts.set v x) (hat heap k) = nth acts (hat heap k) := fun k hk hki => by
    rw [nth_set', if_neg]
    intro e
    exact (hat' k hk).2 hki e.1.symm
  have keyi : nth (acts.set v x) (hat heap i) = x := by rw [nth_set', if_pos ⟨hati.symm, (hat' i hi).1⟩]
  constructor
  · intro k hk hkn hki
    have h1 := e k hk hkn
    rw [ahead_no] at h1 ⊢
    rw [key k hkn hki]
    by_cases hp : (k - 1) / 2 = i
    · rw [hp, keyi]
      rw [hp, hati] at h1
      rw [hati]
      omega
    · rw [key _ (by omega) hp]
      exact h1
  · intro k hk hkn hp h0
    have h1 := e k hk hkn
    have h2 := e i h0 hi
    rw [hp] at h1
    have h3 := ahead_not h1 h2
    rw [ahead_no] at h3 ⊢
    rw [key k hkn (by omega), key _ (by omega) (by omega)]
    exact h3

theorem one_or_one {x : Int} (e : 1 ≤ x) : one_or x = x := by unfold one_or; split <;> omega

set_option maxRecDepth 100000 in
set_option maxHeartbeats 4000000 in
theorem bump_any (ho : Order w F b n o) {v : Nat} (h1v : 1 ≤ v) (hvn : v ≤ n) :
    Calls Try.prog 16 #[.pointer (some ⟨b, 0, none⟩), .int .i64 v] w fun r w' => r = .returned (.int .i64 0) ∧ Order w' F b n (o.bump v) ∧ Mod F w w' := by
  obtain ⟨wf, ga, gh, gp, np, heap, pos, O, H⟩ := ho
  have wfb := hid (wf.bump v)
  have hhas : hasv n v = true := by simp [hasv]; omega
  have hi1 := wf.inc1
  have hi2 := wf.inc2
  have qm : (0 : Int) < o.inc := by omega
  have ha := wf.act v
  have hlen := wf.len
  have hnp := O.hnp
  have c0 := O.c0
  have c1 := O.c1
  have c2 := O.c2
  have c3 := O.c3
  obtain ⟨_, he, fa, hga, e1, f1⟩ := O.oa.cell (j := v) (by omega)
  injection he with he; injection he with he _ _; subst he
  obtain ⟨i, hi, hpi, hhi⟩ := O.inv.bw v h1v hvn
  obtain ⟨_, he, fp, hgp, e2, f2⟩ := O.op.cell (j := v) (by omega)
  injection he with he; injection he with he _ _; subst he
  obtain ⟨_, he, fh, hgh, e3, f3⟩ := O.oh.cell (j := i) (by omega)
  injection he with he; injection he with he _ _; subst he
  rw [ints_nth (by omega)] at e1
  rw [ints_nth (by have := O.inv.pl; omega), hpi] at e2
  have hab := O.hab
  have hap := O.hap
  have hah := O.hah
  have q1 : (v : Int) < (np : Int) := by omega
  have r1 : (ga = b) = False := by simpa using hab
  have r2 : (b = ga) = False := by simpa using hab.symm
  have r3 : (ga = gp) = False := by simpa using hap
  have r4 : (gp = ga) = False := by simpa using hap.symm
  have HO := hid O
  have HH := hid H
  have Hwf := hid wf
  have Hhi := hid hhi
  have Hnp := hid hnp
  have Hlen := hid hlen
  obtain ⟨a, hea⟩ : ∃ a, nth o.acts v = a := ⟨_, rfl⟩
  rw [hea] at ha e1
  have Hea := hid hea
  have q2 : IntKind.i64.wrap (a + o.inc) = a + o.inc := iw (by omega) (by omega)
  clear O H wf hhi hnp hlen hab hap hah hpi hea e3 f3 f2
  go_enter Try.func16, Try.ntmps16
  go_wp2_with fail
  refine (made_any c1).mono ?_
  rintro r w' ⟨rfl, rfl⟩
  go_wp2_with fail
  refine (has_any c2).mono ?_
  rintro r w' ⟨rfl, rfl⟩
  go_wp2_with fail
  go_region
  go_wp2_with fail
  have O2 := (HO.out.acted v (a + o.inc)).drew
  have H2 := HH.out.bumped HO.out.inv Hlen.out hi Hhi.out (x := a + o.inc) (by rw [Hea.out]; omega)
  have M2 : Hid (Mod F w' (w'.setCell ⟨ga, v, none⟩ (.int .i64 (a + o.inc))).drew) := ((Mod.refl F w').setCell (p := ⟨ga, v, none⟩) (.inl fa) _).drew
  refine (up_any O2 (i := i) (m := n) hi (Nat.le_refl _) H2).mono ?_
  rintro r w4 ⟨rfl, ⟨heap4, pos4, O4, H4, _⟩, M4⟩
  have M5 : Hid (Mod F w' w4) := M2.out.trans (M4.mono fun g _ hg => .inl (by rcases hg with rfl | rfl <;> assumption))
  have d0 := O4.c0
  have HO4 := hid O4
  have HH4 := hid H4
  obtain ⟨_, he, _, _, e4, _⟩ := O4.oa.cell (j := v) (by omega)
  injection he with he; injection he with he _ _; subst he
  rw [ints_nth (by have := O4.al; omega), nth_set', if_pos ⟨rfl, by have := Hlen.out; omega⟩] at e4
  clear O2 H2 M2 M4 O4 H4 c0 c1 c2 c3 e1 e2 f1
  by_cases hbig : 1152921504606846976 < a + o.inc
  · have eb : o.bump v = Om.rescale ⟨o.acts.set v (a + o.inc), o.inc⟩ := by rw [Om.bump, Hea.out, if_pos hbig]
    rw [eb] at wfb
    go_wp2_with fail
    refine (rescale_any HO4.out).mono ?_
    rintro r w5 ⟨rfl, O5, M6⟩
    go_wp2_with fail
    refine (rebuild_any O5).mono ?_
    rintro r w6 ⟨rfl, ⟨heap6, pos6, O6, H6⟩, M7⟩
    go_wp2_with fail
    go_ret
    exact ⟨rfl, by rw [eb]; exact ⟨wfb.out, ga, gh, gp, np, heap6, pos6, O6, H6⟩, (M5.out.trans (M6.mono fun g _ hg => .inl (by rcases hg with rfl | rfl <;> first | assumption | exact HO.out.hb))).trans (M7.mono fun g _ hg => .inl (by rcases hg with ⟨rfl, _⟩ | rfl <;> assumption))⟩
  · have eb : o.bump v = ⟨o.acts.set v (a + o.inc), o.inc⟩ := by rw [Om.bump, Hea.out, if_neg hbig]
    rw [eb] at wfb
    have hle : a + o.inc ≤ 1152921504606846976 := by omega
    go_wp2_with fail
    go_ret
    exact ⟨rfl, by rw [eb]; exact ⟨wfb.out, ga, gh, gp, np, heap4, pos4, HO4.out, HH4.out⟩, M5.out⟩
theorem bump_bad (ho : Order w F b n o) {v : Int} (hv : hasv n v = false) :
    Calls Try.prog 16 #[.pointer (some ⟨b, 0, none⟩), .int .i64 v] w fun r w' => r = .returned (.int .i64 2) ∧ w' = w := by
  obtain ⟨wf, ga, gh, gp, np, heap, pos, O, H⟩ := ho
  have hi1 := wf.inc1
  have qm : (0 : Int) < o.inc := by omega
  have c1 := O.c1
  have c2 := O.c2
  clear O H wf
  go_enter Try.func16, Try.ntmps16
  go_wp2_with fail
  refine (made_any c1).mono ?_
  rintro r w' ⟨rfl, rfl⟩
  go_wp2_with fail
  refine (has_any c2).mono ?_
  rintro r w' ⟨rfl, rfl⟩
  go_wp2_with fail
  go_ret
  exact ⟨rfl, rfl⟩
theorem bump_none {p : Value} (hm : Calls Try.prog 29 #[p] w fun r w' => r = .returned (.bool false) ∧ w' = w) (v : Int) :
    Calls Try.prog 16 #[p, .int .i64 v] w fun r w' => r = .returned (.int .i64 1) ∧ w' = w := by
  go_enter Try.func16, Try.ntmps16
  go_wp2_with fail
  refine hm.mono ?_
  rintro r w' ⟨rfl, rfl⟩
  go_wp2_with fail
  go_ret
  exact ⟨rfl, rfl⟩
theorem decay_none {p : Value} (hm : Calls Try.prog 29 #[p] w fun r w' => r = .returned (.bool false) ∧ w' = w) :
    Calls Try.prog 17 #[p] w fun r w' => r = .returned (.int .i64 1) ∧ w' = w := by
  go_enter Try.func17, Try.ntmps17
  go_wp2_with fail
  refine hm.mono ?_
  rintro r w' ⟨rfl, rfl⟩
  go_wp2_with fail
  go_ret
  exact ⟨rfl, rfl⟩
set_option maxRecDepth 100000 in
set_option maxHeartbeats 4000000 in
theorem decay_any (ho : Order w F b n o) :
    Calls Try.prog 17 #[.pointer (some ⟨b, 0, none⟩)] w fun r w' => r = .returned (.int .i64 0) ∧ Order w' F b n o.decay ∧ Mod F w w' := by
  obtain ⟨wf, ga, gh, gp, np, heap, pos, O, H⟩ := ho
  have wfb := hid wf.decay
  have hi1 := wf.inc1
  have hi2 := wf.inc2
  have qm : (0 : Int) < o.inc := by omega
  have c1 := O.c1
  have f1 := O.f1
  have fb := O.hb
  have fgh : 0 < n → F gh := fun e => (O.oh.row (show row (.slice (some ⟨gh, 0, none⟩) n n) gh from ⟨e, rfl⟩)).1
  have fga : F ga := (O.oa.row (show row (.slice (some ⟨ga, 0, none⟩) np np) ga from ⟨by have := O.hnp; omega, rfl⟩)).1
  have fgp : F gp := (O.op.row (show row (.slice (some ⟨gp, 0, none⟩) np np) gp from ⟨by have := O.hnp; omega, rfl⟩)).1
  have HO := hid O
  have HH := hid H
  obtain ⟨d, hd⟩ : ∃ d, o.inc + (o.inc / 8 + 1) = d := ⟨_, rfl⟩
  have q1 : o.inc.tdiv 8 = o.inc / 8 := Int.tdiv_eq_ediv_of_nonneg (by omega)
  have q2 : IntKind.i64.wrap (o.inc / 8) = o.inc / 8 := iw (by omega) (by omega)
  have q3 : IntKind.i64.wrap (o.inc / 8 + 1) = o.inc / 8 + 1 := iw (by omega) (by omega)
  have q4 : IntKind.i64.wrap d = d := iw (by omega) (by omega)
  clear O H wf
  go_enter Try.func17, Try.ntmps17
  go_wp2_with fail
  refine (made_any c1).mono ?_
  rintro r w' ⟨rfl, rfl⟩
  go_wp2_with fail
  go_region
  have HO2 : Hid (OrdAt (w'.setCell ⟨b, 1, none⟩ (.int .i64 d)).drew F b ga gh gp n np o.acts d heap pos) := (HO.out.inced d).drew
  have M2 : Hid (Mod F w' (w'.setCell ⟨b, 1, none⟩ (.int .i64 d)).drew) := ((Mod.refl F w').setCell (p := ⟨b, 1, none⟩) (.inl fb) _).drew
  by_cases hbig : 1099511627776 < d
  · have eb : o.decay = Om.rescale ⟨o.acts, d⟩ := by rw [Om.decay, hd, if_pos hbig]
    rw [eb] at wfb
    go_wp2_with fail
    refine (rescale_any HO2.out).mono ?_
    rintro r w5 ⟨rfl, O5, M6⟩
    go_wp2_with fail
    refine (rebuild_any O5).mono ?_
    rintro r w6 ⟨rfl, ⟨heap6, pos6, O6, H6⟩, M7⟩
    go_wp2_with fail
    go_ret
    exact ⟨rfl, by rw [eb]; exact ⟨wfb.out, ga, gh, gp, np, heap6, pos6, O6, H6⟩, (M2.out.trans (M6.mono fun g _ hg => .inl (by rcases hg with rfl | rfl <;> assumption))).trans (M7.mono fun g _ hg => .inl (by rcases hg with ⟨rfl, e⟩ | rfl <;> first | exact fgh e | assumption))⟩
  · have eb : o.decay = ⟨o.acts, d⟩ := by rw [Om.decay, hd, if_neg hbig]
    rw [eb] at wfb
    have hle : d ≤ 1099511627776 := by omega
    go_wp2_with fail
    go_ret
    exact ⟨rfl, ⟨wfb.out, ga, gh, gp, np, heap, pos, HO2.out, HH.out⟩, M2.out⟩
end
end Go.Proofs.Ytdkbchpogmiohaa
