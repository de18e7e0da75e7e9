/-
  Chapter 32: several texts in one (HeapF HeapG HeapH HeapI).
-/
import Derived.Test.YtcjmpobccbnpkaaGreatMjae
import Derived.Deep.OwnRows
namespace Go.Proofs.YtcjmpobccbnpkaaGreat
set_option maxRecDepth 100000
set_option maxHeartbeats 4000000
section
open Go.RowKit
structure Om where
  acts : List Int
  inc : Int
def Om.rescale (o : Om) : Om := ⟨o.acts.map low, one_or (low o.inc)⟩
def Om.bump (o : Om) (v : Nat) : Om :=
  if 1152921504606846976 < nth o.acts v + o.inc then Om.rescale ⟨o.acts.set v (nth o.acts v + o.inc), o.inc⟩ else ⟨o.acts.set v (nth o.acts v + o.inc), o.inc⟩
def Om.decay (o : Om) : Om :=
  if 1099511627776 < o.inc + (o.inc / 8 + 1) then Om.rescale ⟨o.acts, o.inc + (o.inc / 8 + 1)⟩ else ⟨o.acts, o.inc + (o.inc / 8 + 1)⟩
structure Om.WF (o : Om) (n : Nat) : Prop where
  len : o.acts.length = n + 1
  vars : n ≤ 65536
  inc1 : 1 ≤ o.inc
  inc2 : o.inc ≤ 1099511627776
  act : ∀ x, 0 ≤ nth o.acts x ∧ nth o.acts x ≤ 1152921504606846976
theorem hnth_out {xs : List Int} {k : Nat} (h : xs.length ≤ k) : nth xs k = 0 := by simp [nth, h]
theorem nth_low (xs : List Int) (k : Nat) : nth (xs.map low) k = low (nth xs k) := by
  by_cases hk : k < xs.length
  · exact hnth_map hk
  · rw [hnth_out (by simp; omega), hnth_out (by omega)]; rfl
theorem one_or_ge (x : Int) : 1 ≤ one_or x := by unfold one_or; split <;> omega
theorem one_or_le {x y : Int} (h1 : 1 ≤ y) (h2 : x ≤ y) : one_or x ≤ y := by unfold one_or; split <;> omega
theorem Om.WF.rescaled {o : Om} {n : Nat} (hl : o.acts.length = n + 1) (hv : n ≤ 65536) (hi : o.inc ≤ 1152921504606846976) (ha : ∀ x, 0 ≤ nth o.acts x ∧ nth o.acts x ≤ 1152922604118474752) : o.rescale.WF n where
  len := by simp [Om.rescale, hl]
  vars := hv
  inc1 := one_or_ge _
  inc2 := one_or_le (by omega) (by unfold low; omega)
  act := fun x => by
    have := ha x
    simp only [Om.rescale, nth_low, low]
    omega
theorem nth_set' (xs : List Int) (k i : Nat) (x : Int) : nth (xs.set k x) i = if k = i ∧ i < xs.length then x else nth xs i := by
  by_cases h : i < xs.length
  · rw [nth_set _ _ _ _ h]; simp [h]
  · rw [hnth_out (by simp; omega), hnth_out (by omega), if_neg (fun e => h e.2)]
theorem Om.WF.bump {o : Om} {n : Nat} (e : o.WF n) (v : Nat) : (o.bump v).WF n := by
  have h1 := e.inc1
  have h2 := e.inc2
  have h3 := e.len
  unfold Om.bump
  split
  · refine Om.WF.rescaled (by simpa using h3) e.vars (by dsimp only; omega) fun x => ?_
    dsimp only
    have := e.act x
    have := e.act v
    rw [nth_set']
    split <;> omega
  · refine ⟨by simpa using h3, e.vars, h1, h2, fun x => ?_⟩
    dsimp only
    have := e.act x
    have := e.act v
    rw [nth_set']
    split <;> omega
theorem Om.WF.decay {o : Om} {n : Nat} (e : o.WF n) : o.decay.WF n := by
  have h1 := e.inc1
  have h2 := e.inc2
  unfold Om.decay
  split
  · refine Om.WF.rescaled e.len e.vars (by dsimp only; omega) fun x => ?_
    have := e.act x
    dsimp only
    omega
  · exact ⟨e.len, e.vars, by dsimp only; omega, by dsimp only; omega, e.act⟩
def Order (w : World) (F : Nat → Prop) (b n : Nat) (o : Om) : Prop := o.WF n ∧ ∃ ga gh gp np heap pos, OrdAt w F b ga gh gp n np o.acts o.inc heap pos ∧ HeapTo o.acts heap n
section
variable {w w' : World} {F G : Nat → Prop} {b n : Nat} {o : Om}
theorem Order.mod (e : Order w F b n o) (hm : Mod G w w') (hFG : ∀ g, g < w.heap.size → F g → ¬ G g) : Order w' F b n o := by
  obtain ⟨wf, ga, gh, gp, np, heap, pos, O, H⟩ := e
  exact ⟨wf, ga, gh, gp, np, heap, pos, O.mod hm hFG, H⟩
theorem Order.below (e : Order w F b n o) (hm : Below w.heap.size w w') : Order w' F b n o := by
  obtain ⟨wf, ga, gh, gp, np, heap, pos, O, H⟩ := e
  exact ⟨wf, ga, gh, gp, np, heap, pos, O.below hm, H⟩
theorem Order.mono (e : Order w F b n o) (hFG : ∀ g, g < w.heap.size → F g → G g) : Order w G b n o := by
  obtain ⟨wf, ga, gh, gp, np, heap, pos, O, H⟩ := e
  exact ⟨wf, ga, gh, gp, np, heap, pos, O.mono hFG, H⟩
theorem Order.restrict (e : Order w F b n o) : Order w (fun g => F g ∧ g < w.heap.size) b n o := e.mono fun _ hg hF => ⟨hF, hg⟩
theorem HeapTo.bumped {acts heap pos : List Int} {n i v : Nat} {x : Int} (e : HeapTo acts heap n) (I : hInv heap pos n) (hl : acts.length = n + 1) (hi : i < n) (hv : nth heap i = v) (hx : nth acts v ≤ x) : HeapBut (acts.set v x) heap n i := by
  have hat' : ∀ k, k < n → hat heap k < acts.length ∧ (k ≠ i → hat heap k ≠ v) := fun k hk => by
    obtain ⟨y, h1, h2, h3, h4⟩ := I.fw k hk
    obtain ⟨z, h5, h6, h7, h8⟩ := I.fw i hi
    have : hat heap k = y := by simp [hat, h1]
    rw [this]
    refine ⟨by omega, fun hne hyv => ?_⟩
    have : z = y := by omega
    subst this
    omega
  have hati : hat heap i = v := by simp [hat, hv]
  have key : ∀ k, k < n → k ≠ i → nth (acts.set v x) (hat heap k) = nth acts (hat heap k) := fun k hk hki => by
    rw [nth_set', if_neg]
    intro e
    exact (hat' k hk).2 hki e.1.symm
  have keyi : nth (acts.set v x) (hat heap i) = x := by rw [nth_set', if_pos ⟨hati.symm, (hat' i hi).1⟩]
  constructor
  · intro k hk hkn hki
    have h1 := e k hk hkn
    rw [ahead_no] at h1 ⊢
    rw [key k hkn hki]
    by_cases hp : (k - 1) / 2 = i
    · rw [hp, keyi]
      rw [hp, hati] at h1
      rw [hati]
      omega
    · rw [key _ (by omega) hp]
      exact h1
  · intro k hk hkn hp h0
    have h1 := e k hk hkn
    have h2 := e i h0 hi
    rw [hp] at h1
    have h3 := ahead_not h1 h2
    rw [ahead_no] at h3 ⊢
    rw [key k hkn (by omega), key _ (by omega) (by omega)]
    exact h3
theorem bump_any (ho : Order w F b n o) {v : Nat} (h1v : 1 ≤ v) (hvn : v ≤ n) :
    Calls Tryz.prog 96 #[.pointer (some ⟨b, 0, none⟩), .int .i64 v] w fun r w' => r = .returned (.int .i64 0) ∧ Order w' F b n (o.bump v) ∧ Mod F w w' := by
  obtain ⟨wf, ga, gh, gp, np, heap, pos, O, H⟩ := ho
  have wfb := hid (wf.bump v)
  have hhas : hasv n v = true := by simp [hasv]; omega
  have hi1 := wf.inc1
  have hi2 := wf.inc2
  have qm : (0 : Int) < o.inc := by omega
  have ha := wf.act v
  have hlen := wf.len
  have hnp := O.hnp
  have c0 := O.c0
  have c1 := O.c1
  have c2 := O.c2
  have c3 := O.c3
  obtain ⟨_, he, fa, hga, e1, f1⟩ := O.oa.cell (j := v) (by omega)
  injection he with he; injection he with he _ _; subst he
  obtain ⟨i, hi, hpi, hhi⟩ := O.inv.bw v h1v hvn
  obtain ⟨_, he, fp, hgp, e2, f2⟩ := O.op.cell (j := v) (by omega)
  injection he with he; injection he with he _ _; subst he
  obtain ⟨_, he, fh, hgh, e3, f3⟩ := O.oh.cell (j := i) (by omega)
  injection he with he; injection he with he _ _; subst he
  rw [ints_nth (by omega)] at e1
  rw [ints_nth (by have := O.inv.pl; omega), hpi] at e2
  have hab := O.hab
  have hap := O.hap
  have hah := O.hah
  have q1 : (v : Int) < (np : Int) := by omega
  have r1 : (ga = b) = False := by simpa using hab
  have r2 : (b = ga) = False := by simpa using hab.symm
  have r3 : (ga = gp) = False := by simpa using hap
  have r4 : (gp = ga) = False := by simpa using hap.symm
  have HO := hid O
  have HH := hid H
  have Hwf := hid wf
  have Hhi := hid hhi
  have Hnp := hid hnp
  have Hlen := hid hlen
  obtain ⟨a, hea⟩ : ∃ a, nth o.acts v = a := ⟨_, rfl⟩
  rw [hea] at ha e1
  have Hea := hid hea
  have q2 : IntKind.i64.wrap (a + o.inc) = a + o.inc := iw (by omega) (by omega)
  clear O H wf hhi hnp hlen hab hap hah hpi hea e3 f3 f2
  go_enter Tryz.func96, Tryz.ntmps96
  go_wp2_with fail
  refine (made_any c1).mono ?_
  rintro r w' ⟨rfl, rfl⟩
  go_wp2_with fail
  refine (has_any c2).mono ?_
  rintro r w' ⟨rfl, rfl⟩
  go_wp2_with fail
  go_region
  go_wp2_with fail
  have O2 := (HO.o.acted v (a + o.inc)).drew
  have H2 := HH.o.bumped HO.o.inv Hlen.o hi Hhi.o (x := a + o.inc) (by rw [Hea.o]; omega)
  have M2 : Hid (Mod F w' (w'.setCell ⟨ga, v, none⟩ (.int .i64 (a + o.inc))).drew) := ((Mod.refl F w').setCell (p := ⟨ga, v, none⟩) (.inl fa) _).drew
  refine (up_any O2 (i := i) (m := n) hi (Nat.le_refl _) H2).mono ?_
  rintro r w4 ⟨rfl, ⟨heap4, pos4, O4, H4, _⟩, M4⟩
  have M5 : Hid (Mod F w' w4) := M2.o.trans (M4.mono fun g _ hg => .inl (by rcases hg with rfl | rfl <;> assumption))
  have d0 := O4.c0
  have HO4 := hid O4
  have HH4 := hid H4
  obtain ⟨_, he, _, _, e4, _⟩ := O4.oa.cell (j := v) (by omega)
  injection he with he; injection he with he _ _; subst he
  rw [ints_nth (by have := O4.al; omega), nth_set', if_pos ⟨rfl, by have := Hlen.o; omega⟩] at e4
  clear O2 H2 M2 M4 O4 H4 c0 c1 c2 c3 e1 e2 f1
  by_cases hbig : 1152921504606846976 < a + o.inc
  · have eb : o.bump v = Om.rescale ⟨o.acts.set v (a + o.inc), o.inc⟩ := by rw [Om.bump, Hea.o, if_pos hbig]
    rw [eb] at wfb
    go_wp2_with fail
    refine (rescale_any HO4.o).mono ?_
    rintro r w5 ⟨rfl, O5, M6⟩
    go_wp2_with fail
    refine (rebuild_any O5).mono ?_
    rintro r w6 ⟨rfl, ⟨heap6, pos6, O6, H6⟩, M7⟩
    go_wp2_with fail
    go_ret
    exact ⟨rfl, by rw [eb]; exact ⟨wfb.o, ga, gh, gp, np, heap6, pos6, O6, H6⟩, (M5.o.trans (M6.mono fun g _ hg => .inl (by rcases hg with rfl | rfl <;> first | assumption | exact HO.o.hb))).trans (M7.mono fun g _ hg => .inl (by rcases hg with ⟨rfl, _⟩ | rfl <;> assumption))⟩
  · have eb : o.bump v = ⟨o.acts.set v (a + o.inc), o.inc⟩ := by rw [Om.bump, Hea.o, if_neg hbig]
    rw [eb] at wfb
    have hle : a + o.inc ≤ 1152921504606846976 := by omega
    go_wp2_with fail
    go_ret
    exact ⟨rfl, by rw [eb]; exact ⟨wfb.o, ga, gh, gp, np, heap4, pos4, HO4.o, HH4.o⟩, M5.o⟩
theorem decay_any (ho : Order w F b n o) :
    Calls Tryz.prog 97 #[.pointer (some ⟨b, 0, none⟩)] w fun r w' => r = .returned (.int .i64 0) ∧ Order w' F b n o.decay ∧ Mod F w w' := by
  obtain ⟨wf, ga, gh, gp, np, heap, pos, O, H⟩ := ho
  have wfb := hid wf.decay
  have hi1 := wf.inc1
  have hi2 := wf.inc2
  have qm : (0 : Int) < o.inc := by omega
  have c1 := O.c1
  have f1 := O.f1
  have fb := O.hb
  have fgh : 0 < n → F gh := fun e => (O.oh.row (show row (.slice (some ⟨gh, 0, none⟩) n n) gh from ⟨e, rfl⟩)).1
  have fga : F ga := (O.oa.row (show row (.slice (some ⟨ga, 0, none⟩) np np) ga from ⟨by have := O.hnp; omega, rfl⟩)).1
  have fgp : F gp := (O.op.row (show row (.slice (some ⟨gp, 0, none⟩) np np) gp from ⟨by have := O.hnp; omega, rfl⟩)).1
  have HO := hid O
  have HH := hid H
  obtain ⟨d, hd⟩ : ∃ d, o.inc + (o.inc / 8 + 1) = d := ⟨_, rfl⟩
  have q1 : o.inc.tdiv 8 = o.inc / 8 := Int.tdiv_eq_ediv_of_nonneg (by omega)
  have q2 : IntKind.i64.wrap (o.inc / 8) = o.inc / 8 := iw (by omega) (by omega)
  have q3 : IntKind.i64.wrap (o.inc / 8 + 1) = o.inc / 8 + 1 := iw (by omega) (by omega)
  have q4 : IntKind.i64.wrap d = d := iw (by omega) (by omega)
  clear O H wf
  go_enter Tryz.func97, Tryz.ntmps97
  go_wp2_with fail
  refine (made_any c1).mono ?_
  rintro r w' ⟨rfl, rfl⟩
  go_wp2_with fail
  go_region
  have HO2 : Hid (OrdAt (w'.setCell ⟨b, 1, none⟩ (.int .i64 d)).drew F b ga gh gp n np o.acts d heap pos) := (HO.o.inced d).drew
  have M2 : Hid (Mod F w' (w'.setCell ⟨b, 1, none⟩ (.int .i64 d)).drew) := ((Mod.refl F w').setCell (p := ⟨b, 1, none⟩) (.inl fb) _).drew
  by_cases hbig : 1099511627776 < d
  · have eb : o.decay = Om.rescale ⟨o.acts, d⟩ := by rw [Om.decay, hd, if_pos hbig]
    rw [eb] at wfb
    go_wp2_with fail
    refine (rescale_any HO2.o).mono ?_
    rintro r w5 ⟨rfl, O5, M6⟩
    go_wp2_with fail
    refine (rebuild_any O5).mono ?_
    rintro r w6 ⟨rfl, ⟨heap6, pos6, O6, H6⟩, M7⟩
    go_wp2_with fail
    go_ret
    exact ⟨rfl, by rw [eb]; exact ⟨wfb.o, ga, gh, gp, np, heap6, pos6, O6, H6⟩, (M2.o.trans (M6.mono fun g _ hg => .inl (by rcases hg with rfl | rfl <;> assumption))).trans (M7.mono fun g _ hg => .inl (by rcases hg with ⟨rfl, e⟩ | rfl <;> first | exact fgh e | assumption))⟩
  · have eb : o.decay = ⟨o.acts, d⟩ := by rw [Om.decay, hd, if_neg hbig]
    rw [eb] at wfb
    have hle : d ≤ 1099511627776 := by omega
    go_wp2_with fail
    go_ret
    exact ⟨rfl, ⟨wfb.o, ga, gh, gp, np, heap, pos, HO2.o, HH.o⟩, M2.o⟩
end
end
section
open Go.RowKit
def Om.new (n : Nat) : Om := ⟨List.replicate (n + 1) 0, 1⟩
theorem hown_made (w : World) (n : Nat) (hn : n ≤ 65537) : Own (w.alloc (.cells (madeCells #[.int .i64 0] n) 3)) (fun g => g = w.heap.size) 3 1 (.slice (some ⟨w.heap.size, 0, none⟩) n n) n (ints (List.replicate n 0)) := by
  have e : ints (List.replicate n 0) = List.replicate n (.int .i64 0) := by simp [ints]
  rw [e]
  rcases Nat.eq_zero_or_pos n with h0 | h0
  · subst h0
    exact Own.none_ _ _ _ _ _
  · exact own_new w _ 3 1 n _ n _ (by simp) h0 (Nat.le_refl _) (by unfold maxLen; omega) (by simp [size_madeCells]) (by rw [toList_madeCells_one, Nat.mul_one, List.take_replicate, Nat.min_self]) rfl
theorem raw3 (w : World) {n1 n2 n3 : Nat} (h1 : n1 ≤ 65537) (h2 : n2 ≤ 65537) (h3 : n3 ≤ 65537) (cs : Array Value) (t : TypeId) {W : World}
    (hW : W = ((((w.alloc (.cells (madeCells #[.int .i64 0] n1) 3)).alloc (.cells (madeCells #[.int .i64 0] n2) 3)).alloc (.cells (madeCells #[.int .i64 0] n3) 3)).alloc (.cells cs t)).drew) :
    Own W (fun g => w.heap.size ≤ g) 3 1 (.slice (some ⟨w.heap.size, 0, none⟩) n1 n1) n1 (ints (List.replicate n1 0)) ∧
    Own W (fun g => w.heap.size ≤ g) 3 1 (.slice (some ⟨w.heap.size + 1, 0, none⟩) n2 n2) n2 (ints (List.replicate n2 0)) ∧
    Own W (fun g => w.heap.size ≤ g) 3 1 (.slice (some ⟨w.heap.size + 1 + 1, 0, none⟩) n3 n3) n3 (ints (List.replicate n3 0)) ∧
    W.heap[w.heap.size + 1 + 1 + 1]? = some (.cells cs t (0, 0)) ∧ Below w.heap.size w W := by
  subst hW
  have o1 := hown_made w n1 h1
  have o2 := hown_made (w.alloc (.cells (madeCells #[.int .i64 0] n1) 3)) n2 h2
  have o3 := hown_made ((w.alloc (.cells (madeCells #[.int .i64 0] n1) 3)).alloc (.cells (madeCells #[.int .i64 0] n2) 3)) n3 h3
  have e1 : (w.alloc (.cells (madeCells #[.int .i64 0] n1) 3)).heap.size = w.heap.size + 1 := by simp
  have e2 : ((w.alloc (.cells (madeCells #[.int .i64 0] n1) 3)).alloc (.cells (madeCells #[.int .i64 0] n2) 3)).heap.size = w.heap.size + 1 + 1 := by simp
  rw [e1] at o2
  rw [e2] at o3
  refine ⟨?_, ?_, ?_, ?_, ?_⟩
  · refine Own.mono (F := fun g => g = w.heap.size) ?_ fun g _ _ hg => by omega
    exact (((o1.below ((Below.refl _ _).alloc (Nat.le_refl _) _)).below ((Below.refl _ _).alloc (Nat.le_refl _) _)).below ((Below.refl _ _).alloc (Nat.le_refl _) _)).drew
  · refine Own.mono (F := fun g => g = w.heap.size + 1) ?_ fun g _ _ hg => by omega
    exact ((o2.below ((Below.refl _ _).alloc (Nat.le_refl _) _)).below ((Below.refl _ _).alloc (Nat.le_refl _) _)).drew
  · refine Own.mono (F := fun g => g = w.heap.size + 1 + 1) ?_ fun g _ _ hg => by omega
    exact (o3.below ((Below.refl _ _).alloc (Nat.le_refl _) _)).drew
  · have := heap_alloc_new (((w.alloc (.cells (madeCells #[.int .i64 0] n1) 3)).alloc (.cells (madeCells #[.int .i64 0] n2) 3)).alloc (.cells (madeCells #[.int .i64 0] n3) 3)) (.cells cs t)
    have e3 : (((w.alloc (.cells (madeCells #[.int .i64 0] n1) 3)).alloc (.cells (madeCells #[.int .i64 0] n2) 3)).alloc (.cells (madeCells #[.int .i64 0] n3) 3)).heap.size = w.heap.size + 1 + 1 + 1 := by simp
    rw [e3] at this
    exact this
  · exact (((((Below.refl _ _).alloc (Nat.le_refl _) _).alloc (by rw [e1]; omega) _).alloc (by rw [e2]; omega) _).alloc (by simp; omega) _).drew
structure Raw (W : World) (B b n np j : Nat) : Prop where
  ex : ∃ (ga gh gp : Nat) (hs ps : List Int), ga ≠ b ∧ gh ≠ b ∧ gp ≠ b ∧ ga ≠ gh ∧ ga ≠ gp ∧ gh ≠ gp ∧
    W.heap[b]? = some (.cells #[.slice (some ⟨ga, 0, none⟩) np np, .int .i64 1, .slice (some ⟨gh, 0, none⟩) n n, .slice (some ⟨gp, 0, none⟩) np np] 131 (0, 0)) ∧
    Own W (fun g => B ≤ g) 3 1 (.slice (some ⟨ga, 0, none⟩) np np) np (ints (List.replicate np 0)) ∧
    Own W (fun g => B ≤ g) 3 1 (.slice (some ⟨gh, 0, none⟩) n n) n (ints hs) ∧
    Own W (fun g => B ≤ g) 3 1 (.slice (some ⟨gp, 0, none⟩) np np) np (ints ps) ∧
    (∀ k, k < j → nth hs k = ((k + 1 : Nat) : Int)) ∧ (∀ k, k < j → nth ps (k + 1) = (k : Int))
theorem raw_step {W : World} {B b n np j ga gh gp : Nat} {hs ps : List Int} (_hB : B ≤ b) (hnp : np = n + 1) (hj : j < n) (d1 : ga ≠ b) (d2 : gh ≠ b) (d3 : gp ≠ b) (d4 : ga ≠ gh) (d5 : ga ≠ gp) (d6 : gh ≠ gp)
    (hblk : W.heap[b]? = some (.cells #[.slice (some ⟨ga, 0, none⟩) np np, .int .i64 1, .slice (some ⟨gh, 0, none⟩) n n, .slice (some ⟨gp, 0, none⟩) np np] 131 (0, 0)))
    (oa : Own W (fun g => B ≤ g) 3 1 (.slice (some ⟨ga, 0, none⟩) np np) np (ints (List.replicate np 0)))
    (oh : Own W (fun g => B ≤ g) 3 1 (.slice (some ⟨gh, 0, none⟩) n n) n (ints hs))
    (op : Own W (fun g => B ≤ g) 3 1 (.slice (some ⟨gp, 0, none⟩) np np) np (ints ps))
    (h1 : ∀ k, k < j → nth hs k = ((k + 1 : Nat) : Int)) (h2 : ∀ k, k < j → nth ps (k + 1) = (k : Int)) (gB : B ≤ gh) (gB' : B ≤ gp) :
    Raw ((W.setCell ⟨gh, j, none⟩ (.int .i64 ((j : Int) + 1))).setCell ⟨gp, j + 1, none⟩ (.int .i64 (j : Int))).drew B b n np (j + 1) ∧
    Mod (fun g => B ≤ g) W ((W.setCell ⟨gh, j, none⟩ (.int .i64 ((j : Int) + 1))).setCell ⟨gp, j + 1, none⟩ (.int .i64 (j : Int))).drew := by
  have lh : hs.length = n := by have := oh.1; simpa [ints_length] using this
  have lp : ps.length = np := by have := op.1; simpa [ints_length] using this
  have m1 : Mod (fun g => g = gh) W (W.setCell ⟨gh, j, none⟩ (.int .i64 ((j : Int) + 1))) := (Mod.refl (fun g => g = gh) W).setCell (p := ⟨gh, j, none⟩) (.inl rfl) _
  have m2 : Mod (fun g => g = gp) (W.setCell ⟨gh, j, none⟩ (.int .i64 ((j : Int) + 1))) ((W.setCell ⟨gh, j, none⟩ (.int .i64 ((j : Int) + 1))).setCell ⟨gp, j + 1, none⟩ (.int .i64 (j : Int))) := (Mod.refl (fun g => g = gp) _).setCell (p := ⟨gp, j + 1, none⟩) (.inl rfl) _
  have m3 : Mod (fun g => g = gh ∨ g = gp) W ((W.setCell ⟨gh, j, none⟩ (.int .i64 ((j : Int) + 1))).setCell ⟨gp, j + 1, none⟩ (.int .i64 (j : Int))).drew := ((m1.mono fun g _ hg => .inl hg).trans (m2.mono fun g _ hg => .inl (.inr hg))).drew
  refine ⟨⟨ga, gh, gp, hs.set j ((j : Int) + 1), ps.set (j + 1) j, d1, d2, d3, d4, d5, d6, ?_, ?_, ?_, ?_, fun k hk => ?_, fun k hk => ?_⟩, m3.mono fun g _ hg => by omega⟩
  · exact (m3.block b (lt_of_block hblk) (by omega)).trans hblk
  · refine oa.mod m3 fun g _ hr _ e => ?_
    have := hr.2
    dsimp only at this
    omega
  · rw [ints_set]
    refine (Own.mod (oh.stored _) m2 fun g _ hr _ e => ?_).drew
    have := hr.2
    dsimp only at this
    omega
  · rw [ints_set]
    refine ((Own.mod op m1 fun g _ hr _ e => ?_).stored _).drew
    have := hr.2
    dsimp only at this
    omega
  · rw [nth_set _ _ _ _ (by omega)]
    by_cases e : j = k
    · subst e; simp
    · rw [if_neg e]; exact h1 k (by omega)
  · rw [nth_set _ _ _ _ (by omega)]
    by_cases e : j = k
    · subst e; simp
    · rw [if_neg (by omega)]; exact h2 k (by omega)
theorem Raw.order {W : World} {B b n np : Nat} (hB : B ≤ b) (hnp : np = n + 1) (hn : n ≤ 65536) (e : Raw W B b n np n) : Order W (fun g => B ≤ g) b n (Om.new n) := by
  obtain ⟨ga, gh, gp, hs, ps, d1, d2, d3, d4, d5, d6, hblk, oa, oh, op, h1, h2⟩ := e.ex
  have lh : hs.length = n := by have := oh.1; simpa [ints_length] using this
  have lp : ps.length = np := by have := op.1; simpa [ints_length] using this
  have z : ∀ k, nth (List.replicate (n + 1) (0 : Int)) k = 0 := fun k => by
    unfold nth
    rw [List.getElem?_replicate]
    split <;> rfl
  refine ⟨⟨by simp [Om.new], hn, by simp [Om.new], by simp [Om.new], fun x => ?_⟩, ga, gh, gp, np, hs, ps, ⟨hB, hnp, hblk, by rw [hnp] at oa ⊢; exact oa, oh, op, d1, d2, d3, d4, d5, d6, ⟨lh, by omega, fun j hj => ⟨j + 1, h1 j hj, by omega, by omega, by rw [h2 j hj]⟩, fun x x1 xn => ⟨x - 1, by omega, ?_, ?_⟩⟩, hn⟩, fun k hk hkn => ?_⟩
  · show 0 ≤ nth (List.replicate (n + 1) (0 : Int)) x ∧ _
    rw [show nth (Om.new n).acts x = 0 from z x, z x]
    omega
  · have := h2 (x - 1) (by omega)
    rwa [show x - 1 + 1 = x by omega] at this
  · have := h1 (x - 1) (by omega)
    rw [this]
    congr 1
    omega
  · rw [ahead_no]
    rw [show nth (Om.new n).acts _ = 0 from z _, show nth (Om.new n).acts _ = 0 from z _]
    simp only [hat, h1 k hkn, h1 ((k - 1) / 2) (by omega), Int.toNat_natCast]
    omega
theorem onew_any {w : World} {n : Nat} (hn : n ≤ 65536) :
    Calls Tryz.prog 48 #[.int .i64 n] w fun r w' => ∃ b, r = .returned (.tuple #[.pointer (some ⟨b, 0, none⟩), .int .i64 0]) ∧ Order w' (fun g => w.heap.size ≤ g) b n (Om.new n) ∧ Below w.heap.size w w' := by
  obtain ⟨np, hnp⟩ : ∃ np, n + 1 = np := ⟨_, rfl⟩
  have q1 : (n : Int) + 1 = (np : Int) := by omega
  have q2 : IntKind.i64.wrap (np : Int) = (np : Int) := iw (by omega) (by omega)
  have q3 : (n : Int) ≤ 65536 := by omega
  have mk1 := run_make_row' (P := Tryz.prog) 23 3 (.int .i64 0) 8 Tryz.underlying23 info_int rfl .i64 .i64 n (by omega) (by omega)
  have mk2 := run_make_row' (P := Tryz.prog) 23 3 (.int .i64 0) 8 Tryz.underlying23 info_int rfl .i64 .i64 np (by omega) (by omega)
  have Hnp := hid hnp
  clear hnp
  go_enter Tryz.func48, Tryz.ntmps48
  go_wp2_with fail
  go_region
  all_goals go_wp2_with fail
  all_goals
    go_loopw [24, 5] (fun iv _ W => ∃ (j : Nat), j ≤ n ∧ iv = .int .i64 j ∧ Hid (Raw W w.heap.size (w.heap.size + 1 + 1 + 1) n np j) ∧ Hid (Below w.heap.size w W)) (fun iv _ _ => n - (intOf iv).toNat)
    case atStart =>
      first
        | (obtain ⟨o1, o2, o3, o4, o5⟩ := raw3 w (n1 := np) (n2 := n) (n3 := np) (by omega) (by omega) (by omega) _ _ rfl
           first
             | exact ⟨0, by omega, rfl, hid ⟨_, _, _, _, _, by omega, by omega, by omega, by omega, by omega, by omega, o4, o1, o2, o3, fun k hk => by omega, fun k hk => by omega⟩, hid o5⟩
             | exact ⟨0, by omega, rfl, hid ⟨_, _, _, _, _, by omega, by omega, by omega, by omega, by omega, by omega, o4, o3, o2, o1, fun k hk => by omega, fun k hk => by omega⟩, hid o5⟩)
        | (obtain ⟨o1, o2, o3, o4, o5⟩ := raw3 w (n1 := np) (n2 := np) (n3 := n) (by omega) (by omega) (by omega) _ _ rfl
           first
             | exact ⟨0, by omega, rfl, hid ⟨_, _, _, _, _, by omega, by omega, by omega, by omega, by omega, by omega, o4, o1, o3, o2, fun k hk => by omega, fun k hk => by omega⟩, hid o5⟩
             | exact ⟨0, by omega, rfl, hid ⟨_, _, _, _, _, by omega, by omega, by omega, by omega, by omega, by omega, o4, o2, o3, o1, fun k hk => by omega, fun k hk => by omega⟩, hid o5⟩)
        | (obtain ⟨o1, o2, o3, o4, o5⟩ := raw3 w (n1 := n) (n2 := np) (n3 := np) (by omega) (by omega) (by omega) _ _ rfl
           first
             | exact ⟨0, by omega, rfl, hid ⟨_, _, _, _, _, by omega, by omega, by omega, by omega, by omega, by omega, o4, o2, o1, o3, fun k hk => by omega, fun k hk => by omega⟩, hid o5⟩
             | exact ⟨0, by omega, rfl, hid ⟨_, _, _, _, _, by omega, by omega, by omega, by omega, by omega, by omega, o4, o3, o1, o2, fun k hk => by omega, fun k hk => by omega⟩, hid o5⟩)
    case round =>
      obtain ⟨j, hj, rfl, R, B⟩ := hrel
      obtain ⟨b, hbq⟩ : ∃ b, w.heap.size + 1 + 1 + 1 = b := ⟨_, rfl⟩
      rw [hbq] at R ⊢
      by_cases hlt : j < n
      · obtain ⟨ga, gh, gp, hs, ps, d1, d2, d3, d4, d5, d6, hblk, oa, oh, op, h1, h2⟩ := R.o.ex
        have c2 : wr.cell? ⟨b, 2, none⟩ = some (.slice (some ⟨gh, 0, none⟩) n n) := by rw [cell_of_row wr b 2 _ _ _ hblk]; rfl
        have c3 : wr.cell? ⟨b, 3, none⟩ = some (.slice (some ⟨gp, 0, none⟩) np np) := by rw [cell_of_row wr b 3 _ _ _ hblk]; rfl
        have hnp := Hnp.o
        have lh : hs.length = n := by have := oh.1; simpa [ints_length] using this
        have lp : ps.length = np := by have := op.1; simpa [ints_length] using this
        obtain ⟨_, he, gB, _, e1, f1⟩ := oh.cell (j := j) (by omega)
        injection he with he; injection he with he _ _; subst he
        obtain ⟨_, he, gB', _, e2, f2⟩ := op.cell (j := j + 1) (by omega)
        injection he with he; injection he with he _ _; subst he
        rw [ints_nth (by omega)] at e1 e2
        have y8 := hid lh
        have y9 := hid lp
        clear lh lp
        have y1 := hid oa
        have y2 := hid oh
        have y3 := hid op
        have y4 := hid h1
        have y5 := hid h2
        have y6 := hid hblk
        have y7 := hid hbq
        have x1 : (j : Int) < (n : Int) := by omega
        have x2 : (j : Int) + 1 < (np : Int) := by omega
        have r1 : (gh = b) = False := by simpa using d2
        have r2 : (gp = b) = False := by simpa using d3
        have r3 : (gh = gp) = False := by simpa using d6
        have r4 : (gp = gh) = False := by simpa using d6.symm
        have r5 : (b = gh) = False := by simpa using d2.symm
        have r6 : (b = gp) = False := by simpa using d3.symm
        clear oa oh op h1 h2 hblk hbq hnp
        go_wp2_with fail
        go_region
        go_wp2_with fail
        go_roundw
        case rel =>
          obtain ⟨k1, k2⟩ := raw_step (by have := y7.o; omega) Hnp.o.symm hlt d1 d2 d3 d4 d5 d6 y6.o y1.o y2.o y3.o y4.o y5.o gB gB'
          have y7 := y7.o
          subst y7
          exact ⟨j + 1, by omega, by go_num, hid k1, hid (B.o.trans (k2.base B.o.size))⟩
        case measure => simp [intOf]; omega
      · have x1 : (n : Int) ≤ (j : Int) := by omega
        obtain rfl : j = n := by omega
        go_wp2_with fail
        go_ret2
        exact ⟨b, rfl, R.o.order (by omega) Hnp.o.symm hn, B.o⟩
end
section
open Go.RowKit
/-! ### the open positions, as plain data -/
def vs (heap xs : List Int) : List Int := xs.map fun p => nth heap p.toNat
theorem vs_length (heap xs : List Int) : (vs heap xs).length = xs.length := by simp [vs]
theorem vs_nth {heap xs : List Int} {k : Nat} (hk : k < xs.length) : nth (vs heap xs) k = nth heap (nth xs k).toNat := by
  rw [nth_eq (by simpa [vs] using hk), nth_eq hk]; simp [vs]
theorem vs_swp {heap xs : List Int} {i k : Nat} (hi : i < xs.length) (hk : k < xs.length) : vs heap (swp xs i k) = swp (vs heap xs) i k := by
  unfold swp
  rw [vs_nth hi, vs_nth hk]
  simp [vs, List.map_set]
theorem swp_perm {xs : List Int} {i k : Nat} (hi : i < xs.length) (hk : k < xs.length) : (swp xs i k).Perm xs := by
  have := (Array.swap_perm (xs := xs.toArray) (i := i) (j := k) (by simpa using hi) (by simpa using hk)).toList
  simpa [swp, Array.swap, nth_eq hi, nth_eq hk] using this
structure OpenAt (w : World) (F : Nat → Prop) (q : Nat) (A : Option Addr) (m c : Nat) (xs : List Int) : Prop where
  hq : F q
  blk : w.heap[q]? = some (.cells #[.slice A m c] 23 (0, 0))
  own : Own w F 3 1 (.slice A m c) m (ints xs)
  apart : ¬ row (.slice A m c) q
section
variable {w w' : World} {F G : Nat → Prop} {b ga gh gp n np q q0 : Nat} {acts : List Int} {inc : Int} {heap pos : List Int} {A : Option Addr} {m c : Nat} {xs : List Int}
theorem OpenAt.c0 (e : OpenAt w F q A m c xs) : w.cell? ⟨q, 0, none⟩ = some (.slice A m c) := by rw [cell_of_row w q 0 _ _ _ e.blk]; rfl
theorem OpenAt.len (e : OpenAt w F q A m c xs) : xs.length = m := by have := e.own.1; simpa [ints_length] using this
theorem OpenAt.keep (e : OpenAt w F q A m c xs) (hk : ∀ g, g < w.heap.size → F g → w'.heap[g]? = w.heap[g]?) : OpenAt w' F q A m c xs :=
  { e with
    blk := (hk q (lt_of_block e.blk) e.hq).trans e.blk
    own := e.own.keep fun g hg _ hF => hk g hg hF }
theorem OpenAt.drewN (e : OpenAt w F q A m c xs) (k : Nat) : OpenAt (w.drewN k) F q A m c xs := e.keep fun _ _ _ => rfl
theorem less_any (ho : OrdAt w F b ga gh gp n np acts inc heap pos) (hq : w.cell? ⟨q0, 0, none⟩ = some (.pointer (some ⟨b, 0, none⟩))) (hx : OpenAt w G q A m c xs) {i k : Nat} (hi : i < m) (hk : k < m)
    {p r : Nat} (hp : nth xs i = p) (hr : nth xs k = r) (hpn : p < n) (hrn : r < n) :
    Calls Tryz.prog 125 #[.int .i64 i, .int .i64 k, .pointer (some ⟨q0, 0, none⟩), .pointer (some ⟨q, 0, none⟩)] w fun r w' => r = .returned (.bool (ahead acts (hat (vs heap xs) i) (hat (vs heap xs) k))) ∧ ∃ z, w' = w.drewN z := by
  have hl := hx.len
  have c2 := ho.c2
  have d0 := hx.c0
  have hs := ho.small
  obtain ⟨x, hx1, x1, xn, _⟩ := ho.inv.fw p hpn
  obtain ⟨y, hy1, y1, yn, _⟩ := ho.inv.fw r hrn
  have hati : hat (vs heap xs) i = x := by simp [hat, vs_nth (show i < xs.length by omega), hp, hx1]
  have hatk : hat (vs heap xs) k = y := by simp [hat, vs_nth (show k < xs.length by omega), hr, hy1]
  rw [hati, hatk]
  obtain ⟨g, he, _, _, e1, _⟩ := hx.own.cell (j := i) (by omega)
  subst he
  obtain ⟨_, he, _, _, e2, _⟩ := hx.own.cell (j := k) (by omega)
  injection he with he; injection he with he _ _; subst he
  obtain ⟨_, he, _, _, e3, _⟩ := ho.oh.cell (j := p) (by omega)
  injection he with he; injection he with he _ _; subst he
  obtain ⟨_, he, _, _, e4, _⟩ := ho.oh.cell (j := r) (by omega)
  injection he with he; injection he with he _ _; subst he
  have hlh := ho.inv.hl
  rw [ints_nth (by omega), hp] at e1
  rw [ints_nth (by omega), hr] at e2
  rw [ints_nth (by omega), hx1] at e3
  rw [ints_nth (by omega), hy1] at e4
  have z1 : (i : Int) < (m : Int) := by omega
  have z2 : (k : Int) < (m : Int) := by omega
  have z3 : (p : Int) < (n : Int) := by omega
  have z4 : (r : Int) < (n : Int) := by omega
  have bef : Hid (∀ z, Calls Tryz.prog 126 #[.pointer (some ⟨b, 0, none⟩), .int .i64 x, .int .i64 y] (w.drewN z) fun r w' => r = .returned (.bool (ahead acts x y)) ∧ ∃ m, w' = w.drewN m) := fun z =>
    Calls.quiet_of (before_any (w := w.drewN z) ho.c0 (ho.oa.rd.drewN z) (by have := ho.hnp; omega) (by have := ho.hnp; omega) (by have := ho.hnp; omega))
  clear hl hx1 hy1 hati hatk hlh hp hr ho hx
  go_enter Tryz.func125, Tryz.ntmps125
  go_wp2_with fail
  go_quiet (first | (go_at_call 126; exact bef.o _))
  go_wp2_with fail
  go_ret
  exact ⟨rfl, _, rfl⟩
end
end
section
open Go.RowKit
def InPos (n : Nat) (xs : List Int) : Prop := ∀ x ∈ xs, 0 ≤ x ∧ x < n
theorem InPos.nat {n : Nat} {xs : List Int} (e : InPos n xs) {k : Nat} (hk : k < xs.length) : ∃ p : Nat, nth xs k = p ∧ p < n := by
  have := e _ (nth_mem hk)
  exact ⟨(nth xs k).toNat, by omega, by omega⟩
theorem InPos.perm {n : Nat} {xs ys : List Int} (e : InPos n xs) (hp : ys.Perm xs) : InPos n ys := fun x hx => e x (hp.mem_iff.1 hx)
section
variable {w w' : World} {F G : Nat → Prop} {b ga gh gp n np q q0 q3 : Nat} {acts : List Int} {inc : Int} {heap pos : List Int} {A : Option Addr} {m c : Nat} {xs : List Int}
theorem OpenAt.stored {g j : Nat} {x : Int} (e : OpenAt w F q (some ⟨g, 0, none⟩) m c xs) (hj : j < m) : OpenAt (w.setCell ⟨g, j, none⟩ (.int .i64 x)) F q (some ⟨g, 0, none⟩) m c (xs.set j x) := by
  have hc : 0 < c := by
    obtain ⟨_, cap, he, hn, _, _⟩ := e.own.form
    injection he with _ _ he
    omega
  have hne : q ≠ g := fun he => e.apart ⟨hc, he.symm⟩
  refine { e with
    blk := (Below.heap_setCell w _ _ q hne).trans e.blk
    own := ?_ }
  rw [ints_set]
  exact e.own.stored _
theorem OpenAt.swapped {g i k : Nat} (e : OpenAt w F q (some ⟨g, 0, none⟩) m c xs) (hi : i < m) (hk : k < m) {x y : Int} (hx : nth xs i = x) (hy : nth xs k = y) :
    OpenAt ((w.setCell ⟨g, i, none⟩ (.int .i64 y)).setCell ⟨g, k, none⟩ (.int .i64 x)) F q (some ⟨g, 0, none⟩) m c (swp xs i k) := by
  have := (e.stored (x := y) hi).stored (x := x) hk
  unfold swp
  rw [hx, hy]
  exact this
theorem OpenAt.pushed {Av : Option Addr} {cv : Nat} {w3 : World} {p : Int} (e : OpenAt w G q A m c xs) (hG : ∀ g, w.heap.size ≤ g → G g)
    (ho3 : Own w3 (fun b => G b ∨ (w.alloc (.cells #[.int .i64 p] 3)).heap.size ≤ b) 3 1 (.slice Av (m + 1) cv) (m + 1) (ints xs ++ [.int .i64 p]))
    (hm3 : Mod (row (.slice A m c)) (w.alloc (.cells #[.int .i64 p] 3)) w3) (hr3 : ∀ b, row (.slice Av (m + 1) cv) b → row (.slice A m c) b ∨ (w.alloc (.cells #[.int .i64 p] 3)).heap.size ≤ b) :
    OpenAt (w3.setCell ⟨q, 0, none⟩ (.slice Av (m + 1) cv)) G q Av (m + 1) cv (xs ++ [p]) ∧ Mod G w (w3.setCell ⟨q, 0, none⟩ (.slice Av (m + 1) cv)) := by
  have qlt := lt_of_block e.blk
  have hsz : (w.alloc (.cells #[.int .i64 p] 3)).heap.size = w.heap.size + 1 := by simp
  have hb3 := (hm3.block q (by omega) e.apart).trans ((World.heap_alloc_ne w _ q (by omega)).trans e.blk)
  have hap : ¬ row (.slice Av (m + 1) cv) q := fun hr => by
    rcases hr3 q hr with h | h
    · exact e.apart h
    · omega
  have hM : Mod G w (w3.setCell ⟨q, 0, none⟩ (.slice Av (m + 1) cv)) := by
    refine Mod.setCell ?_ (.inl e.hq) _
    refine ((Mod.refl G w).alloc _).trans (hm3.mono fun g _ hg => .inl (e.own.row hg).1)
  refine ⟨{ hq := e.hq, blk := ?_, own := ?_, apart := hap }, hM⟩
  · rw [heap_setCell_same w3 q 0 _ _ _ hb3]; simp
  · have : ints (xs ++ [p]) = ints xs ++ [.int .i64 p] := by simp [ints]
    rw [this]
    refine (ho3.keep (w' := w3.setCell ⟨q, 0, none⟩ (.slice Av (m + 1) cv)) fun g hg hr _ => Below.heap_setCell w3 _ _ g fun e => hap (by have e : g = q := e; rw [← e]; exact hr)).mono fun g _ _ hg => ?_
    rcases hg with hg | hg
    · exact hg
    · exact hG g (by omega)
theorem append_front {xs : List Int} {p : Int} {k : Nat} (hk : k < xs.length) : nth (xs ++ [p]) k = nth xs k := by simp [nth, List.getElem?_append_left hk]
structure Pushed (w w' : World) (G : Nat → Prop) (q m : Nat) (acts heap xs : List Int) (p : Int) : Prop where
  ex : ∃ A c xs', OpenAt w' G q A (m + 1) c xs' ∧ xs'.Perm (xs ++ [p]) ∧ HeapTo acts (vs heap xs') (m + 1)
  mod : Mod G w w'
theorem npush_any (ho : OrdAt w F b ga gh gp n np acts inc heap pos) (hFG : ∀ g, F g → ¬ G g) (hG : ∀ g, w.heap.size ≤ g → G g) (hg0 : ¬ G q0) (hg3 : ¬ G q3)
    (hq : w.cell? ⟨q0, 0, none⟩ = some (.pointer (some ⟨b, 0, none⟩))) (hq3 : w.cell? ⟨q3, 0, none⟩ = some (.func (.func 125) #[] #[.pointer (some ⟨q0, 0, none⟩), .pointer (some ⟨q, 0, none⟩)]))
    (hx : OpenAt w G q A m c xs) (hin : InPos n xs) (hh : HeapTo acts (vs heap xs) m) {p : Nat} (hm : m ≤ 65536) (hp : p < n) :
    Calls Tryz.prog 127 #[.int .i64 p, .pointer (some ⟨q0, 0, none⟩), .pointer (some ⟨q, 0, none⟩), .pointer (some ⟨q3, 0, none⟩)] w fun r w' => r = .returned (.tuple #[]) ∧ Pushed w w' G q m acts heap xs p := by
  have c2 := ho.c2
  have d0 := hx.c0
  have hs := ho.small
  have hl := hx.len
  have z1 : (p : Int) < (n : Int) := by omega
  have q0lt := World.block_lt_of_cell? w _ hq
  have q3lt := World.block_lt_of_cell? w _ hq3
  have qlt := lt_of_block hx.blk
  have blt := lt_of_block ho.blk
  have Ho := hid ho
  have Hx := hid hx
  have Hin := hid hin
  have Hh := hid hh
  have Hl := hid hl
  have HFG := hid hFG
  have HG := hid hG
  have Hq := hid hq
  have Hq3 := hid hq3
  clear ho hx hin hh hl hFG hG
  go_enter Tryz.func127, Tryz.ntmps127
  go_wp2_with (at_builtin; refine wpList_append_ints rfl _ _ rfl (Hx.o.own.below ((Below.refl _ _).alloc (Nat.le_refl _) _)) (own_one w (.int .i64 p)).rd rfl rfl (by simp [Value.oneCell']) (by omega) ?_; intro Av cv w3 ho3 hm3 hr3; have hb3 := (hm3.block q (by simp; omega) Hx.o.apart).trans ((World.heap_alloc_ne w _ q (by omega)).trans Hx.o.blk); have d3 : w3.cell? ⟨q, 0, none⟩ = some (.slice A m c) := (cell_of_row w3 q 0 _ _ _ hb3).trans rfl; have f3 := frozen_of_row w3 q 0 _ _ hb3; clear hb3 d0)
  obtain ⟨O1, M1⟩ := Hx.o.pushed HG.o ho3 hm3 hr3
  generalize w3.setCell ⟨q, 0, none⟩ (.slice Av (m + 1) cv) = w4 at *
  have HO1 := hid O1
  have HM1 := hid M1
  clear O1 M1 ho3 hm3 hr3 d3 f3 c2 hq hq3
  have b0 : Hid (HeapBut acts (vs heap (xs ++ [(p : Int)])) (m + 1) m) := by
    have e1 : vs heap (xs ++ [(p : Int)]) = vs heap xs ++ [nth heap p] := by simp [vs]
    have lv : (vs heap xs).length = m := by rw [vs_length]; exact Hl.o
    have key : ∀ k, k < m → hat (vs heap xs ++ [nth heap p]) k = hat (vs heap xs) k := fun k hk => by
      unfold hat
      rw [append_front (by omega)]
    rw [e1]
    exact ⟨fun k h1 h2 h3 => by rw [key k (by omega), key _ (by omega)]; exact Hh.o k h1 (by omega), fun k h1 h2 h3 _ => by omega⟩
  have in0 : Hid (InPos n (xs ++ [(p : Int)])) := fun x hx => by
    rcases List.mem_append.1 hx with hx | hx
    · exact Hin.o x hx
    · have : x = p := by simpa using hx
      omega
  obtain ⟨mm, hmm⟩ : ∃ mm, m + 1 = mm := ⟨_, rfl⟩
  rw [hmm] at HO1 b0
  go_loopw [5] (fun iv W => ∃ (j : Nat) (ys : List Int), j < mm ∧ iv = .int .i64 j ∧ Hid (OpenAt W G q Av mm cv ys) ∧ Hid (ys.Perm (xs ++ [(p : Int)])) ∧ Hid (HeapBut acts (vs heap ys) mm j) ∧ Hid (Mod G w W)) (fun iv _ => (intOf iv).toNat)
  case atStart => exact ⟨m, xs ++ [(p : Int)], by omega, by simp, HO1, List.Perm.refl _, b0, HM1⟩
  case round =>
    obtain ⟨j, ys, hj, rfl, O, P, H, M⟩ := hrel
    have d3 : wr.cell? ⟨q3, 0, none⟩ = some (.func (.func 125) #[] #[.pointer (some ⟨q0, 0, none⟩), .pointer (some ⟨q, 0, none⟩)]) := (World.cell?_of_block (M.o.block q3 q3lt hg3)).trans Hq3.o
    rcases Nat.eq_zero_or_pos j with h0 | h0
    · subst h0
      go_wp2_with fail
      go_end0
      exact ⟨rfl, ⟨_, _, _, by rw [hmm]; exact O.o, P.o, by rw [hmm]; exact H.o.done (fun e => absurd e (by omega))⟩, M.o⟩
    · have Ow : Hid (OrdAt wr F b ga gh gp n np acts inc heap pos) := Ho.o.mod M.o fun g _ hF => HFG.o g hF
      have e0 := Hid.o (hid ((World.cell?_of_block (M.o.block q0 q0lt hg0)).trans Hq.o))
      have E0 := hid e0
      obtain ⟨k, hk⟩ : ∃ k, (j - 1) / 2 = k := ⟨_, rfl⟩
      have hkj : k < j := by omega
      have q1 : ((j : Int) - 1).tdiv 2 = (k : Int) := by rw [Int.tdiv_eq_ediv_of_nonneg (by omega)]; omega
      have q4 : IntKind.i64.wrap ((j : Int) - 1) = (j : Int) - 1 := iw (by omega) (by omega)
      have q5 : IntKind.i64.wrap (k : Int) = (k : Int) := iw (by omega) (by omega)
      have x1 : (j : Int) < (mm : Int) := by omega
      have x2 : (k : Int) < (mm : Int) := by omega
      have hl := O.o.len
      obtain ⟨pj, hpj, pjn⟩ := (in0.o.perm P.o).nat (k := j) (by omega)
      obtain ⟨pk, hpk, pkn⟩ := (in0.o.perm P.o).nat (k := k) (by omega)
      obtain ⟨g, he, Gg, _, e1, f1⟩ := O.o.own.cell (j := j) (by omega)
      have hAv := he
      obtain ⟨_, he, _, _, e2, f2⟩ := O.o.own.cell (j := k) (by omega)
      rw [hAv] at he
      injection he with he; injection he with he _ _; subst he
      rw [ints_nth (by omega), hpj] at e1
      rw [ints_nth (by omega), hpk] at e2
      have d0 := O.o.c0
      have hgq : g ≠ q := fun e => O.o.apart (by
        have hc : 0 < cv := by
          obtain ⟨_, cap, he, hn, _, _⟩ := O.o.own.form
          injection he with _ _ he
          omega
        rw [hAv]
        exact ⟨hc, e⟩)
      have Hpj := hid hpj
      have Hpk := hid hpk
      have Hl2 := hid hl
      have Hk := hid hk
      have Hmm := hid hmm
      have r1 : (g = q) = False := by simpa using hgq
      have r2 : (q = g) = False := by simpa using hgq.symm
      have Lc : Hid (∀ W, W = wr → Calls Tryz.prog 125 #[.int .i64 j, .int .i64 k, .pointer (some ⟨q0, 0, none⟩), .pointer (some ⟨q, 0, none⟩)] W fun r w' => r = .returned (.bool (ahead acts (hat (vs heap ys) j) (hat (vs heap ys) k))) ∧ ∃ z, w' = W.drewN z) := fun W e => by
        subst e
        exact less_any Ow.o e0 O.o (by omega) (by omega) hpj hpk pjn pkn
      rw [hAv] at d0
      have HAv := hid hAv
      clear hAv hpj hpk hl hk hmm e0 he
      cases hah : ahead acts (hat (vs heap ys) j) (hat (vs heap ys) k) with
      | true =>
        go_wp2_with fail
        refine (Lc.o _ rfl).mono ?_
        rintro r w5 ⟨rfl, z, rfl⟩
        go_wp2_with fail
        go_region
        go_wp2_with fail
        go_roundw
        case rel =>
          have hAv := HAv.o
          subst hAv
          have S1 := (O.o.drewN z).swapped (i := j) (k := k) (by omega) (by omega) Hpj.o Hpk.o
          refine ⟨k, swp ys j k, by omega, rfl, hid (S1.keep fun _ _ _ => rfl), hid ((swp_perm (by have := Hl2.o; omega) (by have := Hl2.o; omega)).trans P.o), hid ?_, hid ((((M.o.drewN z).setCell (p := ⟨g, j, none⟩) (.inl Gg) _).setCell (p := ⟨g, k, none⟩) (.inl Gg) _).drew)⟩
          rw [vs_swp (by have := Hl2.o; omega) (by have := Hl2.o; omega)]
          have := H.o.swap h0 hj (by rw [vs_length]; have := Hl2.o; omega) (by rw [Hk.o]; exact hah)
          rwa [Hk.o] at this
        case measure => simp [intOf]; omega
      | false =>
        go_wp2_with fail
        refine (Lc.o _ rfl).mono ?_
        rintro r w5 ⟨rfl, z, rfl⟩
        go_wp2_with fail
        go_end0
        exact ⟨rfl, ⟨_, _, _, by rw [Hmm.o]; exact O.o.drewN z, P.o, by rw [Hmm.o]; exact H.o.done (fun _ => by rw [Hk.o]; exact hah)⟩, M.o.drewN z⟩
theorem npush_out (ho : OrdAt w F b ga gh gp n np acts inc heap pos) (hq : w.cell? ⟨q0, 0, none⟩ = some (.pointer (some ⟨b, 0, none⟩))) {p : Nat} (hp : n ≤ p) :
    Calls Tryz.prog 127 #[.int .i64 p, .pointer (some ⟨q0, 0, none⟩), .pointer (some ⟨q, 0, none⟩), .pointer (some ⟨q3, 0, none⟩)] w fun r w' => r = .returned (.tuple #[]) ∧ w' = w := by
  have c2 := ho.c2
  have z1 : (n : Int) ≤ (p : Int) := by omega
  clear ho
  go_enter Tryz.func127, Tryz.ntmps127
  go_wp2_with fail
  refine bodyPost_ret (results_none rfl _ _ _) rfl ?_
  exact ⟨rfl, rfl⟩
end
end
end Go.Proofs.YtcjmpobccbnpkaaGreat
