/-
  LearnAsserts: the plain facts, the walk.
-/
import Derived.Test.YtanhacdadgbjdaaLnN
import Derived.BigRegion
namespace Go.Proofs.Ytanhacdadgbjdaa
open Go.RowKit

theorem top_step {T : Tr} {L : List Int} {j : Nat} (h1 : 1 ≤ j) (hj : j < L.length) : topLv T (L.tail.take (j + 1 - 1)) = max (topLv T (L.tail.take (j - 1))) (T.lvOf (nth L j)) := by
  obtain ⟨k, rfl⟩ : ∃ k, j = k + 1 := ⟨j - 1, by omega⟩
  cases L with
  | nil => simp at hj
  | cons a l =>
    have e1 : nth (a :: l) (k + 1) = nth l k := by simp [nth]
    rw [e1, List.tail_cons, show k + 1 + 1 - 1 = k + 1 by omega, show k + 1 - 1 = k by omega, take_nth (by simpa using hj), topLv_snoc]
/-- What the law asks of the learned clause L and its level. -/
structure Asserts (T : Tr) (L : List Int) (lv : Nat) : Prop where
  pos : 0 < L.length
  len : L.length ≤ T.L.length
  mem : ∀ j, j < L.length → -nth L j ∈ T.lits
  lv0 : T.lvOf (nth L 0) = T.depth
  lvj : ∀ j, 0 < j → j < L.length → 1 ≤ T.lvOf (nth L j) ∧ T.lvOf (nth L j) < T.depth ∧ T.pos (nth L j) < T.pos (nth L (j - 1))
  top : topLv T L.tail = lv
  free : (T.back lv).value (nth L 0) = 0
  off : ∀ j, 0 < j → j < L.length → (T.back lv).value (nth L j) = -1
  can : (T.back lv).can (nth L 0) L = true
theorem asserts {T : Tr} (h : T.WF) {cs : List Int} (hok : okFor T cs = true) : Asserts T (T.learnt cs) (topLv T (T.learnt cs).tail).toNat := by
  obtain ⟨c, rest, hL, h1, h2, h3, h4⟩ := learnt_form h hok
  obtain ⟨b1, b2⟩ := learnt_back h hok hL
  have b3 := learnt_can h hok hL
  have hle : (T.learnt cs).length ≤ T.L.length := by
    unfold Tr.learnt Tr.sorted
    refine Nat.le_trans (List.length_filter_le _ _) ?_
    simp [Tr.lits]
  have h0 := (topLv_ge T rest 0).1
  rw [hL] at hle ⊢
  have hn0 : nth (c :: rest) 0 = c := by simp [nth]
  have hnj : ∀ j, 0 < j → j < (c :: rest).length → nth (c :: rest) j ∈ rest := fun j a b => by
    obtain ⟨k, rfl⟩ : ∃ k, j = k + 1 := ⟨j - 1, by omega⟩
    have e1 : nth (c :: rest) (k + 1) = nth rest k := by simp [nth]
    rw [e1]
    exact nth_mem (by simpa using b)
  refine ⟨by simp, hle, fun j hj => ?_, by rw [hn0]; exact h2, fun j a b => ?_, ?_, by rw [hn0]; exact b1, fun j a b => b2 _ (hnj j a b), by rw [hn0]; exact b3⟩
  · rcases Nat.eq_zero_or_pos j with e | e
    · rw [e, hn0]; exact h1
    · exact (h3 _ (hnj j e hj)).1
  · obtain ⟨_, q1, q2⟩ := h3 _ (hnj j a b)
    refine ⟨q1, q2, ?_⟩
    have := List.pairwise_iff_getElem.1 h4 (j - 1) j (by omega) b (by omega)
    rw [nth_eq b, nth_eq (by omega)]
    exact this
  · show topLv T rest = _
    have : 0 ≤ topLv T rest := h0
    simp only [List.tail_cons]
    omega
theorem value_imp {T : Tr} {l : Int} {r : List Int} (h : T.can l r = true) : (T.imp l r).value l = 1 := by
  unfold Tr.imp
  rw [if_pos h]
  unfold Tr.value Tr.imply Tr.lits
  simp

theorem keep_cell {w w' : World} {p : Addr} {v : Value} (h : w.cell? p = some v) (b : Below w.heap.size w w') : w'.cell? p = some v := (b.cell (World.block_lt_of_cell? w _ h)).trans h

set_option maxRecDepth 100000 in
set_option maxHeartbeats 4000000 in
theorem asserts_walk {w : World} {v v2 : Value} {os : List Mvd} {fs : List Int} {R2 : Option Addr} {c2 : Nat} (hm : MvRd w v os) (hr : Rd w (fun _ => True) 1 v2 fs.length (ints fs) ∧ (∀ y ∈ fs, I64 y) ∧ v2 = .slice R2 fs.length c2) :
    Calls Try.prog 6 #[v, v2] w fun r w' => r = .returned (.bool true) ∧ Below w.heap.size w w' := by
  obtain ⟨hr, hi, rfl⟩ := hr
  obtain ⟨R, c, rfl⟩ : ∃ R c, v = .slice R os.length c := by
    obtain ⟨A, cap, h, _⟩ := hm
    exact ⟨A, cap, h⟩
  obtain ⟨n, hn⟩ : ∃ n, os.length = n := ⟨_, rfl⟩
  obtain ⟨n2, hn2⟩ : ∃ n, fs.length = n := ⟨_, rfl⟩
  rw [hn] at hm ⊢
  rw [hn2] at hr ⊢
  have Hm := hid hm
  have Hr := hid hr
  have Hi := hid hi
  clear hm hr hi hn hn2
  go_enter Try.func6, Try.ntmps6
  go_wp2_with fail
  refine awake_any.mono ?_
  rintro r w1 ⟨rfl, b1⟩
  have B1 := hid b1
  have s1 := b1.size
  clear b1
  go_wp2_with fail
  refine (built_any (Hm.out.below B1.out)).mono ?_
  rintro r w2 ⟨b, T, rfl, ht, hf, b2⟩
  have B2 : Hid (Below w.heap.size w w2) := hid (B1.out.trans (b2.mono (by omega)))
  have s2 := b2.size
  have Ht := hid ht.restrict
  have Hf := hid hf
  clear ht hf b2
  by_cases h100 : 100 < n2
  · have x1 : (100 : Int) < (n2 : Int) := by omega
    go_wp2_with fail
    go_ret
    exact ⟨rfl, B2.out⟩
  · have x1 : ((100 : Int) < (n2 : Int)) = False := by simp; omega
    go_wp2_with fail
    refine (clause_any Ht.out (few_small Hf.out) (Hr.out.below B2.out) Hi.out (by omega)).mono ?_
    rintro r w3 ⟨⟨cs, R3, c3, rfl, ho3, hcs, hcl⟩, b3⟩
    have B3 : Hid (Below w.heap.size w w3) := hid (B2.out.trans (b3.mono (by omega)))
    have T3 := hid (Ht.out.below b3)
    have s3 := b3.size
    have Ho3 := hid ho3.rd
    have Hcs := hid hcs
    clear b3 ho3 hcs
    go_wp2_with fail
    refine (learn_any T3.out Ho3.out (lits_i64 T3.out.wf Hcs.out) (by omega) (few_small Hf.out) (few_reasons Hf.out)).mono ?_
    rintro r w4 ⟨⟨R4, c4, rfl, hr4⟩, b4⟩
    have B4 : Hid (Below w.heap.size w w4) := hid (B3.out.trans (b4.mono (by omega)))
    have T4 := hid (T3.out.below b4)
    have s4 := b4.size
    clear b4 Ho3 hcl
    by_cases hok : okFor T cs = true
    · obtain ⟨lv, as1⟩ : ∃ lv, Asserts T (T.learnt cs) lv := ⟨_, asserts T4.out.wf hok⟩
      have e1 : T.ans cs = T.learnt cs := by unfold Tr.ans; rw [if_pos hok]
      have e2 : T.ansLv cs = (lv : Int) := by unfold Tr.ansLv; rw [if_pos hok]; exact as1.top
      have e3 : lerr (okFor T cs) = 0 := by rw [hok]; rfl
      rw [e1] at hr4 ⊢
      rw [e2, e3]
      obtain ⟨L, hL⟩ : ∃ L, T.learnt cs = L := ⟨_, rfl⟩
      rw [hL] at as1 hr4 ⊢
      obtain ⟨k, hk⟩ : ∃ k, L.length = k := ⟨_, rfl⟩
      rw [hk] at hr4 ⊢
      have k0 : 0 < k := by have := as1.pos; omega
      have k1 : k ≤ 30 := by have := as1.len; have := T4.out.wf.len; have := Hf.out.vars; omega
      have k2 : ((k : Int) = 0) = False := by simp; omega
      have k3 : ((k : Int) == 0) = false := by simp; omega
      have k4 : (0 : Int) < (k : Int) := by omega
      have hkc : (k : Int) ≤ (c4 : Int) := by
        obtain ⟨_, A2, c2, hv2, h2, _⟩ := hr4
        injection hv2 with _ _ h3
        omega
      have hr4 := hr4.mono (G := fun g => w3.heap.size ≤ g ∧ g < w4.heap.size) fun g a b => ⟨b, a⟩
      obtain ⟨g, o, rfl, hgF, hg, e0⟩ := hr4.cell.2 0 k0
      rw [Nat.add_zero] at e0
      obtain ⟨l0, hl0⟩ : ∃ l, nth L 0 = l := ⟨_, rfl⟩
      rw [hl0] at e0
      have hml := as1.mem 0 (by omega)
      rw [hl0] at hml
      obtain ⟨hb1, hb2⟩ := lits_small T4.out.wf hml
      obtain ⟨v0, hv0⟩ : ∃ v, l0.natAbs = v := ⟨_, rfl⟩
      have hmx : max l0 (-l0) = (v0 : Int) := by omega
      have hwn : IntKind.i64.wrap (-l0) = -l0 := iw' (by omega) (by omega)
      have hlv : T.levelOf (v0 : Int) = (T.depth : Int) := by
        have := as1.lv0
        rw [hl0] at this
        unfold Tr.lvOf at this
        rw [hv0] at this
        exact this
      obtain ⟨dp, hdp⟩ : ∃ d : Nat, T.depth = d := ⟨_, rfl⟩
      have hdp2 : T.starts.length = dp := hdp
      rw [hdp] at hlv
      have Hdp := hid hdp
      have Hlv := hid hlv
      have As := hid as1
      have Hr4 := hid hr4
      have Hk := hid hk
      have Hl0 := hid hl0
      have Hl64 : Hid (I64 l0) := hid (by unfold I64; omega)
      clear e1 e2 e3 hL hok as1 hr4 hk hl0 hml hv0 hlv hdp hdp2 Hcs
      go_wp2_with fail
      go_region_held3 (fun w' => w'.cell? ⟨g, o, none⟩ = some (.int .i64 l0))
        (first | go_keep | exact (b5.cell (p := ⟨g, o, none⟩) hg).trans e0)
        (first
          | (go_at_call 12; refine (level_any (v := (v0 : Int)) T4.out.drew).mono ?_; rw [Hlv.out]; rintro r w5 ⟨rfl, b5⟩)
          | (go_at_call 17; refine (depth_any (T := T) (by first | exact T4.out.drew | exact T4.out.drew.below b5)).mono ?_; rw [Hdp.out]; rintro r w' ⟨rfl, rfl⟩))
      have b45 : Below w4.heap.size w4 w5 := (Below.refl _ _).drew.trans b5
      have B5 : Hid (Below w.heap.size w w5) := hid (B4.out.trans (b45.mono (by omega)))
      have T5 := hid (T4.out.below b45)
      have H5 := hid (Hr4.out.below b45)
      have s5 := b45.size
      clear b5 b45 e0 T4 Hr4
      go_wp2_with fail
      go_loopw [10, 11] (fun tv iv W => ∃ j : Nat, j ≤ k ∧ tv = .int .i64 (topLv T (L.tail.take (j - 1))) ∧ iv = .int .i64 j ∧ Hid (Below w5.heap.size w5 W)) (fun _ iv _ => k - (intOf iv).toNat)
      case atStart => exact ⟨0, by omega, rfl, rfl, Below.refl _ _⟩
      case round =>
        obtain ⟨j, hj, rfl, rfl, Bj⟩ := hrel
        have hsz := Bj.out.size
        have Tj := hid (T5.out.below Bj.out)
        have Hj := hid (H5.out.below Bj.out)
        obtain ⟨tp, htp⟩ : ∃ tp, topLv T (L.tail.take (j - 1)) = tp := ⟨_, rfl⟩
        rw [htp]
        have Htp := hid htp
        clear htp
        by_cases hlt : j < k
        · have y1 : (j : Int) < (k : Int) := by omega
          obtain ⟨_, _, he, _, hgj, ej⟩ := Hj.out.cell.2 j hlt
          injection he with he; injection he with he1 he2; subst he1 he2
          obtain ⟨l, hl⟩ : ∃ l, nth L j = l := ⟨_, rfl⟩
          rw [hl] at ej
          have hml := As.out.mem j (by have := Hk.out; omega)
          rw [hl] at hml
          obtain ⟨hb1, hb2⟩ := lits_small Tj.out.wf hml
          obtain ⟨v, hv⟩ : ∃ v, l.natAbs = v := ⟨_, rfl⟩
          have hmx : max l (-l) = (v : Int) := by omega
          have hwn : IntKind.i64.wrap (-l) = -l := iw' (by omega) (by omega)
          have hi64 : I64 l := by unfold I64; omega
          have hval := value_of_neg Tj.out.wf hml
          obtain ⟨lj, hlj⟩ : ∃ lv, T.levelOf (v : Int) = lv := ⟨_, rfl⟩
          have hlo : T.lvOf l = lj := by unfold Tr.lvOf; rw [hv]; exact hlj
          have Hlj := hid hlj
          have Hlo := hid hlo
          have Hval := hid hval
          have Hl := hid hl
          have Hi64 := hid hi64
          have Hv := hid hv
          clear hml hval hlj hlo hl hi64 hv
          go_wp2_with fail
          go_region
          go_wp2_with fail
          by_cases j0 : j = 0
          · have z1 : ((0 : Int) < (j : Int)) = False := by simp; omega
            have z2 : ¬ 0 < j := by omega
            have z3 : decide (0 < j) = false := by simp; omega
            have Hj0 := hid j0
            clear j0
            -- HAND0
            refine wp_region_held_drew (S := fun w' => w'.cell? ⟨g, o + j, none⟩ = some (.int .i64 l)) (by kernel_rfl) ej (fun hHeld => ?_)
            refine wpAnyH_take (i := 0) (oi := ⟨_, _, _, _, _, _⟩) (v := ?_) rfl (by kernel_rfl) (by kernel_rfl) (by kernel_rfl) (fun _ _ _ h => h) (Or.inl ⟨by rfl, ?_⟩) (by assumption) ?_
            rotate_left
            · intro w hSw
              try dsimp only at hSw
              go_simp
              try with_reducible rfl
            simp only [Act.put, List.setIfInBounds_toArray, List.set_cons_zero, List.set_cons_succ]
            refine wpAnyH_take (i := 1) (oi := ⟨_, _, _, _, _, _⟩) (v := ?_) rfl (by kernel_rfl) (by kernel_rfl) (by kernel_rfl) (fun _ _ _ h => h) (Or.inl ⟨by rfl, ?_⟩) (by assumption) ?_
            rotate_left
            · intro w hSw
              try dsimp only at hSw
              go_simp
              try with_reducible rfl
            simp only [Act.put, List.setIfInBounds_toArray, List.set_cons_zero, List.set_cons_succ]
            refine wpAnyH_take (i := 2) (oi := ⟨_, _, _, _, _, _⟩) (v := ?_) rfl (by kernel_rfl) (by kernel_rfl) (by kernel_rfl) (fun _ _ _ h => h) (Or.inl ⟨by rfl, ?_⟩) (by assumption) ?_
            rotate_left
            · intro w hSw
              try dsimp only at hSw
              go_simp
              try with_reducible rfl
            simp only [Act.put, List.setIfInBounds_toArray, List.set_cons_zero, List.set_cons_succ]
            refine wpAnyH_take (i := 3) (oi := ⟨_, _, _, _, _, _⟩) (v := ?_) rfl (by kernel_rfl) (by kernel_rfl) (by kernel_rfl) (fun _ _ _ h => h) (Or.inl ⟨by rfl, ?_⟩) (by assumption) ?_
            rotate_left
            · intro w hSw
              try dsimp only at hSw
              go_simp
              try with_reducible rfl
            simp only [Act.put, List.setIfInBounds_toArray, List.set_cons_zero, List.set_cons_succ]
            refine wpAnyH_take (i := 4) (oi := ⟨_, _, _, _, _, _⟩) (v := ?_) rfl (by kernel_rfl) (by kernel_rfl) (by kernel_rfl) (fun _ _ _ h => h) (Or.inl ⟨by rfl, ?_⟩) (by assumption) ?_
            rotate_left
            · intro w hSw
              try dsimp only at hSw
              go_simp
              try with_reducible rfl
            simp only [Act.put, List.setIfInBounds_toArray, List.set_cons_zero, List.set_cons_succ]
            refine wpAnyH_ready (rs := [5]) (by kernel_rfl) (by simp) (AllReadyH.cons (o := ⟨_, _, _, _, _, _⟩) rfl (fun K hK => ?_) AllReadyH.nil)
            go_simp
            refine (value_any Tj.out.drew.drew Hi64.out).mono ?_
            rw [Hval.out]
            rintro r w6 ⟨rfl, b6⟩
            go_simp
            have e6 : w6.cell? ⟨g, o + j, none⟩ = some (.int .i64 l) := (b6.cell (p := ⟨g, o + j, none⟩) hgj).trans ej
            refine hK.out _ _ e6 (fun hHeld => ?_)
            clear hK K
            try simp only [Act.put, List.setIfInBounds_toArray, List.set_cons_zero, List.set_cons_succ]
            refine wpAnyH_take (i := 6) (oi := ⟨_, _, _, _, _, _⟩) (v := ?_) rfl (by kernel_rfl) (by kernel_rfl) (by kernel_rfl) (fun _ _ _ h => h) (Or.inl ⟨by rfl, ?_⟩) (by assumption) ?_
            rotate_left
            · intro w hSw
              try dsimp only at hSw
              go_simp
              try with_reducible rfl
            simp only [Act.put, List.setIfInBounds_toArray, List.set_cons_zero, List.set_cons_succ]
            refine wpAnyH_take (i := 7) (oi := ⟨_, _, _, _, _, _⟩) (v := ?_) rfl (by kernel_rfl) (by kernel_rfl) (by kernel_rfl) (fun _ _ _ h => h) (Or.inl ⟨by rfl, ?_⟩) (by assumption) ?_
            rotate_left
            · intro w hSw
              try dsimp only at hSw
              go_simp
              try with_reducible rfl
            simp only [Act.put, List.setIfInBounds_toArray, List.set_cons_zero, List.set_cons_succ]
            refine wpAnyH_take (i := 8) (oi := ⟨_, _, _, _, _, _⟩) (v := ?_) rfl (by kernel_rfl) (by kernel_rfl) (by kernel_rfl) (fun _ _ _ h => h) (Or.inl ⟨by rfl, ?_⟩) (by assumption) ?_
            rotate_left
            · intro w hSw
              try dsimp only at hSw
              go_simp
              try with_reducible rfl
            simp only [Act.put, List.setIfInBounds_toArray, List.set_cons_zero, List.set_cons_succ]
            refine wpAnyH_take (i := 9) (oi := ⟨_, _, _, _, _, _⟩) (v := ?_) rfl (by kernel_rfl) (by kernel_rfl) (by kernel_rfl) (fun _ _ _ h => h) (Or.inl ⟨by rfl, ?_⟩) (by assumption) ?_
            rotate_left
            · intro w hSw
              try dsimp only at hSw
              go_simp
              try with_reducible rfl
            simp only [Act.put, List.setIfInBounds_toArray, List.set_cons_zero, List.set_cons_succ]
            refine wpAnyH_take (i := 10) (oi := ⟨_, _, _, _, _, _⟩) (v := ?_) rfl (by kernel_rfl) (by kernel_rfl) (by kernel_rfl) (fun _ _ _ h => h) (Or.inl ⟨by rfl, ?_⟩) (by assumption) ?_
            rotate_left
            · intro w hSw
              try dsimp only at hSw
              go_simp
              try with_reducible rfl
            simp only [Act.put, List.setIfInBounds_toArray, List.set_cons_zero, List.set_cons_succ]
            refine wpAnyH_take (i := 11) (oi := ⟨_, _, _, _, _, _⟩) (v := undef) rfl (by kernel_rfl) (by kernel_rfl) (by kernel_rfl) (fun _ _ _ h => h) (Or.inr ⟨by rfl, rfl⟩) (by assumption) ?_
            simp only [Act.put, List.setIfInBounds_toArray, List.set_cons_zero, List.set_cons_succ]
            refine wpAnyH_take (i := 12) (oi := ⟨_, _, _, _, _, _⟩) (v := undef) rfl (by kernel_rfl) (by kernel_rfl) (by kernel_rfl) (fun _ _ _ h => h) (Or.inr ⟨by rfl, rfl⟩) (by assumption) ?_
            simp only [Act.put, List.setIfInBounds_toArray, List.set_cons_zero, List.set_cons_succ]
            refine wpAnyH_take (i := 13) (oi := ⟨_, _, _, _, _, _⟩) (v := undef) rfl (by kernel_rfl) (by kernel_rfl) (by kernel_rfl) (fun _ _ _ h => h) (Or.inr ⟨by rfl, rfl⟩) (by assumption) ?_
            simp only [Act.put, List.setIfInBounds_toArray, List.set_cons_zero, List.set_cons_succ]
            refine wpAnyH_take (i := 14) (oi := ⟨_, _, _, _, _, _⟩) (v := undef) rfl (by kernel_rfl) (by kernel_rfl) (by kernel_rfl) (fun _ _ _ h => h) (Or.inr ⟨by rfl, rfl⟩) (by assumption) ?_
            simp only [Act.put, List.setIfInBounds_toArray, List.set_cons_zero, List.set_cons_succ]
            refine wpAnyH_take (i := 15) (oi := ⟨_, _, _, _, _, _⟩) (v := undef) rfl (by kernel_rfl) (by kernel_rfl) (by kernel_rfl) (fun _ _ _ h => h) (Or.inr ⟨by rfl, rfl⟩) (by assumption) ?_
            simp only [Act.put, List.setIfInBounds_toArray, List.set_cons_zero, List.set_cons_succ]
            refine wpAnyH_take (i := 16) (oi := ⟨_, _, _, _, _, _⟩) (v := undef) rfl (by kernel_rfl) (by kernel_rfl) (by kernel_rfl) (fun _ _ _ h => h) (Or.inr ⟨by rfl, rfl⟩) (by assumption) ?_
            simp only [Act.put, List.setIfInBounds_toArray, List.set_cons_zero, List.set_cons_succ]
            refine wpAnyH_take (i := 17) (oi := ⟨_, _, _, _, _, _⟩) (v := undef) rfl (by kernel_rfl) (by kernel_rfl) (by kernel_rfl) (fun _ _ _ h => h) (Or.inr ⟨by rfl, rfl⟩) (by assumption) ?_
            simp only [Act.put, List.setIfInBounds_toArray, List.set_cons_zero, List.set_cons_succ]
            refine wpAnyH_take (i := 18) (oi := ⟨_, _, _, _, _, _⟩) (v := undef) rfl (by kernel_rfl) (by kernel_rfl) (by kernel_rfl) (fun _ _ _ h => h) (Or.inr ⟨by rfl, rfl⟩) (by assumption) ?_
            simp only [Act.put, List.setIfInBounds_toArray, List.set_cons_zero, List.set_cons_succ]
            refine wpAnyH_take (i := 19) (oi := ⟨_, _, _, _, _, _⟩) (v := undef) rfl (by kernel_rfl) (by kernel_rfl) (by kernel_rfl) (fun _ _ _ h => h) (Or.inr ⟨by rfl, rfl⟩) (by assumption) ?_
            simp only [Act.put, List.setIfInBounds_toArray, List.set_cons_zero, List.set_cons_succ]
            refine wpAnyH_take (i := 20) (oi := ⟨_, _, _, _, _, _⟩) (v := undef) rfl (by kernel_rfl) (by kernel_rfl) (by kernel_rfl) (fun _ _ _ h => h) (Or.inr ⟨by rfl, rfl⟩) (by assumption) ?_
            simp only [Act.put, List.setIfInBounds_toArray, List.set_cons_zero, List.set_cons_succ]
            refine wpAnyH_take (i := 21) (oi := ⟨_, _, _, _, _, _⟩) (v := undef) rfl (by kernel_rfl) (by kernel_rfl) (by kernel_rfl) (fun _ _ _ h => h) (Or.inr ⟨by rfl, rfl⟩) (by assumption) ?_
            simp only [Act.put, List.setIfInBounds_toArray, List.set_cons_zero, List.set_cons_succ]
            refine wpAnyH_take (i := 22) (oi := ⟨_, _, _, _, _, _⟩) (v := undef) rfl (by kernel_rfl) (by kernel_rfl) (by kernel_rfl) (fun _ _ _ h => h) (Or.inr ⟨by rfl, rfl⟩) (by assumption) ?_
            simp only [Act.put, List.setIfInBounds_toArray, List.set_cons_zero, List.set_cons_succ]
            refine wpAnyH_take (i := 23) (oi := ⟨_, _, _, _, _, _⟩) (v := undef) rfl (by kernel_rfl) (by kernel_rfl) (by kernel_rfl) (fun _ _ _ h => h) (Or.inr ⟨by rfl, rfl⟩) (by assumption) ?_
            simp only [Act.put, List.setIfInBounds_toArray, List.set_cons_zero, List.set_cons_succ]
            refine wpAnyH_take (i := 24) (oi := ⟨_, _, _, _, _, _⟩) (v := undef) rfl (by kernel_rfl) (by kernel_rfl) (by kernel_rfl) (fun _ _ _ h => h) (Or.inr ⟨by rfl, rfl⟩) (by assumption) ?_
            simp only [Act.put, List.setIfInBounds_toArray, List.set_cons_zero, List.set_cons_succ]
            refine wpAnyH_take (i := 25) (oi := ⟨_, _, _, _, _, _⟩) (v := undef) rfl (by kernel_rfl) (by kernel_rfl) (by kernel_rfl) (fun _ _ _ h => h) (Or.inr ⟨by rfl, rfl⟩) (by assumption) ?_
            simp only [Act.put, List.setIfInBounds_toArray, List.set_cons_zero, List.set_cons_succ]
            refine wpAnyH_take (i := 26) (oi := ⟨_, _, _, _, _, _⟩) (v := undef) rfl (by kernel_rfl) (by kernel_rfl) (by kernel_rfl) (fun _ _ _ h => h) (Or.inr ⟨by rfl, rfl⟩) (by assumption) ?_
            simp only [Act.put, List.setIfInBounds_toArray, List.set_cons_zero, List.set_cons_succ]
            refine wpAnyH_take (i := 27) (oi := ⟨_, _, _, _, _, _⟩) (v := undef) rfl (by kernel_rfl) (by kernel_rfl) (by kernel_rfl) (fun _ _ _ h => h) (Or.inr ⟨by rfl, rfl⟩) (by assumption) ?_
            simp only [Act.put, List.setIfInBounds_toArray, List.set_cons_zero, List.set_cons_succ]
            refine wpAnyH_take (i := 28) (oi := ⟨_, _, _, _, _, _⟩) (v := undef) rfl (by kernel_rfl) (by kernel_rfl) (by kernel_rfl) (fun _ _ _ h => h) (Or.inr ⟨by rfl, rfl⟩) (by assumption) ?_
            simp only [Act.put, List.setIfInBounds_toArray, List.set_cons_zero, List.set_cons_succ]
            refine wpAnyH_take (i := 29) (oi := ⟨_, _, _, _, _, _⟩) (v := undef) rfl (by kernel_rfl) (by kernel_rfl) (by kernel_rfl) (fun _ _ _ h => h) (Or.inr ⟨by rfl, rfl⟩) (by assumption) ?_
            simp only [Act.put, List.setIfInBounds_toArray, List.set_cons_zero, List.set_cons_succ]
            refine wpAnyH_take (i := 30) (oi := ⟨_, _, _, _, _, _⟩) (v := undef) rfl (by kernel_rfl) (by kernel_rfl) (by kernel_rfl) (fun _ _ _ h => h) (Or.inr ⟨by rfl, rfl⟩) (by assumption) ?_
            simp only [Act.put, List.setIfInBounds_toArray, List.set_cons_zero, List.set_cons_succ]
            refine wpAnyH_take (i := 31) (oi := ⟨_, _, _, _, _, _⟩) (v := undef) rfl (by kernel_rfl) (by kernel_rfl) (by kernel_rfl) (fun _ _ _ h => h) (Or.inr ⟨by rfl, rfl⟩) (by assumption) ?_
            simp only [Act.put, List.setIfInBounds_toArray, List.set_cons_zero, List.set_cons_succ]
            refine wpAnyH_take (i := 32) (oi := ⟨_, _, _, _, _, _⟩) (v := undef) rfl (by kernel_rfl) (by kernel_rfl) (by kernel_rfl) (fun _ _ _ h => h) (Or.inr ⟨by rfl, rfl⟩) (by assumption) ?_
            simp only [Act.put, List.setIfInBounds_toArray, List.set_cons_zero, List.set_cons_succ]
            refine wpAnyH_take (i := 33) (oi := ⟨_, _, _, _, _, _⟩) (v := undef) rfl (by kernel_rfl) (by kernel_rfl) (by kernel_rfl) (fun _ _ _ h => h) (Or.inr ⟨by rfl, rfl⟩) (by assumption) ?_
            simp only [Act.put, List.setIfInBounds_toArray, List.set_cons_zero, List.set_cons_succ]
            refine wpAnyH_take (i := 34) (oi := ⟨_, _, _, _, _, _⟩) (v := undef) rfl (by kernel_rfl) (by kernel_rfl) (by kernel_rfl) (fun _ _ _ h => h) (Or.inr ⟨by rfl, rfl⟩) (by assumption) ?_
            simp only [Act.put, List.setIfInBounds_toArray, List.set_cons_zero, List.set_cons_succ]
            refine wpAnyH_take (i := 35) (oi := ⟨_, _, _, _, _, _⟩) (v := undef) rfl (by kernel_rfl) (by kernel_rfl) (by kernel_rfl) (fun _ _ _ h => h) (Or.inr ⟨by rfl, rfl⟩) (by assumption) ?_
            simp only [Act.put, List.setIfInBounds_toArray, List.set_cons_zero, List.set_cons_succ]
            refine wpAnyH_take (i := 36) (oi := ⟨_, _, _, _, _, _⟩) (v := undef) rfl (by kernel_rfl) (by kernel_rfl) (by kernel_rfl) (fun _ _ _ h => h) (Or.inr ⟨by rfl, rfl⟩) (by assumption) ?_
            simp only [Act.put, List.setIfInBounds_toArray, List.set_cons_zero, List.set_cons_succ]
            refine wpAnyH_take (i := 37) (oi := ⟨_, _, _, _, _, _⟩) (v := undef) rfl (by kernel_rfl) (by kernel_rfl) (by kernel_rfl) (fun _ _ _ h => h) (Or.inr ⟨by rfl, rfl⟩) (by assumption) ?_
            simp only [Act.put, List.setIfInBounds_toArray, List.set_cons_zero, List.set_cons_succ]
            refine wpAnyH_take (i := 38) (oi := ⟨_, _, _, _, _, _⟩) (v := undef) rfl (by kernel_rfl) (by kernel_rfl) (by kernel_rfl) (fun _ _ _ h => h) (Or.inr ⟨by rfl, rfl⟩) (by assumption) ?_
            simp only [Act.put, List.setIfInBounds_toArray, List.set_cons_zero, List.set_cons_succ]
            refine wpAnyH_take (i := 39) (oi := ⟨_, _, _, _, _, _⟩) (v := undef) rfl (by kernel_rfl) (by kernel_rfl) (by kernel_rfl) (fun _ _ _ h => h) (Or.inr ⟨by rfl, rfl⟩) (by assumption) ?_
            simp only [Act.put, List.setIfInBounds_toArray, List.set_cons_zero, List.set_cons_succ]
            refine wpAnyH_take (i := 40) (oi := ⟨_, _, _, _, _, _⟩) (v := undef) rfl (by kernel_rfl) (by kernel_rfl) (by kernel_rfl) (fun _ _ _ h => h) (Or.inr ⟨by rfl, rfl⟩) (by assumption) ?_
            simp only [Act.put, List.setIfInBounds_toArray, List.set_cons_zero, List.set_cons_succ]
            refine wpAnyH_take (i := 41) (oi := ⟨_, _, _, _, _, _⟩) (v := undef) rfl (by kernel_rfl) (by kernel_rfl) (by kernel_rfl) (fun _ _ _ h => h) (Or.inr ⟨by rfl, rfl⟩) (by assumption) ?_
            simp only [Act.put, List.setIfInBounds_toArray, List.set_cons_zero, List.set_cons_succ]
            refine wpAnyH_take (i := 42) (oi := ⟨_, _, _, _, _, _⟩) (v := undef) rfl (by kernel_rfl) (by kernel_rfl) (by kernel_rfl) (fun _ _ _ h => h) (Or.inr ⟨by rfl, rfl⟩) (by assumption) ?_
            simp only [Act.put, List.setIfInBounds_toArray, List.set_cons_zero, List.set_cons_succ]
            refine wpAnyH_take (i := 43) (oi := ⟨_, _, _, _, _, _⟩) (v := ?_) rfl (by kernel_rfl) (by kernel_rfl) (by kernel_rfl) (fun _ _ _ h => h) (Or.inl ⟨by rfl, ?_⟩) (by assumption) ?_
            rotate_left
            · intro w hSw
              try dsimp only at hSw
              go_simp
              try with_reducible rfl
            simp only [Act.put, List.setIfInBounds_toArray, List.set_cons_zero, List.set_cons_succ]
            refine wpAnyH_take (i := 44) (oi := ⟨_, _, _, _, _, _⟩) (v := ?_) rfl (by kernel_rfl) (by kernel_rfl) (by kernel_rfl) (fun _ _ _ h => h) (Or.inl ⟨by rfl, ?_⟩) (by assumption) ?_
            rotate_left
            · intro w hSw
              try dsimp only at hSw
              go_simp
              try with_reducible rfl
            simp only [Act.put, List.setIfInBounds_toArray, List.set_cons_zero, List.set_cons_succ]
            refine wpAnyH_done (by kernel_rfl) ?_ _
            -- HEND0
            have B6 : Hid (Below w5.heap.size w5 w6) := hid (Bj.out.trans (((Below.refl _ _).drew.drew.trans b6).mono hsz))
            clear b6 ej e6 Tj Hj
            go_wp2_with fail
            go_roundw
            case rel => exact ⟨j + 1, by omega, by rw [← Htp.out, show j + 1 - 1 = j - 1 by have := Hj0.out; omega], by go_num, B6⟩
            case measure => simp [intOf]; omega
          · have z1 : (0 : Int) < (j : Int) := by omega
            have z2 : 0 < j := by omega
            obtain ⟨p, hp⟩ : ∃ p, j = p + 1 := ⟨j - 1, by omega⟩
            have hwp : IntKind.i64.wrap ((j : Int) - 1) = (p : Int) := by rw [iw' (by omega) (by omega)]; omega
            have hpk : p < k := by omega
            have hpk' : (p : Int) < (k : Int) := by omega
            obtain ⟨_, _, he, _, hgp, ep⟩ := Hj.out.cell.2 p hpk
            injection he with he; injection he with he1 he2; subst he1 he2
            obtain ⟨l2, hl2⟩ : ∃ l, nth L p = l := ⟨_, rfl⟩
            rw [hl2] at ep
            have hml2 := As.out.mem p (by have := Hk.out; omega)
            rw [hl2] at hml2
            obtain ⟨hb3, hb4⟩ := lits_small Tj.out.wf hml2
            obtain ⟨u2, hv2⟩ : ∃ v, l2.natAbs = v := ⟨_, rfl⟩
            have hmx2 : max l2 (-l2) = (u2 : Int) := by omega
            have hwn2 : IntKind.i64.wrap (-l2) = -l2 := iw' (by omega) (by omega)
            obtain ⟨ix, hix⟩ : ∃ i, T.indexOf (v : Int) = i := ⟨_, rfl⟩
            obtain ⟨ix2, hix2⟩ : ∃ i, T.indexOf (u2 : Int) = i := ⟨_, rfl⟩
            obtain ⟨q1, q2, q3⟩ := As.out.lvj j (by omega) (by have := Hk.out; omega)
            rw [show j - 1 = p by omega, Hl.out, hl2] at q3
            rw [Hl.out, Hlo.out] at q1 q2
            rw [Hdp.out] at q2
            unfold Tr.pos at q3
            rw [Hv.out, hv2, hix, hix2] at q3
            have g1 : (ix2 ≤ ix) = False := by simp; omega
            have g2 : (lj < 1) = False := by simp; omega
            have g3 : ((dp : Int) ≤ lj) = False := by simp; omega
            have Hix := hid hix
            have Hix2 := hid hix2
            have BJ : Hid (Below wr.heap.size wr wr) := Below.refl _ _
            clear hl2 hml2 hv2 hix hix2 q1 q2 q3 hp
            -- HAND1
            refine wp_region_held_drew (S := fun w' => w'.cell? ⟨g, o + j, none⟩ = some (.int .i64 l) ∧ w'.cell? ⟨g, o + p, none⟩ = some (.int .i64 l2) ∧ Hid (Trail w' (fun g => w1.heap.size ≤ g ∧ g < w2.heap.size) b T) ∧ Hid (Below wr.heap.size wr w')) (by kernel_rfl) ⟨ej, ep, hid Tj.out.drew.drew, hid (Below.refl _ _).drew.drew⟩ (fun hHeld => ?_)
            refine wpAnyH_take (i := 0) (oi := ⟨_, _, _, _, _, _⟩) (v := ?_) rfl (by kernel_rfl) (by kernel_rfl) (by kernel_rfl) (fun _ _ _ h => h) (Or.inl ⟨by rfl, ?_⟩) (by assumption) ?_
            rotate_left
            · intro w hSw
              try dsimp only at hSw
              go_simp
              try with_reducible rfl
            simp only [Act.put, List.setIfInBounds_toArray, List.set_cons_zero, List.set_cons_succ]
            refine wpAnyH_take (i := 1) (oi := ⟨_, _, _, _, _, _⟩) (v := ?_) rfl (by kernel_rfl) (by kernel_rfl) (by kernel_rfl) (fun _ _ _ h => h) (Or.inl ⟨by rfl, ?_⟩) (by assumption) ?_
            rotate_left
            · intro w hSw
              try dsimp only at hSw
              go_simp
              try with_reducible rfl
            simp only [Act.put, List.setIfInBounds_toArray, List.set_cons_zero, List.set_cons_succ]
            refine wpAnyH_take (i := 2) (oi := ⟨_, _, _, _, _, _⟩) (v := ?_) rfl (by kernel_rfl) (by kernel_rfl) (by kernel_rfl) (fun _ _ _ h => h) (Or.inl ⟨by rfl, ?_⟩) (by assumption) ?_
            rotate_left
            · intro w hSw
              try dsimp only at hSw
              go_simp
              try with_reducible rfl
            simp only [Act.put, List.setIfInBounds_toArray, List.set_cons_zero, List.set_cons_succ]
            refine wpAnyH_take (i := 3) (oi := ⟨_, _, _, _, _, _⟩) (v := ?_) rfl (by kernel_rfl) (by kernel_rfl) (by kernel_rfl) (fun _ _ _ h => h) (Or.inl ⟨by rfl, ?_⟩) (by assumption) ?_
            rotate_left
            · intro w hSw
              try dsimp only at hSw
              go_simp
              try with_reducible rfl
            simp only [Act.put, List.setIfInBounds_toArray, List.set_cons_zero, List.set_cons_succ]
            refine wpAnyH_take (i := 4) (oi := ⟨_, _, _, _, _, _⟩) (v := ?_) rfl (by kernel_rfl) (by kernel_rfl) (by kernel_rfl) (fun _ _ _ h => h) (Or.inl ⟨by rfl, ?_⟩) (by assumption) ?_
            rotate_left
            · intro w hSw
              try dsimp only at hSw
              go_simp
              try with_reducible rfl
            simp only [Act.put, List.setIfInBounds_toArray, List.set_cons_zero, List.set_cons_succ]
            refine wpAnyH_ready (rs := [5]) (by kernel_rfl) (by simp) (AllReadyH.cons (o := ⟨_, _, _, _, _, _⟩) rfl (fun K hK => ?_) AllReadyH.nil)
            go_simp
            refine (value_any (T := T) hHeld.2.2.1.out Hi64.out).mono ?_
            rw [Hval.out]
            rintro r w6 ⟨rfl, b6⟩
            go_simp
            refine hK.out _ _ ⟨keep_cell hHeld.1 b6, keep_cell hHeld.2.1 b6, hid (hHeld.2.2.1.out.below b6), hid (hHeld.2.2.2.out.trans (b6.mono hHeld.2.2.2.out.size))⟩ (fun hHeld => ?_)
            clear hK K b6
            try simp only [Act.put, List.setIfInBounds_toArray, List.set_cons_zero, List.set_cons_succ]
            refine wpAnyH_take (i := 6) (oi := ⟨_, _, _, _, _, _⟩) (v := ?_) rfl (by kernel_rfl) (by kernel_rfl) (by kernel_rfl) (fun _ _ _ h => h) (Or.inl ⟨by rfl, ?_⟩) (by assumption) ?_
            rotate_left
            · intro w hSw
              try dsimp only at hSw
              go_simp
              try with_reducible rfl
            simp only [Act.put, List.setIfInBounds_toArray, List.set_cons_zero, List.set_cons_succ]
            refine wpAnyH_take (i := 7) (oi := ⟨_, _, _, _, _, _⟩) (v := ?_) rfl (by kernel_rfl) (by kernel_rfl) (by kernel_rfl) (fun _ _ _ h => h) (Or.inl ⟨by rfl, ?_⟩) (by assumption) ?_
            rotate_left
            · intro w hSw
              try dsimp only at hSw
              go_simp
              try with_reducible rfl
            simp only [Act.put, List.setIfInBounds_toArray, List.set_cons_zero, List.set_cons_succ]
            refine wpAnyH_take (i := 8) (oi := ⟨_, _, _, _, _, _⟩) (v := ?_) rfl (by kernel_rfl) (by kernel_rfl) (by kernel_rfl) (fun _ _ _ h => h) (Or.inl ⟨by rfl, ?_⟩) (by assumption) ?_
            rotate_left
            · intro w hSw
              try dsimp only at hSw
              go_simp
              try with_reducible rfl
            simp only [Act.put, List.setIfInBounds_toArray, List.set_cons_zero, List.set_cons_succ]
            refine wpAnyH_take (i := 9) (oi := ⟨_, _, _, _, _, _⟩) (v := ?_) rfl (by kernel_rfl) (by kernel_rfl) (by kernel_rfl) (fun _ _ _ h => h) (Or.inl ⟨by rfl, ?_⟩) (by assumption) ?_
            rotate_left
            · intro w hSw
              try dsimp only at hSw
              go_simp
              try with_reducible rfl
            simp only [Act.put, List.setIfInBounds_toArray, List.set_cons_zero, List.set_cons_succ]
            refine wpAnyH_take (i := 10) (oi := ⟨_, _, _, _, _, _⟩) (v := ?_) rfl (by kernel_rfl) (by kernel_rfl) (by kernel_rfl) (fun _ _ _ h => h) (Or.inl ⟨by rfl, ?_⟩) (by assumption) ?_
            rotate_left
            · intro w hSw
              try dsimp only at hSw
              go_simp
              try with_reducible rfl
            simp only [Act.put, List.setIfInBounds_toArray, List.set_cons_zero, List.set_cons_succ]
            refine wpAnyH_take (i := 11) (oi := ⟨_, _, _, _, _, _⟩) (v := ?_) rfl (by kernel_rfl) (by kernel_rfl) (by kernel_rfl) (fun _ _ _ h => h) (Or.inl ⟨by rfl, ?_⟩) (by assumption) ?_
            rotate_left
            · intro w hSw
              try dsimp only at hSw
              go_simp
              try with_reducible rfl
            simp only [Act.put, List.setIfInBounds_toArray, List.set_cons_zero, List.set_cons_succ]
            refine wpAnyH_take (i := 12) (oi := ⟨_, _, _, _, _, _⟩) (v := ?_) rfl (by kernel_rfl) (by kernel_rfl) (by kernel_rfl) (fun _ _ _ h => h) (Or.inl ⟨by rfl, ?_⟩) (by assumption) ?_
            rotate_left
            · intro w hSw
              try dsimp only at hSw
              go_simp
              try with_reducible rfl
            simp only [Act.put, List.setIfInBounds_toArray, List.set_cons_zero, List.set_cons_succ]
            refine wpAnyH_take (i := 14) (oi := ⟨_, _, _, _, _, _⟩) (v := ?_) rfl (by kernel_rfl) (by kernel_rfl) (by kernel_rfl) (fun _ _ _ h => h) (Or.inl ⟨by rfl, ?_⟩) (by assumption) ?_
            rotate_left
            · intro w hSw
              try dsimp only at hSw
              go_simp
              try with_reducible rfl
            simp only [Act.put, List.setIfInBounds_toArray, List.set_cons_zero, List.set_cons_succ]
            refine wpAnyH_take (i := 15) (oi := ⟨_, _, _, _, _, _⟩) (v := ?_) rfl (by kernel_rfl) (by kernel_rfl) (by kernel_rfl) (fun _ _ _ h => h) (Or.inl ⟨by rfl, ?_⟩) (by assumption) ?_
            rotate_left
            · intro w hSw
              try dsimp only at hSw
              go_simp
              try with_reducible rfl
            simp only [Act.put, List.setIfInBounds_toArray, List.set_cons_zero, List.set_cons_succ]
            refine wpAnyH_take (i := 16) (oi := ⟨_, _, _, _, _, _⟩) (v := ?_) rfl (by kernel_rfl) (by kernel_rfl) (by kernel_rfl) (fun _ _ _ h => h) (Or.inl ⟨by rfl, ?_⟩) (by assumption) ?_
            rotate_left
            · intro w hSw
              try dsimp only at hSw
              go_simp
              try with_reducible rfl
            simp only [Act.put, List.setIfInBounds_toArray, List.set_cons_zero, List.set_cons_succ]
            refine wpAnyH_take (i := 17) (oi := ⟨_, _, _, _, _, _⟩) (v := ?_) rfl (by kernel_rfl) (by kernel_rfl) (by kernel_rfl) (fun _ _ _ h => h) (Or.inl ⟨by rfl, ?_⟩) (by assumption) ?_
            rotate_left
            · intro w hSw
              try dsimp only at hSw
              go_simp
              try with_reducible rfl
            simp only [Act.put, List.setIfInBounds_toArray, List.set_cons_zero, List.set_cons_succ]
            refine wpAnyH_take (i := 18) (oi := ⟨_, _, _, _, _, _⟩) (v := ?_) rfl (by kernel_rfl) (by kernel_rfl) (by kernel_rfl) (fun _ _ _ h => h) (Or.inl ⟨by rfl, ?_⟩) (by assumption) ?_
            rotate_left
            · intro w hSw
              try dsimp only at hSw
              go_simp
              try with_reducible rfl
            simp only [Act.put, List.setIfInBounds_toArray, List.set_cons_zero, List.set_cons_succ]
            refine wpAnyH_take (i := 19) (oi := ⟨_, _, _, _, _, _⟩) (v := ?_) rfl (by kernel_rfl) (by kernel_rfl) (by kernel_rfl) (fun _ _ _ h => h) (Or.inl ⟨by rfl, ?_⟩) (by assumption) ?_
            rotate_left
            · intro w hSw
              try dsimp only at hSw
              go_simp
              try with_reducible rfl
            simp only [Act.put, List.setIfInBounds_toArray, List.set_cons_zero, List.set_cons_succ]
            refine wpAnyH_take (i := 20) (oi := ⟨_, _, _, _, _, _⟩) (v := ?_) rfl (by kernel_rfl) (by kernel_rfl) (by kernel_rfl) (fun _ _ _ h => h) (Or.inl ⟨by rfl, ?_⟩) (by assumption) ?_
            rotate_left
            · intro w hSw
              try dsimp only at hSw
              go_simp
              try with_reducible rfl
            simp only [Act.put, List.setIfInBounds_toArray, List.set_cons_zero, List.set_cons_succ]
            refine wpAnyH_take (i := 21) (oi := ⟨_, _, _, _, _, _⟩) (v := ?_) rfl (by kernel_rfl) (by kernel_rfl) (by kernel_rfl) (fun _ _ _ h => h) (Or.inl ⟨by rfl, ?_⟩) (by assumption) ?_
            rotate_left
            · intro w hSw
              try dsimp only at hSw
              go_simp
              try with_reducible rfl
            simp only [Act.put, List.setIfInBounds_toArray, List.set_cons_zero, List.set_cons_succ]
            refine wpAnyH_take (i := 22) (oi := ⟨_, _, _, _, _, _⟩) (v := ?_) rfl (by kernel_rfl) (by kernel_rfl) (by kernel_rfl) (fun _ _ _ h => h) (Or.inl ⟨by rfl, ?_⟩) (by assumption) ?_
            rotate_left
            · intro w hSw
              try dsimp only at hSw
              go_simp
              try with_reducible rfl
            simp only [Act.put, List.setIfInBounds_toArray, List.set_cons_zero, List.set_cons_succ]
            refine wpAnyH_take (i := 23) (oi := ⟨_, _, _, _, _, _⟩) (v := ?_) rfl (by kernel_rfl) (by kernel_rfl) (by kernel_rfl) (fun _ _ _ h => h) (Or.inl ⟨by rfl, ?_⟩) (by assumption) ?_
            rotate_left
            · intro w hSw
              try dsimp only at hSw
              go_simp
              try with_reducible rfl
            simp only [Act.put, List.setIfInBounds_toArray, List.set_cons_zero, List.set_cons_succ]
            refine wpAnyH_take (i := 24) (oi := ⟨_, _, _, _, _, _⟩) (v := ?_) rfl (by kernel_rfl) (by kernel_rfl) (by kernel_rfl) (fun _ _ _ h => h) (Or.inl ⟨by rfl, ?_⟩) (by assumption) ?_
            rotate_left
            · intro w hSw
              try dsimp only at hSw
              go_simp
              try with_reducible rfl
            simp only [Act.put, List.setIfInBounds_toArray, List.set_cons_zero, List.set_cons_succ]
            refine wpAnyH_take (i := 25) (oi := ⟨_, _, _, _, _, _⟩) (v := ?_) rfl (by kernel_rfl) (by kernel_rfl) (by kernel_rfl) (fun _ _ _ h => h) (Or.inl ⟨by rfl, ?_⟩) (by assumption) ?_
            rotate_left
            · intro w hSw
              try dsimp only at hSw
              go_simp
              try with_reducible rfl
            simp only [Act.put, List.setIfInBounds_toArray, List.set_cons_zero, List.set_cons_succ]
            refine wpAnyH_take (i := 26) (oi := ⟨_, _, _, _, _, _⟩) (v := ?_) rfl (by kernel_rfl) (by kernel_rfl) (by kernel_rfl) (fun _ _ _ h => h) (Or.inl ⟨by rfl, ?_⟩) (by assumption) ?_
            rotate_left
            · intro w hSw
              try dsimp only at hSw
              go_simp
              try with_reducible rfl
            simp only [Act.put, List.setIfInBounds_toArray, List.set_cons_zero, List.set_cons_succ]
            refine wpAnyH_ready (rs := [13]) (by kernel_rfl) (by simp) (AllReadyH.cons (o := ⟨_, _, _, _, _, _⟩) rfl (fun K hK => ?_) AllReadyH.nil)
            go_simp
            refine (index_any (T := T) hHeld.2.2.1.out).mono ?_
            rw [Hix.out]
            rintro r w7 ⟨rfl, b7⟩
            go_simp
            refine hK.out _ _ ⟨keep_cell hHeld.1 b7, keep_cell hHeld.2.1 b7, hid (hHeld.2.2.1.out.below b7), hid (hHeld.2.2.2.out.trans (b7.mono hHeld.2.2.2.out.size))⟩ (fun hHeld => ?_)
            clear hK K b7
            try simp only [Act.put, List.setIfInBounds_toArray, List.set_cons_zero, List.set_cons_succ]
            refine wpAnyH_ready (rs := [27]) (by kernel_rfl) (by simp) (AllReadyH.cons (o := ⟨_, _, _, _, _, _⟩) rfl (fun K hK => ?_) AllReadyH.nil)
            go_simp
            refine (index_any (T := T) hHeld.2.2.1.out).mono ?_
            rw [Hix2.out]
            rintro r w8 ⟨rfl, b8⟩
            go_simp
            refine hK.out _ _ ⟨keep_cell hHeld.1 b8, keep_cell hHeld.2.1 b8, hid (hHeld.2.2.1.out.below b8), hid (hHeld.2.2.2.out.trans (b8.mono hHeld.2.2.2.out.size))⟩ (fun hHeld => ?_)
            clear hK K b8
            try simp only [Act.put, List.setIfInBounds_toArray, List.set_cons_zero, List.set_cons_succ]
            refine wpAnyH_take (i := 28) (oi := ⟨_, _, _, _, _, _⟩) (v := ?_) rfl (by kernel_rfl) (by kernel_rfl) (by kernel_rfl) (fun _ _ _ h => h) (Or.inl ⟨by rfl, ?_⟩) (by assumption) ?_
            rotate_left
            · intro w hSw
              try dsimp only at hSw
              go_simp
              try with_reducible rfl
            simp only [Act.put, List.setIfInBounds_toArray, List.set_cons_zero, List.set_cons_succ]
            refine wpAnyH_take (i := 29) (oi := ⟨_, _, _, _, _, _⟩) (v := ?_) rfl (by kernel_rfl) (by kernel_rfl) (by kernel_rfl) (fun _ _ _ h => h) (Or.inl ⟨by rfl, ?_⟩) (by assumption) ?_
            rotate_left
            · intro w hSw
              try dsimp only at hSw
              go_simp
              try with_reducible rfl
            simp only [Act.put, List.setIfInBounds_toArray, List.set_cons_zero, List.set_cons_succ]
            refine wpAnyH_take (i := 30) (oi := ⟨_, _, _, _, _, _⟩) (v := ?_) rfl (by kernel_rfl) (by kernel_rfl) (by kernel_rfl) (fun _ _ _ h => h) (Or.inl ⟨by rfl, ?_⟩) (by assumption) ?_
            rotate_left
            · intro w hSw
              try dsimp only at hSw
              go_simp
              try with_reducible rfl
            simp only [Act.put, List.setIfInBounds_toArray, List.set_cons_zero, List.set_cons_succ]
            refine wpAnyH_take (i := 31) (oi := ⟨_, _, _, _, _, _⟩) (v := ?_) rfl (by kernel_rfl) (by kernel_rfl) (by kernel_rfl) (fun _ _ _ h => h) (Or.inl ⟨by rfl, ?_⟩) (by assumption) ?_
            rotate_left
            · intro w hSw
              try dsimp only at hSw
              go_simp
              try with_reducible rfl
            simp only [Act.put, List.setIfInBounds_toArray, List.set_cons_zero, List.set_cons_succ]
            refine wpAnyH_take (i := 33) (oi := ⟨_, _, _, _, _, _⟩) (v := ?_) rfl (by kernel_rfl) (by kernel_rfl) (by kernel_rfl) (fun _ _ _ h => h) (Or.inl ⟨by rfl, ?_⟩) (by assumption) ?_
            rotate_left
            · intro w hSw
              try dsimp only at hSw
              go_simp
              try with_reducible rfl
            simp only [Act.put, List.setIfInBounds_toArray, List.set_cons_zero, List.set_cons_succ]
            refine wpAnyH_ready (rs := [32]) (by kernel_rfl) (by simp) (AllReadyH.cons (o := ⟨_, _, _, _, _, _⟩) rfl (fun K hK => ?_) AllReadyH.nil)
            go_simp
            refine (level_any (T := T) hHeld.2.2.1.out).mono ?_
            rw [Hlj.out]
            rintro r w9 ⟨rfl, b9⟩
            go_simp
            refine hK.out _ _ ⟨keep_cell hHeld.1 b9, keep_cell hHeld.2.1 b9, hid (hHeld.2.2.1.out.below b9), hid (hHeld.2.2.2.out.trans (b9.mono hHeld.2.2.2.out.size))⟩ (fun hHeld => ?_)
            clear hK K b9
            try simp only [Act.put, List.setIfInBounds_toArray, List.set_cons_zero, List.set_cons_succ]
            refine wpAnyH_ready (rs := [34]) (by kernel_rfl) (by simp) (AllReadyH.cons (o := ⟨_, _, _, _, _, _⟩) rfl (fun K hK => ?_) AllReadyH.nil)
            go_simp
            refine (depth_any (T := T) hHeld.2.2.1.out).mono ?_
            rw [Hdp.out]
            rintro r w' ⟨rfl, rfl⟩
            go_simp
            refine hK.out _ _ hHeld (fun hHeld => ?_)
            clear hK K
            try simp only [Act.put, List.setIfInBounds_toArray, List.set_cons_zero, List.set_cons_succ]
            refine wpAnyH_take (i := 35) (oi := ⟨_, _, _, _, _, _⟩) (v := ?_) rfl (by kernel_rfl) (by kernel_rfl) (by kernel_rfl) (fun _ _ _ h => h) (Or.inl ⟨by rfl, ?_⟩) (by assumption) ?_
            rotate_left
            · intro w hSw
              try dsimp only at hSw
              go_simp
              try with_reducible rfl
            simp only [Act.put, List.setIfInBounds_toArray, List.set_cons_zero, List.set_cons_succ]
            refine wpAnyH_take (i := 36) (oi := ⟨_, _, _, _, _, _⟩) (v := ?_) rfl (by kernel_rfl) (by kernel_rfl) (by kernel_rfl) (fun _ _ _ h => h) (Or.inl ⟨by rfl, ?_⟩) (by assumption) ?_
            rotate_left
            · intro w hSw
              try dsimp only at hSw
              go_simp
              try with_reducible rfl
            simp only [Act.put, List.setIfInBounds_toArray, List.set_cons_zero, List.set_cons_succ]
            refine wpAnyH_take (i := 37) (oi := ⟨_, _, _, _, _, _⟩) (v := ?_) rfl (by kernel_rfl) (by kernel_rfl) (by kernel_rfl) (fun _ _ _ h => h) (Or.inl ⟨by rfl, ?_⟩) (by assumption) ?_
            rotate_left
            · intro w hSw
              try dsimp only at hSw
              go_simp
              try with_reducible rfl
            simp only [Act.put, List.setIfInBounds_toArray, List.set_cons_zero, List.set_cons_succ]
            refine wpAnyH_take (i := 38) (oi := ⟨_, _, _, _, _, _⟩) (v := ?_) rfl (by kernel_rfl) (by kernel_rfl) (by kernel_rfl) (fun _ _ _ h => h) (Or.inl ⟨by rfl, ?_⟩) (by assumption) ?_
            rotate_left
            · intro w hSw
              try dsimp only at hSw
              go_simp
              try with_reducible rfl
            simp only [Act.put, List.setIfInBounds_toArray, List.set_cons_zero, List.set_cons_succ]
            refine wpAnyH_take (i := 39) (oi := ⟨_, _, _, _, _, _⟩) (v := ?_) rfl (by kernel_rfl) (by kernel_rfl) (by kernel_rfl) (fun _ _ _ h => h) (Or.inl ⟨by rfl, ?_⟩) (by assumption) ?_
            rotate_left
            · intro w hSw
              try dsimp only at hSw
              go_simp
              try with_reducible rfl
            simp only [Act.put, List.setIfInBounds_toArray, List.set_cons_zero, List.set_cons_succ]
            refine wpAnyH_ready (rs := [40]) (by kernel_rfl) (by simp) (AllReadyH.cons (o := ⟨_, _, _, _, _, _⟩) rfl (fun K hK => ?_) AllReadyH.nil)
            go_simp
            refine (level_any (T := T) hHeld.2.2.1.out).mono ?_
            rw [Hlj.out]
            rintro r w10 ⟨rfl, b10⟩
            go_simp
            refine hK.out _ _ ⟨keep_cell hHeld.1 b10, keep_cell hHeld.2.1 b10, hid (hHeld.2.2.1.out.below b10), hid (hHeld.2.2.2.out.trans (b10.mono hHeld.2.2.2.out.size))⟩ (fun hHeld => ?_)
            clear hK K b10
            try simp only [Act.put, List.setIfInBounds_toArray, List.set_cons_zero, List.set_cons_succ]
            refine wpAnyH_take (i := 41) (oi := ⟨_, _, _, _, _, _⟩) (v := ?_) rfl (by kernel_rfl) (by kernel_rfl) (by kernel_rfl) (fun _ _ _ h => h) (Or.inl ⟨by rfl, ?_⟩) (by assumption) ?_
            rotate_left
            · intro w hSw
              try dsimp only at hSw
              go_simp
              try with_reducible rfl
            simp only [Act.put, List.setIfInBounds_toArray, List.set_cons_zero, List.set_cons_succ]
            refine wpAnyH_take (i := 42) (oi := ⟨_, _, _, _, _, _⟩) (v := ?_) rfl (by kernel_rfl) (by kernel_rfl) (by kernel_rfl) (fun _ _ _ h => h) (Or.inl ⟨by rfl, ?_⟩) (by assumption) ?_
            rotate_left
            · intro w hSw
              try dsimp only at hSw
              go_simp
              try with_reducible rfl
            simp only [Act.put, List.setIfInBounds_toArray, List.set_cons_zero, List.set_cons_succ]
            refine wpAnyH_take (i := 43) (oi := ⟨_, _, _, _, _, _⟩) (v := ?_) rfl (by kernel_rfl) (by kernel_rfl) (by kernel_rfl) (fun _ _ _ h => h) (Or.inl ⟨by rfl, ?_⟩) (by assumption) ?_
            rotate_left
            · intro w hSw
              try dsimp only at hSw
              go_simp
              try with_reducible rfl
            simp only [Act.put, List.setIfInBounds_toArray, List.set_cons_zero, List.set_cons_succ]
            refine wpAnyH_take (i := 44) (oi := ⟨_, _, _, _, _, _⟩) (v := ?_) rfl (by kernel_rfl) (by kernel_rfl) (by kernel_rfl) (fun _ _ _ h => h) (Or.inl ⟨by rfl, ?_⟩) (by assumption) ?_
            rotate_left
            · intro w hSw
              try dsimp only at hSw
              go_simp
              try with_reducible rfl
            simp only [Act.put, List.setIfInBounds_toArray, List.set_cons_zero, List.set_cons_succ]
            refine wpAnyH_done (by kernel_rfl) ?_ _
            have B10 : Hid (Below w5.heap.size w5 w10) := hid (Bj.out.trans (hHeld.2.2.2.out.mono hsz))
            have T10 := hHeld.2.2.1
            have s10 := B10.out.size
            clear hHeld Tj Hj ej ep BJ
            go_wp2_with fail
            refine (level_any (T := T) (v := (v : Int)) T10.out).mono ?_
            rw [Hlj.out]
            rintro r w11 ⟨rfl, b11⟩
            have B11 : Hid (Below w5.heap.size w5 w11) := hid (B10.out.trans (b11.mono s10))
            clear b11 T10
            go_wp2_with fail
            go_roundw
            case rel => exact ⟨j + 1, by omega, by rw [top_step z2 (by have := Hk.out; omega), Htp.out, Hl.out, Hlo.out], by go_num, B11⟩
            case measure => simp [intOf]; omega
            -- HEND1
        · have y1 : ((j : Int) < (k : Int)) = False := by simp; omega
          have htl : tp = (lv : Int) := by
            rw [← Htp.out, List.take_of_length_le (by have := Hk.out; simp; omega), As.out.top]
          subst htl
          have HI : Hid (∀ x ∈ L, I64 x) := hid fun x hx => by
            obtain ⟨q, hq, e⟩ := List.mem_iff_getElem.1 hx
            have hm := As.out.mem q hq
            rw [nth_eq hq, e] at hm
            have := lits_small Tj.out.wf hm
            unfold I64
            omega
          clear Htp
          go_wp2_with fail
          refine (undo_e Tj.out (lv : Int)).mono ?_
          rintro r w6 ⟨⟨u, rfl, _⟩, t6, m6⟩
          rw [show lvl (lv : Int) = lv by unfold lvl; rw [if_neg (by omega)]; omega] at t6
          have T6 := hid t6
          have H6 := hid (Hj.out.mod m6 fun q _ hf hg => by omega)
          have B6 : Hid (Below w.heap.size w w6) := hid (below_mod (B5.out.trans (Bj.out.mono (by omega))) (by omega) m6 fun q hq => by omega)
          have s6 := m6.size
          clear t6 m6 Tj Hj
          go_wp2_with fail
          go_loopw [13] (fun iv W => ∃ i : Nat, i ≤ k ∧ iv = .int .i64 i ∧ Hid (Below w6.heap.size w6 W)) (fun iv _ => k - (intOf iv).toNat)
          case atStart => exact ⟨0, by omega, rfl, Below.refl _ _⟩
          case round =>
            obtain ⟨i, hi, rfl, Bi⟩ := hrel
            have hsi := Bi.out.size
            have Ti := hid (T6.out.below Bi.out)
            have Hi := hid (H6.out.below Bi.out)
            by_cases hik : i < k
            · have z0 : (i : Int) < (k : Int) := by omega
              obtain ⟨_, _, he, _, hgi, ei⟩ := Hi.out.cell.2 i hik
              injection he with he; injection he with he1 he2; subst he1 he2
              obtain ⟨l, hl⟩ : ∃ l, nth L i = l := ⟨_, rfl⟩
              rw [hl] at ei
              have hi64 : I64 l := HI.out l (by rw [← hl]; exact nth_mem (by have := Hk.out; omega))
              have Hi64 := hid hi64
              by_cases i0 : i = 0
              · subst i0
                have hv := As.out.free
                rw [hl] at hv
                have Hv := hid hv
                rw [Nat.add_zero] at ei
                clear hv hl hi64
                go_wp2_with fail
                refine (value_any Ti.out Hi64.out).mono ?_
                rw [Hv.out]
                rintro r w7 ⟨rfl, b7⟩
                have B7 : Hid (Below w6.heap.size w6 w7) := hid (Bi.out.trans (b7.mono hsi))
                clear b7 Ti Hi ei
                go_wp2_with fail
                go_roundw
                case rel => exact ⟨1, by omega, by go_num, B7⟩
                case measure => simp [intOf]; omega
              · have hv := As.out.off i (by omega) (by have := Hk.out; omega)
                rw [hl] at hv
                have Hv := hid hv
                have z1 : ((i : Int) = 0) = False := by simp; omega
                have z2 : ((i : Int) == 0) = false := by simp; omega
                have z3 : 0 < i := by omega
                have z4 : (0 : Int) < (i : Int) := by omega
                clear hv hl hi64 i0
                go_wp2_with fail
                refine (value_any Ti.out Hi64.out).mono ?_
                rw [Hv.out]
                rintro r w7 ⟨rfl, b7⟩
                have B7 : Hid (Below w6.heap.size w6 w7) := hid (Bi.out.trans (b7.mono hsi))
                clear b7 Ti Hi ei
                go_wp2_with fail
                go_roundw
                case rel => exact ⟨i + 1, by omega, by go_num, B7⟩
                case measure => simp [intOf]; omega
            · have z0 : ((i : Int) < (k : Int)) = False := by simp; omega
              obtain ⟨_, _, he, _, hg0, e0⟩ := Hi.out.cell.2 0 k0
              injection he with he; injection he with he1 he2; subst he1 he2
              rw [Nat.add_zero, Hl0.out] at e0
              have Bx : Hid (Below w.heap.size w wr) := hid (B6.out.trans (Bi.out.mono (by have := B6.out.size; omega)))
              have hcan := As.out.can
              rw [Hl0.out] at hcan
              have Hcan := hid hcan
              clear hcan
              go_wp2_with fail
              refine (imply_e Ti.out Hl64.out Hi.out (by omega) HI.out).mono ?_
              rintro r w7 ⟨rfl, t7, m7⟩
              rw [Hcan.out]
              have e7 : w7.cell? ⟨g, o, none⟩ = some (.int .i64 l0) := (World.cell?_of_block (m7.block g hg0 (by omega))).trans e0
              have hv := value_imp Hcan.out
              have Hv := hid hv
              have T7 := hid t7
              have B7 : Hid (Below w.heap.size w w7) := hid (below_mod Bx.out (by have := Bx.out.size; omega) m7 fun q hq => by omega)
              clear t7 m7 hv e0 Ti Hi
              go_wp2_with fail
              refine (value_any T7.out Hl64.out).mono ?_
              rw [Hv.out]
              rintro r w8 ⟨rfl, b8⟩
              have B8 : Hid (Below w.heap.size w w8) := hid (B7.out.trans (b8.mono (by have := B7.out.size; omega)))
              clear b8 e7
              go_wp2_with fail
              go_ret
              exact ⟨rfl, B8.out⟩
    · have e1 : T.ans cs = [] := by unfold Tr.ans; rw [if_neg hok]
      have e2 : T.ansLv cs = 0 := by unfold Tr.ansLv; rw [if_neg hok]
      have e3 : lerr (okFor T cs) = 2 := by unfold lerr; rw [if_neg hok]
      rw [e1] at hr4 ⊢
      rw [e2, e3]
      clear e1 e2 e3 hok hr4
      go_wp2_with fail
      go_ret
      exact ⟨rfl, B4.out⟩
end Go.Proofs.Ytanhacdadgbjdaa
