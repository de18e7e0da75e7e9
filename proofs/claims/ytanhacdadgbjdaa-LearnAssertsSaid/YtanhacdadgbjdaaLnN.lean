/-
  LearnErrs: the walk.
-/
import Derived.Test.YtanhacdadgbjdaaLnM
namespace Go.Proofs.Ytanhacdadgbjdaa
open Go.RowKit

theorem few_small {T : Tr} (h : T.few) : T.vars ≤ 1000 := by have := h.vars; omega
theorem few_reasons {T : Tr} (h : T.few) : ∀ m ∈ T.lits, (T.reasonOf (m.natAbs : Nat)).length ≤ 100 := fun m _ => by have := few_reason h (m.natAbs : Nat); omega
theorem lits_i64 {T : Tr} (h : T.WF) {cs : List Int} (hc : ∀ x ∈ cs, -x ∈ T.lits) : ∀ x ∈ cs, I64 x := fun x hx => by
  have := lits_small h (hc x hx)
  unfold I64
  omega

set_option maxRecDepth 100000 in
set_option maxHeartbeats 4000000 in
theorem errs_walk {w : World} {v v2 : Value} {os : List Mvd} {fs : List Int} {R2 : Option Addr} {c2 : Nat} {lit : Int} (hm : MvRd w v os) (hr : Rd w (fun _ => True) 1 v2 fs.length (ints fs) ∧ (∀ y ∈ fs, I64 y) ∧ v2 = .slice R2 fs.length c2) (hw : (Lit.int .i64 lit).wf = true) :
    Calls Try.prog 5 #[v, v2, .int .i64 lit] w fun r w' => r = .returned (.bool true) ∧ Below w.heap.size w w' := by
  have hl := lwf_i64 hw
  obtain ⟨hr, hi, rfl⟩ := hr
  obtain ⟨R, c, rfl⟩ : ∃ R c, v = .slice R os.length c := by
    obtain ⟨A, cap, h, _⟩ := hm
    exact ⟨A, cap, h⟩
  obtain ⟨n, hn⟩ : ∃ n, os.length = n := ⟨_, rfl⟩
  obtain ⟨n2, hn2⟩ : ∃ n, fs.length = n := ⟨_, rfl⟩
  rw [hn] at hm ⊢
  rw [hn2] at hr ⊢
  have Hm := hid hm
  have Hr := hid hr
  have Hi := hid hi
  have Hl := hid hl
  clear hm hr hi hw hn hn2 hl
  go_enter Try.func5, Try.ntmps5
  go_wp2_with fail
  refine awake_any.mono ?_
  rintro r w1 ⟨rfl, b1⟩
  have B1 := hid b1
  have s1 := b1.size
  clear b1
  go_wp2_with fail
  refine (built_any (Hm.out.below B1.out)).mono ?_
  rintro r w2 ⟨b, T, rfl, ht, hf, b2⟩
  have B2 : Hid (Below w.heap.size w w2) := hid (B1.out.trans (b2.mono (by omega)))
  have s2 := b2.size
  have Ht := hid ht.restrict
  have Hf := hid hf
  clear ht hf b2
  by_cases h100 : 100 < n2
  · have x1 : (100 : Int) < (n2 : Int) := by omega
    go_wp2_with fail
    go_ret
    exact ⟨rfl, B2.out⟩
  · have x1 : ((100 : Int) < (n2 : Int)) = False := by simp; omega
    go_wp2_with fail
    refine (clause_any Ht.out (few_small Hf.out) (Hr.out.below B2.out) Hi.out (by omega)).mono ?_
    rintro r w3 ⟨⟨cs, R', c', rfl, _⟩, b3⟩
    have B3 : Hid (Below w.heap.size w w3) := hid (B2.out.trans (b3.mono (by omega)))
    have T3 := hid (Ht.out.below b3)
    have s3 := b3.size
    clear b3
    go_wp2_with fail
    refine (learn_dead (.inl rfl)).mono ?_
    rintro r w4 ⟨rfl, rfl⟩
    go_wp2_with fail
    have N4 : NoTrail ((w3.alloc (.cells #[.int .i64 0, .map none, .slice none 0 0, .slice none 0 0] 42)).alloc (.cells #[.int .i64 lit] 3)) (some ⟨w3.heap.size, 0, none⟩) :=
      .inr ⟨_, rfl, (World.cell?_alloc_ne _ _ _ _ (by simp)).trans ((cell_of_row _ _ 1 _ _ _ (heap_alloc_new w3 _)).trans rfl)⟩
    have b4 : Below w3.heap.size w3 ((w3.alloc (.cells #[.int .i64 0, .map none, .slice none 0 0, .slice none 0 0] 42)).alloc (.cells #[.int .i64 lit] 3)) := Bl.alloc (Bl.alloc (Below.refl _ _))
    refine (learn_dead N4).mono ?_
    rintro r w5 ⟨rfl, rfl⟩
    generalize (w3.alloc (.cells #[.int .i64 0, .map none, .slice none 0 0, .slice none 0 0] 42)).alloc (.cells #[.int .i64 lit] 3) = w4 at *
    have B4 : Hid (Below w.heap.size w w4) := hid (B3.out.trans (b4.mono (by omega)))
    have T4 := hid (T3.out.below b4)
    have s4 := b4.size
    clear b4 N4 T3
    go_wp2_with fail
    refine (learn_any T4.out (Rd.empty w4 (fun _ => True) none) (fun x hx => by cases hx) (by omega) (few_small Hf.out) (few_reasons Hf.out)).mono ?_
    rintro r w5 ⟨⟨R5, c5, rfl, _⟩, b5⟩
    rw [show lerr (okFor T []) = 2 by rw [okFor_nil]; rfl]
    have B5 : Hid (Below w.heap.size w w5) := hid (B4.out.trans (b5.mono (by omega)))
    have T5 := hid (T4.out.below b5)
    have s5 := b5.size
    clear b5 T4
    go_wp2_with fail
    refine (clause_any T5.out (few_small Hf.out) (Hr.out.below B5.out) Hi.out (by omega)).mono ?_
    rintro r w6 ⟨⟨ds, R6, c6, rfl, ho6, hd6, hl6⟩, b6⟩
    have B6 : Hid (Below w.heap.size w w6) := hid (B5.out.trans (b6.mono (by omega)))
    have T6 := hid (T5.out.below b6)
    have s6 := b6.size
    have Ho6 := hid ho6
    have Hd6 := hid hd6
    clear b6 T5 ho6 hd6
    go_wp2_with (at_builtin; refine wpList_append_ints rfl _ _ rfl (Ho6.out.below ((Below.refl _ _).alloc (Nat.le_refl _) _)) (own_one w6 (.int .i64 lit)).rd rfl rfl (by simp [Value.oneCell']) (by omega) ?_; intro Av cv w7 ho7 hm7 hr7)
    have B7 : Hid (Below w.heap.size w w7) := hid (below_mod (Bl.alloc B6.out) (by simp; omega) hm7 fun g hg => by have := (Ho6.out.row hg).1; omega)
    have T7 := hid ((T6.out.below (Bl.alloc (Below.refl _ _))).mod hm7 fun g _ hf hg => by have := (Ho6.out.row hg).1; omega)
    have s7 := hm7.size
    simp only [World.size_alloc] at s7
    have Ho7 : Hid (Rd w7 (fun g => w5.heap.size ≤ g ∨ (w6.alloc (.cells #[.int .i64 lit] 3)).heap.size ≤ g) 1 (.slice Av (ds.length + 1) cv) (ds.length + 1) (ints (ds ++ [lit]))) := by
      rw [ints_append]
      exact hid ho7.rd
    clear hm7 ho7 hr7 T6
    refine (learn_any T7.out Ho7.out (fun x hx => by
      rcases List.mem_append.1 hx with hx | hx
      · exact lits_i64 T7.out.wf Hd6.out x hx
      · rw [List.mem_singleton.1 hx]; exact Hl.out) (by omega) (few_small Hf.out) (few_reasons Hf.out)).mono ?_
    rintro r w8 ⟨⟨R8, c8, rfl, _⟩, b8⟩
    have hE : Hid (T.value lit = -1 ∨ lerr (okFor T (ds ++ [lit])) = 2) := by
      by_cases hv : T.value lit = -1
      · exact .inl hv
      · exact .inr (by rw [okFor_bad hv]; rfl)
    obtain ⟨e8, he8⟩ : ∃ e, lerr (okFor T (ds ++ [lit])) = e := ⟨_, rfl⟩
    rw [he8] at hE ⊢
    have B8 : Hid (Below w.heap.size w w8) := hid (B7.out.trans (b8.mono (by omega)))
    have T8 := hid (T7.out.below b8)
    have s8 := b8.size
    clear b8 T7 Ho7 he8
    go_wp2_with fail
    refine (lits_any T8.out).mono ?_
    rintro r w9 ⟨⟨u, rfl, hu⟩, b9⟩
    obtain ⟨m, hm⟩ : ∃ m, T.L.length = m := ⟨_, rfl⟩
    rw [hm] at hu
    obtain ⟨A', c9, rfl, _⟩ := hu.form
    have hmc : (m : Int) ≤ (c9 : Int) := by
      obtain ⟨_, A2, c2, hv2, h2, _⟩ := hu.rd
      injection hv2 with _ _ h3
      omega
    have hmm : m ≤ 30 := by
      have h1 := T8.out.wf.len
      have h2 := Hf.out.vars
      omega
    have Hu := hid hu.rd
    have Hmm := hid hm
    have B9 : Hid (Below w.heap.size w w9) := hid (B8.out.trans (b9.mono (by omega)))
    have T9 := hid (T8.out.below b9)
    have s9 := b9.size
    clear hu b9 hm T8
    go_wp2_with fail
    go_loopw [22, 24] (fun xv jv W => ∃ (j : Nat) (xs : List Int) (X : Option Addr) (cx : Nat), j ≤ m ∧ jv = .int .i64 j ∧ xv = .slice X xs.length cx ∧ Hid (xs.length ≤ j) ∧ Hid (Own W (fun g => w9.heap.size ≤ g) 3 1 (.slice X xs.length cx) xs.length (ints xs)) ∧ Hid (∀ x ∈ xs, -x ∈ T.lits ∧ T.lvOf x < T.depth) ∧ Hid (Below w9.heap.size w9 W)) (fun _ jv _ => m - (intOf jv).toNat)
    case atStart => exact ⟨0, [], none, 0, by omega, rfl, rfl, hid (by simp), Own.nil _ _ _ _, fun x hx => by simp at hx, Below.refl _ _⟩
    case round =>
      obtain ⟨j, xs, X, cx, hj, rfl, rfl, Hxl, Ho, Hx, Bj⟩ := hrel
      have hsz := Bj.out.size
      have Tj := hid (T9.out.below Bj.out)
      by_cases hlt : j < m
      · have y1 : (j : Int) < (m : Int) := by omega
        obtain ⟨g, o, rfl, hgF, hg, e0⟩ := (Hu.out.below Bj.out).cell.2 j hlt
        obtain ⟨l, hlj⟩ : ∃ l, nth T.lits j = l := ⟨_, rfl⟩
        have hmem : l ∈ T.lits := by
          rw [← hlj]
          exact nth_mem (by have := Hmm.out; simp [Tr.lits]; omega)
        rw [hlj] at e0
        obtain ⟨hb1, hb2⟩ := lits_small Tj.out.wf hmem
        obtain ⟨v, hv⟩ : ∃ v, l.natAbs = v := ⟨_, rfl⟩
        have hmx : max l (-l) = (v : Int) := by omega
        have hwn : IntKind.i64.wrap (-l) = -l := iw' (by omega) (by omega)
        obtain ⟨lv, hlv⟩ : ∃ lv, T.levelOf (v : Int) = lv := ⟨_, rfl⟩
        have hlo : Hid (T.lvOf (-l) = lv) := hid (by rw [lvOf_neg]; unfold Tr.lvOf; rw [hv]; exact hlv)
        have Hlv := hid hlv
        have Hmem := hid hmem
        clear hlj hmem hv hlv
        go_wp2_with fail
        by_cases hd : lv < (T.depth : Int)
        · go_region_held3 (fun w' => w'.cell? ⟨g, o + j, none⟩ = some (.int .i64 l))
            (first | go_keep | exact (b4.cell (p := ⟨g, o + j, none⟩) hg).trans e0)
            (first
              | (go_at_call 12; refine (level_any (v := (v : Int)) Tj.out.drew).mono ?_; rw [Hlv.out]; rintro r w4 ⟨rfl, b4⟩)
              | (go_at_call 17; refine (depth_any (T := T) (by first | exact Tj.out.drew | exact Tj.out.drew.below b4)).mono ?_; rintro r w' ⟨rfl, rfl⟩))
          have B4 : Below wr.heap.size wr w4 := (Below.refl _ _).drew.trans b4
          have Bk : Hid (Below w9.heap.size w9 w4) := hid (Bj.out.trans (B4.mono (by omega)))
          have sk := B4.size
          have Hd := hid hd
          have e1 := (B4.cell (p := ⟨g, o + j, none⟩) hg).trans e0
          have Ho4 := hid (Ho.out.below B4)
          clear b4 e0 B4 Tj
          go_wp2_with (at_builtin; refine wpList_append_ints rfl _ _ rfl (Ho4.out.below ((Below.refl _ _).alloc (Nat.le_refl _) _)) (own_one w4 (.int .i64 (-l))).rd rfl rfl (by simp [Value.oneCell']) (by have := Hxl.out; omega) ?_; intro A5 c5' w5 ho5 hm5 hr5)
          have B5' : Hid (Below w9.heap.size w9 w5) := hid (below_mod (Bl.alloc Bk.out) (by simp; omega) hm5 fun g hg => (Ho4.out.row hg).1)
          go_roundw
          case rel =>
            refine ⟨j + 1, xs ++ [-l], A5, c5', by omega, by go_num, by simp, hid (by have := Hxl.out; simp; omega), ?_, ?_, B5'⟩
            · rw [ints_append, List.length_append]
              exact ho5.mono fun g _ _ hg => hg.elim id fun hg => by simp at hg; omega
            · intro z hz
              rcases List.mem_append.1 hz with hz | hz
              · exact Hx.out z hz
              · rw [List.mem_singleton.1 hz, Int.neg_neg, hlo.out]; exact ⟨Hmem.out, Hd.out⟩
          case measure => simp [intOf]; omega
        · have hd1 : (lv < (T.depth : Int)) = False := by simpa using hd
          go_region_held3 (fun w' => w'.cell? ⟨g, o + j, none⟩ = some (.int .i64 l))
            (first | go_keep | exact (b4.cell (p := ⟨g, o + j, none⟩) hg).trans e0)
            (first
              | (go_at_call 12; refine (level_any (v := (v : Int)) Tj.out.drew).mono ?_; rw [Hlv.out]; rintro r w4 ⟨rfl, b4⟩)
              | (go_at_call 17; refine (depth_any (T := T) (by first | exact Tj.out.drew | exact Tj.out.drew.below b4)).mono ?_; rintro r w' ⟨rfl, rfl⟩))
          have B4 : Below wr.heap.size wr w4 := (Below.refl _ _).drew.trans b4
          have Bk : Hid (Below w9.heap.size w9 w4) := hid (Bj.out.trans (B4.mono (by omega)))
          have sk := B4.size
          have Ho4 := hid (Ho.out.below B4)
          clear b4 e0 B4 Tj hd
          go_wp2_with fail
          go_roundw
          case rel => exact ⟨j + 1, xs, X, cx, by omega, by go_num, rfl, hid (by have := Hxl.out; omega), Ho4, Hx, Bk⟩
          case measure => simp [intOf]; omega
      · have y1 : ((j : Int) < (m : Int)) = False := by simp; omega
        go_wp2_with fail
        refine (learn_any Tj.out Ho.out.rd (lits_i64 Tj.out.wf fun x hx => (Hx.out x hx).1) (by have := Hxl.out; omega) (few_small Hf.out) (few_reasons Hf.out)).mono ?_
        rintro r w10 ⟨⟨R10, c10, rfl, _⟩, b10⟩
        rw [show lerr (okFor T xs) = 2 by rw [okFor_low fun x hx => (Hx.out x hx).2]; rfl]
        have B10 : Hid (Below w.heap.size w w10) := hid (B9.out.trans ((Bj.out.trans (b10.mono (by omega))).mono (by omega)))
        have T10 := hid (Tj.out.below b10)
        clear b10
        go_wp2_with fail
        refine (value_any T10.out Hl.out).mono ?_
        rintro r w11 ⟨rfl, b11⟩
        have B11 : Hid (Below w.heap.size w w11) := hid (B10.out.trans (b11.mono (by have := B10.out.size; omega)))
        clear b11
        by_cases hv1 : T.value lit = -1
        · rw [hv1]
          clear hv1
          go_wp2_with fail
          go_ret
          exact ⟨rfl, B11.out⟩
        · have he : e8 = 2 := hE.out.resolve_left hv1
          subst he
          obtain ⟨x, hx⟩ : ∃ x, T.value lit = x := ⟨_, rfl⟩
          rw [hx] at hv1 ⊢
          have hv2 : (x == -1) = false := by simpa using hv1
          have hv3 : (x = -1) = False := by simpa using hv1
          clear hx hv1
          go_wp2_with fail
          go_ret
          exact ⟨rfl, B11.out⟩
end Go.Proofs.Ytanhacdadgbjdaa
