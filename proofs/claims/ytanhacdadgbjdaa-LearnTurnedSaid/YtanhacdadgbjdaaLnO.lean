/-
  LearnTurned: the walk.
-/
import Derived.Test.YtanhacdadgbjdaaLnN
namespace Go.Proofs.Ytanhacdadgbjdaa
open Go.RowKit

theorem ans_same {T : Tr} (h : T.WF) {cs ds : List Int} (h1 : ∀ l ∈ cs, -l ∈ T.lits) (h2 : ∀ l ∈ ds, -l ∈ T.lits) (hm : ∀ x, T.lvOf x ≠ 0 → (x ∈ cs ↔ x ∈ ds)) : T.ans cs = T.ans ds ∧ T.ansLv cs = T.ansLv ds ∧ okFor T cs = okFor T ds := by
  have e1 := okFor_same h h1 h2 hm
  have e2 : T.learnt cs = T.learnt ds := by unfold Tr.learnt Tr.learnSet; rw [addAll_same h h1 h2 hm]
  exact ⟨by unfold Tr.ans; rw [e1, e2], by unfold Tr.ansLv; rw [e1, e2], e1⟩

set_option maxRecDepth 100000 in
set_option maxHeartbeats 4000000 in
theorem turned_walk {w : World} {v v2 : Value} {os : List Mvd} {fs : List Int} {R2 : Option Addr} {c2 : Nat} (hm : MvRd w v os) (hr : Rd w (fun _ => True) 1 v2 fs.length (ints fs) ∧ (∀ y ∈ fs, I64 y) ∧ v2 = .slice R2 fs.length c2) :
    Calls Try.prog 4 #[v, v2] w fun r w' => r = .returned (.bool true) ∧ Below w.heap.size w w' := by
  obtain ⟨hr, hi, rfl⟩ := hr
  obtain ⟨R, c, rfl⟩ : ∃ R c, v = .slice R os.length c := by
    obtain ⟨A, cap, h, _⟩ := hm
    exact ⟨A, cap, h⟩
  obtain ⟨n, hn⟩ : ∃ n, os.length = n := ⟨_, rfl⟩
  obtain ⟨n2, hn2⟩ : ∃ n, fs.length = n := ⟨_, rfl⟩
  rw [hn] at hm ⊢
  rw [hn2] at hr ⊢
  have Hm := hid hm
  have Hr := hid hr
  have Hi := hid hi
  clear hm hr hi hn hn2
  go_enter Try.func4, Try.ntmps4
  go_wp2_with fail
  refine awake_any.mono ?_
  rintro r w1 ⟨rfl, b1⟩
  have B1 := hid b1
  have s1 := b1.size
  clear b1
  go_wp2_with fail
  refine (built_any (Hm.out.below B1.out)).mono ?_
  rintro r w2 ⟨b, T, rfl, ht, hf, b2⟩
  have B2 : Hid (Below w.heap.size w w2) := hid (B1.out.trans (b2.mono (by omega)))
  have s2 := b2.size
  have Ht := hid ht.restrict
  have Hf := hid hf
  clear ht hf b2
  by_cases h100 : 100 < n2
  · have x1 : (100 : Int) < (n2 : Int) := by omega
    go_wp2_with fail
    go_ret
    exact ⟨rfl, B2.out⟩
  · have x1 : ((100 : Int) < (n2 : Int)) = False := by simp; omega
    go_wp2_with fail
    refine (clause_any Ht.out (few_small Hf.out) (Hr.out.below B2.out) Hi.out (by omega)).mono ?_
    rintro r w3 ⟨⟨cs, R3, c3, rfl, ho3, hcs, hcl⟩, b3⟩
    have B3 : Hid (Below w.heap.size w w3) := hid (B2.out.trans (b3.mono (by omega)))
    have T3 := hid (Ht.out.below b3)
    have s3 := b3.size
    obtain ⟨k, hk⟩ : ∃ k, cs.length = k := ⟨_, rfl⟩
    rw [hk] at ho3 hcl ⊢
    have Ho3 := hid ho3.rd
    have Hcs := hid hcs
    have Hk := hid hk
    have hkc : (k : Int) ≤ (c3 : Int) := by
      obtain ⟨_, A2, c2, hv2, h2, _⟩ := ho3.rd
      injection hv2 with _ _ h3
      omega
    have hw1 : IntKind.i64.wrap ((k : Int) - 1) = (k : Int) - 1 := iw' (by omega) (by omega)
    clear b3 ho3 hcs hk
    go_wp2_with fail
    go_loopw [8, 9] (fun xv iv W => ∃ (i : Int) (xs : List Int) (X : Option Addr) (cx : Nat), -1 ≤ i ∧ i < k ∧ iv = .int .i64 i ∧ xv = .slice X xs.length cx ∧ Hid ((xs.length : Int) = 2 * (k - 1 - i)) ∧ Hid (Own W (fun g => w3.heap.size ≤ g) 3 1 (.slice X xs.length cx) xs.length (ints xs)) ∧ Hid (∀ x ∈ xs, x ∈ cs) ∧ Hid (∀ q : Nat, i < q → q < k → nth cs q ∈ xs) ∧ Hid (Below w3.heap.size w3 W)) (fun _ iv _ => (intOf iv + 1).toNat)
    case atStart => exact ⟨(k : Int) - 1, [], none, 0, by omega, by omega, rfl, rfl, hid (by simp), Own.nil _ _ _ _, fun x hx => by simp at hx, fun q h1 h2 => by omega, Below.refl _ _⟩
    case round =>
      obtain ⟨i, xs, X, cx, i1, i2, rfl, rfl, Hxl, Ho, Hx, Hq, Bi⟩ := hrel
      have hsz := Bi.out.size
      by_cases h0 : 0 ≤ i
      · obtain ⟨j, rfl⟩ : ∃ j : Nat, i = j := ⟨i.toNat, by omega⟩
        have x0 : (0 : Int) ≤ (j : Int) := by omega
        have hjk : j < k := by omega
        obtain ⟨g, o, rfl, hgF, hg, e00⟩ := Ho3.out.cell.2 j hjk
        have e0 := (Bi.out.cell (p := ⟨g, o + j, none⟩) hg).trans e00
        clear e00
        obtain ⟨l, hlj⟩ : ∃ l, nth cs j = l := ⟨_, rfl⟩
        rw [hlj] at e0
        have Hlj := hid hlj
        have hwd : IntKind.i64.wrap ((j : Int) - 1) = (j : Int) - 1 := iw' (by omega) (by omega)
        have hgn := World.new_ne wr ⟨g, o + j, none⟩ e0
        clear hlj
        go_wp2_with fail
        go_region_held3 (fun w' => w'.cell? ⟨g, o + j, none⟩ = some (.int .i64 l))
          (first | go_keep | exact (World.cell?_of_block (hm5.block g (by simp; omega) (fun hr => by have := (Ho.out.row hr).1; omega))).trans ((World.cell?_alloc_ne wr _ _ _ (by omega)).trans e0))
          ((refine step_append_ints (m := 2) rfl _ _ rfl (Ho.out.below ((Below.refl _ _).alloc (Nat.le_refl _) _).drew) (aw_row (n := 2) (xs := [l, l]) (F := fun _ => True) (heap_alloc_new wr _) rfl trivial (by omega)).drew rfl rfl (ints_one [l, l]) (by have := Hxl.out; omega) ?_; intro Av cv w5 ho5 hm5 hr5))
        have B5 : Hid (Below w3.heap.size w3 w5) := hid (below_mod (Bi.out.trans (((Below.refl _ _).alloc (Nat.le_refl _) _).drew.mono (by omega))) (by simp; omega) hm5 fun g hg => (Ho.out.row hg).1)
        go_wp2_with fail
        go_roundw
        case rel =>
          refine ⟨(j : Int) - 1, xs ++ [l, l], Av, cv, by omega, by omega, by go_num, by simp, hid (by have := Hxl.out; simp; omega), ?_, ?_, ?_, B5⟩
          · rw [ints_append, List.length_append]
            exact ho5.mono fun g _ _ hg => hg.elim id fun hg => by simp at hg; omega
          · intro z hz
            rcases List.mem_append.1 hz with hz | hz
            · exact Hx.out z hz
            · have : z = l := by simpa using hz
              rw [this, ← Hlj.out]
              exact nth_mem (by have := Hk.out; omega)
          · intro q h1 h2
            by_cases e : q = j
            · subst e
              rw [Hlj.out]
              simp
            · exact List.mem_append_left _ (Hq.out q (by omega) h2)
        case measure => simp [intOf]
      · have hi : i = -1 := by omega
        have h0 : (0 ≤ i) = False := by simp; omega
        have hxl : xs.length ≤ 200 := by have := Hxl.out; omega
        have hmem : Hid (∀ x, x ∈ cs ↔ x ∈ xs) := hid fun x => by
          constructor
          · intro hx
            obtain ⟨q, hq, e⟩ := List.mem_iff_getElem.1 hx
            rw [← e, ← nth_eq hq]
            exact Hq.out q (by omega) (by have := Hk.out; omega)
          · exact Hx.out x
        clear hi Hq Hx Hxl
        have Hxs := hid hxl
        have Ti := hid (T3.out.below Bi.out)
        clear hxl
        go_wp2_with fail
        refine (lits_any Ti.out).mono ?_
        rintro r w9 ⟨⟨u, rfl, hu⟩, b9⟩
        obtain ⟨m, hm⟩ : ∃ m, T.L.length = m := ⟨_, rfl⟩
        rw [hm] at hu
        obtain ⟨A', c9, rfl, _⟩ := hu.form
        have hmc : (m : Int) ≤ (c9 : Int) := by
          obtain ⟨_, A2, c2, hv2, h2, _⟩ := hu.rd
          injection hv2 with _ _ h3
          omega
        have hmm : m ≤ 30 := by
          have h1 := Ti.out.wf.len
          have h2 := Hf.out.vars
          omega
        obtain ⟨s0, hs0⟩ : ∃ s, wr.heap.size = s := ⟨_, rfl⟩
        have Hu := hid (hu.rd.mono (G := fun g => s0 ≤ g ∧ g < w9.heap.size) fun g hg hF => ⟨by omega, hg⟩)
        have hs3 : w3.heap.size ≤ s0 := by omega
        have hs9 : s0 ≤ w9.heap.size := by have := b9.size; omega
        have Hmm := hid hm
        have B9 : Hid (Below w.heap.size w w9) := hid ((B3.out.trans (Bi.out.mono (by omega))).trans (b9.mono (by omega)))
        have T9 := hid (Ti.out.below b9)
        have s9 := b9.size
        have Ho9 : Hid (Own w9 (fun g => (w3.heap.size ≤ g ∧ g < s0) ∨ w9.heap.size ≤ g) 3 1 (.slice X xs.length cx) xs.length (ints xs)) := hid ((Ho.out.mono fun g hg _ hF => .inl ⟨hF, by omega⟩).below b9)
        have H39 := hid (((Ho3.out.mono (G := fun g => g < w3.heap.size) fun g hg _ => hg).below Bi.out).below b9)
        clear hu b9 hm Ti Ho hs0
        go_wp2_with fail
        go_loopw [8, 11] (fun xv jv W => ∃ (j : Nat) (ys : List Int) (X : Option Addr) (cx : Nat), j ≤ m ∧ jv = .int .i64 j ∧ xv = .slice X ys.length cx ∧ Hid (ys.length ≤ 200 + j) ∧ Hid (Own W (fun g => (w3.heap.size ≤ g ∧ g < s0) ∨ w9.heap.size ≤ g) 3 1 (.slice X ys.length cx) ys.length (ints ys)) ∧ Hid (∀ x ∈ ys, -x ∈ T.lits) ∧ Hid (∀ x, T.lvOf x ≠ 0 → (x ∈ cs ↔ x ∈ ys)) ∧ Hid (Mod (fun g => w3.heap.size ≤ g ∧ g < s0) w9 W)) (fun _ jv _ => m - (intOf jv).toNat)
        case atStart => exact ⟨0, xs, X, cx, by omega, rfl, rfl, hid (by have := Hxs.out; omega), Ho9, fun x hx => Hcs.out x ((hmem.out x).2 hx), fun x _ => hmem.out x, Mod.refl _ _⟩
        case round =>
          obtain ⟨j, ys, X, cx, hj, rfl, rfl, Hyl, Ho, Hy, Hz, Mj⟩ := hrel
          have hsw := Mj.out.size
          have Tj := hid (T9.out.mod Mj.out fun g _ hf hg => by omega)
          by_cases hlt : j < m
          · have y1 : (j : Int) < (m : Int) := by omega
            obtain ⟨g, o, rfl, hgF, hg, e0⟩ := (Hu.out.mod Mj.out fun g _ hf hg => by omega).cell.2 j hlt
            obtain ⟨l, hlj⟩ : ∃ l, nth T.lits j = l := ⟨_, rfl⟩
            have hml : l ∈ T.lits := by
              rw [← hlj]
              exact nth_mem (by have := Hmm.out; simp [Tr.lits]; omega)
            rw [hlj] at e0
            obtain ⟨hb1, hb2⟩ := lits_small Tj.out.wf hml
            obtain ⟨v, hv⟩ : ∃ v, l.natAbs = v := ⟨_, rfl⟩
            have hmx : max l (-l) = (v : Int) := by omega
            have hwn : IntKind.i64.wrap (-l) = -l := iw' (by omega) (by omega)
            obtain ⟨lv, hlv⟩ : ∃ lv, T.levelOf (v : Int) = lv := ⟨_, rfl⟩
            have hlo : Hid (T.lvOf (-l) = lv) := hid (by rw [lvOf_neg]; unfold Tr.lvOf; rw [hv]; exact hlv)
            have Hlv := hid hlv
            have Hmem := hid hml
            clear hlj hml hv hlv
            go_wp2_with fail
            by_cases hd : lv = 0
            · have hd1 : (lv == 0) = true := by simpa using hd
              go_region_held3 (fun w' => w'.cell? ⟨g, o + j, none⟩ = some (.int .i64 l))
                (first | go_keep | exact (b4.cell (p := ⟨g, o + j, none⟩) hg).trans e0)
                ((go_at_call 12; refine (level_any (v := (v : Int)) Tj.out.drew).mono ?_; rw [Hlv.out]; rintro r w4 ⟨rfl, b4⟩))
              have B4 : Below wr.heap.size wr w4 := (Below.refl _ _).drew.trans b4
              have Bk : Hid (Mod (fun g => w3.heap.size ≤ g ∧ g < s0) w9 w4) := hid (Mj.out.then_below B4)
              have sk := B4.size
              have e1 := (B4.cell (p := ⟨g, o + j, none⟩) hg).trans e0
              have Ho4 := hid (Ho.out.below B4)
              have Hd := hid hd
              clear b4 e0 B4 Tj hd
              go_wp2_with (at_builtin; refine wpList_append_ints rfl _ _ rfl (Ho4.out.below ((Below.refl _ _).alloc (Nat.le_refl _) _)) (own_one w4 (.int .i64 (-l))).rd rfl rfl (by simp [Value.oneCell']) (by have := Hyl.out; omega) ?_; intro A5 c5' w5 ho5 hm5 hr5)
              have B5' : Hid (Mod (fun g => w3.heap.size ≤ g ∧ g < s0) w9 w5) := hid ((Bk.out.alloc _).trans (hm5.mono fun k _ hk => (Ho4.out.row hk).1))
              go_roundw
              case rel =>
                refine ⟨j + 1, ys ++ [-l], A5, c5', by omega, by go_num, by simp, hid (by have := Hyl.out; simp; omega), ?_, ?_, ?_, B5'⟩
                · rw [ints_append, List.length_append]
                  exact ho5.mono fun g _ _ hg => hg.elim id fun hg => by simp at hg; omega
                · intro z hz
                  rcases List.mem_append.1 hz with hz | hz
                  · exact Hy.out z hz
                  · rw [List.mem_singleton.1 hz, Int.neg_neg]; exact Hmem.out
                · intro z hz
                  rw [Hz.out z hz, List.mem_append, List.mem_singleton]
                  refine ⟨.inl, fun e => e.resolve_right fun e => hz ?_⟩
                  rw [e, hlo.out, Hd.out]
              case measure => simp [intOf]; omega
            · have hd1 : (lv = 0) = False := by simpa using hd
              have hd2 : (lv == 0) = false := by simpa using hd
              go_region_held3 (fun w' => w'.cell? ⟨g, o + j, none⟩ = some (.int .i64 l))
                (first | go_keep | exact (b4.cell (p := ⟨g, o + j, none⟩) hg).trans e0)
                ((go_at_call 12; refine (level_any (v := (v : Int)) Tj.out.drew).mono ?_; rw [Hlv.out]; rintro r w4 ⟨rfl, b4⟩))
              have B4 : Below wr.heap.size wr w4 := (Below.refl _ _).drew.trans b4
              have Bk : Hid (Mod (fun g => w3.heap.size ≤ g ∧ g < s0) w9 w4) := hid (Mj.out.then_below B4)
              have sk := B4.size
              have Ho4 := hid (Ho.out.below B4)
              clear b4 e0 B4 Tj hd
              go_wp2_with fail
              go_roundw
              case rel => exact ⟨j + 1, ys, X, cx, by omega, by go_num, rfl, hid (by have := Hyl.out; omega), Ho4, Hy, Hz, Bk⟩
              case measure => simp [intOf]; omega
          · have y1 : ((j : Int) < (m : Int)) = False := by simp; omega
            have BW : Hid (Below w.heap.size w wr) := hid (below_mod B9.out (by omega) Mj.out fun g hg => by omega)
            go_wp2_with fail
            refine (learn_any Tj.out (H39.out.mod Mj.out fun g _ hf hg => by omega) (lits_i64 Tj.out.wf Hcs.out) (by omega) (few_small Hf.out) (few_reasons Hf.out)).mono ?_
            rintro r w5 ⟨⟨R5, c5, rfl, hr5⟩, b5⟩
            have T5 := hid (Tj.out.below b5)
            have Ho5 := hid (Ho.out.below b5)
            have B5 : Hid (Below w.heap.size w w5) := hid (BW.out.trans (b5.mono (by omega)))
            have Hr5 := hid hr5
            have s5 := b5.size
            clear Tj Ho b5 hr5
            go_wp2_with fail
            refine (learn_any T5.out Ho5.out.rd (lits_i64 T5.out.wf Hy.out) (by have := Hyl.out; omega) (few_small Hf.out) (few_reasons Hf.out)).mono ?_
            rintro r w6 ⟨⟨R6, c6, rfl, hr6⟩, b6⟩
            obtain ⟨q1, q2, q3⟩ := ans_same T5.out.wf Hcs.out Hy.out Hz.out
            rw [← q1] at hr6
            rw [← q1, ← q2, ← q3]
            clear q1 q2 q3
            obtain ⟨ee, hee⟩ : ∃ e, lerr (okFor T cs) = e := ⟨_, rfl⟩
            obtain ⟨lv, hlv⟩ : ∃ e, T.ansLv cs = e := ⟨_, rfl⟩
            obtain ⟨zs, has⟩ : ∃ e, T.ans cs = e := ⟨_, rfl⟩
            rw [hee, hlv, has]
            have Hr55 := Hr5.out.below b6
            rw [has] at hr6 Hr55
            have Hr6 := hid hr6
            have Hr5 := hid Hr55
            have B6 : Hid (Below w.heap.size w w6) := hid (B5.out.trans (b6.mono (by omega)))
            have s6 := b6.size
            clear hr6 Hr55 hee hlv has b6
            go_wp2_with fail
            refine (same_any Hr5.out Hr6.out).mono ?_
            rintro r w7 ⟨rfl, b7⟩
            rw [show decide (zs = zs) = true by simp]
            have B7 : Hid (Below w.heap.size w w7) := hid (B6.out.trans (b7.mono (by omega)))
            clear b7
            go_wp2_with fail
            go_ret
            exact ⟨rfl, B7.out⟩
end Go.Proofs.Ytanhacdadgbjdaa
