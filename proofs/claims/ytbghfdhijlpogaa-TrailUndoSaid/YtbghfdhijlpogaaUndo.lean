/-
  ostlerlaw28.TrailUndo returns true, whatever comes in, and writes nothing that was there.
-/
import Derived.Test.YtbghfdhijlpogaaTwalkK
namespace Go.Proofs.Ytbghfdhijlpogaa
open Go.RowKit

/-! ### plain -/
/-- One of the later calls. -/
def Tr.mop (T : Tr) (x : Opd) : Tr := if x.kind = 2 then T.imp x.n (x.reason.take 20) else T.dec x.n
/-- U grew from T by the decision of l and what came after it. -/
def Grown (T : Tr) (l : Int) (U : Tr) : Prop := ∃ (e : Ent) (E : List Ent) (S : List Nat), e.lit = l ∧ U.vars = T.vars ∧ U.L = T.L ++ (e :: E) ∧ U.starts = T.starts ++ (T.L.length :: S)
theorem grown_start (T : Tr) (l : Int) : Grown T l (T.decide l) := ⟨_, [], [], rfl, rfl, rfl, rfl⟩
theorem Grown.more {T U V : Tr} {l : Int} (h : Grown T l U) (hv : V.vars = U.vars) {E : List Ent} {S : List Nat} (hL : V.L = U.L ++ E) (hS : V.starts = U.starts ++ S) : Grown T l V := by
  obtain ⟨e, E0, S0, h1, h2, h3, h4⟩ := h
  exact ⟨e, E0 ++ E, S0 ++ S, h1, hv.trans h2, by rw [hL, h3]; simp, by rw [hS, h4]; simp⟩
theorem Grown.mop {T U : Tr} {l : Int} (h : Grown T l U) (x : Opd) : Grown T l (U.mop x) := by
  unfold Tr.mop
  split
  · unfold Tr.imp
    split
    · exact h.more rfl (E := [_]) (S := []) rfl (by simp [Tr.imply])
    · exact h
  · unfold Tr.dec
    split
    · exact h.more rfl (E := [_]) (S := [_]) rfl rfl
    · exact h
theorem lvl_nat (n : Nat) : lvl (n : Int) = n := by unfold lvl; split <;> omega
theorem Grown.start {T U : Tr} {l : Int} (h : Grown T l U) : ∃ hk : T.depth < U.starts.length, U.starts[T.depth] = T.L.length := by
  obtain ⟨e, E, S, h1, h2, h3, h4⟩ := h
  unfold Tr.depth
  refine ⟨by rw [h4]; simp, ?_⟩
  simp [h4]
theorem Grown.back {T U : Tr} {l : Int} (h : Grown T l U) : U.back T.depth = T := by
  obtain ⟨hk, hs⟩ := h.start
  obtain ⟨e, E, S, h1, h2, h3, h4⟩ := h
  unfold Tr.back
  rw [if_pos hk, Tr.undo_at hk, hs, h3, h4, h2]
  simp [Tr.depth]
theorem nth_rev {xs : List Int} {i : Nat} (h : i < xs.length) : nth xs.reverse i = nth xs (xs.length - 1 - i) := by
  rw [nth_eq (by simpa using h), nth_eq (by omega), List.getElem_reverse]
theorem nth_right {xs ys : List Int} {i : Nat} : nth (xs ++ ys) (xs.length + i) = nth ys i := by
  unfold nth
  rw [List.getElem?_append_right (by omega)]
  congr 2
  omega
theorem Grown.facts {T U : Tr} {l : Int} (h : Grown T l U) (hw : U.WF) : ∃ R : List Int, U.gone T.depth = R ∧ U.L.length = T.L.length + R.length ∧ 0 < R.length ∧ nth R (R.length - 1) = l ∧
    (∀ i, i < R.length → nth U.lits (U.L.length - 1 - i) = nth R i) ∧ ∀ x ∈ R, (-65536 ≤ x ∧ x ≤ 65536) ∧ T.value x = 0 ∧ T.levelOf x.natAbs = -1 ∧ T.reasonOf x.natAbs = [] := by
  obtain ⟨hk, hs⟩ := h.start
  obtain ⟨e, E, S, h1, h2, h3, h4⟩ := h
  obtain ⟨G, hG⟩ : ∃ G, (e :: E).map Ent.lit = G := ⟨_, rfl⟩
  have hl : U.lits = T.lits ++ G := by rw [← hG]; simp [Tr.lits, h3]
  have hT : T.lits.length = T.L.length := by simp [Tr.lits]
  have hGl : 0 < G.length := by rw [← hG]; simp
  have hUl : U.L.length = T.L.length + G.length := by rw [← hG, h3]; simp
  refine ⟨G.reverse, ?_, by simpa using hUl, by simpa using hGl, ?_, fun i hi => ?_, fun x hx => ?_⟩
  · unfold Tr.gone
    rw [dif_pos hk, hs, hl, ← hT]
    simp
  · rw [List.length_reverse, nth_rev (by omega), ← hG, ← h1]
    simp [nth]
  · rw [List.length_reverse] at hi
    rw [nth_rev hi, hl, hUl, show T.L.length + G.length - 1 - i = T.lits.length + (G.length - 1 - i) by omega, nth_right]
  · rw [List.mem_reverse, ← hG] at hx
    obtain ⟨f, hf, rfl⟩ := List.mem_map.1 hx
    have hfU : f ∈ U.L := by rw [h3]; exact List.mem_append_right _ hf
    have hb := (hw.lit f hfU).2
    have hv := hw.vars
    have hn := hw.nodup
    rw [h3, List.map_append, List.nodup_append] at hn
    have hne : ∀ t ∈ T.L, t.v ≠ f.v := fun t ht => hn.2.2 _ (List.mem_map_of_mem ht) _ (List.mem_map_of_mem hf)
    have hi : T.idx (f.lit.natAbs : Nat) = none := by
      unfold Tr.idx
      rw [List.findIdx?_eq_none_iff]
      intro t ht
      have := hne t ht
      unfold Ent.v at *
      simp; omega
    refine ⟨by unfold Ent.v at hb; omega, ?_, by simp [Tr.levelOf, hi], by simp [Tr.reasonOf, hi]⟩
    have a1 : f.lit ∉ T.lits := fun hm => by
      obtain ⟨t, ht, e⟩ := List.mem_map.1 hm
      exact hne t ht (by unfold Ent.v; rw [e])
    have a2 : -f.lit ∉ T.lits := fun hm => by
      obtain ⟨t, ht, e⟩ := List.mem_map.1 hm
      exact hne t ht (by unfold Ent.v; rw [e]; omega)
    simp [Tr.value, a1, a2]
theorem rebase2 {F : Nat → Prop} {w2 W W' : World} {b : Nat} {T : Tr} (m0 : Mod F w2 W) (t : Trail W' (fun g => (F g ∨ w2.heap.size ≤ g) ∨ W.heap.size ≤ g) b T) (m : Mod (fun g => F g ∨ w2.heap.size ≤ g) W W') :
    Trail W' (fun g => F g ∨ w2.heap.size ≤ g) b T ∧ Mod F w2 W' :=
  ⟨t.mono fun g hg => by
    have := m0.size
    rcases hg with hg | hg
    · exact hg
    · exact .inr (by omega), m0.trans m⟩
theorem level_abs {w : World} {F : Nat → Prop} {b : Nat} {T : Tr} (ht : Trail w F b T) {l v : Int} (hv : v = (l.natAbs : Int)) :
    Calls Try.prog 11 #[.pointer (some ⟨b, 0, none⟩), .int .i64 v] w fun r w' => r = .returned (.int .i64 (T.levelOf l.natAbs)) ∧ Below w.heap.size w w' := by
  subst hv
  exact level_any ht
theorem reason_abs {w : World} {F : Nat → Prop} {b : Nat} {T : Tr} (ht : Trail w F b T) {l v : Int} (hv : v = (l.natAbs : Int)) (hr : T.reasonOf l.natAbs = []) :
    Calls Try.prog 19 #[.pointer (some ⟨b, 0, none⟩), .int .i64 v] w fun r w' => (∃ A c, r = .returned (.slice A 0 c)) ∧ Below w.heap.size w w' := by
  subst hv
  refine (reason_any ht (by rw [hr]; simp)).mono ?_
  rintro r w' ⟨⟨u, rfl, ho⟩, hb⟩
  rw [hr] at ho
  obtain ⟨A, c, rfl, _⟩ := ho.form
  exact ⟨⟨_, _, rfl⟩, hb⟩

/-! ### the walk -/
set_option maxRecDepth 100000 in
set_option maxHeartbeats 8000000 in
theorem undo_law {w : World} {v v2 : Value} {os ms : List Opd} (hv : OpsRd w v os) {l : Int} (hl : I64 l) (hv2 : OpsRd w v2 ms) :
    Calls Try.prog 4 #[v, .int .i64 l, v2] w fun r w' => r = .returned (.bool true) ∧ Below w.heap.size w w' := by
  obtain ⟨n, hn⟩ : ∃ n, n = min ms.length 10 := ⟨_, rfl⟩
  have hno : n ≤ ms.length := by omega
  have hn10 : n ≤ 10 := by omega
  obtain ⟨A2, cap2, rfl, hc, hcm, hel⟩ := id hv2
  have hmin : (if (10 : Int) < (ms.length : Int) then (10 : Int) else (ms.length : Int)) = (n : Int) := by split <;> omega
  have hncap : (n : Int) ≤ (cap2 : Int) := by omega
  have Hel := hid hel
  have Hl := hid hl
  clear hv2 hn hel hcm hl
  go_enter Try.func4, Try.ntmps4
  go_wp2_with fail
  refine (played_any hv).mono ?_
  rintro r w1 ⟨b, rfl, t1, b1⟩
  generalize (⟨8, [], []⟩ : Tr).ops (os.take 40) = T at t1
  have t1' := t1.restrict
  clear t1
  go_wp2_with fail
  refine (lits_any t1').mono ?_
  rintro r w2 ⟨⟨u, rfl, o2⟩, b2⟩
  obtain ⟨Au, cu, rfl, _⟩ := o2.form
  have t2 := t1'.below b2
  have h8 := t1'.wf.len
  have h9 := t1'.wf.vars
  have Hwf := hid t1'.wf
  have O2 := hid (o2.mono (G := fun g => w1.heap.size ≤ g ∧ g < w2.heap.size) fun g hg _ hF => ⟨hF, hg⟩)
  have s1 := b1.size
  have s2 := b2.size
  clear o2 t1'
  go_wp2_with fail
  refine (depth_any t2).mono ?_
  rintro r w3 ⟨rfl, rfl⟩
  cases hf : T.freeB l
  · go_wp2_with fail
    refine (decide_e t2 Hl.out).mono ?_
    rintro r w3 ⟨rfl, t3, m3⟩
    have hT3 : T.dec l = T := by simp [Tr.dec, hf]
    rw [hT3] at t3
    have O3 := hid (O2.out.mod m3 fun g hg _ hF hG => by omega)
    have s3 := m3.size
    have B3 := b1.trans ((b2.mono s1).trans ((m3.mono fun g _ hg => hg.1).base (B := w.heap.size) (by omega)))
    have herr : err (T.freeB l) = 2 := by rw [hf]; rfl
    rw [herr]
    clear t2 hT3
    go_wp2_with fail
    refine (lits_any t3).mono ?_
    rintro r w4 ⟨⟨u4, rfl, o4⟩, b4⟩
    have t4 := t3.below b4
    have o5 := O3.out.below b4
    have s4 := b4.size
    go_wp2_with fail
    refine (ints_eq o4.rd o5.rd).mono ?_
    rintro r w5 ⟨rfl, b5⟩
    rw [decide_eq_true (rfl : T.lits = T.lits)]
    have t5 := t4.below b5
    have s5 := b5.size
    go_wp2_with fail
    refine (depth_any t5).mono ?_
    rintro r w6 ⟨rfl, rfl⟩
    go_wp2_with fail
    refine awake_any.mono ?_
    rintro r w7 ⟨rfl, b7⟩
    go_wp2_with fail
    go_ret
    exact ⟨rfl, B3.trans ((b4.mono (by omega)).trans ((b5.mono (by omega)).trans (b7.mono (by omega))))⟩
  · go_wp2_with fail
    refine (decide_e t2 Hl.out).mono ?_
    rintro r w3 ⟨rfl, t3, m3⟩
    have hT3 : T.dec l = T.decide l := by simp [Tr.dec, hf]
    rw [hT3] at t3
    have herr : err (T.freeB l) = 0 := by rw [hf]; rfl
    rw [herr]
    have hg3 := grown_start T l
    generalize T.decide l = U3 at t3 hg3
    have s3 := m3.size
    clear t2 hT3 hf herr
    go_wp2_with fail
    go_loopw [51, 12] (fun i _ W => ∃ (k : Nat) (U : Tr), k ≤ n ∧ i = .int .i64 k ∧ Grown T l U ∧ Trail W (fun g => (w.heap.size ≤ g ∧ g < w1.heap.size) ∨ w2.heap.size ≤ g) b U ∧ Mod (fun g => w.heap.size ≤ g ∧ g < w1.heap.size) w2 W) (fun i _ _ => n - (intOf i).toNat)
    case atStart => exact ⟨0, U3, by omega, rfl, hg3, t3, m3⟩
    case round =>
      obtain ⟨k, U, hk, rfl, hgr, tk, mk⟩ := hrel
      by_cases hlt : k < n
      · obtain ⟨x, hx⟩ : ∃ x, ms[k]? = some x := ⟨ms[k], List.getElem?_eq_getElem (by omega)⟩
        obtain ⟨g, o, R, m, c, rfl, hg, c0, c1, c2, hr, hok⟩ := Hel.out k x hx
        have bk : Below w.heap.size w wr := b1.trans ((b2.mono s1).trans ((mk.mono fun g _ hg => hg.1).base (B := w.heap.size) (by omega)))
        have d0 := (bk.cell (p := ⟨g, o + k * 3, none⟩) hg).trans c0
        have d1 := (bk.cell (p := ⟨g, o + k * 3 + 1, none⟩) hg).trans c1
        have d2 := (bk.cell (p := ⟨g, o + k * 3 + 2, none⟩) hg).trans c2
        have Hr := hid (hr.below bk)
        have Hok := hid hok
        have Hop := hid (hgr.mop x)
        have hsz := mk.size
        clear c0 c1 c2 hr hok hx
        have Tk := hid (tk.restrict.below ((Below.refl _ _).alloc (Nat.le_refl _) (.cells #[.int .u8 x.kind, .int .i64 x.n, .slice R m c] 37)))
        have Mk := hid (mk.alloc (.cells #[.int .u8 x.kind, .int .i64 x.n, .slice R m c] 37))
        have hW : (wr.alloc (.cells #[.int .u8 x.kind, .int .i64 x.n, .slice R m c] 37)).heap.size = wr.heap.size + 1 := by simp
        cases q2 : (x.kind == 2)
        · have e : U.mop x = U.dec x.n := by
            simp only [beq_eq_false_iff_ne, ne_eq] at q2
            simp [Tr.mop, q2]
          have He := hid e
          clear e
          go_wp2_with fail
          refine (decide_e Tk.out Hok.out.2.1).mono ?_
          rintro r w4 ⟨rfl, t4, m4⟩
          obtain ⟨t5, m5⟩ := rebase2 Mk.out (t4.mono fun g hg => by omega) (m4.mono fun g _ hg => by omega)
          clear t4 m4
          go_wp2_with fail
          go_roundw
          case rel => exact ⟨k + 1, _, by omega, by go_num, Hop.out, by rw [He.out]; exact t5, m5⟩
          case measure => simp [intOf]; omega
        · have e : U.mop x = U.imp x.n (x.reason.take 20) := by
            simp only [beq_iff_eq] at q2
            simp [Tr.mop, q2]
          have hrl : x.reason.length = m := by have := Hr.out.1; simpa [ints_length] using this
          obtain ⟨m', hm'⟩ : ∃ m', m' = min m 20 := ⟨_, rfl⟩
          rw [take_min, hrl, ← hm'] at e
          have He := hid e
          have Hr2 := hid (Hr.out.take (m := m') (by omega))
          rw [Nat.mul_one, ← ints_take] at Hr2
          have hmn : (if (20 : Int) < (m : Int) then (20 : Int) else (m : Int)) = (m' : Int) := by split <;> omega
          have hmc : (m' : Int) ≤ (c : Int) := by
            obtain ⟨_, A2, c2, hv2, h2, _⟩ := Hr.out
            injection hv2 with _ _ h3
            omega
          have hm20 : m' ≤ 20 := by omega
          have hcall := hid (imply_e (w := (wr.alloc (.cells #[.int .u8 x.kind, .int .i64 x.n, .slice R m c] 37)).drew) Tk.out.drew Hok.out.2.1 (Hr2.out.below ((Below.refl _ _).alloc (Nat.le_refl _) _).drew) (by omega) (fun y hy => Hok.out.2.2 y (List.mem_of_mem_take hy)))
          have Mk2 := hid Mk.out.drew
          clear e hm'
          go_wp2_with fail
          go_region_held3 (fun w' => w'.cell? ⟨wr.heap.size, 1, none⟩ = some (.int .i64 x.n) ∧ w'.cell? ⟨wr.heap.size, 2, none⟩ = some (.slice R m c))
            (first | go_keep | exact ⟨(World.cell?_of_block (a := ⟨wr.heap.size, 1, none⟩) (m4.block wr.heap.size (by simp) (by simp))).trans (by simp), (World.cell?_of_block (a := ⟨wr.heap.size, 2, none⟩) (m4.block wr.heap.size (by simp) (by simp))).trans (by simp)⟩)
            ((go_at_call 17; refine hcall.out.mono ?_; rintro r w4 ⟨rfl, t4, m4⟩))
          all_goals
            obtain ⟨t5, m5⟩ := rebase2 Mk2.out (t4.mono fun g hg => by simp at hg ⊢; omega) (m4.mono fun g _ hg => by omega)
            clear t4 m4
            go_wp2_with fail
            go_roundw
            case rel => exact ⟨k + 1, _, by omega, by go_num, Hop.out, by rw [He.out]; exact t5, m5⟩
            case measure => simp [intOf]; omega
      · obtain ⟨RR, hR1, hR2, hR3, hR4, hR5, hR6⟩ := hgr.facts tk.wf
        have hback := hgr.back
        have Or := hid (O2.out.mod mk fun g hg _ hF hG => by omega)
        have sk := mk.size
        have bk : Below w.heap.size w wr := b1.trans ((b2.mono s1).trans ((mk.mono fun g _ hg => hg.1).base (B := w.heap.size) (by omega)))
        have u8 := tk.wf.len
        have u9 := tk.wf.vars
        have H1 := hid hR1
        have H2 := hid hR2
        have H4 := hid hR4
        have H5 := hid hR5
        have H6 := hid hR6
        have Hb := hid hback
        generalize hUl : U.L.length = a at *
        have HUl := hid hUl
        clear hR1 hR2 hR4 hR5 hR6 hback hgr mk hUl
        have tk' := tk.restrict
        clear tk
        go_wp2_with fail
        refine (lits_any tk').mono ?_
        rintro r w4 ⟨⟨u4, rfl, o4⟩, b4⟩
        rw [HUl.out] at o4
        obtain ⟨A4, c4, rfl, _⟩ := o4.form
        have t4 := tk'.below b4
        have s4 := b4.size
        have O4 := hid o4
        clear o4 tk'
        go_wp2_with fail
        refine (undo_e t4 _).mono ?_
        rintro r w5 ⟨⟨u5, rfl, o5⟩, t5, m5⟩
        rw [lvl_nat, H1.out] at o5
        rw [lvl_nat, Hb.out] at t5
        obtain ⟨A5, c5, rfl, _⟩ := o5.form
        have s5 := m5.size
        have O5 := hid o5
        have Oa := hid (O4.out.mod m5 fun g hg _ hF hG => by omega)
        have Ow := hid ((Or.out.below b4).mod m5 fun g hg _ hF hG => by omega)
        have B5 : Below w.heap.size w w5 := bk.trans ((b4.mono (by omega)).trans ((m5.mono (G := fun g => w.heap.size ≤ g) fun g _ hg => by omega).base (by omega)))
        have hA : ((a : Int) != (T.L.length : Int) + (RR.length : Int)) = false := by have := H2.out; simp; omega
        have hR0 : ((RR.length : Int) == 0) = false := by simp only [beq_eq_false_iff_ne]; omega
        obtain ⟨p, hp⟩ : ∃ p, RR.length = p + 1 := ⟨RR.length - 1, by omega⟩
        have hpi : (RR.length : Int) - 1 = (p : Int) := by omega
        have hpR : p < RR.length := by omega
        have hRs : T.L.length + RR.length ≤ 65536 := by have := H2.out; omega
        have hlast : w5.cell? ⟨0, 0, none⟩ = w5.cell? ⟨0, 0, none⟩ := rfl
        obtain ⟨_, hcell5⟩ := O5.out.rd.cell
        obtain ⟨g5, o5', rfl, _, hg5, hc5⟩ := hcell5 p (by omega)
        rw [show nth RR p = l by rw [← H4.out, hp]; rfl] at hc5
        clear hlast o5 hcell5 b4 t4 Or hp
        go_wp2_with fail
        refine (lits_any t5).mono ?_
        rintro r w6 ⟨⟨u6, rfl, o6⟩, b6⟩
        have t6 := t5.below b6
        have Oa6 := hid (Oa.out.below b6)
        have O56 := hid (O5.out.below b6)
        have s6 := b6.size
        clear hc5 hg5 hpi hpR
        go_wp2_with fail
        refine (ints_eq o6.rd (Ow.out.below b6).rd).mono ?_
        rintro r w7 ⟨rfl, b7⟩
        rw [decide_eq_true (rfl : T.lits = T.lits)]
        have t7 := t6.below b7
        have Oa7 := hid (Oa6.out.below b7)
        have O57 := hid (O56.out.below b7)
        have s7 := b7.size
        go_wp2_with fail
        refine (depth_any t7).mono ?_
        rintro r w8 ⟨rfl, rfl⟩
        have B7 : Below w.heap.size w w7 := B5.trans ((b6.mono (by omega)).trans (b7.mono (by omega)))
        clear b6 b7 Oa6 O56 t6 Ow Oa O5 o6 t5 m5
        go_wp2_with fail
        go_loopw [117, 15, 16] (fun i _ _ W => ∃ (j : Nat), j ≤ RR.length ∧ i = .int .i64 j ∧ Below w7.heap.size w7 W) (fun i _ _ _ => RR.length - (intOf i).toNat)
        case atStart => exact ⟨0, by omega, rfl, Below.refl _ _⟩
        case round =>
          obtain ⟨j, hj, rfl, hb⟩ := hrel
          have s8 := hb.size
          by_cases hlt2 : j < RR.length
          · obtain ⟨_, hcell⟩ := O57.out.rd.cell
            obtain ⟨g, o, hgo, _, hg, hc0⟩ := hcell j hlt2
            injection hgo with hgo
            injection hgo with hgo1 hgo2
            subst hgo1 hgo2
            have hc := (hb.cell (p := ⟨g5, o5' + j, none⟩) hg).trans hc0
            obtain ⟨q, hq⟩ : ∃ q, a = q + 1 + j := ⟨a - 1 - j, by have := H2.out; omega⟩
            have hqi : (a : Int) - 1 - (j : Int) = (q : Int) := by omega
            obtain ⟨_, hcella⟩ := Oa7.out.rd.cell
            obtain ⟨ga, oa, rfl, _, hga, hca0⟩ := hcella q (by omega)
            have hca := (hb.cell (p := ⟨ga, oa + q, none⟩) hga).trans hca0
            obtain ⟨x, hx⟩ : ∃ x, nth RR j = x := ⟨_, rfl⟩
            rw [show nth U.lits q = x by rw [← hx, ← H5.out j hlt2]; congr 1; omega] at hca
            rw [hx] at hc
            obtain ⟨⟨x1, x2⟩, x3, x4, x5⟩ := H6.out x (by rw [← hx]; exact nth_mem hlt2)
            have X3 := hid x3
            have X4 := hid x4
            have X5 := hid x5
            have Tj := hid (t7.below hb)
            have hqa : q < a := by omega
            have hmx : (if x < -x then -x else x) = ((x.natAbs : Nat) : Int) := by split <;> omega
            clear hcell hc0 hcella hca0 hx x3 x4 x5 hq
            go_wp2_with fail
            refine (value_any Tj.out (by unfold I64; omega)).mono ?_
            rintro r w9 ⟨rfl, b9⟩
            rw [X3.out]
            have T9 := hid (Tj.out.below b9)
            have s9 := b9.size
            go_wp2_with fail
            refine (level_abs T9.out (l := x) (by omega)).mono ?_
            rintro r w10 ⟨rfl, b10⟩
            rw [X4.out]
            have T10 := hid (T9.out.below b10)
            have s10 := b10.size
            go_wp2_with fail
            refine (reason_abs T10.out (l := x) (by omega) X5.out).mono ?_
            rintro r w11 ⟨⟨Ar, cr, rfl⟩, b11⟩
            have s11 := b11.size
            go_wp2_with fail
            go_roundw
            case rel => exact ⟨j + 1, by omega, by go_num, hb.trans ((b9.mono (by omega)).trans ((b10.mono (by omega)).trans (b11.mono (by omega))))⟩
            case measure => simp [intOf]; omega
          · go_wp2_with fail
            refine awake_any.mono ?_
            rintro r w9 ⟨rfl, b9⟩
            go_wp2_with fail
            go_ret
            exact ⟨rfl, B7.trans ((hb.mono (by omega)).trans (b9.mono (by omega)))⟩

end Go.Proofs.Ytbghfdhijlpogaa
