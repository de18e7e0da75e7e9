/-
  pb.Slack's contract (left out of the merged texts).
-/
import Derived.Test.YtcjmpobccbnpkaaGreatMjas
namespace Go.Proofs.YtcjmpobccbnpkaaGreat
open Go.RowKit Go.Shelf

attribute [local go_sem] Oper.semAt_some

set_option maxRecDepth 100000 in
set_option maxHeartbeats 4000000 in
theorem slack_any {w : World} {F G : Nat → Prop} {v : Value} {c : Pb} {A : Option Addr} {na ca : Nat} {av : List Int} (hc : PbRd w F v c) (hi : ∀ k ∈ c.coefs, I64 k) (ha : Rd w G 1 (.slice A na ca) na (i8s av)) :
    Calls Tryz.prog 21 #[v, .slice A na ca] w fun r w' => r = .returned (.int .i64 (c.slackB av)) ∧ Below w.heap.size w w' := by
  have hc0 := hc
  obtain ⟨⟨L, n, cn, K, m, cm, rfl, hx, hk⟩, hb⟩ := hc
  have hxl : c.lits.length = n := by have := hx.1; simpa [ints_length] using this
  have hkl : c.coefs.length = m := by have := hk.1; simpa [ints_length] using this
  obtain ⟨bd, hbd⟩ : ∃ b, c.bound = b := ⟨_, rfl⟩
  rw [hbd] at hb hc0 ⊢
  refine callsIn_wide (n := 5).1 ?_
  refine callsIn_of_wp_marks Tryz.func21 rfl trivial ?_ rfl
  simp only [Tryz.ntmps21, List.size_toArray, List.length_cons, List.length_nil, Nat.reduceAdd, Nat.reduceSub, Array.replicate_succ, Array.replicate_zero, List.push_toArray, List.append_toArray, List.nil_append, List.cons_append]
  gi_wp2_with fail
  obtain ⟨z1, z2, z3⟩ := allocs_get w [.cells #[.slice L n cn, .slice K m cm, .int .i64 bd] 41, .cells #[.slice A na ca] 33]
  obtain ⟨W0, hW0⟩ : ∃ W0, allocs w [.cells #[.slice L n cn, .slice K m cm, .int .i64 bd] 41, .cells #[.slice A na ca] 33] = W0 := ⟨_, rfl⟩
  rw [hW0] at z1 z2 z3
  unfold allocs at hW0
  simp only [List.foldl_cons, List.foldl_nil] at hW0
  simp only [List.length_cons, List.length_nil, Nat.zero_add, Nat.reduceAdd] at z1
  have k0 := z3 0 _ rfl
  have k1 := Bx.of_block (z3 1 _ rfl)
  rw [Nat.add_zero] at k0
  rw [hW0]
  refine ⟨trivial, (callsIn_wide.2 (valid_any (hc0.below z2) hi)).mono ?_⟩
  rintro r w2 ⟨rfl, b2⟩
  have s2 := b2.size
  have hB2 : Below w.heap.size w w2 := z2.trans (b2.mono z2.size)
  obtain ⟨sz, hsz⟩ : ∃ s, w.heap.size = s := ⟨_, rfl⟩
  have hx2 := (hx.mono (G := fun g => g < w.heap.size) fun g hg _ => hg).below hB2
  have hk2 := (hk.mono (G := fun g => g < w.heap.size) fun g hg _ => hg).below hB2
  have ha2 := ha.mono (G := fun g => g < w.heap.size) fun g hg _ => hg
  rw [hsz] at z1 z2 k0 k1 hx2 hk2 hB2 ha2
  rw [hsz]
  have d0 := keep_cell (show W0.cell? ⟨sz, 0, none⟩ = some (.slice L n cn) by rw [cell_of_row _ _ _ _ _ _ k0]; rfl) b2
  have d1 := keep_cell (show W0.cell? ⟨sz, 1, none⟩ = some (.slice K m cm) by rw [cell_of_row _ _ _ _ _ _ k0]; rfl) b2
  have d2 := keep_cell (show W0.cell? ⟨sz, 2, none⟩ = some (.int .i64 bd) by rw [cell_of_row _ _ _ _ _ _ k0]; rfl) b2
  have e1 := k1.below b2
  clear hW0 z3 b2 k0 k1
  by_cases hok : c.ok = true
  · have hk0 := c.ok_iff.1 hok
    rw [hok]
    have hlow := hk0.low
    have hhigh := hk0.high
    rw [hbd] at hlow hhigh
    have hwb : IntKind.i64.wrap (-bd) = -bd := iw' (by omega) (by omega)
    have hne := World.new_ne w2 ⟨sz, 0, none⟩ d0
    gi_wp2_with fail
    refine ⟨trivial, (parts_in 4 _ _ _ _).mono ?_⟩
    rintro e w' ⟨rfl, rfl⟩
    obtain ⟨Sb, hSb⟩ : ∃ b, w2.heap.size = b := ⟨_, rfl⟩
    obtain ⟨y1, y2, y3⟩ := allocs_get w2 [.cells #[.int .i64 (-bd)] 3, .cells #[.slice L n cn, .slice K m cm, .int .i64 bd] 41]
    obtain ⟨W3, hW3⟩ : ∃ W, allocs w2 [.cells #[.int .i64 (-bd)] 3, .cells #[.slice L n cn, .slice K m cm, .int .i64 bd] 41] = W := ⟨_, rfl⟩
    rw [hW3] at y1 y2 y3
    unfold allocs at hW3
    simp only [List.foldl_cons, List.foldl_nil] at hW3
    simp only [List.length_cons, List.length_nil, Nat.zero_add, Nat.reduceAdd] at y1
    have b3 := y2
    have g2 := Bx.of_block (y3 0 _ rfl)
    have k3 := y3 1 _ rfl
    rw [Nat.add_zero] at g2
    rw [hSb] at y1 g2 k3
    obtain ⟨Bn, hBn⟩ : ∃ b, Sb + 1 = b := ⟨_, rfl⟩
    rw [hBn] at k3
    have s3 : W3.heap.size = Bn + 1 := by omega
    have f2 := keep_cell d2 b3
    have g1 := e1.below b3
    simp only [World.size_alloc]
    have hx3 := hx2.below b3
    have hk3 := hk2.below b3
    have hB3 : Below sz w W3 := hB2.trans (b3.mono (by omega))
    rw [hW3, hSb, hBn]
    obtain rfl : n = m := by have := hk0.len; omega
    clear hW3 y2 y3 d0 d1 d2 e1 b3 hx2 hk2 hc0
    gi_wp2_with fail
    have c0 : W3.cell? ⟨Bn, 0, none⟩ = some (.slice L n cn) := by rw [cell_of_row _ _ _ _ _ _ k3]; rfl
    have c1 : W3.cell? ⟨Bn, 1, none⟩ = some (.slice K n cm) := by rw [cell_of_row _ _ _ _ _ _ k3]; rfl
    obtain ⟨p, hp⟩ : ∃ p : Int → Bool, p = fun l => decide (0 ≤ valB av l) := ⟨_, rfl⟩
    have hpl : ∀ l, p l = decide (0 ≤ valB av l) := fun l => by rw [hp]
    have hs2 : sz + 2 ≤ Sb := by omega
    refine' wpIn_rangeFunc_ownF (α := Fin n) rfl (by omega) (gf := 80) (lb := #[.pointer (some ⟨Bn, 0, none⟩)]) rfl trivial (enters_of Tryz.func80 (by kernel_rfl) rfl)
      (parts_stops 4 Bn sz (by omega) (F := fun g => g < sz) (fun g hg => hg) W3 c0 c1 hx3 hk3) (fun h k => h.trans k) (kpb_b (by omega) (by omega)) (Below.refl _ _) (fun _ => rfl)
      (fun pre W => (Bx W Sb (.int .i64 (c.part p (pre.map Fin.val) - bd)) ∧ Bx W (sz + 1) (.slice A na ca) ∧ W.cell? ⟨sz, 2, none⟩ = some (.int .i64 bd)) ∧ Below sz w W)
      (fun _ _ _ => False)
      (OwnFrom.and (Own.from (fun s A B row hs hg hr => ⟨hs.1.kept hg hr, hs.2.1.kept hg hr, cell_kept hs.2.2 hg hr⟩) _) (ownFrom_below (by omega) (by omega)))
      (fun _ _ _ _ _ hs _ _ => hs)
      ⟨⟨by simpa [Pb.part] using g2, g1, f2⟩, hB3⟩ _ ?assign ?body ?done ?stop
    case assign =>
      intro l x W K hK
      gi_wp2
      exact hK
    case body =>
      rintro l pre x W ⟨⟨e2, e1, d2⟩, hB⟩ hpre
      have hps := c.part_snoc p (pre.map Fin.val) x.val
      have hmp : (pre ++ [x]).map Fin.val = pre.map Fin.val ++ [x.val] := by simp
      rw [← hmp] at hps
      obtain ⟨p1, p2⟩ := c.part_bounds hk0 p (pre.map Fin.val) (fun j hj => by
        obtain ⟨y, _, rfl⟩ := List.mem_map.1 hj
        have := y.isLt
        omega)
      rw [List.length_map] at p2
      obtain ⟨l1, l2, l3⟩ := hk0.lit x.val (by have := x.isLt; omega)
      obtain ⟨q1, q2⟩ := hk0.coef x.val (by have := x.isLt; omega)
      have hfew := hk0.few
      obtain ⟨S, hS⟩ : ∃ S, c.part p (pre.map Fin.val) = S := ⟨_, rfl⟩
      obtain ⟨li, hli⟩ : ∃ l, nth c.lits x.val = l := ⟨_, rfl⟩
      obtain ⟨ki, hki⟩ : ∃ l, nth c.coefs x.val = l := ⟨_, rfl⟩
      rw [hS] at e2 hps p1 p2
      rw [hli] at l1 l2 l3 hps ⊢
      rw [hki] at q1 q2 hps ⊢
      rw [hbd] at q2
      have hw : IntKind.i64.wrap (S - bd + ki) = S - bd + ki := iw' (by omega) (by omega)
      rw [hpl] at hps
      have Hps := hid hps
      have HB := hid hB
      have haw := ha2.below (hsz ▸ hB : Below w.heap.size w W)
      have e1c := e1.1
      have e2c := e2.1
      have e2f := e2.2
      clear hps hmp hS hli hki hB
      obtain ⟨y, hy⟩ : ∃ y, valB av li = y := ⟨_, rfl⟩
      have Hy := hid hy
      clear hy
      by_cases hp0 : 0 ≤ y
      · have hp1 : decide (0 ≤ y) = true := by simpa using hp0
        gi_wp2_with (refine ⟨trivial, ?_⟩; gi_at_call 52; refine (CallsIn.inRound l (callsIn_wide.2 (pval_any haw l1 l2 l3))).mono ?_; rw [Hy.out]; rintro r w4 ⟨rfl, rfl⟩)
        exact ⟨KeepsOthers.setCell _ _ _, (KpB.refl _ _ _).set (by omega) (by omega) _, ⟨by rw [Hps.out, Hy.out, if_pos hp1, show S + ki - bd = S - bd + ki by omega]; exact Bx.put e2 _, Bx.far e1 (by omega) _, cell_set_far d2 (by omega) _⟩, HB.out.setCell (p := ⟨Sb, 0, none⟩) (Nat.le_trans (Nat.le_add_right sz 2) hs2) _⟩
      · have hp1 : decide (0 ≤ y) = false := by simpa using hp0
        gi_wp2_with (refine ⟨trivial, ?_⟩; gi_at_call 52; refine (CallsIn.inRound l (callsIn_wide.2 (pval_any haw l1 l2 l3))).mono ?_; rw [Hy.out]; rintro r w4 ⟨rfl, rfl⟩)
        exact ⟨KeepsOthers.refl _, KpB.refl _ _ _, ⟨by rw [Hps.out, Hy.out, hp1, if_neg (by simp), Int.add_zero]; exact e2, e1, d2⟩, HB.out⟩
    case done =>
      rintro D ys W hD hys ⟨⟨e2, e1, d2⟩, hB⟩ hK
      unfold SomeOf at hys
      rw [hys, ← hxl] at e2
      obtain ⟨S, hS⟩ : ∃ S, c.part p (List.range c.lits.length) = S := ⟨_, rfl⟩
      rw [hS] at e2
      have hres : c.slackB av = S - bd := by
        unfold Pb.slackB Pb.total
        rw [if_pos hok, hbd, ← hp, hS]
      have e2c := e2.1
      have Hres := hid hres
      clear hres hok
      gi_wp2
      refine ⟨by simp, .inl ⟨_, _, rfl, run_takeDeferred hK, ?_⟩⟩
      exact ⟨_, results_tmp rfl _ _ _, by rw [Hres.out]; rfl, by (try rw [hsz]); exact hB.trans (belowK_b (w := w) (by omega) W D _ _ (by omega) hK rfl rfl)⟩
    case stop =>
      rintro D co pre W _ _ h _
      exact h.elim
  · have hok' : c.ok = false := by simpa using hok
    have hres : c.slackB av = 0 := by unfold Pb.slackB; rw [if_neg hok]
    rw [hok']
    have Hres := hid hres
    clear hres hok hok'
    gi_wp2_with fail
    exact ⟨_, results_tmp rfl _ _ _, by rw [Hres.out]; rfl, by (try rw [hsz]); exact hB2⟩
end Go.Proofs.YtcjmpobccbnpkaaGreat
