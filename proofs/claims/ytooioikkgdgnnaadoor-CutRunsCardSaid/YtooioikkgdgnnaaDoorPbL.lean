/-
  Chapter 24: Negate's walk.
-/
import Derived.Test.YtooioikkgdgnnaaDoorPbH
import Derived.Test.YtooioikkgdgnnaaDoorPbJ
namespace Go.Proofs.YtooioikkgdgnnaaDoor
open Go.RowKit Go.Maps
attribute [local go_sem] Oper.semAt_some

/-- The literals at the places js, negated. -/
def Pb.flip (c : Pb) (js : List Nat) : List Int := js.map fun j => -(nth c.lits j)
theorem Pb.flip_snoc (c : Pb) (js : List Nat) (j : Nat) : c.flip (js ++ [j]) = c.flip js ++ [-(nth c.lits j)] := by simp [Pb.flip]
theorem Pb.flip_len (c : Pb) (js : List Nat) : (c.flip js).length = js.length := by simp [Pb.flip]
theorem Pb.flip_all (c : Pb) : c.flip (List.range c.lits.length) = c.lits.map fun l => -l := by
  apply List.ext_getElem
  · simp [Pb.flip]
  · intro i h1 h2
    simp only [Pb.flip, List.getElem_map, List.getElem_range]
    rw [nth_eq (by simpa using h2)]
theorem Pb.part_all (c : Pb) (hl : c.lits.length = c.coefs.length) : c.part (fun _ => true) (List.range c.lits.length) = c.coefs.sum := by
  unfold Pb.part
  congr 1
  apply List.ext_getElem
  · simp [hl]
  · intro i h1 h2
    simp only [List.getElem_map, List.getElem_range, if_true]
    rw [nth_eq h2]
theorem neg_results {W : World} {b : Nat} {x y : Value} {z e : Int} {tmps : Array Value} (c0 : W.cell? ⟨b, 0, none⟩ = some x) (c1 : W.cell? ⟨b, 1, none⟩ = some y) (c2 : W.cell? ⟨b, 2, none⟩ = some (.int .i64 z))
    (h2 : tmps[2]? = some (.pointer (some ⟨b, 0, none⟩))) (h3 : tmps[3]? = some (.int .i64 e)) : (results Tryd.f29 tmps).run Tryd.prog W = .ok (.tuple #[.agg #[x, y, .int .i64 z], .int .i64 e]) W := by
  simp [results, Tryd.f29, go_sem, c0, c1, c2, h2, h3]
def Pb.negB (c : Pb) : Pb × Int := if c.ok = true then normed (c.lits.map fun l => -l) c.coefs (c.coefs.sum - c.bound + 1) else (⟨[], [], 0⟩, 2)

set_option maxRecDepth 100000 in
set_option maxHeartbeats 4000000 in
theorem negate_any {w : World} {F : Nat → Prop} {v : Value} {c : Pb} (hc : PbRd w F v c) (hi : ∀ k ∈ c.coefs, I64 k) :
    Calls Tryd.prog 29 #[v] w fun r w' => (∃ pv, r = .returned (.tuple #[pv, .int .i64 c.negB.2]) ∧ PbRd w' (fun g => w.heap.size ≤ g) pv c.negB.1) ∧ Below w.heap.size w w' := by
  have hc0 := hc
  obtain ⟨⟨L, n, cn, K, m, cm, rfl, hx, hk⟩, hb⟩ := hc
  have hxl : c.lits.length = n := by have := hx.1; simpa [ints_length] using this
  obtain ⟨bd, hbd⟩ : ∃ b, c.bound = b := ⟨_, rfl⟩
  rw [hbd] at hb hc0 ⊢
  refine callsIn_wide (n := 5).1 ?_
  refine callsIn_of_wp_marks Tryd.func29 rfl trivial ?_ rfl
  simp only [Tryd.ntmps29, List.size_toArray, List.length_cons, List.length_nil, Nat.reduceAdd, Nat.reduceSub, Array.replicate_succ, Array.replicate_zero, List.push_toArray, List.append_toArray, List.nil_append, List.cons_append]
  gi_wp2_with fail
  obtain ⟨z1, z2, z3⟩ := allocs_get w [.cells #[.slice L n cn, .slice K m cm, .int .i64 bd] 24, .cells #[.slice none 0 0, .slice none 0 0, .int .i64 0] 24]
  obtain ⟨W0, hW0⟩ : ∃ W0, allocs w [.cells #[.slice L n cn, .slice K m cm, .int .i64 bd] 24, .cells #[.slice none 0 0, .slice none 0 0, .int .i64 0] 24] = W0 := ⟨_, rfl⟩
  rw [hW0] at z1 z2 z3
  unfold allocs at hW0
  simp only [List.foldl_cons, List.foldl_nil] at hW0
  simp only [List.length_cons, List.length_nil, Nat.zero_add, Nat.reduceAdd] at z1
  have j0 := z3 0 _ rfl
  have j1 := z3 1 _ rfl
  rw [Nat.add_zero] at j0
  rw [hW0]
  refine ⟨trivial, (callsIn_wide.2 (valid_any (hc0.below z2) hi)).mono ?_⟩
  rintro r w2 ⟨rfl, b2⟩
  have s2 := b2.size
  have hB2 : Below w.heap.size w w2 := z2.trans (b2.mono z2.size)
  have k0 := (b2.block _ (by omega)).trans j0
  have k1 := (b2.block _ (by omega)).trans j1
  obtain ⟨sz, hsz⟩ : ∃ s, w.heap.size = s := ⟨_, rfl⟩
  have hx2 := (hx.mono (G := fun g => g < w.heap.size) fun g hg _ => hg).below hB2
  have hk2 := (hk.mono (G := fun g => g < w.heap.size) fun g hg _ => hg).below hB2
  rw [hsz] at z1 k0 k1 hx2 hk2 hB2 ⊢
  have d0 : w2.cell? ⟨sz, 0, none⟩ = some (.slice L n cn) := by rw [cell_of_row _ _ _ _ _ _ k0]; rfl
  have d1 : w2.cell? ⟨sz, 1, none⟩ = some (.slice K m cm) := by rw [cell_of_row _ _ _ _ _ _ k0]; rfl
  have d2 : w2.cell? ⟨sz, 2, none⟩ = some (.int .i64 bd) := by rw [cell_of_row _ _ _ _ _ _ k0]; rfl
  have t0 : w2.cell? ⟨sz + 1, 0, none⟩ = some (.slice none 0 0) := by rw [cell_of_row _ _ _ _ _ _ k1]; rfl
  have t1 : w2.cell? ⟨sz + 1, 1, none⟩ = some (.slice none 0 0) := by rw [cell_of_row _ _ _ _ _ _ k1]; rfl
  have t2 : w2.cell? ⟨sz + 1, 2, none⟩ = some (.int .i64 0) := by rw [cell_of_row _ _ _ _ _ _ k1]; rfl
  have f0 : w2.frozen? ⟨sz + 1, 0, none⟩ = false := by simp [World.frozen?, k1]
  have f1 : w2.frozen? ⟨sz + 1, 1, none⟩ = false := by simp [World.frozen?, k1]
  have f2 : w2.frozen? ⟨sz + 1, 2, none⟩ = false := by simp [World.frozen?, k1]
  have K0 := hid k0
  have K1 := hid k1
  clear hW0 b2 z2 hc0 z3 k0 k1 j0 j1
  by_cases hok : c.ok = true
  · have hk0 := c.ok_iff.1 hok
    obtain rfl : n = m := by have := hk0.len; have := hk.1; simp [ints_length] at this; omega
    rw [hok]
    have hne1 : w2.heap.size ≠ sz := by omega
    have hne2 : w2.heap.size + 1 ≠ sz := by omega
    gi_wp2_with fail
    refine ⟨trivial, (parts_in 4 _ _ _ _).mono ?_⟩
    rintro e w' ⟨rfl, rfl⟩
    obtain ⟨Ob, hOb⟩ : ∃ b, w2.heap.size = b := ⟨_, rfl⟩
    obtain ⟨y1, y2, y3⟩ := allocs_get w2 [.cells #[.slice none 0 0] 22, .cells #[.int .i64 0] 3, .cells #[.slice L n cn, .slice K n cm, .int .i64 bd] 24]
    obtain ⟨W3, hW3⟩ : ∃ W, allocs w2 [.cells #[.slice none 0 0] 22, .cells #[.int .i64 0] 3, .cells #[.slice L n cn, .slice K n cm, .int .i64 bd] 24] = W := ⟨_, rfl⟩
    rw [hW3] at y1 y2 y3
    unfold allocs at hW3
    simp only [List.foldl_cons, List.foldl_nil] at hW3
    simp only [List.length_cons, List.length_nil, Nat.zero_add, Nat.reduceAdd] at y1
    have h6 := Bx.of_block (y3 0 _ rfl)
    have h7 := Bx.of_block (y3 1 _ rfl)
    have k3 := y3 2 _ rfl
    rw [Nat.add_zero] at h6
    rw [hOb] at y1 h6 h7 k3
    obtain ⟨Bn, hBn⟩ : ∃ b, Ob + 2 = b := ⟨_, rfl⟩
    rw [hBn] at k3
    have hx3 := hx2.below y2
    have hk3 := hk2.below y2
    have hB3 : Below sz w W3 := hB2.trans (y2.mono (by omega))
    have J0 := hid ((y2.block _ (by omega)).trans K0.out)
    have J1 := hid ((y2.block _ (by omega)).trans K1.out)
    simp only [World.size_alloc]
    rw [hW3, hOb, hBn]
    clear hW3 y2 y3 f0 f1 f2 d0 d1 d2 t0 t1 t2 hne1 hne2 hx2 hk2
    gi_wp2_with fail
    have c0 : W3.cell? ⟨Bn, 0, none⟩ = some (.slice L n cn) := by rw [cell_of_row _ _ _ _ _ _ k3]; rfl
    have c1 : W3.cell? ⟨Bn, 1, none⟩ = some (.slice K n cm) := by rw [cell_of_row _ _ _ _ _ _ k3]; rfl
    have hs2 : sz + 2 ≤ Ob := by omega
    have hOW : sz + 5 ≤ W3.heap.size := by omega
    have hwz : w.heap.size ≤ W3.heap.size := by omega
    clear s2 z1 K0 K1
    refine' wpIn_rangeFunc_ownF (α := Fin n) rfl (by omega) (gf := 78) (lb := #[.pointer (some ⟨Bn, 0, none⟩)]) rfl trivial (enters_of Tryd.func78 (by kernel_rfl) rfl)
      (parts_stops 4 Bn (sz + 2) (by omega) (F := fun g => g < sz) (fun g hg => by omega) W3 c0 c1 hx3 hk3) (fun h k => h.trans k) (kpb_b (by omega) (by omega)) (Below.refl _ _) (fun _ => rfl)
      (fun pre W => ((∃ R cc, Bx W Ob (.slice R (c.flip (pre.map Fin.val)).length cc) ∧ Own W (fun g => Bn < g) 3 1 (.slice R (c.flip (pre.map Fin.val)).length cc) (c.flip (pre.map Fin.val)).length (ints (c.flip (pre.map Fin.val)))) ∧ Bx W (Ob + 1) (.int .i64 (c.part (fun _ => true) (pre.map Fin.val))) ∧ Bn < W.heap.size) ∧ Below (sz + 2) W3 W)
      (fun _ _ _ => False)
      (OwnFrom.and (Own.from (fun s A B row hs hg hr => ⟨by obtain ⟨R, cc, x1, x2⟩ := hs.1; exact ⟨R, cc, x1.kept hg hr, x2.kept hg hr⟩, hs.2.1.kept hg hr, Nat.lt_of_lt_of_le hs.2.2 hg.size⟩) _) (ownFrom_below (by omega) (by omega)))
      (fun _ _ _ _ _ hs _ _ => hs)
      ⟨⟨⟨none, 0, h6, Own.nil _ _ _ _⟩, h7, by omega⟩, Below.refl _ _⟩ _ ?assign ?body ?done ?stop
    case assign =>
      intro l x W K hK
      gi_wp2_with fail
      exact hK
    case body =>
      rintro l pre x W ⟨⟨⟨R, cc, e6, hown⟩, e7, hBW⟩, hB⟩ hpre
      have hps := c.flip_snoc (pre.map Fin.val) x.val
      have hpt := c.part_snoc (fun _ => true) (pre.map Fin.val) x.val
      have hmp : (pre ++ [x]).map Fin.val = pre.map Fin.val ++ [x.val] := by simp
      rw [← hmp] at hps hpt
      obtain ⟨p1, p2⟩ := c.part_bounds hk0 (fun _ => true) (pre.map Fin.val) (fun j hj => by
        obtain ⟨y, _, rfl⟩ := List.mem_map.1 hj
        have := y.isLt
        omega)
      rw [List.length_map] at p2
      have hlen := Nat.le_of_eq (c.flip_len (pre.map Fin.val))
      rw [List.length_map] at hlen
      obtain ⟨l1, l2, l3⟩ := hk0.lit x.val (by have := x.isLt; omega)
      obtain ⟨q1, q2⟩ := hk0.coef x.val (by have := x.isLt; omega)
      have hfew := hk0.few
      have hhigh := hk0.high
      obtain ⟨us, hus⟩ : ∃ us, c.flip (pre.map Fin.val) = us := ⟨_, rfl⟩
      obtain ⟨S, hS⟩ : ∃ S, c.part (fun _ => true) (pre.map Fin.val) = S := ⟨_, rfl⟩
      obtain ⟨li, hli⟩ : ∃ l, nth c.lits x.val = l := ⟨_, rfl⟩
      obtain ⟨ki, hki⟩ : ∃ l, nth c.coefs x.val = l := ⟨_, rfl⟩
      rw [hus] at e6 hown hps hlen
      rw [hS] at e7 hpt p1 p2
      rw [hli] at l1 l2 l3 hps ⊢
      rw [hki] at q1 q2 hpt ⊢
      rw [if_pos rfl] at hpt
      have hw : IntKind.i64.wrap (S + ki) = S + ki := iw' (by omega) (by omega)
      have hw2 : IntKind.i64.wrap (-li) = -li := iw' (by omega) (by omega)
      have Hps := hid hps
      have Hpt := hid hpt
      have HB := hid hB
      have e6c := e6.1
      have e7c := e7.1
      have Hown := hid hown
      clear hps hpt hmp hus hS hli hki hB hown
      gi_wp2_with (gi_at_builtin; refine wpListIn_append_ints rfl _ _ rfl (Hown.out.below ((Below.refl _ _).alloc (Nat.le_refl _) _)) (own_one W (.int .i64 (-li))).rd rfl rfl (by simp [Value.oneCell']) (by omega) ?_; intro Av cv w5 ho5 hm5 hr5; have bx5 : Bx w5 Ob _ := (e6.alloc _).mod hm5 (fun hr => by have := (Hown.out.row hr).1; omega); have by5 : Bx w5 (Ob + 1) _ := (e7.alloc _).mod hm5 (fun hr => by have := (Hown.out.row hr).1; omega); have bx5c := bx5.1; have bx5f := bx5.2; have by5c := by5.1; have by5f := by5.2)
      have hnr : ∀ g, row (.slice R us.length cc) g → Bn < g := fun g hg => (Hown.out.row hg).1
      have m6 := (Mod.refl (fun k => k = Ob) w5).setCell (p := ⟨Ob, 0, none⟩) (.inl rfl) (.slice Av (us.length + 1) cv)
      have m7 := m6.mono (G := fun k => k = Ob ∨ k = Ob + 1) fun g _ e => .inl e
      have m8 := m7.setCell (p := ⟨Ob + 1, 0, none⟩) (.inl (.inr rfl)) (.int .i64 (S + ki))
      have hs5 := hm5.size
      rw [World.size_alloc] at hs5
      have hs8 := m8.size
      refine ⟨(((KeepsOthers.alloc W _).trans (keeps_append (Hown.out.below ((Below.refl _ _).alloc (Nat.le_refl _) _)) hm5)).trans (KeepsOthers.setCell _ _ _)).trans (KeepsOthers.setCell _ _ _),
        ((((KpB.refl _ _ _).alloc _ (by omega) hBW).mod hm5 (by rw [World.size_alloc]; omega) (by rw [World.size_alloc]; omega) (fun g hg => by have := hnr g hg; omega) (fun hg => by have := hnr _ hg; omega)).set (by omega) (by omega) _).set (by omega) (by omega) _,
        ⟨⟨Av, cv, ?_, ?_⟩, ?_, by omega⟩,
        ((below_mod (HB.out.alloc (by omega) _) (by rw [World.size_alloc]; omega) hm5 fun g hg => by have := hnr g hg; omega).setCell (p := ⟨Ob, 0, none⟩) (by show sz + 2 ≤ Ob; omega) _).setCell (p := ⟨Ob + 1, 0, none⟩) (by show sz + 2 ≤ Ob + 1; omega) _⟩
      · rw [Hps.out, List.length_append]
        exact Bx.far (Bx.put bx5 _) (by omega) _
      · rw [Hps.out, ints_append, List.length_append]
        exact (ho5.mono fun g _ _ hg => hg.elim id fun h => by rw [World.size_alloc] at h; omega).mod m8 fun g _ _ hF e => by omega
      · rw [Hpt.out]
        exact Bx.put (Bx.far by5 (by omega) _) _
    case done =>
      rintro D ys W hD hys ⟨⟨⟨R, cc, e6, hown⟩, e7, hBW⟩, hB⟩ hK
      unfold SomeOf at hys
      rw [hys, ← hxl, c.flip_all] at e6 hown
      rw [hys, ← hxl, c.part_all hk0.len] at e7
      have hln : (c.lits.map fun l => -l).length = n := by rw [List.length_map]; exact hxl
      rw [hln] at e6 hown
      obtain ⟨p1, p2⟩ := c.part_bounds hk0 (fun _ => true) (List.range c.lits.length) (fun j hj => List.mem_range.1 hj)
      rw [c.part_all hk0.len] at p1 p2
      rw [List.length_range] at p2
      have hfew := hk0.few
      have hhigh := hk0.high
      have hlow := hk0.low
      have hN : c.negB = normed (c.lits.map fun l => -l) c.coefs (c.coefs.sum - bd + 1) := by unfold Pb.negB; rw [if_pos hok, hbd]
      have hil : ∀ x ∈ c.lits.map (fun l => -l), I64 x := fun x hx => by
        obtain ⟨l, hl, rfl⟩ := List.mem_map.1 hx
        obtain ⟨j, hj, rfl⟩ := List.getElem_of_mem hl
        obtain ⟨l1, l2, l3⟩ := hk0.lit j hj
        rw [nth_eq hj] at l1 l2 l3
        unfold I64; omega
      obtain ⟨S, hS⟩ : ∃ S, c.coefs.sum = S := ⟨_, rfl⟩
      rw [hS] at e7 p1 p2 hN
      have hw1 : IntKind.i64.wrap (S - bd) = S - bd := iw' (by omega) (by omega)
      have hw2 : IntKind.i64.wrap (S - bd + 1) = S - bd + 1 := iw' (by omega) (by omega)
      have e6c := e6.1
      have e7c := e7.1
      have Hown := hid hown
      have Hil := hid hil
      have Hi := hid hi
      have HN := hid hN
      have hBz : Below sz w W := hB3.trans (hB.mono (by omega))
      have hk4 := (hk.mono (G := fun g => g < w.heap.size) fun g hg _ => hg).below (hsz ▸ hBz : Below w.heap.size w W)
      have Hk4 := hid hk4
      have J2 := (hB.block _ (by omega)).trans J0.out
      have J3 := hid ((hB.block _ (by omega)).trans J1.out)
      have d1 : W.cell? ⟨sz, 1, none⟩ = some (.slice K n cm) := by rw [cell_of_row _ _ _ _ _ _ J2]; rfl
      have d2 : W.cell? ⟨sz, 2, none⟩ = some (.int .i64 bd) := by rw [cell_of_row _ _ _ _ _ _ J2]; rfl
      clear hown hil hi hN hk4 hS J2 hln
      gi_wp2_with fail
      refine ⟨trivial, (callsIn_wide.2 (norm_any Hown.out.rd Hk4.out Hil.out Hi.out (by unfold I64; omega))).mono ?_⟩
      rintro r w5 ⟨⟨pv, rfl, hpv⟩, b5⟩
      rw [← HN.out]
      rw [← HN.out] at hpv
      obtain ⟨⟨A1, n1, c1', A2, n2, c2', rfl, r1, r2⟩, hb'⟩ := hpv
      have hDl : D < W.heap.size := lt_of_block hK
      have j5 := (b5.block _ (by omega)).trans J3.out
      have hK5 := (b5.block _ hDl).trans hK
      have t0 : w5.cell? ⟨sz + 1, 0, none⟩ = some (.slice none 0 0) := by rw [cell_of_row _ _ _ _ _ _ j5]; rfl
      have t1 : w5.cell? ⟨sz + 1, 1, none⟩ = some (.slice none 0 0) := by rw [cell_of_row _ _ _ _ _ _ j5]; rfl
      have t2 : w5.cell? ⟨sz + 1, 2, none⟩ = some (.int .i64 0) := by rw [cell_of_row _ _ _ _ _ _ j5]; rfl
      have f0 : w5.frozen? ⟨sz + 1, 0, none⟩ = false := by simp [World.frozen?, j5]
      have f1 : w5.frozen? ⟨sz + 1, 1, none⟩ = false := by simp [World.frozen?, j5]
      have f2 : w5.frozen? ⟨sz + 1, 2, none⟩ = false := by simp [World.frozen?, j5]
      have s5 := b5.size
      have sB := hB.size
      have hB5 : Below sz w w5 := hBz.trans (b5.mono (by omega))
      have HK5 := hid hK5
      clear hK hK5 j5
      gi_wp2_with fail
      obtain ⟨u0, u1, u2, m3⟩ := set3 t0 t1 t2 (.slice A1 n1 c1') (.slice A2 n2 c2') (.int .i64 c.negB.1.bound)
      obtain ⟨W6, hW6⟩ : ∃ W, ((w5.setCell ⟨sz + 1, 0, none⟩ (.slice A1 n1 c1')).setCell ⟨sz + 1, 1, none⟩ (.slice A2 n2 c2')).setCell ⟨sz + 1, 2, none⟩ (.int .i64 c.negB.1.bound) = W := ⟨_, rfl⟩
      rw [hW6] at u0 u1 u2 m3 ⊢
      have hlt6 : sz + 1 < W6.heap.size := World.block_lt_of_cell? W6 _ u0
      have hK6 := (m3.block D (by omega) (by omega)).trans HK5.out
      have mD : Mod (fun g => g = D) W6 (W6.putObj D (.deferred none)) := (Mod.of_grown (grownBy_putObj' W6 D _)).mono fun k _ hk => by injection hk with hk; exact hk.symm
      have m4 : Mod (fun g => g = sz + 1 ∨ g = D) w5 (W6.putObj D (.deferred none)) := (m3.mono fun g _ e => .inl e).trans (mD.mono fun g _ e => .inl (.inr e))
      have kc : ∀ o, (W6.putObj D (.deferred none)).cell? ⟨sz + 1, o, none⟩ = W6.cell? ⟨sz + 1, o, none⟩ := fun o => World.cell?_of_block (a := ⟨sz + 1, o, none⟩) (mD.block (sz + 1) hlt6 (by omega))
      refine ⟨by simp, .inl ⟨_, _, rfl, run_takeDeferred hK6, ?_⟩⟩
      refine ⟨_, neg_results ((kc 0).trans u0) ((kc 1).trans u1) ((kc 2).trans u2) rfl rfl, ⟨_, rfl, ⟨⟨A1, n1, c1', A2, n2, c2', rfl, (r1.mod m4 fun g _ hf hg => by omega).mono fun g _ hf => by omega, (r2.mod m4 fun g _ hf hg => by omega).mono fun g _ hf => by omega⟩, hb'⟩⟩, ?_⟩
      rw [hsz]
      exact below_mod hB5 (by omega) m4 fun g hg => by omega
    case stop =>
      rintro D co pre W _ _ h _
      exact h.elim
  · have hok2 : c.ok = false := by simpa using hok
    rw [hok2]
    gi_wp2_with fail
    obtain ⟨u0, u1, u2, m3⟩ := set3 t0 t1 t2 (.slice none 0 0) (.slice none 0 0) (.int .i64 0)
    have he : c.negB = (⟨[], [], 0⟩, 2) := by unfold Pb.negB; rw [if_neg hok]
    refine ⟨_, neg_results u0 u1 u2 rfl rfl, ⟨_, by rw [he], ?_⟩, ?_⟩
    · rw [he]
      exact ⟨⟨none, 0, 0, none, 0, 0, rfl, ⟨rfl, none, 0, rfl, Nat.le_refl _, Nat.zero_le _, fun h => absurd h (by omega)⟩, ⟨rfl, none, 0, rfl, Nat.le_refl _, Nat.zero_le _, fun h => absurd h (by omega)⟩⟩, by show I64 0; unfold I64; omega⟩
    · rw [hsz]
      exact below_mod hB2 (by omega) m3 fun g hg => by omega
end Go.Proofs.YtooioikkgdgnnaaDoor
