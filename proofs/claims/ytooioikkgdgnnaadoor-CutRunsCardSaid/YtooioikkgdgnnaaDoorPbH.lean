/-
  Chapter 24: append in a round; Units.
-/
import Derived.Test.YtooioikkgdgnnaaDoorPbG
namespace Go.Proofs.YtooioikkgdgnnaaDoor
open Go.RowKit Go.Shelf

attribute [local go_sem] Oper.semAt_some

theorem wpListIn_append_ints {Fn : Fence} {N : Nat} {ops : Array Oper} {rest : List Oper} {o : Oper} {a : Act} {w : World} {Q : Exit → Act → World → Prop} (hgd : o.guard = none) (s x : Operand)
    (ho : o.op = .call { callee := .builtin .append, args := #[s, x], argTypes := #[22, 22] }) {F G : Nat → Prop} {v u : Value} {n m : Nat} {xs ys : List Value}
    (hv : Own w F 3 1 v n xs) (hu : Rd w G 1 u m ys) (hs : a.eval s = v) (hx : a.eval x = u) (h1 : ∀ u ∈ ys, u.oneCell' = true) (hb : n + m ≤ 17592186044416)
    (hK : ∀ A c w', Own w' (fun b => F b ∨ w.heap.size ≤ b) 3 1 (.slice A (n + m) c) (n + m) (xs ++ ys) → Mod (row v) w w' → (∀ b, row (.slice A (n + m) c) b → row v b ∨ w.heap.size ≤ b) → wpListIn Fn N Tryd.prog ops Q rest (a.put o.dst (.slice A (n + m) c)) w') :
    wpListIn Fn N Tryd.prog ops Q (o :: rest) a w := by
  refine wpListIn_plain hgd fun K hK' => ?_
  obtain ⟨i0, hi, hz0, hz1, hz2⟩ := info_parts info_int
  obtain ⟨v', w', hr, h2, h3, h4⟩ := run_append_rd (P := Tryd.prog) 22 o.type i0 (.int .i64 0) 8 Tryd.underlying22 hi hz0 hz1 hz2 rfl (by decide) hv hu h1 (by unfold maxLen; omega) (by omega)
  obtain ⟨A, c, rfl, _⟩ := h2.form
  unfold Oper.wpIn
  refine ⟨?_, ?_⟩
  · simp [Oper.about, ho, resolve, Target.leads, Sem.run_pure]
  · rw [Oper.semAt_plain Fn _ _ (by rw [ho]; intro c hc'; cases hc')]
    simp [execOp, ho, resolve, invoke, builtin, hs, hx, hr, Result.andThen]
    exact hK' _ _ (hK A c w' h2 h3 h4)
theorem Own.kept {W W' : World} {row' : Option Nat} {F : Nat → Prop} {e : TypeId} {k n : Nat} {v : Value} {xs : List Value} (h : Own W F e k v n xs) (hg : W.grownBy W' row') (hr : ∀ r, row' = some r → ∃ o : Obj, W.heap[r]? = some o ∧ o.isCells = false) : Own W' F e k v n xs :=
  h.keep fun g _ hrow _ => by
    obtain ⟨_, cur, hc⟩ := h.row hrow
    exact grownBy_keeps_cells hg hr hc rfl
theorem keeps_append {W W' : World} {F : Nat → Prop} {e : TypeId} {k n : Nat} {v : Value} {xs : List Value} (h : Own W F e k v n xs) (hm : Mod (row v) W W') : KeepsOthers W W' :=
  ⟨hm.size, fun l o hl ho => by
    by_cases hrow : row v l
    · obtain ⟨_, cur, hc⟩ := h.row hrow
      rw [hl] at hc
      injection hc with hc
      subst hc
      cases ho
    · exact (hm.block l (lt_of_block hl) hrow).trans hl⟩

theorem Bx.mod {W W' : World} {b : Nat} {v : Value} {G : Nat → Prop} (h : Bx W b v) (hm : Mod G W W') (hb : ¬ G b) : Bx W' b v := by
  have e := hm.block b (World.block_lt_of_cell? W _ h.1) hb
  exact ⟨(World.cell?_of_block (a := ⟨b, 0, none⟩) e).trans h.1, (World.frozen?_of_block (a := ⟨b, 0, none⟩) e).trans h.2⟩
theorem KpB.alloc {n₀ Bn : Nat} {A W : World} (h : KpB n₀ Bn A W) (o : Obj) (hn : n₀ ≤ W.heap.size) (hB : Bn < W.heap.size) : KpB n₀ Bn A (W.alloc o) :=
  ⟨h.1.alloc hn o, (World.heap_alloc_ne W o Bn (by omega)).trans h.2⟩
theorem KpB.mod {n₀ Bn : Nat} {A W W' : World} {G : Nat → Prop} (h : KpB n₀ Bn A W) (hm : Mod G W W') (hn : n₀ ≤ W.heap.size) (hB : Bn < W.heap.size) (hG : ∀ g, G g → n₀ ≤ g) (hGB : ¬ G Bn) : KpB n₀ Bn A W' :=
  ⟨below_mod h.1 hn hm hG, (hm.block Bn hB hGB).trans h.2⟩
theorem KpB.lt {n₀ Bn : Nat} {A W : World} (h : KpB n₀ Bn A W) (hB : Bn < A.heap.size) : Bn < W.heap.size := Nat.lt_of_lt_of_le hB h.1.size

/-- The literals at the places js at which q holds. -/
def Pb.pick (c : Pb) (q : Int → Int → Bool) (js : List Nat) : List Int := (js.filter fun j => q (nth c.lits j) (nth c.coefs j)).map (nth c.lits)
theorem Pb.pick_snoc (c : Pb) (q : Int → Int → Bool) (js : List Nat) (j : Nat) : c.pick q (js ++ [j]) = c.pick q js ++ (if q (nth c.lits j) (nth c.coefs j) = true then [nth c.lits j] else []) := by
  unfold Pb.pick
  rw [List.filter_append, List.map_append]
  by_cases h : q (nth c.lits j) (nth c.coefs j) = true
  · simp [h]
  · have h' : q (nth c.lits j) (nth c.coefs j) = false := by simpa using h
    simp [h']
theorem Pb.pick_len (c : Pb) (q : Int → Int → Bool) (js : List Nat) : (c.pick q js).length ≤ js.length := by
  unfold Pb.pick
  rw [List.length_map]
  exact List.length_filter_le _ _
def Pb.unitsB (c : Pb) (av : List Int) : List Int := if c.ok = true ∧ 0 ≤ c.slackB av then c.pick (fun l k => decide (valB av l = 0) && decide (c.slackB av < k)) (List.range c.lits.length) else []

set_option maxRecDepth 100000 in
set_option maxHeartbeats 4000000 in
theorem units_any {w : World} {F G : Nat → Prop} {v : Value} {c : Pb} {A : Option Addr} {na ca : Nat} {av : List Int} (hc : PbRd w F v c) (hi : ∀ k ∈ c.coefs, I64 k) (ha : Rd w G 1 (.slice A na ca) na (i8s av)) :
    Calls Tryd.prog 31 #[v, .slice A na ca] w fun r w' => (∃ R cc, r = .returned (.slice R (c.unitsB av).length cc) ∧ Own w' (fun g => w.heap.size ≤ g) 3 1 (.slice R (c.unitsB av).length cc) (c.unitsB av).length (ints (c.unitsB av))) ∧ Below w.heap.size w w' := by
  have hc0 := hc
  obtain ⟨⟨L, n, cn, K, m, cm, rfl, hx, hk⟩, hb⟩ := hc
  have hxl : c.lits.length = n := by have := hx.1; simpa [ints_length] using this
  obtain ⟨bd, hbd⟩ : ∃ b, c.bound = b := ⟨_, rfl⟩
  rw [hbd] at hb hc0 ⊢
  refine callsIn_wide (n := 5).1 ?_
  refine callsIn_of_wp_marks Tryd.func31 rfl trivial ?_ rfl
  simp only [Tryd.ntmps31, List.size_toArray, List.length_cons, List.length_nil, Nat.reduceAdd, Nat.reduceSub, Array.replicate_succ, Array.replicate_zero, List.push_toArray, List.append_toArray, List.nil_append, List.cons_append]
  gi_wp2_with fail
  obtain ⟨z1, z2, z3⟩ := allocs_get w [.cells #[.slice L n cn, .slice K m cm, .int .i64 bd] 24, .cells #[.slice A na ca] 79]
  obtain ⟨W0, hW0⟩ : ∃ W0, allocs w [.cells #[.slice L n cn, .slice K m cm, .int .i64 bd] 24, .cells #[.slice A na ca] 79] = W0 := ⟨_, rfl⟩
  rw [hW0] at z1 z2 z3
  unfold allocs at hW0
  simp only [List.foldl_cons, List.foldl_nil] at hW0
  simp only [List.length_cons, List.length_nil, Nat.zero_add, Nat.reduceAdd] at z1
  have k0 := z3 0 _ rfl
  have k1 := Bx.of_block (z3 1 _ rfl)
  rw [Nat.add_zero] at k0
  rw [hW0]
  refine ⟨trivial, (callsIn_wide.2 (slack_any (hc0.below z2) hi (ha.below z2))).mono ?_⟩
  rintro r w1 ⟨rfl, b1⟩
  obtain ⟨sk, hsk⟩ : ∃ s, c.slackB av = s := ⟨_, rfl⟩
  rw [hsk]
  have s1 := b1.size
  have hB1 : Below w.heap.size w w1 := z2.trans (b1.mono z2.size)
  have d0 := keep_cell (show W0.cell? ⟨w.heap.size, 0, none⟩ = some (.slice L n cn) by rw [cell_of_row _ _ _ _ _ _ k0]; rfl) b1
  have d1 := keep_cell (show W0.cell? ⟨w.heap.size, 1, none⟩ = some (.slice K m cm) by rw [cell_of_row _ _ _ _ _ _ k0]; rfl) b1
  have d2 := keep_cell (show W0.cell? ⟨w.heap.size, 2, none⟩ = some (.int .i64 bd) by rw [cell_of_row _ _ _ _ _ _ k0]; rfl) b1
  have e1 := k1.below b1
  have hne := World.new_ne w1 ⟨w.heap.size, 0, none⟩ d0
  clear hW0 z3 b1 k0 k1
  gi_wp2_with fail
  have bA : Below w1.heap.size w1 (w1.alloc (.cells #[.int .i64 sk] 3)) := (Below.refl _ _).alloc (Nat.le_refl _) _
  obtain ⟨W1, hW1⟩ : ∃ W, w1.alloc (.cells #[.int .i64 sk] 3) = W := ⟨_, rfl⟩
  have hsk1 : Bx W1 w1.heap.size (.int .i64 sk) := by rw [← hW1]; exact Bx.of_block (heap_alloc_new _ _)
  rw [hW1] at bA ⊢
  have sA := bA.size
  refine ⟨trivial, (callsIn_wide.2 (valid_any (hc0.below (hB1.trans (bA.mono hB1.size))) hi)).mono ?_⟩
  rintro r w2 ⟨rfl, b2⟩
  have s2 := b2.size
  have hB2 : Below w.heap.size w w2 := (hB1.trans (bA.mono hB1.size)).trans (b2.mono (by omega))
  obtain ⟨sz, hsz⟩ : ∃ s, w.heap.size = s := ⟨_, rfl⟩
  obtain ⟨S5, hS5⟩ : ∃ s, w1.heap.size = s := ⟨_, rfl⟩
  have hx2 := (hx.mono (G := fun g => g < w.heap.size) fun g hg _ => hg).below hB2
  have hk2 := (hk.mono (G := fun g => g < w.heap.size) fun g hg _ => hg).below hB2
  have ha2 := ha.mono (G := fun g => g < w.heap.size) fun g hg _ => hg
  have f0 := keep_cell (keep_cell d0 bA) b2
  have f1 := keep_cell (keep_cell d1 bA) b2
  have f2 := keep_cell (keep_cell d2 bA) b2
  have g1 := (e1.below bA).below b2
  have g5 := hsk1.below b2
  have g5lt : w1.heap.size < w2.heap.size := World.block_lt_of_cell? w2 _ g5.1
  rw [hsz] at z1 hx2 hk2 hB2 ha2 f0 f1 f2 g1 hB1
  rw [hS5] at g5 s1 g5lt
  rw [hsz, hS5]
  clear hW1 hne d0 d1 d2 e1 hsk1 bA b2 z2 hc0
  by_cases hok : c.ok = true ∧ 0 ≤ sk
  · obtain ⟨hok1, hok2⟩ := hok
    have hk0 := c.ok_iff.1 hok1
    have hus : c.unitsB av = c.pick (fun l k => decide (valB av l = 0) && decide (sk < k)) (List.range c.lits.length) := by unfold Pb.unitsB; rw [hsk, if_pos ⟨hok1, hok2⟩]
    obtain rfl : n = m := by have := hk0.len; have := hk.1; simp [ints_length] at this; omega
    have t1 : (sk < 0) = False := by simp; omega
    have t2 : decide (sk < 0) = false := by simp; omega
    have hne2 := World.new_ne w2 ⟨sz, 0, none⟩ f0
    have g5c := g5.1
    rw [hok1]
    gi_wp2_with fail
    refine ⟨trivial, (parts_in 4 _ _ _ _).mono ?_⟩
    rintro e w' ⟨rfl, rfl⟩
    obtain ⟨Ob, hOb⟩ : ∃ b, w2.heap.size = b := ⟨_, rfl⟩
    obtain ⟨y1, y2, y3⟩ := allocs_get w2 [.cells #[.slice none 0 0] 22, .cells #[.slice L n cn, .slice K n cm, .int .i64 bd] 24]
    obtain ⟨W3, hW3⟩ : ∃ W, allocs w2 [.cells #[.slice none 0 0] 22, .cells #[.slice L n cn, .slice K n cm, .int .i64 bd] 24] = W := ⟨_, rfl⟩
    rw [hW3] at y1 y2 y3
    unfold allocs at hW3
    simp only [List.foldl_cons, List.foldl_nil] at hW3
    simp only [List.length_cons, List.length_nil, Nat.zero_add, Nat.reduceAdd] at y1
    have h6 := Bx.of_block (y3 0 _ rfl)
    have k3 := y3 1 _ rfl
    rw [Nat.add_zero] at h6
    rw [hOb] at y1 h6 k3 g5lt
    obtain ⟨Bn, hBn⟩ : ∃ b, Ob + 1 = b := ⟨_, rfl⟩
    rw [hBn] at k3
    have h5 := g5.below y2
    have h1 := g1.below y2
    have hx3 := hx2.below y2
    have hk3 := hk2.below y2
    have hB3 : Below sz w W3 := hB2.trans (y2.mono (by omega))
    simp only [World.size_alloc]
    rw [hW3, hOb, hBn]
    clear hW3 y2 y3 f0 f1 f2 g1 g5 g5c hx2 hk2 hne2
    gi_wp2_with fail
    have c0 : W3.cell? ⟨Bn, 0, none⟩ = some (.slice L n cn) := by rw [cell_of_row _ _ _ _ _ _ k3]; rfl
    have c1 : W3.cell? ⟨Bn, 1, none⟩ = some (.slice K n cm) := by rw [cell_of_row _ _ _ _ _ _ k3]; rfl
    obtain ⟨q, hq⟩ : ∃ q : Int → Int → Bool, q = fun l k => decide (valB av l = 0) && decide (sk < k) := ⟨_, rfl⟩
    have hql : ∀ l k, q l k = (decide (valB av l = 0) && decide (sk < k)) := fun l k => by rw [hq]
    have hs2 : sz + 2 ≤ S5 := by omega
    refine' wpIn_rangeFunc_ownF (α := Fin n) rfl (by omega) (gf := 78) (lb := #[.pointer (some ⟨Bn, 0, none⟩)]) rfl trivial (enters_of Tryd.func78 (by kernel_rfl) rfl)
      (parts_stops 4 Bn sz (by omega) (F := fun g => g < sz) (fun g hg => hg) W3 c0 c1 hx3 hk3) (fun h k => h.trans k) (kpb_b (by omega) (by omega)) (Below.refl _ _) (fun _ => rfl)
      (fun pre W => ((∃ R cc, Bx W Ob (.slice R (c.pick q (pre.map Fin.val)).length cc) ∧ Own W (fun g => Bn < g) 3 1 (.slice R (c.pick q (pre.map Fin.val)).length cc) (c.pick q (pre.map Fin.val)).length (ints (c.pick q (pre.map Fin.val)))) ∧ Bx W S5 (.int .i64 sk) ∧ Bx W (sz + 1) (.slice A na ca) ∧ Bn < W.heap.size) ∧ Below sz w W)
      (fun _ _ _ => False)
      (OwnFrom.and (Own.from (fun s A B row hs hg hr => ⟨by obtain ⟨R, cc, x1, x2⟩ := hs.1; exact ⟨R, cc, x1.kept hg hr, x2.kept hg hr⟩, hs.2.1.kept hg hr, hs.2.2.1.kept hg hr, Nat.lt_of_lt_of_le hs.2.2.2 hg.size⟩) _) (ownFrom_below (by omega) (by omega)))
      (fun _ _ _ _ _ hs _ _ => hs)
      ⟨⟨⟨none, 0, h6, Own.nil _ _ _ _⟩, h5, h1, by omega⟩, hB3⟩ _ ?assign ?body ?done ?stop
    case assign =>
      intro l x W K hK
      gi_wp2
      exact hK
    case body =>
      rintro l pre x W ⟨⟨⟨R, cc, e6, hown⟩, e5, e1, hBW⟩, hB⟩ hpre
      have hps := c.pick_snoc q (pre.map Fin.val) x.val
      have hmp : (pre ++ [x]).map Fin.val = pre.map Fin.val ++ [x.val] := by simp
      rw [← hmp] at hps
      have hlen := c.pick_len q (pre.map Fin.val)
      rw [List.length_map] at hlen
      obtain ⟨l1, l2, l3⟩ := hk0.lit x.val (by have := x.isLt; omega)
      have hfew := hk0.few
      obtain ⟨us, hus⟩ : ∃ us, c.pick q (pre.map Fin.val) = us := ⟨_, rfl⟩
      obtain ⟨li, hli⟩ : ∃ l, nth c.lits x.val = l := ⟨_, rfl⟩
      obtain ⟨ki, hki⟩ : ∃ l, nth c.coefs x.val = l := ⟨_, rfl⟩
      rw [hus] at e6 hown hps hlen
      rw [hli] at l1 l2 l3 hps ⊢
      rw [hki] at hps ⊢
      rw [hql] at hps
      have Hps := hid hps
      have HB := hid hB
      have haw := ha2.below (hsz ▸ hB : Below w.heap.size w W)
      have e1c := e1.1
      have e5c := e5.1
      have e6c := e6.1
      have Hown := hid hown
      obtain ⟨y, hy⟩ : ∃ y, valB av li = y := ⟨_, rfl⟩
      have Hy := hid hy
      clear hps hmp hus hli hki hB hown hy
      by_cases hp0 : y = 0
      · subst hp0
        by_cases hp1 : sk < ki
        · have t3 : decide (sk < ki) = true := by simpa using hp1
          gi_wp2_with (first
            | (refine ⟨trivial, ?_⟩; gi_at_call 58; refine (CallsIn.inRound l (callsIn_wide.2 (value_any haw l1 l2 l3))).mono ?_; rw [Hy.out]; rintro r w4 ⟨rfl, rfl⟩)
            | (gi_at_builtin; refine wpListIn_append_ints rfl _ _ rfl (Hown.out.below ((Below.refl _ _).alloc (Nat.le_refl _) _)) (own_one W (.int .i64 li)).rd rfl rfl (by simp [Value.oneCell']) (by omega) ?_; intro Av cv w5 ho5 hm5 hr5; have bx5 : Bx w5 Ob _ := (e6.alloc _).mod hm5 (fun hr => by have := (Hown.out.row hr).1; omega); have bx5c := bx5.1; have bx5f := bx5.2))
          have hpk : c.pick q ((pre ++ [x]).map Fin.val) = us ++ [li] := by rw [Hps.out, Hy.out, t3]; simp
          have hnr : ∀ g, row (.slice R us.length cc) g → Bn < g := fun g hg => (Hown.out.row hg).1
          have m6 := (Mod.refl (fun k => k = Ob) w5).setCell (p := ⟨Ob, 0, none⟩) (.inl rfl) (.slice Av (us.length + 1) cv)
          have hs5 := hm5.size
          rw [World.size_alloc] at hs5
          have hs6 := m6.size
          refine ⟨((KeepsOthers.alloc W _).trans (keeps_append (Hown.out.below ((Below.refl _ _).alloc (Nat.le_refl _) _)) hm5)).trans (KeepsOthers.setCell _ _ _),
            (((KpB.refl _ _ _).alloc _ (by omega) hBW).mod hm5 (by rw [World.size_alloc]; omega) (by rw [World.size_alloc]; omega) (fun g hg => by have := hnr g hg; omega) (fun hg => by have := hnr _ hg; omega)).set (by omega) (by omega) _,
            ⟨⟨Av, cv, ?_, ?_⟩, Bx.far ((e5.alloc _).mod hm5 fun hr => by have := hnr _ hr; omega) (by omega) _, Bx.far ((e1.alloc _).mod hm5 fun hr => by have := hnr _ hr; omega) (by omega) _, by omega⟩,
            (below_mod (HB.out.alloc (by omega) _) (by rw [World.size_alloc]; omega) hm5 fun g hg => by have := hnr g hg; omega).setCell (p := ⟨Ob, 0, none⟩) (by show sz ≤ Ob; omega) _⟩
          · rw [hpk, List.length_append]
            exact Bx.put bx5 _
          · rw [hpk, ints_append, List.length_append]
            exact (ho5.mono fun g _ _ hg => hg.elim id fun h => by rw [World.size_alloc] at h; omega).mod m6 fun g _ _ hF e => by omega
        · have t3 : decide (sk < ki) = false := by simpa using hp1
          gi_wp2_with (refine ⟨trivial, ?_⟩; gi_at_call 58; refine (CallsIn.inRound l (callsIn_wide.2 (value_any haw l1 l2 l3))).mono ?_; rw [Hy.out]; rintro r w4 ⟨rfl, rfl⟩)
          exact ⟨KeepsOthers.refl _, KpB.refl _ _ _, ⟨⟨R, cc, by rw [Hps.out, Hy.out, t3]; simpa using e6, by rw [Hps.out, Hy.out, t3]; simpa using Hown.out⟩, e5, e1, hBW⟩, HB.out⟩
      · have t3 : (y == 0) = false := by simpa using hp0
        have t4 : (y = 0) = False := by simpa using hp0
        gi_wp2_with (refine ⟨trivial, ?_⟩; gi_at_call 58; refine (CallsIn.inRound l (callsIn_wide.2 (value_any haw l1 l2 l3))).mono ?_; rw [Hy.out]; rintro r w4 ⟨rfl, rfl⟩)
        exact ⟨KeepsOthers.refl _, KpB.refl _ _ _, ⟨⟨R, cc, by rw [Hps.out, Hy.out]; simpa [hp0] using e6, by rw [Hps.out, Hy.out]; simpa [hp0] using Hown.out⟩, e5, e1, hBW⟩, HB.out⟩
    case done =>
      rintro D ys W hD hys ⟨⟨⟨R, cc, e6, hown⟩, e5, e1, hBW⟩, hB⟩ hK
      unfold SomeOf at hys
      rw [hys, ← hxl, hq, ← hus] at e6 hown
      have e6c := e6.1
      have Hown := hid hown
      clear hus hown
      gi_wp2
      refine ⟨by simp, .inl ⟨_, _, rfl, run_takeDeferred hK, ?_⟩⟩
      exact ⟨_, results_tmp rfl _ _ _, ⟨R, cc, rfl, (Hown.out.kept (grownBy_putObj' W D _) fun r e => by cases e; exact ⟨_, hK, rfl⟩).mono fun g _ _ hg => by omega⟩, by (try rw [hsz]); exact hB.trans (belowK_b (w := w) (by omega) W D _ _ (by omega) hK rfl rfl)⟩
    case stop =>
      rintro D co pre W _ _ h _
      exact h.elim
  · have hus : c.unitsB av = [] := by unfold Pb.unitsB; rw [hsk, if_neg hok]
    have Hus := hid hus
    have g5c := g5.1
    clear hus
    by_cases hok1 : c.ok = true
    · have t1 : sk < 0 := by
        refine Classical.byContradiction fun h => hok ⟨hok1, by omega⟩
      have t2 : decide (sk < 0) = true := by simpa using t1
      rw [hok1]
      clear hok
      gi_wp2_with fail
      exact ⟨_, results_tmp rfl _ _ _, ⟨none, 0, by rw [Hus.out]; rfl, by rw [Hus.out]; exact Own.nil _ _ _ _⟩, by (try rw [hsz]); exact hB2⟩
    · have hok2 : c.ok = false := by simpa using hok1
      rw [hok2]
      clear hok hok1 hok2
      gi_wp2_with fail
      exact ⟨_, results_tmp rfl _ _ _, ⟨none, 0, by rw [Hus.out]; rfl, by rw [Hus.out]; exact Own.nil _ _ _ _⟩, by (try rw [hsz]); exact hB2⟩
end Go.Proofs.YtooioikkgdgnnaaDoor
