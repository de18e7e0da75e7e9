/-
  Chapter 24, the reference: Clause.
-/
import Derived.Test.YtbibjlaepmfoeaaDoorRfI
import Derived.Test.YtbibjlaepmfoeaaDoorPbMap
import Derived.Test.YtbibjlaepmfoeaaDoorPbU
namespace Go.Proofs.YtbibjlaepmfoeaaDoor
open Go.RowKit

theorem perm_sum {α : Type} (f : α → Int) {xs ys : List α} (h : xs.Perm ys) : (xs.map f).sum = (ys.map f).sum := by
  induction h with
  | nil => rfl
  | cons x _ ih => simp [ih]
  | swap x y l => simp; omega
  | trans _ _ h1 h2 => rw [h1, h2]
def ones (xs : List Int) : List Int := List.replicate xs.length 1
theorem ones_nth {xs : List Int} {i : Nat} (h : i < xs.length) : nth (ones xs) i = 1 := nth_ones h
theorem vsum_ones (xs : List Int) (v : Int) : vsum xs (ones xs) xs.length v = (xs.map fun l => term l 1 v).sum := by
  unfold vsum
  rw [show (List.range xs.length).map (fun i => term (nth xs i) (nth (ones xs) i) v) = (List.range xs.length).map fun i => term (nth xs i) 1 v from List.map_congr_left fun i hi => by rw [ones_nth (List.mem_range.1 hi)]]
  rw [show (List.range xs.length).map (fun i => term (nth xs i) 1 v) = ((List.range xs.length).map (nth xs)).map fun l => term l 1 v by rw [List.map_map]; rfl, nth_range]
theorem nsum_ones (xs : List Int) : nsum xs (ones xs) xs.length = (xs.map fun l => if l < 0 then 1 else 0).sum := by
  unfold nsum
  rw [show (List.range xs.length).map (fun i => if nth xs i < 0 then nth (ones xs) i else 0) = (List.range xs.length).map fun i => if nth xs i < 0 then 1 else 0 from List.map_congr_left fun i hi => by rw [ones_nth (List.mem_range.1 hi)]]
  rw [show (List.range xs.length).map (fun i => if nth xs i < 0 then (1 : Int) else 0) = ((List.range xs.length).map (nth xs)).map fun l => if l < 0 then 1 else 0 by rw [List.map_map]; rfl, nth_range]
theorem normOk_ones (xs : List Int) : normOk xs (ones xs) 1 = (decide (xs.length ≤ 65536) && xs.all litB) := by
  unfold normOk
  have e : (List.range xs.length).all (inB xs (ones xs)) = xs.all litB := by
    rw [Bool.eq_iff_iff, List.all_eq_true, List.all_eq_true]
    constructor
    · intro h x hx
      obtain ⟨i, hi, e⟩ := List.getElem_of_mem hx
      have := inB_lit (h i (List.mem_range.2 hi))
      rwa [nth_eq hi, e] at this
    · intro h i hi
      have hi := List.mem_range.1 hi
      unfold inB
      rw [ones_nth hi, h _ (nth_mem hi)]
      rfl
  rw [e]
  simp [ones]
theorem normed_perm {xs ys : List Int} (h : xs.Perm ys) : normed xs (ones xs) 1 = normed ys (ones ys) 1 := by
  have hl := h.length_eq
  have e1 : normOk xs (ones xs) 1 = normOk ys (ones ys) 1 := by
    rw [normOk_ones, normOk_ones, hl]
    congr 1
    rw [Bool.eq_iff_iff, List.all_eq_true, List.all_eq_true]
    exact ⟨fun k x hx => k x (h.mem_iff.2 hx), fun k x hx => k x (h.mem_iff.1 hx)⟩
  have e2 : vsum xs (ones xs) xs.length = vsum ys (ones ys) ys.length := by
    funext v
    rw [vsum_ones, vsum_ones]
    exact perm_sum _ h
  have e3 : nsum xs (ones xs) xs.length = nsum ys (ones ys) ys.length := by
    rw [nsum_ones, nsum_ones]
    exact perm_sum _ h
  have e4 : normVars xs (ones xs) = normVars ys (ones ys) := by unfold normVars; rw [e2]
  have e5 : normBd xs (ones xs) 1 = normBd ys (ones ys) 1 := by unfold normBd; rw [e2, e3, e4]
  have e6 : normCoefs xs (ones xs) 1 = normCoefs ys (ones ys) 1 := by unfold normCoefs; rw [e2, e4, e5]
  unfold normed
  rw [e1, e2, e4, e5, e6]
theorem clause_keys (ls : List Int) : clauseB ls = normed (keysOf ls) (ones (keysOf ls)) 1 := by
  rw [clauseB_is]
  refine normed_perm ((List.perm_ext_iff_of_nodup (once_nodup ls) (keysOf_is ls).1).2 fun x => ?_)
  rw [mem_once, (keysOf_is ls).2]
theorem keysOf_len (ls : List Int) : (keysOf ls).length ≤ ls.length :=
  List.Nodup.length_le_of_subset (keysOf_is ls).1 fun x hx => ((keysOf_is ls).2 x).1 hx
theorem Pr.belowW {B : Nat} {W0 W W' : World} {vL vC : Value} {n m : Nat} {xs ys : List Value} (h : Pr B W0 W vL vC n m xs ys) (hb : Below W.heap.size W W') : Pr B W0 W' vL vC n m xs ys :=
  ⟨h.1.below hb, h.2.1.below hb, h.2.2.1, h.2.2.2.1.trans (hb.mono h.2.2.2.2), Nat.le_trans h.2.2.2.2 hb.size⟩
theorem rcl_ends {W : World} {R : Ending → World → Prop} {b : Nat} {x y : Value} {z e : Int} {a : Act} (c0 : W.cell? ⟨b, 0, none⟩ = some x) (c1 : W.cell? ⟨b, 1, none⟩ = some y) (c2 : W.cell? ⟨b, 2, none⟩ = some (.int .i64 z))
    (h6 : a.tmps[2]? = some (.pointer (some ⟨b, 0, none⟩))) (h7 : a.tmps[3]? = some (.int .i64 e)) (hd : a.defers = []) (hR : R (.returned (.tuple #[.agg #[x, y, .int .i64 z], .int .i64 e])) W) : bodyPost Tryd.prog Tryd.f23 R .ret a W := by
  refine bodyPost_ret (v := .tuple #[.agg #[x, y, .int .i64 z], .int .i64 e]) ?_ hd hR
  simp [results, Tryd.f23, go_sem, c0, c1, c2, h6, h7]
set_option maxRecDepth 100000 in
set_option maxHeartbeats 4000000 in
theorem rclause_any {w : World} {F : Nat → Prop} {A : Option Addr} {n cA : Nat} {ls : List Int} (hl : Rd w F 1 (.slice A n cA) n (ints ls)) (hi : ∀ x ∈ ls, I64 x) (hn : n ≤ 1000000) :
    Calls Tryd.prog 23 #[.slice A n cA] w fun r w' => (∃ pv, r = .returned (.tuple #[pv, .int .i64 (clauseB ls).2]) ∧ PbRd w' (fun g => w.heap.size ≤ g) pv (clauseB ls).1) ∧ Below w.heap.size w w' := by
  have hll : ls.length = n := by have := hl.1; simpa [ints_length] using this
  obtain ⟨X, hX, bX, kX, sX⟩ := alloc_step w (.cells #[.slice none 0 0, .slice none 0 0, .int .i64 0] 26)
  obtain ⟨Z, hZ⟩ : ∃ z, w.heap.size = z := ⟨_, rfl⟩
  have Hl := hid (hl.below bX)
  have HB := hid bX
  rw [hZ] at kX
  have KX := hid kX
  have HX := hid hX
  have HZ := hid hZ
  have Hll := hid hll
  have Hi := hid hi
  have He := hid (clause_keys ls)
  have hZX : Z < X.heap.size := lt_of_block kX
  clear hl bX kX hX hZ hll sX hi
  go_enter Tryd.func23, Tryd.ntmps23
  go_wp2_with fail
  rw [HX.out, HZ.out]
  go_wp2_with fail
  go_loopw [4, 5, 6] (fun ov cv iv W => ∃ (i : Nat) (P : List Int) (A1 : Option Addr) (c1 : Nat) (A2 : Option Addr) (c2 : Nat), i ≤ n ∧ iv = .int .i64 i ∧ ov = .slice A1 P.length c1 ∧ cv = .slice A2 P.length c2 ∧ Hid (P = keysOf (ls.take i)) ∧
    Hid (Pr X.heap.size X W (.slice A1 P.length c1) (.slice A2 P.length c2) P.length P.length (ints P) (ints (ones P)))) (fun _ _ iv _ => n - (intOf iv).toNat)
  case atStart => exact ⟨0, [], none, 0, none, 0, by omega, rfl, rfl, rfl, hid rfl, hid (Pr.start X)⟩
  case round =>
    obtain ⟨i, P, A1, c1, A2, c2, hin, rfl, rfl, rfl, HP, HT⟩ := hrel
    have hpl : P.length ≤ i := by rw [HP.out]; have := keysOf_len (ls.take i); rw [List.length_take] at this; omega
    by_cases hlt : i < n
    · have x1 : (i : Int) < (n : Int) := by omega
      obtain ⟨g, o, rfl, _, hg, hcx⟩ := Hl.out.cell.2 i hlt
      have hks := keysOf_snoc (ls.take i) (nth ls i)
      rw [← take_nth (by rw [Hll.out]; exact hlt), ← HP.out] at hks
      obtain ⟨x, hx⟩ : ∃ x, nth ls i = x := ⟨_, rfl⟩
      rw [hx] at hcx hks
      have Hks := hid hks
      have Hcx := hid hcx
      obtain ⟨Wo, rfl⟩ : ∃ W : World, W = wr := ⟨_, rfl⟩
      clear hx hks hcx
      go_wp2_with fail
      go_loopw [7, 8] (fun mv kv W => ∃ k : Nat, k ≤ P.length ∧ kv = .int .i64 k ∧ mv = .bool ((P.take k).any fun y => y == x) ∧ Hid (Below Wo.heap.size Wo W)) (fun _ kv _ => P.length - (intOf kv).toNat)
      case atStart => exact ⟨0, by omega, rfl, by simp, hid (Below.refl _ _)⟩
      case round =>
        obtain ⟨k, hk, rfl, rfl, HBk⟩ := hrel
        have HTk := hid (HT.out.belowW HBk.out)
        have hcx := (HTk.out.2.2.2.1.cell (p := ⟨g, o + i, none⟩) hg).trans Hcx.out
        by_cases hlk : k < P.length
        · have x2 : (k : Int) < (P.length : Int) := by omega
          obtain ⟨g', e5, _, hgl, hcy, _⟩ := HTk.out.1.cell (j := k) (by omega)
          subst e5
          rw [ints_nth hlk] at hcy
          have hst : ((P.take (k + 1)).any fun y => y == x) = (((P.take k).any fun y => y == x) || (nth P k == x)) := by rw [take_nth hlk, List.any_append]; simp
          obtain ⟨y, hy⟩ : ∃ y, nth P k = y := ⟨_, rfl⟩
          rw [hy] at hcy hst
          obtain ⟨q, hq⟩ : ∃ q, ((P.take k).any fun y => y == x) = q := ⟨_, rfl⟩
          rw [hq] at hst ⊢
          have Hst := hid hst
          obtain ⟨q2, hq2⟩ : ∃ q, (y == x) = q := ⟨_, rfl⟩
          rw [hq2] at Hst
          clear hy hst hq
          cases q
          · go_wp2_with fail
            go_quiet (fail)
            go_wp2_with fail
            go_roundw
            case rel => exact ⟨k + 1, by omega, by go_num, by rw [Hst.out]; rfl, hid (Bl.drewN HBk.out _)⟩
            case measure => simp [intOf]; omega
          · go_wp2_with fail
            go_quiet (fail)
            go_wp2_with fail
            go_roundw
            case rel => exact ⟨k + 1, by omega, by go_num, by rw [Hst.out]; rfl, hid (Bl.drewN HBk.out _)⟩
            case measure => simp [intOf]; omega
        · have hke : k = P.length := by omega
          have hany : ((P.take k).any fun y => y == x) = decide (x ∈ P) := by
            rw [hke, List.take_length, Bool.eq_iff_iff, List.any_eq_true, decide_eq_true_eq]
            exact ⟨fun ⟨y, h1, h2⟩ => by have : y = x := by simpa using h2
                                         rw [← this]; exact h1, fun h => ⟨x, h, by simp⟩⟩
          rw [hany]
          clear hany hke HT HBk
          obtain ⟨W5, rfl⟩ : ∃ W : World, W = wr := ⟨_, rfl⟩
          by_cases hm : x ∈ P
          · rw [decide_eq_true hm]
            have Hk2 := hid (show keysOf (ls.take (i + 1)) = P by rw [Hks.out]; unfold addK; rw [if_pos hm])
            clear hm
            go_wp2_with fail
            go_roundw
            case rel => exact ⟨i + 1, P, A1, c1, A2, c2, by omega, by go_num, rfl, rfl, hid Hk2.out.symm, HTk⟩
            case measure => simp [intOf]; omega
          · rw [decide_eq_false hm]
            have Hk2 := hid (show keysOf (ls.take (i + 1)) = P ++ [x] by rw [Hks.out]; unfold addK; rw [if_neg hm])
            clear hm
            go_wp2_with (first
              | (at_builtin; refine wpList_append_ints rfl _ _ rfl (HTk.out.alloc (.cells #[.int .i64 x] 3)).1 (own_one W5 (.int .i64 x)).rd rfl rfl (by simp [Value.oneCell']) (by omega) ?_; intro Av3 cv3 W3 ho3 hm3 hr3; have T3 := hid ((HTk.out.alloc (.cells #[.int .i64 x] 3)).push ho3 hm3 hr3); clear ho3 hm3 hr3)
              | (at_builtin; refine wpList_append_ints rfl _ _ rfl (T3.out.alloc (.cells #[.int .i64 1] 3)).swap.1 (own_one W3 (.int .i64 1)).rd rfl rfl (by simp [Value.oneCell']) (by omega) ?_; intro Av7 cv7 W7 ho7 hm7 hr7; have T7 := hid ((T3.out.alloc (.cells #[.int .i64 1] 3)).swap.push ho7 hm7 hr7).swap; clear ho7 hm7 hr7))
            go_roundw
            case rel =>
              refine ⟨i + 1, P ++ [x], Av3, cv3, Av7, cv7, by omega, by go_num, by simp, by simp, hid Hk2.out.symm, ?_⟩
              have e1 : ints (ones (P ++ [x])) = ints (ones P) ++ [.int .i64 1] := by
                unfold ones
                rw [List.length_append, List.length_singleton, List.replicate_succ', ints_append]
                rfl
              rw [e1, ints_append, List.length_append]
              exact T7
            case measure => simp [intOf]; omega
    · have hie : i = n := by omega
      have hP := hid (show P = keysOf ls by rw [HP.out, List.take_of_length_le (by rw [Hll.out]; omega)])
      have hPi := hid (fun x (hx : x ∈ P) => Hi.out x (((keysOf_is ls).2 x).1 (by rw [← hP.out]; exact hx)))
      have hOi := hid (fun x (hx : x ∈ ones P) => (by unfold ones at hx; rw [(List.mem_replicate.1 hx).2]; unfold I64; omega : I64 x))
      have He2 := hid (show clauseB ls = normed P (ones P) 1 by rw [He.out, hP.out])
      clear hie
      go_wp2_with fail
      refine (rnorm_any HT.out.1.rd HT.out.2.1.rd hPi.out hOi.out (by unfold I64; omega)).mono ?_
      rintro r w5 ⟨⟨pv, rfl, hpv⟩, b5⟩
      rw [← He2.out] at hpv ⊢
      have KY5 := keep_blk (keep_blk KX.out HT.out.2.2.2.1) b5
      have hsz := HT.out.2.2.2.2
      obtain ⟨A5, n5, c5, B5, m5, d5, rfl, hst⟩ := stored3 (n₀ := Z) KY5 hpv (fun g hg => by have : wr.heap.size ≤ g := hg; omega) (Nat.le_refl _) (by have := b5.size; omega)
      obtain ⟨t0, t1, t2⟩ := box3 KY5
      have f0 : w5.frozen? ⟨Z, 0, none⟩ = false := by simp [World.frozen?, KY5]
      have f1 : w5.frozen? ⟨Z, 1, none⟩ = false := by simp [World.frozen?, KY5]
      have f2 : w5.frozen? ⟨Z, 2, none⟩ = false := by simp [World.frozen?, KY5]
      have Hst := hid hst
      have Hb5 := hid b5
      clear hst b5 hpv KY5
      go_wp2_with fail
      obtain ⟨u0, u1, u2, hP, hB5⟩ := Hst.out _ rfl
      have hBX : Below w.heap.size w wr := HB.out.trans (HT.out.2.2.2.1.mono HB.out.size)
      exact rcl_ends u0 u1 u2 rfl rfl rfl ⟨⟨_, rfl, hP.mono fun g _ h => by have := HZ.out; omega⟩, (hBX.trans (Hb5.out.mono hBX.size)).trans (hB5.mono (by have := HZ.out; omega))⟩
end Go.Proofs.YtbibjlaepmfoeaaDoor
