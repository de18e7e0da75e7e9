/-
  Chapter 24, the reference: Negate, Equal.
-/
import Derived.Test.YtbibjlaepmfoeaaDoorRfG
import Derived.Test.YtbibjlaepmfoeaaDoorPbO
namespace Go.Proofs.YtbibjlaepmfoeaaDoor
open Go.RowKit

theorem rneg_ends {W : World} {R : Ending → World → Prop} {b : Nat} {x y : Value} {z e : Int} {a : Act} (c0 : W.cell? ⟨b, 0, none⟩ = some x) (c1 : W.cell? ⟨b, 1, none⟩ = some y) (c2 : W.cell? ⟨b, 2, none⟩ = some (.int .i64 z))
    (h6 : a.tmps[2]? = some (.pointer (some ⟨b, 0, none⟩))) (h7 : a.tmps[3]? = some (.int .i64 e)) (hd : a.defers = []) (hR : R (.returned (.tuple #[.agg #[x, y, .int .i64 z], .int .i64 e])) W) : bodyPost Tryd.prog Tryd.f24 R .ret a W := by
  refine bodyPost_ret (v := .tuple #[.agg #[x, y, .int .i64 z], .int .i64 e]) ?_ hd hR
  simp [results, Tryd.f24, go_sem, c0, c1, c2, h6, h7]
/-- A constraint that was stored into box b. -/
theorem stored3 {W : World} {b : Nat} {x y z : Value} {n₀ : Nat} {F : Nat → Prop} {pv : Value} {c : Pb} (k : W.heap[b]? = some (.cells #[x, y, z] 26 (0, 0))) (hp : PbRd W F pv c) (hF : ∀ g, F g → n₀ ≤ g ∧ g ≠ b) (hb : n₀ ≤ b) (hn : n₀ ≤ W.heap.size) :
    ∃ A n cn B m cm, pv = .agg #[.slice A n cn, .slice B m cm, .int .i64 c.bound] ∧ ∀ W', (((W.setCell ⟨b, 0, none⟩ (.slice A n cn)).setCell ⟨b, 1, none⟩ (.slice B m cm)).setCell ⟨b, 2, none⟩ (.int .i64 c.bound)) = W' → W'.cell? ⟨b, 0, none⟩ = some (.slice A n cn) ∧ W'.cell? ⟨b, 1, none⟩ = some (.slice B m cm) ∧
      W'.cell? ⟨b, 2, none⟩ = some (.int .i64 c.bound) ∧ PbRd W' (fun g => n₀ ≤ g) (.agg #[.slice A n cn, .slice B m cm, .int .i64 c.bound]) c ∧ Below n₀ W W' := by
  obtain ⟨t0, t1, t2⟩ := box3 k
  obtain ⟨A, n, cn, B, m, cm, rfl, _, _⟩ := hp.form
  refine ⟨A, n, cn, B, m, cm, rfl, fun W' e => ?_⟩
  subst e
  obtain ⟨u0, u1, u2, m3⟩ := set3 t0 t1 t2 (.slice A n cn) (.slice B m cm) (.int .i64 c.bound)
  exact ⟨u0, u1, u2, (hp.mod m3 fun g _ h e => (hF g h).2 e).mono fun g _ h => (hF g h).1, below_mod (Below.refl _ _) hn m3 fun g e => by rw [e]; exact hb⟩
set_option maxRecDepth 100000 in
set_option maxHeartbeats 4000000 in
theorem rnegate_any {w : World} {F : Nat → Prop} {v : Value} {c : Pb} (hc : PbRd w F v c) (hi : ∀ k ∈ c.coefs, I64 k) (h40 : c.lits.length ≤ 65536) :
    Calls Tryd.prog 24 #[v] w fun r w' => (∃ pv, r = .returned (.tuple #[pv, .int .i64 c.negB.2]) ∧ PbRd w' (fun g => w.heap.size ≤ g) pv c.negB.1) ∧ Below w.heap.size w w' := by
  have Hc := hid hc
  obtain ⟨⟨L, n, cn, K, m, cm, rfl, hx, hk⟩, hb⟩ := hc
  have hxl : c.lits.length = n := by have := hx.1; simpa [ints_length] using this
  have hkl : c.coefs.length = m := by have := hk.1; simpa [ints_length] using this
  obtain ⟨X, hX, bX, kX, sX⟩ := alloc_step w (.cells #[.slice L n cn, .slice K m cm, .int .i64 c.bound] 26)
  obtain ⟨Y, hY, bY, kY, sY⟩ := alloc_step X (.cells #[.slice none 0 0, .slice none 0 0, .int .i64 0] 26)
  obtain ⟨Z, hZ⟩ : ∃ z, w.heap.size = z := ⟨_, rfl⟩
  have Hc2 := hid ((Hc.out.below bX).below bY)
  have Hx2 := hid ((hx.below bX).below bY)
  have Hk2 := hid ((hk.below bX).below bY)
  have HB := hid (bX.trans (bY.mono bX.size))
  have kX2 := keep_blk kX bY
  rw [sX] at kY
  rw [hZ] at kX2 kY sX
  have KX := hid kX2
  have KY := hid kY
  have HX := hid hX
  have HY := hid hY
  have HZ := hid hZ
  have HsX := hid sX
  have Hi := hid hi
  have Hxl := hid hxl
  have Hkl := hid hkl
  have hn6 : n ≤ 65536 := by omega
  unfold I64 at hb
  clear hx hk bX bY kX kX2 kY hX hY hZ sX sY hi Hc hxl hkl
  obtain ⟨e0, e1, e2⟩ := box3 KX.out
  obtain ⟨t0, t1, t2⟩ := box3 KY.out
  have f0 : Y.frozen? ⟨Z + 1, 0, none⟩ = false := by simp [World.frozen?, KY.out]
  have f1 : Y.frozen? ⟨Z + 1, 1, none⟩ = false := by simp [World.frozen?, KY.out]
  have f2 : Y.frozen? ⟨Z + 1, 2, none⟩ = false := by simp [World.frozen?, KY.out]
  go_enter Tryd.func24, Tryd.ntmps24
  go_wp2_with fail
  rw [HX.out, HY.out, HZ.out]
  refine (rvalid_any Hc2.out Hi.out h40).mono ?_
  rintro r w1 ⟨rfl, b1⟩
  have KX1 := hid (keep_blk KX.out b1)
  have KY1 := hid (keep_blk KY.out b1)
  have Hx3 := hid (Hx2.out.below b1)
  have Hk3 := hid (Hk2.out.below b1)
  have HB1 := hid (HB.out.trans (b1.mono HB.out.size))
  have hw1 : Z < w1.heap.size := lt_of_block KX1.out
  have hw2 : Z + 1 < w1.heap.size := lt_of_block KY1.out
  clear b1 e0 e1 e2 t0 t1 t2 f0 f1 f2
  obtain ⟨e0, e1, e2⟩ := box3 KX1.out
  cases hok : c.ok
  · obtain ⟨t0, t1, t2⟩ := box3 KY1.out
    have f0 : w1.frozen? ⟨Z + 1, 0, none⟩ = false := by simp [World.frozen?, KY1.out]
    have f1 : w1.frozen? ⟨Z + 1, 1, none⟩ = false := by simp [World.frozen?, KY1.out]
    have f2 : w1.frozen? ⟨Z + 1, 2, none⟩ = false := by simp [World.frozen?, KY1.out]
    have he := hid (show c.negB = (⟨[], [], 0⟩, 2) by unfold Pb.negB; rw [hok]; rfl)
    clear hok
    go_wp2_with fail
    obtain ⟨u0, u1, u2, m3⟩ := set3 t0 t1 t2 (.slice none 0 0) (.slice none 0 0) (.int .i64 0)
    refine rneg_ends u0 u1 u2 rfl rfl rfl ⟨⟨_, by rw [he.out], ?_⟩, below_mod HB1.out HB1.out.size m3 fun g e => by have := HZ.out; omega⟩
    rw [he.out]
    exact ⟨⟨none, 0, 0, none, 0, 0, rfl, Rd.empty _ _ _, Rd.empty _ _ _⟩, by show I64 0; unfold I64; omega⟩
  · have Hok := hid ((Pb.ok_iff _).1 hok)
    have he := hid (show c.negB = normed (c.lits.map fun l => -l) c.coefs (c.coefs.sum - c.bound + 1) by unfold Pb.negB; rw [hok]; rfl)
    have hnm : n = m := by rw [← Hxl.out, ← Hkl.out]; exact Hok.out.len
    subst hnm
    clear hok
    go_wp2_with fail
    go_loopw [4, 5, 6] (fun lv sv iv W => ∃ (j : Nat) (A1 : Option Addr) (c1 : Nat), j ≤ n ∧ iv = .int .i64 j ∧ sv = .int .i64 (c.sum j) ∧ lv = .slice A1 j c1 ∧ Hid (0 ≤ c.sum j ∧ c.sum j ≤ j * 16777216) ∧ Hid (Grw w1.heap.size w1 W (.slice A1 j c1) j ((c.lits.take j).map fun l => -l))) (fun _ _ iv _ => n - (intOf iv).toNat)
    case atStart => exact ⟨0, none, 0, by omega, rfl, by simp [Pb.sum], rfl, hid (by simp [Pb.sum]), hid (Grw.start w1)⟩
    case round =>
      obtain ⟨j, A1, c1, hj, rfl, rfl, rfl, Hs, HG⟩ := hrel
      clear e0 e1 e2
      obtain ⟨e0, e1, e2⟩ := box3 (keep_blk KX1.out HG.out.2.1)
      have hs := Hs.out
      by_cases hlt : j < n
      · have x1 : (j : Int) < (n : Int) := by omega
        obtain ⟨g, o, rfl, _, hg, hcx⟩ := Hx3.out.cell.2 j hlt
        obtain ⟨g', o', rfl, _, hg', hck⟩ := Hk3.out.cell.2 j hlt
        have d0 := (HG.out.2.1.cell (p := ⟨g, o + j, none⟩) hg).trans hcx
        have hl := Hok.out.lit j (by rw [Hxl.out]; exact hlt)
        have hco := Hok.out.coef j (by rw [Hxl.out]; exact hlt)
        have hhi := Hok.out.high
        have hsum : c.sum (j + 1) = c.sum j + nth c.coefs j := by unfold Pb.sum; rw [take_nth (by rw [Hkl.out]; exact hlt), List.sum_append]; simp
        have htk : (c.lits.take (j + 1)).map (fun l => -l) = (c.lits.take j).map (fun l => -l) ++ [-(nth c.lits j)] := by rw [take_nth (by rw [Hxl.out]; exact hlt), List.map_append]; rfl
        obtain ⟨lj, hlj⟩ : ∃ x, nth c.lits j = x := ⟨_, rfl⟩
        obtain ⟨kj, hkj⟩ : ∃ x, nth c.coefs j = x := ⟨_, rfl⟩
        rw [hlj] at hl hcx d0 htk
        rw [hkj] at hco hck hsum
        obtain ⟨sj, hsj⟩ : ∃ x, c.sum j = x := ⟨_, rfl⟩
        rw [hsj] at hsum hs ⊢
        have Hsum := hid hsum
        have Htk := hid htk
        have hwl : IntKind.i64.wrap (-lj) = -lj := iw' (by omega) (by omega)
        have Hs2 := hid (show 0 ≤ sj ∧ sj ≤ j * 16777216 from hs)
        have Hck := hid hck
        clear hlj hkj hsj hsum htk Hs hcx hck
        go_wp2_with (first
          | (at_builtin; refine wpList_append_ints rfl _ _ rfl (HG.out.alloc (.cells #[.int .i64 (-lj)] 3)).1 (own_one wr (.int .i64 (-lj))).rd rfl rfl (by simp [Value.oneCell']) (by omega) ?_; intro Av3 cv3 W3 ho3 hm3 hr3; have T3 := hid ((HG.out.alloc (.cells #[.int .i64 (-lj)] 3)).push (ys := (c.lits.take j).map (fun l => -l) ++ [-lj]) (by rw [ints_append]; exact ho3) hm3); obtain ⟨q0, q1, q2⟩ := box3 (keep_blk KX1.out T3.out.2.1); have d1 := (T3.out.2.1.cell (p := ⟨g', o' + j, none⟩) hg').trans Hck.out; clear ho3 hm3 hr3))
        go_roundw
        case rel => exact ⟨j + 1, Av3, cv3, by omega, by go_num, by rw [Hsum.out], rfl, hid (by rw [Hsum.out]; have := Hs2.out; omega), hid (by rw [Htk.out]; exact T3.out)⟩
        case measure => simp [intOf]; omega
      · have hjn : j = n := by omega
        have hsn : c.sum j = c.coefs.sum := by unfold Pb.sum; rw [List.take_of_length_le (by rw [Hkl.out]; omega)]
        have Rl := hid (show Rd wr (fun g => w1.heap.size ≤ g) 1 (.slice A1 j c1) j (ints (c.lits.map fun l => -l)) by have := HG.out.1.rd; rwa [List.take_of_length_le (by rw [Hxl.out]; omega)] at this)
        have Rk := hid (Hk3.out.below HG.out.2.1)
        have hlo := Hok.out.low
        have hhi := Hok.out.high
        rw [hsn] at hs ⊢
        have HBj := hid (HB1.out.trans (HG.out.2.1.mono HB1.out.size))
        have KYj := hid (keep_blk KY1.out HG.out.2.1)
        have hszj : w1.heap.size ≤ wr.heap.size := HG.out.2.2
        obtain ⟨bd, hbd⟩ : ∃ x, c.bound = x := ⟨_, rfl⟩
        obtain ⟨s, hs2⟩ : ∃ x, c.coefs.sum = x := ⟨_, rfl⟩
        have He := hid (show c.negB = normed (c.lits.map fun l => -l) c.coefs (s - bd + 1) by rw [he.out, hbd, hs2])
        rw [hbd] at hlo hhi e2
        rw [hs2] at hs ⊢
        have Hli := hid (fun x (hx : x ∈ c.lits.map fun l => -l) => (by
          obtain ⟨l, hl, rfl⟩ := List.mem_map.1 hx
          have := Hok.out.i64l l hl
          obtain ⟨i, hi, e⟩ := List.getElem_of_mem hl
          have h2 := Hok.out.lit i hi
          rw [nth_eq hi, e] at h2
          unfold I64
          omega : I64 x))
        clear hsn hbd hs2 he HG Hs hjn
        go_wp2_with fail
        refine (rnorm_any Rl.out Rk.out Hli.out Hi.out (by unfold I64; omega)).mono ?_
        rintro r w5 ⟨⟨pv, rfl, hpv⟩, b5⟩
        rw [← He.out] at hpv ⊢
        have KY5 := keep_blk KYj.out b5
        obtain ⟨A5, n5, c5, B5, m5, d5, rfl, hst⟩ := stored3 (n₀ := Z + 1) KY5 hpv (fun g hg => by have : wr.heap.size ≤ g := hg; omega) (Nat.le_refl _) (by have := b5.size; omega)
        obtain ⟨t0, t1, t2⟩ := box3 KY5
        have f0 : w5.frozen? ⟨Z + 1, 0, none⟩ = false := by simp [World.frozen?, KY5]
        have f1 : w5.frozen? ⟨Z + 1, 1, none⟩ = false := by simp [World.frozen?, KY5]
        have f2 : w5.frozen? ⟨Z + 1, 2, none⟩ = false := by simp [World.frozen?, KY5]
        have Hst := hid hst
        have Hb5 := hid b5
        clear hst b5 hpv KY5
        go_wp2_with fail
        obtain ⟨u0, u1, u2, hP, hB5⟩ := Hst.out _ rfl
        exact rneg_ends u0 u1 u2 rfl rfl rfl ⟨⟨_, rfl, hP.mono fun g _ h => by have := HZ.out; omega⟩, (HBj.out.trans (Hb5.out.mono HBj.out.size)).trans (hB5.mono (by have := HZ.out; omega))⟩
end Go.Proofs.YtbibjlaepmfoeaaDoor
