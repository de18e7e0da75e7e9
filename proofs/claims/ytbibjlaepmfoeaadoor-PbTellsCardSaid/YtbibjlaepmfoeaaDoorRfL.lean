/-
  Chapter 24, the reference: String.
-/
import Derived.Test.YtbibjlaepmfoeaaDoorRfK
import Derived.Test.YtbibjlaepmfoeaaDoorPbQ
namespace Go.Proofs.YtbibjlaepmfoeaaDoor
open Go.RowKit

theorem cat6 (a b s d : List UInt8) : (⟨a.toArray⟩ : ByteArray) ++ ⟨b.toArray⟩ ++ ⟨#[32]⟩ ++ ⟨s.toArray⟩ ++ ⟨d.toArray⟩ ++ ⟨#[32]⟩ = ⟨(a ++ b ++ [32] ++ s ++ d ++ [32]).toArray⟩ := by
  rw [show (⟨#[32]⟩ : ByteArray) = ⟨([32] : List UInt8).toArray⟩ from rfl, bytes_append, bytes_append, bytes_append, bytes_append, bytes_append]
theorem rword_is {c : Pb} {j : Nat} : c.word j = Lib.itoa (nth c.coefs j) ++ [32] ++ (if nth c.lits j < 0 then [126, 120] else [120]) ++ Lib.itoa ((nth c.lits j).natAbs : Nat) ++ [32] := by
  unfold Pb.word
  by_cases h : nth c.lits j < 0 <;> simp [h]
set_option maxRecDepth 100000 in
set_option maxHeartbeats 4000000 in
theorem rstring_any {w : World} {F : Nat → Prop} {v : Value} {c : Pb} {M : Int} (hc : PbRd w F v c) (hi : ∀ k ∈ c.coefs, I64 k) (h40 : c.lits.length ≤ 65536) (hit : ItoaTo w M) (hM : c.Ok → c.bound ≤ M ∧ ∀ j, j < c.lits.length → ((nth c.lits j).natAbs : Nat) ≤ M) :
    Calls Tryd.prog 30 #[v] w fun r w' => r = .returned (.string ⟨c.text.toArray⟩) ∧ Below w.heap.size w w' := by
  have Hc := hid hc
  obtain ⟨⟨L, n, cn, K, m, cm, rfl, hx, hk⟩, hb⟩ := hc
  have hxl : c.lits.length = n := by have := hx.1; simpa [ints_length] using this
  have hkl : c.coefs.length = m := by have := hk.1; simpa [ints_length] using this
  obtain ⟨X, hX, bX, kX, sX⟩ := alloc_step w (.cells #[.slice L n cn, .slice K m cm, .int .i64 c.bound] 26)
  obtain ⟨Z, hZ⟩ : ∃ z, w.heap.size = z := ⟨_, rfl⟩
  have Hc2 := hid (Hc.out.below bX)
  have Hx2 := hid (hx.below bX)
  have Hk2 := hid (hk.below bX)
  have HB := hid bX
  rw [hZ] at kX
  have KX := hid kX
  have HX := hid hX
  have HZ := hid hZ
  have Hi := hid hi
  have Hxl := hid hxl
  have Hkl := hid hkl
  have Hit := hid hit
  have HM := hid hM
  have hn6 : n ≤ 65536 := by omega
  clear hx hk bX kX hX hZ sX hi Hc hxl hkl hb hit hM
  obtain ⟨e0, e1, e2⟩ := box3 KX.out
  go_enter Tryd.func30, Tryd.ntmps30
  go_wp2_with fail
  rw [HX.out, HZ.out]
  refine (rvalid_any Hc2.out Hi.out h40).mono ?_
  rintro r w1 ⟨rfl, b1⟩
  have KX1 := hid (keep_blk KX.out b1)
  have Hx3 := hid (Hx2.out.below b1)
  have Hk3 := hid (Hk2.out.below b1)
  have HB1 := hid (HB.out.trans (b1.mono HB.out.size))
  clear b1 e0 e1 e2
  cases hok : c.ok
  · have ht := hid (show c.text = [] by unfold Pb.text; rw [hok]; rfl)
    clear hok
    go_wp2_with fail
    go_ret
    exact ⟨by show Ending.returned (Value.string _) = _; rw [ht.out], HB1.out⟩
  · have Hok := hid ((Pb.ok_iff _).1 hok)
    have ht := hid (show c.text = c.words (List.range n) ++ ([62, 61, 32] ++ Lib.itoa c.bound) by unfold Pb.text; rw [hok, Hxl.out]; rfl)
    have hnm : n = m := by rw [← Hxl.out, ← Hkl.out]; exact Hok.out.len
    subst hnm
    clear hok
    obtain ⟨hM1, hM2⟩ := HM.out Hok.out
    have HM2 := hid hM2
    clear HM hM2
    go_wp2_with fail
    go_loopw [3, 4] (fun sv iv W => ∃ j : Nat, j ≤ n ∧ iv = .int .i64 j ∧ sv = .string ⟨(c.words (List.range j)).toArray⟩ ∧ Hid (Below w1.heap.size w1 W)) (fun _ iv _ => n - (intOf iv).toNat)
    case atStart => exact ⟨0, by omega, rfl, rfl, hid (Below.refl _ _)⟩
    case round =>
      obtain ⟨j, hj, rfl, rfl, HBj⟩ := hrel
      have hwl := Hok.out.words_len (List.range j) (fun i hi => by have := List.mem_range.1 hi; rw [Hxl.out]; omega)
      rw [List.length_range] at hwl
      obtain ⟨e0, e1, e2⟩ := box3 (keep_blk KX1.out HBj.out)
      by_cases hlt : j < n
      · have x1 : (j : Int) < (n : Int) := by omega
        obtain ⟨g, o, rfl, _, hg, hcx⟩ := (Hx3.out.below HBj.out).cell.2 j hlt
        obtain ⟨g', o', rfl, _, hg', hck⟩ := (Hk3.out.below HBj.out).cell.2 j hlt
        have hl := Hok.out.lit j (by rw [Hxl.out]; exact hlt)
        have hco := Hok.out.coef j (by rw [Hxl.out]; exact hlt)
        have hhi := Hok.out.high
        have hl4 := HM2.out j (by rw [Hxl.out]; exact hlt)
        have hws := c.words_snoc (List.range j) j
        rw [← List.range_succ, rword_is] at hws
        obtain ⟨lj, hlj⟩ : ∃ x, nth c.lits j = x := ⟨_, rfl⟩
        obtain ⟨kj, hkj⟩ : ∃ x, nth c.coefs j = x := ⟨_, rfl⟩
        rw [hlj] at hl hcx hws hl4
        rw [hkj] at hco hck hws
        obtain ⟨pl, hpl⟩ : ∃ l, c.words (List.range j) = l := ⟨_, rfl⟩
        rw [hpl] at hws hwl ⊢
        have q1 : (Lib.itoa kj).length ≤ 21 := Lib.itoa_length_le kj (by omega) (by omega)
        have q2 : (Lib.itoa ((lj.natAbs : Nat) : Int)).length ≤ 21 := Lib.itoa_length_le _ (by omega) (by omega)
        obtain ⟨vj, hvj⟩ : ∃ v, lj.natAbs = v := ⟨_, rfl⟩
        rw [hvj] at q2 hws hl4
        have Hvj := hid hvj
        obtain ⟨sg, hsg⟩ : ∃ l, (if lj < 0 then [126, 120] else [120] : List UInt8) = l := ⟨_, rfl⟩
        have hsl : sg.length ≤ 2 := by rw [← hsg]; split <;> simp
        rw [hsg] at hws
        have Hws := hid hws
        have Hsg := hid hsg
        have Hik := hid (fun W (hW : Below w.heap.size w W) => Hit.out kj (by omega) (by omega) W hW)
        have Hiv := hid (fun W (hW : Below w.heap.size w W) => Hit.out (vj : Int) (by omega) (by omega) W hW)
        have hWw := hid (HB1.out.trans (HBj.out.mono HB1.out.size))
        obtain ⟨ti, hti⟩ : ∃ l, Lib.itoa kj = l := ⟨_, rfl⟩
        obtain ⟨tv, htv⟩ : ∃ l, Lib.itoa (vj : Int) = l := ⟨_, rfl⟩
        rw [hti] at Hws Hik q1
        rw [htv] at Hws Hiv q2
        have n1 : ¬ 9223372036854775807 < pl.length + ti.length := by omega
        have n2 : ¬ 9223372036854775807 < pl.length + ti.length + 1 := by omega
        have hws2 := hid (show c.words (List.range (j + 1)) = pl ++ ti ++ [32] ++ sg ++ tv ++ [32] by rw [Hws.out]; simp)
        clear hws hlj hkj hpl hvj hsg hg hg' hti htv Hws
        by_cases hneg : lj < 0
        · obtain rfl : sg = [126, 120] := by rw [← Hsg.out, if_pos hneg]
          have n3 : ¬ 9223372036854775807 < pl.length + ti.length + 1 + 2 := by omega
          have n4 : ¬ 9223372036854775807 < pl.length + ti.length + 1 + 2 + tv.length := by omega
          have n5 : ¬ 9223372036854775807 < pl.length + ti.length + 1 + 2 + tv.length + 1 := by omega
          clear Hsg hsl
          go_wp2_with fail
          -- STRN
          have HBd := Bl.drew (Below.refl wr.heap.size wr)
          refine wp_region_held_drew (S := fun w' => (w'.cell? ⟨Z, 0, none⟩ = some (.slice (some ⟨g, o, none⟩) n cn) ∧ w'.cell? ⟨Z, 1, none⟩ = some (.slice (some ⟨g', o', none⟩) n cm) ∧ w'.cell? ⟨g, o + j, none⟩ = some (.int .i64 lj) ∧ w'.cell? ⟨g', o' + j, none⟩ = some (.int .i64 kj)) ∧ Hid (Below wr.heap.size wr w')) (by kernel_rfl) ⟨⟨keep_cell e0 HBd, keep_cell e1 HBd, keep_cell hcx HBd, keep_cell hck HBd⟩, hid HBd⟩ (fun hHeld => ?_)
          clear HBd
          refine wpAnyH_take (i := 0) (oi := ⟨_, _, _, _, _, _⟩) (v := ?_) rfl (by kernel_rfl) (by kernel_rfl) (by kernel_rfl) (fun _ _ _ h => h) (Or.inl ⟨by rfl, ?_⟩) (by assumption) ?_
          rotate_left
          · intro w hSw
            try dsimp only at hSw
            go_simp
            try with_reducible rfl
          simp only [Act.put, List.setIfInBounds_toArray, List.set_cons_zero, List.set_cons_succ]
          refine wpAnyH_take (i := 1) (oi := ⟨_, _, _, _, _, _⟩) (v := ?_) rfl (by kernel_rfl) (by kernel_rfl) (by kernel_rfl) (fun _ _ _ h => h) (Or.inl ⟨by rfl, ?_⟩) (by assumption) ?_
          rotate_left
          · intro w hSw
            try dsimp only at hSw
            go_simp
            try with_reducible rfl
          simp only [Act.put, List.setIfInBounds_toArray, List.set_cons_zero, List.set_cons_succ]
          refine wpAnyH_take (i := 2) (oi := ⟨_, _, _, _, _, _⟩) (v := ?_) rfl (by kernel_rfl) (by kernel_rfl) (by kernel_rfl) (fun _ _ _ h => h) (Or.inl ⟨by rfl, ?_⟩) (by assumption) ?_
          rotate_left
          · intro w hSw
            try dsimp only at hSw
            go_simp
            try with_reducible rfl
          simp only [Act.put, List.setIfInBounds_toArray, List.set_cons_zero, List.set_cons_succ]
          refine wpAnyH_take (i := 3) (oi := ⟨_, _, _, _, _, _⟩) (v := ?_) rfl (by kernel_rfl) (by kernel_rfl) (by kernel_rfl) (fun _ _ _ h => h) (Or.inl ⟨by rfl, ?_⟩) (by assumption) ?_
          rotate_left
          · intro w hSw
            try dsimp only at hSw
            go_simp
            try with_reducible rfl
          simp only [Act.put, List.setIfInBounds_toArray, List.set_cons_zero, List.set_cons_succ]
          refine wpAnyH_take (i := 4) (oi := ⟨_, _, _, _, _, _⟩) (v := ?_) rfl (by kernel_rfl) (by kernel_rfl) (by kernel_rfl) (fun _ _ _ h => h) (Or.inl ⟨by rfl, ?_⟩) (by assumption) ?_
          rotate_left
          · intro w hSw
            try dsimp only at hSw
            go_simp
            try with_reducible rfl
          simp only [Act.put, List.setIfInBounds_toArray, List.set_cons_zero, List.set_cons_succ]
          refine wpAnyH_take (i := 5) (oi := ⟨_, _, _, _, _, _⟩) (v := ?_) rfl (by kernel_rfl) (by kernel_rfl) (by kernel_rfl) (fun _ _ _ h => h) (Or.inl ⟨by rfl, ?_⟩) (by assumption) ?_
          rotate_left
          · intro w hSw
            try dsimp only at hSw
            go_simp
            try with_reducible rfl
          simp only [Act.put, List.setIfInBounds_toArray, List.set_cons_zero, List.set_cons_succ]
          refine wpAnyH_take (i := 9) (oi := ⟨_, _, _, _, _, _⟩) (v := ?_) rfl (by kernel_rfl) (by kernel_rfl) (by kernel_rfl) (fun _ _ _ h => h) (Or.inl ⟨by rfl, ?_⟩) (by assumption) ?_
          rotate_left
          · intro w hSw
            try dsimp only at hSw
            go_simp
            try with_reducible rfl
          simp only [Act.put, List.setIfInBounds_toArray, List.set_cons_zero, List.set_cons_succ]
          refine wpAnyH_take (i := 11) (oi := ⟨_, _, _, _, _, _⟩) (v := ?_) rfl (by kernel_rfl) (by kernel_rfl) (by kernel_rfl) (fun _ _ _ h => h) (Or.inl ⟨by rfl, ?_⟩) (by assumption) ?_
          rotate_left
          · intro w hSw
            try dsimp only at hSw
            go_simp
            try with_reducible rfl
          simp only [Act.put, List.setIfInBounds_toArray, List.set_cons_zero, List.set_cons_succ]
          refine wpAnyH_take (i := 12) (oi := ⟨_, _, _, _, _, _⟩) (v := ?_) rfl (by kernel_rfl) (by kernel_rfl) (by kernel_rfl) (fun _ _ _ h => h) (Or.inl ⟨by rfl, ?_⟩) (by assumption) ?_
          rotate_left
          · intro w hSw
            try dsimp only at hSw
            go_simp
            try with_reducible rfl
          simp only [Act.put, List.setIfInBounds_toArray, List.set_cons_zero, List.set_cons_succ]
          refine wpAnyH_take (i := 13) (oi := ⟨_, _, _, _, _, _⟩) (v := ?_) rfl (by kernel_rfl) (by kernel_rfl) (by kernel_rfl) (fun _ _ _ h => h) (Or.inl ⟨by rfl, ?_⟩) (by assumption) ?_
          rotate_left
          · intro w hSw
            try dsimp only at hSw
            go_simp
            try with_reducible rfl
          simp only [Act.put, List.setIfInBounds_toArray, List.set_cons_zero, List.set_cons_succ]
          refine wpAnyH_take (i := 14) (oi := ⟨_, _, _, _, _, _⟩) (v := ?_) rfl (by kernel_rfl) (by kernel_rfl) (by kernel_rfl) (fun _ _ _ h => h) (Or.inl ⟨by rfl, ?_⟩) (by assumption) ?_
          rotate_left
          · intro w hSw
            try dsimp only at hSw
            go_simp
            try with_reducible rfl
          simp only [Act.put, List.setIfInBounds_toArray, List.set_cons_zero, List.set_cons_succ]
          refine wpAnyH_take (i := 15) (oi := ⟨_, _, _, _, _, _⟩) (v := ?_) rfl (by kernel_rfl) (by kernel_rfl) (by kernel_rfl) (fun _ _ _ h => h) (Or.inl ⟨by rfl, ?_⟩) (by assumption) ?_
          rotate_left
          · intro w hSw
            try dsimp only at hSw
            go_simp
            try with_reducible rfl
          simp only [Act.put, List.setIfInBounds_toArray, List.set_cons_zero, List.set_cons_succ]
          refine wpAnyH_ready (rs := [6]) (by kernel_rfl) (by simp) (AllReadyH.cons (o := ⟨_, _, _, _, _, _⟩) rfl (fun K hK => ?_) AllReadyH.nil)
          go_simp
          refine (Hik.out _ (hWw.out.trans (hHeld.2.out.mono hWw.out.size))).mono ?_
          rintro r w7 ⟨rfl, b7⟩
          go_simp
          refine hK.out _ _ ⟨⟨keep_cell hHeld.1.1 b7, keep_cell hHeld.1.2.1 b7, keep_cell hHeld.1.2.2.1 b7, keep_cell hHeld.1.2.2.2 b7⟩, hid (hHeld.2.out.trans (b7.mono hHeld.2.out.size))⟩ (fun hHeld => ?_)
          clear hK K
          try simp only [Act.put, List.setIfInBounds_toArray, List.set_cons_zero, List.set_cons_succ]
          refine wpAnyH_take (i := 7) (oi := ⟨_, _, _, _, _, _⟩) (v := ?_) rfl (by kernel_rfl) (by kernel_rfl) (by kernel_rfl) (fun _ _ _ h => h) (Or.inl ⟨by rfl, ?_⟩) (by assumption) ?_
          rotate_left
          · intro w hSw
            try dsimp only at hSw
            go_simp
            try with_reducible rfl
          simp only [Act.put, List.setIfInBounds_toArray, List.set_cons_zero, List.set_cons_succ]
          refine wpAnyH_take (i := 8) (oi := ⟨_, _, _, _, _, _⟩) (v := ?_) rfl (by kernel_rfl) (by kernel_rfl) (by kernel_rfl) (fun _ _ _ h => h) (Or.inl ⟨by rfl, ?_⟩) (by assumption) ?_
          rotate_left
          · intro w hSw
            try dsimp only at hSw
            go_simp
            try with_reducible rfl
          simp only [Act.put, List.setIfInBounds_toArray, List.set_cons_zero, List.set_cons_succ]
          refine wpAnyH_take (i := 10) (oi := ⟨_, _, _, _, _, _⟩) (v := ?_) rfl (by kernel_rfl) (by kernel_rfl) (by kernel_rfl) (fun _ _ _ h => h) (Or.inl ⟨by rfl, ?_⟩) (by assumption) ?_
          rotate_left
          · intro w hSw
            try dsimp only at hSw
            go_simp
            try with_reducible rfl
          simp only [Act.put, List.setIfInBounds_toArray, List.set_cons_zero, List.set_cons_succ]
          refine wpAnyH_ready (rs := [16]) (by kernel_rfl) (by simp) (AllReadyH.cons (o := ⟨_, _, _, _, _, _⟩) rfl (fun K hK => ?_) AllReadyH.nil)
          go_simp
          refine (rvar_any (by omega) (by omega)).mono ?_
          rintro r w8 ⟨rfl, rfl⟩
          rw [Hvj.out]
          go_simp
          refine hK.out _ _ hHeld (fun hHeld => ?_)
          clear hK K
          try simp only [Act.put, List.setIfInBounds_toArray, List.set_cons_zero, List.set_cons_succ]
          refine wpAnyH_ready (rs := [17]) (by kernel_rfl) (by simp) (AllReadyH.cons (o := ⟨_, _, _, _, _, _⟩) rfl (fun K hK => ?_) AllReadyH.nil)
          go_simp
          refine (Hiv.out _ (hWw.out.trans (hHeld.2.out.mono hWw.out.size))).mono ?_
          rintro r w9 ⟨rfl, b9⟩
          go_simp
          refine hK.out _ _ ⟨⟨keep_cell hHeld.1.1 b9, keep_cell hHeld.1.2.1 b9, keep_cell hHeld.1.2.2.1 b9, keep_cell hHeld.1.2.2.2 b9⟩, hid (hHeld.2.out.trans (b9.mono hHeld.2.out.size))⟩ (fun hHeld => ?_)
          clear hK K
          try simp only [Act.put, List.setIfInBounds_toArray, List.set_cons_zero, List.set_cons_succ]
          refine wpAnyH_take (i := 18) (oi := ⟨_, _, _, _, _, _⟩) (v := ?_) rfl (by kernel_rfl) (by kernel_rfl) (by kernel_rfl) (fun _ _ _ h => h) (Or.inl ⟨by rfl, ?_⟩) (by assumption) ?_
          rotate_left
          · intro w hSw
            try dsimp only at hSw
            go_simp
            try with_reducible rfl
          simp only [Act.put, List.setIfInBounds_toArray, List.set_cons_zero, List.set_cons_succ]
          refine wpAnyH_take (i := 19) (oi := ⟨_, _, _, _, _, _⟩) (v := ?_) rfl (by kernel_rfl) (by kernel_rfl) (by kernel_rfl) (fun _ _ _ h => h) (Or.inl ⟨by rfl, ?_⟩) (by assumption) ?_
          rotate_left
          · intro w hSw
            try dsimp only at hSw
            go_simp
            try with_reducible rfl
          simp only [Act.put, List.setIfInBounds_toArray, List.set_cons_zero, List.set_cons_succ]
          refine wpAnyH_take (i := 20) (oi := ⟨_, _, _, _, _, _⟩) (v := ?_) rfl (by kernel_rfl) (by kernel_rfl) (by kernel_rfl) (fun _ _ _ h => h) (Or.inl ⟨by rfl, ?_⟩) (by assumption) ?_
          rotate_left
          · intro w hSw
            try dsimp only at hSw
            go_simp
            try with_reducible rfl
          simp only [Act.put, List.setIfInBounds_toArray, List.set_cons_zero, List.set_cons_succ]
          refine wpAnyH_done (by kernel_rfl) ?_ _
          -- END STRN
          have HB9 := hid (HBj.out.trans (hHeld.2.out.mono HBj.out.size))
          clear hHeld
          go_wp2_with fail
          go_roundw
          case rel => exact ⟨j + 1, by omega, by go_num, by rw [hws2.out]; exact congrArg Value.string (cat6 pl ti _ tv), HB9⟩
          case measure => simp [intOf]; omega
        · obtain rfl : sg = [120] := by rw [← Hsg.out, if_neg hneg]
          have n3 : ¬ 9223372036854775807 < pl.length + ti.length + 1 + 1 := by omega
          have n4 : ¬ 9223372036854775807 < pl.length + ti.length + 1 + 1 + tv.length := by omega
          have n5 : ¬ 9223372036854775807 < pl.length + ti.length + 1 + 1 + tv.length + 1 := by omega
          clear Hsg hsl
          go_wp2_with fail
          -- STRP
          have HBd := Bl.drew (Below.refl wr.heap.size wr)
          refine wp_region_held_drew (S := fun w' => (w'.cell? ⟨Z, 0, none⟩ = some (.slice (some ⟨g, o, none⟩) n cn) ∧ w'.cell? ⟨Z, 1, none⟩ = some (.slice (some ⟨g', o', none⟩) n cm) ∧ w'.cell? ⟨g, o + j, none⟩ = some (.int .i64 lj) ∧ w'.cell? ⟨g', o' + j, none⟩ = some (.int .i64 kj)) ∧ Hid (Below wr.heap.size wr w')) (by kernel_rfl) ⟨⟨keep_cell e0 HBd, keep_cell e1 HBd, keep_cell hcx HBd, keep_cell hck HBd⟩, hid HBd⟩ (fun hHeld => ?_)
          clear HBd
          refine wpAnyH_take (i := 0) (oi := ⟨_, _, _, _, _, _⟩) (v := ?_) rfl (by kernel_rfl) (by kernel_rfl) (by kernel_rfl) (fun _ _ _ h => h) (Or.inl ⟨by rfl, ?_⟩) (by assumption) ?_
          rotate_left
          · intro w hSw
            try dsimp only at hSw
            go_simp
            try with_reducible rfl
          simp only [Act.put, List.setIfInBounds_toArray, List.set_cons_zero, List.set_cons_succ]
          refine wpAnyH_take (i := 1) (oi := ⟨_, _, _, _, _, _⟩) (v := ?_) rfl (by kernel_rfl) (by kernel_rfl) (by kernel_rfl) (fun _ _ _ h => h) (Or.inl ⟨by rfl, ?_⟩) (by assumption) ?_
          rotate_left
          · intro w hSw
            try dsimp only at hSw
            go_simp
            try with_reducible rfl
          simp only [Act.put, List.setIfInBounds_toArray, List.set_cons_zero, List.set_cons_succ]
          refine wpAnyH_take (i := 2) (oi := ⟨_, _, _, _, _, _⟩) (v := ?_) rfl (by kernel_rfl) (by kernel_rfl) (by kernel_rfl) (fun _ _ _ h => h) (Or.inl ⟨by rfl, ?_⟩) (by assumption) ?_
          rotate_left
          · intro w hSw
            try dsimp only at hSw
            go_simp
            try with_reducible rfl
          simp only [Act.put, List.setIfInBounds_toArray, List.set_cons_zero, List.set_cons_succ]
          refine wpAnyH_take (i := 3) (oi := ⟨_, _, _, _, _, _⟩) (v := ?_) rfl (by kernel_rfl) (by kernel_rfl) (by kernel_rfl) (fun _ _ _ h => h) (Or.inl ⟨by rfl, ?_⟩) (by assumption) ?_
          rotate_left
          · intro w hSw
            try dsimp only at hSw
            go_simp
            try with_reducible rfl
          simp only [Act.put, List.setIfInBounds_toArray, List.set_cons_zero, List.set_cons_succ]
          refine wpAnyH_take (i := 4) (oi := ⟨_, _, _, _, _, _⟩) (v := ?_) rfl (by kernel_rfl) (by kernel_rfl) (by kernel_rfl) (fun _ _ _ h => h) (Or.inl ⟨by rfl, ?_⟩) (by assumption) ?_
          rotate_left
          · intro w hSw
            try dsimp only at hSw
            go_simp
            try with_reducible rfl
          simp only [Act.put, List.setIfInBounds_toArray, List.set_cons_zero, List.set_cons_succ]
          refine wpAnyH_take (i := 5) (oi := ⟨_, _, _, _, _, _⟩) (v := ?_) rfl (by kernel_rfl) (by kernel_rfl) (by kernel_rfl) (fun _ _ _ h => h) (Or.inl ⟨by rfl, ?_⟩) (by assumption) ?_
          rotate_left
          · intro w hSw
            try dsimp only at hSw
            go_simp
            try with_reducible rfl
          simp only [Act.put, List.setIfInBounds_toArray, List.set_cons_zero, List.set_cons_succ]
          refine wpAnyH_take (i := 9) (oi := ⟨_, _, _, _, _, _⟩) (v := ?_) rfl (by kernel_rfl) (by kernel_rfl) (by kernel_rfl) (fun _ _ _ h => h) (Or.inl ⟨by rfl, ?_⟩) (by assumption) ?_
          rotate_left
          · intro w hSw
            try dsimp only at hSw
            go_simp
            try with_reducible rfl
          simp only [Act.put, List.setIfInBounds_toArray, List.set_cons_zero, List.set_cons_succ]
          refine wpAnyH_take (i := 11) (oi := ⟨_, _, _, _, _, _⟩) (v := ?_) rfl (by kernel_rfl) (by kernel_rfl) (by kernel_rfl) (fun _ _ _ h => h) (Or.inl ⟨by rfl, ?_⟩) (by assumption) ?_
          rotate_left
          · intro w hSw
            try dsimp only at hSw
            go_simp
            try with_reducible rfl
          simp only [Act.put, List.setIfInBounds_toArray, List.set_cons_zero, List.set_cons_succ]
          refine wpAnyH_take (i := 12) (oi := ⟨_, _, _, _, _, _⟩) (v := ?_) rfl (by kernel_rfl) (by kernel_rfl) (by kernel_rfl) (fun _ _ _ h => h) (Or.inl ⟨by rfl, ?_⟩) (by assumption) ?_
          rotate_left
          · intro w hSw
            try dsimp only at hSw
            go_simp
            try with_reducible rfl
          simp only [Act.put, List.setIfInBounds_toArray, List.set_cons_zero, List.set_cons_succ]
          refine wpAnyH_take (i := 13) (oi := ⟨_, _, _, _, _, _⟩) (v := ?_) rfl (by kernel_rfl) (by kernel_rfl) (by kernel_rfl) (fun _ _ _ h => h) (Or.inl ⟨by rfl, ?_⟩) (by assumption) ?_
          rotate_left
          · intro w hSw
            try dsimp only at hSw
            go_simp
            try with_reducible rfl
          simp only [Act.put, List.setIfInBounds_toArray, List.set_cons_zero, List.set_cons_succ]
          refine wpAnyH_take (i := 14) (oi := ⟨_, _, _, _, _, _⟩) (v := ?_) rfl (by kernel_rfl) (by kernel_rfl) (by kernel_rfl) (fun _ _ _ h => h) (Or.inl ⟨by rfl, ?_⟩) (by assumption) ?_
          rotate_left
          · intro w hSw
            try dsimp only at hSw
            go_simp
            try with_reducible rfl
          simp only [Act.put, List.setIfInBounds_toArray, List.set_cons_zero, List.set_cons_succ]
          refine wpAnyH_take (i := 15) (oi := ⟨_, _, _, _, _, _⟩) (v := ?_) rfl (by kernel_rfl) (by kernel_rfl) (by kernel_rfl) (fun _ _ _ h => h) (Or.inl ⟨by rfl, ?_⟩) (by assumption) ?_
          rotate_left
          · intro w hSw
            try dsimp only at hSw
            go_simp
            try with_reducible rfl
          simp only [Act.put, List.setIfInBounds_toArray, List.set_cons_zero, List.set_cons_succ]
          refine wpAnyH_ready (rs := [6]) (by kernel_rfl) (by simp) (AllReadyH.cons (o := ⟨_, _, _, _, _, _⟩) rfl (fun K hK => ?_) AllReadyH.nil)
          go_simp
          refine (Hik.out _ (hWw.out.trans (hHeld.2.out.mono hWw.out.size))).mono ?_
          rintro r w7 ⟨rfl, b7⟩
          go_simp
          refine hK.out _ _ ⟨⟨keep_cell hHeld.1.1 b7, keep_cell hHeld.1.2.1 b7, keep_cell hHeld.1.2.2.1 b7, keep_cell hHeld.1.2.2.2 b7⟩, hid (hHeld.2.out.trans (b7.mono hHeld.2.out.size))⟩ (fun hHeld => ?_)
          clear hK K
          try simp only [Act.put, List.setIfInBounds_toArray, List.set_cons_zero, List.set_cons_succ]
          refine wpAnyH_take (i := 7) (oi := ⟨_, _, _, _, _, _⟩) (v := ?_) rfl (by kernel_rfl) (by kernel_rfl) (by kernel_rfl) (fun _ _ _ h => h) (Or.inl ⟨by rfl, ?_⟩) (by assumption) ?_
          rotate_left
          · intro w hSw
            try dsimp only at hSw
            go_simp
            try with_reducible rfl
          simp only [Act.put, List.setIfInBounds_toArray, List.set_cons_zero, List.set_cons_succ]
          refine wpAnyH_take (i := 8) (oi := ⟨_, _, _, _, _, _⟩) (v := ?_) rfl (by kernel_rfl) (by kernel_rfl) (by kernel_rfl) (fun _ _ _ h => h) (Or.inl ⟨by rfl, ?_⟩) (by assumption) ?_
          rotate_left
          · intro w hSw
            try dsimp only at hSw
            go_simp
            try with_reducible rfl
          simp only [Act.put, List.setIfInBounds_toArray, List.set_cons_zero, List.set_cons_succ]
          refine wpAnyH_take (i := 10) (oi := ⟨_, _, _, _, _, _⟩) (v := ?_) rfl (by kernel_rfl) (by kernel_rfl) (by kernel_rfl) (fun _ _ _ h => h) (Or.inl ⟨by rfl, ?_⟩) (by assumption) ?_
          rotate_left
          · intro w hSw
            try dsimp only at hSw
            go_simp
            try with_reducible rfl
          simp only [Act.put, List.setIfInBounds_toArray, List.set_cons_zero, List.set_cons_succ]
          refine wpAnyH_ready (rs := [16]) (by kernel_rfl) (by simp) (AllReadyH.cons (o := ⟨_, _, _, _, _, _⟩) rfl (fun K hK => ?_) AllReadyH.nil)
          go_simp
          refine (rvar_any (by omega) (by omega)).mono ?_
          rintro r w8 ⟨rfl, rfl⟩
          rw [Hvj.out]
          go_simp
          refine hK.out _ _ hHeld (fun hHeld => ?_)
          clear hK K
          try simp only [Act.put, List.setIfInBounds_toArray, List.set_cons_zero, List.set_cons_succ]
          refine wpAnyH_ready (rs := [17]) (by kernel_rfl) (by simp) (AllReadyH.cons (o := ⟨_, _, _, _, _, _⟩) rfl (fun K hK => ?_) AllReadyH.nil)
          go_simp
          refine (Hiv.out _ (hWw.out.trans (hHeld.2.out.mono hWw.out.size))).mono ?_
          rintro r w9 ⟨rfl, b9⟩
          go_simp
          refine hK.out _ _ ⟨⟨keep_cell hHeld.1.1 b9, keep_cell hHeld.1.2.1 b9, keep_cell hHeld.1.2.2.1 b9, keep_cell hHeld.1.2.2.2 b9⟩, hid (hHeld.2.out.trans (b9.mono hHeld.2.out.size))⟩ (fun hHeld => ?_)
          clear hK K
          try simp only [Act.put, List.setIfInBounds_toArray, List.set_cons_zero, List.set_cons_succ]
          refine wpAnyH_take (i := 18) (oi := ⟨_, _, _, _, _, _⟩) (v := ?_) rfl (by kernel_rfl) (by kernel_rfl) (by kernel_rfl) (fun _ _ _ h => h) (Or.inl ⟨by rfl, ?_⟩) (by assumption) ?_
          rotate_left
          · intro w hSw
            try dsimp only at hSw
            go_simp
            try with_reducible rfl
          simp only [Act.put, List.setIfInBounds_toArray, List.set_cons_zero, List.set_cons_succ]
          refine wpAnyH_take (i := 19) (oi := ⟨_, _, _, _, _, _⟩) (v := ?_) rfl (by kernel_rfl) (by kernel_rfl) (by kernel_rfl) (fun _ _ _ h => h) (Or.inl ⟨by rfl, ?_⟩) (by assumption) ?_
          rotate_left
          · intro w hSw
            try dsimp only at hSw
            go_simp
            try with_reducible rfl
          simp only [Act.put, List.setIfInBounds_toArray, List.set_cons_zero, List.set_cons_succ]
          refine wpAnyH_take (i := 20) (oi := ⟨_, _, _, _, _, _⟩) (v := ?_) rfl (by kernel_rfl) (by kernel_rfl) (by kernel_rfl) (fun _ _ _ h => h) (Or.inl ⟨by rfl, ?_⟩) (by assumption) ?_
          rotate_left
          · intro w hSw
            try dsimp only at hSw
            go_simp
            try with_reducible rfl
          simp only [Act.put, List.setIfInBounds_toArray, List.set_cons_zero, List.set_cons_succ]
          refine wpAnyH_done (by kernel_rfl) ?_ _
          -- END STRP
          have HB9 := hid (HBj.out.trans (hHeld.2.out.mono HBj.out.size))
          clear hHeld
          go_wp2_with fail
          go_roundw
          case rel => exact ⟨j + 1, by omega, by go_num, by rw [hws2.out]; exact congrArg Value.string (cat6 pl ti _ tv), HB9⟩
          case measure => simp [intOf]; omega
      · have hjn : j = n := by omega
        have hhi := Hok.out.high
        have hlo := Hok.out.low
        obtain ⟨bd, hbd⟩ : ∃ x, c.bound = x := ⟨_, rfl⟩
        rw [hbd] at e2 hM1 hhi hlo ht
        have q1 : (Lib.itoa bd).length ≤ 21 := Lib.itoa_length_le bd (by omega) (by omega)
        rw [← hjn] at ht
        obtain ⟨pl, hpl⟩ : ∃ l, c.words (List.range j) = l := ⟨_, rfl⟩
        rw [hpl] at hwl ht ⊢
        obtain ⟨ti, hti⟩ : ∃ l, Lib.itoa bd = l := ⟨_, rfl⟩
        have hI := Hit.out bd (by omega) hM1
        rw [hti] at q1 ht hI
        have HI := hid hI
        have n1 : ¬ 9223372036854775807 < pl.length + 3 := by omega
        have n2 : ¬ 9223372036854775807 < pl.length + 3 + ti.length := by omega
        have hWw := hid (HB1.out.trans (HBj.out.mono HB1.out.size))
        clear hjn hbd hpl hti hI
        go_wp2_with fail
        refine (HI.out _ hWw.out).mono ?_
        rintro r w5 ⟨rfl, b5⟩
        have HB5 := hid (hWw.out.trans (b5.mono hWw.out.size))
        clear b5
        go_wp2_with fail
        go_ret
        exact ⟨by show Ending.returned (Value.string _) = _; rw [ht.out, show (⟨#[62, 61, 32]⟩ : ByteArray) = ⟨([62, 61, 32] : List UInt8).toArray⟩ from rfl, bytes_append, bytes_append, List.append_assoc], HB5.out⟩
end Go.Proofs.YtbibjlaepmfoeaaDoor
