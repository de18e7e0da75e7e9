/-
  ostlerlaw28.TrailOwn returns true, whatever comes in, and writes nothing that was there.
-/
import Derived.Test.YtbghfdhijlpogaaReasons
namespace Go.Proofs.Ytbghfdhijlpogaa
open Go.RowKit

/-! ### plain -/
theorem short_reason {T : Tr} (h : T.short) (v : Int) : (T.reasonOf v).length ≤ 20 := by
  unfold Tr.reasonOf
  split
  · rename_i e he
    rw [Option.bind_eq_some_iff] at he
    obtain ⟨i, _, hi⟩ := he
    exact h e (List.mem_of_getElem? hi)
  · simp
theorem value_range (T : Tr) (l : Int) : -1 ≤ T.value l ∧ T.value l ≤ 1 := by
  unfold Tr.value
  split
  · omega
  · split <;> omega
theorem ints_at {xs : List Int} {j : Nat} (h : j < xs.length) : ∃ x, (ints xs)[j]? = some (.int .i64 x) := ⟨_, ints_nth h⟩
theorem i8s_at {xs : List Int} {j : Nat} (h : j < xs.length) : ∃ x, x ∈ xs ∧ (i8s xs)[j]? = some (.int .i8 x) := by
  refine ⟨xs[j], List.getElem_mem h, ?_⟩
  simp [i8s, h]
theorem i8s_length (xs : List Int) : (i8s xs).length = xs.length := by simp [i8s]
def sT0 : Tr := ⟨2, [], []⟩
def sT1 : Tr := sT0.decide (-1)
def sT2 : Tr := sT1.imply (-2) [-2, 1]
theorem sT_facts : sT0.freeB (-1) = true ∧ sT1.can (-2) [-2, 1] = true ∧ sT2.reasonOf 2 = [-2, 1] := by decide +kernel

/-! ### the walk -/
set_option maxRecDepth 100000 in
set_option maxHeartbeats 8000000 in
theorem owns_walk {w : World} {v : Value} {os : List Opd} (hv : OpsRd w v os) :
    Calls Try.prog 6 #[v] w fun r w' => r = .returned (.bool true) ∧ Below w.heap.size w w' := by
  go_enter Try.func6, Try.ntmps6
  go_wp2_with fail
  refine (played_any hv).mono ?_
  rintro r w1 ⟨b, rfl, t1, b1⟩
  have hsh : ((⟨8, [], []⟩ : Tr).ops (os.take 40)).short := short_ops _ (by simp [Tr.short])
  have hvs : ((⟨8, [], []⟩ : Tr).ops (os.take 40)).vars = 8 := Tr.ops_vars _ _
  generalize (⟨8, [], []⟩ : Tr).ops (os.take 40) = T at t1 hsh hvs
  have t1' := t1.restrict
  go_wp2_with fail
  refine (lits_any t1').mono ?_
  rintro r w2 ⟨⟨u, rfl, o2⟩, b2⟩
  obtain ⟨Au, cu, rfl, _⟩ := o2.form
  have t2 := t1'.below b2
  have h8 := t1'.wf.len
  have h9 := t1'.wf.vars
  have Hsh := hid hsh
  have Hvs := hid hvs
  have hTl : T.L.length ≤ 8 := by omega
  have T2 := hid t2
  have O2 := hid o2
  have s1 := b1.size
  have s2 := b2.size
  have B2 : Below w.heap.size w w2 := b1.trans (b2.mono s1)
  clear o2 t1' hsh t1 b1 b2 hvs h8 h9
  go_wp2_with fail
  refine (lits_any t2).mono ?_
  rintro r w3 ⟨⟨u3, rfl, o3⟩, b3⟩
  obtain ⟨A3, c3, rfl, hc3, _⟩ := o3.form
  have s3 := b3.size
  clear t2
  go_wp2_with fail
  go_loopw [34, 7] (fun i _ W => ∃ (j : Nat) (xs : List Int), j ≤ T.L.length ∧ i = .int .i64 j ∧ xs.length = T.L.length ∧ Own W (fun g => w2.heap.size ≤ g) 3 1 (.slice A3 T.L.length c3) T.L.length (ints xs) ∧ Below w2.heap.size w2 W) (fun i _ _ => T.L.length - (intOf i).toNat)
  case atStart => exact ⟨0, T.lits, by omega, rfl, by simp [Tr.lits], o3, b3⟩
  case round =>
    obtain ⟨j, xs, hj, rfl, hxs, ho, hb⟩ := hrel
    have s4 := hb.size
    by_cases hlt : j < T.L.length
    · obtain ⟨g, rfl, hFg, hg, e1, f1⟩ := ho.cell (j := j) (by omega)
      obtain ⟨x, hx⟩ := ints_at (xs := xs) (j := j) (by omega)
      rw [hx] at e1
      have Ho := hid ho
      clear ho hx o3
      go_wp2_with fail
      go_roundw
      case rel => exact ⟨j + 1, xs.set j 99, by omega, by go_num, by simpa using hxs, by rw [ints_set]; exact Ho.out.stored (j := j) (.int .i64 99), hb.setCell (p := ⟨g, j, none⟩) hFg _⟩
      case measure => simp [intOf]; omega
    · clear ho o3
      go_wp2_with fail
      refine (assign_any (T2.out.below hb)).mono ?_
      rintro r w4 ⟨⟨u4, rfl, o4⟩, b4⟩
      have s5 := b4.size
      have h8 := Hvs.out
      rw [h8] at o4
      obtain ⟨A4, c4, rfl, hc4, _⟩ := o4.form
      have B4 := hb.trans (b4.mono s4)
      clear hb b4
      go_wp2_with fail
      go_loopw [45, 9] (fun i _ W => ∃ (j : Nat) (xs : List Int), j ≤ 8 ∧ i = .int .i64 j ∧ xs.length = 8 ∧ Own W (fun g => w2.heap.size ≤ g) 43 1 (.slice A4 8 c4) 8 (i8s xs) ∧ Below w2.heap.size w2 W) (fun i _ _ => 8 - (intOf i).toNat)
      case atStart => exact ⟨0, T.assign, by omega, rfl, by simp [Tr.assign, h8], o4.mono fun g _ _ hg => by omega, B4⟩
      case round =>
        obtain ⟨j, xs, hj, rfl, hxs, ho, hb⟩ := hrel
        have s6 := hb.size
        by_cases hlt : j < 8
        · obtain ⟨g, rfl, hFg, hg, e1, f1⟩ := ho.cell (j := j) (by omega)
          obtain ⟨x, _, hx⟩ := i8s_at (xs := xs) (j := j) (by omega)
          rw [hx] at e1
          have Ho := hid ho
          clear ho hx o4
          go_wp2_with fail
          go_roundw
          case rel => exact ⟨j + 1, xs.set j 7, by omega, by go_num, by simpa using hxs, by rw [i8s_set]; exact Ho.out.stored (j := j) (.int .i8 7), hb.setCell (p := ⟨g, j, none⟩) hFg _⟩
          case measure => simp [intOf]; omega
        · clear ho o4
          go_wp2_with fail
          go_loopw [10, 11, 12] (fun i _ _ W => ∃ (j : Nat), 1 ≤ j ∧ j ≤ 9 ∧ i = .int .i64 j ∧ Below w2.heap.size w2 W) (fun i _ _ _ => 9 - (intOf i).toNat)
          case atStart => exact ⟨1, by omega, by omega, rfl, hb⟩
          case round =>
            obtain ⟨j, hj1, hj9, rfl, hb⟩ := hrel
            have s7 := hb.size
            have Tj := hid (T2.out.below hb)
            obtain ⟨q, hq⟩ : ∃ q, wr.heap.size = q := ⟨_, rfl⟩
            by_cases hlt : j ≤ 8
            · obtain ⟨R, hR⟩ : ∃ R, T.reasonOf j = R := ⟨_, rfl⟩
              have hRl : R.length ≤ 20 := by rw [← hR]; exact short_reason Hsh.out _
              have HR := hid hR
              clear hR
              go_wp2_with fail
              refine (reason_any Tj.out (by rw [HR.out]; omega)).mono ?_
              rintro r w5 ⟨⟨u5, rfl, o5⟩, b5⟩
              rw [HR.out] at o5
              obtain ⟨A5, c5, rfl, hc5, _⟩ := o5.form
              have s8 := b5.size
              have O5 := hid (o5.mono (G := fun g => q ≤ g ∧ g < w5.heap.size) fun g hg _ hF => ⟨by omega, hg⟩)
              clear o5
              go_wp2_with (at_builtin; refine wpList_append_ints rfl _ _ rfl (Own.none_ _ (fun _ => False) _ _ _) (O5.out.rd.below ((Below.refl _ _).alloc (Nat.le_refl _) _)) rfl rfl (ints_one _) (by omega) ?_; intro A6 c6 w6 o6 m6 r6; rw [Nat.zero_add] at o6 ⊢)
              have O6 := hid (o6.mono (G := fun g => w5.heap.size ≤ g) fun g _ _ hF => by simp at hF; omega)
              rw [List.nil_append] at O6
              have s9 := m6.size
              have hs9 : w5.heap.size ≤ w6.heap.size := by simp at s9; omega
              have b6 : Below w5.heap.size w5 w6 := ((Below.refl _ w5).alloc (Nat.le_refl _) (.cells #[] 3)).trans ⟨m6.os, m6.tape, m6.output, m6.size, fun g hg => m6.block g (by simp; omega) fun hr => by simp [row] at hr⟩
              have O56 := hid (O5.out.below b6)
              have B6 := hb.trans ((b5.mono s7).trans (b6.mono (by omega)))
              clear o6 m6 r6 s9 O5 b5 b6
              go_wp2_with fail
              go_loopw [64, 13] (fun i _ W => ∃ (k : Nat) (xs : List Int), k ≤ R.length ∧ i = .int .i64 k ∧ xs.length = R.length ∧ Own W (fun g => q ≤ g ∧ g < w5.heap.size) 3 1 (.slice A5 R.length c5) R.length (ints xs) ∧ Mod (fun g => q ≤ g ∧ g < w5.heap.size) w6 W) (fun i _ _ => R.length - (intOf i).toNat)
              case atStart => exact ⟨0, R, by omega, rfl, rfl, O56.out, Mod.refl _ _⟩
              case round =>
                obtain ⟨k, xs, hk, rfl, hxs, ho, hm⟩ := hrel
                have s10 := hm.size
                by_cases hlt2 : k < R.length
                · obtain ⟨g, rfl, hFg, hg, e1, f1⟩ := ho.cell (j := k) (by omega)
                  obtain ⟨x, hx⟩ := ints_at (xs := xs) (j := k) (by omega)
                  rw [hx] at e1
                  have Ho := hid ho
                  clear ho hx
                  go_wp2_with fail
                  go_roundw
                  case rel => exact ⟨k + 1, xs.set k 99, by omega, by go_num, by simpa using hxs, by rw [ints_set]; exact Ho.out.stored (j := k) (.int .i64 99), hm.setCell (p := ⟨g, k, none⟩) (.inl hFg) _⟩
                  case measure => simp [intOf]; omega
                · have O7 := hid (O6.out.mod hm fun g hg _ hF hG => by omega)
                  have B7 : Below w2.heap.size w2 wr := B6.trans ((hm.mono (G := fun g => w2.heap.size ≤ g) fun g _ hg => by omega).base (by omega))
                  clear ho hm
                  go_wp2_with fail
                  refine (reason_any (T2.out.below B7) (by rw [HR.out]; omega)).mono ?_
                  rintro r w8 ⟨⟨u8, rfl, o8⟩, b8⟩
                  rw [HR.out] at o8
                  have s11 := b8.size
                  go_wp2_with fail
                  refine (ints_eq o8.rd (O7.out.below b8).rd).mono ?_
                  rintro r w9 ⟨rfl, b9⟩
                  rw [decide_eq_true (rfl : R = R)]
                  go_wp2_with fail
                  go_roundw
                  case rel => exact ⟨j + 1, by omega, by omega, by go_num, B7.trans ((b8.mono (by omega)).trans (b9.mono (by omega)))⟩
                  case measure => simp [intOf]; omega
            · clear hj9
              go_wp2_with fail
              refine (assign_any Tj.out).mono ?_
              rintro r w5 ⟨⟨u5, rfl, o5⟩, b5⟩
              rw [h8] at o5
              obtain ⟨A5, c5, rfl, hc5, _⟩ := o5.form
              have s8 := b5.size
              have O5 := hid o5
              have B5 := hb.trans (b5.mono s7)
              clear o5 hb b5
              go_wp2_with fail
              go_loopw [80, 15] (fun i _ W => ∃ (k : Nat), k ≤ 8 ∧ i = .int .i64 k ∧ W = w5) (fun i _ _ => 8 - (intOf i).toNat)
              case atStart => exact ⟨0, by omega, rfl, rfl⟩
              case round =>
                obtain ⟨k, hk, rfl, rfl⟩ := hrel
                by_cases hlt2 : k < 8
                · obtain ⟨g, rfl, hFg, hg, e1, f1⟩ := O5.out.cell (j := k) (by omega)
                  obtain ⟨x, hxm, hx⟩ := i8s_at (xs := T.assign) (j := k) (by simp [Tr.assign, h8]; omega)
                  have hx2 : -1 ≤ x ∧ x ≤ 1 := by
                    obtain ⟨i, _, rfl⟩ := List.mem_map.1 hxm
                    exact value_range _ _
                  have h1 : decide (x < -1) = false := by simp; omega
                  have h2 : decide (1 < x) = false := by simp; omega
                  rw [hx] at e1
                  clear hx hxm
                  go_wp2_with fail
                  go_roundw
                  case rel => exact ⟨k + 1, by omega, by go_num, trivial⟩
                  case measure => simp [intOf]; omega
                · clear O5
                  go_wp2_with fail
                  refine (lits_any (T2.out.below B5)).mono ?_
                  rintro r w6 ⟨⟨u6, rfl, o6⟩, b6⟩
                  have s9 := b6.size
                  have O2' := hid ((O2.out.below B5).below b6)
                  go_wp2_with fail
                  refine (ints_eq o6.rd O2'.out.rd).mono ?_
                  rintro r w7 ⟨rfl, b7⟩
                  rw [decide_eq_true (rfl : T.lits = T.lits)]
                  have B7 : Below w.heap.size w w7 := B2.trans ((B5.mono (by omega)).trans ((b6.mono (by omega)).trans (b7.mono (by omega))))
                  have s10 := b7.size
                  have s11 : w.heap.size ≤ w7.heap.size := B7.size
                  clear o6 b6 b7 O2'
                  go_wp2_with fail
                  refine (new_b (vars := 2) (B := w7.heap.size) (by decide) (Nat.le_refl _)).mono ?_
                  rintro r w8 ⟨b8, rfl, t8, bb8⟩
                  have s12 := bb8.size
                  have t8' : Trail w8 (fun g => w7.heap.size ≤ g ∧ g < w8.heap.size) b8 sT0 := t8.restrict
                  have oR := hid (own_list w8 [-2, 1] (by decide))
                  clear t8
                  go_wp2_with fail
                  refine (decide_e (t8'.below ((Below.refl _ _).alloc (Nat.le_refl _) (.cells (ints [-2, 1]).toArray 3))) (i64_small (l := -1) (by decide))).mono ?_
                  rintro r w9 ⟨rfl, t9, m9⟩
                  have e1 : err (sT0.freeB (-1)) = 0 := by decide +kernel
                  have e2 : sT0.dec (-1) = sT1 := by rw [Tr.dec, if_pos sT_facts.1]; rfl
                  rw [e1]
                  rw [e2] at t9
                  have oR9 := hid (oR.out.mod m9 fun g _ _ hF hG => by omega)
                  have s13 := m9.size
                  have hW8 : (w8.alloc (.cells (ints [-2, 1]).toArray 3)).heap.size = w8.heap.size + 1 := by simp
                  clear oR t8' e1 e2
                  go_wp2_with fail
                  refine (imply_e (r := [-2, 1]) t9 (i64_small (l := -2) (by decide)) oR9.out.rd (by decide) (by simp [I64])).mono ?_
                  rintro r w10 ⟨rfl, t10, m10⟩
                  have e1 : err (sT1.can (-2) [-2, 1]) = 0 := by decide +kernel
                  have e2 : sT1.imp (-2) [-2, 1] = sT2 := by rw [Tr.imp, if_pos sT_facts.2.1]; rfl
                  rw [e1]
                  rw [e2] at t10
                  have oR10 := oR9.out.mod m10 fun g _ _ hF hG => by omega
                  have s14 := m10.size
                  have B10 : Below w7.heap.size w7 w10 := (bb8.alloc s12 (.cells (ints [-2, 1]).toArray 3)).trans (((m9.mono (G := fun g => w7.heap.size ≤ g) fun g _ hg => hg.1).base (by omega)).trans ((m10.mono (G := fun g => w7.heap.size ≤ g) fun g _ hg => by omega).base (by omega)))
                  obtain ⟨g, hg, _, _, c1, f1⟩ := oR10.cell (j := 1) (by decide)
                  injection hg with hg
                  injection hg with hg _ _
                  subst hg
                  rw [show (ints [-2, 1])[1]? = some (.int .i64 1) from rfl] at c1
                  have t11 := hid (t10.mod (((Mod.refl (fun g => g = w8.heap.size) w10).setCell (p := ⟨w8.heap.size, 1, none⟩) (.inl rfl) (.int .i64 5))) fun g _ hF hG => by omega)
                  have B11 := B10.setCell (p := ⟨w8.heap.size, 1, none⟩) s12 (.int .i64 5)
                  have hs15 : (w10.setCell ⟨w8.heap.size, 1, none⟩ (.int .i64 5)).heap.size = w10.heap.size := by simp
                  clear e1 e2 oR10 oR9 t9 t10 m9 m10 B10
                  go_wp2_with fail
                  refine (reason_any t11.out (v := 2) (by decide +kernel)).mono ?_
                  rintro r w12 ⟨⟨u12, rfl, o12⟩, b12⟩
                  have s15 := b12.size
                  rw [sT_facts.2.2] at o12
                  go_wp2_with fail
                  refine (ints_eq (o12.rd.below ((Below.refl _ _).alloc (Nat.le_refl _) _)) (own_list w12 [-2, 1] (by decide)).rd).mono ?_
                  rintro r w13 ⟨rfl, b13⟩
                  rw [decide_eq_true (rfl : ([-2, 1] : List Int) = [-2, 1])]
                  have s16 := b13.size
                  have hs16 : (w12.alloc (.cells (ints [-2, 1]).toArray 3)).heap.size = w12.heap.size + 1 := by simp
                  have B13 := ((B11.trans (b12.mono (by omega))).alloc (by omega) _).trans (b13.mono (by omega))
                  clear b12 b13
                  go_wp2_with fail
                  refine awake_any.mono ?_
                  rintro r w14 ⟨rfl, b14⟩
                  go_wp2_with fail
                  go_ret
                  exact ⟨rfl, B7.trans ((B13.mono s11).trans (b14.mono (by omega)))⟩

end Go.Proofs.Ytbghfdhijlpogaa
