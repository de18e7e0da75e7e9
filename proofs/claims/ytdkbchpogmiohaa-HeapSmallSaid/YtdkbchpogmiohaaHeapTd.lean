/-
  The statement HeapTells.
-/
import Derived.Test.YtdkbchpogmiohaaHeapTc
namespace Go.Proofs.Ytdkbchpogmiohaa
open Go.RowKit

theorem wasL_new (n : Nat) : List.replicate n (0 : Int) = wasL (Om.new n).acts n := by
  refine nth_ext (by rw [wasL_length, List.length_replicate]) fun k hk => ?_
  rw [List.length_replicate] at hk
  rw [zeros_nthX, wasL_nth hk]
  exact (zeros_nthX (n + 1) (k + 1)).symm
theorem Three.start {w2 w3 w4 : World} {B b n tb : Nat} {v : Value} (h1 : Order w2 (fun g => B ≤ g) b n (Om.new n)) (h2 : Trail w3 (fun g => w2.heap.size ≤ g) tb ⟨n, [], []⟩) (h3 : RefAt w4 (fun g => w3.heap.size ≤ g) v n (List.replicate n 0) 1)
    (b3 : Below w2.heap.size w2 w3) (b4 : Below w3.heap.size w3 w4) (hB : B ≤ w2.heap.size) : Three w4 (fun _ => False) B b n (Om.new n) tb ⟨n, [], []⟩ v (Om.new n) := by
  have s3 := b3.size
  have s4 := b4.size
  rw [wasL_new] at h3
  refine ⟨fun g => B ≤ g ∧ g < w2.heap.size, fun g => w2.heap.size ≤ g ∧ g < w3.heap.size, (h1.restrict.below b3).below b4, h2.restrict.below b4, fun g hg => ⟨⟨hg.1, id⟩, by omega⟩, fun g hg => ⟨⟨by omega, id⟩, by omega⟩, fun g h1 h2 => by omega, h3.mono fun g _ hg => by omega, h1.wf, fun _ h => h.elim, by omega⟩

set_option maxRecDepth 100000 in
set_option maxHeartbeats 4000000 in
theorem tells_some {w : World} {v : Value} {os : List Dd} {n : Nat} (hv : DsRd w v os) (hn : n ≤ 200) (hl : os.length ≤ 200) :
    Calls Try.prog 9 #[.int .i64 n, v] w fun r w' => r = .returned (.bool true) ∧ Below w.heap.size w w' := by
  obtain ⟨m, hm⟩ : ∃ m, os.length = m := ⟨_, rfl⟩
  obtain ⟨A, cap, rfl, hc, hcm, hel⟩ := id hv
  rw [hm] at hl hc ⊢
  obtain ⟨B, hB⟩ : ∃ B, w.heap.size = B := ⟨_, rfl⟩
  rw [hB]
  have y1 : ((200 : Int) < (m : Int)) = False := by simp; omega
  have y2 : ((200 : Int) < (n : Int)) = False := by simp; omega
  have y3 : ((n : Int) < 0) = False := by simp
  have hncap : (m : Int) ≤ (cap : Int) := by omega
  have Hm := hid hm
  have Hel := hid hel
  have Hcm := hid hcm
  clear hv hm hel hcm
  go_enter Try.func9, Try.ntmps9
  go_wp2_with fail
  refine (onew_any (n := n) (by omega)).mono ?_
  rintro r w2 ⟨b, rfl, o2, b2⟩
  rw [hB] at b2 o2
  have s2 := b2.size
  rw [hB] at s2
  go_wp2_with fail
  refine (new_ok (vars := n) (by omega)).mono ?_
  rintro r w3 ⟨⟨tb, rfl, t3⟩, b3⟩
  have s3 := b3.size
  go_wp2_with fail
  refine (rnew_ord (n := n) (by omega)).mono ?_
  rintro r w4 ⟨⟨v4, rfl, r4⟩, b4⟩
  have s4 := b4.size
  have E4 := Three.start o2 t3 r4 b3 b4 s2
  have B4 : Below B w w4 := (b2.trans (b3.mono (by omega))).trans (b4.mono (by omega))
  obtain ⟨A4, c4, rfl⟩ := E4.form
  have E5 := E4.guard ((Below.refl _ _).alloc (Nat.le_refl _) (.cells #[.slice A4 n c4, .int .i64 (Om.new n).inc] 52))
  have G5 : (w4.alloc (.cells #[.slice A4 n c4, .int .i64 (Om.new n).inc] 52)).heap[w4.heap.size]? = some (.cells #[.slice A4 n c4, .int .i64 (Om.new n).inc] 52 (0, 0)) := heap_alloc_new w4 _
  have B5 : Below B w (w4.alloc (.cells #[.slice A4 n c4, .int .i64 (Om.new n).inc] 52)) := B4.alloc (by omega) _
  have E5 := E5.less (Q := fun g => g = w4.heap.size) fun g hg => .inr (by subst hg; simp)
  clear o2 t3 r4 b2 b3 b4 E4 B4
  have E5 := hid E5
  have G5 := hid G5
  have B5 := hid B5
  go_wp2_with fail
  generalize (w4.alloc (.cells #[.slice A4 n c4, .int .i64 (Om.new n).inc] 52)) = w5 at *
  obtain ⟨R, hR⟩ : ∃ R, w4.heap.size = R := ⟨_, rfl⟩
  rw [hR] at E5 G5 ⊢
  have hRB : B ≤ R := by omega
  clear hR s4 s3
  go_loopw [10] (fun iv W => ∃ (k : Nat) (A : Option Addr) (cap : Nat), k ≤ m ∧ iv = .int .i64 k ∧ Hid (Three W (fun g => g = R) B b n (playO n (os.take k)) tb (playT n (os.take k)) (.agg #[.slice A n cap, .int .i64 (playO n (os.take k)).inc]) (playO n (os.take k))) ∧
    Hid (W.heap[R]? = some (.cells #[.slice A n cap, .int .i64 (playO n (os.take k)).inc] 52 (0, 0))) ∧ Hid (Below B w W)) (fun iv _ => m - (intOf iv).toNat)
  case atStart => exact ⟨0, A4, c4, by omega, rfl, E5, G5, B5⟩
  case round =>
    obtain ⟨k, A6, c6, hk, rfl, E6, G6, B6⟩ := hrel
    have s6 := B6.out.size
    by_cases hlt : k < m
    · have x2 : (k : Int) < (m : Int) := by omega
      obtain ⟨x, hx⟩ : ∃ x, os[k]? = some x := ⟨os[k]'(by have := Hm.out; omega), List.getElem?_eq_getElem _⟩
      obtain ⟨g, o, rfl, hg, c0, c1, hok⟩ := Hel.out k x hx
      have hg : g < B := by omega
      have d0 := (B6.out.cell (p := ⟨g, o + k * 2, none⟩) hg).trans c0
      have d1 := (B6.out.cell (p := ⟨g, o + k * 2 + 1, none⟩) hg).trans c1
      have Htk : Hid (os.take (k + 1) = os.take k ++ [x]) := by
        rw [List.take_succ_eq_append_getElem (by have := Hm.out; omega)]
        have : os[k]'(by have := Hm.out; omega) = x := by rw [List.getElem?_eq_getElem (by have := Hm.out; omega)] at hx; exact Option.some.inj hx
        rw [this]
        exact hid rfl
      have HO : Hid (playO n (os.take (k + 1)) = deedO n (playO n (os.take k)) x) := by rw [Htk.out, playO_snoc]; exact hid rfl
      have HT : Hid (playT n (os.take (k + 1)) = deedT (playT n (os.take k)) x) := by rw [Htk.out, playT_snoc]; exact hid rfl
      have HV : Hid ((playT n (os.take (k + 1))).vars = n) := playT_vars _ _
      generalize playO n (os.take k) = O at E6 G6 HO
      generalize playT n (os.take k) = T at E6 HT
      obtain ⟨O7, hO7⟩ : ∃ O7, deedO n O x = O7 := ⟨_, rfl⟩
      obtain ⟨T7, hT7⟩ : ∃ T7, deedT T x = T7 := ⟨_, rfl⟩
      have hcall := does_any (E6.out.below ((Below.refl _ _).drew)) hok
      rw [hO7, hT7] at hcall
      rw [hO7] at HO
      rw [hT7] at HT
      rw [HT.out] at HV
      have hcall := hid hcall
      obtain ⟨kd, xn⟩ := x
      obtain ⟨q0, q1, p0, p1⟩ := box2 G6.out
      have hR6 := lt_of_block G6.out
      clear c0 c1 hx Htk hO7 hT7 hok
      dsimp only at d0 d1
      go_wp2_with fail
      go_region_with (go_at_call 26; refine hcall.out.mono ?_; rintro r w7 ⟨⟨v7, rfl, E7⟩, m7⟩; obtain ⟨A7, c7, rfl⟩ := E7.form; obtain ⟨q0, q1, p0, p1⟩ := box2 ((m7.block R (by simp; omega) (fun h => h.2 rfl)).trans G6.out))
      all_goals
        have G7 : w7.heap[R]? = some (.cells #[.slice A6 n c6, .int .i64 O.inc] 52 (0, 0)) := (m7.block R (by simp; omega) (fun h => h.2 rfl)).trans G6.out
        have G8 : ((w7.setCell ⟨R, 0, none⟩ (.slice A7 n c7)).setCell ⟨R, 1, none⟩ (.int .i64 O7.inc)).heap[R]? = some (.cells #[.slice A7 n c7, .int .i64 O7.inc] 52 (0, 0)) := heap_setCell_same _ R 1 _ _ _ (heap_setCell_same _ R 0 _ _ _ G7)
        have E8 := hid (E7.put (x' := .slice A7 n c7) (y' := .int .i64 O7.inc) G7 rfl)
        have B8 : Hid (Below B w ((w7.setCell ⟨R, 0, none⟩ (.slice A7 n c7)).setCell ⟨R, 1, none⟩ (.int .i64 O7.inc))) :=
          ((B6.out.drew.trans ((m7.mono (G := fun g => B ≤ g) fun g _ hg => hg.1).base (by simp; omega)))).trans ((((Mod.refl (fun g => B ≤ g) _).setCell (p := ⟨R, 0, none⟩) (.inl hRB) _).setCell (p := ⟨R, 1, none⟩) (.inl hRB) _).base (by have := m7.size; simp at this; omega))
        clear q0 q1 p0 p1 d0 d1
        obtain ⟨q0, q1, _, _⟩ := box2 G8
        have HG8 := hid G8
        have s8 := lt_of_block G8
        clear G8 G7 E7 m7 hcall
        generalize ((w7.setCell ⟨R, 0, none⟩ (.slice A7 n c7)).setCell ⟨R, 1, none⟩ (.int .i64 O7.inc)) = w8 at *
        go_wp2_with fail
        refine (three_lnext E8.out HV.out hn).mono ?_
        rintro r w9 ⟨rfl, E9, b9⟩
        have G9 := hid ((b9.block R s8).trans HG8.out)
        have B9 := hid (B8.out.trans (b9.mono (by omega)))
        have E9 := hid E9
        clear b9 q0 q1 E8
        go_wp2_with fail
        go_roundw
        case rel => exact ⟨k + 1, A7, c7, by omega, by go_num, by rw [HO.out, HT.out]; exact E9, by rw [HO.out]; exact G9, B9⟩
        case measure => simp [intOf]; omega
    · obtain rfl : k = m := by omega
      have HV : Hid ((playT n (os.take k)).vars = n) := playT_vars _ _
      generalize playO n (os.take k) = O at E6 G6
      generalize playT n (os.take k) = T at E6 HV
      obtain ⟨q0, q1, _, _⟩ := box2 G6.out
      go_wp2_with fail
      refine (three_lnext E6.out HV.out hn).mono ?_
      rintro r w9 ⟨rfl, E9, b9⟩
      have s9 := b9.size
      have B9 := hid (B6.out.trans (b9.mono (by omega)))
      clear b9
      go_wp2_with fail
      refine awake_any.mono ?_
      rintro r w10 ⟨rfl, b10⟩
      go_wp2_with fail
      go_ret
      exact ⟨rfl, B9.out.trans (b10.mono (by omega))⟩

set_option maxRecDepth 100000 in
set_option maxHeartbeats 4000000 in
theorem tells_walk {w : World} {v : Value} {os : List Dd} {x : Int} (hv : DsRd w v os) :
    Calls Try.prog 9 #[.int .i64 x, v] w fun r w' => r = .returned (.bool true) ∧ Below w.heap.size w w' := by
  by_cases hb : (x < 0 ∨ 200 < x) ∨ 200 < os.length
  · obtain ⟨A, cap, rfl, _⟩ := id hv
    generalize os.length = m at hb
    clear hv
    by_cases h1 : x < 0
    · go_enter Try.func9, Try.ntmps9
      go_wp2_with fail
      refine awake_any.mono ?_
      rintro r w1 ⟨rfl, b1⟩
      go_wp2_with fail
      go_ret
      exact ⟨rfl, b1⟩
    · by_cases h2 : 200 < x
      · have h1 : (x < 0) = False := by simp; omega
        go_enter Try.func9, Try.ntmps9
        go_wp2_with fail
        refine awake_any.mono ?_
        rintro r w1 ⟨rfl, b1⟩
        go_wp2_with fail
        go_ret
        exact ⟨rfl, b1⟩
      · have h3 : (200 : Int) < (m : Int) := by omega
        have h1 : (x < 0) = False := by simp; omega
        have h2 : (200 < x) = False := by simp; omega
        go_enter Try.func9, Try.ntmps9
        go_wp2_with fail
        refine awake_any.mono ?_
        rintro r w1 ⟨rfl, b1⟩
        go_wp2_with fail
        go_ret
        exact ⟨rfl, b1⟩
  · obtain ⟨n, rfl⟩ : ∃ n : Nat, x = n := ⟨x.toNat, by omega⟩
    exact tells_some hv (by omega) (by omega)
end Go.Proofs.Ytdkbchpogmiohaa
