/-
  The statement HeapBumps.
-/
import Derived.Test.YtdkbchpogmiohaaHeapT
import Derived.Test.YtdkbchpogmiohaaHeapU
import Derived.Test.YtdkbchpogmiohaaHeapN
namespace Go.Proofs.Ytdkbchpogmiohaa
open Go.RowKit

/-- The activities of the first k variables. -/
def wasL (acts : List Int) (k : Nat) : List Int := (List.range k).map fun j => nth acts (j + 1)
theorem wasL_length (acts : List Int) (k : Nat) : (wasL acts k).length = k := by simp [wasL]
theorem wasL_succ (acts : List Int) (k : Nat) : wasL acts (k + 1) = wasL acts k ++ [nth acts (k + 1)] := by simp [wasL, List.range_succ]
theorem wasL_nth {acts : List Int} {k j : Nat} (h : j < k) : nth (wasL acts k) j = nth acts (j + 1) := by
  unfold nth wasL
  rw [List.getElem?_map, List.getElem?_range h]
  rfl
theorem ord_act {w : World} {F : Nat → Prop} {b n j : Nat} {o : Om} (e : Order w F b n o) (hj : j < n) {k : Int} (hk : nth o.acts (j + 1) = k) :
    Calls Try.prog 19 #[.pointer (some ⟨b, 0, none⟩), .int .i64 ((j : Int) + 1)] w fun r w' => r = .returned (.int .i64 k) ∧ w' = w := by
  obtain ⟨wf, ga, gh, gp, np, heap, pos, O, H⟩ := e
  have := activity_any O (by have := wf.inc1; omega) ((j : Int) + 1)
  rw [actv, if_pos (by simp [hasv]; omega), show ((j : Int) + 1).toNat = j + 1 by omega, hk] at this
  exact this
theorem Below.drewsN (B : Nat) (w : World) (z : Nat) : Below B w (w.drewN z) := ⟨rfl, rfl, rfl, Nat.le_refl _, fun _ _ => rfl⟩
theorem Order.drews {w : World} {F : Nat → Prop} {b n : Nat} {o : Om} (e : Order w F b n o) (z : Nat) : Order (w.drewN z) F b n o := e.below (Below.drewsN _ _ z)
theorem bump_at {w : World} {F : Nat → Prop} {b n : Nat} {o : Om} (e : Order w F b n o) {x : Int} (hx : hasv n x = true) :
    Calls Try.prog 16 #[.pointer (some ⟨b, 0, none⟩), .int .i64 x] w fun r w' => r = .returned (.int .i64 0) ∧ (∃ vb : Nat, x = vb ∧ ∃ o2, Order w' F b n o2 ∧ Grown n vb o.acts o2.acts) ∧ Mod F w w' := by
  have hx2 : 1 ≤ x ∧ x ≤ n := by simpa [hasv] using hx
  have := bump_any e (v := x.toNat) (by omega) (by omega)
  rw [show ((x.toNat : Nat) : Int) = x by omega] at this
  refine this.mono ?_
  rintro r w' ⟨rfl, k1, k2⟩
  exact ⟨rfl, ⟨x.toNat, by omega, _, k1, Grown.bump e.wf (by omega) (by omega)⟩, k2⟩
theorem decay_at {w : World} {F : Nat → Prop} {b n : Nat} {o : Om} (e : Order w F b n o) :
    Calls Try.prog 17 #[.pointer (some ⟨b, 0, none⟩)] w fun r w' => r = .returned (.int .i64 0) ∧ (∃ o2, Order w' F b n o2 ∧ Grown n 0 o.acts o2.acts) ∧ Mod F w w' := by
  refine (decay_any e).mono ?_
  rintro r w' ⟨rfl, k1, k2⟩
  exact ⟨rfl, ⟨_, k1, Grown.decay e.wf⟩, k2⟩

set_option maxRecDepth 100000 in
set_option maxHeartbeats 8000000 in
theorem bumps_some {w : World} {v : Value} {os : List Dd} {n : Nat} {x : Int} {d : Bool} (hv : DsRd w v os) (hn : n ≤ 200) (hl : os.length ≤ 200) :
    Calls Try.prog 8 #[.int .i64 n, v, .int .i64 x, .bool d] w fun r w' => r = .returned (.bool true) ∧ Below w.heap.size w w' := by
  obtain ⟨A, cap, rfl, _⟩ := id hv
  have Hv := hid hv
  have Hl := hid hl
  clear hv hl
  obtain ⟨B, hB⟩ : ∃ B, w.heap.size = B := ⟨_, rfl⟩
  go_enter Try.func8, Try.ntmps8
  rw [hB]
  go_wp2_with fail
  refine awake_any.mono ?_
  rintro r w1 ⟨rfl, b1⟩
  have Hv1 := hid (Hv.out.below b1)
  rw [hB] at b1
  have s1 := b1.size
  rw [hB] at s1
  go_wp2_with fail
  refine (played_any Hv1.out hn Hl.out).mono ?_
  rintro r w2 ⟨b, tb, rfl, ⟨F, _, o2, _, hF, _, _⟩, b2⟩
  have O2 := hid o2
  have HF : Hid (∀ g, F g → B ≤ g ∧ g < w2.heap.size) := fun g hg => ⟨by have := (hF g hg).1; omega, (hF g hg).2⟩
  have B2 : Hid (Below B w w2) := b1.trans (b2.mono s1)
  have s2 := B2.out.size
  generalize playO n os = O at O2
  obtain ⟨S, hS⟩ : ∃ S, w2.heap.size = S := ⟨_, rfl⟩
  have sS : B ≤ S := by omega
  clear o2 hF b1 b2
  go_wp2_with fail
  go_loopw [13, 12] (fun iv lv W => ∃ (k : Nat) (A : Option Addr) (cap : Nat), k ≤ n ∧ iv = .int .i64 ((k : Int) + 1) ∧ lv = .slice A k cap ∧ Hid (Own W (fun g => S ≤ g) 3 1 (.slice A k cap) k (ints (wasL O.acts k))) ∧ Hid (Below S w2 W)) (fun iv _ _ => n + 1 - (intOf iv).toNat)
  case atStart => exact ⟨0, none, 0, by omega, rfl, rfl, Own.nil _ _ _ _, Below.refl _ _⟩
  case round =>
    obtain ⟨k, A1, c1, hk, rfl, rfl, Ow, Bw⟩ := hrel
    have sw := Bw.out.size
    by_cases hkn : k < n
    · have x1 : (k : Int) + 1 ≤ (n : Int) := by omega
      obtain ⟨a, ha⟩ : ∃ a, nth O.acts (k + 1) = a := ⟨_, rfl⟩
      have Ha := hid ha
      have Or := hid (O2.out.below (w' := wr) (by rw [hS]; exact Bw.out))
      clear ha
      go_wp2_with fail
      refine (ord_act Or.out hkn Ha.out).mono ?_
      rintro r w' ⟨rfl, rfl⟩
      go_wp2_with (at_builtin; refine wpList_append_ints rfl _ _ rfl (Ow.out.below ((Below.refl _ _).alloc (Nat.le_refl _) _)) (own_one w' (.int .i64 a)).rd rfl rfl (by simp [Value.oneCell']) (by omega) ?_; intro Av cv w3 ho3 hm3 hr3)
      go_roundw
      case rel =>
        refine ⟨k + 1, Av, cv, by omega, by go_num, by go_num, ?_, ?_⟩
        · rw [wasL_succ, Ha.out, ints_append]
          exact ho3.mono (G := fun g => S ≤ g) fun g _ _ hg => by simp at hg; omega
        · exact (Bw.out.alloc (by omega) _).trans ((hm3.mono (G := fun g => S ≤ g) fun g _ hg => (Ow.out.row hg).1).base (by simp; omega))
      case measure => simp [intOf]; omega
    · have x1 : (n : Int) < (k : Int) + 1 := by omega
      have ekn : k = n := by omega
      rw [ekn] at x1 Ow ⊢
      clear ekn hk hkn
      clear k
      have Or := hid (O2.out.below (w' := wr) (by rw [hS]; exact Bw.out))
      have Bz : Hid (Below B w wr) := B2.out.trans (Bw.out.mono sS)
      have HFS : Hid (∀ g, F g → B ≤ g ∧ g < S) := by rw [← hS]; exact HF
      cases d
      · cases hx : hasv n x
        · have hx2 : x < 1 ∨ 1 ≤ x ∧ (n : Int) < x := by simp [hasv] at hx; omega
          rcases hx2 with hx2 | ⟨hx3, hx2⟩
          · go_wp2_with fail
            refine (bump_bad Or.out hx).mono ?_
            rintro r w' ⟨rfl, rfl⟩
            go_wp2_with fail
            go_ret
            exact ⟨rfl, Bz.out⟩
          · go_wp2_with fail
            refine (bump_bad Or.out hx).mono ?_
            rintro r w' ⟨rfl, rfl⟩
            go_wp2_with fail
            go_ret
            exact ⟨rfl, Bz.out⟩
        · go_wp2_with fail
          refine (bump_at Or.out hx).mono ?_
          rintro r w5 ⟨rfl, ⟨vb, hvb, o2, o5, g5⟩, m5⟩
          have Hvb := hid hvb
          clear hvb
          have Ow5 : Hid (Own w5 (fun g => S ≤ g) 3 1 (.slice A1 n c1) n (ints (wasL O.acts n))) := Ow.out.mod m5 fun g _ _ h1 h2 => by have := (HFS.out g h2).2; omega
          have B5 : Hid (Below B w w5) := Bz.out.trans ((m5.mono (G := fun g => B ≤ g) fun g _ hg => (HFS.out g hg).1).base (by omega))
          have O5 := hid o5
          have G5 := hid g5
          clear m5 o5 g5 Or Bz Ow Bw sw
          go_wp2_with fail
          go_loopw [17, 15] (fun iv sv W => ∃ (j : Nat) (sc : Bool), j ≤ n ∧ iv = .int .i64 ((j : Int) + 1) ∧ sv = .bool sc ∧ Hid (sc = false → ∀ y, 1 ≤ y → y ≤ j → nth O.acts y ≤ nth o2.acts y) ∧ Hid (∃ z, W = w5.drewN z)) (fun iv _ _ => n + 1 - (intOf iv).toNat)
          case atStart => exact ⟨0, false, by omega, rfl, rfl, hid fun _ y h1 h2 => by omega, 0, rfl⟩
          case round =>
            obtain ⟨j, sc, hj, rfl, rfl, Sc, Z⟩ := hrel
            by_cases hjn : j < n
            · have x2 : (j : Int) + 1 ≤ (n : Int) := by omega
              cases sc
              · have x3 : (j : Int) < (n : Int) := by omega
                obtain ⟨a, ha⟩ : ∃ a, nth O.acts (j + 1) = a := ⟨_, rfl⟩
                obtain ⟨c, hc⟩ : ∃ c, nth o2.acts (j + 1) = c := ⟨_, rfl⟩
                obtain ⟨g, rfl, _, _, e1, _⟩ := Ow5.out.cell (j := j) (by omega)
                rw [ints_nth (by rw [wasL_length]; exact hjn), wasL_nth hjn, ha] at e1
                have e1 : wr.cell? ⟨g, j, none⟩ = some (.int .i64 a) := by obtain ⟨z, rfl⟩ := Z.out; exact e1
                have Lq : Hid (∀ q, Calls Try.prog 19 #[.pointer (some ⟨b, 0, none⟩), .int .i64 ((j : Int) + 1)] (wr.drewN q) fun e w'' => e = .returned (.int .i64 c) ∧ ∃ m, w'' = wr.drewN m) := fun q => by
                  obtain ⟨z, rfl⟩ := Z.out
                  exact Calls.quiet_of_same (ord_act ((O5.out.drews z).drews q) hjn hc)
                have Ha := hid ha
                have Hc := hid hc
                clear ha hc
                go_wp2_with fail
                go_quiet (first | (go_at_call 19; exact Lq.out _))
                go_wp2_with fail
                go_roundw
                case rel =>
                  obtain ⟨z, rfl⟩ := Z.out
                  refine ⟨j + 1, decide (c < a), by omega, by go_num, rfl, hid fun hdc y h1 h2 => ?_, z + nq, World.drewN_drewN _ _ _⟩
                  rcases (by omega : y ≤ j ∨ y = j + 1) with h3 | h3
                  · exact Sc.out (by simp) y h1 h3
                  · subst h3; rw [Ha.out, Hc.out]; simpa using hdc
                case measure => simp [intOf]; omega
              · go_wp2_with fail
                go_quiet (fail)
                go_wp2_with fail
                go_roundw
                case rel =>
                  obtain ⟨z, rfl⟩ := Z.out
                  exact ⟨j + 1, true, by omega, by go_num, rfl, hid fun h => by (cases h), z + nq, World.drewN_drewN _ _ _⟩
                case measure => simp [intOf]; omega
            · have x2 : (n : Int) < (j : Int) + 1 := by omega
              have ejn : j = n := by omega
              rw [ejn] at x2 Sc ⊢
              clear ejn hj hjn
              clear j
              have Pl : Hid (sc = false → ∀ y, 1 ≤ y → y ≤ n → (nth O.acts y < nth o2.acts y ↔ y = vb)) := hid fun h => G5.out.plain (Sc.out h)
              clear Sc
              go_wp2_with fail
              go_loopw [18, 16] (fun iv gv W => ∃ (i : Nat) (gr : Bool), i ≤ n ∧ iv = .int .i64 ((i : Int) + 1) ∧ gv = .bool gr ∧ Hid (∃ z, W = w5.drewN z)) (fun iv _ _ => n + 1 - (intOf iv).toNat)
              case atStart => exact ⟨0, false, by omega, rfl, rfl, Z⟩
              case round =>
                obtain ⟨i, gr0, hi, rfl, rfl, Z3⟩ := hrel
                clear Z
                by_cases hin : i < n
                · have x3 : (i : Int) + 1 ≤ (n : Int) := by omega
                  have x3b : (i : Int) < (n : Int) := by omega
                  obtain ⟨a, ha⟩ : ∃ a, nth O.acts (i + 1) = a := ⟨_, rfl⟩
                  obtain ⟨c, hc⟩ : ∃ c, nth o2.acts (i + 1) = c := ⟨_, rfl⟩
                  obtain ⟨g, rfl, _, _, e1, _⟩ := Ow5.out.cell (j := i) (by omega)
                  rw [ints_nth (by rw [wasL_length]; exact hin), wasL_nth hin, ha] at e1
                  have e1 : wr.cell? ⟨g, i, none⟩ = some (.int .i64 a) := by obtain ⟨z, rfl⟩ := Z3.out; exact e1
                  have Lq : Hid (∀ q, Calls Try.prog 19 #[.pointer (some ⟨b, 0, none⟩), .int .i64 ((i : Int) + 1)] (wr.drewN q) fun e w'' => e = .returned (.int .i64 c) ∧ ∃ m, w'' = wr.drewN m) := fun q => by
                    obtain ⟨z, rfl⟩ := Z3.out
                    exact Calls.quiet_of_same (ord_act ((O5.out.drews z).drews q) hin hc)
                  have Gp : Hid (sc = false → (a < c ↔ i + 1 = vb)) := hid fun h => by rw [← ha, ← hc]; exact Pl.out h (i + 1) (by omega) (by omega)
                  obtain ⟨gr, hgr⟩ : ∃ gr, decide (a < c) = gr := ⟨_, rfl⟩
                  obtain ⟨eq, heq⟩ : ∃ eq, ((i : Int) + 1 == x) = eq := ⟨_, rfl⟩
                  have hge : sc = false → gr = eq := fun h => by
                    have h1 := Gp.out h
                    rw [← hgr, ← heq, Bool.eq_iff_iff, decide_eq_true_iff, h1, beq_iff_eq]
                    have := Hvb.out
                    omega
                  have Ha := hid ha
                  have Hc := hid hc
                  clear ha hc
                  cases sc
                  · obtain rfl : gr = eq := hge rfl
                    clear hge Gp Pl
                    go_wp2_with fail
                    go_quiet (first | (go_at_call 19; exact Lq.out _))
                    have Z4 : Hid (∃ z, wr.drewN nq = w5.drewN z) := by obtain ⟨z, e⟩ := Z3.out; exact ⟨z + nq, by rw [e]; exact World.drewN_drewN _ _ _⟩
                    clear Z3 e1 Lq
                    go_wp2_with fail
                    go_loopw [19] (fun jv W => ∃ (j : Nat), j ≤ n ∧ jv = .int .i64 ((j : Int) + 1) ∧ Hid (∃ z, W = w5.drewN z)) (fun jv _ => n + 1 - (intOf jv).toNat)
                    case atStart => exact ⟨0, by omega, rfl, Z4⟩
                    case round =>
                      obtain ⟨j, hj, rfl, Z5⟩ := hrel
                      clear Z4
                      by_cases hjn : j < n
                      · have x4 : (j : Int) + 1 ≤ (n : Int) := by omega
                        have x4b : (j : Int) < (n : Int) := by omega
                        obtain ⟨a2, ha2⟩ : ∃ a, nth O.acts (j + 1) = a := ⟨_, rfl⟩
                        have e1 : wr.cell? ⟨g, i, none⟩ = some (.int .i64 a) := by
                          obtain ⟨_, he, _, _, e1, _⟩ := Ow5.out.cell (j := i) (by omega)
                          injection he with he; injection he with he _ _; subst he
                          rw [ints_nth (by rw [wasL_length]; exact hin), wasL_nth hin, Ha.out] at e1
                          obtain ⟨z, rfl⟩ := Z5.out; exact e1
                        have e2 : wr.cell? ⟨g, j, none⟩ = some (.int .i64 a2) := by
                          obtain ⟨_, he, _, _, f1, _⟩ := Ow5.out.cell (j := j) (by omega)
                          injection he with he; injection he with he _ _; subst he
                          rw [ints_nth (by rw [wasL_length]; exact hjn), wasL_nth hjn, ha2] at f1
                          obtain ⟨z, rfl⟩ := Z5.out; exact f1
                        have Lj : Hid (∀ (q k : Nat), k < n → Calls Try.prog 19 #[.pointer (some ⟨b, 0, none⟩), .int .i64 ((k : Int) + 1)] (wr.drewN q) fun e w'' => e = .returned (.int .i64 (nth o2.acts (k + 1))) ∧ ∃ m, w'' = wr.drewN m) := fun q k hkn => by
                          obtain ⟨z, rfl⟩ := Z5.out
                          exact Calls.quiet_of_same (ord_act ((O5.out.drews z).drews q) hkn rfl)
                        have Mo : Hid (a2 ≤ a → j + 1 ≠ vb → (nth o2.acts (i + 1) < nth o2.acts (j + 1)) = False) := hid fun h1 h2 => by
                          refine eq_false (Int.not_lt.2 ?_)
                          exact G5.out.mono (i + 1) (j + 1) (by omega) (by omega) (by omega) (by omega) (by rw [ha2, Ha.out]; exact h1) h2
                        clear ha2
                        by_cases haa : a2 ≤ a
                        · cases q : ((j : Int) + 1 != x)
                          · go_wp2_with fail
                            go_quiet (first | (go_at_call 19; exact Lj.out _ _ (by assumption)))
                            go_wp2_with fail
                            go_roundw
                            case rel =>
                              obtain ⟨z, rfl⟩ := Z5.out
                              exact ⟨j + 1, by omega, by go_num, z + nq, World.drewN_drewN _ _ _⟩
                            case measure => simp [intOf]; omega
                          · have hcc := Mo.out haa (by have := Hvb.out; simp at q; omega)
                            go_wp2_with fail
                            go_quiet (first | (go_at_call 19; exact Lj.out _ _ (by assumption)))
                            go_wp2_with fail
                            go_roundw
                            case rel =>
                              obtain ⟨z, rfl⟩ := Z5.out
                              exact ⟨j + 1, by omega, by go_num, z + nq, World.drewN_drewN _ _ _⟩
                            case measure => simp [intOf]; omega
                        · have haa : (a2 ≤ a) = False := by simp; omega
                          go_wp2_with fail
                          go_quiet (first | (go_at_call 19; exact Lj.out _ _ (by assumption)))
                          go_wp2_with fail
                          go_roundw
                          case rel =>
                            obtain ⟨z, rfl⟩ := Z5.out
                            exact ⟨j + 1, by omega, by go_num, z + nq, World.drewN_drewN _ _ _⟩
                          case measure => simp [intOf]; omega
                      · have x4 : (n : Int) < (j : Int) + 1 := by omega
                        go_wp2_with fail
                        go_roundw
                        case rel => exact ⟨i + 1, _, by omega, by go_num, rfl, Z5⟩
                        case measure => simp [intOf]; omega
                  · clear hge Gp Pl
                    go_wp2_with fail
                    go_quiet (first | (go_at_call 19; exact Lq.out _))
                    have Z4 : Hid (∃ z, wr.drewN nq = w5.drewN z) := by obtain ⟨z, e⟩ := Z3.out; exact ⟨z + nq, by rw [e]; exact World.drewN_drewN _ _ _⟩
                    clear Z3 e1 Lq
                    go_wp2_with fail
                    go_loopw [19] (fun jv W => ∃ (j : Nat), j ≤ n ∧ jv = .int .i64 ((j : Int) + 1) ∧ Hid (∃ z, W = w5.drewN z)) (fun jv _ => n + 1 - (intOf jv).toNat)
                    case atStart => exact ⟨0, by omega, rfl, Z4⟩
                    case round =>
                      obtain ⟨j, hj, rfl, Z5⟩ := hrel
                      clear Z4
                      by_cases hjn : j < n
                      · have x4 : (j : Int) + 1 ≤ (n : Int) := by omega
                        have x4b : (j : Int) < (n : Int) := by omega
                        obtain ⟨a2, ha2⟩ : ∃ a, nth O.acts (j + 1) = a := ⟨_, rfl⟩
                        have e1 : wr.cell? ⟨g, i, none⟩ = some (.int .i64 a) := by
                          obtain ⟨_, he, _, _, e1, _⟩ := Ow5.out.cell (j := i) (by omega)
                          injection he with he; injection he with he _ _; subst he
                          rw [ints_nth (by rw [wasL_length]; exact hin), wasL_nth hin, Ha.out] at e1
                          obtain ⟨z, rfl⟩ := Z5.out; exact e1
                        have e2 : wr.cell? ⟨g, j, none⟩ = some (.int .i64 a2) := by
                          obtain ⟨_, he, _, _, f1, _⟩ := Ow5.out.cell (j := j) (by omega)
                          injection he with he; injection he with he _ _; subst he
                          rw [ints_nth (by rw [wasL_length]; exact hjn), wasL_nth hjn, ha2] at f1
                          obtain ⟨z, rfl⟩ := Z5.out; exact f1
                        have Lj : Hid (∀ (q k : Nat), k < n → Calls Try.prog 19 #[.pointer (some ⟨b, 0, none⟩), .int .i64 ((k : Int) + 1)] (wr.drewN q) fun e w'' => e = .returned (.int .i64 (nth o2.acts (k + 1))) ∧ ∃ m, w'' = wr.drewN m) := fun q k hkn => by
                          obtain ⟨z, rfl⟩ := Z5.out
                          exact Calls.quiet_of_same (ord_act ((O5.out.drews z).drews q) hkn rfl)
                        have Mo : Hid (a2 ≤ a → j + 1 ≠ vb → (nth o2.acts (i + 1) < nth o2.acts (j + 1)) = False) := hid fun h1 h2 => by
                          refine eq_false (Int.not_lt.2 ?_)
                          exact G5.out.mono (i + 1) (j + 1) (by omega) (by omega) (by omega) (by omega) (by rw [ha2, Ha.out]; exact h1) h2
                        clear ha2
                        by_cases haa : a2 ≤ a
                        · cases q : ((j : Int) + 1 != x)
                          · go_wp2_with fail
                            go_quiet (first | (go_at_call 19; exact Lj.out _ _ (by assumption)))
                            go_wp2_with fail
                            go_roundw
                            case rel =>
                              obtain ⟨z, rfl⟩ := Z5.out
                              exact ⟨j + 1, by omega, by go_num, z + nq, World.drewN_drewN _ _ _⟩
                            case measure => simp [intOf]; omega
                          · have hcc := Mo.out haa (by have := Hvb.out; simp at q; omega)
                            go_wp2_with fail
                            go_quiet (first | (go_at_call 19; exact Lj.out _ _ (by assumption)))
                            go_wp2_with fail
                            go_roundw
                            case rel =>
                              obtain ⟨z, rfl⟩ := Z5.out
                              exact ⟨j + 1, by omega, by go_num, z + nq, World.drewN_drewN _ _ _⟩
                            case measure => simp [intOf]; omega
                        · have haa : (a2 ≤ a) = False := by simp; omega
                          go_wp2_with fail
                          go_quiet (first | (go_at_call 19; exact Lj.out _ _ (by assumption)))
                          go_wp2_with fail
                          go_roundw
                          case rel =>
                            obtain ⟨z, rfl⟩ := Z5.out
                            exact ⟨j + 1, by omega, by go_num, z + nq, World.drewN_drewN _ _ _⟩
                          case measure => simp [intOf]; omega
                      · have x4 : (n : Int) < (j : Int) + 1 := by omega
                        go_wp2_with fail
                        go_roundw
                        case rel => exact ⟨i + 1, _, by omega, by go_num, rfl, Z5⟩
                        case measure => simp [intOf]; omega
                · have x3 : (n : Int) < (i : Int) + 1 := by omega
                  obtain ⟨z, rfl⟩ := Z3.out
                  go_wp2_with fail
                  go_ret
                  exact ⟨rfl, B5.out.trans (Below.drewsN _ _ _)⟩
      · go_wp2_with fail
        refine (decay_at Or.out).mono ?_
        rintro r w5 ⟨rfl, ⟨o2, o5, g5⟩, m5⟩
        obtain ⟨vb, hvb⟩ : ∃ vb, (0 : Nat) = vb := ⟨_, rfl⟩
        rw [hvb] at g5
        have Hvb := hid hvb
        clear hvb
        have Ow5 : Hid (Own w5 (fun g => S ≤ g) 3 1 (.slice A1 n c1) n (ints (wasL O.acts n))) := Ow.out.mod m5 fun g _ _ h1 h2 => by have := (HFS.out g h2).2; omega
        have B5 : Hid (Below B w w5) := Bz.out.trans ((m5.mono (G := fun g => B ≤ g) fun g _ hg => (HFS.out g hg).1).base (by omega))
        have O5 := hid o5
        have G5 := hid g5
        clear m5 o5 g5 Or Bz Ow Bw sw
        go_wp2_with fail
        go_loopw [17, 15] (fun iv sv W => ∃ (j : Nat) (sc : Bool), j ≤ n ∧ iv = .int .i64 ((j : Int) + 1) ∧ sv = .bool sc ∧ Hid (sc = false → ∀ y, 1 ≤ y → y ≤ j → nth O.acts y ≤ nth o2.acts y) ∧ Hid (∃ z, W = w5.drewN z)) (fun iv _ _ => n + 1 - (intOf iv).toNat)
        case atStart => exact ⟨0, false, by omega, rfl, rfl, hid fun _ y h1 h2 => by omega, 0, rfl⟩
        case round =>
          obtain ⟨j, sc, hj, rfl, rfl, Sc, Z⟩ := hrel
          by_cases hjn : j < n
          · have x2 : (j : Int) + 1 ≤ (n : Int) := by omega
            cases sc
            · have x3 : (j : Int) < (n : Int) := by omega
              obtain ⟨a, ha⟩ : ∃ a, nth O.acts (j + 1) = a := ⟨_, rfl⟩
              obtain ⟨c, hc⟩ : ∃ c, nth o2.acts (j + 1) = c := ⟨_, rfl⟩
              obtain ⟨g, rfl, _, _, e1, _⟩ := Ow5.out.cell (j := j) (by omega)
              rw [ints_nth (by rw [wasL_length]; exact hjn), wasL_nth hjn, ha] at e1
              have e1 : wr.cell? ⟨g, j, none⟩ = some (.int .i64 a) := by obtain ⟨z, rfl⟩ := Z.out; exact e1
              have Lq : Hid (∀ q, Calls Try.prog 19 #[.pointer (some ⟨b, 0, none⟩), .int .i64 ((j : Int) + 1)] (wr.drewN q) fun e w'' => e = .returned (.int .i64 c) ∧ ∃ m, w'' = wr.drewN m) := fun q => by
                obtain ⟨z, rfl⟩ := Z.out
                exact Calls.quiet_of_same (ord_act ((O5.out.drews z).drews q) hjn hc)
              have Ha := hid ha
              have Hc := hid hc
              clear ha hc
              go_wp2_with fail
              go_quiet (first | (go_at_call 19; exact Lq.out _))
              go_wp2_with fail
              go_roundw
              case rel =>
                obtain ⟨z, rfl⟩ := Z.out
                refine ⟨j + 1, decide (c < a), by omega, by go_num, rfl, hid fun hdc y h1 h2 => ?_, z + nq, World.drewN_drewN _ _ _⟩
                rcases (by omega : y ≤ j ∨ y = j + 1) with h3 | h3
                · exact Sc.out (by simp) y h1 h3
                · subst h3; rw [Ha.out, Hc.out]; simpa using hdc
              case measure => simp [intOf]; omega
            · go_wp2_with fail
              go_quiet (fail)
              go_wp2_with fail
              go_roundw
              case rel =>
                obtain ⟨z, rfl⟩ := Z.out
                exact ⟨j + 1, true, by omega, by go_num, rfl, hid fun h => by (cases h), z + nq, World.drewN_drewN _ _ _⟩
              case measure => simp [intOf]; omega
          · have x2 : (n : Int) < (j : Int) + 1 := by omega
            have ejn : j = n := by omega
            rw [ejn] at x2 Sc ⊢
            clear ejn hj hjn
            clear j
            have Pl : Hid (sc = false → ∀ y, 1 ≤ y → y ≤ n → (nth O.acts y < nth o2.acts y ↔ y = vb)) := hid fun h => G5.out.plain (Sc.out h)
            clear Sc
            go_wp2_with fail
            go_loopw [18, 16] (fun iv gv W => ∃ (i : Nat) (gr : Bool), i ≤ n ∧ iv = .int .i64 ((i : Int) + 1) ∧ gv = .bool gr ∧ Hid (∃ z, W = w5.drewN z)) (fun iv _ _ => n + 1 - (intOf iv).toNat)
            case atStart => exact ⟨0, false, by omega, rfl, rfl, Z⟩
            case round =>
              obtain ⟨i, gr0, hi, rfl, rfl, Z3⟩ := hrel
              clear Z
              by_cases hin : i < n
              · have x3 : (i : Int) + 1 ≤ (n : Int) := by omega
                have x3b : (i : Int) < (n : Int) := by omega
                obtain ⟨a, ha⟩ : ∃ a, nth O.acts (i + 1) = a := ⟨_, rfl⟩
                obtain ⟨c, hc⟩ : ∃ c, nth o2.acts (i + 1) = c := ⟨_, rfl⟩
                obtain ⟨g, rfl, _, _, e1, _⟩ := Ow5.out.cell (j := i) (by omega)
                rw [ints_nth (by rw [wasL_length]; exact hin), wasL_nth hin, ha] at e1
                have e1 : wr.cell? ⟨g, i, none⟩ = some (.int .i64 a) := by obtain ⟨z, rfl⟩ := Z3.out; exact e1
                have Lq : Hid (∀ q, Calls Try.prog 19 #[.pointer (some ⟨b, 0, none⟩), .int .i64 ((i : Int) + 1)] (wr.drewN q) fun e w'' => e = .returned (.int .i64 c) ∧ ∃ m, w'' = wr.drewN m) := fun q => by
                  obtain ⟨z, rfl⟩ := Z3.out
                  exact Calls.quiet_of_same (ord_act ((O5.out.drews z).drews q) hin hc)
                have Gp : Hid (sc = false → (a < c ↔ i + 1 = vb)) := hid fun h => by rw [← ha, ← hc]; exact Pl.out h (i + 1) (by omega) (by omega)
                obtain ⟨gr, hgr⟩ : ∃ gr, decide (a < c) = gr := ⟨_, rfl⟩
                have hge : sc = false → gr = false := fun h => by
                  have h1 := Gp.out h
                  rw [← hgr, decide_eq_false_iff_not, h1]
                  have := Hvb.out
                  omega
                have Ha := hid ha
                have Hc := hid hc
                clear ha hc
                cases sc
                · obtain rfl : gr = false := hge rfl
                  clear hge Gp Pl
                  go_wp2_with fail
                  go_quiet (first | (go_at_call 19; exact Lq.out _))
                  have Z4 : Hid (∃ z, wr.drewN nq = w5.drewN z) := by obtain ⟨z, e⟩ := Z3.out; exact ⟨z + nq, by rw [e]; exact World.drewN_drewN _ _ _⟩
                  clear Z3 e1 Lq
                  go_wp2_with fail
                  go_loopw [19] (fun jv W => ∃ (j : Nat), j ≤ n ∧ jv = .int .i64 ((j : Int) + 1) ∧ Hid (∃ z, W = w5.drewN z)) (fun jv _ => n + 1 - (intOf jv).toNat)
                  case atStart => exact ⟨0, by omega, rfl, Z4⟩
                  case round =>
                    obtain ⟨j, hj, rfl, Z5⟩ := hrel
                    clear Z4
                    by_cases hjn : j < n
                    · have x4 : (j : Int) + 1 ≤ (n : Int) := by omega
                      have x4b : (j : Int) < (n : Int) := by omega
                      obtain ⟨a2, ha2⟩ : ∃ a, nth O.acts (j + 1) = a := ⟨_, rfl⟩
                      have e1 : wr.cell? ⟨g, i, none⟩ = some (.int .i64 a) := by
                        obtain ⟨_, he, _, _, e1, _⟩ := Ow5.out.cell (j := i) (by omega)
                        injection he with he; injection he with he _ _; subst he
                        rw [ints_nth (by rw [wasL_length]; exact hin), wasL_nth hin, Ha.out] at e1
                        obtain ⟨z, rfl⟩ := Z5.out; exact e1
                      have e2 : wr.cell? ⟨g, j, none⟩ = some (.int .i64 a2) := by
                        obtain ⟨_, he, _, _, f1, _⟩ := Ow5.out.cell (j := j) (by omega)
                        injection he with he; injection he with he _ _; subst he
                        rw [ints_nth (by rw [wasL_length]; exact hjn), wasL_nth hjn, ha2] at f1
                        obtain ⟨z, rfl⟩ := Z5.out; exact f1
                      have Lj : Hid (∀ (q k : Nat), k < n → Calls Try.prog 19 #[.pointer (some ⟨b, 0, none⟩), .int .i64 ((k : Int) + 1)] (wr.drewN q) fun e w'' => e = .returned (.int .i64 (nth o2.acts (k + 1))) ∧ ∃ m, w'' = wr.drewN m) := fun q k hkn => by
                        obtain ⟨z, rfl⟩ := Z5.out
                        exact Calls.quiet_of_same (ord_act ((O5.out.drews z).drews q) hkn rfl)
                      have Mo : Hid (a2 ≤ a → j + 1 ≠ vb → (nth o2.acts (i + 1) < nth o2.acts (j + 1)) = False) := hid fun h1 h2 => by
                        refine eq_false (Int.not_lt.2 ?_)
                        exact G5.out.mono (i + 1) (j + 1) (by omega) (by omega) (by omega) (by omega) (by rw [ha2, Ha.out]; exact h1) h2
                      clear ha2
                      by_cases haa : a2 ≤ a
                      · have hcc := Mo.out haa (by have := Hvb.out; omega)
                        go_wp2_with fail
                        go_quiet (first | (go_at_call 19; exact Lj.out _ _ (by assumption)))
                        go_wp2_with fail
                        go_roundw
                        case rel =>
                          obtain ⟨z, rfl⟩ := Z5.out
                          exact ⟨j + 1, by omega, by go_num, z + nq, World.drewN_drewN _ _ _⟩
                        case measure => simp [intOf]; omega
                      · have haa : (a2 ≤ a) = False := by simp; omega
                        go_wp2_with fail
                        go_quiet (first | (go_at_call 19; exact Lj.out _ _ (by assumption)))
                        go_wp2_with fail
                        go_roundw
                        case rel =>
                          obtain ⟨z, rfl⟩ := Z5.out
                          exact ⟨j + 1, by omega, by go_num, z + nq, World.drewN_drewN _ _ _⟩
                        case measure => simp [intOf]; omega
                    · have x4 : (n : Int) < (j : Int) + 1 := by omega
                      go_wp2_with fail
                      go_roundw
                      case rel => exact ⟨i + 1, _, by omega, by go_num, rfl, Z5⟩
                      case measure => simp [intOf]; omega
                · clear hge Gp Pl
                  go_wp2_with fail
                  go_quiet (first | (go_at_call 19; exact Lq.out _))
                  have Z4 : Hid (∃ z, wr.drewN nq = w5.drewN z) := by obtain ⟨z, e⟩ := Z3.out; exact ⟨z + nq, by rw [e]; exact World.drewN_drewN _ _ _⟩
                  clear Z3 e1 Lq
                  go_wp2_with fail
                  go_loopw [19] (fun jv W => ∃ (j : Nat), j ≤ n ∧ jv = .int .i64 ((j : Int) + 1) ∧ Hid (∃ z, W = w5.drewN z)) (fun jv _ => n + 1 - (intOf jv).toNat)
                  case atStart => exact ⟨0, by omega, rfl, Z4⟩
                  case round =>
                    obtain ⟨j, hj, rfl, Z5⟩ := hrel
                    clear Z4
                    by_cases hjn : j < n
                    · have x4 : (j : Int) + 1 ≤ (n : Int) := by omega
                      have x4b : (j : Int) < (n : Int) := by omega
                      obtain ⟨a2, ha2⟩ : ∃ a, nth O.acts (j + 1) = a := ⟨_, rfl⟩
                      have e1 : wr.cell? ⟨g, i, none⟩ = some (.int .i64 a) := by
                        obtain ⟨_, he, _, _, e1, _⟩ := Ow5.out.cell (j := i) (by omega)
                        injection he with he; injection he with he _ _; subst he
                        rw [ints_nth (by rw [wasL_length]; exact hin), wasL_nth hin, Ha.out] at e1
                        obtain ⟨z, rfl⟩ := Z5.out; exact e1
                      have e2 : wr.cell? ⟨g, j, none⟩ = some (.int .i64 a2) := by
                        obtain ⟨_, he, _, _, f1, _⟩ := Ow5.out.cell (j := j) (by omega)
                        injection he with he; injection he with he _ _; subst he
                        rw [ints_nth (by rw [wasL_length]; exact hjn), wasL_nth hjn, ha2] at f1
                        obtain ⟨z, rfl⟩ := Z5.out; exact f1
                      have Lj : Hid (∀ (q k : Nat), k < n → Calls Try.prog 19 #[.pointer (some ⟨b, 0, none⟩), .int .i64 ((k : Int) + 1)] (wr.drewN q) fun e w'' => e = .returned (.int .i64 (nth o2.acts (k + 1))) ∧ ∃ m, w'' = wr.drewN m) := fun q k hkn => by
                        obtain ⟨z, rfl⟩ := Z5.out
                        exact Calls.quiet_of_same (ord_act ((O5.out.drews z).drews q) hkn rfl)
                      have Mo : Hid (a2 ≤ a → j + 1 ≠ vb → (nth o2.acts (i + 1) < nth o2.acts (j + 1)) = False) := hid fun h1 h2 => by
                        refine eq_false (Int.not_lt.2 ?_)
                        exact G5.out.mono (i + 1) (j + 1) (by omega) (by omega) (by omega) (by omega) (by rw [ha2, Ha.out]; exact h1) h2
                      clear ha2
                      by_cases haa : a2 ≤ a
                      · have hcc := Mo.out haa (by have := Hvb.out; omega)
                        go_wp2_with fail
                        go_quiet (first | (go_at_call 19; exact Lj.out _ _ (by assumption)))
                        go_wp2_with fail
                        go_roundw
                        case rel =>
                          obtain ⟨z, rfl⟩ := Z5.out
                          exact ⟨j + 1, by omega, by go_num, z + nq, World.drewN_drewN _ _ _⟩
                        case measure => simp [intOf]; omega
                      · have haa : (a2 ≤ a) = False := by simp; omega
                        go_wp2_with fail
                        go_quiet (first | (go_at_call 19; exact Lj.out _ _ (by assumption)))
                        go_wp2_with fail
                        go_roundw
                        case rel =>
                          obtain ⟨z, rfl⟩ := Z5.out
                          exact ⟨j + 1, by omega, by go_num, z + nq, World.drewN_drewN _ _ _⟩
                        case measure => simp [intOf]; omega
                    · have x4 : (n : Int) < (j : Int) + 1 := by omega
                      go_wp2_with fail
                      go_roundw
                      case rel => exact ⟨i + 1, _, by omega, by go_num, rfl, Z5⟩
                      case measure => simp [intOf]; omega
              · have x3 : (n : Int) < (i : Int) + 1 := by omega
                obtain ⟨z, rfl⟩ := Z3.out
                go_wp2_with fail
                go_ret
                exact ⟨rfl, B5.out.trans (Below.drewsN _ _ _)⟩

set_option maxRecDepth 100000 in
set_option maxHeartbeats 4000000 in
theorem bumps_walk {w : World} {v : Value} {os : List Dd} {n x : Int} {d : Bool} (hv : DsRd w v os) :
    Calls Try.prog 8 #[.int .i64 n, v, .int .i64 x, .bool d] w fun r w' => r = .returned (.bool true) ∧ Below w.heap.size w w' := by
  by_cases hb : (n < 0 ∨ 200 < n) ∨ 200 < os.length
  · obtain ⟨A, cap, rfl, _⟩ := id hv
    generalize os.length = m at hb
    clear hv
    go_enter Try.func8, Try.ntmps8
    go_wp2_with fail
    refine awake_any.mono ?_
    rintro r w1 ⟨rfl, b1⟩
    have s1 := b1.size
    go_wp2_with fail
    refine (played_none hb).mono ?_
    rintro r w2 ⟨rfl, b2⟩
    go_wp2_with fail
    go_ret
    exact ⟨rfl, b1.trans (b2.mono s1)⟩
  · obtain ⟨n, rfl⟩ : ∃ k : Nat, n = k := ⟨n.toNat, by omega⟩
    exact bumps_some hv (by omega) (by omega)
end Go.Proofs.Ytdkbchpogmiohaa
