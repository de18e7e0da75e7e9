/-
  Chapter 25: several texts in one (merge.py: CtQ CtR CtS CtT CtU).
-/
import Derived.Test.YtooioikkgdgnnaaDoorCuF
import Derived.Test.YtooioikkgdgnnaaDoorPbU
import Derived.Test.YtooioikkgdgnnaaDoorPlF
namespace Go.Proofs.YtooioikkgdgnnaaDoor
section
open Go.RowKit

/-- A function that gives a constraint. -/
def GivesPb (w w' : World) (r : Ending) (c : Pb) : Prop := (∃ A n d B m e, r = .returned (.agg #[.slice A n d, .slice B m e, .int .i64 c.bound]) ∧ PbRd w' (fun g => w.heap.size ≤ g) (.agg #[.slice A n d, .slice B m e, .int .i64 c.bound]) c) ∧ Below w.heap.size w w'

set_option maxRecDepth 100000 in
set_option maxHeartbeats 1000000 in
theorem norm25_any {w : World} {F G : Nat → Prop} {A B : Option Addr} {n cA m cB : Nat} {ls ks : List Int} {b : Int} (hl : Rd w F 1 (.slice A n cA) n (ints ls)) (hk : Rd w G 1 (.slice B m cB) m (ints ks)) (hi : ∀ x ∈ ls, I64 x) (hik : ∀ x ∈ ks, I64 x) (hb : I64 b) :
    Calls Tryd.prog 25 #[.slice A n cA, .slice B m cB, .int .i64 b] w fun r w' => GivesPb w w' r (normed ls ks b).1 := by
  obtain ⟨R, hR⟩ : ∃ R, normed ls ks b = R := ⟨_, rfl⟩
  rw [hR]
  have HR := hid hR
  obtain ⟨X0, hX0, bX0, k0, s0⟩ := alloc_step w (.cells #[.slice none 0 0, .slice none 0 0, .int .i64 0] 24)
  have HX0 := hid hX0
  have hl0 := hid (hl.below bX0)
  have hk0 := hid (hk.below bX0)
  have KO := hid k0
  have B0 := hid bX0
  clear hX0 bX0 k0 hR hl hk
  go_enter Tryd.func25, Tryd.ntmps25
  go_wp2_with fail
  rw [HX0.out]
  refine (norm_any hl0.out hk0.out hi hik hb).mono ?_
  rintro r w1 ⟨⟨pv, rfl, hpv⟩, b1⟩
  rw [HR.out] at hpv ⊢
  obtain ⟨⟨A1, n1, c1, A2, n2, c2, rfl, r1, r2⟩, hb1⟩ := hpv
  have KO1 := hid (keep_blk KO.out b1)
  have B1 := hid (B0.out.trans (b1.mono B0.out.size))
  have s1 := b1.size
  obtain ⟨X2, hX2, bX2, k2, s2⟩ := alloc_step w1 (.cells #[.slice A1 n1 c1, .slice A2 n2 c2, .int .i64 R.1.bound] 24)
  have HX2 := hid hX2
  have R1 := hid (r1.below bX2)
  have R2 := hid (r2.below bX2)
  have KO2 := hid (keep_blk KO1.out bX2)
  have B2 := hid (B1.out.trans (bX2.mono B1.out.size))
  have hlt := lt_of_block KO2.out
  obtain ⟨t0, t1, t2⟩ := box3 KO2.out
  obtain ⟨f0, f1, f2⟩ := froz3 KO2.out
  rw [← hX2] at t0 t1 t2 f0 f1 f2
  clear hX2 bX2 k2 r1 r2 b1 HR hi hik hb
  go_wp2_with fail
  rw [HX2.out] at t0 t1 t2 ⊢
  obtain ⟨u0, u1, u2, m3⟩ := set3 t0 t1 t2 (.slice A1 n1 c1) (.slice A2 n2 c2) (.int .i64 R.1.bound)
  refine bodyPost_ret (v := .agg #[.slice A1 n1 c1, .slice A2 n2 c2, .int .i64 R.1.bound]) (by simp [results, Tryd.f25, go_sem, u0, u1, u2]) rfl ⟨⟨_, _, _, _, _, _, rfl, ⟨A1, n1, c1, A2, n2, c2, rfl, ?_, ?_⟩, hb1⟩, below_mod B2.out B2.out.size m3 fun g hg => by omega⟩
  · exact (R1.out.mod m3 fun g _ hf e => by omega).mono fun g _ hf => by omega
  · exact (R2.out.mod m3 fun g _ hf e => by omega).mono fun g _ hf => by omega
set_option maxRecDepth 100000 in
set_option maxHeartbeats 1000000 in
theorem clause25_any {w : World} {F : Nat → Prop} {A : Option Addr} {n cA : Nat} {ls : List Int} (hl : Rd w F 1 (.slice A n cA) n (ints ls)) (hi : ∀ x ∈ ls, I64 x) (hn : n ≤ 1000000) :
    Calls Tryd.prog 24 #[.slice A n cA] w fun r w' => GivesPb w w' r (clauseB ls).1 := by
  obtain ⟨R, hR⟩ : ∃ R, clauseB ls = R := ⟨_, rfl⟩
  rw [hR]
  have HR := hid hR
  obtain ⟨X0, hX0, bX0, k0, s0⟩ := alloc_step w (.cells #[.slice none 0 0, .slice none 0 0, .int .i64 0] 24)
  have HX0 := hid hX0
  have hl0 := hid (hl.below bX0)
  have KO := hid k0
  have B0 := hid bX0
  clear hX0 bX0 k0 hR hl
  go_enter Tryd.func24, Tryd.ntmps24
  go_wp2_with fail
  rw [HX0.out]
  have hll : ls.length = n := by have := hl0.out.1; simpa [ints_length] using this
  refine (clause_any hl0.out hi hn (by rw [← hll]; exact once_len ls) fun x hx => mem_once.1 hx).mono ?_
  rintro r w1 ⟨⟨pv, rfl, hpv⟩, b1⟩
  rw [HR.out] at hpv ⊢
  obtain ⟨⟨A1, n1, c1, A2, n2, c2, rfl, r1, r2⟩, hb1⟩ := hpv
  have KO1 := hid (keep_blk KO.out b1)
  have B1 := hid (B0.out.trans (b1.mono B0.out.size))
  have s1 := b1.size
  obtain ⟨X2, hX2, bX2, k2, s2⟩ := alloc_step w1 (.cells #[.slice A1 n1 c1, .slice A2 n2 c2, .int .i64 R.1.bound] 24)
  have HX2 := hid hX2
  have R1 := hid (r1.below bX2)
  have R2 := hid (r2.below bX2)
  have KO2 := hid (keep_blk KO1.out bX2)
  have B2 := hid (B1.out.trans (bX2.mono B1.out.size))
  have hlt := lt_of_block KO2.out
  obtain ⟨t0, t1, t2⟩ := box3 KO2.out
  obtain ⟨f0, f1, f2⟩ := froz3 KO2.out
  rw [← hX2] at t0 t1 t2 f0 f1 f2
  clear hX2 bX2 k2 r1 r2 b1 HR hi hn hll
  go_wp2_with fail
  rw [HX2.out] at t0 t1 t2 ⊢
  obtain ⟨u0, u1, u2, m3⟩ := set3 t0 t1 t2 (.slice A1 n1 c1) (.slice A2 n2 c2) (.int .i64 R.1.bound)
  refine bodyPost_ret (v := .agg #[.slice A1 n1 c1, .slice A2 n2 c2, .int .i64 R.1.bound]) (by simp [results, Tryd.f24, go_sem, u0, u1, u2]) rfl ⟨⟨_, _, _, _, _, _, rfl, ⟨A1, n1, c1, A2, n2, c2, rfl, ?_, ?_⟩, hb1⟩, below_mod B2.out B2.out.size m3 fun g hg => by omega⟩
  · exact (R1.out.mod m3 fun g _ hf e => by omega).mono fun g _ hf => by omega
  · exact (R2.out.mod m3 fun g _ hf e => by omega).mono fun g _ hf => by omega
set_option maxRecDepth 100000 in
set_option maxHeartbeats 1000000 in
theorem small25_any {w : World} {F G : Nat → Prop} {u v : Value} {n m : Nat} {ls ks : List Int} {b : Int} (hl : Rd w F 1 u n (ints ls)) (hk : Rd w G 1 v m (ints ks)) :
    Calls Tryd.prog 23 #[u, v, .int .i64 b] w fun r w' => GivesPb w w' r (normed (smL ls ks) (smC ls ks) (Int.tmod b 41)).1 := by
  obtain ⟨R, hR⟩ : ∃ R, normed (smL ls ks) (smC ls ks) (Int.tmod b 41) = R := ⟨_, rfl⟩
  rw [hR]
  obtain ⟨b', hb'⟩ : ∃ b', Int.tmod b 41 = b' := ⟨_, rfl⟩
  rw [hb'] at hR
  have HR := hid hR
  obtain ⟨X0, hX0, bX0, k0, s0⟩ := alloc_step w (.cells #[.slice none 0 0, .slice none 0 0, .int .i64 0] 24)
  have HX0 := hid hX0
  have hl0 := hid (hl.below bX0)
  have hk0 := hid (hk.below bX0)
  have KO := hid k0
  have B0 := hid bX0
  clear hX0 bX0 k0 hR hl hk
  go_enter Tryd.func23, Tryd.ntmps23
  go_wp2_with fail
  rw [HX0.out]
  refine (small_any hl0.out hk0.out).mono ?_
  rintro r wS ⟨⟨A, nA, cA, B, nB, cB, rfl, ho1, ho2⟩, bS⟩
  have hsm := sm_is ls ks
  have hbr : -40 ≤ b' ∧ b' ≤ 40 := by have := tmod_in b (m := 41) (by decide); omega
  have KS := hid (keep_blk KO.out bS)
  have BS := hid (B0.out.trans (bS.mono B0.out.size))
  have sS := bS.size
  have RL := hid ho1.rd
  have RC := hid ho2.rd
  have Hsm := hid hsm
  clear ho1 ho2 bS hsm
  go_wp2_with fail
  refine (norm_any RL.out RC.out (fun x hx => by have := Hsm.out.lit x hx; unfold I64; omega) (fun x hx => by have := Hsm.out.co x hx; unfold I64; omega) (by unfold I64; omega)).mono ?_
  rintro r w1 ⟨⟨pv, rfl, hpv⟩, b1⟩
  rw [HR.out] at hpv ⊢
  obtain ⟨⟨A1, n1, c1, A2, n2, c2, rfl, r1, r2⟩, hb1⟩ := hpv
  have KO1 := hid (keep_blk KS.out b1)
  have B1 := hid (BS.out.trans (b1.mono BS.out.size))
  have s1 := b1.size
  obtain ⟨X2, hX2, bX2, k2, s2⟩ := alloc_step w1 (.cells #[.slice A1 n1 c1, .slice A2 n2 c2, .int .i64 R.1.bound] 24)
  have HX2 := hid hX2
  have R1 := hid (r1.below bX2)
  have R2 := hid (r2.below bX2)
  have KO2 := hid (keep_blk KO1.out bX2)
  have B2 := hid (B1.out.trans (bX2.mono B1.out.size))
  have hlt := lt_of_block KO2.out
  obtain ⟨t0, t1, t2⟩ := box3 KO2.out
  obtain ⟨f0, f1, f2⟩ := froz3 KO2.out
  rw [← hX2] at t0 t1 t2 f0 f1 f2
  clear hX2 bX2 k2 r1 r2 b1 HR Hsm RL RC
  go_wp2_with fail
  rw [HX2.out] at t0 t1 t2 ⊢
  obtain ⟨u0, u1, u2, m3⟩ := set3 t0 t1 t2 (.slice A1 n1 c1) (.slice A2 n2 c2) (.int .i64 R.1.bound)
  refine bodyPost_ret (v := .agg #[.slice A1 n1 c1, .slice A2 n2 c2, .int .i64 R.1.bound]) (by simp [results, Tryd.f23, go_sem, u0, u1, u2]) rfl ⟨⟨_, _, _, _, _, _, rfl, ⟨A1, n1, c1, A2, n2, c2, rfl, ?_, ?_⟩, hb1⟩, below_mod B2.out B2.out.size m3 fun g hg => by omega⟩
  · exact (R1.out.mod m3 fun g _ hf e => by omega).mono fun g _ hf => by omega
  · exact (R2.out.mod m3 fun g _ hf e => by omega).mono fun g _ hf => by omega

def implB (c : Pb) (ps : List Pb) : Bool := c.ok && (List.range 64).all fun x => !(ps.all fun p => p.holdsB (totUp (x : Nat) 6)) || c.holdsB (totUp (x : Nat) 6)
set_option maxRecDepth 100000 in
set_option maxHeartbeats 4000000 in
theorem implied_any {w : World} {F G H : Nat → Prop} {v : Value} {c : Pb} {A : Option Addr} {n cA : Nat} {ps : List Pb} (hc : PbRd w H v c) (hic : ∀ k ∈ c.coefs, I64 k) (hp : PsRd w F G A n cA ps) (hi : ∀ p ∈ ps, ∀ k ∈ p.coefs, I64 k) :
    Calls Tryd.prog 27 #[v, .slice A n cA] w fun r w' => r = .returned (.bool (implB c ps)) ∧ Below w.heap.size w w' := by
  have Hc := hid hc
  have hpl : ps.length = n := by obtain ⟨_, _, _, h⟩ := hp; exact h
  have hnb : n ≤ 9223372036854775807 := by obtain ⟨_, h, _⟩ := hp; have := h.len; unfold maxLen at this; omega
  obtain ⟨⟨L, nl, cl, Q, nq, cq, rfl, _, _⟩, _⟩ := hc
  obtain ⟨X0, hX0, bX0, k0, s0⟩ := alloc_step w (.cells #[.slice L nl cl, .slice Q nq cq, .int .i64 c.bound] 24)
  obtain ⟨Zc, hZc⟩ : ∃ z, w.heap.size = z := ⟨_, rfl⟩
  have HX0 := hid hX0
  have Hc0 := hid (Hc.out.below bX0)
  have hp0 := hid (hp.below bX0)
  have Hi := hid hi
  have B0 := hid bX0
  rw [hZc] at k0
  have K0 := hid k0
  obtain ⟨q, hq⟩ : ∃ q, implB c ps = q := ⟨_, rfl⟩
  rw [hq]
  have Hq := hid hq
  clear hX0 bX0 k0 hp hi hq Hc
  go_enter Tryd.func27, Tryd.ntmps27
  go_wp2_with fail
  rw [HX0.out]
  refine (valid_any Hc0.out hic).mono ?_
  rintro r W1 ⟨rfl, b1⟩
  have Hc1 := hid (Hc0.out.below b1)
  have hp1 := hid (hp0.out.below b1)
  have B1 := hid (B0.out.trans (b1.mono B0.out.size))
  have K1 := hid (keep_blk K0.out b1)
  clear b1 HX0 B0 Hc0 hp0 K0
  by_cases hok : c.ok = true
  · rw [hok]
    have hq2 : ((List.range 64).all fun x => !(ps.all fun p => p.holdsB (totUp (x : Nat) 6)) || c.holdsB (totUp (x : Nat) 6)) = q := by rw [← Hq.out]; unfold implB; rw [hok]; rfl
    have Hq2 := hid hq2
    have Hok := hid hok
    clear hq2 hok Hq
    go_wp2_with fail
    go_loopw [13] (fun iv W => ∃ x : Nat, x ≤ 64 ∧ iv = .int .i64 x ∧ Hid (Below W1.heap.size W1 W) ∧ Hid (((List.range x).all fun x => !(ps.all fun p => p.holdsB (totUp (x : Nat) 6)) || c.holdsB (totUp (x : Nat) 6)) = true)) (fun iv _ => 64 - (intOf iv).toNat)
    case atStart => exact ⟨0, by omega, rfl, Below.refl _ _, hid (by simp)⟩
    case round =>
      obtain ⟨x, hx, rfl, HB, Hall⟩ := hrel
      have k5 := hid (keep_blk K1.out HB.out)
      by_cases hlt : x < 64
      · have x1 : (x : Int) < 64 := by omega
        have hw8 : IntKind.u8.wrap (x : Int) = (x : Int) := IntWalk.u8_in _ ⟨by omega, by omega⟩
        go_wp2_with fail
        refine total_any.mono ?_
        rintro r w5 ⟨Z5, hZ5, rfl, ho5, b5⟩
        have RA := hid ho5.rd
        have B5 := hid (HB.out.trans (b5.mono HB.out.size))
        have k6 := hid (keep_blk k5.out b5)
        clear ho5 b5 k5
        obtain ⟨av, hav⟩ : ∃ av, totUp (x : Nat) 6 = av := ⟨_, rfl⟩
        rw [hav] at RA
        have Hav := hid hav
        clear hav
        go_wp2_with fail
        go_loopw [21, 7] (fun jv bv W => ∃ j : Nat, j ≤ n ∧ jv = .int .i64 j ∧ bv = .bool ((ps.take j).all fun p => p.holdsB av) ∧ Hid (Below w5.heap.size w5 W)) (fun jv _ _ => n - (intOf jv).toNat)
        case atStart => exact ⟨0, by omega, rfl, by simp, Below.refl _ _⟩
        case round =>
          obtain ⟨j, hj, rfl, rfl, HB2⟩ := hrel
          by_cases hlt2 : j < n
          · have y1 : (j : Int) < (n : Int) := by omega
            have bb := B5.out.trans (HB2.out.mono B5.out.size)
            obtain ⟨g, o, p, A1, n1, c1, A2, n2, c2, rfl, _, _, hpj, e0, e1, e2, hpr⟩ := (hp1.out.below bb).cells hlt2
            obtain ⟨X7, hX7, bX7, k7, s7⟩ := alloc_step wr (.cells #[.slice A1 n1 c1, .slice A2 n2 c2, .int .i64 p.bound] 24)
            have HX7 := hid hX7
            have Hp7 := hid (hpr.below bX7)
            have B7 := hid (HB2.out.trans (bX7.mono HB2.out.size))
            have RA7 := hid (RA.out.below B7.out)
            have hii := hid (Hi.out p (List.mem_of_getElem? hpj))
            have ht : ((ps.take (j + 1)).all fun p => p.holdsB av) = (((ps.take j).all fun p => p.holdsB av) && p.holdsB av) := by rw [List.take_add_one, hpj]; simp
            have Ht := hid ht
            obtain ⟨t, htt⟩ : ∃ t, ((ps.take j).all fun p => p.holdsB av) = t := ⟨_, rfl⟩
            rw [htt] at ht ⊢
            have Ht := hid ht
            clear ht htt hX7 bX7 k7 s7 hpr hpj bb
            cases t with
            | false =>
              go_wp2_with fail
              rw [HX7.out]
              go_roundw
              case rel => exact ⟨j + 1, by omega, by go_num, by rw [Ht.out]; rfl, B7⟩
              case measure => simp [intOf]; omega
            | true =>
              go_wp2_with fail
              rw [HX7.out]
              refine (holds_any Hp7.out hii.out RA7.out).mono ?_
              rintro r w8 ⟨rfl, b8⟩
              have B8 := hid (B7.out.trans (b8.mono B7.out.size))
              clear b8 e0 e1 e2
              go_wp2_with fail
              go_roundw
              case rel => exact ⟨j + 1, by omega, by go_num, by rw [Ht.out]; simp, B8⟩
              case measure => simp [intOf]; omega
          · have hjn : j = n := by omega
            have y1 : ¬ ((j : Int) < (n : Int)) := by omega
            have B9 := hid (B5.out.trans (HB2.out.mono B5.out.size))
            have RA9 := hid (RA.out.below HB2.out)
            have k9 := hid (keep_blk k6.out HB2.out)
            obtain ⟨e0, e1, e2⟩ := box3 k9.out
            have ht : (ps.take j).all (fun p => p.holdsB av) = ps.all fun p => p.holdsB av := by rw [hjn, ← hpl, List.take_length]
            rw [ht]
            have hstep : ((List.range (x + 1)).all fun x => !(ps.all fun p => p.holdsB (totUp (x : Nat) 6)) || c.holdsB (totUp (x : Nat) 6)) = (!(ps.all fun p => p.holdsB av) || c.holdsB av) := by
              rw [List.range_succ, List.all_append, Hall.out, ← Hav.out]
              simp
            have Hstep := hid hstep
            have hfin : (!(ps.all fun p => p.holdsB av) || c.holdsB av) = false → q = false := fun h => by
              rw [← Hq2.out, ← Bool.not_eq_true, List.all_eq_true]
              intro h2
              have := h2 x (by simp; omega)
              rw [Hav.out] at this
              rw [h] at this
              cases this
            have Hfin := hid hfin
            clear ht hstep hfin hjn
            obtain ⟨t, htt⟩ : ∃ t, (ps.all fun p => p.holdsB av) = t := ⟨_, rfl⟩
            have Htt := hid htt
            rw [htt]
            clear htt
            cases t with
            | false =>
              go_wp2_with fail
              go_roundw
              case rel => exact ⟨x + 1, by omega, by go_num, B9, hid (by rw [Hstep.out, Htt.out]; rfl)⟩
              case measure => simp [intOf]; omega
            | true =>
              go_wp2_with fail
              refine (holds_any (Hc1.out.below B9.out) hic RA9.out).mono ?_
              rintro r w8 ⟨rfl, b8⟩
              have B8 := hid (B9.out.trans (b8.mono B9.out.size))
              obtain ⟨z, hz⟩ : ∃ z, c.holdsB av = z := ⟨_, rfl⟩
              have Hz := hid hz
              rw [hz]
              clear b8 e0 e1 e2 hz
              cases z with
              | true =>
                go_wp2_with fail
                go_roundw
                case rel => exact ⟨x + 1, by omega, by go_num, B8, hid (by rw [Hstep.out, Hz.out]; simp)⟩
                case measure => simp [intOf]; omega
              | false =>
                obtain rfl : q = false := Hfin.out (by rw [Htt.out, Hz.out]; rfl)
                go_wp2_with fail
                go_ret
                exact ⟨rfl, B1.out.trans (B8.out.mono B1.out.size)⟩
      · obtain rfl : x = 64 := by omega
        obtain rfl : q = true := by rw [← Hq2.out]; exact Hall.out
        go_wp2_with fail
        go_ret
        exact ⟨rfl, B1.out.trans (HB.out.mono B1.out.size)⟩
  · have hf : c.ok = false := by simpa using hok
    rw [hf]
    obtain rfl : q = false := by rw [← Hq.out]; unfold implB; rw [hf]; rfl
    clear hf hok
    go_wp2_with fail
    go_ret
    exact ⟨rfl, B1.out⟩
end

section
open Go.RowKit

/-- The normal form, from a list that holds all variables. -/
def candVs (cand ls ks : List Int) : List Int := cand.filter fun v => decide (vsum ls ks ls.length v ≠ 0)
def candBd (cand ls ks : List Int) (b : Int) : Int := b - nsum ls ks ls.length - ((candVs cand ls ks).map fun v => min (vsum ls ks ls.length v) 0).sum
def candCs (cand ls ks : List Int) (b : Int) : List Int := (candVs cand ls ks).map fun v => min (((vsum ls ks ls.length v).natAbs : Nat) : Int) (candBd cand ls ks b)
def normCand (cand ls ks : List Int) (b : Int) : Pb × Int :=
  if normOk ls ks b = false then (⟨[], [], 0⟩, 2)
  else if candBd cand ls ks b ≤ 0 then (⟨[], [], 0⟩, 0)
  else if (candCs cand ls ks b).sum < candBd cand ls ks b then (⟨[], [], 1⟩, 0)
  else if 16777216 < candBd cand ls ks b then (⟨[], [], 0⟩, 3)
  else (⟨(candVs cand ls ks).map fun v => sg (vsum ls ks ls.length v) v, candCs cand ls ks b, candBd cand ls ks b⟩, 0)
theorem normed_cand {cand ls ks : List Int} {b : Int} (hr : cand.Pairwise (fun x y => x < y)) (hm : ∀ v ∈ cand, 1 ≤ v ∧ v ≤ 65536) (hall : ∀ l ∈ ls, ((l.natAbs : Nat) : Int) ∈ cand) : normed ls ks b = normCand cand ls ks b := by
  have e : normVars ls ks = candVs cand ls ks := by
    refine normVars_eq (hr.sublist List.filter_sublist) (fun v hv => ?_) fun l hl => ?_
    · obtain ⟨h1, h2⟩ := List.mem_filter.1 hv
      exact ⟨(hm v h1).1, (hm v h1).2, of_decide_eq_true h2⟩
    · by_cases h : vsum ls ks ls.length ((l.natAbs : Nat) : Int) = 0
      · exact .inr h
      · exact .inl (List.mem_filter.2 ⟨hall l hl, decide_eq_true h⟩)
  have e2 : normBd ls ks b = candBd cand ls ks b := by unfold normBd candBd; rw [e]
  have e3 : normCoefs ls ks b = candCs cand ls ks b := by unfold normCoefs candCs; rw [e, e2]
  rw [normed_sg, e3, e2, e]
  rfl
theorem once_id {ls : List Int} (h : ls.Pairwise (fun x y => x < y)) : once ls = ls := by
  refine List.Perm.eq_of_pairwise (le := fun x y : Int => x ≤ y) (fun a b _ _ h1 h2 => by omega) ((compactL_rise (sortL_sorted _)).imp fun h => by omega) (h.imp fun h => by omega) ((List.perm_ext_iff_of_nodup (once_nodup _) (h.imp fun h => by omega)).2 fun v => mem_once)
theorem clause_at {ls : List Int} (h : ls.Pairwise (fun x y => x < y)) : clauseB ls = normed ls (List.replicate ls.length 1) 1 := by rw [clauseB_is, once_id h]
theorem cl12 : clauseB [1, 2] = (⟨[1, 2], [1, 1], 1⟩, 0) := (clause_at (by decide)).trans ((normed_cand (cand := [1, 2, 3]) (by decide) (by decide) (by decide)).trans (by rfl))
theorem cl13n : clauseB [-1, 3] = (⟨[-1, 3], [1, 1], 1⟩, 0) := (clause_at (by decide)).trans ((normed_cand (cand := [1, 2, 3]) (by decide) (by decide) (by decide)).trans (by rfl))
theorem cl13 : clauseB [1, 3] = (⟨[1, 3], [1, 1], 1⟩, 0) := (clause_at (by decide)).trans ((normed_cand (cand := [1, 2, 3]) (by decide) (by decide) (by decide)).trans (by rfl))
theorem cl23 : clauseB [2, 3] = (⟨[2, 3], [1, 1], 1⟩, 0) := (clause_at (by decide)).trans ((normed_cand (cand := [1, 2, 3]) (by decide) (by decide) (by decide)).trans (by rfl))
theorem ok_iff' {c : Pb} (h : c.ok = true) : c.Ok := (Pb.ok_iff c).1 h
theorem ad1 : Pb.addB ⟨[1, 2], [1, 1], 1⟩ ⟨[-1, 3], [1, 1], 1⟩ = (⟨[2, 3], [1, 1], 1⟩, 0) := (addB_is (ok_iff' (by decide)) (ok_iff' (by decide))).trans ((normed_cand (cand := [1, 2, 3]) (by decide) (by decide) (by decide)).trans (by rfl))
theorem nm1 : normed [1, 2, 3] [2, 2, 2] 3 = (⟨[1, 2, 3], [2, 2, 2], 3⟩, 0) := (normed_cand (cand := [1, 2, 3]) (by decide) (by decide) (by decide)).trans (by rfl)
theorem dv1 : Pb.divB ⟨[1, 2, 3], [2, 2, 2], 3⟩ 2 = (⟨[1, 2, 3], [1, 1, 1], 2⟩, 0) := (divB_is (ok_iff' (by decide)) (by decide) (by decide)).trans ((normed_cand (cand := [1, 2, 3]) (by decide) (by decide) (by decide)).trans (by rfl))
theorem nm2 : normed [1, 2, 3] [2, 1, 1] 2 = (⟨[1, 2, 3], [2, 1, 1], 2⟩, 0) := (normed_cand (cand := [1, 2, 3]) (by decide) (by decide) (by decide)).trans (by rfl)
theorem wk1 : Pb.weakB ⟨[1, 2, 3], [2, 1, 1], 2⟩ 2 = (⟨[1, 3], [1, 1], 1⟩, 0) := by
  rw [weakB_is (ok_iff' (by decide)) (by decide) (by decide), show Pb.at ⟨[1, 2, 3], [2, 1, 1], 2⟩ 2 = 1 by decide, if_pos (by decide)]
  exact (normed_cand (cand := [1, 2, 3]) (by decide) (by decide) (by decide)).trans (by rfl)
theorem ad2 : Pb.addB ⟨[1, 2], [1, 1], 1⟩ ⟨[1, 3], [1, 1], 1⟩ = (⟨[1, 2, 3], [2, 1, 1], 2⟩, 0) := (addB_is (ok_iff' (by decide)) (ok_iff' (by decide))).trans ((normed_cand (cand := [1, 2, 3]) (by decide) (by decide) (by decide)).trans (by rfl))
theorem ad3 : Pb.addB ⟨[1, 2, 3], [2, 1, 1], 2⟩ ⟨[2, 3], [1, 1], 1⟩ = (⟨[1, 2, 3], [2, 2, 2], 3⟩, 0) := (addB_is (ok_iff' (by decide)) (ok_iff' (by decide))).trans ((normed_cand (cand := [1, 2, 3]) (by decide) (by decide) (by decide)).trans (by rfl))
theorem step_push {db s : List Pb} {n : Nat} {z : Int} (h : n < db.length) (hz : z = n) : stepB db s ⟨1, z⟩ = (s ++ [pbAt db n], 0) := by
  subst hz
  unfold stepB
  rw [if_pos rfl, if_neg (by show ¬ ((n : Int) < 0 ∨ (db.length : Int) ≤ (n : Int)); omega)]
  simp
theorem step_add {db : List Pb} {a b : Pb} : stepB db [a, b] ⟨2, 0⟩ = ([(a.addB b).1], (a.addB b).2) := by
  unfold stepB
  rw [if_neg (by decide), if_pos rfl, if_neg (by simp)]
  rfl
theorem step_div {db : List Pb} {a : Pb} {n : Int} : stepB db [a] ⟨4, n⟩ = ([(a.divB n).1], (a.divB n).2) := by
  unfold stepB
  rw [if_neg (by show ¬ (4 = 1); decide), if_neg (by show ¬ (4 = 2); decide), if_neg (by simp)]
  rfl
theorem runFrom_step {db s s' : List Pb} {op : Cop} {ops : List Cop} (h : stepB db s op = (s', 0)) : runFrom db (op :: ops) s = runFrom db ops s' := by
  show (if (stepB db s op).2 = 0 then runFrom db ops (stepB db s op).1 else (Pb.nil, (stepB db s op).2)) = _
  rw [h, if_pos rfl]
theorem rn1 : runB [⟨1, 0⟩, ⟨1, 1⟩, ⟨2, 0⟩, ⟨1, 2⟩, ⟨2, 0⟩, ⟨4, 2⟩] [⟨[1, 2], [1, 1], 1⟩, ⟨[1, 3], [1, 1], 1⟩, ⟨[2, 3], [1, 1], 1⟩] = (⟨[1, 2, 3], [1, 1, 1], 2⟩, 0) := by
  unfold runB
  rw [if_neg (by decide), runFrom_step (step_push (n := 0) (z := 0) (by decide) rfl), runFrom_step (step_push (n := 1) (z := 1) (by decide) rfl)]
  have e1 : stepB [⟨[1, 2], [1, 1], 1⟩, ⟨[1, 3], [1, 1], 1⟩, ⟨[2, 3], [1, 1], 1⟩] [⟨[1, 2], [1, 1], 1⟩, ⟨[1, 3], [1, 1], 1⟩] ⟨2, 0⟩ = ([⟨[1, 2, 3], [2, 1, 1], 2⟩], 0) := by rw [step_add, ad2]
  have e2 : stepB [⟨[1, 2], [1, 1], 1⟩, ⟨[1, 3], [1, 1], 1⟩, ⟨[2, 3], [1, 1], 1⟩] [⟨[1, 2, 3], [2, 1, 1], 2⟩, ⟨[2, 3], [1, 1], 1⟩] ⟨2, 0⟩ = ([⟨[1, 2, 3], [2, 2, 2], 3⟩], 0) := by rw [step_add, ad3]
  have e3 : stepB [⟨[1, 2], [1, 1], 1⟩, ⟨[1, 3], [1, 1], 1⟩, ⟨[2, 3], [1, 1], 1⟩] [⟨[1, 2, 3], [2, 2, 2], 3⟩] ⟨4, 2⟩ = ([⟨[1, 2, 3], [1, 1, 1], 2⟩], 0) := by rw [step_div, dv1]
  rw [show ([] ++ [pbAt [(⟨[1, 2], [1, 1], 1⟩ : Pb), ⟨[1, 3], [1, 1], 1⟩, ⟨[2, 3], [1, 1], 1⟩] 0]) ++ [pbAt [(⟨[1, 2], [1, 1], 1⟩ : Pb), ⟨[1, 3], [1, 1], 1⟩, ⟨[2, 3], [1, 1], 1⟩] 1] = [⟨[1, 2], [1, 1], 1⟩, ⟨[1, 3], [1, 1], 1⟩] from rfl]
  rw [runFrom_step e1, runFrom_step (step_push (n := 2) (z := 2) (by decide) rfl), show [(⟨[1, 2, 3], [2, 1, 1], 2⟩ : Pb)] ++ [pbAt [(⟨[1, 2], [1, 1], 1⟩ : Pb), ⟨[1, 3], [1, 1], 1⟩, ⟨[2, 3], [1, 1], 1⟩] 2] = [⟨[1, 2, 3], [2, 1, 1], 2⟩, ⟨[2, 3], [1, 1], 1⟩] from rfl, runFrom_step e2, runFrom_step e3]
  rfl
theorem txa : (⟨[2, 3], [1, 1], 1⟩ : Pb).text = [49, 32, 120, 50, 32, 49, 32, 120, 51, 32, 62, 61, 32, 49] := by
  unfold Pb.text
  rw [if_pos (by decide)]
  simp [Pb.words, Pb.word, nth, List.range_succ, i1, i2, i3]
theorem txb : (⟨[1, 2, 3], [1, 1, 1], 2⟩ : Pb).text = [49, 32, 120, 49, 32, 49, 32, 120, 50, 32, 49, 32, 120, 51, 32, 62, 61, 32, 50] := by
  unfold Pb.text
  rw [if_pos (by decide)]
  simp [Pb.words, Pb.word, nth, List.range_succ, i1, i2, i3]
theorem txc : (⟨[1, 3], [1, 1], 1⟩ : Pb).text = [49, 32, 120, 49, 32, 49, 32, 120, 51, 32, 62, 61, 32, 49] := by
  unfold Pb.text
  rw [if_pos (by decide)]
  simp [Pb.words, Pb.word, nth, List.range_succ, i1, i3]
theorem lit_one {w : World} (xs : List Int) (h0 : 0 < xs.length) (hn : xs.length ≤ 1000000) : ∃ W, w.alloc (.cells (ints xs).toArray 3) = W ∧ Below w.heap.size w W ∧ Rd W (fun g => w.heap.size ≤ g) 1 (.slice (some ⟨w.heap.size, 0, none⟩) xs.length xs.length) xs.length (ints xs) := by
  refine ⟨_, rfl, (Below.refl _ _).alloc (Nat.le_refl _) _, (own_lit w xs h0 hn).rd.mono fun g _ hg => ?_⟩
  have : g = w.heap.size := hg
  omega
theorem ops_lit {w : World} (os : List Cop) (h0 : 0 < os.length) (hn : os.length ≤ 1000000) : ∃ W, w.alloc (.cells (ocells os).toArray 44) = W ∧ Below w.heap.size w W ∧ Rd W (fun g => w.heap.size ≤ g) 2 (.slice (some ⟨w.heap.size, 0, none⟩) os.length os.length) os.length (ocells os) := by
  refine ⟨_, rfl, (Below.refl _ _).alloc (Nat.le_refl _) _, ?_⟩
  refine ((own_new w _ 44 2 os.length (ocells os).toArray os.length (ocells os) (ocells_len os) (by omega) (Nat.le_refl _) (by unfold maxLen; omega) (by simp [ocells_len]) (by rw [List.toList_toArray]; exact List.take_of_length_le (by rw [ocells_len]; exact Nat.le_refl _)) (Nat.le_refl _) : Own _ (fun g => w.heap.size ≤ g) _ _ _ _ _)).rd
theorem ps_lit {w : World} {G : Nat → Prop} {ts : List (Value × Value × Value)} {ps : List Pb} (hp : Ps w G ts ps) (h0 : 0 < ps.length) (hn : ps.length ≤ 1000000) : ∃ W, w.alloc (.cells (flat3 ts).toArray 24) = W ∧ Below w.heap.size w W ∧ PsRd W (fun g => w.heap.size ≤ g) G (some ⟨w.heap.size, 0, none⟩) ps.length ps.length ps := by
  have hb : Below w.heap.size w (w.alloc (.cells (flat3 ts).toArray 24)) := (Below.refl _ _).alloc (Nat.le_refl _) _
  have hl : (flat3 ts).length = ps.length * 3 := by rw [flat3_length, hp.1]
  refine ⟨_, rfl, hb, ts, ?_, hp.below hb, rfl⟩
  exact ((own_new w _ 24 3 ps.length (flat3 ts).toArray ps.length (flat3 ts) hl (by omega) (Nat.le_refl _) (by unfold maxLen; omega) (by simp [hl]) (by rw [List.toList_toArray]; exact List.take_of_length_le (by omega)) (Nat.le_refl _) : Own _ (fun g => w.heap.size ≤ g) _ _ _ _ _)).rd
end

section
open Go.RowKit

set_option maxRecDepth 100000 in
set_option maxHeartbeats 4000000 in
theorem awake25_any {w : World} : Calls Tryd.prog 11 #[] w fun r w' => r = .returned (.bool true) ∧ Below w.heap.size w w' := by
  go_enter Tryd.func11, Tryd.ntmps11
  go_wp2_with fail
  obtain ⟨W1, hW, b, ho⟩ := lit_one (w := w) [1, 2] (by decide) (by decide)
  rw [show w.alloc (.cells #[.int .i64 1, .int .i64 2] 3) = W1 from hW]
  have sW1 : W1.heap.size = w.heap.size + 1 := by rw [← hW]; exact World.size_alloc _ _
  clear hW
  have B := hid b
  have l1 := hid ho
  clear b ho
  refine (clause25_any l1.out (i64s (by decide)) (by decide)).mono ?_
  rintro r W2 ⟨⟨Ap1, xp1, yp1, Dp1, zp1, tp1, rfl, hp⟩, b⟩
  rw [cl12] at hp ⊢
  have hp2 := hid hp
  have l1 := hid (l1.out.below b)
  have B := hid (B.out.trans (b.mono B.out.size))
  have p1 := hp2
  clear b hp2 hp
  clear l1
  go_wp2_with fail
  obtain ⟨W3, hW, b, ho⟩ := lit_one (w := W2) [-1, 3] (by decide) (by decide)
  rw [show W2.alloc (.cells #[.int .i64 (-1), .int .i64 3] 3) = W3 from hW]
  have sW3 : W3.heap.size = W2.heap.size + 1 := by rw [← hW]; exact World.size_alloc _ _
  clear hW
  have p1 := hid (p1.out.below b)
  have B := hid (B.out.trans (b.mono B.out.size))
  have l1 := hid ho
  clear b ho
  refine (clause25_any l1.out (i64s (by decide)) (by decide)).mono ?_
  rintro r W4 ⟨⟨Ap2, xp2, yp2, Dp2, zp2, tp2, rfl, hp⟩, b⟩
  rw [cl13n] at hp ⊢
  have hp2 := hid hp
  have p1 := hid (p1.out.below b)
  have l1 := hid (l1.out.below b)
  have B := hid (B.out.trans (b.mono B.out.size))
  have p2 := hp2
  clear b hp2 hp
  clear l1
  go_wp2_with fail
  refine (add_any p1.out p2.out (i64s (by decide)) (i64s (by decide))).mono ?_
  rintro r W5 ⟨⟨pv, rfl, hp⟩, b⟩
  rw [ad1] at hp ⊢
  have hp2 := hid hp
  obtain ⟨⟨Apa, xpa, ypa, Dpa, zpa, tpa, rfl, _, _⟩, _⟩ := hp
  have p1 := hid (p1.out.below b)
  have p2 := hid (p2.out.below b)
  have B := hid (B.out.trans (b.mono B.out.size))
  have pa := hp2
  clear b hp2
  clear p1 p2
  go_wp2_with fail
  obtain ⟨W6, hW, b, k, _⟩ := alloc_step W5 (.cells #[.slice Apa xpa ypa, .slice Dpa zpa tpa, .int .i64 1] 24)
  rw [hW]
  obtain ⟨Zka, hZ⟩ : ∃ z, W5.heap.size = z := ⟨_, rfl⟩
  have sW6 : W6.heap.size = W5.heap.size + 1 := by rw [← hW]; exact World.size_alloc _ _
  rw [hZ] at k sW6
  try rw [hZ]
  clear hW hZ
  have pa := hid (pa.out.below b)
  have B := hid (B.out.trans (b.mono B.out.size))
  have ka := hid k
  clear b k
  obtain ⟨W7, hW, b, ho⟩ := lit_one (w := W6) [1, 2, 3] (by decide) (by decide)
  rw [show W6.alloc (.cells #[.int .i64 1, .int .i64 2, .int .i64 3] 3) = W7 from hW]
  have sW7 : W7.heap.size = W6.heap.size + 1 := by rw [← hW]; exact World.size_alloc _ _
  rw [sW6] at ho sW7
  clear hW
  have pa := hid (pa.out.below b)
  have ka := hid (keep_blk ka.out b)
  have B := hid (B.out.trans (b.mono B.out.size))
  have l1 := hid ho
  clear b ho
  obtain ⟨W8, hW, b, ho⟩ := lit_one (w := W7) [2, 2, 2] (by decide) (by decide)
  rw [show W7.alloc (.cells #[.int .i64 2, .int .i64 2, .int .i64 2] 3) = W8 from hW]
  have sW8 : W8.heap.size = W7.heap.size + 1 := by rw [← hW]; exact World.size_alloc _ _
  rw [sW7] at ho sW8
  clear hW
  have pa := hid (pa.out.below b)
  have ka := hid (keep_blk ka.out b)
  have l1 := hid (l1.out.below b)
  have B := hid (B.out.trans (b.mono B.out.size))
  have l2 := hid ho
  clear b ho
  refine (norm25_any l1.out l2.out (i64s (by decide)) (i64s (by decide)) (by unfold I64; omega)).mono ?_
  rintro r W9 ⟨⟨Ap1, xp1, yp1, Dp1, zp1, tp1, rfl, hp⟩, b⟩
  rw [nm1] at hp ⊢
  have hp2 := hid hp
  have pa := hid (pa.out.below b)
  have ka := hid (keep_blk ka.out b)
  have l1 := hid (l1.out.below b)
  have l2 := hid (l2.out.below b)
  have B := hid (B.out.trans (b.mono B.out.size))
  have p1 := hp2
  clear b hp2 hp
  clear l1 l2
  go_wp2_with fail
  refine (div_any p1.out (i64s (by decide))).mono ?_
  rintro r W10 ⟨⟨pv, rfl, hp⟩, b⟩
  rw [dv1] at hp ⊢
  have hp2 := hid hp
  obtain ⟨⟨Apd, xpd, ypd, Dpd, zpd, tpd, rfl, _, _⟩, _⟩ := hp
  have pa := hid (pa.out.below b)
  have ka := hid (keep_blk ka.out b)
  have p1 := hid (p1.out.below b)
  have B := hid (B.out.trans (b.mono B.out.size))
  have pd := hp2
  clear b hp2
  clear p1
  go_wp2_with fail
  obtain ⟨W11, hW, b, k, _⟩ := alloc_step W10 (.cells #[.slice Apd xpd ypd, .slice Dpd zpd tpd, .int .i64 2] 24)
  rw [hW]
  obtain ⟨Zkd, hZ⟩ : ∃ z, W10.heap.size = z := ⟨_, rfl⟩
  have sW11 : W11.heap.size = W10.heap.size + 1 := by rw [← hW]; exact World.size_alloc _ _
  rw [hZ] at k sW11
  try rw [hZ]
  clear hW hZ
  have pa := hid (pa.out.below b)
  have ka := hid (keep_blk ka.out b)
  have pd := hid (pd.out.below b)
  have B := hid (B.out.trans (b.mono B.out.size))
  have kd := hid k
  clear b k
  obtain ⟨W12, hW, b, ho⟩ := lit_one (w := W11) [1, 2, 3] (by decide) (by decide)
  rw [show W11.alloc (.cells #[.int .i64 1, .int .i64 2, .int .i64 3] 3) = W12 from hW]
  have sW12 : W12.heap.size = W11.heap.size + 1 := by rw [← hW]; exact World.size_alloc _ _
  rw [sW11] at ho sW12
  clear hW
  have pa := hid (pa.out.below b)
  have ka := hid (keep_blk ka.out b)
  have pd := hid (pd.out.below b)
  have kd := hid (keep_blk kd.out b)
  have B := hid (B.out.trans (b.mono B.out.size))
  have l1 := hid ho
  clear b ho
  obtain ⟨W13, hW, b, ho⟩ := lit_one (w := W12) [2, 1, 1] (by decide) (by decide)
  rw [show W12.alloc (.cells #[.int .i64 2, .int .i64 1, .int .i64 1] 3) = W13 from hW]
  have sW13 : W13.heap.size = W12.heap.size + 1 := by rw [← hW]; exact World.size_alloc _ _
  rw [sW12] at ho sW13
  clear hW
  have pa := hid (pa.out.below b)
  have ka := hid (keep_blk ka.out b)
  have pd := hid (pd.out.below b)
  have kd := hid (keep_blk kd.out b)
  have l1 := hid (l1.out.below b)
  have B := hid (B.out.trans (b.mono B.out.size))
  have l2 := hid ho
  clear b ho
  refine (norm25_any l1.out l2.out (i64s (by decide)) (i64s (by decide)) (by unfold I64; omega)).mono ?_
  rintro r W14 ⟨⟨Ap1, xp1, yp1, Dp1, zp1, tp1, rfl, hp⟩, b⟩
  rw [nm2] at hp ⊢
  have hp2 := hid hp
  have pa := hid (pa.out.below b)
  have ka := hid (keep_blk ka.out b)
  have pd := hid (pd.out.below b)
  have kd := hid (keep_blk kd.out b)
  have l1 := hid (l1.out.below b)
  have l2 := hid (l2.out.below b)
  have B := hid (B.out.trans (b.mono B.out.size))
  have p1 := hp2
  clear b hp2 hp
  clear l1 l2
  go_wp2_with fail
  refine (weak_any p1.out (i64s (by decide))).mono ?_
  rintro r W15 ⟨⟨pv, rfl, hp⟩, b⟩
  rw [wk1] at hp ⊢
  have hp2 := hid hp
  obtain ⟨⟨Apw, xpw, ypw, Dpw, zpw, tpw, rfl, _, _⟩, _⟩ := hp
  have pa := hid (pa.out.below b)
  have ka := hid (keep_blk ka.out b)
  have pd := hid (pd.out.below b)
  have kd := hid (keep_blk kd.out b)
  have p1 := hid (p1.out.below b)
  have B := hid (B.out.trans (b.mono B.out.size))
  have pw := hp2
  clear b hp2
  clear p1
  go_wp2_with fail
  obtain ⟨W16, hW, b, k, _⟩ := alloc_step W15 (.cells #[.slice Apw xpw ypw, .slice Dpw zpw tpw, .int .i64 1] 24)
  rw [hW]
  obtain ⟨Zkw, hZ⟩ : ∃ z, W15.heap.size = z := ⟨_, rfl⟩
  have sW16 : W16.heap.size = W15.heap.size + 1 := by rw [← hW]; exact World.size_alloc _ _
  rw [hZ] at k sW16
  try rw [hZ]
  clear hW hZ
  have pa := hid (pa.out.below b)
  have ka := hid (keep_blk ka.out b)
  have pd := hid (pd.out.below b)
  have kd := hid (keep_blk kd.out b)
  have pw := hid (pw.out.below b)
  have B := hid (B.out.trans (b.mono B.out.size))
  have kw := hid k
  clear b k
  obtain ⟨W17, hW, b, ho⟩ := ops_lit (w := W16) [⟨1, 0⟩, ⟨1, 1⟩, ⟨2, 0⟩, ⟨1, 2⟩, ⟨2, 0⟩, ⟨4, 2⟩] (by decide) (by decide)
  rw [show W16.alloc (.cells #[.int .u8 1, .int .i64 0, .int .u8 1, .int .i64 1, .int .u8 2, .int .i64 0, .int .u8 1, .int .i64 2, .int .u8 2, .int .i64 0, .int .u8 4, .int .i64 2] 44) = W17 from hW]
  have sW17 : W17.heap.size = W16.heap.size + 1 := by rw [← hW]; exact World.size_alloc _ _
  rw [sW16] at ho sW17
  clear hW
  have pa := hid (pa.out.below b)
  have ka := hid (keep_blk ka.out b)
  have pd := hid (pd.out.below b)
  have kd := hid (keep_blk kd.out b)
  have pw := hid (pw.out.below b)
  have kw := hid (keep_blk kw.out b)
  have B := hid (B.out.trans (b.mono B.out.size))
  have ops := hid ho
  clear b ho
  obtain ⟨W18, hW, b, ho⟩ := lit_one (w := W17) [1, 2] (by decide) (by decide)
  rw [show W17.alloc (.cells #[.int .i64 1, .int .i64 2] 3) = W18 from hW]
  have sW18 : W18.heap.size = W17.heap.size + 1 := by rw [← hW]; exact World.size_alloc _ _
  rw [sW17] at ho sW18
  clear hW
  have pa := hid (pa.out.below b)
  have ka := hid (keep_blk ka.out b)
  have pd := hid (pd.out.below b)
  have kd := hid (keep_blk kd.out b)
  have pw := hid (pw.out.below b)
  have kw := hid (keep_blk kw.out b)
  have ops := hid (ops.out.below b)
  have B := hid (B.out.trans (b.mono B.out.size))
  have l1 := hid ho
  clear b ho
  refine (clause25_any l1.out (i64s (by decide)) (by decide)).mono ?_
  rintro r W19 ⟨⟨Aq1, xq1, yq1, Dq1, zq1, tq1, rfl, hp⟩, b⟩
  rw [cl12] at hp ⊢
  have hp2 := hid hp
  have pa := hid (pa.out.below b)
  have ka := hid (keep_blk ka.out b)
  have pd := hid (pd.out.below b)
  have kd := hid (keep_blk kd.out b)
  have pw := hid (pw.out.below b)
  have kw := hid (keep_blk kw.out b)
  have ops := hid (ops.out.below b)
  have l1 := hid (l1.out.below b)
  have B := hid (B.out.trans (b.mono B.out.size))
  have q1 := hp2
  clear b hp2 hp
  clear l1
  go_wp2_with fail
  obtain ⟨W20, hW, b, ho⟩ := lit_one (w := W19) [1, 3] (by decide) (by decide)
  rw [show W19.alloc (.cells #[.int .i64 1, .int .i64 3] 3) = W20 from hW]
  have sW20 : W20.heap.size = W19.heap.size + 1 := by rw [← hW]; exact World.size_alloc _ _
  clear hW
  have pa := hid (pa.out.below b)
  have ka := hid (keep_blk ka.out b)
  have pd := hid (pd.out.below b)
  have kd := hid (keep_blk kd.out b)
  have pw := hid (pw.out.below b)
  have kw := hid (keep_blk kw.out b)
  have ops := hid (ops.out.below b)
  have q1 := hid (q1.out.below b)
  have B := hid (B.out.trans (b.mono B.out.size))
  have l1 := hid ho
  clear b ho
  refine (clause25_any l1.out (i64s (by decide)) (by decide)).mono ?_
  rintro r W21 ⟨⟨Aq2, xq2, yq2, Dq2, zq2, tq2, rfl, hp⟩, b⟩
  rw [cl13] at hp ⊢
  have hp2 := hid hp
  have pa := hid (pa.out.below b)
  have ka := hid (keep_blk ka.out b)
  have pd := hid (pd.out.below b)
  have kd := hid (keep_blk kd.out b)
  have pw := hid (pw.out.below b)
  have kw := hid (keep_blk kw.out b)
  have ops := hid (ops.out.below b)
  have q1 := hid (q1.out.below b)
  have l1 := hid (l1.out.below b)
  have B := hid (B.out.trans (b.mono B.out.size))
  have q2 := hp2
  clear b hp2 hp
  clear l1
  go_wp2_with fail
  obtain ⟨W22, hW, b, ho⟩ := lit_one (w := W21) [2, 3] (by decide) (by decide)
  rw [show W21.alloc (.cells #[.int .i64 2, .int .i64 3] 3) = W22 from hW]
  have sW22 : W22.heap.size = W21.heap.size + 1 := by rw [← hW]; exact World.size_alloc _ _
  clear hW
  have pa := hid (pa.out.below b)
  have ka := hid (keep_blk ka.out b)
  have pd := hid (pd.out.below b)
  have kd := hid (keep_blk kd.out b)
  have pw := hid (pw.out.below b)
  have kw := hid (keep_blk kw.out b)
  have ops := hid (ops.out.below b)
  have q1 := hid (q1.out.below b)
  have q2 := hid (q2.out.below b)
  have B := hid (B.out.trans (b.mono B.out.size))
  have l1 := hid ho
  clear b ho
  refine (clause25_any l1.out (i64s (by decide)) (by decide)).mono ?_
  rintro r W23 ⟨⟨Aq3, xq3, yq3, Dq3, zq3, tq3, rfl, hp⟩, b⟩
  rw [cl23] at hp ⊢
  have hp2 := hid hp
  have pa := hid (pa.out.below b)
  have ka := hid (keep_blk ka.out b)
  have pd := hid (pd.out.below b)
  have kd := hid (keep_blk kd.out b)
  have pw := hid (pw.out.below b)
  have kw := hid (keep_blk kw.out b)
  have ops := hid (ops.out.below b)
  have q1 := hid (q1.out.below b)
  have q2 := hid (q2.out.below b)
  have l1 := hid (l1.out.below b)
  have B := hid (B.out.trans (b.mono B.out.size))
  have q3 := hp2
  clear b hp2 hp
  clear l1
  go_wp2_with fail
  obtain ⟨W24, hW, b, ho⟩ := ps_lit (ps := [⟨[1, 2], [1, 1], 1⟩, ⟨[1, 3], [1, 1], 1⟩, ⟨[2, 3], [1, 1], 1⟩]) (ts := [(_, _, _), (_, _, _), (_, _, _)]) ((((Ps.nil _ (fun _ => True)).snoc (t := (_, _, _)) (q1.out.mono fun _ _ _ => trivial)).snoc (t := (_, _, _)) (q2.out.mono fun _ _ _ => trivial)).snoc (t := (_, _, _)) (q3.out.mono fun _ _ _ => trivial)) (by decide) (by decide)
  rw [show W23.alloc (.cells #[.slice Aq1 xq1 yq1, .slice Dq1 zq1 tq1, .int .i64 1, .slice Aq2 xq2 yq2, .slice Dq2 zq2 tq2, .int .i64 1, .slice Aq3 xq3 yq3, .slice Dq3 zq3 tq3, .int .i64 1] 24) = W24 from hW]
  have sW24 : W24.heap.size = W23.heap.size + 1 := by rw [← hW]; exact World.size_alloc _ _
  clear hW
  have pa := hid (pa.out.below b)
  have ka := hid (keep_blk ka.out b)
  have pd := hid (pd.out.below b)
  have kd := hid (keep_blk kd.out b)
  have pw := hid (pw.out.below b)
  have kw := hid (keep_blk kw.out b)
  have ops := hid (ops.out.below b)
  have q1 := hid (q1.out.below b)
  have q2 := hid (q2.out.below b)
  have q3 := hid (q3.out.below b)
  have B := hid (B.out.trans (b.mono B.out.size))
  have db := hid ho
  clear b ho
  clear q1 q2 q3
  refine (run_any ops.out rfl db.out (by intro p hp; simp at hp; rcases hp with rfl | rfl | rfl <;> exact i64s (by decide))).mono ?_
  rintro r W25 ⟨⟨pv, rfl, hp⟩, b⟩
  rw [rn1] at hp ⊢
  have hp2 := hid hp
  obtain ⟨⟨Apr, xpr, ypr, Dpr, zpr, tpr, rfl, _, _⟩, _⟩ := hp
  have pa := hid (pa.out.below b)
  have ka := hid (keep_blk ka.out b)
  have pd := hid (pd.out.below b)
  have kd := hid (keep_blk kd.out b)
  have pw := hid (pw.out.below b)
  have kw := hid (keep_blk kw.out b)
  have ops := hid (ops.out.below b)
  have db := hid (db.out.below b)
  have B := hid (B.out.trans (b.mono B.out.size))
  have pr := hp2
  clear b hp2
  clear ops db
  go_upto_region 5 with fail
  obtain ⟨W26, hW, b, k, _⟩ := alloc_step W25 (.cells #[.slice Apr xpr ypr, .slice Dpr zpr tpr, .int .i64 2] 24)
  rw [hW]
  obtain ⟨Zkr, hZ⟩ : ∃ z, W25.heap.size = z := ⟨_, rfl⟩
  have sW26 : W26.heap.size = W25.heap.size + 1 := by rw [← hW]; exact World.size_alloc _ _
  rw [hZ] at k sW26
  try rw [hZ]
  clear hW hZ
  have pa := hid (pa.out.below b)
  have ka := hid (keep_blk ka.out b)
  have pd := hid (pd.out.below b)
  have kd := hid (keep_blk kd.out b)
  have pw := hid (pw.out.below b)
  have kw := hid (keep_blk kw.out b)
  have pr := hid (pr.out.below b)
  have B := hid (B.out.trans (b.mono B.out.size))
  have kr := hid k
  clear b k
  obtain ⟨e0, e1, e2⟩ := box3 ka.out
  go_wp2_with fail
  clear e0 e1 e2
  refine (string_any (M := 99) pa.out (i64s (by decide)) (itoa_to _) (fun _ => ⟨by decide, by decide⟩)).mono ?_
  rintro r W27 ⟨rfl, b⟩
  rw [txa]
  have pa := hid (pa.out.below b)
  have ka := hid (keep_blk ka.out b)
  have pd := hid (pd.out.below b)
  have kd := hid (keep_blk kd.out b)
  have pw := hid (pw.out.below b)
  have kw := hid (keep_blk kw.out b)
  have pr := hid (pr.out.below b)
  have kr := hid (keep_blk kr.out b)
  have B := hid (B.out.trans (b.mono B.out.size))
  clear b
  obtain ⟨e0, e1, e2⟩ := box3 kd.out
  go_wp2_with fail
  clear e0 e1 e2
  refine (string_any (M := 99) pd.out (i64s (by decide)) (itoa_to _) (fun _ => ⟨by decide, by decide⟩)).mono ?_
  rintro r W28 ⟨rfl, b⟩
  rw [txb]
  have pa := hid (pa.out.below b)
  have ka := hid (keep_blk ka.out b)
  have pd := hid (pd.out.below b)
  have kd := hid (keep_blk kd.out b)
  have pw := hid (pw.out.below b)
  have kw := hid (keep_blk kw.out b)
  have pr := hid (pr.out.below b)
  have kr := hid (keep_blk kr.out b)
  have B := hid (B.out.trans (b.mono B.out.size))
  clear b
  obtain ⟨e0, e1, e2⟩ := box3 kw.out
  go_wp2_with fail
  clear e0 e1 e2
  refine (string_any (M := 99) pw.out (i64s (by decide)) (itoa_to _) (fun _ => ⟨by decide, by decide⟩)).mono ?_
  rintro r W29 ⟨rfl, b⟩
  rw [txc]
  have pa := hid (pa.out.below b)
  have ka := hid (keep_blk ka.out b)
  have pd := hid (pd.out.below b)
  have kd := hid (keep_blk kd.out b)
  have pw := hid (pw.out.below b)
  have kw := hid (keep_blk kw.out b)
  have pr := hid (pr.out.below b)
  have kr := hid (keep_blk kr.out b)
  have B := hid (B.out.trans (b.mono B.out.size))
  clear b
  obtain ⟨e0, e1, e2⟩ := box3 kr.out
  go_wp2_with fail
  clear e0 e1 e2
  refine (string_any (M := 99) pr.out (i64s (by decide)) (itoa_to _) (fun _ => ⟨by decide, by decide⟩)).mono ?_
  rintro r W30 ⟨rfl, b⟩
  rw [txb]
  have pa := hid (pa.out.below b)
  have ka := hid (keep_blk ka.out b)
  have pd := hid (pd.out.below b)
  have kd := hid (keep_blk kd.out b)
  have pw := hid (pw.out.below b)
  have kw := hid (keep_blk kw.out b)
  have pr := hid (pr.out.below b)
  have kr := hid (keep_blk kr.out b)
  have B := hid (B.out.trans (b.mono B.out.size))
  clear b
  go_wp2_with fail
  go_ret
  exact ⟨rfl, B.out⟩
end

section
open Go.RowKit

theorem implB_true {c : Pb} {ps : List Pb} (hok : c.Ok) (h : ∀ av, Tot av → (∀ p ∈ ps, p.holdsB av = true) → c.holdsB av = true) : implB c ps = true := by
  unfold implB
  rw [(Pb.ok_iff c).2 hok, Bool.true_and, List.all_eq_true]
  intro x _
  by_cases e : ∀ p ∈ ps, p.holdsB (totUp (x : Nat) 6) = true
  · rw [h _ (tot_total _) e]; simp
  · have : (ps.all fun p => p.holdsB (totUp (x : Nat) 6)) = false := by
      rw [← Bool.not_eq_true, List.all_eq_true]
      exact e
    rw [this]; rfl
/-- What small gives. -/
structure Sml (c : Pb) : Prop where
  o : O6 c
  low : c.bound ≤ 228
theorem small_is (ls ks : List Int) (b : Int) : Sml (normed (smL ls ks) (smC ls ks) (Int.tmod b 41)).1 := by
  have hb := tmod_in b (m := 41) (by decide)
  have hs := sm_is ls ks
  exact ⟨hs.o6 (by omega) (by omega), hs.low (by omega)⟩
end

theorem vsum_append {l1 k1 l2 k2 : List Int} (h1 : l1.length = k1.length) (v : Int) : vsum (l1 ++ l2) (k1 ++ k2) (l1 ++ l2).length v = vsum l1 k1 l1.length v + vsum l2 k2 l2.length v := by
  unfold vsum
  rw [List.length_append, List.range_add, List.map_append, List.sum_append]
  congr 1
  · refine sum_cong _ fun i hi => ?_
    have hi := List.mem_range.1 hi
    unfold nth
    rw [List.getElem?_append_left (by omega), List.getElem?_append_left (by omega)]
  · rw [List.map_map]
    refine sum_cong _ fun i hi => ?_
    simp only [Function.comp]
    unfold nth
    rw [List.getElem?_append_right (by omega), List.getElem?_append_right (by omega), Nat.add_sub_cancel_left, h1, Nat.add_sub_cancel_left]
theorem nsum_append {l1 k1 l2 k2 : List Int} (h1 : l1.length = k1.length) : nsum (l1 ++ l2) (k1 ++ k2) (l1 ++ l2).length = nsum l1 k1 l1.length + nsum l2 k2 l2.length := by
  unfold nsum
  rw [List.length_append, List.range_add, List.map_append, List.sum_append]
  congr 1
  · refine sum_cong _ fun i hi => ?_
    have hi := List.mem_range.1 hi
    unfold nth
    rw [List.getElem?_append_left (by omega), List.getElem?_append_left (by omega)]
  · rw [List.map_map]
    refine sum_cong _ fun i hi => ?_
    simp only [Function.comp]
    unfold nth
    rw [List.getElem?_append_right (by omega), List.getElem?_append_right (by omega), Nat.add_sub_cancel_left, h1, Nat.add_sub_cancel_left]
theorem normed_congr {l1 k1 l2 k2 : List Int} {b1 b2 : Int} (h1 : normOk l1 k1 b1 = true) (h2 : normOk l2 k2 b2 = true) (hv : ∀ v, vsum l1 k1 l1.length v = vsum l2 k2 l2.length v) (hn : nsum l1 k1 l1.length = nsum l2 k2 l2.length) (hb : b1 = b2) : normed l1 k1 b1 = normed l2 k2 b2 := by
  have e1 : normVars l1 k1 = normVars l2 k2 := by
    rw [normVars_V6, normVars_V6]
    exact congrArg (fun f => V6.filter f) (funext fun v => by rw [hv])
  have e5 : ((normVars l2 k2).map fun v => min (vsum l1 k1 l1.length v) 0) = (normVars l2 k2).map fun v => min (vsum l2 k2 l2.length v) 0 := List.map_congr_left fun v _ => by rw [hv]
  have e2 : normBd l1 k1 b1 = normBd l2 k2 b2 := by unfold normBd; rw [e1, hn, hb, e5]
  have e3 : normCoefs l1 k1 b1 = normCoefs l2 k2 b2 := by unfold normCoefs; rw [e1, e2]; exact List.map_congr_left fun v _ => by rw [hv]
  have e4 : ((normVars l2 k2).map fun v => sg (vsum l1 k1 l1.length v) v) = (normVars l2 k2).map fun v => sg (vsum l2 k2 l2.length v) v := List.map_congr_left fun v _ => by rw [hv]
  rw [normed_sg, normed_sg, h1, h2, e1, e2, e3, e4]
section
variable {a d : Pb}
theorem O6.add_comm (ha : O6 a) (hd : O6 d) : a.addB d = d.addB a := by
  rw [addB_is ha.ok hd.ok, addB_is hd.ok ha.ok]
  have h1 := ha.few; have h2 := hd.few
  refine normed_congr (add_in ha.ok hd.ok (by omega)) (add_in hd.ok ha.ok (by omega)) (fun v => ?_) ?_ (by omega)
  · rw [vsum_append ha.ok.len, vsum_append hd.ok.len]; omega
  · rw [nsum_append ha.ok.len, nsum_append hd.ok.len]; omega
theorem zero_ok : (⟨[], [], 0⟩ : Pb).Ok := (Pb.ok_iff _).1 (by decide)
theorem one_ok : (⟨[], [], 1⟩ : Pb).Ok := (Pb.ok_iff _).1 (by decide)
theorem Pb.Ok.add_zero (ha : a.Ok) : a.addB ⟨[], [], 0⟩ = (a, 0) := by
  rw [addB_is ha zero_ok]
  show normed (a.lits ++ []) (a.coefs ++ []) (a.bound + 0) = _
  rw [List.append_nil, List.append_nil, Int.add_zero, ha.again]
theorem Pb.Ok.mul_one (ha : a.Ok) : a.mulB 1 = (a, 0) := by
  rw [mulB_is ha (by decide) (by decide) (by rw [Int.mul_one]; exact ha.high), Int.mul_one]
  have : a.coefs.map (· * 1) = a.coefs := by simp
  rw [this, ha.again]
theorem upN_one (n : Int) : upN n 1 = n := by unfold upN; rw [Int.ediv_one]; omega
theorem Pb.Ok.div_one (ha : a.Ok) : a.divB 1 = (a, 0) := by
  rw [divB_is ha (by decide) (by decide), upN_one]
  have : (a.coefs.map fun n => upN n 1) = a.coefs := by simp [upN_one]
  rw [this, ha.again]
theorem upN_mul {n k : Int} (hk : 1 ≤ k) : upN (n * k) k = n := by
  have h1 : upN (n * k) k ≤ n := (upN_le hk).2 (Int.le_refl _)
  have h2 : n * k ≤ upN (n * k) k * k := (upN_le hk).1 (Int.le_refl _)
  have h3 := Int.le_of_mul_le_mul_right h2 (by omega)
  omega
theorem sum_mulI (xs : List Int) (k : Int) : (xs.map (· * k)).sum = xs.sum * k := by
  induction xs with
  | nil => simp
  | cons x xs ih => simp only [List.map_cons, List.sum_cons]; rw [ih, Int.add_mul]
/-- A multiple. -/
def Pb.times (c : Pb) (k : Int) : Pb := ⟨c.lits, c.coefs.map (· * k), c.bound * k⟩
theorem O6.times_ok (ha : O6 a) {k : Int} (h1 : 1 ≤ k) (h3 : a.bound * k ≤ 16777216) (hn : ¬ (a.lits.length = 0 ∧ a.bound = 1)) : (a.times k).Ok := by
  have hl := ha.ok.len
  have hlow := (mul_le' ha.ok.low (Int.le_refl _) (show 0 ≤ k by omega)).1
  refine ⟨by unfold Pb.times; simp [hl], ha.ok.few, hlow, h3, ha.ok.lit, fun j hj => ?_, fun j hj => ha.ok.rise j hj, .inl ?_⟩
  · have h4 := ha.ok.coef j hj
    have hj2 : j < a.coefs.length := by have : j < a.lits.length := hj; omega
    show 1 ≤ nth (a.coefs.map (· * k)) j ∧ nth (a.coefs.map (· * k)) j ≤ a.bound * k
    rw [nth_mapI hj2]
    have e1 := mul_le' (show 0 ≤ nth a.coefs j by omega) h4.2 (show 0 ≤ k by omega)
    have e2 : 1 * k ≤ nth a.coefs j * k := Int.mul_le_mul_of_nonneg_right h4.1 (by omega)
    exact ⟨by omega, e1.2⟩
  · have hs := ha.ok.sums.resolve_right hn
    show a.bound * k ≤ ((a.coefs.map (· * k)).take a.lits.length).sum
    unfold Pb.sum at hs
    rw [← List.map_take, sum_mulI]
    exact Int.mul_le_mul_of_nonneg_right hs (by omega)
theorem none_mul {k : Int} (h1 : 1 ≤ k) (h2 : k ≤ 16777216) : (⟨[], [], 1⟩ : Pb).mulB k = (⟨[], [], 1⟩, 0) := by
  rw [mulB_is one_ok h1 h2 (by show 1 * k ≤ 16777216; omega)]
  show normed [] [] (1 * k) = _
  have hok : normOk [] [] (1 * k) = true := normOk_iff.2 ⟨rfl, by decide, by omega, by omega, fun i hi => by simp at hi⟩
  have e : normVars [] [] = [] := normVars_eq (by decide) (by simp) (by simp)
  have e2 : normBd [] [] (1 * k) = k := by unfold normBd; rw [e]; simp [nsum]
  have e3 : normCoefs [] [] (1 * k) = [] := by unfold normCoefs; rw [e]; rfl
  rw [normed_sg, if_neg (by rw [hok]; decide), e2, e3, if_neg (by omega), if_pos (by simp; omega)]
theorem none_div {k : Int} (h1 : 1 ≤ k) (h2 : k ≤ 16777216) : (⟨[], [], 1⟩ : Pb).divB k = (⟨[], [], 1⟩, 0) := by
  rw [divB_is one_ok h1 h2]
  have : upN 1 k = 1 := by
    have h3 := upN_bounds (n := 1) (by decide) h1
    have h4 : (1 : Int) ≤ upN 1 k * k := (upN_le h1).1 (Int.le_refl _)
    rcases (show upN 1 k = 0 ∨ upN 1 k = 1 by omega) with e | e
    · rw [e] at h4; omega
    · exact e
  show normed [] [] (upN 1 k) = _
  rw [this]
  exact one_ok.again
/-- A multiple, divided again. -/
theorem O6.mul_div (ha : O6 a) {k : Int} (h1 : 1 ≤ k) (h2 : k ≤ 16777216) (h3 : a.bound * k ≤ 16777216) : (a.mulB k).1.divB k = (a, 0) ∧ (a.mulB k).2 = 0 ∧ (a.mulB k).1.Ok := by
  by_cases hn : a.lits.length = 0 ∧ a.bound = 1
  · have e : a = ⟨[], [], 1⟩ := by
      obtain ⟨l, k, b⟩ := a
      obtain ⟨e1, e2⟩ := hn
      have e3 := ha.ok.len
      simp only at e1 e2 e3
      rw [e1] at e3
      rw [List.length_eq_zero_iff.1 e1, List.length_eq_zero_iff.1 e3.symm, e2]
    rw [e, none_mul h1 h2]
    exact ⟨none_div h1 h2, rfl, one_ok⟩
  · have ht := ha.times_ok h1 h3 hn
    have e : a.mulB k = (a.times k, 0) := by
      rw [mulB_is ha.ok h1 h2 h3]
      exact ht.again
    rw [e]
    refine ⟨?_, rfl, ht⟩
    rw [divB_is ht h1 h2]
    show normed a.lits ((a.coefs.map (· * k)).map fun n => upN n k) (upN (a.bound * k) k) = _
    rw [upN_mul h1, List.map_map]
    have : a.coefs.map ((fun n => upN n k) ∘ fun x => x * k) = a.coefs := by
      have : ((fun n => upN n k) ∘ fun x => x * k) = id := funext fun x => upN_mul h1
      rw [this, List.map_id]
    rw [this, ha.ok.again]
theorem ups_eq (s : Int → Bool) {ls ks : List Int} {b : Int} (h : ∀ i, i < ls.length → litB (nth ls i) = true) : ups s ls ks - normBd ls ks b = got s ls ks ls.length - b := by
  have h1 := by_norm s (ks := ks) h
  have h2 : ups s ls ks + ((normVars ls ks).map fun v => min (vsum ls ks ls.length v) 0).sum = ((normVars ls ks).map fun v => if s v = true then vsum ls ks ls.length v else 0).sum := by
    unfold ups
    rw [← sum_add]
    refine sum_cong _ fun v hv => ?_
    have h3 := mem_normVars.1 hv
    obtain ⟨f, hf⟩ : ∃ f, vsum ls ks ls.length v = f := ⟨_, rfl⟩
    rw [hf] at h3 ⊢
    rw [tr_sg s f (by omega)]
    by_cases e : f < 0
    · rw [if_pos e]
      cases s v <;> simp <;> omega
    · rw [if_neg e]
      cases s v <;> simp <;> omega
  unfold normBd
  omega
/-- The three shapes of a normal form. -/
theorem normed_shape {ls ks : List Int} {b : Int} (hok : normOk ls ks b = true) (he : (normed ls ks b).2 = 0) : (normed ls ks b).1 = ⟨[], [], 0⟩ ∨ (normed ls ks b).1 = ⟨[], [], 1⟩ ∨
    ((normed ls ks b).1.bound = normBd ls ks b ∧ ∀ s, (normed ls ks b).1.total (tr s) - (normed ls ks b).1.bound ≤ got s ls ks ls.length - b) := by
  have hl : ∀ i, i < ls.length → litB (nth ls i) = true := fun i hi => inB_lit ((normOk_iff.1 hok).2.2.2.2 i hi)
  rw [normed_sg] at he ⊢
  rw [if_neg (by rw [hok]; decide)] at he ⊢
  by_cases e1 : normBd ls ks b ≤ 0
  · rw [if_pos e1]; exact .inl rfl
  · rw [if_neg e1] at he ⊢
    by_cases e2 : (normCoefs ls ks b).sum < normBd ls ks b
    · rw [if_pos e2]; exact .inr (.inl rfl)
    · rw [if_neg e2] at he ⊢
      by_cases e3 : 16777216 < normBd ls ks b
      · rw [if_pos e3] at he; cases he
      · rw [if_neg e3]
        refine .inr (.inr ⟨rfl, fun s => ?_⟩)
        have h1 := ups_eq s (ks := ks) (b := b) hl
        have h2 : (⟨(normVars ls ks).map fun v => sg (vsum ls ks ls.length v) v, normCoefs ls ks b, normBd ls ks b⟩ : Pb).total (tr s) ≤ ups s ls ks := by
          unfold normCoefs ups
          rw [total_map]
          refine Go.Proofs.YtooioikkgdgnnaaDoor.sum_le _ fun v _ => ?_
          split <;> omega
        exact Int.le_trans (Int.sub_le_sub_right h2 _) (Int.le_of_eq h1)
/-- A constraint and its negation never hold together, not even in sum. -/
theorem Sml.neg_none (ha : Sml a) (s : Int → Bool) : a.total (tr s) + a.negB.1.total (tr s) < a.bound + a.negB.1.bound := by
  have hf := ha.o.few
  have hlow := ha.low
  obtain ⟨h1, h2⟩ := ha.o.ok.neg_in hlow (by decide) (by omega) (by decide)
  have hh := fun s => ha.o.ok.neg_holds hlow (by decide) (by omega) (by decide) s
  have hg := ha.o.ok.got_neg s
  have hnb : a.negB = normed (a.lits.map fun l => -l) a.coefs (a.coefs.sum - a.bound + 1) := by unfold Pb.negB; rw [if_pos ((Pb.ok_iff _).2 ha.o.ok)]
  have h2' := h2
  rw [hnb] at h2'
  rcases normed_shape h1 h2' with e | e | ⟨_, e⟩
  · rw [← hnb] at e
    have h3 := (hh s).1 (by rw [e]; exact Int.le_refl 0)
    rw [e]
    show _ + (0 : Int) < _ + 0
    omega
  · rw [← hnb] at e
    have h4 : ∀ s, a.bound ≤ a.total (tr s) := fun s => by
      have := hh s
      rw [e] at this
      by_cases h5 : a.bound ≤ a.total (tr s)
      · exact h5
      · exact absurd (show (1 : Int) ≤ 0 from this.2 h5) (by decide)
    have h5 : a.total (tr fun v => decide (-v ∈ a.lits)) = 0 := by
      refine sum_zero _ fun i hi => ?_
      have hi := List.mem_range.1 hi
      have hm := nth_mem hi
      have hl := ha.o.ok.lit i hi
      rw [if_neg]
      unfold tr
      by_cases e6 : 0 < nth a.lits i
      · rw [if_pos e6]
        intro h6
        obtain ⟨j, hj, e7⟩ := nth_of_mem (of_decide_eq_true h6)
        have hne : i ≠ j := fun e8 => by rw [← e8] at e7; omega
        have := ha.o.ok.differ hne hi hj
        unfold Pb.av at this
        omega
      · rw [if_neg e6]
        show ¬ ((!(decide (- -nth a.lits i ∈ a.lits))) = true)
        rw [Int.neg_neg, decide_eq_true hm]
        decide
    have h6 := h4 fun v => decide (-v ∈ a.lits)
    rw [h5] at h6
    have h7 := ha.o.ok.low
    have h8 : a.lits.length = 0 := by
      rcases Nat.eq_zero_or_pos a.lits.length with e8 | e8
      · exact e8
      · have := ha.o.ok.coef 0 e8; omega
    have h9 : a.total (tr s) = 0 := by
      unfold Pb.total Pb.part
      rw [h8]; rfl
    rw [e, h9]
    show (0 : Int) + 0 < a.bound + 1
    omega
  · rw [← hnb, List.length_map] at e
    have := e s
    omega
theorem Sml.neg_parts (ha : Sml a) : a.negB.2 = 0 ∧ O6 a.negB.1 ∧ a.negB.1.bound ≤ 100000 := by
  have hf := ha.o.few
  have hlow := ha.low
  obtain ⟨h1, h2⟩ := ha.o.ok.neg_in hlow (by decide) (by omega) (by decide)
  have hnb : a.negB = normed (a.lits.map fun l => -l) a.coefs (a.coefs.sum - a.bound + 1) := by unfold Pb.negB; rw [if_pos ((Pb.ok_iff _).2 ha.o.ok)]
  refine ⟨h2, ?_, ?_⟩
  · rw [hnb] at h2 ⊢
    refine normed6 (fun l hl => ?_) h1 h2
    obtain ⟨x, hx, rfl⟩ := List.mem_map.1 hl
    have := ha.o.lit x hx
    omega
  · rw [hnb] at h2 ⊢
    obtain ⟨h5, h6⟩ := ha.o.ok.sum_le hlow
    have h3 := ha.o.ok.low
    have h7 := normBd_le (ls := a.lits.map fun l => -l) (ks := a.coefs) (b := a.coefs.sum - a.bound + 1) (K := 228) fun i hi => by
      have hi : i < a.lits.length := by simpa using hi
      have h5 := ha.o.ok.lit i hi
      have h6 := ha.o.ok.coef i hi
      rw [nth_map hi]
      exact ⟨litB_iff.2 (by omega), by omega, by omega⟩
    rw [List.length_map] at h7
    rcases normed_shape h1 h2 with e | e | ⟨e, _⟩
    · rw [e]; decide
    · rw [e]; decide
    · rw [e]; omega
theorem Sml.none_impl (ha : Sml a) : implB ⟨[], [], 1⟩ [(a.addB a.negB.1).1] = true := by
  obtain ⟨_, hn, hb⟩ := ha.neg_parts
  have he := ha.o.add_err hn (by have := ha.low; omega) hb
  obtain ⟨ho, _⟩ := ha.o.add hn he
  refine implB_true one_ok fun av hv h => ?_
  have h1 := h _ (List.mem_singleton.2 rfl)
  rw [tot_holds ho.ok ho.six hv, decide_eq_true_eq] at h1
  have hf := ha.o.few; have hf2 := hn.few
  have h2 := (add_holds _ ha.o.ok hn.ok (by omega) he).1 h1
  have h3 := ha.neg_none (sOf av)
  omega
end
end Go.Proofs.YtooioikkgdgnnaaDoor
