/-
  The trails of chapter 30's laws.
-/
import Derived.Test.YtanhacdadgbjdaaLnK
namespace Go.Proofs.Ytanhacdadgbjdaa
open Go.RowKit

/-- The trails of the laws: 30 variables, reasons of at most 9 literals. -/
structure Tr.few (T : Tr) : Prop where
  vars : T.vars = 30
  short : ∀ e ∈ T.L, e.reason.length ≤ 9
theorem few_new : Tr.few ⟨30, [], []⟩ := ⟨rfl, fun e he => by cases he⟩
theorem few_dec {T : Tr} (h : T.few) (l : Int) : (T.dec l).few := by
  unfold Tr.dec
  split
  · refine ⟨h.vars, fun e he => ?_⟩
    rcases List.mem_append.1 he with he | he
    · exact h.short e he
    · rw [List.mem_singleton.1 he]; simp
  · exact h
theorem few_imp {T : Tr} (h : T.few) (l : Int) {r : List Int} (hr : r.length ≤ 9) : (T.imp l r).few := by
  unfold Tr.imp
  split
  · refine ⟨h.vars, fun e he => ?_⟩
    rcases List.mem_append.1 he with he | he
    · exact h.short e he
    · rw [List.mem_singleton.1 he]; exact hr
  · exact h
theorem few_reason {T : Tr} (h : T.few) (v : Int) : (T.reasonOf v).length ≤ 9 := by
  unfold Tr.reasonOf
  split
  · rename_i e he
    obtain ⟨i, _, hi⟩ := Option.bind_eq_some_iff.1 he
    exact h.short e (List.mem_of_getElem? hi)
  · simp
section
variable {w : World} {B b : Nat} {T : Tr}
theorem dec_few (ht : Trail w (fun g => B ≤ g) b T) (hB : B ≤ w.heap.size) (hf : T.few) {l : Int} (hl : I64 l) :
    Calls Try.prog 23 #[.pointer (some ⟨b, 0, none⟩), .int .i64 l] w fun r w' => (∃ e, r = .returned (.int .i64 e)) ∧ (∃ T', Trail w' (fun g => B ≤ g) b T' ∧ T'.few) ∧ Below B w w' := by
  refine (decide_e ht hl).mono ?_
  rintro r w' ⟨rfl, h1, h2⟩
  exact ⟨⟨_, rfl⟩, ⟨_, h1.base hB, few_dec hf l⟩, h2.base hB⟩
theorem imp_few {G : Nat → Prop} (ht : Trail w (fun g => B ≤ g) b T) (hB : B ≤ w.heap.size) (hf : T.few) {l : Int} (hl : I64 l) {v : Value} {n : Nat} {r : List Int} (hv : Rd w G 1 v n (ints r)) (hn : n ≤ 17592186044416) (hr : ∀ x ∈ r, I64 x) (h9 : r.length ≤ 9) :
    Calls Try.prog 21 #[.pointer (some ⟨b, 0, none⟩), .int .i64 l, v] w fun r w' => (∃ e, r = .returned (.int .i64 e)) ∧ (∃ T', Trail w' (fun g => B ≤ g) b T' ∧ T'.few) ∧ Below B w w' := by
  refine (imply_e ht hl hv hn hr).mono ?_
  rintro r w' ⟨rfl, h1, h2⟩
  exact ⟨⟨_, rfl⟩, ⟨_, h1.base hB, few_imp hf l h9⟩, h2.base hB⟩
end

set_option maxRecDepth 100000 in
set_option maxHeartbeats 4000000 in
theorem built_any {w : World} {R : Option Addr} {n c : Nat} {os : List Mvd} (hm : MvRd w (.slice R n c) os) :
    Calls Try.prog 8 #[.slice R n c] w fun r w' => ∃ b T, r = .returned (.tuple #[.pointer (some ⟨b, 0, none⟩), .bool true]) ∧ Trail w' (fun g => w.heap.size ≤ g) b T ∧ T.few ∧ Below w.heap.size w w' := by
  have hln : os.length = n := by
    obtain ⟨_, _, hv, _⟩ := hm
    injection hv with _ h2 _
    omega
  have hncap : (n : Int) ≤ (c : Int) ∧ (c : Int) ≤ 9223372036854775807 := by
    obtain ⟨_, c2, hv2, h2, h3, _⟩ := hm
    injection hv2 with _ _ h4
    unfold maxLen at h3
    omega
  obtain ⟨hnc, hcc⟩ := hncap
  have Hm := hid hm
  have Hln := hid hln
  clear hm hln
  go_enter Try.func8, Try.ntmps8
  go_wp2_with fail
  refine (new_b (B := w.heap.size) (vars := 30) (by omega) (Nat.le_refl _)).mono ?_
  rintro r w1 ⟨b, rfl, ht, b1⟩
  have Ht := hid ht
  have B1 := hid b1
  have s1 := b1.size
  clear ht b1
  go_wp2_with fail
  go_loopw [6] (fun iv W => ∃ (i : Nat) (T : Tr), i ≤ n ∧ iv = .int .i64 i ∧ Hid (Trail W (fun g => w.heap.size ≤ g) b T) ∧ Hid T.few ∧ Hid (Below w.heap.size w W)) (fun iv _ => n - (intOf iv).toNat)
  case atStart => exact ⟨0, _, by omega, rfl, Ht, few_new, B1⟩
  case round =>
    obtain ⟨i, T, hi, rfl, T1, F1, B2⟩ := hrel
    have hsz := B2.out.size
    by_cases hlt : i < n
    · have x1 : (i : Int) < (n : Int) := by omega
      by_cases h60 : i < 60
      · have x2 : (i : Int) < 60 := by omega
        go_wp2_with fail
        refine (lits_any T1.out).mono ?_
        rintro r w2 ⟨⟨u, rfl, hu⟩, b2⟩
        obtain ⟨m, hm⟩ : ∃ m, T.L.length = m := ⟨_, rfl⟩
        rw [hm] at hu
        obtain ⟨A', c', rfl, _⟩ := hu.form
        have hmc : (m : Int) ≤ (c' : Int) := by
          obtain ⟨_, A2, c2, hv2, h2, _⟩ := hu.rd
          injection hv2 with _ _ h3
          omega
        have hmm : m ≤ 30 := by
          have h1 := T1.out.wf.len
          have h2 := F1.out.vars
          omega
        have Hu := hid hu.rd
        have Hmm := hid hm
        have B3 : Hid (Below w.heap.size w w2) := B2.out.trans (b2.mono (by omega))
        have T2 := hid (T1.out.below b2)
        have s2 := b2.size
        clear hu b2 hm
        obtain ⟨x, hx⟩ : ∃ x, os[i]? = some x := ⟨_, List.getElem?_eq_getElem (by have := Hln.out; omega)⟩
        obtain ⟨A3, cap3, hv3, _, _, h3⟩ := Hm.out.below B3.out
        injection hv3 with q1 q3 q2
        subst q1 q2
        clear q3
        obtain ⟨g, o, Rx, nx, cx, rfl, hg, e0, e1, hrx, hok⟩ := h3 i x hx
        have Hrx := hid hrx
        have Hok := hid hok
        have hIl := hok.1
        obtain ⟨l, hl⟩ : ∃ l, x.lit = l := ⟨_, rfl⟩
        rw [hl] at e0 hIl
        clear h3 hx hrx hok hl
        have hB2 : w.heap.size ≤ w2.heap.size := by omega
        by_cases hz : nx = 0
        · subst hz
          go_wp2_with fail
          refine (dec_few T2.out hB2 F1.out hIl).mono ?_
          rintro r w3 ⟨⟨e, rfl⟩, ⟨T', T3, F3⟩, b3⟩
          go_wp2_with fail
          go_roundw
          case rel => exact ⟨i + 1, T', by omega, by go_num, T3, F3, B3.out.trans b3⟩
          case measure => simp [intOf]; omega
        · have hz1 : ((nx : Int) = 0) = False := by simp; omega
          have hz3 : ((nx : Int) == 0) = false := by simp; omega
          have hz2 : (nx = 0) = False := by simp [hz]
          by_cases h8 : 8 < nx
          · have h81 : (8 : Int) < (nx : Int) := by omega
            go_wp2_with fail
            refine (dec_few T2.out hB2 F1.out hIl).mono ?_
            rintro r w3 ⟨⟨e, rfl⟩, ⟨T', T3, F3⟩, b3⟩
            go_wp2_with fail
            go_roundw
            case rel => exact ⟨i + 1, T', by omega, by go_num, T3, F3, B3.out.trans b3⟩
            case measure => simp [intOf]; omega
          · have h81 : ((8 : Int) < (nx : Int)) = False := by simp; omega
            go_wp2_with fail
            go_loopw [8, 9] (fun rv kv W => ∃ (k : Nat) (ys : List Int) (Y : Option Addr) (cy : Nat), k ≤ nx ∧ kv = .int .i64 k ∧ rv = .slice Y ys.length cy ∧ Hid (ys.length = k + 1) ∧ Hid (Own W (fun g => w2.heap.size ≤ g) 3 1 (.slice Y ys.length cy) ys.length (ints ys)) ∧ Hid (∀ y ∈ ys, I64 y) ∧ Hid (Below w2.heap.size w2 W)) (fun _ kv _ => nx - (intOf kv).toNat)
            case atStart => exact ⟨0, [l], some ⟨w2.heap.size, 0, none⟩, 1, by omega, rfl, rfl, rfl, (own_one w2 (.int .i64 l)).mono fun g _ _ hg => by omega, fun y hy => by rw [List.mem_singleton.1 hy]; exact hIl, Bl.alloc (Below.refl _ _)⟩
            case round =>
              obtain ⟨k, ys, Y, cy, hk, rfl, rfl, Hyl, Ho, Hy, Bk⟩ := hrel
              have hsk := Bk.out.size
              have f0 := (Bk.out.cell (p := ⟨g, o + i * 2, none⟩) hg).trans e0
              have f1 := (Bk.out.cell (p := ⟨g, o + i * 2 + 1, none⟩) hg).trans e1
              by_cases hkn : k < nx
              · have y1 : (k : Int) < (nx : Int) := by omega
                by_cases hm0 : 0 < m
                · have y2 : (0 : Int) < (m : Int) := by omega
                  obtain ⟨p, hp⟩ : ∃ p, nth x.src k = p := ⟨_, rfl⟩
                  have hsl : x.src.length = nx := (Hrx.out.below Bk.out).cell.1
                  have hIp : I64 p := by rw [← hp]; exact Hok.out.2 _ (nth_mem (by omega))
                  obtain ⟨g', o', rfl, hg', _, e2⟩ := (Hrx.out.below Bk.out).cell.2 k hkn
                  rw [hp] at e2
                  clear hp hsl
                  go_wp2_with fail
                  refine (pick_any hIp hm0 (by omega)).mono ?_
                  rintro r w4 ⟨⟨q, rfl, hq⟩, rfl⟩
                  obtain ⟨g2, o2, rfl, hg2, _, e3⟩ := (Hu.out.below Bk.out).cell.2 q hq
                  obtain ⟨l2, hl2⟩ : ∃ l2, nth T.lits q = l2 := ⟨_, rfl⟩
                  have hmem : l2 ∈ T.lits := by
                    rw [← hl2]
                    exact nth_mem (by have := Hmm.out; simp [Tr.lits]; omega)
                  rw [hl2] at e3
                  obtain ⟨hb1, hb2⟩ := lits_small T2.out.wf hmem
                  have hwn : IntKind.i64.wrap (-l2) = -l2 := iw' (by omega) (by omega)
                  have xk : (q : Int) < (m : Int) := by omega
                  clear hl2 hmem
                  go_wp2_with (at_builtin; refine wpList_append_ints rfl _ _ rfl (Ho.out.below ((Below.refl _ _).alloc (Nat.le_refl _) _)) (own_one w4 (.int .i64 (-l2))).rd rfl rfl (by simp [Value.oneCell']) (by have := Hyl.out; omega) ?_; intro Av cv w5 ho5 hm5 hr5)
                  have B5 : Hid (Below w2.heap.size w2 w5) := hid (below_mod (Bl.alloc Bk.out) (by simp; omega) hm5 fun g hg => (Ho.out.row hg).1)
                  go_roundw
                  case rel =>
                    refine ⟨k + 1, ys ++ [-l2], Av, cv, by omega, by go_num, by simp, hid (by have := Hyl.out; simp; omega), ?_, ?_, B5⟩
                    · rw [ints_append, List.length_append]
                      exact ho5.mono fun g _ _ hg => hg.elim id fun hg => by simp at hg; omega
                    · intro z hz
                      rcases List.mem_append.1 hz with hz | hz
                      · exact Hy.out z hz
                      · rw [List.mem_singleton.1 hz]; unfold I64; omega
                  case measure => simp [intOf]; omega
                · have y2 : ((0 : Int) < (m : Int)) = False := by simp; omega
                  go_wp2_with fail
                  refine (imp_few (r := ys) (T2.out.below Bk.out) (by omega) F1.out hIl (v := .slice Y ys.length cy) Ho.out.rd (by have := Hyl.out; omega) Hy.out (by have := Hyl.out; omega)).mono ?_
                  rintro r w5 ⟨⟨e, rfl⟩, ⟨T', T5, F5⟩, b5⟩
                  go_wp2_with fail
                  go_roundw
                  case rel => exact ⟨i + 1, T', by omega, by go_num, T5, F5, (B3.out.trans (Bk.out.mono (by omega))).trans b5⟩
                  case measure => simp [intOf]; omega
              · have y1 : ((k : Int) < (nx : Int)) = False := by simp; omega
                go_wp2_with fail
                refine (imp_few (r := ys) (T2.out.below Bk.out) (by omega) F1.out hIl (v := .slice Y ys.length cy) Ho.out.rd (by have := Hyl.out; omega) Hy.out (by have := Hyl.out; omega)).mono ?_
                rintro r w5 ⟨⟨e, rfl⟩, ⟨T', T5, F5⟩, b5⟩
                go_wp2_with fail
                go_roundw
                case rel => exact ⟨i + 1, T', by omega, by go_num, T5, F5, (B3.out.trans (Bk.out.mono (by omega))).trans b5⟩
                case measure => simp [intOf]; omega
      · have x2 : ((i : Int) < 60) = False := by simp; omega
        go_wp2_with fail
        go_ret2
        exact ⟨b, T, rfl, T1.out, F1.out, B2.out⟩
    · have x1 : ((i : Int) < (n : Int)) = False := by simp; omega
      go_wp2_with fail
      go_ret2
      exact ⟨b, T, rfl, T1.out, F1.out, B2.out⟩
end Go.Proofs.Ytanhacdadgbjdaa
