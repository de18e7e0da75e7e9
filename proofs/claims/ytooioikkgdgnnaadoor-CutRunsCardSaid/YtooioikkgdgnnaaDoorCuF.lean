/-
  Chapter 25: several texts in one (merge.py: CtO CtP).
-/
import Derived.Test.YtooioikkgdgnnaaDoorCuD
import Derived.Test.YtooioikkgdgnnaaDoorCuC
namespace Go.Proofs.YtooioikkgdgnnaaDoor
section
open Go.RowKit

open Go.ChangeMaps Go.MapKept in
theorem mod_setBlock {w : World} {m : Nat} {es : Array MapEntry} {clock : Nat} (hm : w.heap[m]? = some (.map es clock)) (o : Obj) : Mod (fun g => g = m) w (setBlock w m o) :=
  ⟨rfl, rfl, rfl, by simp [setBlock], fun k _ hk => heap_setBlock_other hm o hk⟩
open Go.ChangeMaps Go.MapKept in
theorem five {w : World} {m : Nat} (hm : w.heap[m]? = some (.map #[] 0)) (f1 f2 f3 f4 f5 : Value) : ∃ M1 M2 M3 M4 M5,
    (Instr.mapUpdate 101 (.map (some m)) (.int .u8 1) f1).run Tryd.prog w = .ok () M1 ∧ (Instr.mapUpdate 101 (.map (some m)) (.int .u8 2) f2).run Tryd.prog M1 = .ok () M2 ∧
    (Instr.mapUpdate 101 (.map (some m)) (.int .u8 3) f3).run Tryd.prog M2 = .ok () M3 ∧ (Instr.mapUpdate 101 (.map (some m)) (.int .u8 4) f4).run Tryd.prog M3 = .ok () M4 ∧
    (Instr.mapUpdate 101 (.map (some m)) (.int .u8 5) f5).run Tryd.prog M4 = .ok () M5 ∧ Mod (fun g => g = m) w M5 ∧
    ∀ k : Nat, (Instr.lookup 101 (.map (some m)) (.int .u8 k) true).run Tryd.prog M5 = .ok (if k = 1 then .tuple #[f1, .bool true] else if k = 2 then .tuple #[f2, .bool true] else if k = 3 then .tuple #[f3, .bool true] else if k = 4 then .tuple #[f4, .bool true] else if k = 5 then .tuple #[f5, .bool true] else .tuple #[.nilFunc, .bool false]) M5 := by
  have ht := Tryd.underlying101
  have hk := Tryd.underlying5
  have u1 := update_u8_new ht hk 1 hm (by simp) (by simp) f1
  have k1 := heap_setBlock_same hm (.map (#[].push { key := .int .u8 1, val := f1, born := 0 }) (0 + 1))
  have u2 := update_u8_new ht hk 2 k1 (by simp) (by simp [key8, intOf]) f2
  have k2 := heap_setBlock_same k1 (.map ((#[].push { key := .int .u8 1, val := f1, born := 0 }).push { key := .int .u8 2, val := f2, born := 0 + 1 }) (0 + 1 + 1))
  have u3 := update_u8_new ht hk 3 k2 (by simp) (by simp [key8, intOf]) f3
  have k3 := heap_setBlock_same k2 (.map (((#[].push { key := .int .u8 1, val := f1, born := 0 }).push { key := .int .u8 2, val := f2, born := 0 + 1 }).push { key := .int .u8 3, val := f3, born := 0 + 1 + 1 }) (0 + 1 + 1 + 1))
  have u4 := update_u8_new ht hk 4 k3 (by simp) (by simp [key8, intOf]) f4
  have k4 := heap_setBlock_same k3 (.map ((((#[].push { key := .int .u8 1, val := f1, born := 0 }).push { key := .int .u8 2, val := f2, born := 0 + 1 }).push { key := .int .u8 3, val := f3, born := 0 + 1 + 1 }).push { key := .int .u8 4, val := f4, born := 0 + 1 + 1 + 1 }) (0 + 1 + 1 + 1 + 1))
  have u5 := update_u8_new ht hk 5 k4 (by simp) (by simp [key8, intOf]) f5
  have k5 := heap_setBlock_same k4 (.map (((((#[].push { key := .int .u8 1, val := f1, born := 0 }).push { key := .int .u8 2, val := f2, born := 0 + 1 }).push { key := .int .u8 3, val := f3, born := 0 + 1 + 1 }).push { key := .int .u8 4, val := f4, born := 0 + 1 + 1 + 1 }).push { key := .int .u8 5, val := f5, born := 0 + 1 + 1 + 1 + 1 }) (0 + 1 + 1 + 1 + 1 + 1))
  refine ⟨_, _, _, _, _, u1, u2, u3, u4, u5, ?_, fun k => ?_⟩
  · exact ((((mod_setBlock hm _).trans ((mod_setBlock k1 _).mono fun g _ h => .inl h)).trans ((mod_setBlock k2 _).mono fun g _ h => .inl h)).trans ((mod_setBlock k3 _).mono fun g _ h => .inl h)).trans ((mod_setBlock k4 _).mono fun g _ h => .inl h)
  · rw [lookup_u8 ht hk k (Tryd.zeroValue99 _) k5 (by simp)]
    simp only [Array.toList_push, List.nil_append, List.cons_append]
    by_cases e1 : k = 1
    · subst e1; rfl
    · by_cases e2 : k = 2
      · subst e2; rfl
      · by_cases e3 : k = 3
        · subst e3; rfl
        · by_cases e4 : k = 4
          · subst e4; rfl
          · by_cases e5 : k = 5
            · subst e5; rfl
            · rw [if_neg e1, if_neg e2, if_neg e3, if_neg e4, if_neg e5]
              have hno : ∀ es : List MapEntry, (∀ x ∈ es, key8 x ≠ (k : Int)) → es.findIdx? (fun x => key8 x == (k : Int)) = none := fun es h => by
                rw [List.findIdx?_eq_none_iff]
                intro x hx
                simpa using h x hx
              rw [hno _ (by
                intro x hx
                simp only [List.mem_cons, List.not_mem_nil, or_false] at hx
                rcases hx with rfl | rfl | rfl | rfl | rfl <;> simp only [key8, intOf] <;> omega)]
              rfl

set_option maxRecDepth 100000 in
theorem stmul_any {W : World} {st sb : Nat} {dv : Value} {A : Option Addr} {c : Nat} {ts : List (Value × Value × Value)} {s db : List Pb} {n : Int} (hb : W.cell? ⟨sb, 0, none⟩ = some (.pointer (some ⟨st, 0, none⟩))) (hS : Stk st dv W A c ts s) (hok : ∀ p ∈ s, p.Ok) :
    Calls Tryd.prog 71 #[.int .i64 n, .pointer (some ⟨sb, 0, none⟩)] W fun r W' => StepTo st dv W W' r (stepB db s ⟨3, n⟩) := by
  have e : stepB db s ⟨3, n⟩ = if s.length < 1 then (s, 2) else (s.take (s.length - 1) ++ [((pbAt s (s.length - 1)).mulB n).1], ((pbAt s (s.length - 1)).mulB n).2) := by
    simp [stepB, oneB]
  obtain ⟨x, hx⟩ : ∃ x, stepB db s ⟨3, n⟩ = x := ⟨_, rfl⟩
  rw [hx] at e ⊢
  have E := hid e
  clear hx e
  go_enter Tryd.func71, Tryd.ntmps71
  go_wp2_with fail
  have ht : Calls Tryd.prog 72 #[.pointer (some ⟨st, 0, none⟩), .func (.func 15) #[] #[], .int .i64 n] W fun r W' => StepTo st dv W W' r x := by
    rw [E.out]
    exact top_any (op := fun p => p.mulB n) hS hok (fun args w => by rfl) (fun F v p hp hi => mul_any hp hi)
  refine ht.mono ?_
  rintro r W' ⟨rfl, h2, h3⟩
  go_wp2_with fail
  go_ret
  exact ⟨rfl, h2, h3⟩
set_option maxRecDepth 100000 in
theorem stdiv_any {W : World} {st sb : Nat} {dv : Value} {A : Option Addr} {c : Nat} {ts : List (Value × Value × Value)} {s db : List Pb} {n : Int} (hb : W.cell? ⟨sb, 0, none⟩ = some (.pointer (some ⟨st, 0, none⟩))) (hS : Stk st dv W A c ts s) (hok : ∀ p ∈ s, p.Ok) :
    Calls Tryd.prog 73 #[.int .i64 n, .pointer (some ⟨sb, 0, none⟩)] W fun r W' => StepTo st dv W W' r (stepB db s ⟨4, n⟩) := by
  have e : stepB db s ⟨4, n⟩ = if s.length < 1 then (s, 2) else (s.take (s.length - 1) ++ [((pbAt s (s.length - 1)).divB n).1], ((pbAt s (s.length - 1)).divB n).2) := by
    simp [stepB, oneB]
  obtain ⟨x, hx⟩ : ∃ x, stepB db s ⟨4, n⟩ = x := ⟨_, rfl⟩
  rw [hx] at e ⊢
  have E := hid e
  clear hx e
  go_enter Tryd.func73, Tryd.ntmps73
  go_wp2_with fail
  have ht : Calls Tryd.prog 72 #[.pointer (some ⟨st, 0, none⟩), .func (.func 17) #[] #[], .int .i64 n] W fun r W' => StepTo st dv W W' r x := by
    rw [E.out]
    exact top_any (op := fun p => p.divB n) hS hok (fun args w => by rfl) (fun F v p hp hi => div_any hp hi)
  refine ht.mono ?_
  rintro r W' ⟨rfl, h2, h3⟩
  go_wp2_with fail
  go_ret
  exact ⟨rfl, h2, h3⟩
set_option maxRecDepth 100000 in
theorem stwea_any {W : World} {st sb : Nat} {dv : Value} {A : Option Addr} {c : Nat} {ts : List (Value × Value × Value)} {s db : List Pb} {n : Int} (hb : W.cell? ⟨sb, 0, none⟩ = some (.pointer (some ⟨st, 0, none⟩))) (hS : Stk st dv W A c ts s) (hok : ∀ p ∈ s, p.Ok) :
    Calls Tryd.prog 74 #[.int .i64 n, .pointer (some ⟨sb, 0, none⟩)] W fun r W' => StepTo st dv W W' r (stepB db s ⟨5, n⟩) := by
  have e : stepB db s ⟨5, n⟩ = if s.length < 1 then (s, 2) else (s.take (s.length - 1) ++ [((pbAt s (s.length - 1)).weakB n).1], ((pbAt s (s.length - 1)).weakB n).2) := by
    simp [stepB, oneB]
  obtain ⟨x, hx⟩ : ∃ x, stepB db s ⟨5, n⟩ = x := ⟨_, rfl⟩
  rw [hx] at e ⊢
  have E := hid e
  clear hx e
  go_enter Tryd.func74, Tryd.ntmps74
  go_wp2_with fail
  have ht : Calls Tryd.prog 72 #[.pointer (some ⟨st, 0, none⟩), .func (.func 19) #[] #[], .int .i64 n] W fun r W' => StepTo st dv W W' r x := by
    rw [E.out]
    exact top_any (op := fun p => p.weakB n) hS hok (fun args w => by rfl) (fun F v p hp hi => weak_any hp hi)
  refine ht.mono ?_
  rintro r W' ⟨rfl, h2, h3⟩
  go_wp2_with fail
  go_ret
  exact ⟨rfl, h2, h3⟩
set_option maxRecDepth 100000 in
set_option maxHeartbeats 4000000 in
theorem do_any {W : World} {st : Nat} {A D : Option Addr} {c dn dc : Nat} {ts : List (Value × Value × Value)} {s db : List Pb} {n : Int} {kd : Nat} (hS : Stk st (.slice D dn dc) W A c ts s)
    (hd : PsRd W (fun g => g < st) (fun g => g < st) D dn dc db) (hok : ∀ p ∈ s, p.Ok) (hlen : s.length ≤ 1000) :
    Calls Tryd.prog 49 #[.pointer (some ⟨st, 0, none⟩), .agg #[.int .u8 kd, .int .i64 n]] W fun r W' => StepTo st (.slice D dn dc) W W' r (stepB db s ⟨kd, n⟩) := by
  have hmm := @run_makeMap Tryd.prog
  obtain ⟨x, hx⟩ : ∃ x, stepB db s ⟨kd, n⟩ = x := ⟨_, rfl⟩
  rw [hx]
  have Hx := hid hx
  have hlt := hS.lt
  obtain ⟨kv, hkv⟩ : ∃ v : Int, (kd : Int) = v := ⟨_, rfl⟩
  rw [hkv]
  obtain ⟨X0, hX0, bX0, k0, s0⟩ := alloc_step W (.cells #[.pointer (some ⟨st, 0, none⟩)] 71)
  obtain ⟨X1, hX1, bX1, k1, s1⟩ := alloc_step X0 (.cells #[.int .u8 kv, .int .i64 n] 44)
  obtain ⟨X2, hX2, bX2, k2, s2⟩ := alloc_step X1 (.map #[] 0)
  rw [s1, s0] at k2
  rw [s0] at k1
  obtain ⟨M1, M2, M3, M4, M5, u1, u2, u3, u4, u5, mm, hlk⟩ := five k2 (.func (.func 69) #[] #[.pointer (some ⟨W.heap.size, 0, none⟩)]) (.func (.func 70) #[] #[.pointer (some ⟨W.heap.size, 0, none⟩)])
    (.func (.func 71) #[] #[.pointer (some ⟨W.heap.size, 0, none⟩)]) (.func (.func 73) #[] #[.pointer (some ⟨W.heap.size, 0, none⟩)]) (.func (.func 74) #[] #[.pointer (some ⟨W.heap.size, 0, none⟩)])
  have q0 := box1 ((mm.block _ (lt_of_block (keep_blk (keep_blk k0 bX1) bX2)) (by omega)).trans (keep_blk (keep_blk k0 bX1) bX2))
  have q1 := box2 ((mm.block _ (lt_of_block (keep_blk k1 bX2)) (by omega)).trans (keep_blk k1 bX2))
  have BM : Below W.heap.size W M5 := below_mod (bX0.trans ((bX1.mono bX0.size).trans (bX2.mono (Nat.le_trans bX0.size bX1.size)))) (Nat.le_trans bX0.size (Nat.le_trans bX1.size bX2.size)) mm fun g hg => by omega
  have hSM := hid (hS.below BM)
  have hdM := hid (hd.below BM)
  have bM := hid (BM.mono (Nat.le_of_lt hlt))
  have hsr : ¬ row (.slice A s.length c) W.heap.size := fun e => by
    obtain ⟨_, cur, hg⟩ := hS.own.row e
    have := lt_of_block hg
    omega
  obtain ⟨q1a, q1b⟩ := q1
  have fin : ∀ (W' : World) (r : Ending), StepTo st (.slice D dn dc) M5 W' r x → (∃ v, r = .returned v) ∧ StepTo st (.slice D dn dc) W W' r x := fun _ _ h => ⟨⟨_, h.1⟩, h.1, h.2.1, bM.out.trans h.2.2⟩
  have Fin := hid fin
  rw [← hX2, ← hX1, ← hX0] at u1
  clear hx hX0 hX1 hX2 bX0 bX1 bX2 k0 k1 k2 mm BM hS hd s0 s1 s2 fin hlt
  by_cases e1 : kd = 1
  · subst e1
    have hl := hlk 1
    rw [hkv] at hl
    simp only [if_true] at hl
    clear hlk hkv
    go_enter Tryd.func49, Tryd.ntmps49
    go_wp2_with fail
    refine (push_any q0 hSM.out hdM.out hsr hlen).mono ?_
    rw [Hx.out]
    rintro r W' h
    obtain ⟨rfl, h2, h3⟩ := (Fin.out _ _ h).2
    have h4 := hid h2
    have h5 := hid h3
    clear h h2 h3
    go_wp2_with fail
    go_ret
    exact ⟨rfl, h4.out, h5.out⟩
  by_cases e2 : kd = 2
  · subst e2
    have hl := hlk 2
    rw [hkv] at hl
    simp only [(by decide : ¬ (2 = 1)), if_false, if_true] at hl
    clear hlk hkv
    go_enter Tryd.func49, Tryd.ntmps49
    go_wp2_with fail
    refine (add2_any (db := db) q0 hSM.out hok hsr hlen).mono ?_
    rw [Hx.out]
    rintro r W' h
    obtain ⟨rfl, h2, h3⟩ := (Fin.out _ _ h).2
    have h4 := hid h2
    have h5 := hid h3
    clear h h2 h3
    go_wp2_with fail
    go_ret
    exact ⟨rfl, h4.out, h5.out⟩
  by_cases e3 : kd = 3
  · subst e3
    have hl := hlk 3
    rw [hkv] at hl
    simp only [(by decide : ¬ (3 = 1)), (by decide : ¬ (3 = 2)), if_false, if_true] at hl
    clear hlk hkv
    go_enter Tryd.func49, Tryd.ntmps49
    go_wp2_with fail
    refine (stmul_any (db := db) q0 hSM.out hok).mono ?_
    rw [Hx.out]
    rintro r W' h
    obtain ⟨rfl, h2, h3⟩ := (Fin.out _ _ h).2
    have h4 := hid h2
    have h5 := hid h3
    clear h h2 h3
    go_wp2_with fail
    go_ret
    exact ⟨rfl, h4.out, h5.out⟩
  by_cases e4 : kd = 4
  · subst e4
    have hl := hlk 4
    rw [hkv] at hl
    simp only [(by decide : ¬ (4 = 1)), (by decide : ¬ (4 = 2)), (by decide : ¬ (4 = 3)), if_false, if_true] at hl
    clear hlk hkv
    go_enter Tryd.func49, Tryd.ntmps49
    go_wp2_with fail
    refine (stdiv_any (db := db) q0 hSM.out hok).mono ?_
    rw [Hx.out]
    rintro r W' h
    obtain ⟨rfl, h2, h3⟩ := (Fin.out _ _ h).2
    have h4 := hid h2
    have h5 := hid h3
    clear h h2 h3
    go_wp2_with fail
    go_ret
    exact ⟨rfl, h4.out, h5.out⟩
  by_cases e5 : kd = 5
  · subst e5
    have hl := hlk 5
    rw [hkv] at hl
    simp only [(by decide : ¬ (5 = 1)), (by decide : ¬ (5 = 2)), (by decide : ¬ (5 = 3)), (by decide : ¬ (5 = 4)), if_false, if_true] at hl
    clear hlk hkv
    go_enter Tryd.func49, Tryd.ntmps49
    go_wp2_with fail
    refine (stwea_any (db := db) q0 hSM.out hok).mono ?_
    rw [Hx.out]
    rintro r W' h
    obtain ⟨rfl, h2, h3⟩ := (Fin.out _ _ h).2
    have h4 := hid h2
    have h5 := hid h3
    clear h h2 h3
    go_wp2_with fail
    go_ret
    exact ⟨rfl, h4.out, h5.out⟩
  · have hl := hlk kd
    rw [hkv] at hl
    simp only [e1, e2, e3, e4, e5, if_false] at hl
    obtain rfl : x = (s, 2) := by
      rw [← Hx.out]
      have h6 : kd < 3 ∨ 5 < kd := by omega
      simp [stepB, e1, e2, h6]
    clear hlk hkv Hx hdM Fin hok e1 e2 e3 e4 e5
    go_enter Tryd.func49, Tryd.ntmps49
    go_wp2_with fail
    go_ret
    exact ⟨rfl, fun h => absurd (show (2 : Int) = 0 from h) (by decide), bM.out⟩
end

section
open Go.RowKit

theorem run1_any {w : World} {F : Nat → Prop} {v : Value} {p : Pb} (hp : PbRd w F v p) (hi : ∀ k ∈ p.coefs, I64 k) :
    Calls Tryd.prog 48 #[v] w fun r w' => r = .returned (.bool (!p.ok)) ∧ Below w.heap.size w w' := by
  have Hp := hid hp
  obtain ⟨⟨A, n, c, B, m, d, rfl, _, _⟩, _⟩ := hp
  obtain ⟨X, hX, bX, kX, sX⟩ := alloc_step w (.cells #[.slice A n c, .slice B m d, .int .i64 p.bound] 24)
  have HX := hid hX
  have BX := hid bX
  clear hX bX kX sX
  go_enter Tryd.func48, Tryd.ntmps48
  go_wp2_with fail
  rw [HX.out]
  refine (valid_any (Hp.out.below BX.out) hi).mono ?_
  rintro r w' ⟨rfl, b⟩
  have B2 := hid (BX.out.trans (b.mono BX.out.size))
  clear b
  go_wp2_with fail
  go_ret
  exact ⟨rfl, B2.out⟩
set_option maxRecDepth 100000 in
set_option maxHeartbeats 1000000 in
theorem indexPb_any {w : World} {F G : Nat → Prop} {D : Option Addr} {dn dc : Nat} {db : List Pb} (hd : PsRd w F G D dn dc db) (hi : ∀ p ∈ db, ∀ k ∈ p.coefs, I64 k) :
    Calls Tryd.prog 68 #[.slice D dn dc, .func (.func 48) #[] #[]] w fun r w' => (∃ i : Int, r = .returned (.int .i64 i) ∧ decide (0 ≤ i) = !(db.all Pb.ok)) ∧ Below w.heap.size w w' := by
  have hdl : db.length = dn := by obtain ⟨_, _, _, h⟩ := hd; exact h
  have hnb : dn ≤ 9223372036854775807 := by obtain ⟨_, h, _⟩ := hd; have := h.len; unfold maxLen at this; omega
  have Hd := hid hd
  have Hi := hid hi
  clear hd hi
  go_enter Tryd.func68, Tryd.ntmps68
  go_wp2_with fail
  go_loopw [8] (fun iv W => ∃ i : Nat, i ≤ dn ∧ iv = .int .i64 i ∧ Hid (Below w.heap.size w W) ∧ Hid (∀ p ∈ db.take i, p.ok = true)) (fun iv _ => dn - (intOf iv).toNat)
  case atStart => exact ⟨0, by omega, rfl, Below.refl _ _, fun p hp => by simp at hp⟩
  case round =>
    obtain ⟨i, hi', rfl, HB, Hno⟩ := hrel
    by_cases hlt : i < dn
    · have x1 : (i : Int) < (dn : Int) := by omega
      obtain ⟨g, o, p, A1, n1, c1, A2, n2, c2, rfl, _, _, hq, e0, e1, e2, hp⟩ := (Hd.out.below HB.out).cells hlt
      have hmem : p ∈ db := List.mem_of_getElem? hq
      have Hq := hid hq
      have Hp := hid hp
      have hii := hid (Hi.out p hmem)
      clear hq hp
      go_wp2_with fail
      refine (run1_any Hp.out hii.out).mono ?_
      rintro r w1 ⟨rfl, b1⟩
      have B1 := hid (HB.out.trans (b1.mono HB.out.size))
      clear b1 e0 e1 e2
      by_cases hok : p.ok = true
      · rw [hok]
        have Hn2 : Hid (∀ q ∈ db.take (i + 1), q.ok = true) := hid fun q hq2 => by
          rw [List.take_add_one, Hq.out] at hq2
          rcases List.mem_append.1 hq2 with h | h
          · exact Hno.out q h
          · simp at h; rw [h]; exact hok
        clear hok
        go_wp2_with fail
        go_roundw
        case rel => exact ⟨i + 1, by omega, by go_num, B1, Hn2⟩
        case measure => simp [intOf]; omega
      · have hf : p.ok = false := by simpa using hok
        rw [hf]
        have hall : db.all Pb.ok = false := by
          rw [← Bool.not_eq_true, List.all_eq_true]
          exact fun h => hok (h p hmem)
        have Hall := hid hall
        clear hall hf hok
        go_wp2_with fail
        go_ret
        refine ⟨⟨i, rfl, ?_⟩, B1.out⟩
        rw [Hall.out]
        simp
    · obtain rfl : i = dn := by omega
      have hall : db.all Pb.ok = true := by
        rw [List.all_eq_true]
        have := Hno.out
        rw [List.take_of_length_le (by omega)] at this
        exact this
      have Hall := hid hall
      clear hall
      go_wp2_with fail
      go_ret
      refine ⟨⟨-1, rfl, ?_⟩, HB.out⟩
      rw [Hall.out]
      rfl
set_option maxRecDepth 100000 in
theorem containsPb_any {w : World} {F G : Nat → Prop} {D : Option Addr} {dn dc : Nat} {db : List Pb} (hd : PsRd w F G D dn dc db) (hi : ∀ p ∈ db, ∀ k ∈ p.coefs, I64 k) :
    Calls Tryd.prog 47 #[.slice D dn dc, .func (.func 48) #[] #[]] w fun r w' => r = .returned (.bool (!(db.all Pb.ok))) ∧ Below w.heap.size w w' := by
  go_enter Tryd.func47, Tryd.ntmps47
  go_wp2_with fail
  refine (indexPb_any hd hi).mono ?_
  rintro r w' ⟨⟨i, rfl, h⟩, b⟩
  have H := hid h
  clear h
  go_wp2_with fail
  go_ret
  refine ⟨?_, b⟩
  rw [← H.out]
  simp
/-- The cells of operations. -/
def ocells (os : List Cop) : List Value := os.flatMap fun o => [.int .u8 o.kind, .int .i64 o.n]
theorem ocells_get : ∀ (os : List Cop) (i : Nat) (p : Cop), os[i]? = some p → (ocells os)[i * 2]? = some (.int .u8 p.kind) ∧ (ocells os)[i * 2 + 1]? = some (.int .i64 p.n)
  | q :: os, 0, p, h => by
    obtain rfl := Option.some.inj h
    exact ⟨rfl, rfl⟩
  | q :: os, i + 1, p, h => by
    obtain ⟨h1, h2⟩ := ocells_get os i p (by simpa using h)
    have e : ocells (q :: os) = .int .u8 q.kind :: .int .i64 q.n :: ocells os := rfl
    rw [e, show (i + 1) * 2 = i * 2 + 1 + 1 by omega]
    simp only [List.getElem?_cons_succ]
    exact ⟨h1, h2⟩
theorem ocells_len (os : List Cop) : (ocells os).length = os.length * 2 := by
  induction os with
  | nil => rfl
  | cons p os ih => simp only [ocells, List.flatMap_cons, List.length_append, List.length_cons, List.length_nil] at ih ⊢; omega
theorem cut_ok {ls ks : List Int} {b : Int} (he : (normed ls ks b).2 = 0) : (normed ls ks b).1.Ok := by
  by_cases h : normOk ls ks b = true
  · exact (Pb.ok_iff _).1 (norm_valid h he)
  · rw [normed_sg, if_pos (by simpa using h)] at he
    exact absurd he (by decide)
theorem step_ok {db s : List Pb} {op : Cop} (hdb : ∀ c ∈ db, c.Ok) (hs : ∀ c ∈ s, c.Ok) (he : (stepB db s op).2 = 0) : ∀ c ∈ (stepB db s op).1, c.Ok := by
  refine step_keeps (p := Pb.Ok) hdb hs he (fun a b ha hb he => ?_) (fun a n ha he => ?_) (fun a n ha he => ?_) fun a n ha he => ?_
  · rw [addB_is ha hb] at he ⊢; exact cut_ok he
  · obtain ⟨_, h1, h2, h3⟩ := mul_says he
    rw [mulB_is ha h1 h2 h3] at he ⊢; exact cut_ok he
  · obtain ⟨_, h1, h2⟩ := div_says he
    rw [divB_is ha h1 h2] at he ⊢; exact cut_ok he
  · obtain ⟨_, h1, h2⟩ := weak_says he
    rw [weakB_is ha h1 h2] at he ⊢
    split
    · rename_i h; rw [if_pos h] at he; exact cut_ok he
    · exact ha
theorem step_len {db s : List Pb} {op : Cop} : (stepB db s op).1.length ≤ s.length + 1 := by
  unfold stepB
  split
  · split <;> simp
  · split
    · split
      · simp
      · simp <;> omega
    · split
      · simp
      · simp <;> omega

set_option maxRecDepth 100000 in
set_option maxHeartbeats 4000000 in
theorem run_any {w : World} {F G H : Nat → Prop} {A D : Option Addr} {n cA dn dc : Nat} {os : List Cop} {db : List Pb} (ho : Rd w F 2 (.slice A n cA) n (ocells os)) (hon : os.length = n) (hd : PsRd w G H D dn dc db) (hi : ∀ p ∈ db, ∀ k ∈ p.coefs, I64 k) :
    Calls Tryd.prog 21 #[.slice A n cA, .slice D dn dc] w fun r w' => Gives w w' r (runB os db) := by
  obtain ⟨R, hR⟩ : ∃ R, runB os db = R := ⟨_, rfl⟩
  rw [hR]
  have HR := hid hR
  have hnm : n ≤ 9223372036854775807 := by have := ho.len; unfold maxLen at this; omega
  obtain ⟨ob, hob⟩ : ∃ o, w.heap.size = o := ⟨_, rfl⟩
  have ho0 := hid (ho.mono (G := fun g => g < ob) fun g hg _ => by omega)
  have hd0 := hid (hd.mono (F' := fun g => g < ob) (G' := fun g => g < ob) (fun g hg _ => by omega) fun g hg _ => by omega)
  have Hi := hid hi
  obtain ⟨X0, hX0, bX0, k0, s0⟩ := alloc_step w (.cells #[.slice none 0 0, .slice none 0 0, .int .i64 0] 24)
  have HX0 := hid hX0
  have KO := hid k0
  rw [hob] at KO s0
  have B0 := hid bX0
  rw [hob] at B0
  clear hX0 bX0 k0 hR ho hd hi
  by_cases hlen : 1000 < n
  · obtain rfl : R = (⟨[], [], 0⟩, 2) := by rw [← HR.out]; unfold runB; rw [if_pos (by omega)]; rfl
    have x1 : (n : Int) > 1000 := by omega
    obtain ⟨t0, t1, t2⟩ := box3 KO.out
    obtain ⟨f0, f1, f2⟩ := froz3 KO.out
    clear HR hlen
    go_enter Tryd.func21, Tryd.ntmps21
    go_upto_region 2 with fail
    rw [HX0.out]
    go_wp2_with fail
    obtain ⟨u0, u1, u2, m3⟩ := set3 t0 t1 t2 (.slice none 0 0) (.slice none 0 0) (.int .i64 0)
    exact bodyPost_ret (v := .tuple #[.agg #[.slice none 0 0, .slice none 0 0, .int .i64 0], .int .i64 2]) (by simp [results, Tryd.f21, go_sem, u0, u1, u2]) rfl ⟨⟨_, rfl, PbRd.zero _ _⟩, by rw [hob]; exact below_mod B0.out (by omega) m3 fun g hg => by omega⟩
  · have x1 : ¬ ((n : Int) > 1000) := by omega
    go_enter Tryd.func21, Tryd.ntmps21
    go_wp2_with fail
    rw [HX0.out]
    refine (containsPb_any (hd0.out.below (hob ▸ B0.out)) Hi.out).mono ?_
    rintro r W1 ⟨rfl, b1⟩
    have KO1 := hid (keep_blk KO.out b1)
    have B1 := hid (B0.out.trans (b1.mono (by omega)))
    have s1 := b1.size
    clear b1 KO B0 HX0
    by_cases hall : db.all Pb.ok = true
    · rw [hall]
      have hdok : ∀ p ∈ db, p.Ok := fun p hp => (Pb.ok_iff p).1 (List.all_eq_true.1 hall p hp)
      have Hdok := hid hdok
      have hRf : runB os db = runFrom db os [] := by unfold runB; rw [if_neg (by rw [hall]; simp; omega)]
      rw [HR.out] at hRf
      have HR2 := hid hRf
      clear hall hdok hRf HR
      go_wp2_with fail
      obtain ⟨X2, hX2, bX2, k2, s2⟩ := alloc_step W1 (.cells #[.slice none 0 0, .slice D dn dc] 73)
      rw [hX2]
      obtain ⟨st, hst⟩ : ∃ z, W1.heap.size = z := ⟨_, rfl⟩
      rw [hst] at k2 s2 s1 ⊢
      have S2 : Stk st (.slice D dn dc) X2 none 0 [] [] := ⟨(box2 k2).1, (box2 k2).2, by simp [World.frozen?, k2], Own.nil _ _ _ _, Ps.nil _ _⟩
      have HS2 := hid S2
      have KO2 := hid (keep_blk KO1.out bX2)
      have B2 := hid (B1.out.trans (bX2.mono (by omega)))
      have hd2 := hid ((hd0.out.below (hob ▸ B2.out)).mono (F' := fun g => g < st) (G' := fun g => g < st) (fun g _ hg => by omega) fun g _ hg => by omega)
      have ho2 := hid (ho0.out.below (hob ▸ B2.out))
      have hobst : ob < st := by omega
      clear hX2 bX2 k2 S2 KO1 B1 hst hd0 ho0
      go_loopw [23] (fun iv W => ∃ (i : Nat) (A' : Option Addr) (c' : Nat) (ts : List (Value × Value × Value)) (s : List Pb), i ≤ n ∧ iv = .int .i64 i ∧ Hid (Stk st (.slice D dn dc) W A' c' ts s) ∧ Hid (∀ p ∈ s, p.Ok) ∧ s.length ≤ i ∧ Hid (R = runFrom db (os.drop i) s) ∧ Hid (Below st X2 W)) (fun iv _ => n - (intOf iv).toNat)
      case atStart => exact ⟨0, none, 0, [], [], by omega, rfl, HS2, hid (fun p hp => by cases hp), by simp, HR2, Below.refl _ _⟩
      case round =>
        obtain ⟨i, A', c', ts, s, hi', rfl, HS, Hok, hsl, HRf, HB⟩ := hrel
        have sw := HB.out.size
        have hdw := hid (hd2.out.mod (H := fun g => st ≤ g) ⟨HB.out.os, HB.out.tape, HB.out.output, HB.out.size, fun k _ hk => HB.out.block k (by omega)⟩ (fun g _ hg hk => by omega) fun g _ hg hk => by omega)
        have how := hid (ho2.out.mod (G := fun g => st ≤ g) ⟨HB.out.os, HB.out.tape, HB.out.output, HB.out.size, fun k _ hk => HB.out.block k (by omega)⟩ fun g _ hg hk => by omega)
        have kow := hid ((HB.out.block ob hobst).trans KO2.out)
        by_cases hlt : i < n
        · have y1 : (i : Int) < (n : Int) := by omega
          obtain ⟨_, A2, c2, hv, _, _, hA⟩ := how.out
          injection hv with hv1 _ hv3
          subst hv1
          subst hv3
          obtain ⟨go, oo, rfl, hgo, hgo2, hcell⟩ := hA (by omega)
          have hoi : os[i]? = some (os[i]'(by omega)) := List.getElem?_eq_getElem (by omega)
          obtain ⟨kd, on, hop⟩ : ∃ kd on, (os[i]'(by omega)) = ⟨kd, on⟩ := ⟨_, _, rfl⟩
          rw [hop] at hoi
          obtain ⟨e0, e1⟩ := ocells_get os i _ hoi
          have e0 := hcell _ _ e0
          have e1 := hcell _ _ e1
          rw [← Nat.add_assoc] at e1
          have hstep := HRf.out
          rw [runFrom_drop (by omega), hop] at hstep
          have Hstep := hid hstep
          obtain ⟨Z, hZ⟩ : ∃ z, wr.heap.size = z := ⟨_, rfl⟩
          obtain ⟨X3, hX3, bX3, k3, s3⟩ := alloc_step wr (.cells #[.int .u8 kd, .int .i64 on] 44)
          have HX3 := hid hX3
          have HS3 := hid (HS.out.below bX3)
          have hd3 := hid (hdw.out.below bX3)
          have B3 := hid (HB.out.trans (bX3.mono (by have := HS.out.lt; omega)))
          clear hstep hop hoi hA hcell how HRf hX3 bX3 k3 s3 HS
          go_wp2_with fail
          rw [HX3.out]
          refine (do_any HS3.out hd3.out Hok.out (by omega)).mono ?_
          rintro r W4 ⟨rfl, h4, b4⟩
          have B4 := hid (B3.out.trans b4)
          have kow4 := hid ((B4.out.block ob hobst).trans KO2.out)
          have sz4 := b4.size
          obtain ⟨x, hx⟩ : ∃ x, stepB db s ⟨kd, on⟩ = x := ⟨_, rfl⟩
          have hok4 := fun he => step_ok (op := ⟨kd, on⟩) Hdok.out Hok.out he
          have hln := step_len (db := db) (s := s) (op := ⟨kd, on⟩)
          rw [hx] at h4 hok4 hln ⊢
          have hst4 := Hstep.out
          rw [hx] at hst4
          by_cases he : x.2 = 0
          · obtain ⟨A4, c4, ts4, hS4⟩ := h4 he
            have HS4 := hid hS4
            have Hok4 := hid (hok4 he)
            rw [if_pos he] at hst4
            have HR4 := hid hst4
            rw [he]
            clear h4 hok4 hx he hS4 hst4 b4 e0 e1 hd3 B3 HS3 kow hdw Hstep
            go_wp2_with fail
            go_roundw
            case rel => exact ⟨i + 1, A4, c4, ts4, x.1, by omega, by go_num, HS4, Hok4, by omega, HR4, B4⟩
            case measure => simp [intOf]; omega
          · rw [if_neg he] at hst4
            have hne : (x.2 != 0) = true := by simp [he]
            subst hst4
            obtain ⟨t0, t1, t2⟩ := box3 kow4.out
            obtain ⟨f0, f1, f2⟩ := froz3 kow4.out
            clear h4 hok4 hx he b4 e0 e1 hd3 B3 HS3 kow hdw Hstep HR2
            go_wp2_with fail
            obtain ⟨u0, u1, u2, m3⟩ := set3 t0 t1 t2 (.slice none 0 0) (.slice none 0 0) (.int .i64 0)
            exact bodyPost_ret (v := .tuple #[.agg #[.slice none 0 0, .slice none 0 0, .int .i64 0], .int .i64 x.2]) (by simp [results, Tryd.f21, go_sem, u0, u1, u2]) rfl ⟨⟨_, rfl, PbRd.zero _ _⟩, by rw [hob]; exact below_mod (B2.out.trans (B4.out.mono (by omega))) (by have := B4.out.size; omega) m3 fun g hg => by omega⟩
        · have hin : i = n := by omega
          have hRn := HRf.out
          rw [hin, List.drop_of_length_le (by omega)] at hRn
          have r0 := HS.out.c0
          have BWR := hid (B2.out.trans (HB.out.mono (by omega)))
          have y1 : ¬ ((i : Int) < (n : Int)) := by omega
          clear hin HRf hdw how HR2
          by_cases h1 : s.length = 1
          · have HS1 := hid HS.out
            obtain ⟨g, A1, n1, c1, A2, n2, c2, rfl, hg1, hg2, hrow, e0, e1, e2, _, _, _, hp⟩ := HS.out.elem (k := 0) (by omega)
            rw [Nat.zero_mul] at e0
            rw [Nat.zero_mul, Nat.zero_add] at e1 e2
            obtain ⟨p, hpp⟩ : ∃ p, pbAt s 0 = p := ⟨_, rfl⟩
            have hpok := Hok.out _ (pbAt_mem (s := s) (i := 0) (by omega))
            obtain rfl : R = (p, 0) := by rw [hRn]; unfold runFrom; rw [if_pos h1, hpp]
            rw [hpp] at hp e2 hpok
            have hpl := hid hp.lits
            have hpc := hid hp.cos
            have Hpb := hid hp.bnd
            have hn1 : n1 ≤ 1000000 := by
              have h1 := hpok.few
              have h2 := hp.lits.1
              simp [ints_length] at h2
              omega
            have hn2 : n2 ≤ 1000000 := by
              have h1 := hpok.few
              have h3 := hpok.len
              have h2 := hp.cos.1
              simp [ints_length] at h2
              omega
            have hk1 : (s.length : Int) = 1 := by omega
            have hltst := HS1.out.lt
            have KO := kow
            clear hRn hrow hp hpp hpok HS Hok
            go_upto_region 13 with fail
            -- RUN
            refine wp_region_held_drew (S := fun w' => w'.cell? ⟨st, 0, none⟩ = some (.slice (some ⟨g, 0, none⟩) s.length c') ∧ w'.cell? ⟨g, 0, none⟩ = some (.slice A1 n1 c1) ∧ w'.cell? ⟨g, 1, none⟩ = some (.slice A2 n2 c2) ∧ w'.cell? ⟨g, 2, none⟩ = some (.int .i64 p.bound) ∧ Hid (Mod (fun b => b = ob) wr w')) (by kernel_rfl) ⟨r0, e0, e1, e2, hid (Mod.refl _ _).drew⟩ (fun hHeld => ?_)
            have kO : wr.drew.heap[ob]? = _ := KO.out
            have hpl := hid (hpl.out.below (Bl.drew (Below.refl _ _)))
            have hpc := hid (hpc.out.below (Bl.drew (Below.refl _ _)))
            obtain ⟨WD, hWD⟩ : ∃ W, wr.drew = W := ⟨_, rfl⟩
            rw [hWD] at hHeld kO hpl hpc ⊢
            clear hWD KO
            have KO := hid kO
            clear kO
            refine wpAnyH_take (i := 0) (oi := ⟨_, _, _, _, _, _⟩) (v := ?_) rfl (by kernel_rfl) (by kernel_rfl) (by kernel_rfl) (fun _ _ _ h => h) (Or.inl ⟨by rfl, ?_⟩) (by assumption) ?_
            rotate_left
            · intro w hSw
              try dsimp only at hSw
              go_simp
              try with_reducible rfl
            simp only [Act.put, List.setIfInBounds_toArray, List.set_cons_zero, List.set_cons_succ]
            refine wpAnyH_take (i := 8) (oi := ⟨_, _, _, _, _, _⟩) (v := ?_) rfl (by kernel_rfl) (by kernel_rfl) (by kernel_rfl) (fun _ _ _ h => h) (Or.inl ⟨by rfl, ?_⟩) (by assumption) ?_
            rotate_left
            · intro w hSw
              try dsimp only at hSw
              go_simp
              try with_reducible rfl
            simp only [Act.put, List.setIfInBounds_toArray, List.set_cons_zero, List.set_cons_succ]
            refine wpAnyH_take (i := 16) (oi := ⟨_, _, _, _, _, _⟩) (v := ?_) rfl (by kernel_rfl) (by kernel_rfl) (by kernel_rfl) (fun _ _ _ h => h) (Or.inl ⟨by rfl, ?_⟩) (by assumption) ?_
            rotate_left
            · intro w hSw
              try dsimp only at hSw
              go_simp
              try with_reducible rfl
            simp only [Act.put, List.setIfInBounds_toArray, List.set_cons_zero, List.set_cons_succ]
            refine wpAnyH_take (i := 1) (oi := ⟨_, _, _, _, _, _⟩) (v := ?_) rfl (by kernel_rfl) (by kernel_rfl) (by kernel_rfl) (fun _ _ _ h => h) (Or.inl ⟨by rfl, ?_⟩) (by assumption) ?_
            rotate_left
            · intro w hSw
              try dsimp only at hSw
              go_simp
              try with_reducible rfl
            simp only [Act.put, List.setIfInBounds_toArray, List.set_cons_zero, List.set_cons_succ]
            refine wpAnyH_take (i := 9) (oi := ⟨_, _, _, _, _, _⟩) (v := ?_) rfl (by kernel_rfl) (by kernel_rfl) (by kernel_rfl) (fun _ _ _ h => h) (Or.inl ⟨by rfl, ?_⟩) (by assumption) ?_
            rotate_left
            · intro w hSw
              try dsimp only at hSw
              go_simp
              try with_reducible rfl
            simp only [Act.put, List.setIfInBounds_toArray, List.set_cons_zero, List.set_cons_succ]
            refine wpAnyH_take (i := 17) (oi := ⟨_, _, _, _, _, _⟩) (v := ?_) rfl (by kernel_rfl) (by kernel_rfl) (by kernel_rfl) (fun _ _ _ h => h) (Or.inl ⟨by rfl, ?_⟩) (by assumption) ?_
            rotate_left
            · intro w hSw
              try dsimp only at hSw
              go_simp
              try with_reducible rfl
            simp only [Act.put, List.setIfInBounds_toArray, List.set_cons_zero, List.set_cons_succ]
            refine wpAnyH_take (i := 2) (oi := ⟨_, _, _, _, _, _⟩) (v := ?_) rfl (by kernel_rfl) (by kernel_rfl) (by kernel_rfl) (fun _ _ _ h => h) (Or.inl ⟨by rfl, ?_⟩) (by assumption) ?_
            rotate_left
            · intro w hSw
              try dsimp only at hSw
              go_simp
              try with_reducible rfl
            simp only [Act.put, List.setIfInBounds_toArray, List.set_cons_zero, List.set_cons_succ]
            refine wpAnyH_take (i := 10) (oi := ⟨_, _, _, _, _, _⟩) (v := ?_) rfl (by kernel_rfl) (by kernel_rfl) (by kernel_rfl) (fun _ _ _ h => h) (Or.inl ⟨by rfl, ?_⟩) (by assumption) ?_
            rotate_left
            · intro w hSw
              try dsimp only at hSw
              go_simp
              try with_reducible rfl
            simp only [Act.put, List.setIfInBounds_toArray, List.set_cons_zero, List.set_cons_succ]
            refine wpAnyH_take (i := 18) (oi := ⟨_, _, _, _, _, _⟩) (v := ?_) rfl (by kernel_rfl) (by kernel_rfl) (by kernel_rfl) (fun _ _ _ h => h) (Or.inl ⟨by rfl, ?_⟩) (by assumption) ?_
            rotate_left
            · intro w hSw
              try dsimp only at hSw
              go_simp
              try with_reducible rfl
            simp only [Act.put, List.setIfInBounds_toArray, List.set_cons_zero, List.set_cons_succ]
            refine wpAnyH_take (i := 3) (oi := ⟨_, _, _, _, _, _⟩) (v := ?_) rfl (by kernel_rfl) (by kernel_rfl) (by kernel_rfl) (fun _ _ _ h => h) (Or.inl ⟨by rfl, ?_⟩) (by assumption) ?_
            rotate_left
            · intro w hSw
              try dsimp only at hSw
              go_simp
              try with_reducible rfl
            simp only [Act.put, List.setIfInBounds_toArray, List.set_cons_zero, List.set_cons_succ]
            refine wpAnyH_take (i := 11) (oi := ⟨_, _, _, _, _, _⟩) (v := ?_) rfl (by kernel_rfl) (by kernel_rfl) (by kernel_rfl) (fun _ _ _ h => h) (Or.inl ⟨by rfl, ?_⟩) (by assumption) ?_
            rotate_left
            · intro w hSw
              try dsimp only at hSw
              go_simp
              try with_reducible rfl
            simp only [Act.put, List.setIfInBounds_toArray, List.set_cons_zero, List.set_cons_succ]
            refine wpAnyH_take (i := 19) (oi := ⟨_, _, _, _, _, _⟩) (v := ?_) rfl (by kernel_rfl) (by kernel_rfl) (by kernel_rfl) (fun _ _ _ h => h) (Or.inl ⟨by rfl, ?_⟩) (by assumption) ?_
            rotate_left
            · intro w hSw
              try dsimp only at hSw
              go_simp
              try with_reducible rfl
            simp only [Act.put, List.setIfInBounds_toArray, List.set_cons_zero, List.set_cons_succ]
            refine wpAnyH_take (i := 4) (oi := ⟨_, _, _, _, _, _⟩) (v := ?_) rfl (by kernel_rfl) (by kernel_rfl) (by kernel_rfl) (fun _ _ _ h => h) (Or.inl ⟨by rfl, ?_⟩) (by assumption) ?_
            rotate_left
            · intro w hSw
              try dsimp only at hSw
              go_simp
              try with_reducible rfl
            simp only [Act.put, List.setIfInBounds_toArray, List.set_cons_zero, List.set_cons_succ]
            refine wpAnyH_take (i := 12) (oi := ⟨_, _, _, _, _, _⟩) (v := ?_) rfl (by kernel_rfl) (by kernel_rfl) (by kernel_rfl) (fun _ _ _ h => h) (Or.inl ⟨by rfl, ?_⟩) (by assumption) ?_
            rotate_left
            · intro w hSw
              try dsimp only at hSw
              go_simp
              try with_reducible rfl
            simp only [Act.put, List.setIfInBounds_toArray, List.set_cons_zero, List.set_cons_succ]
            refine wpAnyH_take (i := 20) (oi := ⟨_, _, _, _, _, _⟩) (v := ?_) rfl (by kernel_rfl) (by kernel_rfl) (by kernel_rfl) (fun _ _ _ h => h) (Or.inl ⟨by rfl, ?_⟩) (by assumption) ?_
            rotate_left
            · intro w hSw
              try dsimp only at hSw
              go_simp
              try with_reducible rfl
            simp only [Act.put, List.setIfInBounds_toArray, List.set_cons_zero, List.set_cons_succ]
            refine wpAnyH_take (i := 5) (oi := ⟨_, _, _, _, _, _⟩) (v := ?_) rfl (by kernel_rfl) (by kernel_rfl) (by kernel_rfl) (fun _ _ _ h => h) (Or.inl ⟨by rfl, ?_⟩) (by assumption) ?_
            rotate_left
            · intro w hSw
              try dsimp only at hSw
              go_simp
              try with_reducible rfl
            simp only [Act.put, List.setIfInBounds_toArray, List.set_cons_zero, List.set_cons_succ]
            refine wpAnyH_take (i := 13) (oi := ⟨_, _, _, _, _, _⟩) (v := ?_) rfl (by kernel_rfl) (by kernel_rfl) (by kernel_rfl) (fun _ _ _ h => h) (Or.inl ⟨by rfl, ?_⟩) (by assumption) ?_
            rotate_left
            · intro w hSw
              try dsimp only at hSw
              go_simp
              try with_reducible rfl
            simp only [Act.put, List.setIfInBounds_toArray, List.set_cons_zero, List.set_cons_succ]
            refine wpAnyH_take (i := 21) (oi := ⟨_, _, _, _, _, _⟩) (v := ?_) rfl (by kernel_rfl) (by kernel_rfl) (by kernel_rfl) (fun _ _ _ h => h) (Or.inl ⟨by rfl, ?_⟩) (by assumption) ?_
            rotate_left
            · intro w hSw
              try dsimp only at hSw
              go_simp
              try with_reducible rfl
            simp only [Act.put, List.setIfInBounds_toArray, List.set_cons_zero, List.set_cons_succ]
            refine wpAnyH_take (i := 6) (oi := ⟨_, _, _, _, _, _⟩) (v := ?_) rfl (by kernel_rfl) (by kernel_rfl) (by kernel_rfl) (fun _ _ _ h => h) (Or.inl ⟨by rfl, ?_⟩) (by assumption) ?_
            rotate_left
            · intro w hSw
              try dsimp only at hSw
              go_simp
              try with_reducible rfl
            simp only [Act.put, List.setIfInBounds_toArray, List.set_cons_zero, List.set_cons_succ]
            refine wpAnyH_take (i := 14) (oi := ⟨_, _, _, _, _, _⟩) (v := ?_) rfl (by kernel_rfl) (by kernel_rfl) (by kernel_rfl) (fun _ _ _ h => h) (Or.inl ⟨by rfl, ?_⟩) (by assumption) ?_
            rotate_left
            · intro w hSw
              try dsimp only at hSw
              go_simp
              try with_reducible rfl
            simp only [Act.put, List.setIfInBounds_toArray, List.set_cons_zero, List.set_cons_succ]
            refine wpAnyH_take (i := 22) (oi := ⟨_, _, _, _, _, _⟩) (v := ?_) rfl (by kernel_rfl) (by kernel_rfl) (by kernel_rfl) (fun _ _ _ h => h) (Or.inl ⟨by rfl, ?_⟩) (by assumption) ?_
            rotate_left
            · intro w hSw
              try dsimp only at hSw
              go_simp
              try with_reducible rfl
            simp only [Act.put, List.setIfInBounds_toArray, List.set_cons_zero, List.set_cons_succ]
            refine wpAnyH_ready (rs := [7]) (by kernel_rfl) (by simp) (AllReadyH.cons (o := ⟨_, _, _, _, _, _⟩) rfl (fun K hK => ?_) AllReadyH.nil)
            go_simp
            refine (clone_any hpl.out (by omega)).mono ?_
            rintro r W7 ⟨⟨R7, cc7, rfl, ho⟩, b⟩
            have sM := hHeld.2.2.2.2.out.size
            have hM := hHeld.2.2.2.2.out.then_below b
            refine hK.out _ _ ⟨(World.cell?_of_block (hM.block st (by omega) (by omega))).trans r0, (World.cell?_of_block (hM.block g (by omega) (by omega))).trans e0, (World.cell?_of_block (hM.block g (by omega) (by omega))).trans e1, (World.cell?_of_block (hM.block g (by omega) (by omega))).trans e2, hid hM⟩ (fun hHeld => ?_)
            clear hK K
            have KO := hid (keep_blk KO.out b)
            have hpc := hid (hpc.out.below b)
            have L1 := hid (ho.mono (G := fun b => wr.heap.size ≤ b) fun b _ (hb : WD.heap.size ≤ b) => Nat.le_trans sM hb)
            clear ho b
            try simp only [Act.put, List.setIfInBounds_toArray, List.set_cons_zero, List.set_cons_succ]
            refine wpAnyH_ready (rs := [15]) (by kernel_rfl) (by simp) (AllReadyH.cons (o := ⟨_, _, _, _, _, _⟩) rfl (fun K hK => ?_) AllReadyH.nil)
            go_simp
            refine (clone_any hpc.out (by omega)).mono ?_
            rintro r W15 ⟨⟨R15, cc15, rfl, ho⟩, b⟩
            have sM := hHeld.2.2.2.2.out.size
            have hM := hHeld.2.2.2.2.out.then_below b
            refine hK.out _ _ ⟨(World.cell?_of_block (hM.block st (by omega) (by omega))).trans r0, (World.cell?_of_block (hM.block g (by omega) (by omega))).trans e0, (World.cell?_of_block (hM.block g (by omega) (by omega))).trans e1, (World.cell?_of_block (hM.block g (by omega) (by omega))).trans e2, hid hM⟩ (fun hHeld => ?_)
            clear hK K
            have KO := hid (keep_blk KO.out b)
            have L1 := hid (L1.out.below b)
            have L2 := hid (ho.mono (G := fun b => wr.heap.size ≤ b) fun b _ (hb : W7.heap.size ≤ b) => Nat.le_trans sM hb)
            clear ho b
            try simp only [Act.put, List.setIfInBounds_toArray, List.set_cons_zero, List.set_cons_succ]
            refine wpAnyH_take (i := 23) (oi := ⟨_, _, _, _, _, _⟩) (v := ?_) rfl (by kernel_rfl) (by kernel_rfl) (by kernel_rfl) (fun _ _ _ h => h) (Or.inl ⟨by rfl, ?_⟩) (by assumption) ?_
            rotate_left
            · intro w hSw
              try dsimp only at hSw
              go_simp
              try with_reducible rfl
            simp only [Act.put, List.setIfInBounds_toArray, List.set_cons_zero, List.set_cons_succ]
            refine wpAnyH_ready (rs := [24]) (by kernel_rfl) (by simp) (AllReadyH.cons (o := ⟨_, _, _, _, _, _⟩) rfl (fun K hK => ?_) AllReadyH.nil)
            go_simp
            obtain ⟨t0, t1, t2⟩ := box3 KO.out
            obtain ⟨f0, f1, f2⟩ := froz3 KO.out
            go_simp
            obtain ⟨u0, u1, u2, m3⟩ := set3 t0 t1 t2 (.slice R7 n1 cc7) (.slice R15 n2 cc15) (.int .i64 p.bound)
            have hM := hHeld.2.2.2.2.out.trans (m3.mono fun b _ hb => Or.inl hb)
            refine hK.out _ _ ⟨(World.cell?_of_block (hM.block st (by omega) (by omega))).trans r0, (World.cell?_of_block (hM.block g (by omega) (by omega))).trans e0, (World.cell?_of_block (hM.block g (by omega) (by omega))).trans e1, (World.cell?_of_block (hM.block g (by omega) (by omega))).trans e2, hid hM⟩ (fun hHeld => ?_)
            clear hK K
            try simp only [Act.put, List.setIfInBounds_toArray, List.set_cons_zero, List.set_cons_succ]
            refine wpAnyH_ready (rs := [25]) (by kernel_rfl) (by simp) (AllReadyH.cons (o := ⟨_, _, _, _, _, _⟩) rfl (fun K hK => ?_) AllReadyH.nil)
            go_simp
            go_simp
            refine hK.out _ _ hHeld (fun hHeld => ?_)
            clear hK K
            try simp only [Act.put, List.setIfInBounds_toArray, List.set_cons_zero, List.set_cons_succ]
            refine wpAnyH_done (by kernel_rfl) ?_ _
            go_wp2_with fail
            have hfin := below_mod BWR.out (by omega) hHeld.2.2.2.2.out fun b hb => by omega
            refine bodyPost_ret (v := .tuple #[.agg #[.slice R7 n1 cc7, .slice R15 n2 cc15, .int .i64 p.bound], .int .i64 0]) (by simp [results, Tryd.f21, go_sem, u0, u1, u2]) rfl ⟨⟨_, rfl, ⟨R7, n1, cc7, R15, n2, cc15, rfl, ?_, ?_⟩, Hpb.out⟩, by rw [hob]; exact hfin⟩
            · exact (L1.out.mod m3 fun b _ hf e => by omega).mono fun b _ hf => by omega
            · exact (L2.out.mod m3 fun b _ hf e => by omega).mono fun b _ hf => by omega
            -- END RUN
          · obtain rfl : R = (⟨[], [], 0⟩, 2) := by rw [hRn]; unfold runFrom; rw [if_neg h1]; rfl
            have hk1 : ((s.length : Int) != 1) = true := by simp; omega
            obtain ⟨t0, t1, t2⟩ := box3 kow.out
            obtain ⟨f0, f1, f2⟩ := froz3 kow.out
            clear hRn HS Hok h1
            go_wp2_with fail
            obtain ⟨u0, u1, u2, m3⟩ := set3 t0 t1 t2 (.slice none 0 0) (.slice none 0 0) (.int .i64 0)
            exact bodyPost_ret (v := .tuple #[.agg #[.slice none 0 0, .slice none 0 0, .int .i64 0], .int .i64 2]) (by simp [results, Tryd.f21, go_sem, u0, u1, u2]) rfl ⟨⟨_, rfl, PbRd.zero _ _⟩, by rw [hob]; exact below_mod BWR.out (by omega) m3 fun g hg => by omega⟩
    · have hf : db.all Pb.ok = false := by simpa using hall
      obtain rfl : R = (⟨[], [], 0⟩, 2) := by rw [← HR.out]; unfold runB; rw [if_pos (.inr hf)]; rfl
      rw [hf]
      obtain ⟨t0, t1, t2⟩ := box3 KO1.out
      obtain ⟨f0, f1, f2⟩ := froz3 KO1.out
      clear HR hall hf
      go_wp2_with fail
      obtain ⟨u0, u1, u2, m3⟩ := set3 t0 t1 t2 (.slice none 0 0) (.slice none 0 0) (.int .i64 0)
      exact bodyPost_ret (v := .tuple #[.agg #[.slice none 0 0, .slice none 0 0, .int .i64 0], .int .i64 2]) (by simp [results, Tryd.f21, go_sem, u0, u1, u2]) rfl ⟨⟨_, rfl, PbRd.zero _ _⟩, by rw [hob]; exact below_mod B1.out (by omega) m3 fun g hg => by omega⟩
end
end Go.Proofs.YtooioikkgdgnnaaDoor
