/-
  The laws' arguments, opened; the laws' helper played.
-/
import Derived.Test.YtbghfdhijlpogaaTwalkM
import Derived.Deep.Strs
import Derived.ProofKit
namespace Go.Proofs.Ytbghfdhijlpogaa
open Go.RowKit Go.ChangeShapes Go.WideShapes

/-- A call of a law's list, as plain data. -/
structure Opd where
  kind : Int
  n : Int
  reason : List Int
  deriving Inhabited
def Opd.ok (x : Opd) : Prop := (0 ≤ x.kind ∧ x.kind ≤ 255) ∧ I64 x.n ∧ ∀ y ∈ x.reason, I64 y
/-- The slice reads as these calls. -/
def OpsRd (w : World) (v : Value) (os : List Opd) : Prop :=
  ∃ A cap, v = .slice A os.length cap ∧ os.length ≤ cap ∧ cap ≤ maxLen ∧ ∀ i (x : Opd), os[i]? = some x → ∃ g o R n c, A = some ⟨g, o, none⟩ ∧ g < w.heap.size ∧
    w.cell? ⟨g, o + i * 3, none⟩ = some (.int .u8 x.kind) ∧ w.cell? ⟨g, o + i * 3 + 1, none⟩ = some (.int .i64 x.n) ∧ w.cell? ⟨g, o + i * 3 + 2, none⟩ = some (.slice R n c) ∧
    Rd w (fun _ => True) 1 (.slice R n c) n (ints x.reason) ∧ x.ok
theorem OpsRd.below {w w' : World} {v : Value} {os : List Opd} (h : OpsRd w v os) (hb : Below w.heap.size w w') : OpsRd w' v os := by
  obtain ⟨A, cap, rfl, h1, h2, h3⟩ := h
  refine ⟨A, cap, rfl, h1, h2, fun i x hx => ?_⟩
  obtain ⟨g, o, R, n, c, rfl, hg, c0, c1, c2, hr, hok⟩ := h3 i x hx
  have hs := hb.size
  exact ⟨g, o, R, n, c, rfl, by omega, (hb.cell (p := ⟨g, o + i * 3, none⟩) hg).trans c0, (hb.cell (p := ⟨g, o + i * 3 + 1, none⟩) hg).trans c1, (hb.cell (p := ⟨g, o + i * 3 + 2, none⟩) hg).trans c2, hr.below hb, hok⟩

section
variable {H : Type} {enc : TypeId × Value → H} {w : World}
theorem wf_i64 {n : Int} (h : (Lit.int .i64 n).wf = true) : I64 n := by
  unfold I64
  simp [Lit.wf, IntKind.min, IntKind.max, IntKind.signed, IntKind.bits] at h
  omega
theorem open_reason {fuel : Nat} {v : Value} {x : DataW H × List MemPlace} (h : DataW.trod enc Try.prog w 0 (fun _ => true) true fuel 26 [v] = some x) :
    ∃ R n c xs, v = .slice R n c ∧ Rd w (fun _ => True) 1 (.slice R n c) n (ints xs) ∧ xs.length = n ∧ ∀ y ∈ xs, I64 y := by
  rcases open_ints Try.underlying26 Try.underlying3 (by kernel_rfl) h with ⟨hcs, _⟩ | ⟨a, l, c, zs, hcs, _, hl, hm, hz, _, hcell, hwz⟩
  · simp only [List.cons.injEq, and_true] at hcs
    subst hcs
    exact ⟨none, 0, 0, [], rfl, (Own.nil w _ 0 1).rd, rfl, by simp⟩
  · simp only [List.cons.injEq, and_true] at hcs
    subst hcs
    have hz' : zs.length = c := by simpa using hz
    refine ⟨some a, l, c, zs.take l, rfl, ⟨by simp [ints_length]; omega, _, _, rfl, hl, hm, fun hp => ?_⟩, by simp; omega, fun y hy => wf_i64 (hwz y (List.mem_of_mem_take hy))⟩
    have h0 := hcell 0 (by omega)
    obtain ⟨g, o, s⟩ := a
    have hs : s = none := by simpa [Addr.add] using World.cell?_spot h0
    subst hs
    refine ⟨g, o, rfl, trivial, World.block_lt_of_cell? w _ (by simpa [addr_add] using h0), fun j u hu => ?_⟩
    rw [ints_get, List.getElem?_take] at hu
    split at hu
    · rename_i hj
      have hcj := hcell j (by omega)
      rw [addr_add] at hcj
      rw [hcj]
      rw [List.getElem?_eq_getElem (by omega)] at hu
      simp only [Option.map_some, Option.some.injEq] at hu
      rw [← hu]
      simp [List.getD, show j < zs.length by omega]
    · cases hu
theorem open_op {fuel : Nat} {cs : List Value} {y : DataW H × List MemPlace} (h : DataW.trod enc Try.prog w 0 (fun _ => true) true fuel 37 cs = some y) :
    ∃ (x : Opd) (R : Option Addr) (n c : Nat), cs = [.int .u8 x.kind, .int .i64 x.n, .slice R n c] ∧ Rd w (fun _ => True) 1 (.slice R n c) n (ints x.reason) ∧ x.ok := by
  obtain ⟨y0, y1, y2, m, _, hl, h0, h1, h2⟩ := Deep.trod_struct3 Try.underlying37 h
  have hl' : cs.length = 3 := hl.trans (by kernel_rfl)
  match cs, hl' with
  | [c0, c1, c2], _ =>
    obtain ⟨k, e0, _, wk⟩ := DataW.trod_int Try.underlying5 h0
    obtain ⟨n, e1, _, wn⟩ := DataW.trod_int Try.underlying3 h1
    have e0' : c0 = .int .u8 k := by simpa [show Try.prog.cellsOf 5 = 1 by kernel_rfl] using e0
    have e1' : c1 = .int .i64 n := by simpa [show Try.prog.cellsOf 3 = 1 by kernel_rfl] using e1
    have h2' : DataW.trod enc Try.prog w 0 (fun _ => true) true m 26 [c2] = some y2 := by simpa [show Try.prog.cellsOf 26 = 1 by kernel_rfl] using h2
    obtain ⟨R, n', c', xs, rfl, hr, _, hy⟩ := open_reason h2'
    subst e0' e1'
    refine ⟨⟨k, n, xs⟩, R, n', c', rfl, hr, ⟨?_, wf_i64 wn, hy⟩⟩
    simp [Lit.wf, IntKind.min, IntKind.max, IntKind.signed, IntKind.bits] at wk
    exact ⟨wk.1, by have := wk.2; omega⟩
theorem cells_three {a : Addr} {cs : List Value} (h : w.cells? 0 a 3 = some cs) : ∃ u0 u1 u2, cs = [u0, u1, u2] ∧ w.cell? (a.add 0) = some u0 ∧ w.cell? (a.add 1) = some u1 ∧ w.cell? (a.add 2) = some u2 := by
  unfold World.cells? at h
  rw [if_pos (Nat.zero_le _), show List.range 3 = [0, 1, 2] from rfl] at h
  simp only [List.mapM_cons, List.mapM_nil] at h
  cases e0 : w.cell? (a.add 0) with
  | none => rw [e0] at h; cases h
  | some u0 =>
    cases e1 : w.cell? (a.add 1) with
    | none => rw [e0, e1] at h; cases h
    | some u1 =>
      cases e2 : w.cell? (a.add 2) with
      | none => rw [e0, e1, e2] at h; cases h
      | some u2 =>
        rw [e0, e1, e2] at h
        exact ⟨u0, u1, u2, (Option.some.inj h).symm, rfl, rfl, rfl⟩
theorem open_ops {v : Value} {d : DataW H} {ps : List MemPlace} (h : DataW.Trod enc Try.prog w 0 (fun _ => true) true 22 v d ps) {A : Option Addr} {n c : Nat} (hv : v = .slice A n c) : ∃ os, OpsRd w v os := by
  subst hv
  obtain ⟨fuel, hf⟩ := h
  rcases Deep.open_slice Try.underlying22 hf with ⟨hcs, _⟩ | ⟨a, len, cap, m, n', D, Pl, hcs, _, hl, hm, hmm, _, hel⟩
  · simp only [Value.cells, List.cons.injEq, Value.slice.injEq, and_true] at hcs
    obtain ⟨rfl, rfl, rfl⟩ := hcs
    exact ⟨[], none, 0, rfl, by simp, by simp, by simp⟩
  · simp only [Value.cells, List.cons.injEq, Value.slice.injEq, and_true] at hcs
    obtain ⟨rfl, rfl, rfl⟩ := hcs
    simp only [if_true] at hmm
    subst hmm
    have hc3 : Try.prog.cellsOf 37 = 3 := by kernel_rfl
    have key : ∀ i, i < n → ∃ x : Opd, ∃ g o R n c, a = ⟨g, o, none⟩ ∧ g < w.heap.size ∧ w.cell? ⟨g, o + i * 3, none⟩ = some (.int .u8 x.kind) ∧ w.cell? ⟨g, o + i * 3 + 1, none⟩ = some (.int .i64 x.n) ∧ w.cell? ⟨g, o + i * 3 + 2, none⟩ = some (.slice R n c) ∧
        Rd w (fun _ => True) 1 (.slice R n c) n (ints x.reason) ∧ x.ok := by
      intro i hi
      obtain ⟨cs', hcs', htr⟩ := hel i (by omega)
      obtain ⟨x, R, n, c, rfl, hr, hok⟩ := open_op htr
      rw [hc3] at hcs'
      obtain ⟨u0, u1, u2, hu, e0, e1, e2⟩ := cells_three hcs'
      simp only [List.cons.injEq, and_true] at hu
      obtain ⟨rfl, rfl, rfl⟩ := hu
      rw [Deep.add_add] at e0 e1 e2
      obtain ⟨g, o, s⟩ := a
      obtain rfl : s = none := by
        rcases Nat.eq_zero_or_pos i with h0 | h0
        · subst h0; simpa [Addr.add] using World.cell?_spot e0
        · obtain ⟨cs', hcs', _⟩ := hel 0 (by omega)
          rw [hc3] at hcs'
          obtain ⟨u0, u1, u2, _, f0, _⟩ := cells_three hcs'
          simpa [Addr.add] using World.cell?_spot f0
      rw [addr_add] at e0 e1 e2
      rw [Nat.add_zero] at e0
      rw [← Nat.add_assoc] at e1
      rw [← Nat.add_assoc] at e2
      exact ⟨x, g, o, R, n, c, rfl, World.block_lt_of_cell? w _ e0, e0, e1, e2, hr, hok⟩
    obtain ⟨f, hf⟩ := Deep.choose_lt key
    refine ⟨(List.range n).map f, some a, m, by simp, by simpa using hl, hm, fun i x hx => ?_⟩
    simp only [List.getElem?_map] at hx
    by_cases hi : i < n
    · rw [List.getElem?_range hi] at hx
      simp only [Option.map_some, Option.some.injEq] at hx
      subst hx
      obtain ⟨g, o, R, n', c, rfl, r⟩ := hf i hi
      exact ⟨g, o, R, n', c, rfl, r⟩
    · rw [List.getElem?_eq_none (by simp; omega)] at hx
      cases hx
end

/-! ### played -/
theorem zero_op (w : World) : (zeroValue 37).run Try.prog w = .ok (.agg #[.int .u8 0, .int .i64 0, .slice none 0 0]) w := by kernel_rfl
/-- One call. -/
def Tr.op (T : Tr) (x : Opd) : Tr := if x.kind = 1 then T.dec x.n else if x.kind = 2 then T.imp x.n (x.reason.take 20) else if x.kind = 3 then T.back (lvl x.n) else T
def Tr.ops (T : Tr) (os : List Opd) : Tr := os.foldl Tr.op T
theorem Tr.op_vars (T : Tr) (x : Opd) : (T.op x).vars = T.vars := by
  unfold Tr.op
  split
  · exact T.dec_vars _
  · split
    · exact T.imp_vars _ _
    · split
      · exact T.back_vars _
      · rfl
theorem Tr.ops_vars (os : List Opd) : ∀ T : Tr, (T.ops os).vars = T.vars := by
  induction os with
  | nil => intro T; rfl
  | cons x os ih => intro T; exact (ih (T.op x)).trans (T.op_vars x)
theorem Tr.ops_snoc (T : Tr) (os : List Opd) (x : Opd) : T.ops (os ++ [x]) = (T.ops os).op x := by simp [Tr.ops, List.foldl_append]

set_option maxRecDepth 100000 in
set_option maxHeartbeats 4000000 in
theorem played_any {w : World} {v : Value} {os : List Opd} (hv : OpsRd w v os) :
    Calls Try.prog 9 #[v] w fun r w' => ∃ b, r = .returned (.tuple #[.pointer (some ⟨b, 0, none⟩), .bool true]) ∧ Trail w' (fun g => w.heap.size ≤ g) b ((⟨8, [], []⟩ : Tr).ops (os.take 40)) ∧ Below w.heap.size w w' := by
  obtain ⟨n, hn⟩ : ∃ n, n = min os.length 40 := ⟨_, rfl⟩
  have hno : n ≤ os.length := by omega
  have hn40 : n ≤ 40 := by omega
  have htk : os.take 40 = os.take n := by rw [hn]; exact take_min _ _
  rw [htk]
  obtain ⟨A, cap, rfl, hc, hcm, hel⟩ := id hv
  have hmin : (if (40 : Int) < (os.length : Int) then (40 : Int) else (os.length : Int)) = (n : Int) := by split <;> omega
  have hncap : (n : Int) ≤ (cap : Int) := by omega
  have Hv := hid hv
  have Hn := hid hn
  have Hel := hid hel
  have Hcm := hid hcm
  clear hv hn hel htk hcm
  go_enter Try.func9, Try.ntmps9
  go_wp2_with fail
  refine (new_b (vars := 8) (by decide) (Nat.le_refl _)).mono ?_
  rintro r w1 ⟨b, rfl, t1, b1⟩
  go_wp2_with fail
  go_loopw [18, 7] (fun i _ W => ∃ (k : Nat), k ≤ n ∧ i = .int .i64 k ∧ Trail W (fun g => w.heap.size ≤ g) b ((⟨8, [], []⟩ : Tr).ops (os.take k)) ∧ Below w.heap.size w W) (fun i _ _ => n - (intOf i).toNat)
  case atStart => exact ⟨0, by omega, rfl, t1, b1⟩
  case round =>
    obtain ⟨k, hk, rfl, tk, bk⟩ := hrel
    by_cases hlt : k < n
    · obtain ⟨x, hx⟩ : ∃ x, os[k]? = some x := ⟨os[k], List.getElem?_eq_getElem (by omega)⟩
      obtain ⟨g, o, R, m, c, rfl, hg, c0, c1, c2, hr, hok⟩ := Hel.out k x hx
      have d0 := (bk.cell (p := ⟨g, o + k * 3, none⟩) hg).trans c0
      have d1 := (bk.cell (p := ⟨g, o + k * 3 + 1, none⟩) hg).trans c1
      have d2 := (bk.cell (p := ⟨g, o + k * 3 + 2, none⟩) hg).trans c2
      have Hr := hid (hr.below bk)
      have Hok := hid hok
      have Htk : Hid (os.take (k + 1) = os.take k ++ [x]) := by
        rw [List.take_succ_eq_append_getElem (by omega)]
        have : os[k] = x := by rw [List.getElem?_eq_getElem (by omega)] at hx; exact Option.some.inj hx
        rw [this]
        exact hid rfl
      have Hop : Hid (((⟨8, [], []⟩ : Tr).ops (os.take (k + 1))) = ((⟨8, [], []⟩ : Tr).ops (os.take k)).op x) := by rw [Htk.out, Tr.ops_snoc]; exact hid rfl
      have hsz := bk.size
      generalize (⟨8, [], []⟩ : Tr).ops (os.take k) = T at tk Hop
      clear c0 c1 c2 hr hok hx Htk
      have Tk := hid (tk.restrict.below ((Below.refl _ _).alloc (Nat.le_refl _) (.cells #[.int .u8 x.kind, .int .i64 x.n, .slice R m c] 37)))
      have hW : (wr.alloc (.cells #[.int .u8 x.kind, .int .i64 x.n, .slice R m c] 37)).heap.size = wr.heap.size + 1 := by simp
      cases q1 : (x.kind == 1)
      · cases q2 : (x.kind == 2)
        · cases q3 : (x.kind == 3)
          · have e : T.op x = T := by
              simp only [beq_eq_false_iff_ne, ne_eq] at q1 q2 q3
              simp [Tr.op, q1, q2, q3]
            have He := hid e
            clear e
            go_wp2_with fail
            go_roundw
            case rel => exact ⟨k + 1, by omega, by go_num, by rw [Hop.out, He.out]; exact Tk.out.mono fun g hg => hg.1, bk.alloc hsz _⟩
            case measure => simp [intOf]; omega
          · have e : T.op x = T.back (lvl x.n) := by
              simp only [beq_eq_false_iff_ne, ne_eq, beq_iff_eq] at q1 q2 q3
              simp [Tr.op, q3]
            have He := hid e
            clear e
            go_wp2_with fail
            refine (undo_e Tk.out x.n).mono ?_
            rintro r w2 ⟨⟨u2, rfl, _⟩, t2, m2⟩
            obtain ⟨t3, b3⟩ := rebase (B := w.heap.size) (w := wr.alloc (.cells #[.int .u8 x.kind, .int .i64 x.n, .slice R m c] 37)) (by omega) (t2.mono fun g hg => by omega) (m2.mono fun g _ hg => by omega)
            clear t2 m2
            go_wp2_with fail
            go_roundw
            case rel => exact ⟨k + 1, by omega, by go_num, by rw [Hop.out, He.out]; exact t3, (bk.alloc hsz _).trans b3⟩
            case measure => simp [intOf]; omega
        · have e : T.op x = T.imp x.n (x.reason.take 20) := by
            simp only [beq_eq_false_iff_ne, ne_eq, beq_iff_eq] at q1 q2
            simp [Tr.op, q2]
          have hrl : x.reason.length = m := by have := Hr.out.1; simpa [ints_length] using this
          obtain ⟨m', hm'⟩ : ∃ m', m' = min m 20 := ⟨_, rfl⟩
          rw [take_min, hrl, ← hm'] at e
          have He := hid e
          have Hr2 := hid (Hr.out.take (m := m') (by omega))
          rw [Nat.mul_one, ← ints_take] at Hr2
          have hmn : (if (20 : Int) < (m : Int) then (20 : Int) else (m : Int)) = (m' : Int) := by split <;> omega
          have hmc : (m' : Int) ≤ (c : Int) := by
            obtain ⟨_, A2, c2, hv2, h2, _⟩ := Hr.out
            injection hv2 with _ _ h3
            omega
          have hm20 : m' ≤ 20 := by omega
          have hcall := hid (imply_e (w := (wr.alloc (.cells #[.int .u8 x.kind, .int .i64 x.n, .slice R m c] 37)).drew) Tk.out.drew Hok.out.2.1 (Hr2.out.below ((Below.refl _ _).alloc (Nat.le_refl _) _).drew) (by omega) (fun y hy => Hok.out.2.2 y (List.mem_of_mem_take hy)))
          clear e hm'
          go_wp2_with fail
          go_region_held3 (fun w' => w'.cell? ⟨wr.heap.size, 1, none⟩ = some (.int .i64 x.n) ∧ w'.cell? ⟨wr.heap.size, 2, none⟩ = some (.slice R m c))
            (first | go_keep | exact ⟨(World.cell?_of_block (a := ⟨wr.heap.size, 1, none⟩) (m2.block wr.heap.size (by simp) (by simp))).trans (by simp), (World.cell?_of_block (a := ⟨wr.heap.size, 2, none⟩) (m2.block wr.heap.size (by simp) (by simp))).trans (by simp)⟩)
            ((go_at_call 17; refine hcall.out.mono ?_; rintro r w2 ⟨rfl, t2, m2⟩))
          all_goals
            obtain ⟨t3, b3⟩ := rebase (B := w.heap.size) (w := (wr.alloc (.cells #[.int .u8 x.kind, .int .i64 x.n, .slice R m c] 37)).drew) (by simp; omega) (t2.mono fun g hg => by simp at hg ⊢; omega) (m2.mono fun g _ hg => by simp; omega)
            clear t2 m2
            go_wp2_with fail
            go_roundw
            case rel => exact ⟨k + 1, by omega, by go_num, by rw [Hop.out, He.out]; exact t3, (bk.alloc hsz _).drew.trans b3⟩
            case measure => simp [intOf]; omega
      · have e : T.op x = T.dec x.n := by
          simp only [beq_iff_eq] at q1
          simp [Tr.op, q1]
        have He := hid e
        clear e
        go_wp2_with fail
        refine (decide_e Tk.out Hok.out.2.1).mono ?_
        rintro r w2 ⟨rfl, t2, m2⟩
        obtain ⟨t3, b3⟩ := rebase (B := w.heap.size) (w := wr.alloc (.cells #[.int .u8 x.kind, .int .i64 x.n, .slice R m c] 37)) (by omega) (t2.mono fun g hg => by omega) (m2.mono fun g _ hg => by omega)
        clear t2 m2
        go_wp2_with fail
        go_roundw
        case rel => exact ⟨k + 1, by omega, by go_num, by rw [Hop.out, He.out]; exact t3, (bk.alloc hsz _).trans b3⟩
        case measure => simp [intOf]; omega
    · have hkn : k = n := by omega
      rw [hkn] at tk
      clear hmin hkn
      go_wp2_with fail
      go_ret2
      exact ⟨b, rfl, tk, bk⟩

end Go.Proofs.Ytbghfdhijlpogaa
