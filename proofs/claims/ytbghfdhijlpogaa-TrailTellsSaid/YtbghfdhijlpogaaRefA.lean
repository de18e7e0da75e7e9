/-
  The reference of layer 28: its trail as a struct value; Value, Find, Free, New, Errno.
-/
import Derived.Test.YtbghfdhijlpogaaTwalkK
namespace Go.Proofs.Ytbghfdhijlpogaa
open Go.RowKit

theorem info_ent : (Try.prog.info? 74).map (fun i => (i.zero, i.size, i.bytes)) = some (some (.agg #[.int .i64 0, .int .i64 0, .slice none 0 0]), 3, 40) := by kernel_rfl
/-- The cells of entries. -/
def flat (ts : List (Ent × Value)) : List Value := ts.flatMap fun p => [.int .i64 p.1.lit, .int .i64 p.1.level, p.2]
theorem flat_length (ts : List (Ent × Value)) : (flat ts).length = ts.length * 3 := by
  induction ts with
  | nil => rfl
  | cons p ts ih => simp only [flat, List.flatMap_cons, List.length_append, List.length_cons, List.length_nil] at ih ⊢; omega
theorem flat_append (xs ys : List (Ent × Value)) : flat (xs ++ ys) = flat xs ++ flat ys := by simp [flat]
theorem flat_get : ∀ (ts : List (Ent × Value)) (i : Nat) (p : Ent × Value), ts[i]? = some p → (flat ts)[i * 3]? = some (.int .i64 p.1.lit) ∧ (flat ts)[i * 3 + 1]? = some (.int .i64 p.1.level) ∧ (flat ts)[i * 3 + 2]? = some p.2
  | q :: ts, 0, p, h => by
    obtain rfl := Option.some.inj h
    exact ⟨rfl, rfl, rfl⟩
  | q :: ts, i + 1, p, h => by
    obtain ⟨h1, h2, h3⟩ := flat_get ts i p (by simpa using h)
    have e : flat (q :: ts) = .int .i64 q.1.lit :: .int .i64 q.1.level :: q.2 :: flat ts := rfl
    rw [e, show (i + 1) * 3 = i * 3 + 1 + 1 + 1 by omega, show i * 3 + 1 + 1 + 1 + 1 = i * 3 + 1 + 1 + 1 + 1 from rfl, show i * 3 + 1 + 1 + 1 + 2 = i * 3 + 2 + 1 + 1 + 1 by omega, show i * 3 + 1 + 1 + 1 + 1 = i * 3 + 1 + 1 + 1 + 1 from rfl]
    simp only [List.getElem?_cons_succ]
    exact ⟨h1, h2, h3⟩
theorem flat_one {ts : List (Ent × Value)} (h : ∀ p ∈ ts, ∃ R n c, p.2 = .slice R n c) : ∀ u ∈ flat ts, u.oneCell' = true := by
  intro u hu
  obtain ⟨p, hp, hu⟩ := List.mem_flatMap.1 hu
  obtain ⟨R, n, c, hs⟩ := h p hp
  simp only [List.mem_cons, List.not_mem_nil, or_false] at hu
  rcases hu with rfl | rfl | rfl
  · rfl
  · rfl
  · rw [hs]; rfl
/-- The reason of an entry reads. -/
def Reads (P : Nat → Prop) (w : World) (p : Ent × Value) : Prop := ∃ R n c, p.2 = .slice R n c ∧ Rd w P 1 (.slice R n c) n (ints p.1.reason)
theorem Reads.mono {P Q : Nat → Prop} {w : World} {p : Ent × Value} (h : Reads P w p) (hPQ : ∀ g, g < w.heap.size → P g → Q g) : Reads Q w p := by
  obtain ⟨R, n, c, h1, h2⟩ := h
  exact ⟨R, n, c, h1, h2.mono hPQ⟩
theorem Reads.mod {P F : Nat → Prop} {w w' : World} {p : Ent × Value} (h : Reads P w p) (hm : Mod F w w') (hPF : ∀ g, g < w.heap.size → P g → ¬ F g) : Reads P w' p := by
  obtain ⟨R, n, c, h1, h2⟩ := h
  exact ⟨R, n, c, h1, h2.mod hm hPF⟩
theorem Reads.below {P : Nat → Prop} {w w' : World} {p : Ent × Value} (h : Reads P w p) (hb : Below w.heap.size w w') : Reads P w' p := by
  obtain ⟨R, n, c, h1, h2⟩ := h
  exact ⟨R, n, c, h1, h2.below hb⟩
/-- The slice of the entries reads. -/
def EntsRd (P : Nat → Prop) (w : World) (A : Option Addr) (n c : Nat) (ts : List (Ent × Value)) : Prop := ts.length = n ∧ Rd w P 3 (.slice A n c) n (flat ts) ∧ ∀ p ∈ ts, Reads P w p
theorem EntsRd.below {P : Nat → Prop} {w w' : World} {A : Option Addr} {n c : Nat} {ts : List (Ent × Value)} (h : EntsRd P w A n c ts) (hb : Below w.heap.size w w') : EntsRd P w' A n c ts :=
  ⟨h.1, h.2.1.below hb, fun p hp => (h.2.2 p hp).below hb⟩
/-- An entry's cells. -/
theorem EntsRd.cells {P : Nat → Prop} {w : World} {A : Option Addr} {n c : Nat} {ts : List (Ent × Value)} (h : EntsRd P w A n c ts) {i : Nat} (hi : i < n) :
    ∃ g o p, A = some ⟨g, o, none⟩ ∧ g < w.heap.size ∧ ts[i]? = some p ∧ w.cell? ⟨g, o + i * 3, none⟩ = some (.int .i64 p.1.lit) ∧ w.cell? ⟨g, o + i * 3 + 1, none⟩ = some (.int .i64 p.1.level) ∧ w.cell? ⟨g, o + i * 3 + 2, none⟩ = some p.2 ∧ Reads P w p := by
  obtain ⟨hl, ⟨_, A', c', hv, _, _, hA⟩, hr⟩ := h
  injection hv with h1 _ _
  subst h1
  obtain ⟨g, o, rfl, _, hg, hc⟩ := hA (by omega)
  have hp : ts[i]? = some ts[i] := List.getElem?_eq_getElem (by omega)
  obtain ⟨c0, c1, c2⟩ := flat_get ts i _ hp
  exact ⟨g, o, ts[i], rfl, hg, hp, hc _ _ c0, by rw [Nat.add_assoc]; exact hc _ _ c1, by rw [Nat.add_assoc]; exact hc _ _ c2, hr _ (List.getElem_mem _)⟩
/-- The reference's trail reads as T. -/
def RefRd (P : Nat → Prop) (w : World) (v : Value) (T : Tr) : Prop := ∃ A c ts, v = .agg #[.int .i64 T.vars, .int .i64 T.depth, .slice A T.L.length c] ∧ T.L = ts.map Prod.fst ∧ EntsRd P w A T.L.length c ts
theorem RefRd.mono {P Q : Nat → Prop} {w : World} {v : Value} {T : Tr} (h : RefRd P w v T) (hPQ : ∀ g, g < w.heap.size → P g → Q g) : RefRd Q w v T := by
  obtain ⟨A, c, ts, h1, h2, h3, h4, h5⟩ := h
  exact ⟨A, c, ts, h1, h2, h3, h4.mono hPQ, fun p hp => (h5 p hp).mono hPQ⟩
theorem RefRd.mod {P F : Nat → Prop} {w w' : World} {v : Value} {T : Tr} (h : RefRd P w v T) (hm : Mod F w w') (hPF : ∀ g, g < w.heap.size → P g → ¬ F g) : RefRd P w' v T := by
  obtain ⟨A, c, ts, h1, h2, h3, h4, h5⟩ := h
  exact ⟨A, c, ts, h1, h2, h3, h4.mod hm hPF, fun p hp => (h5 p hp).mod hm hPF⟩
theorem RefRd.below {P : Nat → Prop} {w w' : World} {v : Value} {T : Tr} (h : RefRd P w v T) (hb : Below w.heap.size w w') : RefRd P w' v T := by
  obtain ⟨A, c, ts, h1, h2, h3⟩ := h
  exact ⟨A, c, ts, h1, h2, h3.below hb⟩

/-! ### plain -/
/-- What the reference's Value computes of the first i entries. -/
theorem value_first {T : Tr} (h : T.WF) {i : Nat} {e : Ent} (he : T.L[i]? = some e) {l : Int} : (e.lit = l → T.value l = 1) ∧ (e.lit = -l → T.value l = -1) := by
  have hm : e.lit ∈ T.lits := List.mem_map.2 ⟨e, List.mem_of_getElem? he, rfl⟩
  constructor
  · rintro rfl
    simp [Tr.value, hm]
  · intro hl
    have h2 : ¬ l ∈ T.lits := fun hm => by
      obtain ⟨j, f, hf, hfl⟩ := Tr.mem_lits.1 hm
      have := h.uniq he hf (by unfold Ent.v; omega)
      subst this
      rw [he] at hf
      have := Option.some.inj hf
      subst this
      have := (h.lit e (List.mem_of_getElem? he)).1
      omega
    have h1 : -l ∈ T.lits := hl ▸ hm
    simp [Tr.value, h1, h2]
theorem value_last {T : Tr} {l : Int} (h : ∀ e ∈ T.L, e.lit ≠ l ∧ e.lit ≠ -l) : T.value l = 0 := by
  have h1 : ¬ l ∈ T.lits := fun hm => by obtain ⟨e, he, hl⟩ := List.mem_map.1 hm; exact (h e he).1 hl
  have h2 : ¬ -l ∈ T.lits := fun hm => by obtain ⟨e, he, hl⟩ := List.mem_map.1 hm; exact (h e he).2 hl
  simp [Tr.value, h1, h2]
theorem wrap_neg {l m : Int} (hl : I64 l) (hm : -65536 ≤ m ∧ m ≤ 65536) : m = wrap64 (-l) ↔ m = -l := by
  by_cases h : l = -9223372036854775808
  · subst h
    have : wrap64 (- -9223372036854775808) = -9223372036854775808 := by decide +kernel
    rw [this]
    omega
  · have : wrap64 (-l) = -l := IntWalk.wrap64_in _ ⟨by unfold I64 at hl; omega, by unfold I64 at hl; omega⟩
    rw [this]

/-! ### walks -/
theorem lit_small {T : Tr} (h : T.WF) {e : Ent} (he : e ∈ T.L) : -65536 ≤ e.lit ∧ e.lit ≤ 65536 := by
  have := (h.lit e he).2
  have := h.vars
  unfold Ent.v at *
  omega
set_option maxHeartbeats 1000000 in
theorem rvalue_any {P : Nat → Prop} {w : World} {v : Value} {T : Tr} (hv : RefRd P w v T) (hw : T.WF) {l : Int} (hl : I64 l) :
    Calls Try.prog 40 #[v, .int .i64 l] w fun r w' => r = .returned (.int .i64 (T.value l)) ∧ Below w.heap.size w w' := by
  obtain ⟨A, c, ts, rfl, hL, he⟩ := hv
  have h1 := hw.len
  have h2 := hw.vars
  have Hw := hid hw
  have HL := hid hL
  have Hl := hid hl
  have he' := he.below ((Below.refl _ _).alloc (Nat.le_refl _) (.cells #[.int .i64 T.vars, .int .i64 T.depth, .slice A T.L.length c] 48))
  have He := hid he'
  clear hw hL hl he he'
  go_enter Try.func40, Try.ntmps40
  go_wp2_with fail
  go_loopw [5] (fun i W => ∃ j : Nat, j ≤ T.L.length ∧ i = .int .i64 j ∧ Hid (∀ e ∈ T.L.take j, e.lit ≠ l ∧ e.lit ≠ -l) ∧ W = w.alloc (.cells #[.int .i64 T.vars, .int .i64 T.depth, .slice A T.L.length c] 48)) (fun i _ => T.L.length - (intOf i).toNat)
  case atStart => exact ⟨0, by omega, rfl, by simp [Hid], rfl⟩
  case round =>
    obtain ⟨j, hj, rfl, hno, rfl⟩ := hrel
    by_cases hlt : j < T.L.length
    · obtain ⟨g, o, p, rfl, hg, hp, c0, _, _, _⟩ := He.out.cells hlt
      have hpe : T.L[j]? = some p.1 := by rw [HL.out, List.getElem?_map, hp]; rfl
      have hf := value_first Hw.out hpe (l := l)
      have hsm := lit_small Hw.out (List.mem_of_getElem? hpe)
      have htk : T.L.take (j + 1) = T.L.take j ++ [p.1] := by
        rw [List.take_succ_eq_append_getElem hlt]
        rw [List.getElem?_eq_getElem hlt] at hpe
        rw [Option.some.inj hpe]
      have hwn := wrap_neg Hl.out hsm
      have Hf := hid hf
      have Htk := hid htk
      have Hwn := hid hwn
      obtain ⟨m, hm⟩ : ∃ m, p.1.lit = m := ⟨_, rfl⟩
      rw [hm] at hsm c0 Hwn Hf
      have Hme := hid hm
      clear hp hpe hf htk hwn hm
      cases q1 : (m == l)
      · cases q2 : (m == wrap64 (-l))
        · have hm1 : m ≠ l := by simpa using q1
          have hm2 : m ≠ -l := fun h => by have := Hwn.out.2 h; simp [this] at q2
          have Hm := hid (show m ≠ l ∧ m ≠ -l from ⟨hm1, hm2⟩)
          clear hm1 hm2
          go_wp2_with fail
          go_roundw
          case rel => exact ⟨j + 1, by omega, by go_num, by
            rw [Htk.out]
            intro e he
            rcases List.mem_append.1 he with he | he
            · exact hno.out e he
            · rw [List.mem_singleton.1 he, Hme.out]; exact Hm.out, trivial⟩
          case measure => simp [intOf]; omega
        · have hm2 : m = -l := Hwn.out.1 (by simpa using q2)
          have Hr := hid (Hf.out.2 hm2)
          clear hm2
          go_wp2_with fail
          go_ret
          exact ⟨by rw [Hr.out]; rfl, (Below.refl _ _).alloc (Nat.le_refl _) _⟩
      · have hm1 : m = l := by simpa using q1
        have Hr := hid (Hf.out.1 hm1)
        clear hm1
        go_wp2_with fail
        go_ret
        exact ⟨by rw [Hr.out]; rfl, (Below.refl _ _).alloc (Nat.le_refl _) _⟩
    · have hjl : T.L.take j = T.L := List.take_of_length_le (by omega)
      rw [hjl] at hno
      have Hr := hid (value_last hno.out)
      clear hjl
      go_wp2_with fail
      go_ret
      exact ⟨by rw [Hr.out]; rfl, (Below.refl _ _).alloc (Nat.le_refl _) _⟩

/-! ### Find -/
theorem index_first {T : Tr} (h : T.WF) {i : Nat} {e : Ent} (he : T.L[i]? = some e) {v : Int} (hv : e.lit.natAbs = v) : T.indexOf v = i := by
  have := h.idx he
  unfold Ent.v at this
  rw [hv] at this
  simp [Tr.indexOf, this]
theorem index_none {T : Tr} {v : Int} (h : ∀ e ∈ T.L, (e.lit.natAbs : Int) ≠ v) : T.indexOf v = -1 := by
  have : T.idx v = none := by
    unfold Tr.idx
    rw [List.findIdx?_eq_none_iff]
    intro e he
    simpa [Ent.v] using h e he
  simp [Tr.indexOf, this]
set_option maxHeartbeats 1000000 in
theorem rfind_any {P : Nat → Prop} {w : World} {v : Value} {T : Tr} (hv : RefRd P w v T) (hw : T.WF) {l : Int} (hl : I64 l) :
    Calls Try.prog 41 #[v, .int .i64 l] w fun r w' => r = .returned (.int .i64 (T.indexOf l)) ∧ Below w.heap.size w w' := by
  obtain ⟨A, c, ts, rfl, hL, he⟩ := hv
  have h1 := hw.len
  have h2 := hw.vars
  have Hw := hid hw
  have HL := hid hL
  have Hl := hid hl
  have he' := he.below ((Below.refl _ _).alloc (Nat.le_refl _) (.cells #[.int .i64 T.vars, .int .i64 T.depth, .slice A T.L.length c] 48))
  have He := hid he'
  clear hw hL hl he he'
  go_enter Try.func41, Try.ntmps41
  go_wp2_with fail
  go_loopw [5] (fun i W => ∃ j : Nat, j ≤ T.L.length ∧ i = .int .i64 j ∧ Hid (∀ e ∈ T.L.take j, (e.lit.natAbs : Int) ≠ l) ∧ W = w.alloc (.cells #[.int .i64 T.vars, .int .i64 T.depth, .slice A T.L.length c] 48)) (fun i _ => T.L.length - (intOf i).toNat)
  case atStart => exact ⟨0, by omega, rfl, by simp [Hid], rfl⟩
  case round =>
    obtain ⟨j, hj, rfl, hno, rfl⟩ := hrel
    by_cases hlt : j < T.L.length
    · obtain ⟨g, o, p, rfl, hg, hp, c0, _, _, _⟩ := He.out.cells hlt
      have hpe : T.L[j]? = some p.1 := by rw [HL.out, List.getElem?_map, hp]; rfl
      have hf := index_first Hw.out hpe (v := l)
      have hsm := lit_small Hw.out (List.mem_of_getElem? hpe)
      have hnz := (Hw.out.lit p.1 (List.mem_of_getElem? hpe)).1
      have htk : T.L.take (j + 1) = T.L.take j ++ [p.1] := by
        rw [List.take_succ_eq_append_getElem hlt]
        rw [List.getElem?_eq_getElem hlt] at hpe
        rw [Option.some.inj hpe]
      have hwn := wrap_neg Hl.out hsm
      have Hf := hid hf
      have Htk := hid htk
      have Hwn := hid hwn
      obtain ⟨m, hm⟩ : ∃ m, p.1.lit = m := ⟨_, rfl⟩
      rw [hm] at hsm hnz c0 Hwn Hf
      have Hme := hid hm
      clear hp hpe hf htk hwn hm
      by_cases hpos : 0 < l
      · cases q1 : (m == l)
        · cases q2 : (m == wrap64 (-l))
          · have hm1 : m ≠ l := by simpa using q1
            have hm2 : m ≠ -l := fun h => by have := Hwn.out.2 h; simp [this] at q2
            have Hm := hid (show (m.natAbs : Int) ≠ l from by omega)
            clear hm1 hm2
            go_wp2_with fail
            go_roundw
            case rel => exact ⟨j + 1, by omega, by go_num, by
              rw [Htk.out]
              intro e he
              rcases List.mem_append.1 he with he | he
              · exact hno.out e he
              · rw [List.mem_singleton.1 he, Hme.out]; exact Hm.out, trivial⟩
            case measure => simp [intOf]; omega
          · have hm2 : m = -l := Hwn.out.1 (by simpa using q2)
            have Hr := hid (Hf.out (by omega))
            clear hm2
            go_wp2_with fail
            go_ret
            exact ⟨by rw [Hr.out]; rfl, (Below.refl _ _).alloc (Nat.le_refl _) _⟩
        · have hm1 : m = l := by simpa using q1
          have Hr := hid (Hf.out (by omega))
          clear hm1
          go_wp2_with fail
          go_ret
          exact ⟨by rw [Hr.out]; rfl, (Below.refl _ _).alloc (Nat.le_refl _) _⟩
      · have Hm := hid (show (m.natAbs : Int) ≠ l from by omega)
        go_wp2_with fail
        go_roundw
        case rel => exact ⟨j + 1, by omega, by go_num, by
          rw [Htk.out]
          intro e he
          rcases List.mem_append.1 he with he | he
          · exact hno.out e he
          · rw [List.mem_singleton.1 he, Hme.out]; exact Hm.out, trivial⟩
        case measure => simp [intOf]; omega
    · have hjl : T.L.take j = T.L := List.take_of_length_le (by omega)
      rw [hjl] at hno
      have Hr := hid (index_none hno.out)
      clear hjl
      go_wp2_with fail
      go_ret
      exact ⟨by rw [Hr.out]; rfl, (Below.refl _ _).alloc (Nat.le_refl _) _⟩

/-! ### Free, New, Errno -/
set_option maxHeartbeats 1000000 in
theorem rfree_any {P : Nat → Prop} {w : World} {v : Value} {T : Tr} (hv : RefRd P w v T) (hw : T.WF) {l : Int} (hl : I64 l) :
    Calls Try.prog 39 #[v, .int .i64 l] w fun r w' => r = .returned (.bool (T.freeB l)) ∧ Below w.heap.size w w' := by
  have h2 := hw.vars
  have Hw := hid hw
  have Hl := hid hl
  obtain ⟨A, c, ts, rfl, hL, he⟩ := hv
  have Hv : Hid (RefRd P (w.alloc (.cells #[.int .i64 T.vars, .int .i64 T.depth, .slice A T.L.length c] 48)) (.agg #[.int .i64 T.vars, .int .i64 T.depth, .slice A T.L.length c]) T) :=
    RefRd.below ⟨A, c, ts, rfl, hL, he⟩ ((Below.refl _ _).alloc (Nat.le_refl _) _)
  have hf : T.freeB l = (decide (l ≠ 0) && decide (-(T.vars : Int) ≤ l) && decide (l ≤ (T.vars : Int)) && (T.value l == 0)) := by
    unfold Tr.freeB
    congr 1
  rw [hf]
  generalize hx : T.value l = x
  have Hx := hid hx
  clear hw hl hL he hf hx
  by_cases h0 : l = 0
  · have e : (decide (l ≠ 0) && decide (-(T.vars : Int) ≤ l) && decide (l ≤ (T.vars : Int)) && (x == 0)) = false := by simp [h0]
    rw [e]
    clear e
    go_enter Try.func39, Try.ntmps39
    go_wp2_with fail
    go_ret
    exact ⟨rfl, (Below.refl _ _).alloc (Nat.le_refl _) _⟩
  · have hq : (l != 0) = true := by simpa using h0
    by_cases hlo : -(T.vars : Int) ≤ l
    · by_cases hhi : l ≤ (T.vars : Int)
      · have e : (decide (l ≠ 0) && decide (-(T.vars : Int) ≤ l) && decide (l ≤ (T.vars : Int)) && (x == 0)) = (x == 0) := by simp [h0, hlo, hhi]
        rw [e]
        clear e
        go_enter Try.func39, Try.ntmps39
        go_wp2_with (go_at_call 40; refine (rvalue_any Hv.out Hw.out Hl.out).mono ?_; rintro r w1 ⟨rfl, b1⟩; rw [Hx.out])
        go_ret
        exact ⟨rfl, ((Below.refl _ _).alloc (Nat.le_refl _) _).trans (b1.mono (by simp))⟩
      · have e : (decide (l ≠ 0) && decide (-(T.vars : Int) ≤ l) && decide (l ≤ (T.vars : Int)) && (x == 0)) = false := by simp [hhi]
        rw [e]
        clear e
        go_enter Try.func39, Try.ntmps39
        go_wp2_with fail
        go_ret
        exact ⟨rfl, (Below.refl _ _).alloc (Nat.le_refl _) _⟩
    · have e : (decide (l ≠ 0) && decide (-(T.vars : Int) ≤ l) && decide (l ≤ (T.vars : Int)) && (x == 0)) = false := by simp [hlo]
      rw [e]
      clear e
      go_enter Try.func39, Try.ntmps39
      go_wp2_with fail
      go_ret
      exact ⟨rfl, (Below.refl _ _).alloc (Nat.le_refl _) _⟩
theorem rnew_any {w : World} {n : Int} :
    Calls Try.prog 23 #[.int .i64 n] w fun r w' => r = .returned (.tuple #[.agg #[.int .i64 n, .int .i64 0, .slice none 0 0], .bool (decide (0 ≤ n) && decide (n ≤ 65536))]) ∧ Below w.heap.size w w' := by
  by_cases h0 : 0 ≤ n
  all_goals
    go_enter Try.func23, Try.ntmps23
    go_wp2_with fail
    exact bodyPost_ret (v := .tuple #[.agg #[.int .i64 n, .int .i64 0, .slice none 0 0], .bool (decide (0 ≤ n) && decide (n ≤ 65536))]) (by simp [results, Try.results23, go_sem, h0] <;> omega) rfl ⟨rfl, (Below.refl _ _).alloc (Nat.le_refl _) _⟩
theorem errno_any {w : World} {q : Bool} :
    Calls Try.prog 24 #[.bool q] w fun r w' => r = .returned (.int .i64 (err q)) ∧ w' = w := by
  cases q
  all_goals
    go_enter Try.func24, Try.ntmps24
    go_wp2_with fail
    go_ret
    exact ⟨rfl, rfl⟩

end Go.Proofs.Ytbghfdhijlpogaa
