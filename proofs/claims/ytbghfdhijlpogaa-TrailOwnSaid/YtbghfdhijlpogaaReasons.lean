/-
  ostlerlaw28.TrailReasons returns true, whatever comes in, and writes nothing that was there.
-/
import Derived.Test.YtbghfdhijlpogaaTwalkK
namespace Go.Proofs.Ytbghfdhijlpogaa
open Go.RowKit

/-! ### plain -/
theorem Tr.levelOf_at {T : Tr} (h : T.WF) {i : Nat} {e : Ent} (he : T.L[i]? = some e) : T.levelOf e.v = e.level := by
  simp [Tr.levelOf, h.idx he, he]
theorem Tr.indexOf_at {T : Tr} (h : T.WF) {i : Nat} {e : Ent} (he : T.L[i]? = some e) : T.indexOf e.v = i := by
  simp [Tr.indexOf, h.idx he]
theorem Tr.reasonOf_at {T : Tr} (h : T.WF) {i : Nat} {e : Ent} (he : T.L[i]? = some e) : T.reasonOf e.v = e.reason := by
  simp [Tr.reasonOf, h.idx he, he]
theorem Tr.value_at {T : Tr} {i : Nat} {e : Ent} (he : T.L[i]? = some e) : T.value e.lit = 1 := by
  have : e.lit ∈ T.lits := List.mem_map.2 ⟨e, List.mem_of_getElem? he, rfl⟩
  simp [Tr.value, this]
theorem Tr.value_neg {T : Tr} (h : T.WF) {i : Nat} {e : Ent} (he : T.L[i]? = some e) : T.value (-e.lit) = -1 := by
  have h1 : e.lit ∈ T.lits := List.mem_map.2 ⟨e, List.mem_of_getElem? he, rfl⟩
  have h2 : ¬ -e.lit ∈ T.lits := fun hm => by
    obtain ⟨j, f, hf, hl⟩ := Tr.mem_lits.1 hm
    have := h.uniq he hf (by unfold Ent.v; omega)
    subst this
    rw [he] at hf
    have := Option.some.inj hf
    subst this
    have := (h.lit e (List.mem_of_getElem? he)).1
    omega
  simp [Tr.value, h1, h2]
theorem reason_false {T : Tr} (h : T.WF) {i : Nat} {e : Ent} (he : T.L[i]? = some e) {x : Int} (hx : x ∈ e.reason) (hne : x ≠ e.lit) :
    T.value x = -1 ∧ T.indexOf x.natAbs < i := by
  obtain ⟨h1, h2⟩ := h.reason i e he
  by_cases hs : i ∈ T.starts
  · rw [h1 hs] at hx; cases hx
  · rcases (h2 hs).2 x hx with h3 | ⟨j, hj, f, hf, hfx⟩
    · exact absurd h3 hne
    · have e1 : x = -f.lit := by omega
      have e2 : ((x.natAbs : Nat) : Int) = f.v := by unfold Ent.v; omega
      rw [e2, e1, Tr.value_neg h hf, Tr.indexOf_at h hf]
      exact ⟨rfl, by omega⟩
theorem reason_small {T : Tr} (h : T.WF) {i : Nat} {e : Ent} (he : T.L[i]? = some e) {x : Int} (hx : x ∈ e.reason) : -65536 ≤ x ∧ x ≤ 65536 := by
  obtain ⟨h1, h2⟩ := h.reason i e he
  have hb : ∀ (f : Ent), f ∈ T.L → -65536 ≤ f.lit ∧ f.lit ≤ 65536 := fun f hf => by
    have := (h.lit f hf).2
    have := h.vars
    unfold Ent.v at *; omega
  by_cases hs : i ∈ T.starts
  · rw [h1 hs] at hx; cases hx
  · rcases (h2 hs).2 x hx with h3 | ⟨j, hj, f, hf, hfx⟩
    · subst h3; exact hb e (List.mem_of_getElem? he)
    · have := hb f (List.mem_of_getElem? hf); omega
/-- How many levels begin before position i. -/
def Tr.lev (T : Tr) (i : Nat) : Nat := T.starts.countP (fun s => s < i)
theorem countP_succ (i : Nat) : ∀ l : List Nat, l.countP (fun s => s < i + 1) = l.countP (fun s => s < i) + l.count i
  | [] => rfl
  | x :: l => by
    rw [List.countP_cons, List.countP_cons, List.count_cons, countP_succ i l]
    by_cases h1 : x < i
    · have : ¬ x = i := by omega
      simp [h1, this, show x < i + 1 by omega]
      omega
    · by_cases h2 : x = i
      · subst h2; simp; omega
      · simp [h1, h2, show ¬ x < i + 1 by omega]
theorem Tr.lev_level {T : Tr} (h : T.WF) {i : Nat} {e : Ent} (he : T.L[i]? = some e) : e.level = T.lev (i + 1) := by
  rw [h.level i e he, Tr.lev, List.countP_eq_length_filter]
  congr 2
  funext s
  simp [Nat.lt_succ_iff]
theorem count_one : ∀ {l : List Nat} {i : Nat}, l.Pairwise (· < ·) → i ∈ l → l.count i = 1
  | x :: l, i, h, hi => by
    rw [List.pairwise_cons] at h
    rw [List.count_cons]
    rcases List.mem_cons.1 hi with rfl | hi
    · have : l.count i = 0 := List.count_eq_zero_of_not_mem fun hm => by have := h.1 i hm; omega
      simp [this]
    · have h1 := h.1 i hi
      rw [count_one h.2 hi]
      simp; omega
theorem Tr.lev_start {T : Tr} (h : T.WF) {i : Nat} (hi : i ∈ T.starts) : T.lev (i + 1) = T.lev i + 1 := by
  unfold Tr.lev
  rw [countP_succ, count_one h.starts hi]
theorem Tr.lev_not {T : Tr} {i : Nat} (hi : i ∉ T.starts) : T.lev (i + 1) = T.lev i := by
  unfold Tr.lev
  rw [countP_succ, List.count_eq_zero_of_not_mem hi, Nat.add_zero]
theorem Tr.lev_all {T : Tr} (h : T.WF) : T.lev T.L.length = T.starts.length := by
  unfold Tr.lev
  rw [List.countP_eq_length]
  intro s hs
  simpa using h.below s hs
/-- Reasons are short. -/
def Tr.short (T : Tr) : Prop := ∀ e ∈ T.L, e.reason.length ≤ 20
theorem short_op {T : Tr} (h : T.short) (x : Opd) : (T.op x).short := by
  unfold Tr.op
  split
  · unfold Tr.dec
    split
    · intro e he
      rcases List.mem_append.1 he with he | he
      · exact h e he
      · rw [List.mem_singleton.1 he]; simp
    · exact h
  · split
    · unfold Tr.imp
      split
      · intro e he
        rcases List.mem_append.1 he with he | he
        · exact h e he
        · rw [List.mem_singleton.1 he]; simp; omega
      · exact h
    · split
      · unfold Tr.back
        split
        · intro e he
          exact h e (List.mem_of_mem_take he)
        · exact h
      · exact h
theorem short_ops (os : List Opd) : ∀ {T : Tr}, T.short → (T.ops os).short := by
  induction os with
  | nil => intro T h; exact h
  | cons x os ih => intro T h; exact ih (short_op h x)

/-! ### the walk -/
set_option maxRecDepth 100000 in
set_option maxHeartbeats 8000000 in
theorem reasons_walk {w : World} {v : Value} {os : List Opd} (hv : OpsRd w v os) :
    Calls Try.prog 5 #[v] w fun r w' => r = .returned (.bool true) ∧ Below w.heap.size w w' := by
  go_enter Try.func5, Try.ntmps5
  go_wp2_with fail
  refine (played_any hv).mono ?_
  rintro r w1 ⟨b, rfl, t1, b1⟩
  have hsh : ((⟨8, [], []⟩ : Tr).ops (os.take 40)).short := short_ops _ (by simp [Tr.short])
  generalize (⟨8, [], []⟩ : Tr).ops (os.take 40) = T at t1 hsh
  go_wp2_with fail
  refine (lits_any t1).mono ?_
  rintro r w2 ⟨⟨u, rfl, o2⟩, b2⟩
  obtain ⟨Au, cu, rfl, _⟩ := o2.form
  have t2 := t1.below b2
  have h8 := t1.wf.len
  have h9 := t1.wf.vars
  have Hwf := hid t1.wf
  have Hsh := hid hsh
  have O2 := hid o2
  have s1 := b1.size
  have s2 := b2.size
  clear o2 t1 hsh
  go_wp2_with fail
  go_loopw [24, 6, 7, 8, 9, 10, 5] (fun i _ _ _ _ _ lv W => ∃ (j n : Nat), j ≤ T.L.length ∧ i = .int .i64 j ∧ lv = .int .i64 n ∧ Hid (n = T.lev j) ∧ n ≤ j ∧ Below w2.heap.size w2 W) (fun i _ _ _ _ _ _ _ => T.L.length - (intOf i).toNat)
  case atStart => exact ⟨0, 0, by omega, rfl, rfl, by simp [Tr.lev, Hid], by omega, Below.refl _ _⟩
  case round =>
    obtain ⟨j, n, hj, rfl, rfl, hn, hnj, hb⟩ := hrel
    have s3 := hb.size
    by_cases hlt : j < T.L.length
    · obtain ⟨_, hcell⟩ := O2.out.rd.cell
      obtain ⟨g, o, rfl, _, hg, hc0⟩ := hcell j hlt
      have hc := (hb.cell (p := ⟨g, o + j, none⟩) hg).trans hc0
      obtain ⟨l, hl, hl1, hl2, _⟩ := lit_at Hwf.out (s := 0) (j := j) (by omega)
      rw [List.drop_zero] at hl
      rw [hl] at hc
      obtain ⟨e, he⟩ : ∃ e, T.L[j]? = some e := ⟨T.L[j], by simp [hlt]⟩
      have hel : e.lit = l := by
        rw [← hl, nth_eq (by simpa [Tr.lits] using hlt)]
        rw [List.getElem?_eq_getElem hlt] at he
        simp [Tr.lits, Option.some.inj he]
      obtain ⟨q, hq⟩ : ∃ q, q = l.natAbs := ⟨_, rfl⟩
      have hqe : e.v = q := by unfold Ent.v; rw [hel, hq]
      have hmx : (if l < -l then -l else l) = (q : Int) := by split <;> omega
      have F1 := hid (Tr.indexOf_at Hwf.out he)
      have F2 := hid (Tr.value_at he)
      have F3 := hid (Tr.value_neg Hwf.out he)
      have F4 := hid (Tr.reasonOf_at Hwf.out he)
      have F5 := hid (Tr.levelOf_at Hwf.out he)
      have F6 := hid (Hwf.out.reason j e he)
      have F7 := hid ((Tr.lev_level Hwf.out he))
      have F8 : Hid (∀ x ∈ e.reason, x ≠ l → T.value x = -1 ∧ T.indexOf x.natAbs < j) := fun x hx hne => reason_false Hwf.out he hx (by rw [hel]; exact hne)
      have F9 : Hid (∀ x ∈ e.reason, -65536 ≤ x ∧ x ≤ 65536) := fun x hx => reason_small Hwf.out he hx
      have F10 := Hsh.out e (List.mem_of_getElem? he)
      rw [hel, hqe] at *
      generalize e.reason = r at *
      generalize e.level = lev at *
      have Tj := hid (t2.below hb)
      have hq3 : q = l.natAbs := hq
      have Hq := hid hq3
      have hrn : r.length ≤ 17592186044416 := by omega
      clear hcell hc0 hl hel hqe hq hq3 he
      -- the level and the reason, as the switch looks at them
      have key : ∃ k : Nat, Hid (T.lev (j + 1) = k) ∧ k ≤ j + 1 ∧ lev = k ∧ ((k = n + 1 ∧ r = []) ∨ (k = n ∧ l ∈ r)) := by
        by_cases hs : j ∈ T.starts
        · have h1 := Tr.lev_start Hwf.out hs
          exact ⟨_, hid rfl, by rw [h1]; have := hn.out; omega, F7.out, .inl ⟨by rw [h1, hn.out], F6.out.1 hs⟩⟩
        · have h1 := Tr.lev_not hs
          exact ⟨_, hid rfl, by rw [h1]; have := hn.out; omega, F7.out, .inr ⟨by rw [h1, hn.out], (F6.out.2 hs).1⟩⟩
      obtain ⟨k, Hk, hkj, rfl, hk⟩ := key
      clear F6 F7
      go_wp2_with fail
      refine (index_any Tj.out).mono ?_
      rintro x w4 ⟨rfl, b4⟩
      rw [F1.out]
      have T4 := hid (Tj.out.below b4)
      have s4 := b4.size
      go_wp2_with fail
      refine (value_any T4.out (by unfold I64; omega)).mono ?_
      rintro x w5 ⟨rfl, b5⟩
      rw [F2.out]
      have T5 := hid (T4.out.below b5)
      have s5 := b5.size
      go_wp2_with fail
      refine (value_any T5.out (by unfold I64; omega)).mono ?_
      rintro x w6 ⟨rfl, b6⟩
      rw [F3.out]
      have T6 := hid (T5.out.below b6)
      have s6 := b6.size
      go_wp2_with fail
      refine (reason_any T6.out (by rw [F4.out]; exact hrn)).mono ?_
      rintro x w7 ⟨⟨ur, rfl, o7⟩, b7⟩
      rw [F4.out] at o7
      obtain ⟨Ar, cr, rfl, _⟩ := o7.form
      have T7 := hid (T6.out.below b7)
      have s7 := b7.size
      have O7 := hid o7
      clear o7
      go_wp2_with fail
      refine (level_any T7.out).mono ?_
      rintro x w8 ⟨rfl, b8⟩
      rw [F5.out]
      have T8 := hid (T7.out.below b8)
      have O8 := hid (O7.out.below b8)
      have s8 := b8.size
      have B8 : Below w2.heap.size w2 w8 := hb.trans ((b4.mono (by omega)).trans ((b5.mono (by omega)).trans ((b6.mono (by omega)).trans ((b7.mono (by omega)).trans (b8.mono (by omega))))))
      clear b4 b5 b6 b7 b8 T4 T5 T6 T7 O7 F1 F2 F3 F4 F5 hb
      rcases hk with ⟨rfl, hre⟩ | ⟨hkn, hin⟩
      · have Hr := hid hre
        clear hre
        have hr0 : ((r.length : Int) != 0) = false := by rw [Hr.out]; rfl
        go_wp2_with fail
        go_loopw [77, 11, 13] (fun x own _ W => ∃ m c : Nat, m ≤ r.length ∧ x = .int .i64 m ∧ own = .int .i64 c ∧ Hid (c = (r.take m).count l) ∧ c ≤ m ∧ Below w8.heap.size w8 W) (fun x _ _ _ => r.length - (intOf x).toNat)
        case atStart => exact ⟨0, 0, by omega, rfl, rfl, by simp [Hid], by omega, Below.refl _ _⟩
        case round =>
          obtain ⟨m, c, hm, rfl, rfl, hcm, hcm2, hbm⟩ := hrel
          by_cases hlt2 : m < r.length
          · obtain ⟨_, hcell2⟩ := O8.out.rd.cell
            obtain ⟨g2, o2, rfl, _, hg2, hc20⟩ := hcell2 m hlt2
            have hc2 := (hbm.cell (p := ⟨g2, o2 + m, none⟩) hg2).trans hc20
            obtain ⟨x, hx⟩ : ∃ x, nth r m = x := ⟨_, rfl⟩
            have hxm : x ∈ r := by rw [← hx]; exact nth_mem hlt2
            obtain ⟨x1, x2⟩ := F9.out x hxm
            have Htk : Hid ((r.take (m + 1)).count l = (r.take m).count l + if x = l then 1 else 0) := by
              rw [take_nth hlt2, List.count_append, hx]
              by_cases hxl : x = l <;> simp [hxl, Hid]
            have Hx8 := hid (F8.out x hxm)
            have Tm := hid (T8.out.below hbm)
            rw [hx] at hc2
            have sm := hbm.size
            clear hcell2 hc20 hx hxm
            by_cases hxl : x = l
            · have hxq : (x == l) = true := by simpa using hxl
              have Hxl := hid hxl
              clear hxl
              go_wp2_with fail
              go_roundw
              case rel => exact ⟨m + 1, c + 1, by omega, by go_num, by go_num, by rw [Hid, Htk.out, if_pos Hxl.out, ← hcm.out], by omega, hbm⟩
              case measure => simp [intOf]; omega
            · have hxq : (x == l) = false := by simpa using hxl
              obtain ⟨y1, y2⟩ := Hx8.out hxl
              have Hy1 := hid y1
              have hmx2 : (if x < -x then -x else x) = ((x.natAbs : Nat) : Int) := by split <;> omega
              obtain ⟨ix, hix⟩ : ∃ ix, T.indexOf x.natAbs = ix := ⟨_, rfl⟩
              rw [hix] at y2
              have Hix := hid hix
              have hd2 : decide ((j : Int) ≤ ix) = false := by simp; omega
              have Hxl := hid hxl
              generalize hqx : x.natAbs = qx at *
              clear hxl y1 hix hqx
              go_wp2_with fail
              refine (value_any Tm.out (by unfold I64; omega)).mono ?_
              rintro xx w9 ⟨rfl, b9⟩
              rw [Hy1.out]
              have T9 := hid (Tm.out.below b9)
              have s9 := b9.size
              go_wp2_with fail
              refine (index_any T9.out).mono ?_
              rintro xx w10 ⟨rfl, b10⟩
              rw [Hix.out]
              go_wp2_with fail
              go_roundw
              case rel => exact ⟨m + 1, c, by omega, by go_num, by go_num, by rw [Hid, Htk.out, if_neg Hxl.out, ← hcm.out]; rfl, by omega, hbm.trans ((b9.mono (by omega)).trans (b10.mono (by omega)))⟩
              case measure => simp [intOf]; omega
          · have hme : m = r.length := by omega
            have Hme := hid hme
            clear hme
            have Hz : Hid (c = 0) := by have := hcm.out; rw [Hr.out] at this; simpa [Hid] using this
            have hr0 : (r.length : Int) = 0 := by rw [Hr.out]; rfl
            go_wp2_with fail
            go_roundw
            case rel => exact ⟨j + 1, n + 1, by omega, by go_num, by go_num, hid Hk.out.symm, by omega, B8.trans (hbm.mono (by omega))⟩
            case measure => simp [intOf]; omega
      · have Hin := hid hin
        subst hkn
        have hk1 : ((lev : Int) == (lev : Int) + 1) = false := by simp only [beq_eq_false_iff_ne]; omega
        have hr0 : ((r.length : Int) == 0) = false := by
          have := List.length_pos_of_mem Hin.out
          simp only [beq_eq_false_iff_ne]; omega
        have hrp : (0 : Int) < (r.length : Int) := by
          have := List.length_pos_of_mem Hin.out
          omega
        clear hin
        go_wp2_with fail
        go_loopw [77, 11, 13] (fun x own _ W => ∃ m c : Nat, m ≤ r.length ∧ x = .int .i64 m ∧ own = .int .i64 c ∧ Hid (c = (r.take m).count l) ∧ c ≤ m ∧ Below w8.heap.size w8 W) (fun x _ _ _ => r.length - (intOf x).toNat)
        case atStart => exact ⟨0, 0, by omega, rfl, rfl, by simp [Hid], by omega, Below.refl _ _⟩
        case round =>
          obtain ⟨m, c, hm, rfl, rfl, hcm, hcm2, hbm⟩ := hrel
          by_cases hlt2 : m < r.length
          · obtain ⟨_, hcell2⟩ := O8.out.rd.cell
            obtain ⟨g2, o2, rfl, _, hg2, hc20⟩ := hcell2 m hlt2
            have hc2 := (hbm.cell (p := ⟨g2, o2 + m, none⟩) hg2).trans hc20
            obtain ⟨x, hx⟩ : ∃ x, nth r m = x := ⟨_, rfl⟩
            have hxm : x ∈ r := by rw [← hx]; exact nth_mem hlt2
            obtain ⟨x1, x2⟩ := F9.out x hxm
            have Htk : Hid ((r.take (m + 1)).count l = (r.take m).count l + if x = l then 1 else 0) := by
              rw [take_nth hlt2, List.count_append, hx]
              by_cases hxl : x = l <;> simp [hxl, Hid]
            have Hx8 := hid (F8.out x hxm)
            have Tm := hid (T8.out.below hbm)
            rw [hx] at hc2
            have sm := hbm.size
            clear hcell2 hc20 hx hxm
            by_cases hxl : x = l
            · have hxq : (x == l) = true := by simpa using hxl
              have Hxl := hid hxl
              clear hxl
              go_wp2_with fail
              go_roundw
              case rel => exact ⟨m + 1, c + 1, by omega, by go_num, by go_num, by rw [Hid, Htk.out, if_pos Hxl.out, ← hcm.out], by omega, hbm⟩
              case measure => simp [intOf]; omega
            · have hxq : (x == l) = false := by simpa using hxl
              obtain ⟨y1, y2⟩ := Hx8.out hxl
              have Hy1 := hid y1
              have hmx2 : (if x < -x then -x else x) = ((x.natAbs : Nat) : Int) := by split <;> omega
              obtain ⟨ix, hix⟩ : ∃ ix, T.indexOf x.natAbs = ix := ⟨_, rfl⟩
              rw [hix] at y2
              have Hix := hid hix
              have hd2 : decide ((j : Int) ≤ ix) = false := by simp; omega
              have Hxl := hid hxl
              generalize hqx : x.natAbs = qx at *
              clear hxl y1 hix hqx
              go_wp2_with fail
              refine (value_any Tm.out (by unfold I64; omega)).mono ?_
              rintro xx w9 ⟨rfl, b9⟩
              rw [Hy1.out]
              have T9 := hid (Tm.out.below b9)
              have s9 := b9.size
              go_wp2_with fail
              refine (index_any T9.out).mono ?_
              rintro xx w10 ⟨rfl, b10⟩
              rw [Hix.out]
              go_wp2_with fail
              go_roundw
              case rel => exact ⟨m + 1, c, by omega, by go_num, by go_num, by rw [Hid, Htk.out, if_neg Hxl.out, ← hcm.out]; rfl, by omega, hbm.trans ((b9.mono (by omega)).trans (b10.mono (by omega)))⟩
              case measure => simp [intOf]; omega
          · have hme : m = r.length := by omega
            have Hme := hid hme
            clear hme
            have hc0 : 0 < c := by
              have := hcm.out
              rw [Hme.out, List.take_length] at this
              rw [this]
              exact List.count_pos_iff.2 Hin.out
            have hc1 : ((c : Int) == 0) = false := by simp; omega
            go_wp2_with fail
            go_roundw
            case rel => exact ⟨j + 1, lev, by omega, by go_num, rfl, hid Hk.out.symm, by omega, B8.trans (hbm.mono (by omega))⟩
            case measure => simp [intOf]; omega
    · have hjl : j = T.L.length := by omega
      have hn' : n = T.depth := by rw [hn.out, hjl, Tr.lev_all Hwf.out]; rfl
      have Hn' := hid hn'
      clear hn' hjl
      go_wp2_with fail
      refine (depth_any (t2.below hb)).mono ?_
      rintro x w4 ⟨rfl, rfl⟩
      rw [← Hn'.out]
      go_wp2_with fail
      refine awake_any.mono ?_
      rintro x w5 ⟨rfl, b5⟩
      go_wp2_with fail
      go_ret
      exact ⟨rfl, (b1.trans (b2.mono s1)).trans ((hb.mono (by omega)).trans (b5.mono (by omega)))⟩

end Go.Proofs.Ytbghfdhijlpogaa
