/-
  LearnFollows: the walk.
-/
import Derived.Test.YtanhacdadgbjdaaLnT
namespace Go.Proofs.Ytanhacdadgbjdaa
open Go.RowKit

theorem topt {a b : Nat} (h : a ≤ b) (h2 : b ≤ a) : a = b := by omega
/-- What holds when j literals of the trail are taken up. -/
structure Taken (T : Tr) (cs : List Int) (j : Nat) (xs : List Int) (cls : List (List Int)) : Prop where
  vals : Vals T xs
  low : ∀ q, q < j → T.lvOf (nth T.lits q) = 0 → gv xs (nth T.lits q) = 1
  first : cs ∈ cls
  why : ∀ q, q < j → T.reasonOf ((nth T.lits q).natAbs : Nat) ≠ [] → T.reasonOf ((nth T.lits q).natAbs : Nat) ∈ cls
  len : cls.length ≤ 1 + j
  small : ∀ cl ∈ cls, cl.length ≤ 1000 ∧ ∀ x ∈ cl, x ≠ 0 ∧ x.natAbs < 31
theorem Taken.start {T : Tr} (h : T.WF) (hf : T.few) {cs : List Int} (hc : ∀ x ∈ cs, -x ∈ T.lits) (hl : cs.length ≤ 100) : Taken T cs 0 (List.replicate 31 0) [cs] := by
  refine ⟨vals_new, fun q hq => by omega, by simp, fun q hq => by omega, by simp, fun cl hcl => ?_⟩
  rw [List.mem_singleton.1 hcl]
  refine ⟨by omega, fun x hx => ?_⟩
  have := lits_few h hf (hc x hx)
  omega
theorem Taken.next {T : Tr} (h : T.WF) (hf : T.few) {cs xs : List Int} {j : Nat} {cls : List (List Int)} (t : Taken T cs j xs cls) (hj : j < T.lits.length) {l : Int} (hl : nth T.lits j = l)
    {xs' : List Int} (hx : (T.lvOf l = 0 ∧ xs' = sv xs l) ∨ (T.lvOf l ≠ 0 ∧ xs' = xs))
    {cls' : List (List Int)} (hc : (T.reasonOf (l.natAbs : Nat) = [] ∧ cls' = cls) ∨ cls' = cls ++ [T.reasonOf (l.natAbs : Nat)]) : Taken T cs (j + 1) xs' cls' := by
  have hm : l ∈ T.lits := by rw [← hl]; exact nth_mem hj
  refine ⟨?_, fun q hq h0 => ?_, ?_, fun q hq h0 => ?_, ?_, fun cl hcl => ?_⟩
  · rcases hx with ⟨_, rfl⟩ | ⟨_, rfl⟩
    · exact (t.vals.put h hf hm).1
    · exact t.vals
  · by_cases e : q = j
    · rw [e, hl] at h0 ⊢
      rcases hx with ⟨_, rfl⟩ | ⟨e2, _⟩
      · exact (t.vals.put h hf hm).2.1
      · exact absurd h0 e2
    · have h1 := t.low q (by omega) h0
      rcases hx with ⟨_, rfl⟩ | ⟨_, rfl⟩
      · exact (t.vals.put h hf hm).2.2 _ (nth_mem (by omega)) h1
      · exact h1
  · rcases hc with ⟨_, rfl⟩ | rfl
    · exact t.first
    · exact List.mem_append_left _ t.first
  · by_cases e : q = j
    · rw [e, hl] at h0 ⊢
      rcases hc with ⟨e2, _⟩ | rfl
      · exact absurd e2 h0
      · simp
    · have h1 := t.why q (by omega) h0
      rcases hc with ⟨_, rfl⟩ | rfl
      · exact h1
      · exact List.mem_append_left _ h1
  · have := t.len
    rcases hc with ⟨_, rfl⟩ | rfl
    · omega
    · simp; omega
  · rcases hc with ⟨_, rfl⟩ | rfl
    · exact t.small cl hcl
    · rcases List.mem_append.1 hcl with e | e
      · exact t.small cl e
      · rw [List.mem_singleton.1 e]
        exact reason_small h hf hm
theorem Taken.ends {T : Tr} (h : T.WF) (hf : T.few) {cs xs : List Int} {cls : List (List Int)} (hok : okFor T cs = true) (t : Taken T cs T.lits.length xs cls)
    {zs : List Int} (hz : Vals T zs) (hext : ∀ y ∈ T.lits, gv xs y = 1 → gv zs y = 1) (hL : ∀ x ∈ T.learnt cs, gv zs (-x) = 1) :
    ∀ ys : List Int, ys.length = 31 → Tri ys → (∀ x : Int, x ≠ 0 → x.natAbs < 31 → gv zs x = 1 → gv ys x = 1) → ¬ Calm (gv ys) cls := by
  intro ys _ _ hy
  obtain ⟨c, rest, hLe, l1, _, l2, _⟩ := learnt_form h hok
  have hneg : ∀ x ∈ T.learnt cs, -x ∈ T.lits := fun x hx => by
    rw [hLe] at hx
    rcases List.mem_cons.1 hx with e | e
    · rw [e]; exact l1
    · exact (l2 x e).1
  have hin : ∀ y ∈ T.lits, gv zs y = 1 → gv ys y = 1 := fun y hym h1 => by
    obtain ⟨y0, y1⟩ := lits_few h hf hym
    exact hy y y0 y1 h1
  have _ := hz
  refine not_calm h hok (V := gv ys) (fun x hx h1 => by rw [gv_neg ys (lits_few h hf hx).1, h1]) (fun m hm hl => ?_) (fun x hx => hin _ (hneg x hx) (hL x hx)) t.first (fun m hm hne => ?_)
  · obtain ⟨q, hq, e⟩ := List.mem_iff_getElem.1 hm
    rw [← e, ← nth_eq hq] at hl ⊢
    exact hin _ (nth_mem hq) (hext _ (nth_mem hq) (t.low q hq hl))
  · obtain ⟨q, hq, e⟩ := List.mem_iff_getElem.1 hm
    rw [← e, ← nth_eq hq] at hne ⊢
    exact t.why q hq hne

set_option maxRecDepth 100000 in
set_option maxHeartbeats 4000000 in
theorem follows_walk {w : World} {v v2 : Value} {os : List Mvd} {fs : List Int} {R2 : Option Addr} {c2 : Nat} (hm : MvRd w v os) (hr : Rd w (fun _ => True) 1 v2 fs.length (ints fs) ∧ (∀ y ∈ fs, I64 y) ∧ v2 = .slice R2 fs.length c2) :
    Calls Try.prog 3 #[v, v2] w fun r w' => r = .returned (.bool true) ∧ Below w.heap.size w w' := by
  obtain ⟨hr, hi, rfl⟩ := hr
  obtain ⟨R, c, rfl⟩ : ∃ R c, v = .slice R os.length c := by
    obtain ⟨A, cap, h, _⟩ := hm
    exact ⟨A, cap, h⟩
  obtain ⟨n, hn⟩ : ∃ n, os.length = n := ⟨_, rfl⟩
  obtain ⟨n2, hn2⟩ : ∃ n, fs.length = n := ⟨_, rfl⟩
  rw [hn] at hm ⊢
  rw [hn2] at hr ⊢
  have Hm := hid hm
  have Hr := hid hr
  have Hi := hid hi
  clear hm hr hi hn hn2
  go_enter Try.func3, Try.ntmps3
  go_wp2_with fail
  refine awake_any.mono ?_
  rintro r w1 ⟨rfl, b1⟩
  have B1 := hid b1
  have s1 := b1.size
  clear b1
  go_wp2_with fail
  refine (built_any (Hm.out.below B1.out)).mono ?_
  rintro r w2 ⟨b, T, rfl, ht, hf, b2⟩
  have B2 : Hid (Below w.heap.size w w2) := hid (B1.out.trans (b2.mono (by omega)))
  have s2 := b2.size
  have Ht := hid ht.restrict
  have Hf := hid hf
  clear ht hf b2
  by_cases h100 : 100 < n2
  · have x1 : (100 : Int) < (n2 : Int) := by omega
    go_wp2_with fail
    go_ret
    exact ⟨rfl, B2.out⟩
  · have x1 : ((100 : Int) < (n2 : Int)) = False := by simp; omega
    go_wp2_with fail
    refine (clause_any Ht.out (few_small Hf.out) (Hr.out.below B2.out) Hi.out (by omega)).mono ?_
    rintro r w3 ⟨⟨cs, R3, c3, rfl, ho3, hcs, hcl⟩, b3⟩
    have B3 : Hid (Below w.heap.size w w3) := hid (B2.out.trans (b3.mono (by omega)))
    have T3 := hid (Ht.out.below b3)
    have s3 := b3.size
    have Ho3 := hid (ho3.rd.mono (G := fun g => w2.heap.size ≤ g ∧ g < w3.heap.size) fun g a e => ⟨e, a⟩)
    have Hcs := hid hcs
    have Hcl := hid hcl
    clear b3 ho3 hcs hcl
    go_wp2_with fail
    refine (learn_any T3.out Ho3.out (lits_i64 T3.out.wf Hcs.out) (by have := Hcl.out; omega) (few_small Hf.out) (few_reasons Hf.out)).mono ?_
    rintro r w4 ⟨⟨R4, c4, rfl, hr4⟩, b4⟩
    have B4 : Hid (Below w.heap.size w w4) := hid (B3.out.trans (b4.mono (by omega)))
    have T4 := hid (T3.out.below b4)
    have H34 := hid (Ho3.out.below b4)
    have s4 := b4.size
    clear b4 Ho3
    by_cases hok : okFor T cs = true
    · have e1 : T.ans cs = T.learnt cs := by unfold Tr.ans; rw [if_pos hok]
      have e3 : lerr (okFor T cs) = 0 := by rw [hok]; rfl
      obtain ⟨lv, hlv⟩ : ∃ lv, T.ansLv cs = lv := ⟨_, rfl⟩
      rw [e1] at hr4 ⊢
      rw [e3, hlv]
      obtain ⟨L, hL⟩ : ∃ L, T.learnt cs = L := ⟨_, rfl⟩
      rw [hL] at hr4 ⊢
      have hneg : ∀ x ∈ L, -x ∈ T.lits := fun x hx => by
        obtain ⟨c', rest, hLe, l1, _, l2, _⟩ := learnt_form T4.out.wf hok
        rw [← hL, hLe] at hx
        rcases List.mem_cons.1 hx with e | e
        · rw [e]; exact l1
        · exact (l2 x e).1
      obtain ⟨k, hk⟩ : ∃ k, L.length = k := ⟨_, rfl⟩
      have hk1 : k ≤ 30 := by
        have h1 := T4.out.wf.len
        have h2 := Hf.out.vars
        have h3 : (T.learnt cs).length ≤ T.L.length := by
          unfold Tr.learnt Tr.sorted
          refine Nat.le_trans (List.length_filter_le _ _) ?_
          simp [Tr.lits]
        rw [hL] at h3
        omega
      rw [hk] at hr4 ⊢
      have hkc : (k : Int) ≤ (c4 : Int) := by
        obtain ⟨_, A2, c2, hv2, h2, _⟩ := hr4
        injection hv2 with _ _ h3
        omega
      have HL := hid hL
      have Hok := hid hok
      have Hneg := hid hneg
      have Hk := hid hk
      have H4 := hid (hr4.mono (G := fun g => w3.heap.size ≤ g ∧ g < w4.heap.size) fun g a e => ⟨e, a⟩)
      clear e1 e3 hlv hL hok hneg hk hr4
      obtain ⟨i0, hi0, hz0, hz1, hz2⟩ := info_parts info_int
      obtain ⟨g0, hg0⟩ : ∃ g0, w4.heap.size = g0 := ⟨_, rfl⟩
      go_wp2_with (at_make; refine wpList_make1 (n := 31) rfl _ _ _ rfl i0 (.int .i64 0) 8 Try.underlying23 hi0 hz0 hz1 hz2 rfl rfl rfl (by omega) (by omega) ?_; intro w5 ho5 hb5)
      have hr31 : ints (List.replicate 31 0) = List.replicate 31 (.int .i64 0) := by unfold ints; rw [List.map_replicate]
      rw [← hr31] at ho5
      rw [hg0] at ho5
      obtain ⟨bd0, hbd0⟩ : ∃ b, w5.heap.size = b := ⟨_, rfl⟩
      obtain ⟨w6, hw6⟩ : ∃ W, w5.alloc (.cells #[.slice R3 cs.length c3] 23) = W := ⟨_, rfl⟩
      have s5 := hb5.size
      have hgb : g0 < bd0 := by
        have := (ho5.row (g := g0) ⟨by omega, rfl⟩).2
        obtain ⟨_, h⟩ := this
        have := lt_of_block h
        omega
      have b56 : Below w5.heap.size w5 w6 := by rw [← hw6]; exact (Below.refl _ _).alloc (Nat.le_refl _) _
      have s6 : w6.heap.size = bd0 + 1 := by rw [← hw6, World.size_alloc]; omega
      have hrow := own_row w5 (.slice R3 cs.length c3)
      rw [hbd0, hw6] at hrow
      have D6 : Hid (DbOwn w6 (fun g => g = bd0) (fun g => g ≠ g0 ∧ g ≠ bd0) (.slice (some ⟨bd0, 0, none⟩) 1 1) [cs]) := hid ⟨_, hrow, fun i cl hi => by
        cases i with
        | zero =>
          have : cs = cl := by simpa using hi
          subst this
          exact ⟨R3, c3, rfl, (((H34.out.below (hb5)).below b56).mono fun g _ hg => by omega)⟩
        | succ i => simp at hi⟩
      have O6 := hid (ho5.below b56)
      have T6 := hid ((T4.out.below hb5).below b56)
      have B6 : Hid (Below w.heap.size w w6) := hid ((B4.out.trans (hb5.mono (by omega))).trans (b56.mono (by omega)))
      have H46 := hid ((H4.out.below hb5).below b56)
      rw [hw6, hbd0]
      clear hr31 ho5 hb5 b56 hrow hi0 hz0 hz1 hz2 H34 H4 T4 hw6 hbd0 B3 B1 B2 T3 Hm Hr Hi
      refine (lits_any T6.out).mono ?_
      rintro r w7 ⟨⟨u, rfl, hu⟩, b7⟩
      obtain ⟨m, hm⟩ : ∃ m, T.L.length = m := ⟨_, rfl⟩
      rw [hm] at hu
      obtain ⟨A', c7, rfl, _⟩ := hu.form
      have hmc : (m : Int) ≤ (c7 : Int) := by
        obtain ⟨_, A2, c2, hv2, h2, _⟩ := hu.rd
        injection hv2 with _ _ h3
        omega
      have hmm : m ≤ 30 := by
        have h1 := T6.out.wf.len
        have h2 := Hf.out.vars
        omega
      have s7 := b7.size
      have Hu := hid (hu.rd.mono (G := fun g => w6.heap.size ≤ g ∧ g < w7.heap.size) fun g hg hF => ⟨hF, hg⟩)
      have D7 := hid (D6.out.below b7)
      have O7 := hid (O6.out.below b7)
      have T7 := hid (T6.out.below b7)
      have H7 := hid (H46.out.below b7)
      have B7 : Hid (Below w.heap.size w w7) := hid (B6.out.trans (b7.mono (by have := B6.out.size; omega)))
      have hml : T.lits.length = m := by simp [Tr.lits, hm]
      have Hml := hid hml
      have K0 := hid (Taken.start T7.out.wf Hf.out Hcs.out Hcl.out)
      clear hu b7 hm hml D6 O6 T6 H46
      go_wp2_with fail
      go_loopw [12, 14] (fun dv iv W => ∃ (j : Nat) (xs : List Int) (cls : List (List Int)) (Rb : Option Addr) (nb cb bd : Nat), j ≤ m ∧ dv = .slice Rb nb cb ∧ iv = .int .i64 j ∧ bd ≠ g0 ∧ bd < W.heap.size ∧ (bd = bd0 ∨ w7.heap.size ≤ bd) ∧ Hid (cls.length = nb) ∧ Hid (Taken T cs j xs cls) ∧ Hid (DbOwn W (fun g => g = bd) (fun g => g ≠ g0 ∧ g ≠ bd) (.slice Rb nb cb) cls) ∧ Hid (Own W (fun g => g = g0) 3 1 (.slice (some ⟨g0, 0, none⟩) 31 31) 31 (ints xs)) ∧ Hid (Mod (fun g => g = g0 ∨ g = bd0) w7 W)) (fun _ iv _ => m - (intOf iv).toNat)
      case atStart => exact ⟨0, _, [cs], _, 1, 1, bd0, by omega, rfl, rfl, by omega, by omega, .inl rfl, hid rfl, K0, D7, O7, Mod.refl _ _⟩
      case round =>
        obtain ⟨j, xs, cls, Rb, nb, cb, bd, hj, rfl, rfl, hbd, hbdl, hbd1, Hnb, Kj, Dj, Oj, Mj⟩ := hrel
        have hsw := Mj.out.size
        have Tj := hid (T7.out.mod Mj.out fun g _ hf hg => by omega)
        by_cases hlt : j < m
        · have y1 : (j : Int) < (m : Int) := by omega
          obtain ⟨g, o, rfl, hgF, hg, e0⟩ := (Hu.out.mod Mj.out fun g _ hf hg => by omega).cell.2 j hlt
          obtain ⟨l, hlj⟩ : ∃ l, nth T.lits j = l := ⟨_, rfl⟩
          have hml : l ∈ T.lits := by
            rw [← hlj]
            exact nth_mem (by have := Hml.out; omega)
          rw [hlj] at e0
          obtain ⟨hb1, hb2⟩ := lits_small Tj.out.wf hml
          obtain ⟨hf1, hf2⟩ := lits_few Tj.out.wf Hf.out hml
          obtain ⟨v, hv⟩ : ∃ v, l.natAbs = v := ⟨_, rfl⟩
          have hmx : max l (-l) = (v : Int) := by omega
          have hwn : IntKind.i64.wrap (-l) = -l := iw' (by omega) (by omega)
          obtain ⟨lv2, hlv⟩ : ∃ lv, T.levelOf (v : Int) = lv := ⟨_, rfl⟩
          have hlo : Hid (T.lvOf l = lv2) := hid (by unfold Tr.lvOf; rw [hv]; exact hlv)
          have Hlv := hid hlv
          have Hmem := hid hml
          have Hlj := hid hlj
          obtain ⟨rs, hrs⟩ : ∃ rs, T.reasonOf (v : Int) = rs := ⟨_, rfl⟩
          have Hrs : Hid (T.reasonOf (l.natAbs : Nat) = rs) := hid (by rw [hv]; exact hrs)
          have hrl : rs.length ≤ 100 := by rw [← hrs, ← hv]; exact few_reasons Hf.out l hml
          have Hrs2 := hid hrs
          clear hlj hml hv hlv hrs
          go_wp2_with fail
          go_region
          go_wp2_with fail
          refine (level_any Tj.out.drew).mono ?_
          rw [Hlv.out]
          rintro r w8 ⟨rfl, b8⟩
          have M8 := hid (Mj.out.drew.then_below b8)
          have T8 := hid (Tj.out.drew.below b8)
          have O8 := hid (Oj.out.drew.below b8)
          have D8 := hid (DbOwn.below (w := wr.drew) Dj.out b8)
          have e8 := (b8.cell (p := ⟨g, o + j, none⟩) hg).trans e0
          have s8 : wr.heap.size ≤ w8.heap.size := b8.size
          clear b8 e0 Tj Oj Dj Mj
          by_cases hd : lv2 = 0
          · subst hd
            go_wp2_with fail
            refine (set_any O8.out hf1 hf2 (by omega)).mono ?_
            rintro r w9 ⟨rfl, ho9, hm9⟩
            have M9 := hid (M8.out.trans (hm9.mono fun q _ e => .inl (.inl e)))
            have T9 := hid (T8.out.mod hm9 fun q _ hf e => by omega)
            have O9 := hid ho9
            have D9 := hid (D8.out.mod hm9 (fun q _ a e => hbd (a.symm.trans e)) (fun q _ a e => a.1 e))
            have s9 := hm9.size
            clear hm9 ho9 M8 T8 O8 D8
            go_wp2_with fail
            refine (reason_any T9.out (v := (v : Int)) (by rw [Hrs2.out]; omega)).mono ?_
            rw [Hrs2.out]
            rintro r w10 ⟨⟨ru, rfl, hru⟩, b10⟩
            have M10 := hid (M9.out.then_below b10)
            have T10 := hid (T9.out.below b10)
            have O10 := hid (O9.out.below b10)
            have D10 := hid (D9.out.below b10)
            have s10 := b10.size
            obtain ⟨rR, rc, rfl, _⟩ := hru.form
            clear b10 hru M9 T9 O9 D9
            by_cases hr0 : rs = []
            · have hl0 : rs.length = 0 := by rw [hr0]; rfl
              have Hr0 := hid hr0
              rw [hl0]
              clear hr0 hl0
              go_wp2_with fail
              go_roundw
              case rel => exact ⟨j + 1, sv xs l, cls, Rb, nb, cb, bd, by omega, rfl, by go_num, hbd, by omega, hbd1, Hnb, hid (Kj.out.next T10.out.wf Hf.out (by have := Hml.out; omega) Hlj.out (.inl ⟨hlo.out, rfl⟩) (.inl ⟨by rw [Hrs.out]; exact Hr0.out, rfl⟩)), D10, O10, M10⟩
              case measure => simp [intOf]; omega
            · obtain ⟨q, hq⟩ : ∃ q, rs.length = q := ⟨_, rfl⟩
              have q0 : 0 < q := by
                rw [← hq]
                exact List.length_pos_iff.2 hr0
              have q1 : (0 : Int) < (q : Int) := by omega
              rw [hq]
              have Hq := hid hq
              clear hq hr0
              go_wp2_with fail
              refine (reason_any T10.out (v := (v : Int)) (by rw [Hrs2.out]; omega)).mono ?_
              rw [Hrs2.out]
              rintro r w11 ⟨⟨ru, rfl, hru⟩, b11⟩
              have M11 := hid (M10.out.then_below b11)
              have O11 := hid (O10.out.below b11)
              have D11 := hid (D10.out.below b11)
              have s11 := b11.size
              obtain ⟨rR2, rc2, rfl, _⟩ := hru.form
              have Hr11 := hid (hru.rd.mono (G := fun q => q ≠ g0 ∧ q ≠ bd) fun q _ hF => by omega)
              have hg11 : g0 < w11.heap.size := by omega
              have h711 : w7.heap.size ≤ w11.heap.size := by omega
              clear b11 hru M10 O10 D10 T10
              go_wp2_with (at_builtin; refine wpList_append_db rfl _ _ rfl (D11.out.below ((Below.refl _ _).alloc (Nat.le_refl _) _)) (own_row w11 _).rd (Hr11.out.below ((Below.refl _ _).alloc (Nat.le_refl _) _)) rfl rfl (by have := Kj.out.len; omega) ?_; intro A12 c12 w12 bd' hD hbd' hbdl' hM)
              rw [World.size_alloc] at hbd'
              have hb1 : bd' ≠ g0 := hbd'.elim (fun e => by rw [e]; exact hbd) (fun e => Nat.ne_of_gt (Nat.lt_of_lt_of_le (Nat.lt_succ_of_lt hg11) e))
              have hb2 : bd' = bd0 ∨ w7.heap.size ≤ bd' := hbd'.elim (fun e => by rw [e]; exact hbd1) (fun e => .inr (Nat.le_trans (Nat.le_succ_of_le h711) e))
              have M12 := hid ((M11.out.alloc _).trans (hM.mono fun q _ e => hbd1.elim (fun e1 => .inl (.inr (e.trans e1))) (fun e1 => .inr (by rw [e]; exact e1))))
              have O12 := hid ((O11.out.below ((Below.refl _ _).alloc (Nat.le_refl _) _)).mod hM fun q _ _ e1 e2 => hbd (e2.symm.trans e1))
              go_roundw
              case rel => exact ⟨j + 1, sv xs l, cls ++ [rs], A12, cls.length + 1, c12, bd', by omega, rfl, by go_num, hb1, hbdl', hb2, hid (by simp), hid (Kj.out.next Ht.out.wf Hf.out (by have := Hml.out; omega) Hlj.out (.inl ⟨hlo.out, rfl⟩) (.inr (by rw [Hrs.out]))), hid hD, O12, M12⟩
              case measure => simp [intOf]; omega
          · have hd1 : (lv2 == 0) = false := by simpa using hd
            have hd2 : (lv2 = 0) = False := by simpa using hd
            have Hd := hid hd
            have M9 := M8
            have T9 := T8
            have O9 := O8
            have D9 := D8
            clear hd M8 T8 O8 D8
            go_wp2_with fail
            refine (reason_any T9.out (v := (v : Int)) (by rw [Hrs2.out]; omega)).mono ?_
            rw [Hrs2.out]
            rintro r w10 ⟨⟨ru, rfl, hru⟩, b10⟩
            have M10 := hid (M9.out.then_below b10)
            have T10 := hid (T9.out.below b10)
            have O10 := hid (O9.out.below b10)
            have D10 := hid (D9.out.below b10)
            have s10 := b10.size
            obtain ⟨rR, rc, rfl, _⟩ := hru.form
            clear b10 hru M9 T9 O9 D9
            by_cases hr0 : rs = []
            · have hl0 : rs.length = 0 := by rw [hr0]; rfl
              have Hr0 := hid hr0
              rw [hl0]
              clear hr0 hl0
              go_wp2_with fail
              go_roundw
              case rel => exact ⟨j + 1, xs, cls, Rb, nb, cb, bd, by omega, rfl, by go_num, hbd, by omega, hbd1, Hnb, hid (Kj.out.next T10.out.wf Hf.out (by have := Hml.out; omega) Hlj.out (.inr ⟨by rw [hlo.out]; exact Hd.out, rfl⟩) (.inl ⟨by rw [Hrs.out]; exact Hr0.out, rfl⟩)), D10, O10, M10⟩
              case measure => simp [intOf]; omega
            · obtain ⟨q, hq⟩ : ∃ q, rs.length = q := ⟨_, rfl⟩
              have q0 : 0 < q := by
                rw [← hq]
                exact List.length_pos_iff.2 hr0
              have q1 : (0 : Int) < (q : Int) := by omega
              rw [hq]
              have Hq := hid hq
              clear hq hr0
              go_wp2_with fail
              refine (reason_any T10.out (v := (v : Int)) (by rw [Hrs2.out]; omega)).mono ?_
              rw [Hrs2.out]
              rintro r w11 ⟨⟨ru, rfl, hru⟩, b11⟩
              have M11 := hid (M10.out.then_below b11)
              have O11 := hid (O10.out.below b11)
              have D11 := hid (D10.out.below b11)
              have s11 := b11.size
              obtain ⟨rR2, rc2, rfl, _⟩ := hru.form
              have Hr11 := hid (hru.rd.mono (G := fun q => q ≠ g0 ∧ q ≠ bd) fun q _ hF => by omega)
              have hg11 : g0 < w11.heap.size := by omega
              have h711 : w7.heap.size ≤ w11.heap.size := by omega
              clear b11 hru M10 O10 D10 T10
              go_wp2_with (at_builtin; refine wpList_append_db rfl _ _ rfl (D11.out.below ((Below.refl _ _).alloc (Nat.le_refl _) _)) (own_row w11 _).rd (Hr11.out.below ((Below.refl _ _).alloc (Nat.le_refl _) _)) rfl rfl (by have := Kj.out.len; omega) ?_; intro A12 c12 w12 bd' hD hbd' hbdl' hM)
              rw [World.size_alloc] at hbd'
              have hb1 : bd' ≠ g0 := hbd'.elim (fun e => by rw [e]; exact hbd) (fun e => Nat.ne_of_gt (Nat.lt_of_lt_of_le (Nat.lt_succ_of_lt hg11) e))
              have hb2 : bd' = bd0 ∨ w7.heap.size ≤ bd' := hbd'.elim (fun e => by rw [e]; exact hbd1) (fun e => .inr (Nat.le_trans (Nat.le_succ_of_le h711) e))
              have M12 := hid ((M11.out.alloc _).trans (hM.mono fun q _ e => hbd1.elim (fun e1 => .inl (.inr (e.trans e1))) (fun e1 => .inr (by rw [e]; exact e1))))
              have O12 := hid ((O11.out.below ((Below.refl _ _).alloc (Nat.le_refl _) _)).mod hM fun q _ _ e1 e2 => hbd (e2.symm.trans e1))
              go_roundw
              case rel => exact ⟨j + 1, xs, cls ++ [rs], A12, cls.length + 1, c12, bd', by omega, rfl, by go_num, hb1, hbdl', hb2, hid (by simp), hid (Kj.out.next Ht.out.wf Hf.out (by have := Hml.out; omega) Hlj.out (.inr ⟨by rw [hlo.out]; exact Hd.out, rfl⟩) (.inr (by rw [Hrs.out]))), hid hD, O12, M12⟩
              case measure => simp [intOf]; omega
        · have y1 : ((j : Int) < (m : Int)) = False := by simp; omega
          obtain rfl : j = m := by omega
          have Hj7 := hid (H7.out.mod Mj.out fun g _ hf hg => by omega)
          have Bj : Hid (Below w.heap.size w wr) := hid (below_mod B7.out (by omega) Mj.out fun g hg => by have := B4.out.size; omega)
          clear H7 Tj
          go_wp2_with fail
          go_loopw [16] (fun iv W => ∃ (i : Nat) (zs : List Int), i ≤ k ∧ iv = .int .i64 i ∧ Hid (Vals T zs) ∧ Hid (∀ y ∈ T.lits, gv xs y = 1 → gv zs y = 1) ∧ Hid (∀ q, q < i → gv zs (-nth L q) = 1) ∧ Hid (Own W (fun g => g = g0) 3 1 (.slice (some ⟨g0, 0, none⟩) 31 31) 31 (ints zs)) ∧ Hid (Mod (fun g => g = g0) wr W)) (fun iv _ => k - (intOf iv).toNat)
          case atStart => exact ⟨0, xs, by omega, rfl, Kj.out.vals, fun y _ h => h, fun q hq => by omega, Oj, Mod.refl _ _⟩
          case round =>
            obtain ⟨i, zs, hi, rfl, Hz, Hext, HLz, Oi, Mi⟩ := hrel
            have hsi := Mi.out.size
            by_cases hik : i < k
            · have z1 : (i : Int) < (k : Int) := by omega
              obtain ⟨g2, o2, rfl, _, hg2, e2⟩ := (Hj7.out.mod Mi.out fun g _ hf hg => by omega).cell.2 i hik
              obtain ⟨l, hl⟩ : ∃ l, nth L i = l := ⟨_, rfl⟩
              rw [hl] at e2
              have hml : -l ∈ T.lits := Hneg.out l (by rw [← hl]; exact nth_mem (by have := Hk.out; omega))
              obtain ⟨f1, f2⟩ := lits_few Ht.out.wf Hf.out hml
              obtain ⟨hb1, hb2⟩ := lits_small Ht.out.wf hml
              have hwn : IntKind.i64.wrap (-l) = -l := iw' (by omega) (by omega)
              obtain ⟨p1, p2, p3⟩ := Hz.out.put Ht.out.wf Hf.out hml
              have P1 := hid p1
              have P2 := hid p2
              have P3 := hid p3
              have Hl := hid hl
              have Hml2 := hid hml
              clear hl hml p1 p2 p3
              go_wp2_with fail
              refine (set_any Oi.out f1 f2 (by omega)).mono ?_
              rintro r w9 ⟨rfl, ho9, hm9⟩
              have M9 := hid (Mi.out.trans (hm9.mono fun q _ e => .inl e))
              have O9 := hid ho9
              clear hm9 ho9
              go_wp2_with fail
              go_roundw
              case rel =>
                refine ⟨i + 1, sv zs (-l), by omega, by go_num, P1, hid fun y hy h1 => P3.out y hy (Hext.out y hy h1), hid fun q hq => ?_, O9, M9⟩
                by_cases e : q = i
                · rw [e, Hl.out]; exact P2.out
                · exact P3.out _ (Hneg.out _ (nth_mem (by have := Hk.out; omega))) (HLz.out q (by omega))
              case measure => simp [intOf]; omega
            · have z1 : ((i : Int) < (k : Int)) = False := by simp; omega
              have Di := hid (Dj.out.mod Mi.out (fun q _ a e => hbd (a.symm.trans e)) (fun q _ a e => a.1 e))
              have Bi : Hid (Below w.heap.size w wr) := hid (below_mod Bj.out (by omega) Mi.out fun g hg => by have := B4.out.size; omega)
              go_wp2_with fail
              refine (refuted_any Oi.out Hz.out.tri (by omega) Di.out (fun e => hbd e.symm) (fun e => e.1 rfl) (by have := Kj.out.len; have := Hnb.out; omega) Kj.out.small (Taken.ends Ht.out.wf Hf.out Hok.out (by rw [Hml.out]; exact Kj.out) Hz.out Hext.out fun x hx => by
                rw [HL.out] at hx
                obtain ⟨q, hq, e⟩ := List.mem_iff_getElem.1 hx
                rw [← e, ← nth_eq hq]
                exact HLz.out q (by have := Hk.out; omega))).mono ?_
              rintro r w9 ⟨rfl, hm9⟩
              have B9 : Hid (Below w.heap.size w w9) := hid (below_mod Bi.out (by omega) hm9 fun g hg => by have := B4.out.size; omega)
              clear hm9
              go_wp2_with fail
              go_ret
              exact ⟨rfl, B9.out⟩
    · have e1 : T.ans cs = [] := by unfold Tr.ans; rw [if_neg hok]
      have e3 : lerr (okFor T cs) = 2 := by unfold lerr; rw [if_neg hok]
      obtain ⟨lv, hlv⟩ : ∃ lv, T.ansLv cs = lv := ⟨_, rfl⟩
      rw [e3, hlv]
      clear hr4 e3 hlv
      go_wp2_with fail
      go_ret
      exact ⟨rfl, B4.out⟩
end Go.Proofs.Ytanhacdadgbjdaa
