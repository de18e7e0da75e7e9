/-
  The activity order: the plain heap; up.
-/
import Derived.Test.YtdkbchpogmiohaaHeapB
namespace Go.Proofs.Ytdkbchpogmiohaa
open Go.RowKit

theorem iw {x : Int} (h1 : -9223372036854775808 ≤ x) (h2 : x ≤ 9223372036854775807) : IntKind.i64.wrap x = x := (IntWalk.i64_left _).trans (IntWalk.wrap64_in _ ⟨by omega, by omega⟩)

/-! ### which comes first -/
theorem ahead_iff {acts : List Int} {x y : Nat} : ahead acts x y = true ↔ nth acts y < nth acts x ∨ (nth acts x = nth acts y ∧ x < y) := by simp [ahead]
theorem ahead_no {acts : List Int} {x y : Nat} : ahead acts x y = false ↔ ¬ (nth acts y < nth acts x ∨ (nth acts x = nth acts y ∧ x < y)) := by
  rw [← ahead_iff]; simp
theorem ahead_asymm {acts : List Int} {x y : Nat} (e : ahead acts x y = true) : ahead acts y x = false := by
  rw [ahead_no]; rw [ahead_iff] at e; omega
theorem ahead_down {acts : List Int} {x y z : Nat} (e : ahead acts x y = true) (f : ahead acts z y = false) : ahead acts z x = false := by
  rw [ahead_no] at *; rw [ahead_iff] at e; omega
theorem ahead_not {acts : List Int} {x y z : Nat} (e : ahead acts x y = false) (f : ahead acts y z = false) : ahead acts x z = false := by
  rw [ahead_no] at *; omega
theorem ahead_total {acts : List Int} {x y : Nat} (e : ahead acts x y = false) (hxy : x ≠ y) : ahead acts y x = true := by
  rw [ahead_no] at e; rw [ahead_iff]; omega

/-! ### the heap -/
/-- The variable at a place of the heap. -/
def hat (heap : List Int) (j : Nat) : Nat := (nth heap j).toNat
structure Inv (heap pos : List Int) (n : Nat) : Prop where
  hl : heap.length = n
  pl : pos.length = n + 1
  fw : ∀ j, j < n → ∃ x : Nat, nth heap j = x ∧ 1 ≤ x ∧ x ≤ n ∧ nth pos x = j
  bw : ∀ x : Nat, 1 ≤ x → x ≤ n → ∃ j : Nat, j < n ∧ nth pos x = j ∧ nth heap j = x
/-- The first m places are ordered. -/
def HeapTo (acts heap : List Int) (m : Nat) : Prop := ∀ k, 0 < k → k < m → ahead acts (hat heap k) (hat heap ((k - 1) / 2)) = false
/-- .. but for place i. -/
structure HeapBut (acts heap : List Int) (m i : Nat) : Prop where
  a : ∀ k, 0 < k → k < m → k ≠ i → ahead acts (hat heap k) (hat heap ((k - 1) / 2)) = false
  c : ∀ k, 0 < k → k < m → (k - 1) / 2 = i → 0 < i → ahead acts (hat heap k) (hat heap ((i - 1) / 2)) = false
theorem HeapBut.done {acts heap : List Int} {m i : Nat} (e : HeapBut acts heap m i) (f : 0 < i → ahead acts (hat heap i) (hat heap ((i - 1) / 2)) = false) : HeapTo acts heap m := fun k hk hm => by
  by_cases hi : k = i
  · subst hi; exact f hk
  · exact e.a k hk hm hi
theorem swp_nth {heap : List Int} {i k : Nat} (_hi : i < heap.length) (_hk : k < heap.length) (j : Nat) (hj : j < heap.length) : nth (swp heap i k) j = if j = k then nth heap i else if j = i then nth heap k else nth heap j := by
  unfold swp
  rw [nth_set _ _ _ _ (by simpa using hj), nth_set _ _ _ _ hj]
  by_cases a : k = j
  · subst a; simp
  · rw [if_neg a, if_neg (fun e : j = k => a e.symm)]
    by_cases b : i = j
    · subst b; simp
    · rw [if_neg b, if_neg (fun e : j = i => b e.symm)]
theorem HeapBut.swap {acts heap : List Int} {m i : Nat} (e : HeapBut acts heap m i) (h0 : 0 < i) (hm : i < m) (hl : m ≤ heap.length) (hi : ahead acts (hat heap i) (hat heap ((i - 1) / 2)) = true) :
    HeapBut acts (swp heap i ((i - 1) / 2)) m ((i - 1) / 2) := by
  have hp : (i - 1) / 2 < i := by omega
  have key : ∀ j, j < m → hat (swp heap i ((i - 1) / 2)) j = if j = (i - 1) / 2 then hat heap i else if j = i then hat heap ((i - 1) / 2) else hat heap j := fun j hj => by
    unfold hat
    rw [swp_nth (by omega) (by omega) j (by omega)]
    split
    · rfl
    · split <;> rfl
  constructor
  · intro k hk hkm hkp
    rw [key k hkm, key ((k - 1) / 2) (by omega), if_neg hkp]
    by_cases hki : k = i
    · subst hki
      rw [if_pos rfl, if_pos rfl]
      exact ahead_asymm hi
    · rw [if_neg hki]
      by_cases a : (k - 1) / 2 = (i - 1) / 2
      · rw [if_pos a]
        have := e.a k hk hkm hki
        rw [a] at this
        exact ahead_down hi this
      · rw [if_neg a]
        by_cases b : (k - 1) / 2 = i
        · rw [if_pos b]
          exact e.c k hk hkm b h0
        · rw [if_neg b]
          exact e.a k hk hkm hki
  · intro k hk hkm hkp h0'
    have hgp : ((i - 1) / 2 - 1) / 2 < (i - 1) / 2 := by omega
    rw [key k hkm, key (((i - 1) / 2 - 1) / 2) (by omega), if_neg (show ¬ ((i - 1) / 2 - 1) / 2 = (i - 1) / 2 by omega), if_neg (show ¬ ((i - 1) / 2 - 1) / 2 = i by omega), if_neg (show ¬ k = (i - 1) / 2 by omega)]
    have up := e.a ((i - 1) / 2) h0' (by omega) (by omega)
    by_cases hki : k = i
    · rw [if_pos hki]; exact up
    · rw [if_neg hki]
      have := e.a k hk hkm hki
      rw [hkp] at this
      exact ahead_not this up
theorem Inv.swap {heap pos : List Int} {n i k x y : Nat} (e : Inv heap pos n) (hi : i < n) (hk : k < n) (hik : i ≠ k) (hx : nth heap i = x) (hy : nth heap k = y) : Inv (swp heap i k) ((pos.set y i).set x k) n := by
  have hl := e.hl
  have pl := e.pl
  obtain ⟨x', hx', x1, xn, px⟩ := e.fw i hi
  obtain ⟨y', hy', y1, yn, py⟩ := e.fw k hk
  obtain rfl : x' = x := by omega
  obtain rfl : y' = y := by omega
  have hxy : x' ≠ y' := by rintro rfl; omega
  have pn : ∀ z, z ≤ n → nth ((pos.set y' i).set x' k) z = if z = x' then (k : Int) else if z = y' then (i : Int) else nth pos z := fun z hz => by
    rw [nth_set _ _ _ _ (by simp; omega), nth_set _ _ _ _ (by omega)]
    by_cases a : x' = z
    · subst a; simp
    · rw [if_neg a, if_neg (fun e : z = x' => a e.symm)]
      by_cases b : y' = z
      · subst b; simp
      · rw [if_neg b, if_neg (fun e : z = y' => b e.symm)]
  refine ⟨by simp [swp, hl], by simp [pl], fun j hj => ?_, fun z z1 zn => ?_⟩
  · rw [swp_nth (by omega) (by omega) j (by omega)]
    by_cases a : j = k
    · subst a
      exact ⟨x', by simpa using hx, x1, xn, by rw [pn x' xn, if_pos rfl]⟩
    · rw [if_neg a]
      by_cases b : j = i
      · subst b
        exact ⟨y', by simpa using hy, y1, yn, by rw [pn y' yn, if_neg hxy.symm, if_pos rfl]⟩
      · rw [if_neg b]
        obtain ⟨z, h1, h2, h3, h4⟩ := e.fw j hj
        refine ⟨z, h1, h2, h3, ?_⟩
        rw [pn z h3, if_neg (by rintro rfl; omega), if_neg (by rintro rfl; omega), h4]
  · rw [pn z zn]
    by_cases a : z = x'
    · subst a
      refine ⟨k, hk, by rw [if_pos rfl], ?_⟩
      rw [swp_nth (by omega) (by omega) k (by omega), if_pos rfl, hx]
    · rw [if_neg a]
      by_cases b : z = y'
      · subst b
        refine ⟨i, hi, by rw [if_pos rfl], ?_⟩
        rw [swp_nth (by omega) (by omega) i (by omega), if_neg hik, if_pos rfl, hy]
      · rw [if_neg b]
        obtain ⟨j, h1, h2, h3⟩ := e.bw z z1 zn
        refine ⟨j, h1, h2, ?_⟩
        rw [swp_nth (by omega) (by omega) j (by omega), if_neg (by rintro rfl; omega), if_neg (by rintro rfl; omega), h3]

theorem Mod.drewN {F : Nat → Prop} {a w : World} (e : Mod F a w) (q : Nat) : Mod F a (w.drewN q) := ⟨e.os, e.tape, e.output, e.size, e.block⟩
theorem Rd.drewN {w : World} {F : Nat → Prop} {k n : Nat} {v : Value} {xs : List Value} (e : Rd w F k v n xs) (q : Nat) : Rd (w.drewN q) F k v n xs := e

/-! ### the order in memory -/
structure OrdAt (w : World) (F : Nat → Prop) (b ga gh gp n np : Nat) (acts : List Int) (inc : Int) (heap pos : List Int) : Prop where
  hb : F b
  hnp : np = n + 1
  blk : w.heap[b]? = some (.cells #[.slice (some ⟨ga, 0, none⟩) np np, .int .i64 inc, .slice (some ⟨gh, 0, none⟩) n n, .slice (some ⟨gp, 0, none⟩) np np] 42 (0, 0))
  oa : Own w F 3 1 (.slice (some ⟨ga, 0, none⟩) np np) np (ints acts)
  oh : Own w F 3 1 (.slice (some ⟨gh, 0, none⟩) n n) n (ints heap)
  op : Own w F 3 1 (.slice (some ⟨gp, 0, none⟩) np np) np (ints pos)
  hab : ga ≠ b
  hhb : gh ≠ b
  hpb : gp ≠ b
  hah : ga ≠ gh
  hap : ga ≠ gp
  hhp : gh ≠ gp
  inv : Inv heap pos n
  small : n ≤ 65536
section
variable {w w' : World} {F G : Nat → Prop} {b ga gh gp n np : Nat} {acts : List Int} {inc : Int} {heap pos : List Int}
theorem OrdAt.c0 (e : OrdAt w F b ga gh gp n np acts inc heap pos) : w.cell? ⟨b, 0, none⟩ = some (.slice (some ⟨ga, 0, none⟩) np np) := by rw [cell_of_row w b 0 _ _ _ e.blk]; rfl
theorem OrdAt.c1 (e : OrdAt w F b ga gh gp n np acts inc heap pos) : w.cell? ⟨b, 1, none⟩ = some (.int .i64 inc) := by rw [cell_of_row w b 1 _ _ _ e.blk]; rfl
theorem OrdAt.c2 (e : OrdAt w F b ga gh gp n np acts inc heap pos) : w.cell? ⟨b, 2, none⟩ = some (.slice (some ⟨gh, 0, none⟩) n n) := by rw [cell_of_row w b 2 _ _ _ e.blk]; rfl
theorem OrdAt.c3 (e : OrdAt w F b ga gh gp n np acts inc heap pos) : w.cell? ⟨b, 3, none⟩ = some (.slice (some ⟨gp, 0, none⟩) np np) := by rw [cell_of_row w b 3 _ _ _ e.blk]; rfl
theorem OrdAt.f1 (e : OrdAt w F b ga gh gp n np acts inc heap pos) : w.frozen? ⟨b, 1, none⟩ = false := frozen_of_row w b 1 _ _ e.blk
theorem OrdAt.keep (e : OrdAt w F b ga gh gp n np acts inc heap pos) (hk : ∀ g, g < w.heap.size → F g → w'.heap[g]? = w.heap[g]?) : OrdAt w' F b ga gh gp n np acts inc heap pos :=
  { e with
    blk := (hk b (lt_of_block e.blk) e.hb).trans e.blk
    oa := e.oa.keep fun g hg _ hF => hk g hg hF
    oh := e.oh.keep fun g hg _ hF => hk g hg hF
    op := e.op.keep fun g hg _ hF => hk g hg hF }
theorem OrdAt.mod (e : OrdAt w F b ga gh gp n np acts inc heap pos) (hm : Mod G w w') (hFG : ∀ g, g < w.heap.size → F g → ¬ G g) : OrdAt w' F b ga gh gp n np acts inc heap pos :=
  e.keep fun g hg hF => hm.block g hg (hFG g hg hF)
theorem OrdAt.below (e : OrdAt w F b ga gh gp n np acts inc heap pos) (hm : Below w.heap.size w w') : OrdAt w' F b ga gh gp n np acts inc heap pos := e.keep fun g hg _ => hm.block g hg
theorem OrdAt.mono (e : OrdAt w F b ga gh gp n np acts inc heap pos) (hFG : ∀ g, g < w.heap.size → F g → G g) : OrdAt w G b ga gh gp n np acts inc heap pos :=
  { e with
    hb := hFG b (lt_of_block e.blk) e.hb
    oa := e.oa.mono fun g hg _ hF => hFG g hg hF
    oh := e.oh.mono fun g hg _ hF => hFG g hg hF
    op := e.op.mono fun g hg _ hF => hFG g hg hF }
theorem OrdAt.drewN (e : OrdAt w F b ga gh gp n np acts inc heap pos) (q : Nat) : OrdAt (w.drewN q) F b ga gh gp n np acts inc heap pos := e.keep fun _ _ _ => rfl
theorem OrdAt.drew (e : OrdAt w F b ga gh gp n np acts inc heap pos) : OrdAt w.drew F b ga gh gp n np acts inc heap pos := e.keep fun _ _ _ => rfl
/-- What lies behind a change of the heap and of the positions. -/
theorem OrdAt.turned (e : OrdAt w F b ga gh gp n np acts inc heap pos) {heap' pos' : List Int} (hm : Mod (fun g => g = gh ∨ g = gp) w w')
    (h1 : Own w' F 3 1 (.slice (some ⟨gh, 0, none⟩) n n) n (ints heap')) (h2 : Own w' F 3 1 (.slice (some ⟨gp, 0, none⟩) np np) np (ints pos')) (hi : Inv heap' pos' n) :
    OrdAt w' F b ga gh gp n np acts inc heap' pos' :=
  { e with
    blk := (hm.block b (lt_of_block e.blk) fun x => x.elim e.hhb.symm e.hpb.symm).trans e.blk
    oa := e.oa.mod hm fun g _ hr _ x => by
      have := hr.2
      dsimp only at this
      have h1 := e.hah
      have h2 := e.hap
      omega
    oh := h1
    op := h2
    inv := hi }

set_option maxRecDepth 100000 in
set_option maxHeartbeats 4000000 in
theorem up_any (ho : OrdAt w F b ga gh gp n np acts inc heap pos) {i m : Nat} (him : i < m) (hmn : m ≤ n) (hh : HeapBut acts heap m i) :
    Calls Try.prog 31 #[.pointer (some ⟨b, 0, none⟩), .int .i64 i] w fun r w' => r = .returned (.tuple #[]) ∧
      (∃ heap' pos', OrdAt w' F b ga gh gp n np acts inc heap' pos' ∧ HeapTo acts heap' m ∧ ∀ j, m ≤ j → nth heap' j = nth heap j) ∧ Mod (fun g => g = gh ∨ g = gp) w w' := by
  have Ho := hid ho
  have Hh := hid hh
  have Hs := hid ho.small
  clear ho hh
  go_enter Try.func31, Try.ntmps31
  go_wp2_with fail
  go_loopw [1] (fun iv W => ∃ (j : Nat) (heap' pos' : List Int), j < m ∧ iv = .int .i64 j ∧ Hid (OrdAt W F b ga gh gp n np acts inc heap' pos') ∧ Hid (HeapBut acts heap' m j) ∧ Hid (∀ j, m ≤ j → nth heap' j = nth heap j) ∧ Mod (fun g => g = gh ∨ g = gp) w W) (fun iv _ => (intOf iv).toNat)
  case atStart => exact ⟨i, heap, pos, him, rfl, Ho, Hh, fun _ _ => rfl, Mod.refl _ _⟩
  case round =>
    obtain ⟨j, heap', pos', hj, rfl, O, H, E, M⟩ := hrel
    have c0 := O.out.c0
    have c2 := O.out.c2
    rcases Nat.eq_zero_or_pos j with h0 | h0
    · subst h0
      go_wp2_with fail
      go_quiet (fail)
      go_wp2_with fail
      go_end0
      exact ⟨rfl, ⟨heap', pos', O.out.drewN _, H.out.done (fun e => absurd e (by omega)), E.out⟩, M.drewN _⟩
    · have q0 : (0 : Int) < (j : Int) := by omega
      obtain ⟨p, hp⟩ : ∃ p, (j - 1) / 2 = p := ⟨_, rfl⟩
      have hpj : p < j := by omega
      have q1 : ((j : Int) - 1).tdiv 2 = (p : Int) := by rw [Int.tdiv_eq_ediv_of_nonneg (by omega)]; omega
      have q4 : IntKind.i64.wrap ((j : Int) - 1) = (j : Int) - 1 := iw (by omega) (by have := Hs.out; omega)
      have q5 : IntKind.i64.wrap (p : Int) = (p : Int) := iw (by omega) (by have := Hs.out; omega)
      have q2 : (j : Int) < (n : Int) := by omega
      have q3 : (p : Int) < (n : Int) := by omega
      obtain ⟨x, hx, x1, xn, px⟩ := O.out.inv.fw j (by omega)
      obtain ⟨y, hy, y1, yn, py⟩ := O.out.inv.fw p (by omega)
      have hlh := O.out.inv.hl
      have hlp := O.out.inv.pl
      have hnp := O.out.hnp
      obtain ⟨_, he, _, _, e1, _⟩ := O.out.oh.cell (j := j) (by omega)
      injection he with he; injection he with he _ _; subst he
      obtain ⟨_, he, _, _, e2, _⟩ := O.out.oh.cell (j := p) (by omega)
      injection he with he; injection he with he _ _; subst he
      rw [ints_nth (by omega), hx] at e1
      rw [ints_nth (by omega), hy] at e2
      have hxy : x ≠ y := by
        intro e
        subst e
        omega
      have Px := hid px
      have Py := hid py
      have Hlh := hid hlh
      have Hlp := hid hlp
      have Hp := hid hp
      have Hnp := hid hnp
      have ha := hid O.out.oa.rd
      have hs := Hs.out
      clear px py hlh hlp hp hnp
      have hatx : hat heap' j = x := by simp [hat, hx]
      have haty : hat heap' p = y := by simp [hat, hy]
      have Hx := hid hx
      have Hy := hid hy
      clear hx hy
      have bef : Hid (∀ q, Calls Try.prog 35 #[.pointer (some ⟨b, 0, none⟩), .int .i64 x, .int .i64 y] (wr.drewN q) fun r w' => r = .returned (.bool (ahead acts x y)) ∧ ∃ m, w' = wr.drewN m) := fun q =>
        Calls.quiet_of (before_any (w := wr.drewN q) c0 (ha.out.drewN q) (by have := Hnp.out; omega) (by have := Hnp.out; omega) (by have := Hnp.out; omega))
      cases hah : ahead acts x y with
      | true =>
        go_wp2_with fail
        go_quiet (first | (go_at_call 35; exact bef.out _))
        go_wp2_with fail
        refine (swap_any (w := wr.drewN nq) c2 O.out.c3 O.out.oh O.out.op O.out.hhb O.out.hpb O.out.hhp (i := j) (k := p) (by omega) (by omega) (by omega) Hx.out Hy.out (by have := Hnp.out; omega) (by have := Hnp.out; omega) hxy (by have := Hnp.out; omega) (by omega)).mono ?_
        rintro r w1 ⟨rfl, s1, s2, s3⟩
        go_wp2_with fail
        go_roundw
        case rel =>
          have hO := (O.out.drewN nq).turned s3 s1 s2 (O.out.inv.swap (by omega) (by omega) (by omega) Hx.out Hy.out)
          have hB : HeapBut acts (swp heap' j p) m p := by
            have := H.out.swap (by omega) hj (by have := Hlh.out; omega) (by rw [Hp.out, hatx, haty]; exact hah)
            rwa [Hp.out] at this
          refine ⟨p, swp heap' j p, _, by omega, rfl, hid hO, hid hB, hid fun k hk => ?_, (M.drewN _).trans (s3.mono fun g _ hg => .inl hg)⟩
          have hk' := E.out k hk
          rw [← hk']
          unfold swp nth
          rw [List.getElem?_set_ne (by omega), List.getElem?_set_ne (by omega)]
        case measure => simp [intOf]; omega
      | false =>
        go_wp2_with fail
        go_quiet (first | (go_at_call 35; exact bef.out _))
        go_wp2_with fail
        go_end0
        refine ⟨rfl, ⟨heap', pos', O.out.drewN _, H.out.done (fun _ => ?_), E.out⟩, M.drewN _⟩
        rw [Hp.out, hatx, haty]
        exact hah
end
end Go.Proofs.Ytdkbchpogmiohaa
