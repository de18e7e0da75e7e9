/-
 Chapter 32: several texts in one (HeapA HeapB HeapC HeapD HeapE).
-/
import Derived.Test.YtcjmpobccbnpkaaGreatMjad
import Derived.Deep.QuietTactic
import Derived.BigQuiet
import Derived.BigRegion
namespace Go.Proofs.YtcjmpobccbnpkaaGreat
set_option maxRecDepth 100000
set_option maxHeartbeats 4000000
section
open Go.RowKit
def ahead (acts : List Int) (x y : Nat) : Bool := decide (nth acts y < nth acts x) || (nth acts x == nth acts y && decide (x < y))
theorem before_any {w : World} {F : Nat → Prop} {b : Nat} {va : Value} {n : Nat} {acts : List Int} (c0 : w.cell? ⟨b, 0, none⟩ = some va) (ha : Rd w F 1 va n (ints acts)) {x y : Nat} (hx : x < n) (hy : y < n) (_hn : n ≤ 65537) :
  Calls Tryz.prog 126 #[.pointer (some ⟨b, 0, none⟩), .int .i64 x, .int .i64 y] w fun r w' => r = .returned (.bool (ahead acts x y)) ∧ ∃ m, w' = w.drewN m := by
 obtain ⟨_, A, cap, rfl, hc, hm, _⟩ := id ha
 obtain ⟨hln, hcell⟩ := ha.cell
 obtain ⟨g, o, rfl, _, hg, cx⟩ := hcell x hx
 obtain ⟨g', o', he, _, _, cy⟩ := hcell y hy
 injection he with he
 injection he with he1 he2
 subst he1 he2
 have hx' : (x : Int) < (n : Int) := by omega
 have hy' : (y : Int) < (n : Int) := by omega
 clear hcell ha
 have ea : ahead acts x y = (decide (nth acts y < nth acts x) || (nth acts x == nth acts y && decide (x < y))) := rfl
 rw [ea]
 clear ea
 generalize nth acts x = p at *
 generalize nth acts y = q at *
 rcases Int.lt_trichotomy q p with h | h | h
 ·have e : (decide (q < p) || (p == q && decide (x < y))) = true := by simp [h]
  rw [e]
  clear e
  go_enter Tryz.func126, Tryz.ntmps126
  go_wp2_with fail
  go_quiet (fail)
  go_wp2_with fail
  go_ret
  exact ⟨rfl, _, rfl⟩
 ·subst h
  have e : (decide (q < q) || (q == q && decide (x < y))) = decide (x < y) := by simp
  rw [e]
  clear e
  go_enter Tryz.func126, Tryz.ntmps126
  go_wp2_with fail
  go_quiet (fail)
  go_wp2_with fail
  go_ret
  exact ⟨by simp, _, rfl⟩
 ·have e : (decide (q < p) || (p == q && decide (x < y))) = false := by
   have h1 : ¬ q < p := by omega
   have h2 : ¬ p = q := by omega
   simp [h1, h2]
  rw [e]
  have h1 : decide (q < p) = false := by simp; omega
  have h2 : (p == q) = false := by simp; omega
  clear e
  go_enter Tryz.func126, Tryz.ntmps126
  go_wp2_with fail
  go_quiet (fail)
  go_wp2_with fail
  go_ret
  exact ⟨rfl, _, rfl⟩
end
section
open Go.RowKit
def swp (xs : List Int) (i k : Nat) : List Int := (xs.set i (nth xs k)).set k (nth xs i)
theorem swap_any {w : World} {F : Nat → Prop} {b gh gp n ch np cp : Nat} {heap pos : List Int} (c2 : w.cell? ⟨b, 2, none⟩ = some (.slice (some ⟨gh, 0, none⟩) n ch)) (c3 : w.cell? ⟨b, 3, none⟩ = some (.slice (some ⟨gp, 0, none⟩) np cp))
  (hh : Own w F 3 1 (.slice (some ⟨gh, 0, none⟩) n ch) n (ints heap)) (hp : Own w F 3 1 (.slice (some ⟨gp, 0, none⟩) np cp) np (ints pos)) (hb : gh ≠ b) (hb' : gp ≠ b) (hg : gh ≠ gp)
  {i k x y : Nat} (hi : i < n) (hk : k < n) (hik : i ≠ k) (hx : nth heap i = x) (hy : nth heap k = y) (hxn : x < np) (hyn : y < np) (hxy : x ≠ y) (_hn : np ≤ 65537) (_hnn : n ≤ 65537) :
  Calls Tryz.prog 142 #[.pointer (some ⟨b, 0, none⟩), .int .i64 i, .int .i64 k] w fun r w' => r = .returned (.tuple #[]) ∧
   Own w' F 3 1 (.slice (some ⟨gh, 0, none⟩) n ch) n (ints (swp heap i k)) ∧ Own w' F 3 1 (.slice (some ⟨gp, 0, none⟩) np cp) np (ints ((pos.set y i).set x k)) ∧ Mod (fun g => g = gh ∨ g = gp) w w' := by
 have hlh : heap.length = n := by have := hh.1; simpa [ints_length] using this
 have hlp : pos.length = np := by have := hp.1; simpa [ints_length] using this
 obtain ⟨_, he, _, _, e1, f1⟩ := hh.cell (j := i) (by omega)
 injection he with he; injection he with he _ _; subst he
 obtain ⟨_, he, _, _, e2, f2⟩ := hh.cell (j := k) (by omega)
 injection he with he; injection he with he _ _; subst he
 obtain ⟨_, he, _, _, e3, f3⟩ := hp.cell (j := x) (by omega)
 injection he with he; injection he with he _ _; subst he
 obtain ⟨_, he, _, _, e4, f4⟩ := hp.cell (j := y) (by omega)
 injection he with he; injection he with he _ _; subst he
 rw [ints_nth (by omega), hx] at e1
 rw [ints_nth (by omega), hy] at e2
 rw [ints_nth (by omega)] at e3 e4
 have Hh := hid hh
 have Hp := hid hp
 have hin : (i : Int) < (n : Int) := by omega
 have hkn : (k : Int) < (n : Int) := by omega
 have hxn' : (x : Int) < (np : Int) := by omega
 have hyn' : (y : Int) < (np : Int) := by omega
 have q1 : (gh = b) = False := by simpa using hb
 have q2 : (gp = b) = False := by simpa using hb'
 have q3 : (gh = gp) = False := by simpa using hg
 have q4 : (gp = gh) = False := by simpa using hg.symm
 have q5 : (b = gh) = False := by simpa using hb.symm
 have q6 : (b = gp) = False := by simpa using hb'.symm
 clear hh hp hlh hlp
 go_enter Tryz.func142, Tryz.ntmps142
 go_wp2_with fail
 go_region
 as_aux_lemma =>
  go_wp2_with fail
  go_region
  as_aux_lemma =>
   go_wp2_with fail
   go_end0
   have a1 := (Hh.o.stored (j := i) (.int .i64 y)).stored (j := k) (.int .i64 x)
   rw [← ints_set, ← ints_set] at a1
   have m1 : Mod (fun g => g = gh) w ((w.setCell ⟨gh, i, none⟩ (.int .i64 y)).setCell ⟨gh, k, none⟩ (.int .i64 x)) := ((Mod.refl (fun g => g = gh) w).setCell (p := ⟨gh, i, none⟩) (.inl rfl) _).setCell (p := ⟨gh, k, none⟩) (.inl rfl) _
   have b1 := ((Hp.o.mod m1 fun g _ hr _ e => by
    have := hr.2
    dsimp only at this
    omega).stored (j := y) (.int .i64 i)).stored (j := x) (.int .i64 k)
   rw [← ints_set, ← ints_set] at b1
   have m2 : Mod (fun g => g = gp) ((w.setCell ⟨gh, i, none⟩ (.int .i64 y)).setCell ⟨gh, k, none⟩ (.int .i64 x)) ((((w.setCell ⟨gh, i, none⟩ (.int .i64 y)).setCell ⟨gh, k, none⟩ (.int .i64 x)).setCell ⟨gp, y, none⟩ (.int .i64 i)).setCell ⟨gp, x, none⟩ (.int .i64 k)) := ((Mod.refl (fun g => g = gp) _).setCell (p := ⟨gp, y, none⟩) (.inl rfl) _).setCell (p := ⟨gp, x, none⟩) (.inl rfl) _
   have a2 := a1.mod m2 fun g _ hr _ e => by
    have := hr.2
    dsimp only at this
    omega
   refine ⟨rfl, ?_, b1, ((m1.mono fun g _ h => .inl h).trans (m2.mono fun g _ h => .inl (.inr h))).drew.drew⟩
   unfold swp
   rw [hx, hy]
   exact a2
end
section
open Go.RowKit
theorem iw {x : Int} (h1 : -9223372036854775808 ≤ x) (h2 : x ≤ 9223372036854775807) : IntKind.i64.wrap x = x := (IntWalk.i64_left _).trans (IntWalk.wrap64_in _ ⟨by omega, by omega⟩)
/-! ### which comes first -/
theorem ahead_iff {acts : List Int} {x y : Nat} : ahead acts x y = true ↔ nth acts y < nth acts x ∨ (nth acts x = nth acts y ∧ x < y) := by simp [ahead]
theorem ahead_no {acts : List Int} {x y : Nat} : ahead acts x y = false ↔ ¬ (nth acts y < nth acts x ∨ (nth acts x = nth acts y ∧ x < y)) := by
 rw [← ahead_iff]; simp
theorem ahead_asymm {acts : List Int} {x y : Nat} (e : ahead acts x y = true) : ahead acts y x = false := by
 rw [ahead_no]; rw [ahead_iff] at e; omega
theorem ahead_down {acts : List Int} {x y z : Nat} (e : ahead acts x y = true) (f : ahead acts z y = false) : ahead acts z x = false := by
 rw [ahead_no] at *; rw [ahead_iff] at e; omega
theorem ahead_not {acts : List Int} {x y z : Nat} (e : ahead acts x y = false) (f : ahead acts y z = false) : ahead acts x z = false := by
 rw [ahead_no] at *; omega
theorem ahead_total {acts : List Int} {x y : Nat} (e : ahead acts x y = false) (hxy : x ≠ y) : ahead acts y x = true := by
 rw [ahead_no] at e; rw [ahead_iff]; omega
/-! ### the heap -/
def hat (heap : List Int) (j : Nat) : Nat := (nth heap j).toNat
structure hInv (heap pos : List Int) (n : Nat) : Prop where
 hl : heap.length = n
 pl : pos.length = n + 1
 fw : ∀ j, j < n → ∃ x : Nat, nth heap j = x ∧ 1 ≤ x ∧ x ≤ n ∧ nth pos x = j
 bw : ∀ x : Nat, 1 ≤ x → x ≤ n → ∃ j : Nat, j < n ∧ nth pos x = j ∧ nth heap j = x
def HeapTo (acts heap : List Int) (m : Nat) : Prop := ∀ k, 0 < k → k < m → ahead acts (hat heap k) (hat heap ((k - 1) / 2)) = false
structure HeapBut (acts heap : List Int) (m i : Nat) : Prop where
 a : ∀ k, 0 < k → k < m → k ≠ i → ahead acts (hat heap k) (hat heap ((k - 1) / 2)) = false
 c : ∀ k, 0 < k → k < m → (k - 1) / 2 = i → 0 < i → ahead acts (hat heap k) (hat heap ((i - 1) / 2)) = false
theorem HeapBut.done {acts heap : List Int} {m i : Nat} (e : HeapBut acts heap m i) (f : 0 < i → ahead acts (hat heap i) (hat heap ((i - 1) / 2)) = false) : HeapTo acts heap m := fun k hk hm => by
 by_cases hi : k = i
 ·subst hi; exact f hk
 ·exact e.a k hk hm hi
theorem swp_nth {heap : List Int} {i k : Nat} (_hi : i < heap.length) (_hk : k < heap.length) (j : Nat) (hj : j < heap.length) : nth (swp heap i k) j = if j = k then nth heap i else if j = i then nth heap k else nth heap j := by
 unfold swp
 rw [nth_set _ _ _ _ (by simpa using hj), nth_set _ _ _ _ hj]
 by_cases a : k = j
 ·subst a; simp
 ·rw [if_neg a, if_neg (fun e : j = k => a e.symm)]
  by_cases b : i = j
  ·subst b; simp
  ·rw [if_neg b, if_neg (fun e : j = i => b e.symm)]
theorem HeapBut.swap {acts heap : List Int} {m i : Nat} (e : HeapBut acts heap m i) (h0 : 0 < i) (hm : i < m) (hl : m ≤ heap.length) (hi : ahead acts (hat heap i) (hat heap ((i - 1) / 2)) = true) :
  HeapBut acts (swp heap i ((i - 1) / 2)) m ((i - 1) / 2) := by
 have hp : (i - 1) / 2 < i := by omega
 have key : ∀ j, j < m → hat (swp heap i ((i - 1) / 2)) j = if j = (i - 1) / 2 then hat heap i else if j = i then hat heap ((i - 1) / 2) else hat heap j := fun j hj => by
  unfold hat
  rw [swp_nth (by omega) (by omega) j (by omega)]
  split
  ·rfl
  ·split <;> rfl
 constructor
 ·intro k hk hkm hkp
  rw [key k hkm, key ((k - 1) / 2) (by omega), if_neg hkp]
  by_cases hki : k = i
  ·subst hki
   rw [if_pos rfl, if_pos rfl]
   exact ahead_asymm hi
  ·rw [if_neg hki]
   by_cases a : (k - 1) / 2 = (i - 1) / 2
   ·rw [if_pos a]
    have := e.a k hk hkm hki
    rw [a] at this
    exact ahead_down hi this
   ·rw [if_neg a]
    by_cases b : (k - 1) / 2 = i
    ·rw [if_pos b]
     exact e.c k hk hkm b h0
    ·rw [if_neg b]
     exact e.a k hk hkm hki
 ·intro k hk hkm hkp h0'
  have hgp : ((i - 1) / 2 - 1) / 2 < (i - 1) / 2 := by omega
  rw [key k hkm, key (((i - 1) / 2 - 1) / 2) (by omega), if_neg (show ¬ ((i - 1) / 2 - 1) / 2 = (i - 1) / 2 by omega), if_neg (show ¬ ((i - 1) / 2 - 1) / 2 = i by omega), if_neg (show ¬ k = (i - 1) / 2 by omega)]
  have up := e.a ((i - 1) / 2) h0' (by omega) (by omega)
  by_cases hki : k = i
  ·rw [if_pos hki]; exact up
  ·rw [if_neg hki]
   have := e.a k hk hkm hki
   rw [hkp] at this
   exact ahead_not this up
theorem hInv.swap {heap pos : List Int} {n i k x y : Nat} (e : hInv heap pos n) (hi : i < n) (hk : k < n) (hik : i ≠ k) (hx : nth heap i = x) (hy : nth heap k = y) : hInv (swp heap i k) ((pos.set y i).set x k) n := by
 have hl := e.hl
 have pl := e.pl
 obtain ⟨x', hx', x1, xn, px⟩ := e.fw i hi
 obtain ⟨y', hy', y1, yn, py⟩ := e.fw k hk
 obtain rfl : x' = x := by omega
 obtain rfl : y' = y := by omega
 have hxy : x' ≠ y' := by rintro rfl; omega
 have pn : ∀ z, z ≤ n → nth ((pos.set y' i).set x' k) z = if z = x' then (k : Int) else if z = y' then (i : Int) else nth pos z := fun z hz => by
  rw [nth_set _ _ _ _ (by simp; omega), nth_set _ _ _ _ (by omega)]
  by_cases a : x' = z
  ·subst a; simp
  ·rw [if_neg a, if_neg (fun e : z = x' => a e.symm)]
   by_cases b : y' = z
   ·subst b; simp
   ·rw [if_neg b, if_neg (fun e : z = y' => b e.symm)]
 refine ⟨by simp [swp, hl], by simp [pl], fun j hj => ?_, fun z z1 zn => ?_⟩
 ·rw [swp_nth (by omega) (by omega) j (by omega)]
  by_cases a : j = k
  ·subst a
   exact ⟨x', by simpa using hx, x1, xn, by rw [pn x' xn, if_pos rfl]⟩
  ·rw [if_neg a]
   by_cases b : j = i
   ·subst b
    exact ⟨y', by simpa using hy, y1, yn, by rw [pn y' yn, if_neg hxy.symm, if_pos rfl]⟩
   ·rw [if_neg b]
    obtain ⟨z, h1, h2, h3, h4⟩ := e.fw j hj
    refine ⟨z, h1, h2, h3, ?_⟩
    rw [pn z h3, if_neg (by rintro rfl; omega), if_neg (by rintro rfl; omega), h4]
 ·rw [pn z zn]
  by_cases a : z = x'
  ·subst a
   refine ⟨k, hk, by rw [if_pos rfl], ?_⟩
   rw [swp_nth (by omega) (by omega) k (by omega), if_pos rfl, hx]
  ·rw [if_neg a]
   by_cases b : z = y'
   ·subst b
    refine ⟨i, hi, by rw [if_pos rfl], ?_⟩
    rw [swp_nth (by omega) (by omega) i (by omega), if_neg hik, if_pos rfl, hy]
   ·rw [if_neg b]
    obtain ⟨j, h1, h2, h3⟩ := e.bw z z1 zn
    refine ⟨j, h1, h2, ?_⟩
    rw [swp_nth (by omega) (by omega) j (by omega), if_neg (by rintro rfl; omega), if_neg (by rintro rfl; omega), h3]
theorem Mod.drewN {F : Nat → Prop} {a w : World} (e : Mod F a w) (q : Nat) : Mod F a (w.drewN q) := ⟨e.os, e.tape, e.output, e.size, e.block⟩
theorem Rd.drewN {w : World} {F : Nat → Prop} {k n : Nat} {v : Value} {xs : List Value} (e : Rd w F k v n xs) (q : Nat) : Rd (w.drewN q) F k v n xs := e
/-! ### the order in memory -/
structure OrdAt (w : World) (F : Nat → Prop) (b ga gh gp n np : Nat) (acts : List Int) (inc : Int) (heap pos : List Int) : Prop where
 hb : F b
 hnp : np = n + 1
 blk : w.heap[b]? = some (.cells #[.slice (some ⟨ga, 0, none⟩) np np, .int .i64 inc, .slice (some ⟨gh, 0, none⟩) n n, .slice (some ⟨gp, 0, none⟩) np np] 131 (0, 0))
 oa : Own w F 3 1 (.slice (some ⟨ga, 0, none⟩) np np) np (ints acts)
 oh : Own w F 3 1 (.slice (some ⟨gh, 0, none⟩) n n) n (ints heap)
 op : Own w F 3 1 (.slice (some ⟨gp, 0, none⟩) np np) np (ints pos)
 hab : ga ≠ b
 hhb : gh ≠ b
 hpb : gp ≠ b
 hah : ga ≠ gh
 hap : ga ≠ gp
 hhp : gh ≠ gp
 inv : hInv heap pos n
 small : n ≤ 65536
section
variable {w w' : World} {F G : Nat → Prop} {b ga gh gp n np : Nat} {acts : List Int} {inc : Int} {heap pos : List Int}
theorem OrdAt.c0 (e : OrdAt w F b ga gh gp n np acts inc heap pos) : w.cell? ⟨b, 0, none⟩ = some (.slice (some ⟨ga, 0, none⟩) np np) := by rw [cell_of_row w b 0 _ _ _ e.blk]; rfl
theorem OrdAt.c1 (e : OrdAt w F b ga gh gp n np acts inc heap pos) : w.cell? ⟨b, 1, none⟩ = some (.int .i64 inc) := by rw [cell_of_row w b 1 _ _ _ e.blk]; rfl
theorem OrdAt.c2 (e : OrdAt w F b ga gh gp n np acts inc heap pos) : w.cell? ⟨b, 2, none⟩ = some (.slice (some ⟨gh, 0, none⟩) n n) := by rw [cell_of_row w b 2 _ _ _ e.blk]; rfl
theorem OrdAt.c3 (e : OrdAt w F b ga gh gp n np acts inc heap pos) : w.cell? ⟨b, 3, none⟩ = some (.slice (some ⟨gp, 0, none⟩) np np) := by rw [cell_of_row w b 3 _ _ _ e.blk]; rfl
theorem OrdAt.f1 (e : OrdAt w F b ga gh gp n np acts inc heap pos) : w.frozen? ⟨b, 1, none⟩ = false := frozen_of_row w b 1 _ _ e.blk
theorem OrdAt.keep (e : OrdAt w F b ga gh gp n np acts inc heap pos) (hk : ∀ g, g < w.heap.size → F g → w'.heap[g]? = w.heap[g]?) : OrdAt w' F b ga gh gp n np acts inc heap pos :=
 { e with
  blk := (hk b (lt_of_block e.blk) e.hb).trans e.blk
  oa := e.oa.keep fun g hg _ hF => hk g hg hF
  oh := e.oh.keep fun g hg _ hF => hk g hg hF
  op := e.op.keep fun g hg _ hF => hk g hg hF }
theorem OrdAt.mod (e : OrdAt w F b ga gh gp n np acts inc heap pos) (hm : Mod G w w') (hFG : ∀ g, g < w.heap.size → F g → ¬ G g) : OrdAt w' F b ga gh gp n np acts inc heap pos :=
 e.keep fun g hg hF => hm.block g hg (hFG g hg hF)
theorem OrdAt.below (e : OrdAt w F b ga gh gp n np acts inc heap pos) (hm : Below w.heap.size w w') : OrdAt w' F b ga gh gp n np acts inc heap pos := e.keep fun g hg _ => hm.block g hg
theorem OrdAt.mono (e : OrdAt w F b ga gh gp n np acts inc heap pos) (hFG : ∀ g, g < w.heap.size → F g → G g) : OrdAt w G b ga gh gp n np acts inc heap pos :=
 { e with
  hb := hFG b (lt_of_block e.blk) e.hb
  oa := e.oa.mono fun g hg _ hF => hFG g hg hF
  oh := e.oh.mono fun g hg _ hF => hFG g hg hF
  op := e.op.mono fun g hg _ hF => hFG g hg hF }
theorem OrdAt.drewN (e : OrdAt w F b ga gh gp n np acts inc heap pos) (q : Nat) : OrdAt (w.drewN q) F b ga gh gp n np acts inc heap pos := e.keep fun _ _ _ => rfl
theorem OrdAt.drew (e : OrdAt w F b ga gh gp n np acts inc heap pos) : OrdAt w.drew F b ga gh gp n np acts inc heap pos := e.keep fun _ _ _ => rfl
theorem OrdAt.turned (e : OrdAt w F b ga gh gp n np acts inc heap pos) {heap' pos' : List Int} (hm : Mod (fun g => g = gh ∨ g = gp) w w')
  (h1 : Own w' F 3 1 (.slice (some ⟨gh, 0, none⟩) n n) n (ints heap')) (h2 : Own w' F 3 1 (.slice (some ⟨gp, 0, none⟩) np np) np (ints pos')) (hi : hInv heap' pos' n) :
  OrdAt w' F b ga gh gp n np acts inc heap' pos' :=
 { e with
  blk := (hm.block b (lt_of_block e.blk) fun x => x.elim e.hhb.symm e.hpb.symm).trans e.blk
  oa := e.oa.mod hm fun g _ hr _ x => by
   have := hr.2
   dsimp only at this
   have h1 := e.hah
   have h2 := e.hap
   omega
  oh := h1
  op := h2
  inv := hi }
theorem up_any (ho : OrdAt w F b ga gh gp n np acts inc heap pos) {i m : Nat} (him : i < m) (hmn : m ≤ n) (hh : HeapBut acts heap m i) :
  Calls Tryz.prog 120 #[.pointer (some ⟨b, 0, none⟩), .int .i64 i] w fun r w' => r = .returned (.tuple #[]) ∧
   (∃ heap' pos', OrdAt w' F b ga gh gp n np acts inc heap' pos' ∧ HeapTo acts heap' m ∧ ∀ j, m ≤ j → nth heap' j = nth heap j) ∧ Mod (fun g => g = gh ∨ g = gp) w w' := by
 have Ho := hid ho
 have Hh := hid hh
 have Hs := hid ho.small
 clear ho hh
 go_enter Tryz.func120, Tryz.ntmps120
 go_wp2_with fail
 go_loopw [1] (fun iv W => ∃ (j : Nat) (heap' pos' : List Int), j < m ∧ iv = .int .i64 j ∧ Hid (OrdAt W F b ga gh gp n np acts inc heap' pos') ∧ Hid (HeapBut acts heap' m j) ∧ Hid (∀ j, m ≤ j → nth heap' j = nth heap j) ∧ Mod (fun g => g = gh ∨ g = gp) w W) (fun iv _ => (intOf iv).toNat)
 case atStart => exact ⟨i, heap, pos, him, rfl, Ho, Hh, fun _ _ => rfl, Mod.refl _ _⟩
 case round =>
  obtain ⟨j, heap', pos', hj, rfl, O, H, E, M⟩ := hrel
  have c0 := O.o.c0
  have c2 := O.o.c2
  rcases Nat.eq_zero_or_pos j with h0 | h0
  ·subst h0
   go_wp2_with fail
   go_quiet (fail)
   go_wp2_with fail
   go_end0
   exact ⟨rfl, ⟨heap', pos', O.o.drewN _, H.o.done (fun e => absurd e (by omega)), E.o⟩, M.drewN _⟩
  ·have q0 : (0 : Int) < (j : Int) := by omega
   obtain ⟨p, hp⟩ : ∃ p, (j - 1) / 2 = p := ⟨_, rfl⟩
   have hpj : p < j := by omega
   have q1 : ((j : Int) - 1).tdiv 2 = (p : Int) := by rw [Int.tdiv_eq_ediv_of_nonneg (by omega)]; omega
   have q4 : IntKind.i64.wrap ((j : Int) - 1) = (j : Int) - 1 := iw (by omega) (by have := Hs.o; omega)
   have q5 : IntKind.i64.wrap (p : Int) = (p : Int) := iw (by omega) (by have := Hs.o; omega)
   have q2 : (j : Int) < (n : Int) := by omega
   have q3 : (p : Int) < (n : Int) := by omega
   obtain ⟨x, hx, x1, xn, px⟩ := O.o.inv.fw j (by omega)
   obtain ⟨y, hy, y1, yn, py⟩ := O.o.inv.fw p (by omega)
   have hlh := O.o.inv.hl
   have hlp := O.o.inv.pl
   have hnp := O.o.hnp
   obtain ⟨_, he, _, _, e1, _⟩ := O.o.oh.cell (j := j) (by omega)
   injection he with he; injection he with he _ _; subst he
   obtain ⟨_, he, _, _, e2, _⟩ := O.o.oh.cell (j := p) (by omega)
   injection he with he; injection he with he _ _; subst he
   rw [ints_nth (by omega), hx] at e1
   rw [ints_nth (by omega), hy] at e2
   have hxy : x ≠ y := by
    intro e
    subst e
    omega
   have Px := hid px
   have Py := hid py
   have Hlh := hid hlh
   have Hlp := hid hlp
   have Hp := hid hp
   have Hnp := hid hnp
   have ha := hid O.o.oa.rd
   have hs := Hs.o
   clear px py hlh hlp hp hnp
   have hatx : hat heap' j = x := by simp [hat, hx]
   have haty : hat heap' p = y := by simp [hat, hy]
   have Hx := hid hx
   have Hy := hid hy
   clear hx hy
   have bef : Hid (∀ q, Calls Tryz.prog 126 #[.pointer (some ⟨b, 0, none⟩), .int .i64 x, .int .i64 y] (wr.drewN q) fun r w' => r = .returned (.bool (ahead acts x y)) ∧ ∃ m, w' = wr.drewN m) := fun q =>
    Calls.quiet_of (before_any (w := wr.drewN q) c0 (ha.o.drewN q) (by have := Hnp.o; omega) (by have := Hnp.o; omega) (by have := Hnp.o; omega))
   cases hah : ahead acts x y with
   | true =>
    go_wp2_with fail
    go_quiet (first | (go_at_call 126; exact bef.o _))
    go_wp2_with fail
    refine (swap_any (w := wr.drewN nq) c2 O.o.c3 O.o.oh O.o.op O.o.hhb O.o.hpb O.o.hhp (i := j) (k := p) (by omega) (by omega) (by omega) Hx.o Hy.o (by have := Hnp.o; omega) (by have := Hnp.o; omega) hxy (by have := Hnp.o; omega) (by omega)).mono ?_
    rintro r w1 ⟨rfl, s1, s2, s3⟩
    go_wp2_with fail
    go_roundw
    case rel =>
     have hO := (O.o.drewN nq).turned s3 s1 s2 (O.o.inv.swap (by omega) (by omega) (by omega) Hx.o Hy.o)
     have hB : HeapBut acts (swp heap' j p) m p := by
      have := H.o.swap (by omega) hj (by have := Hlh.o; omega) (by rw [Hp.o, hatx, haty]; exact hah)
      rwa [Hp.o] at this
     refine ⟨p, swp heap' j p, _, by omega, rfl, hid hO, hid hB, hid fun k hk => ?_, (M.drewN _).trans (s3.mono fun g _ hg => .inl hg)⟩
     have hk' := E.o k hk
     rw [← hk']
     unfold swp nth
     rw [List.getElem?_set_ne (by omega), List.getElem?_set_ne (by omega)]
    case measure => simp [intOf]; omega
   | false =>
    go_wp2_with fail
    go_quiet (first | (go_at_call 126; exact bef.o _))
    go_wp2_with fail
    go_end0
    refine ⟨rfl, ⟨heap', pos', O.o.drewN _, H.o.done (fun _ => ?_), E.o⟩, M.drewN _⟩
    rw [Hp.o, hatx, haty]
    exact hah
end
end
section
open Go.RowKit
theorem info_size_int : (Tryz.prog.info? 3).map (·.size) = some 1 := by kernel_rfl
theorem wpList_copy_ints {ops : Array Oper} {rest : List Oper} {o : Oper} {a : Act} {w : World} {Q : Exit → Act → World → Prop} (hgd : o.guard = none) (s x : Operand)
  (ho : o.op = .call { callee := .builtin .copy, args := #[s, x], argTypes := #[23, 23] }) {F G : Nat → Prop} {g c : Nat} {u : Value} {n : Nat} {xs ys : List Value}
  (hv : Own w F 3 1 (.slice (some ⟨g, 0, none⟩) n c) n xs) (hu : Rd w G 1 u n ys) (hs : a.eval s = .slice (some ⟨g, 0, none⟩) n c) (hx : a.eval x = u) (h1 : ∀ u ∈ ys, u.oneCell' = true)
  (hK : ∀ r w', Own w' F 3 1 (.slice (some ⟨g, 0, none⟩) n c) n ys → Mod (fun k => k = g) w w' → wpList Tryz.prog ops Q rest (a.put o.dst r) w') :
  wpList Tryz.prog ops Q (o :: rest) a w := by
 refine wpList_plain hgd fun _ hK' => ?_
 have run : ∃ r w', (Builtin.copy_ #[23, 23] o.type #[.slice (some ⟨g, 0, none⟩) n c, u]).run Tryz.prog w = .ok r w' ∧ Own w' F 3 1 (.slice (some ⟨g, 0, none⟩) n c) n ys ∧ Mod (fun k => k = g) w w' := by
  obtain ⟨hyl, B, cb, rfl, hmc, hcm, hB⟩ := hu
  rcases Nat.eq_zero_or_pos n with h0 | h0
  ·subst h0
   have hy : ys = [] := List.eq_nil_of_length_eq_zero (by simpa using hyl)
   have hxs : xs = [] := List.eq_nil_of_length_eq_zero (by simpa using hv.1)
   subst hy hxs
   exact ⟨_, _, run_copy_none (P := Tryz.prog) w _ _ _ 3 _ _ 0 c 0 cb Tryz.underlying23 info_size_int rfl, hv, Mod.refl _ _⟩
  ·obtain ⟨gb, ob, rfl, _, _, hcell⟩ := hB h0
   obtain ⟨hl, e | ⟨g', cap, cur, e, hp, hF, hg, hn, hm, hsz, ht⟩⟩ := hv
   ·obtain ⟨_, e, e'⟩ := e; omega
   ·injection e with e1 _ e3
    injection e1 with e1; injection e1 with e1 _ _
    subst e1 e3
    have hyn : ys.length = n := by simpa using hyl
    refine ⟨_, _, run_copy_row (P := Tryz.prog) w _ _ _ 3 g 0 n c ⟨gb, ob, none⟩ n cb cur 3 ys Tryz.underlying23 info_size_int hg (by rw [hyn]; exact (Nat.min_self n).symm) (fun j v hj => by rw [addr_add]; exact hcell j v hj) (by omega) h1, ?_, ?_⟩
    ·refine ⟨hyl, .inr ⟨g, c, _, rfl, hp, hF, setRow_heap w g cur _ _ _ hg, hn, hm, ?_, ?_⟩⟩
     ·simp; omega
     ·simp [hyn]
    ·exact ⟨rfl, rfl, rfl, by simp, fun k _ hk => setRow_other w g k _ (fun e => hk e)⟩
 obtain ⟨r, w', hr, h2, h3⟩ := run
 unfold Oper.wp execOp
 simp only [ho, resolve, invoke, builtin, Sem.run_bind, Sem.run_pure, Result.andThen_ok, List.map_toArray, List.map_cons, List.map_nil, hs, hx, hr]
 exact hK' _ _ (hK r w' h2 h3)
theorem nth_ext {xs ys : List Int} (hl : xs.length = ys.length) (e : ∀ k, k < xs.length → nth xs k = nth ys k) : xs = ys := by
 apply List.ext_getElem hl
 intro k h1 h2
 have := e k h1
 rwa [nth_eq h1, nth_eq h2] at this
theorem hnth_map {xs : List Int} {f : Int → Int} {k : Nat} (hk : k < xs.length) : nth (xs.map f) k = f (nth xs k) := by
 rw [nth_eq (by simpa using hk), nth_eq hk]; simp
def low (x : Int) : Int := x / 1073741824
def one_or (x : Int) : Int := if x < 1 then 1 else x
section
variable {w w' : World} {F G : Nat → Prop} {b ga gh gp n np : Nat} {acts : List Int} {inc : Int} {heap pos : List Int}
theorem OrdAt.al (e : OrdAt w F b ga gh gp n np acts inc heap pos) : acts.length = np := by have := e.oa.1; simpa [ints_length] using this
theorem OrdAt.acted (e : OrdAt w F b ga gh gp n np acts inc heap pos) (j : Nat) (x : Int) : OrdAt (w.setCell ⟨ga, j, none⟩ (.int .i64 x)) F b ga gh gp n np (acts.set j x) inc heap pos := by
 have hm : Mod (fun g => g = ga) w (w.setCell ⟨ga, j, none⟩ (.int .i64 x)) := (Mod.refl (fun g => g = ga) w).setCell (p := ⟨ga, j, none⟩) (.inl rfl) _
 refine { e with
  blk := (hm.block b (lt_of_block e.blk) e.hab.symm).trans e.blk
  oa := ?_
  oh := e.oh.mod hm fun g _ hr _ x => ?_
  op := e.op.mod hm fun g _ hr _ x => ?_ }
 ·rw [ints_set]; exact e.oa.stored _
 ·have := hr.2
  dsimp only at this
  have := e.hah
  omega
 ·have := hr.2
  dsimp only at this
  have := e.hap
  omega
theorem OrdAt.inced (e : OrdAt w F b ga gh gp n np acts inc heap pos) (x : Int) : OrdAt (w.setCell ⟨b, 1, none⟩ (.int .i64 x)) F b ga gh gp n np acts x heap pos := by
 have hm : Mod (fun g => g = b) w (w.setCell ⟨b, 1, none⟩ (.int .i64 x)) := (Mod.refl (fun g => g = b) w).setCell (p := ⟨b, 1, none⟩) (.inl rfl) _
 refine { e with
  blk := ?_
  oa := e.oa.mod hm fun g _ hr _ x => ?_
  oh := e.oh.mod hm fun g _ hr _ x => ?_
  op := e.op.mod hm fun g _ hr _ x => ?_ }
 ·rw [heap_setCell_same w b 1 _ _ _ e.blk]; simp
 ·have := hr.2
  dsimp only at this
  have := e.hab
  omega
 ·have := hr.2
  dsimp only at this
  have := e.hhb
  omega
 ·have := hr.2
  dsimp only at this
  have := e.hpb
  omega
theorem rescale_any (ho : OrdAt w F b ga gh gp n np acts inc heap pos) :
  Calls Tryz.prog 121 #[.pointer (some ⟨b, 0, none⟩)] w fun r w' => r = .returned (.tuple #[]) ∧ OrdAt w' F b ga gh gp n np (acts.map low) (one_or (low inc)) heap pos ∧ Mod (fun g => g = ga ∨ g = b) w w' := by
 have Ho := hid ho
 have hs := ho.small
 have Hnp := hid ho.hnp
 have hnp2 : np ≤ 65537 := by have := ho.hnp; omega
 have c0 := ho.c0
 clear ho
 go_enter Tryz.func121, Tryz.ntmps121
 go_wp2_with fail
 go_loopw [8, 2] (fun iv _ W => ∃ (j : Nat) (xs : List Int), j ≤ np ∧ iv = .int .i64 j ∧ Hid (OrdAt W F b ga gh gp n np xs inc heap pos) ∧ Hid (∀ k, k < np → nth xs k = if k < j then low (nth acts k) else nth acts k) ∧ Mod (fun g => g = ga ∨ g = b) w W) (fun iv _ _ => np - (intOf iv).toNat)
 case atStart => exact ⟨0, acts, by omega, rfl, Ho, hid fun k _ => by simp, Mod.refl _ _⟩
 case round =>
  obtain ⟨j, xs, hj, rfl, O, E, M⟩ := hrel
  have c0 := O.o.c0
  have c1 := O.o.c1
  have f1 := O.o.f1
  by_cases hlt : j < np
  ·have q1 : (j : Int) < (np : Int) := by omega
   obtain ⟨_, he, _, _, e1, f2⟩ := O.o.oa.cell (j := j) (by omega)
   injection he with he; injection he with he _ _; subst he
   rw [ints_nth (by have := O.o.al; omega), E.o j hlt, if_neg (by omega)] at e1
   generalize hv : nth acts j = v at e1
   have Hv := hid hv
   clear hv
   go_wp2_with fail
   go_roundw
   case rel =>
    refine ⟨j + 1, xs.set j (low v), by omega, by go_num, hid (O.o.acted j (low v)), hid fun k hk => ?_, M.setCell (p := ⟨ga, j, none⟩) (.inl (.inl rfl)) _⟩
    have hv := Hv.o
    rw [nth_set _ _ _ _ (by have := O.o.al; omega), E.o k hk]
    by_cases a : j = k
    ·subst a; rw [if_pos rfl, if_pos (by omega), hv]
    ·rw [if_neg a]
     by_cases a2 : k < j
     ·rw [if_pos a2, if_pos (by omega)]
     ·rw [if_neg a2, if_neg (by omega)]
   case measure => simp [intOf]; omega
  ·have q1 : (np : Int) ≤ (j : Int) := by omega
   have lst : Hid (xs = acts.map low) := nth_ext (by rw [List.length_map, O.o.al, Ho.o.al]) fun k hk => by
    have := O.o.al
    have := Ho.o.al
    rw [hnth_map (by omega), E.o k (by omega), if_pos (by omega)]
   by_cases hq : inc / 1073741824 ≤ 1
   ·go_wp2_with fail
    go_end0
    refine ⟨rfl, ?_, M.setCell (p := ⟨b, 1, none⟩) (.inl (.inr rfl)) _⟩
    rw [← lst.o, show one_or (low inc) = 1 by unfold one_or low; split <;> omega]
    exact O.o.inced _
   ·go_wp2_with fail
    go_end0
    refine ⟨rfl, ?_, M.setCell (p := ⟨b, 1, none⟩) (.inl (.inr rfl)) _⟩
    rw [← lst.o, show one_or (low inc) = inc / 1073741824 by unfold one_or low; split <;> omega]
    exact O.o.inced _
end
end
section
open Go.RowKit
theorem made_any {w : World} {b : Nat} {inc : Int} (c1 : w.cell? ⟨b, 1, none⟩ = some (.int .i64 inc)) :
  Calls Tryz.prog 118 #[.pointer (some ⟨b, 0, none⟩)] w fun r w' => r = .returned (.bool (decide (0 < inc))) ∧ w' = w := by
 go_enter Tryz.func118, Tryz.ntmps118
 go_wp2_with fail
 go_ret
 exact ⟨rfl, rfl⟩
def hasv (n : Nat) (v : Int) : Bool := decide (1 ≤ v) && decide (v ≤ n)
theorem has_any {w : World} {b n c : Nat} {A : Option Addr} {v : Int} (c2 : w.cell? ⟨b, 2, none⟩ = some (.slice A n c)) :
  Calls Tryz.prog 119 #[.pointer (some ⟨b, 0, none⟩), .int .i64 v] w fun r w' => r = .returned (.bool (hasv n v)) ∧ w' = w := by
 by_cases h1 : 1 ≤ v
 ·go_enter Tryz.func119, Tryz.ntmps119
  go_wp2_with fail
  go_ret
  exact ⟨by simp [hasv, h1], rfl⟩
 ·go_enter Tryz.func119, Tryz.ntmps119
  go_wp2_with fail
  go_ret
  exact ⟨by simp [hasv]; omega, rfl⟩
section
variable {w w' : World} {F G : Nat → Prop} {b ga gh gp n np : Nat} {acts : List Int} {inc : Int} {heap pos : List Int}
theorem len_any (ho : OrdAt w F b ga gh gp n np acts inc heap pos) (hi : 0 < inc) :
  Calls Tryz.prog 124 #[.pointer (some ⟨b, 0, none⟩)] w fun r w' => r = .returned (.int .i64 n) ∧ w' = w := by
 have c1 := ho.c1
 have c2 := ho.c2
 clear ho
 go_enter Tryz.func124, Tryz.ntmps124
 go_wp2_with fail
 refine (made_any c1).mono ?_
 rintro r w' ⟨rfl, rfl⟩
 go_wp2_with fail
 go_ret
 exact ⟨rfl, rfl⟩
theorem HeapTo.but {m : Nat} (e : HeapTo acts heap m) : HeapBut acts heap (m + 1) m :=
 ⟨fun k h1 h2 h3 => e k h1 (by omega), fun k h1 h2 h3 _ => by omega⟩
theorem set_nth {xs : List Int} {j : Nat} (_hj : j < xs.length) : xs.set j (nth xs j) = xs := by
 apply nth_ext (by simp)
 intro k hk
 rw [nth_set _ _ _ _ (by simpa using hk)]
 split
 ·rename_i e; subst e; rfl
 ·rfl
theorem rebuild_any (ho : OrdAt w F b ga gh gp n np acts inc heap pos) :
  Calls Tryz.prog 122 #[.pointer (some ⟨b, 0, none⟩)] w fun r w' => r = .returned (.tuple #[]) ∧
   (∃ heap' pos', OrdAt w' F b ga gh gp n np acts inc heap' pos' ∧ HeapTo acts heap' n) ∧ Mod (fun g => (g = gh ∧ 0 < n) ∨ g = gp) w w' := by
 have Ho := hid ho
 have hs := ho.small
 have c2 := ho.c2
 have hblt := lt_of_block ho.blk
 have Hnp := hid ho.hnp
 have hnp2 : np ≤ 65537 := by have := ho.hnp; omega
 obtain ⟨i0, hi, hz0, hz1, hz2⟩ := info_parts info_int
 clear ho
 go_enter Tryz.func122, Tryz.ntmps122
 go_wp2_with (first | (at_make; refine wpList_make1 rfl _ _ _ rfl i0 (.int .i64 0) 8 Tryz.underlying23 hi hz0 hz1 hz2 rfl rfl rfl (by omega) (by omega) ?_; intro w1 ho1 hb1; have d2 := (hb1.cell (p := ⟨b, 2, none⟩) hblt).trans c2) | (refine wpList_copy_ints rfl _ _ rfl ho1 (Ho.o.oh.rd.below hb1) rfl rfl (ints_one _) ?_; intro r1 w2 ho2 hm2))
 have Hb1 := hid hb1
 have Hm2 := hid hm2
 have O2 : Hid (OrdAt w2 F b ga gh gp n np acts inc heap pos) := Ho.o.keep fun g hg _ => (hm2.block g (by have := hb1.size; omega) (by omega)).trans (hb1.block g hg)
 have hM2 : Hid (Mod (fun _ => False) w w2) := (Mod.of_below hb1).trans (hm2.mono fun g _ hg => .inr (by omega))
 have hr2 := ho2.rd
 obtain ⟨q, hq⟩ : ∃ q, w.heap.size = q := ⟨_, rfl⟩
 rw [hq] at hr2 ⊢
 clear hb1 hm2 ho1 ho2 d2 c2 hz0 hz1 hz2 hi
 go_loopw [19, 3, 4] (fun iv _ _ W => ∃ (j : Nat) (heap' pos' : List Int), j ≤ n ∧ iv = .int .i64 j ∧ Hid (OrdAt W F b ga gh gp n np acts inc heap' pos') ∧ Hid (HeapTo acts heap' j) ∧ Hid (∀ k, j ≤ k → nth heap' k = nth heap k) ∧ Hid (Rd W (fun g => g = q) 1 (.slice (some ⟨q, 0, none⟩) n n) n (ints heap)) ∧ Mod (fun g => (g = gh ∧ 0 < n) ∨ g = gp) w2 W) (fun iv _ _ _ => n - (intOf iv).toNat)
 case atStart => exact ⟨0, heap, pos, by omega, rfl, O2, hid fun k h1 h2 => by omega, hid fun _ _ => rfl, hid hr2, Mod.refl _ _⟩
 case round =>
  obtain ⟨j, heap', pos', hj, rfl, O, H, E, R, M⟩ := hrel
  have c2 := O.o.c2
  have c3 := O.o.c3
  by_cases hlt : j < n
  ·have q1 : (j : Int) < (n : Int) := by omega
   obtain ⟨x, hx, x1, xn, px⟩ := O.o.inv.fw j hlt
   have hnp := Hnp.o
   have q2 : (x : Int) < (np : Int) := by omega
   have hlh := O.o.inv.hl
   have hlp := O.o.inv.pl
   obtain ⟨_, he, _, hgh, e1, f1⟩ := O.o.oh.cell (j := j) (by omega)
   injection he with he; injection he with he _ _; subst he
   obtain ⟨_, he, _, _, e2, f2⟩ := O.o.op.cell (j := x) (by omega)
   injection he with he; injection he with he _ _; subst he
   obtain ⟨_, hcell⟩ := R.o.cell
   obtain ⟨_, _, he, _, _, e3⟩ := hcell j hlt
   injection he with he; injection he with he1 he2; subst he1 he2
   rw [ints_nth (by omega), hx] at e1
   rw [ints_nth (by omega), px] at e2
   rw [← E.o j (Nat.le_refl _), hx, Nat.zero_add] at e3
   have Hx := hid hx
   have Px := hid px
   have Hlh := hid hlh
   have Hlp := hid hlp
   have hhp := O.o.hhp
   have hhb := O.o.hhb
   have hpb := O.o.hpb
   have hqh : q ≠ gh := by
    obtain ⟨_, he, _, hg, _, _⟩ := Ho.o.oh.cell (j := j) (by omega)
    injection he with he; injection he with he _ _; subst he
    omega
   have hqp : q ≠ gp := by
    obtain ⟨_, he, _, hg, _, _⟩ := Ho.o.op.cell (j := x) (by omega)
    injection he with he; injection he with he _ _; subst he
    omega
   have r1 : (gh = b) = False := by simpa using hhb
   have r2 : (gp = b) = False := by simpa using hpb
   have r3 : (gh = gp) = False := by simpa using hhp
   have r4 : (gp = gh) = False := by simpa using hhp.symm
   have r5 : (b = gh) = False := by simpa using hhb.symm
   have r6 : (b = gp) = False := by simpa using hpb.symm
   have Hnp' := hid hnp
   clear hnp hlh hlp hx px hcell hhp hhb hpb
   go_wp2_with fail
   go_region
   go_wp2_with fail
   have hm3 : Mod (fun g => g = gh ∨ g = gp) wr ((wr.setCell ⟨gh, j, none⟩ (.int .i64 x)).setCell ⟨gp, x, none⟩ (.int .i64 j)).drew :=
    (((Mod.refl _ wr).setCell (p := ⟨gh, j, none⟩) (.inl (.inl rfl)) _).setCell (p := ⟨gp, x, none⟩) (.inl (.inr rfl)) _).drew
   have a1 := O.o.oh.stored (j := j) (.int .i64 x)
   rw [← ints_set, ← Hx.o, set_nth (by have := Hlh.o; omega), Hx.o] at a1
   have a2 := (a1.mod (w' := (wr.setCell ⟨gh, j, none⟩ (.int .i64 x)).setCell ⟨gp, x, none⟩ (.int .i64 j)) ((Mod.refl (fun g => g = gp) _).setCell (p := ⟨gp, x, none⟩) (.inl rfl) _) fun g _ hr _ e => by
    have := hr.2
    have := O.o.hhp
    dsimp only at *
    omega).drew
   have b1 := ((O.o.op.mod (w' := wr.setCell ⟨gh, j, none⟩ (.int .i64 x)) ((Mod.refl (fun g => g = gh) _).setCell (p := ⟨gh, j, none⟩) (.inl rfl) _) fun g _ hr _ e => by
    have := hr.2
    have := O.o.hhp
    dsimp only at *
    omega).stored (j := x) (.int .i64 j)).drew
   rw [← ints_set, ← Px.o, set_nth (by have := Hlp.o; omega), Px.o] at b1
   have O3 := O.o.turned hm3 a2 b1 O.o.inv
   refine (up_any O3 (i := j) (m := j + 1) (by omega) (by omega) H.o.but).mono ?_
   rintro r w4 ⟨rfl, ⟨heap4, pos4, O4, H4, E4⟩, M4⟩
   have m4 := hm3.trans (M4.mono fun g _ hg => .inl hg)
   go_wp2_with fail
   go_roundw
   case rel =>
    refine ⟨j + 1, heap4, pos4, by omega, by go_num, hid O4, hid H4, hid fun k hk => ?_, hid (R.o.mod m4 fun g _ hg e => ?_), M.trans (m4.mono fun g _ hg => .inl (hg.imp (fun e => ⟨e, by omega⟩) id))⟩
    ·rw [E4 k hk]; exact E.o k (by omega)
    ·rcases e with e | e
     ·exact hqh (hg.symm.trans e)
     ·exact hqp (hg.symm.trans e)
   case measure => simp [intOf]; omega
  ·have q1 : (n : Int) ≤ (j : Int) := by omega
   obtain rfl : j = n := by omega
   go_wp2_with fail
   go_end0
   exact ⟨rfl, ⟨heap', pos', O.o, H.o⟩, (hM2.o.mono fun g _ hg => hg.elim).trans (M.mono fun g _ hg => .inl hg)⟩
end
end
end Go.Proofs.YtcjmpobccbnpkaaGreat
