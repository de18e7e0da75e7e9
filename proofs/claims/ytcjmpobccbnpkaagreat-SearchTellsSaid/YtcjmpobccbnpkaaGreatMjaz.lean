/-
 Chapter 32: several texts in one (EnD RgTold PbO).
-/
import Derived.Test.YtcjmpobccbnpkaaGreatMjax
import Derived.Test.YtcjmpobccbnpkaaGreatMjaa
import Derived.RangeFuncNested
import Derived.Test.YtcjmpobccbnpkaaGreatMjap
import Derived.Test.YtcjmpobccbnpkaaGreatMjar
namespace Go.Proofs.YtcjmpobccbnpkaaGreat
set_option maxRecDepth 100000
set_option maxHeartbeats 2000000
section
open Go.RowKit
def Pb.offTo (c : Pb) (X : List Int) (i : Nat) : List Int := (c.lits.take i).filter fun l => decide (valX X l < 0)
theorem Pb.offTo_next (c : Pb) (X : List Int) {i : Nat} (hi : i < c.lits.length) : c.offTo X (i + 1) = c.offTo X i ++ (if valX X (nth c.lits i) < 0 then [nth c.lits i] else []) := by
 unfold Pb.offTo
 rw [take_nth hi, List.filter_append]
 congr 1
 by_cases h : valX X (nth c.lits i) < 0
 ·rw [if_pos h]; simp [h]
 ·rw [if_neg h]; simp [h]
theorem Pb.offTo_all (c : Pb) (X : List Int) : c.offTo X c.lits.length = c.offX X := by unfold Pb.offTo Pb.offX; rw [List.take_length]
theorem Pb.offTo_len (c : Pb) (X : List Int) (i : Nat) : (c.offTo X i).length ≤ i := by
 unfold Pb.offTo
 exact Nat.le_trans (List.length_filter_le _ _) (by rw [List.length_take]; omega)
def slackTo (c : Pb) (X : List Int) (i : Nat) : Int := c.part (fun l => decide (0 ≤ valX X l)) (List.range i) - c.bound
theorem slackTo_next (c : Pb) (X : List Int) (i : Nat) : slackTo c X (i + 1) = slackTo c X i + (if valX X (nth c.lits i) < 0 then 0 else nth c.coefs i) := by
 unfold slackTo
 rw [List.range_succ, Pb.part_snoc]
 by_cases h : valX X (nth c.lits i) < 0
 ·rw [if_pos h, if_neg (by simp; omega)]; omega
 ·rw [if_neg h, if_pos (by simp; omega)]; omega
theorem slackTo_all (c : Pb) (X : List Int) : slackTo c X c.lits.length = c.slackX X := rfl
theorem slackTo_in {c : Pb} (h : c.Ok) (X : List Int) {i : Nat} (hi : i ≤ c.lits.length) : -16777216 ≤ slackTo c X i ∧ slackTo c X i ≤ 1099511627776 := by
 obtain ⟨h1, h2⟩ := Pb.part_bounds h (fun l => decide (0 ≤ valX X l)) (List.range i) fun j hj => by have := List.mem_range.1 hj; omega
 rw [List.length_range] at h2
 have h3 := h.low
 have h4 := h.high
 have h5 := h.few
 unfold slackTo
 constructor
 ·omega
 ·have : (i : Int) * 16777216 ≤ 65536 * 16777216 := Int.mul_le_mul_of_nonneg_right (by omega) (by decide)
  omega
theorem state_any {w : World} {F G : Nat → Prop} {b : Nat} {T : Tr} {v : Value} {c : Pb} (ht : Trail w F b T) (hc : PbRd w G v c) (hok : c.Ok) :
  Calls Tryz.prog 89 #[.pointer (some ⟨b, 0, none⟩), v] w fun r w' => (∃ u, r = .returned (.tuple #[.int .i64 (c.slackX T.lits), u]) ∧ Own w' (fun g => w.heap.size ≤ g) 3 1 u (c.offX T.lits).length (ints (c.offX T.lits))) ∧ Below w.heap.size w w' := by
 obtain ⟨⟨A, n, cn, B, m, cm, rfl, hx, hk⟩, hb⟩ := hc
 have hxl : c.lits.length = n := by have := hx.1; simpa [ints_length] using this
 have hkl : c.coefs.length = m := by have := hk.1; simpa [ints_length] using this
 obtain rfl : m = n := by have := hok.len; omega
 have hf := hok.few
 obtain ⟨X, hX⟩ : ∃ X, T.lits = X := ⟨_, rfl⟩
 obtain ⟨X0, hX0, bX0, k0, s0⟩ := alloc_step w (.cells #[.slice A m cn, .slice B m cm, .int .i64 c.bound] 41)
 obtain ⟨sz, hsz⟩ : ∃ z, w.heap.size = z := ⟨_, rfl⟩
 have HX0 := hid hX0
 have hx0 := hid (hx.below bX0)
 have hk0 := hid (hk.below bX0)
 have ht0 := hid (ht.below bX0)
 have B0 := hid bX0
 rw [hsz] at k0 s0
 have K0 := hid k0
 have Hxl := hid hxl
 have HX := hid hX
 obtain ⟨c0, c1, c2⟩ := box3 k0
 obtain ⟨bd, hbd⟩ : ∃ z, c.bound = z := ⟨_, rfl⟩
 have hbr : -16777216 ≤ bd ∧ bd ≤ 16777216 := by have := hok.low; have := hok.high; omega
 have hwb : IntKind.i64.wrap (-bd) = -bd := iw' (by omega) (by omega)
 have hs0 : slackTo c X 0 = -bd := by unfold slackTo; rw [hbd]; simp [Pb.part]
 have Hs0 := hid hs0
 rw [hbd] at c2
 have Hbd := hid hbd
 clear hX0 bX0 k0 hx hk ht hX hs0 hbd hb hkl
 go_enter Tryz.func89, Tryz.ntmps89
 go_upto_region 1 with fail
 rw [HX0.o]
 go_wp2_with fail
 rw [← Hs0.o]
 go_loopw [16, 6, 7] (fun iv sv ov W => ∃ (i : Nat) (A1 : Option Addr) (d1 : Nat), i ≤ m ∧ iv = .int .i64 i ∧ sv = .int .i64 (slackTo c X i) ∧ ov = .slice A1 (c.offTo X i).length d1 ∧ Hid (Own W (fun g => X0.heap.size ≤ g) 3 1 (.slice A1 (c.offTo X i).length d1) (c.offTo X i).length (ints (c.offTo X i))) ∧ Hid (Below X0.heap.size X0 W)) (fun iv _ _ _ => m - (intOf iv).toNat)
 case atStart => exact ⟨0, none, 0, by omega, rfl, rfl, rfl, hid (Own.nil _ _ _ _), Below.refl _ _⟩
 case round =>
  obtain ⟨i, A1, d1, hi, rfl, rfl, rfl, HO, HB⟩ := hrel
  by_cases hlt : i < m
  ·have x1 : (i : Int) < (m : Int) := by omega
   obtain ⟨gL, oL, rfl, _, hgL, eL⟩ := (hx0.o.below HB.o).cell.2 i hlt
   have hlm := hok.lit i (by omega)
   obtain ⟨l, hl⟩ : ∃ l, nth c.lits i = l := ⟨_, rfl⟩
   rw [hl] at eL hlm
   have Hl := hid hl
   have hnx := c.offTo_next X (i := i) (by omega)
   have hsx := slackTo_next c X i
   rw [hl] at hnx hsx
   have Hnx := hid hnx
   have Hsx := hid hsx
   have HT := hid (ht0.o.below HB.o)
   clear hl hnx hsx
   go_wp2_with fail
   refine (value_any HT.o (l := l) (by unfold I64; omega)).mono ?_
   rintro r w1 ⟨rfl, b1⟩
   rw [Tr.value_is, HX.o]
   have HB1 := hid (HB.o.trans (b1.mono HB.o.size))
   have HO1 := hid (HO.o.below b1)
   clear b1 eL
   obtain ⟨V, hV⟩ : ∃ V, valX X l = V := ⟨_, rfl⟩
   rw [hV]
   rw [hV] at Hnx Hsx
   clear hV
   by_cases hv : V < 0
   ·have hn := Hnx.o
    have hs := Hsx.o
    rw [if_pos hv] at hn hs
    have Hn := hid hn
    have Hs := hid hs
    have hlen := c.offTo_len X i
    obtain ⟨q, hq⟩ : ∃ q, (c.offTo X i).length = q := ⟨_, rfl⟩
    have Hq := hid hq
    rw [hq] at HO1 hlen ⊢
    have h48 : q + 1 ≤ 17592186044416 := by omega
    clear hn hs hq
    go_wp2_with (at_builtin; refine wpList_append_ints rfl _ _ rfl (HO1.o.below ((Below.refl _ _).alloc (Nat.le_refl _) _)) (own_one w1 (.int .i64 l)).rd rfl rfl (by simp [Value.oneCell']) (by omega) fun A3 c3 w3 ho3 m3 hr3 => ?_)
    have sX := HB1.o.size
    have HB3 := hid (below_mod (HB1.o.alloc HB1.o.size (.cells #[.int .i64 l] 3)) (by simp; omega) m3 fun g hg => (HO1.o.row hg).1)
    have hon := hid (ho3.mono (G := fun g => X0.heap.size ≤ g) fun g _ _ hg => hg.elim id fun hg => by simp at hg; omega)
    clear ho3 m3 hr3
    go_roundw
    case rel => exact ⟨i + 1, A3, c3, by omega, by go_num, by rw [Hs.o, Int.add_zero], by rw [Hn.o, List.length_append, Hq.o]; rfl, hid (by rw [Hn.o, List.length_append, Hq.o, ints_append]; exact hon.o), HB3⟩
    case measure => simp [intOf]; omega
   ·have hn := Hnx.o
    have hs := Hsx.o
    rw [if_neg hv] at hn hs
    rw [List.append_nil] at hn
    have Hn := hid hn
    have Hs := hid hs
    obtain ⟨gQ, oQ, rfl, _, hgQ, eQ⟩ := (hk0.o.below HB1.o).cell.2 i hlt
    have hcm := hok.coef i (by omega)
    obtain ⟨k, hk⟩ : ∃ l, nth c.coefs i = l := ⟨_, rfl⟩
    rw [hk] at eQ hcm
    have Hk := hid hk
    have hin := slackTo_in hok X (i := i) (by omega)
    rw [Hbd.o] at hcm
    obtain ⟨S, hS⟩ : ∃ S, slackTo c X i = S := ⟨_, rfl⟩
    have HS := hid hS
    rw [hS] at hin ⊢
    have hws : IntKind.i64.wrap (S + k) = S + k := iw' (by omega) (by omega)
    obtain ⟨d0, d1', d2⟩ := box3 (keep_blk K0.o HB1.o)
    clear hk hn hs hS
    go_wp2_with fail
    go_roundw
    case rel => exact ⟨i + 1, A1, d1, by omega, by go_num, by rw [Hs.o, HS.o, Hk.o], by rw [Hn.o], hid (by rw [Hn.o]; exact HO1.o), HB1⟩
    case measure => simp [intOf]; omega
  ·have hin : i = m := by omega
   have x1 : ¬ ((i : Int) < (m : Int)) := by omega
   have e1 : slackTo c X i = c.slackX X := by rw [hin, ← Hxl.o]; exact slackTo_all c X
   have e2 : c.offTo X i = c.offX X := by rw [hin, ← Hxl.o]; exact c.offTo_all X
   rw [e1, e2]
   have HO2 := hid (e2 ▸ HO.o)
   clear e1 e2 hin
   go_wp2_with fail
   go_ret2
   rw [HX.o]
   exact ⟨⟨_, rfl, HO2.o.mono fun g _ _ (hg : X0.heap.size ≤ g) => by omega⟩, hsz ▸ B0.o.trans (HB.o.mono B0.o.size)⟩
end
section
open Go Go.RowKit
section
variable {F : Fence} {n : Nat} {P : Program}
def Obj.isBk (o : Obj) : Bool := match o with | .cells .. => false | .map .. => false | _ => true
structure KeepsBk (B : Nat) (W W' : World) : Prop where
 size : W.heap.size ≤ W'.heap.size
 same : ∀ (k : Nat) (o : Obj), B ≤ k → W.heap[k]? = some o → Obj.isBk o = true → W'.heap[k]? = some o
theorem KeepsBk.refl (B : Nat) (W : World) : KeepsBk B W W := ⟨Nat.le_refl _, fun _ _ _ h _ => h⟩
def OwnBk {β : Type} (B : Nat) (I : β → World → Prop) : Prop :=
 ∀ s W W' row, I s W → W.grownBy W' row → (∀ r, row = some r → B ≤ r ∧ ∃ o : Obj, W.heap[r]? = some o ∧ Obj.isBk o = true) → I s W'
theorem OwnBk.putObj {β : Type} {B : Nat} {I : β → World → Prop} (h : OwnBk B I) {s : β} {W : World} {l : Nat} {o : Obj} (o' : Obj) (hs : I s W) (hB : B ≤ l) (hl : W.heap[l]? = some o) (ho : Obj.isBk o = true) : I s (W.putObj l o') :=
 h s W _ (some l) hs (grownBy_putObj' W l o') (fun r e => by cases e; exact ⟨hB, o, hl, ho⟩)
theorem OwnBk.alloc {β : Type} {B : Nat} {I : β → World → Prop} (h : OwnBk B I) {s : β} {W : World} (o : Obj) (hs : I s W) : I s (W.alloc o) :=
 h s W _ none hs (World.grownBy_alloc W o none) (fun r e => by cases e)
def ownPostT {α : Type} (B : Nat) (Kp : World → World → Prop) (I : List α → World → Prop) (Ix : Code → List α → World → Prop) (xs : List α) (W : World) : Exit → Act → World → Prop
 | .normal, _, W' => KeepsBk B W W' ∧ Kp W W' ∧ I xs W'
 | .ret, _, W' => KeepsBk B W W' ∧ Ix .ret xs W'
 | .exit id, _, W' => KeepsBk B W W' ∧ Ix (.exit id) xs W'
 | .goto t, _, W' => KeepsBk B W W' ∧ Ix (.goto t) xs W'
 | .panic _, _, _ => False
 | .outgrown, _, _ => False
def SeqTold {α : Type} (F : Fence) (n : Nat) (P : Program) (g : Nat) (lb : Array Value) (encs : α → Array Value) (Kp : World → World → Prop) (I : List α → World → Prop) (S Sp : List α → Prop) (w : World) : Prop :=
 ∀ (l : Nat) (J Jx : List α → World → Prop) (W : World), Below w.heap.size w W → OwnBk W.heap.size J → (∀ pre W1, J pre W1 → I pre W1) →
  (∀ pre x W1, J pre W1 → YieldAt F (n - 1) P l (encs x) W1 fun e W' =>
   (e = .returned (.bool true) ∧ J (pre ++ [x]) W' ∧ Kp W1 W') ∨ (e = .returned (.bool false) ∧ Jx (pre ++ [x]) W')) →
  J [] W →
  CallsIn F n P g (#[.func (.yield l) #[] #[]] ++ lb) W fun e W' => (∃ v, e = .returned v) ∧ ((∃ xs, S xs ∧ J xs W') ∨ (∃ pre, Sp pre ∧ Jx pre W'))
theorem wpIn_rangeFunc_told {α : Type} {g : Operand} {ps : Array Tmp} {assign body : Code} {Q : Exit → Act → World → Prop} {a : Act} {w : World}
  (hro : F.round = none) (h1 : 1 ≤ n) {gf : Nat} {lb : Array Value} (hg : a.eval g = .func (.func gf) #[] lb) (hFg : F.fn gf) (eg : ∀ args w, (callFunc gf args).run P w = .ok (.enter gf args) w)
  {encs : α → Array Value} {Kp : World → World → Prop} {S Sp : List α → Prop} {w0 : World} (I : List α → World → Prop) (Ix : Code → List α → World → Prop) (hseq : SeqTold F (n - 1) P gf lb encs Kp I S Sp w0)
  (hKt : ∀ {A B C : World}, Kp A B → Kp B C → Kp A C) (hKb : ∀ (W : World) (l : Nat) (o o' : Obj), w.heap.size ≤ l → W.heap[l]? = some o → o.isCells = false → o.isWalk = false → Kp W (W.putObj l o')) (hb0 : Below w0.heap.size w0 w) (hps : ∀ x, (encs x).size = ps.size)
  (hI : OwnBk w.heap.size I) (hIx : ∀ c, OwnBk w.heap.size (Ix c)) (h0 : I [] w) (Ax : α → Act → World → Prop) (hAx : ∀ x a', OwnBk w.heap.size (fun (_ : Unit) W => Ax x a' W))
  (hassign : ∀ (l : Nat) (pre : List α) (x : α) (W : World) (K : Act → World → Prop), I pre W → (∀ a' W', KeepsBk w.heap.size W W' → Kp W W' → I pre W' → Ax x a' W' → K a' W') →
   assign.wpIn (F.inRound l) (n - 1 - 1) P (Exit.then K (fun _ _ _ => False)) { tmps := (ps.zip (encs x)).foldl (fun t (p, v) => t.setIfInBounds p v) a.tmps, defers := [] } W)
  (hbody : ∀ (l : Nat) (pre : List α) (x : α) (a' : Act) (W : World), w.heap.size ≤ l → (∃ r, W.heap[l]? = some (.loop r)) → I pre W → Ax x a' W → body.wpIn (F.inRound l) (n - 1 - 1) P (ownPostT w.heap.size Kp I Ix (pre ++ [x]) W) a' W)
  (hdone : ∀ (D : Nat) (xs : List α) (W : World), w.heap.size ≤ D → S xs → I xs W → W.heap[D]? = some (.deferred (some [])) → Q .normal { a with defers := { target := .collected D, args := #[] } :: a.defers } W)
  (hstop : ∀ (D : Nat) (c : Code) (pre : List α) (W : World), w.heap.size ≤ D → Sp pre → Ix c pre W → W.heap[D]? = some (.deferred (some [])) → c.wpIn F n P Q { a with defers := { target := .collected D, args := #[] } :: a.defers } W) :
  (Code.rangeFunc g ps assign body).wpIn F n P Q a w := by
 refine wpIn_rangeFunc ?_
 intro fn hfn
 rw [hro]
 obtain ⟨rec, hrec⟩ : ∃ rec : LoopState → Option Code → Loop, rec = fun st pe => { state := st, pending := pe, fn, tmps := a.tmps, params := ps, assign, body, defers := w.heap.size } := ⟨_, rfl⟩
 obtain ⟨W1, hW1⟩ : ∃ W1, (w.alloc (.deferred (some []))).alloc (.loop (rec .ready none)) = W1 := ⟨_, rfl⟩
 have hL1 : W1.heap[w.heap.size + 1]? = some (.loop (rec .ready none)) := by
  rw [← hW1]; have := World.alloc_heap_new (w.alloc (.deferred (some []))) (.loop (rec .ready none)); rwa [World.size_alloc] at this
 have hK1 : W1.heap[w.heap.size]? = some (.deferred (some [])) := by
  rw [← hW1]; exact (Below.heap_alloc _ _ _ (by simp)).trans (World.alloc_heap_new w _)
 have hI1 : I [] W1 := by rw [← hW1]; exact hI.alloc _ (hI.alloc _ h0)
 have hb1 : Below w0.heap.size w0 W1 := by
  rw [← hW1]; exact hb0.trans ((((Below.refl _ w).alloc (Nat.le_refl _) _).alloc (by simp) _).mono hb0.size)
 refine ⟨w.heap.size + 1, [{ target := .collected w.heap.size, args := #[] }], W1, { target := .fn (.func gf) lb, args := #[.func (.yield (w.heap.size + 1)) #[] #[]] }, W1, gf,
  #[.func (.yield (w.heap.size + 1)) #[] #[]] ++ lb, W1, ?_, ?_, ?_, ?_, fun _ => h1, ?_⟩
 ·rw [← hW1, hrec]; exact run_enterLoop_outer _ _ _ _ _
 ·simp only [resolve, hg]
  simp [go_sem]
 ·intro f' hf'; simp [Target.leads] at hf'; subst hf'; exact hFg
 ·simp [invoke, go_sem, eg]
 ·have hs1 : W1.heap.size = w.heap.size + 2 := by rw [← hW1]; simp
  have hnw : ∀ {A B : World} {row : Option Nat}, (∀ r, row = some r → W1.heap.size ≤ r ∧ ∃ o : Obj, A.heap[r]? = some o ∧ Obj.isBk o = true) → (∀ r, row = some r → w.heap.size ≤ r ∧ ∃ o : Obj, A.heap[r]? = some o ∧ Obj.isBk o = true) :=
   fun hr r e => ⟨by have := (hr r e).1; omega, (hr r e).2⟩
  have hkp : ∀ {A B : World} {row : Option Nat} {k : Nat} {o : Obj}, A.grownBy B row → (∀ r, row = some r → W1.heap.size ≤ r ∧ ∃ o : Obj, A.heap[r]? = some o ∧ Obj.isBk o = true) → k < W1.heap.size → A.heap[k]? = some o → B.heap[k]? = some o :=
   fun hg hr hk h => (hg.block _ (Array.getElem?_eq_some_iff.1 h).1 (fun e => by have := (hr _ e.symm).1; omega)).trans h
  refine (hseq (w.heap.size + 1)
   (fun pre W => I pre W ∧ W.heap[w.heap.size + 1]? = some (.loop (rec .ready none)) ∧ W.heap[w.heap.size]? = some (.deferred (some [])))
   (fun pre W => ∃ c, Ix c pre W ∧ W.heap[w.heap.size + 1]? = some (.loop (rec .done (some c))) ∧ W.heap[w.heap.size]? = some (.deferred (some [])))
   W1 hb1
   (fun s A B row hs hg' hr => ⟨hI s A B row hs.1 hg' (hnw (B := B) hr), hkp hg' hr (by omega) hs.2.1, hkp hg' hr (by omega) hs.2.2⟩)
   (fun _ _ h => h.1)
   ?_ ⟨hI1, hL1, hK1⟩).mono ?_
  ·rintro pre x W ⟨hi, hl, hk⟩
   have hlt : w.heap.size + 1 < W.heap.size := (Array.getElem?_eq_some_iff.1 hl).1
   have hy := run_yield (P := P) (args := encs x) hl (by rw [hrec]; exact hps x)
   rw [hrec] at hy
   refine ⟨fn, _, assign, body, hy, roundIn_of_wpIn hfn (hassign _ pre x W _ hi ?_)⟩
   clear hy
   intro a' Wa hkfa hkpa hia hax
   replace hl := hkfa.same _ _ (by omega) hl rfl
   replace hk := hkfa.same _ _ (Nat.le_refl _) hk rfl
   replace hlt : w.heap.size + 1 < Wa.heap.size := (Array.getElem?_eq_some_iff.1 hl).1
   replace hi := hia
   clear hia
   revert hkpa hkfa
   generalize W = Wb
   intro hkfa hkpa
   obtain ⟨W, rfl⟩ : ∃ W, W = Wa := ⟨_, rfl⟩
   refine ⟨_, run_beginRound hl (by rw [hrec]), ?_⟩
   have hl2 : (W.putObj (w.heap.size + 1) (.loop { rec .ready none with state := .busy })).heap[w.heap.size + 1]? = some (.loop { rec .ready none with state := .busy }) := World.putObj_heap_same hlt
   have hk2 : (W.putObj (w.heap.size + 1) (.loop { rec .ready none with state := .busy })).heap[w.heap.size]? = some (.deferred (some [])) := (World.putObj_heap_other (by omega)).trans hk
   have hw2 : Kp W (W.putObj (w.heap.size + 1) (.loop { rec .ready none with state := .busy })) := hKb _ _ _ _ (by omega) hl rfl rfl
   refine wpIn_mono (hbody _ pre x a' _ (by omega) ⟨_, hl2⟩ (hI.putObj _ hi (by omega) hl rfl) ((hAx x a').putObj (s := ()) _ hax (by omega) hl rfl)) ?_
   have fin : ∀ (jump : Option Code) (W3 : World), KeepsBk w.heap.size (W.putObj (w.heap.size + 1) (.loop { rec .ready none with state := .busy })) W3 →
     (Instr.endRound (w.heap.size + 1) jump).run P W3 = .ok (.bool jump.isNone) (W3.putObj (w.heap.size + 1) (.loop (rec (if jump.isNone then .ready else .done) jump))) ∧
     W3.heap[w.heap.size + 1]? = some (.loop { rec .ready none with state := .busy }) ∧
     (W3.putObj (w.heap.size + 1) (.loop (rec (if jump.isNone then .ready else .done) jump))).heap[w.heap.size + 1]? = some (.loop (rec (if jump.isNone then .ready else .done) jump)) ∧
     (W3.putObj (w.heap.size + 1) (.loop (rec (if jump.isNone then .ready else .done) jump))).heap[w.heap.size]? = some (.deferred (some [])) := fun jump W3 hk3 => by
    have hl3 := hk3.same _ _ (by omega) hl2 rfl
    have := run_endRound (P := P) jump hl3
    rw [hrec] at this ⊢
    exact ⟨this, by rw [hrec] at hl3; exact hl3, World.putObj_heap_same (Array.getElem?_eq_some_iff.1 hl3).1, (World.putObj_heap_other (by omega)).trans (hk3.same _ _ (Nat.le_refl _) hk2 rfl)⟩
   rintro e a3 W3 hp
   cases e with
   | normal =>
    obtain ⟨hk3, hkp3, hi3⟩ := hp
    obtain ⟨hr, hl3, hl4, hk4⟩ := fin none W3 hk3
    exact ⟨_, _, hr, .inl ⟨rfl, ⟨hI.putObj _ hi3 (by omega) hl3 rfl, hl4, hk4⟩, hKt hkpa (hKt (hKt hw2 hkp3) (hKb _ _ _ _ (by omega) hl3 rfl rfl))⟩⟩
   | ret =>
    obtain ⟨hk3, hi3⟩ := hp
    obtain ⟨hr, hl3, hl4, hk4⟩ := fin (some .ret) W3 hk3
    exact ⟨_, _, hr, .inr ⟨rfl, .ret, (hIx _).putObj _ hi3 (by omega) hl3 rfl, hl4, hk4⟩⟩
   | exit id =>
    obtain ⟨hk3, hi3⟩ := hp
    obtain ⟨hr, hl3, hl4, hk4⟩ := fin (some (.exit id)) W3 hk3
    exact ⟨_, _, hr, .inr ⟨rfl, .exit id, (hIx _).putObj _ hi3 (by omega) hl3 rfl, hl4, hk4⟩⟩
   | goto t =>
    obtain ⟨hk3, hi3⟩ := hp
    obtain ⟨hr, hl3, hl4, hk4⟩ := fin (some (.goto t)) W3 hk3
    exact ⟨_, _, hr, .inr ⟨rfl, .goto t, (hIx _).putObj _ hi3 (by omega) hl3 rfl, hl4, hk4⟩⟩
   | panic ch => exact hp.elim
   | outgrown => exact hp.elim
  ·rintro e W2 ⟨⟨v, rfl⟩, (⟨xs, hS, hi, hl, hk⟩ | ⟨pre, hSp, c, hi, hl, hk⟩)⟩
   ·exact ⟨none, _, by have := run_endLoop (P := P) hl (by rw [hrec]; simp); rw [hrec] at this; exact this, hdone _ xs _ (Nat.le_refl _) hS (hI.putObj _ hi (by omega) hl rfl) ((World.putObj_heap_other (by omega)).trans hk)⟩
   ·exact ⟨some c, _, by have := run_endLoop (P := P) hl (by rw [hrec]; simp); rw [hrec] at this; exact this, hstop _ c pre _ (Nat.le_refl _) hSp ((hIx c).putObj _ hi (by omega) hl rfl) ((World.putObj_heap_other (by omega)).trans hk)⟩
end
end
section
open Go.RowKit Go.Maps
theorem drewN_below (w : World) (q : Nat) : Below w.heap.size w (w.drewN q) := by
 induction q with
 | zero => exact Below.refl _ _
 | succ q ih => exact ⟨ih.os, ih.tape, ih.output, ih.size, ih.block⟩
theorem equal_ints {w : World} {F G : Nat → Prop} {A B : Option Addr} {n c m d : Nat} {xs ys : List Int} (hx : Rd w F 1 (.slice A n c) n (ints xs)) (hy : Rd w G 1 (.slice B m d) m (ints ys)) :
  Calls Tryz.prog 54 #[.slice A n c, .slice B m d] w fun r w' => r = .returned (.bool (decide (xs = ys))) ∧ Below w.heap.size w w' := by
 have hxl : xs.length = n := by have := hx.1; simpa [ints_length] using this
 have hyl : ys.length = m := by have := hy.1; simpa [ints_length] using this
 have hnb : n ≤ 9223372036854775807 := by have := hx.len; unfold maxLen at this; omega
 have hmb : m ≤ 9223372036854775807 := by have := hy.len; unfold maxLen at this; omega
 by_cases e : n = m
 ·subst e
  rcases Nat.eq_zero_or_pos n with e0 | e0
  ·subst e0
   refine (sh_slices_Equal_int_empty A B c 0 d w hmb).mono ?_
   rintro r w' ⟨rfl, rfl⟩
   rw [List.length_eq_zero_iff.1 hxl, List.length_eq_zero_iff.1 hyl]
   exact ⟨rfl, Below.refl _ _⟩
  ·obtain ⟨g, o, rfl, _, _, _⟩ := hx.cell.2 0 e0
   obtain ⟨g2, o2, rfl, _, _, _⟩ := hy.cell.2 0 e0
   have h1 : ∀ j, j < xs.length → w.cell? ⟨g, o + j, none⟩ = some (.int .i64 (xs.getD j 0)) := fun j hj => by
    obtain ⟨g', o', e1, _, _, ec⟩ := hx.cell.2 j (by omega)
    injection e1 with e1
    injection e1 with e1 e2
    subst e1 e2
    rw [ec, nth_eq hj, List.getD_eq_getElem?_getD, List.getElem?_eq_getElem hj]
    rfl
   have h2 : ∀ j, j < ys.length → w.cell? ⟨g2, o2 + j, none⟩ = some (.int .i64 (ys.getD j 0)) := fun j hj => by
    obtain ⟨g', o', e1, _, _, ec⟩ := hy.cell.2 j (by omega)
    injection e1 with e1
    injection e1 with e1 e2
    subst e1 e2
    rw [ec, nth_eq hj, List.getD_eq_getElem?_getD, List.getElem?_eq_getElem hj]
    rfl
   refine (sh_slices_Equal_int g o n c g2 o2 n d xs ys w (by omega) (by omega) hnb hmb h1 h2).mono ?_
   rintro r w' ⟨rfl, q, rfl⟩
   refine ⟨?_, drewN_below w q⟩
   rw [List.take_of_length_le (by omega), List.take_of_length_le (by omega)]
   congr 2
   rw [Bool.eq_iff_iff]
   simp
 ·refine (sh_slices_Equal_int_lens A B n c m d w e).mono ?_
  rintro r w' ⟨rfl, rfl⟩
  have hne : ¬ xs = ys := fun h => e (by rw [← hxl, ← hyl, h])
  exact ⟨by rw [decide_eq_false hne], Below.refl _ _⟩
def Pb.same (c d : Pb) : Bool := decide (c.bound = d.bound) && decide (c.lits = d.lits) && decide (c.coefs = d.coefs)
theorem equal_any {w : World} {F G : Nat → Prop} {v u : Value} {c d : Pb} (hc : PbRd w F v c) (hd : PbRd w G u d) :
  Calls Tryz.prog 23 #[v, u] w fun r w' => r = .returned (.bool (c.same d)) ∧ Below w.heap.size w w' := by
 obtain ⟨⟨L, n, cn, K, m, cm, rfl, hx, hk⟩, hb⟩ := hc
 obtain ⟨⟨L2, n2, cn2, K2, m2, cm2, rfl, hx2, hk2⟩, hb2⟩ := hd
 obtain ⟨bd, hbd⟩ : ∃ b, c.bound = b := ⟨_, rfl⟩
 obtain ⟨bd2, hbd2⟩ : ∃ b, d.bound = b := ⟨_, rfl⟩
 have hs : c.same d = (decide (bd = bd2) && decide (c.lits = d.lits) && decide (c.coefs = d.coefs)) := by unfold Pb.same; rw [hbd, hbd2]
 rw [hs]
 rw [hbd, hbd2]
 clear hb hb2 hbd hbd2 hs
 by_cases e : bd = bd2
 ·subst e
  obtain ⟨z1, z2, z3⟩ := allocs_get w [.cells #[.slice L n cn, .slice K m cm, .int .i64 bd] 41, .cells #[.slice L2 n2 cn2, .slice K2 m2 cm2, .int .i64 bd] 41]
  go_enter Tryz.func23, Tryz.ntmps23
  go_wp2_with fail
  obtain ⟨W0, hW0⟩ : ∃ W0, allocs w [.cells #[.slice L n cn, .slice K m cm, .int .i64 bd] 41, .cells #[.slice L2 n2 cn2, .slice K2 m2 cm2, .int .i64 bd] 41] = W0 := ⟨_, rfl⟩
  rw [hW0] at z1 z2 z3
  unfold allocs at hW0
  simp only [List.foldl_cons, List.foldl_nil] at hW0
  simp only [List.length_cons, List.length_nil, Nat.zero_add, Nat.reduceAdd] at z1
  have j0 := z3 0 _ rfl
  have j1 := z3 1 _ rfl
  rw [Nat.add_zero] at j0
  rw [hW0]
  refine (equal_ints (hx.below z2) (hx2.below z2)).mono ?_
  rintro r w1 ⟨rfl, b1⟩
  have k0 := (b1.block _ (by omega)).trans j0
  have k1 := (b1.block _ (by omega)).trans j1
  have d1 : w1.cell? ⟨w.heap.size, 1, none⟩ = some (.slice K m cm) := by rw [cell_of_row _ _ _ _ _ _ k0]; rfl
  have d2 : w1.cell? ⟨w.heap.size + 1, 1, none⟩ = some (.slice K2 m2 cm2) := by rw [cell_of_row _ _ _ _ _ _ k1]; rfl
  have B1 : Below w.heap.size w w1 := z2.trans (b1.mono (by omega))
  have Hk := hid (hk.below B1)
  have Hk2 := hid (hk2.below B1)
  have HB1 := hid B1
  clear hW0 z2 z3 b1 k0 k1 j0 j1 hx hx2 hk hk2 B1
  by_cases e1 : c.lits = d.lits
  ·rw [decide_eq_true e1]
   go_wp2_with fail
   refine (equal_ints Hk.o Hk2.o).mono ?_
   rintro r w2 ⟨rfl, b2⟩
   have HB2 := hid (HB1.o.trans (b2.mono HB1.o.size))
   clear b2
   by_cases e2 : c.coefs = d.coefs
   ·rw [decide_eq_true e2]
    go_wp2_with fail
    go_ret
    exact ⟨by simp [e1, e2], HB2.o⟩
   ·rw [decide_eq_false e2]
    go_wp2_with fail
    go_ret
    exact ⟨by simp [e1, e2], HB2.o⟩
  ·rw [decide_eq_false e1]
   go_wp2_with fail
   go_ret
   exact ⟨by simp [e1], HB1.o⟩
 ·have e2 : (bd == bd2) = false := by simpa using e
  have e3 : (bd = bd2) = False := by simpa using e
  go_enter Tryz.func23, Tryz.ntmps23
  go_wp2_with fail
  go_ret
  exact ⟨by simp [e], ((Below.refl _ _).alloc (Nat.le_refl _) _).alloc (by simp) _⟩
end
end Go.Proofs.YtcjmpobccbnpkaaGreat
