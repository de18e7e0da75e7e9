/-
  Chapter 24: the text of a constraint: String.
-/
import Derived.Test.YtooioikkgdgnnaaDoorPbP
import Derived.Test.YtooioikkgdgnnaaDoorPbH
import Derived.Test.YtooioikkgdgnnaaDoorPbShelf
import Derived.Lib.ItoaLen
namespace Go.Proofs.YtooioikkgdgnnaaDoor
open Go.RowKit Go.Shelf

attribute [local go_sem] Oper.semAt_some

abbrev Bd (n₀ b : Nat) (l : List UInt8) (W : World) : Prop := Lib.IsBuilderF 89 5 n₀ b (Lib.byteCells l) W
theorem builderAt_kept {W W' : World} {row : Option Nat} {n₀ b : Nat} {p : Value} {bs : List Value} (k : Lib.BuilderAtF 89 5 n₀ b p bs W) (hg : W.grownBy W' row) (hr : ∀ r, row = some r → ∃ o : Obj, W.heap[r]? = some o ∧ o.isCells = false) : Lib.BuilderAtF 89 5 n₀ b p bs W' := by
  have hlt := k.lt
  obtain ⟨h1, v, h2, h3, h4⟩ := k
  refine ⟨h1, v, ?_, h3.kept hg ?_, h4⟩
  · rw [hg.block b hlt fun e => ?_]
    · exact h2
    · obtain ⟨o, ho, hc⟩ := hr b e.symm
      rw [h2] at ho
      cases ho
      cases hc
  · rcases h3.2 with ⟨rfl, _⟩ | ⟨g, cap, cur, fz, rfl, _, hg2, _⟩
    · exact .inl rfl
    · refine .inr fun e => ?_
      obtain ⟨o, ho, hc⟩ := hr g e.symm
      rw [hg2] at ho
      cases ho
      cases hc
theorem Bd.kept {W W' : World} {row : Option Nat} {n₀ b : Nat} {l : List UInt8} (k : Bd n₀ b l W) (hg : W.grownBy W' row) (hr : ∀ r, row = some r → ∃ o : Obj, W.heap[r]? = some o ∧ o.isCells = false) : Bd n₀ b l W' :=
  k.elim (fun x => .inl (builderAt_kept x hg hr)) (fun x => .inr (builderAt_kept x hg hr))
theorem Bd.below {W W' : World} {n₀ b : Nat} {l : List UInt8} (k : Bd n₀ b l W) (hb : Below W.heap.size W W') : Bd n₀ b l W' :=
  Bd.kept k (row := none) ⟨hb.os, hb.tape, hb.output, hb.size, fun i hi _ => hb.block i hi⟩ (fun _ e => by cases e)
theorem Bd.lt {W : World} {n₀ b : Nat} {l : List UInt8} (k : Bd n₀ b l W) : b < W.heap.size := k.elim (fun x => x.lt) (fun x => x.lt)
theorem Bd.cells {W : World} {n₀ b : Nat} {l : List UInt8} (k : Bd n₀ b l W) : ∃ c t fz, W.heap[b]? = some (.cells c t fz) := k.elim (fun ⟨_, _, x, _⟩ => ⟨_, _, _, x⟩) (fun ⟨_, _, x, _⟩ => ⟨_, _, _, x⟩)
theorem Bd.fresh (W : World) {n₀ : Nat} (hn : n₀ ≤ W.heap.size) : Bd n₀ W.heap.size [] (W.alloc (.cells #[.pointer none, .slice none 0 0] 89)) :=
  .inl ⟨hn, _, heap_alloc_new _ _, ⟨rfl, .inl ⟨rfl, rfl⟩⟩, by simp [Value.ownBlock]⟩
theorem blk_kept {W W' : World} {row : Option Nat} {b : Nat} {cs : Array Value} {t : TypeId} {fz : Nat × Nat} (k : W.heap[b]? = some (.cells cs t fz)) (hg : W.grownBy W' row) (hr : ∀ r, row = some r → ∃ o : Obj, W.heap[r]? = some o ∧ o.isCells = false) : W'.heap[b]? = some (.cells cs t fz) := by
  rw [hg.block b (lt_of_block k) fun e => ?_]
  · exact k
  · obtain ⟨o, ho, hc⟩ := hr b e.symm
    rw [k] at ho
    cases ho
    cases hc
/-- The cells that are neither b nor bytes are kept. -/
def Kc (b : Nat) (W W' : World) : Prop := ∀ i cs t fz, W.heap[i]? = some (.cells cs t fz) → t ≠ 5 → i ≠ b → W'.heap[i]? = some (.cells cs t fz)
/-- WriteString, as the rounds of a range want it. -/
theorem write_round {w : World} {n₀ b : Nat} {l : List UInt8} {s : List UInt8} (k : Bd n₀ b l w) (hlen : l.length + s.length ≤ 140737488355328) (hn : n₀ ≤ w.heap.size) :
    Calls Tryd.prog 59 #[.pointer (some ⟨b, 0, none⟩), .string ⟨s.toArray⟩] w fun r w' => r = .returned (.tuple #[.int .i64 s.length, .nilIface]) ∧ Bd n₀ b (l ++ s) w' ∧ Below n₀ w w' ∧ Kc b w w' ∧ KeepsOthers w w' := by
  refine (write_any k (s := ⟨s.toArray⟩) (by rw [Lib.byteCells_length]; exact hlen) hn).mono ?_
  rintro r w' ⟨rfl, h1, h2, h3⟩
  refine ⟨rfl, .inr ?_, h2, fun i cs t fz e ht hne => h3 i _ e (by simpa using hne) fun c' fz e2 => by cases e2; exact ht rfl, ⟨h2.size, fun i o ho hc => ?_⟩⟩
  · rw [Lib.byteCells_append]; exact h1
  · refine h3 i o ho (fun e => ?_) fun c' fz e2 => by subst e2; cases hc
    obtain ⟨c, t, fz, e2⟩ := k.cells
    cases e
    rw [e2] at ho
    cases ho
    cases hc

theorem bytes_append (a b : List UInt8) : (⟨a.toArray⟩ : ByteArray) ++ ⟨b.toArray⟩ = ⟨(a ++ b).toArray⟩ := by
  apply ByteArray.ext
  simp
/-- Between W and W' the text l was reached. -/
structure Wr (n₀ b : Nat) (W W' : World) (l : List UInt8) : Prop where
  bd : Bd n₀ b l W'
  bl : Below n₀ W W'
  kc : Kc b W W'
  ko : KeepsOthers W W'
theorem Wr.start {n₀ b : Nat} {W : World} {l : List UInt8} (k : Bd n₀ b l W) : Wr n₀ b W W l := ⟨k, Below.refl _ _, fun _ _ _ _ e _ _ => e, KeepsOthers.refl _⟩
theorem Wr.calls {n₀ b : Nat} {W W' W'' : World} {l : List UInt8} (k : Wr n₀ b W W' l) (hn : n₀ ≤ W.heap.size) (hb : Below W'.heap.size W' W'') : Wr n₀ b W W'' l :=
  ⟨k.bd.below hb, k.bl.trans (hb.mono (Nat.le_trans hn k.bl.size)), fun i cs t fz e h1 h2 => (hb.block i (lt_of_block (k.kc i cs t fz e h1 h2))).trans (k.kc i cs t fz e h1 h2),
    k.ko.trans ⟨hb.size, fun i _ ho _ => (hb.block i (lt_of_block ho)).trans ho⟩⟩
theorem Wr.write {n₀ b : Nat} {W W' W'' : World} {l s : List UInt8} (k : Wr n₀ b W W' l) (h1 : Bd n₀ b (l ++ s) W'') (h2 : Below n₀ W' W'') (h3 : Kc b W' W'') (h4 : KeepsOthers W' W'') : Wr n₀ b W W'' (l ++ s) :=
  ⟨h1, k.bl.trans h2, fun i cs t fz e q1 q2 => h3 i cs t fz (k.kc i cs t fz e q1 q2) q1 q2, k.ko.trans h4⟩

/-- The text of a term. -/
def Pb.word (c : Pb) (j : Nat) : List UInt8 := Lib.itoa (nth c.coefs j) ++ [32] ++ (if nth c.lits j < 0 then [126] else []) ++ ([120] ++ Lib.itoa ((nth c.lits j).natAbs : Nat) ++ [32])
def Pb.words (c : Pb) (js : List Nat) : List UInt8 := (js.map c.word).flatten
theorem Pb.words_snoc (c : Pb) (js : List Nat) (j : Nat) : c.words (js ++ [j]) = c.words js ++ c.word j := by simp [Pb.words]
theorem Pb.Ok.words_len {c : Pb} (h : c.Ok) : ∀ js : List Nat, (∀ j ∈ js, j < c.lits.length) → (c.words js).length ≤ 46 * js.length := by
  intro js
  induction js with
  | nil => intro _; simp [Pb.words]
  | cons j js ih =>
    intro hj
    have h1 := ih fun q hq => hj q (by simp [hq])
    have h2 := h.lit j (hj j (by simp))
    have h3 := h.coef j (hj j (by simp))
    have h4 := h.high
    have h5 := Lib.itoa_length_le (nth c.coefs j) (by omega) (by omega)
    have h6 := Lib.itoa_length_le ((nth c.lits j).natAbs : Nat) (by omega) (by omega)
    have e : c.words (j :: js) = c.word j ++ c.words js := by simp [Pb.words]
    have e2 : (c.word j).length ≤ 46 := by
      unfold Pb.word
      split <;> simp <;> omega
    rw [e, List.length_append, List.length_cons]
    omega
/-- The text of a constraint. -/
def Pb.text (c : Pb) : List UInt8 := if c.ok = true then c.words (List.range c.lits.length) ++ ([62, 61, 32] ++ Lib.itoa c.bound) else []

/-- Itoa answers for the numbers up to M, in the worlds behind w. -/
def ItoaTo (w : World) (M : Int) : Prop := ∀ i : Int, 0 ≤ i → i ≤ M → ∀ W, Below w.heap.size w W →
  Calls Tryd.prog 60 #[.int .i64 i] W fun r w' => r = .returned (.string ⟨(Lib.itoa i).toArray⟩) ∧ Below W.heap.size W w'

set_option maxRecDepth 100000 in
set_option maxHeartbeats 4000000 in
theorem string_any {w : World} {F : Nat → Prop} {v : Value} {c : Pb} {M : Int} (hc : PbRd w F v c) (hi : ∀ k ∈ c.coefs, I64 k) (hit : ItoaTo w M) (hM : c.Ok → c.bound ≤ M ∧ ∀ j, j < c.lits.length → ((nth c.lits j).natAbs : Nat) ≤ M) :
    Calls Tryd.prog 32 #[v] w fun r w' => r = .returned (.string ⟨c.text.toArray⟩) ∧ Below w.heap.size w w' := by
  have hc0 := hc
  obtain ⟨⟨L, n, cn, K, m, cm, rfl, hx, hk⟩, hb⟩ := hc
  have hxl : c.lits.length = n := by have := hx.1; simpa [ints_length] using this
  obtain ⟨bd, hbd⟩ : ∃ b, c.bound = b := ⟨_, rfl⟩
  rw [hbd] at hb hc0 ⊢
  refine callsIn_wide (n := 5).1 ?_
  refine callsIn_of_wp_marks Tryd.func32 rfl trivial ?_ rfl
  simp only [Tryd.ntmps32, List.size_toArray, List.length_cons, List.length_nil, Nat.reduceAdd, Nat.reduceSub, Array.replicate_succ, Array.replicate_zero, List.push_toArray, List.append_toArray, List.nil_append, List.cons_append]
  gi_wp2_with fail
  have z2 : Below w.heap.size w (w.alloc (.cells #[.slice L n cn, .slice K m cm, .int .i64 bd] 24)) := (Below.refl _ _).alloc (Nat.le_refl _) _
  have k0 := heap_alloc_new w (.cells #[.slice L n cn, .slice K m cm, .int .i64 bd] 24)
  obtain ⟨W0, hW0⟩ : ∃ W, w.alloc (.cells #[.slice L n cn, .slice K m cm, .int .i64 bd] 24) = W := ⟨_, rfl⟩
  have z1 : W0.heap.size = w.heap.size + 1 := by rw [← hW0, World.size_alloc]
  rw [hW0] at z2 k0 ⊢
  refine ⟨trivial, (callsIn_wide.2 (valid_any (hc0.below z2) hi)).mono ?_⟩
  rintro r w2 ⟨rfl, b2⟩
  have s2 := b2.size
  have hB2 : Below w.heap.size w w2 := z2.trans (b2.mono z2.size)
  obtain ⟨sz, hsz⟩ : ∃ s, w.heap.size = s := ⟨_, rfl⟩
  have hx2 := (hx.mono (G := fun g => g < w.heap.size) fun g hg _ => hg).below hB2
  have hk2 := (hk.mono (G := fun g => g < w.heap.size) fun g hg _ => hg).below hB2
  have d0 := keep_cell (show W0.cell? ⟨w.heap.size, 0, none⟩ = some (.slice L n cn) by rw [cell_of_row _ _ _ _ _ _ k0]; rfl) b2
  have d1 := keep_cell (show W0.cell? ⟨w.heap.size, 1, none⟩ = some (.slice K m cm) by rw [cell_of_row _ _ _ _ _ _ k0]; rfl) b2
  have d2 := keep_cell (show W0.cell? ⟨w.heap.size, 2, none⟩ = some (.int .i64 bd) by rw [cell_of_row _ _ _ _ _ _ k0]; rfl) b2
  have k2 := (b2.block _ (by omega)).trans k0
  rw [hsz] at z1 hx2 hk2 hB2 d0 d1 d2 k2
  rw [hsz]
  clear hW0 b2 k0 z2
  by_cases hok : c.ok = true
  · have hk0 := c.ok_iff.1 hok
    obtain ⟨hM1, hM2⟩ := hM hk0
    have htx : c.text = c.words (List.range c.lits.length) ++ ([62, 61, 32] ++ Lib.itoa bd) := by unfold Pb.text; rw [if_pos hok, hbd]
    obtain rfl : n = m := by have := hk0.len; have := hk.1; simp [ints_length] at this; omega
    have hne2 := World.new_ne w2 ⟨sz, 0, none⟩ d0
    have Htx := hid htx
    clear htx
    rw [hok]
    gi_wp2_with fail
    refine ⟨trivial, (parts_in 4 _ _ _ _).mono ?_⟩
    rintro e w' ⟨rfl, rfl⟩
    obtain ⟨Ob, hOb⟩ : ∃ b, w2.heap.size = b := ⟨_, rfl⟩
    obtain ⟨y1, y2, y3⟩ := allocs_get w2 [.cells #[.pointer none, .slice none 0 0] 89, .cells #[.slice L n cn, .slice K n cm, .int .i64 bd] 24]
    have hbd0 := Bd.fresh w2 (n₀ := sz) (by omega)
    have b00 : Below (w2.alloc (.cells #[.pointer none, .slice none 0 0] 89)).heap.size (w2.alloc (.cells #[.pointer none, .slice none 0 0] 89)) ((w2.alloc (.cells #[.pointer none, .slice none 0 0] 89)).alloc (.cells #[.slice L n cn, .slice K n cm, .int .i64 bd] 24)) := (Below.refl _ _).alloc (Nat.le_refl _) _
    have hbd1 := hbd0.below b00
    obtain ⟨W3, hW3⟩ : ∃ W, allocs w2 [.cells #[.pointer none, .slice none 0 0] 89, .cells #[.slice L n cn, .slice K n cm, .int .i64 bd] 24] = W := ⟨_, rfl⟩
    rw [hW3] at y1 y2 y3
    unfold allocs at hW3
    simp only [List.foldl_cons, List.foldl_nil] at hW3
    simp only [List.length_cons, List.length_nil, Nat.zero_add, Nat.reduceAdd] at y1
    have k3 := y3 1 _ rfl
    rw [hW3, hOb] at hbd1
    rw [hOb] at y1 k3
    obtain ⟨Bn, hBn⟩ : ∃ b, Ob + 1 = b := ⟨_, rfl⟩
    rw [hBn] at k3
    have f2 := keep_cell d2 y2
    have k4 := (y2.block _ (by omega)).trans k2
    have hx3 := hx2.below y2
    have hk3 := hk2.below y2
    have hB3 : Below sz w W3 := hB2.trans (y2.mono (by omega))
    simp only [World.size_alloc]
    rw [hW3, hOb, hBn]
    clear hW3 y2 y3 d0 d1 d2 hx2 hk2 hne2 hbd0 b00 k2
    gi_wp2_with fail
    have c0 : W3.cell? ⟨Bn, 0, none⟩ = some (.slice L n cn) := by rw [cell_of_row _ _ _ _ _ _ k3]; rfl
    have c1 : W3.cell? ⟨Bn, 1, none⟩ = some (.slice K n cm) := by rw [cell_of_row _ _ _ _ _ _ k3]; rfl
    refine' wpIn_rangeFunc_ownF (α := Fin n) rfl (by omega) (gf := 78) (lb := #[.pointer (some ⟨Bn, 0, none⟩)]) rfl trivial (enters_of Tryd.func78 (by kernel_rfl) rfl)
      (parts_stops 4 Bn sz (by omega) (F := fun g => g < sz) (fun g hg => hg) W3 c0 c1 hx3 hk3) (fun h k => h.trans k) (kpb_b (by omega) (by omega)) (Below.refl _ _) (fun _ => rfl)
      (fun pre W => (Bd sz Ob (c.words (pre.map Fin.val)) W ∧ W.heap[sz]? = some (.cells #[.slice L n cn, .slice K n cm, .int .i64 bd] 24 (0, 0)) ∧ W.heap[Bn]? = some (.cells #[.slice L n cn, .slice K n cm, .int .i64 bd] 24 (0, 0))) ∧ Below sz w W)
      (fun _ _ _ => False)
      (OwnFrom.and (Own.from (fun s A B row hs hg hr => ⟨hs.1.kept hg hr, blk_kept hs.2.1 hg hr, blk_kept hs.2.2 hg hr⟩) _) (ownFrom_below (by omega) (by omega)))
      (fun _ _ _ _ _ hs _ _ => hs)
      ⟨⟨hbd1, k4, k3⟩, hB3⟩ _ ?assign ?body ?done ?stop
    case assign =>
      intro l x W K hK
      gi_wp2
      exact hK
    case body =>
      rintro l pre x W ⟨⟨hbW, kS, kN⟩, hB⟩ hpre
      have hps := c.words_snoc (pre.map Fin.val) x.val
      have hmp : (pre ++ [x]).map Fin.val = pre.map Fin.val ++ [x.val] := by simp
      rw [← hmp] at hps
      obtain ⟨l1, l2, l3⟩ := hk0.lit x.val (by have := x.isLt; omega)
      obtain ⟨c1', c2'⟩ := hk0.coef x.val (by have := x.isLt; omega)
      have hl4 := hM2 x.val (by have := x.isLt; omega)
      have hfew := hk0.few
      have hhigh := hk0.high
      have hwd : c.word x.val = Lib.itoa (nth c.coefs x.val) ++ [32] ++ (if nth c.lits x.val < 0 then [126] else []) ++ ([120] ++ Lib.itoa ((nth c.lits x.val).natAbs : Nat) ++ [32]) := rfl
      obtain ⟨li, hli⟩ : ∃ l, nth c.lits x.val = l := ⟨_, rfl⟩
      obtain ⟨ki, hki⟩ : ∃ l, nth c.coefs x.val = l := ⟨_, rfl⟩
      rw [hli] at l1 l2 l3 hl4 hwd ⊢
      rw [hki] at c1' c2' hwd ⊢
      have hWB : Below w.heap.size w W := hsz ▸ hB
      have HW := hid hWB
      have Hps := hid hps
      have Hwd := hid hwd
      have HB := hid hB
      clear hps hmp hli hki hB hwd hWB
      have R0 := hid (Wr.start hbW)
      have sW : sz ≤ W.heap.size := by have := lt_of_block kS; omega
      obtain ⟨pl, hpl⟩ : ∃ l, c.words (pre.map Fin.val) = l := ⟨_, rfl⟩
      have hplen : pl.length ≤ 1000000000 := by
        have := hk0.words_len (pre.map Fin.val) (fun j hj => by obtain ⟨q, _, rfl⟩ := List.mem_map.1 hj; have := q.isLt; omega)
        rw [hpl, List.length_map] at this
        have := hk0.few
        omega
      rw [hpl] at R0
      clear hbW
      gi_wp2_with fail
      refine ⟨trivial, (CallsIn.inRound l (callsIn_wide.2 (hit ki (by omega) (by omega) W HW.out))).mono ?_⟩
      rintro r w4 ⟨rfl, b4⟩
      have R1 := hid (R0.out.calls sW b4)
      have s4 := b4.size
      clear b4 R0
      have q1 : (Lib.itoa ki).length ≤ 21 := Lib.itoa_length_le ki (by omega) (by omega)
      have q2 : (Lib.itoa ((li.natAbs : Nat) : Int)).length ≤ 21 := Lib.itoa_length_le _ (by omega) (by omega)
      have q3 : ¬ 9223372036854775807 < (Lib.itoa ki).length + 1 := by omega
      gi_wp2_with fail
      rw [show (⟨(Lib.itoa ki).toArray⟩ : ByteArray) ++ ⟨#[32]⟩ = ⟨(Lib.itoa ki ++ [32]).toArray⟩ from bytes_append _ [32]]
      refine ⟨trivial, (CallsIn.inRound l (callsIn_wide.2 (write_round R1.out.bd (by simp; omega) (by omega)))).mono ?_⟩
      rintro r w5 ⟨rfl, x1, x2, x3, x4⟩
      have R2 := hid (R1.out.write x1 x2 x3 x4)
      have s5 := x2.size
      clear x1 x2 x3 x4 R1 q3
      by_cases hneg : li < 0
      · have hif : (if li < 0 then [126] else []) = ([126] : List UInt8) := if_pos hneg
        gi_wp2_with fail
        rw [show (⟨#[126]⟩ : ByteArray) = ⟨([126] : List UInt8).toArray⟩ from rfl]
        refine ⟨trivial, (CallsIn.inRound l (callsIn_wide.2 (write_round R2.out.bd (by simp; omega) (by omega)))).mono ?_⟩
        rintro r w6 ⟨rfl, x1, x2, x3, x4⟩
        have RR := hid (R2.out.write x1 x2 x3 x4)
        have s6 := x2.size
        clear x1 x2 x3 x4 R2
        gi_wp2_with fail
        refine ⟨trivial, (CallsIn.inRound l (callsIn_wide.2 (abs_any (by omega) (by omega)))).mono ?_⟩
        rintro r w7 ⟨rfl, rfl⟩
        gi_wp2_with fail
        refine ⟨trivial, (CallsIn.inRound l (callsIn_wide.2 (hit (li.natAbs : Nat) (by omega) hl4 _ (HW.out.trans (RR.out.bl.mono (by omega)))))).mono ?_⟩
        rintro r w8 ⟨rfl, b8⟩
        have s8 := b8.size
        have R4 := hid (RR.out.calls sW b8)
        have q4 : ¬ 9223372036854775807 < 1 + (Lib.itoa ((li.natAbs : Nat) : Int)).length := by omega
        have q5 : ¬ 9223372036854775807 < 1 + (Lib.itoa ((li.natAbs : Nat) : Int)).length + 1 := by omega
        clear b8 RR
        gi_wp2_with fail
        rw [show (⟨#[120]⟩ : ByteArray) ++ ⟨(Lib.itoa ((li.natAbs : Nat) : Int)).toArray⟩ ++ ⟨#[32]⟩ = ⟨([120] ++ Lib.itoa ((li.natAbs : Nat) : Int) ++ [32]).toArray⟩ by
          rw [show (⟨#[120]⟩ : ByteArray) = ⟨([120] : List UInt8).toArray⟩ from rfl, bytes_append]
          exact bytes_append _ [32]]
        refine ⟨trivial, (CallsIn.inRound l (callsIn_wide.2 (write_round R4.out.bd (by simp; omega) (by omega)))).mono ?_⟩
        rintro r w9 ⟨rfl, x1, x2, x3, x4⟩
        have R5 := hid (R4.out.write x1 x2 x3 x4)
        clear x1 x2 x3 x4 R4
        gi_wp2_with fail
        refine ⟨R5.out.ko, ⟨R5.out.bl, (R5.out.kc _ _ _ _ kN (by decide) (by omega)).trans kN.symm⟩, ⟨?_, R5.out.kc _ _ _ _ kS (by decide) (by omega), R5.out.kc _ _ _ _ kN (by decide) (by omega)⟩, HB.out.trans R5.out.bl⟩
        have := R5.out.bd
        rw [Hps.out, Hwd.out, hpl, hif]
        simpa [List.append_assoc] using this
      · have hif : (if li < 0 then [126] else []) = ([] : List UInt8) := if_neg hneg
        gi_wp2_with fail
        have RR := R2
        clear R2
        refine ⟨trivial, (CallsIn.inRound l (callsIn_wide.2 (abs_any (by omega) (by omega)))).mono ?_⟩
        rintro r w7 ⟨rfl, rfl⟩
        gi_wp2_with fail
        refine ⟨trivial, (CallsIn.inRound l (callsIn_wide.2 (hit (li.natAbs : Nat) (by omega) hl4 _ (HW.out.trans (RR.out.bl.mono (by omega)))))).mono ?_⟩
        rintro r w8 ⟨rfl, b8⟩
        have s8 := b8.size
        have R4 := hid (RR.out.calls sW b8)
        have q4 : ¬ 9223372036854775807 < 1 + (Lib.itoa ((li.natAbs : Nat) : Int)).length := by omega
        have q5 : ¬ 9223372036854775807 < 1 + (Lib.itoa ((li.natAbs : Nat) : Int)).length + 1 := by omega
        clear b8 RR
        gi_wp2_with fail
        rw [show (⟨#[120]⟩ : ByteArray) ++ ⟨(Lib.itoa ((li.natAbs : Nat) : Int)).toArray⟩ ++ ⟨#[32]⟩ = ⟨([120] ++ Lib.itoa ((li.natAbs : Nat) : Int) ++ [32]).toArray⟩ by
          rw [show (⟨#[120]⟩ : ByteArray) = ⟨([120] : List UInt8).toArray⟩ from rfl, bytes_append]
          exact bytes_append _ [32]]
        refine ⟨trivial, (CallsIn.inRound l (callsIn_wide.2 (write_round R4.out.bd (by simp; omega) (by omega)))).mono ?_⟩
        rintro r w9 ⟨rfl, x1, x2, x3, x4⟩
        have R5 := hid (R4.out.write x1 x2 x3 x4)
        clear x1 x2 x3 x4 R4
        gi_wp2_with fail
        refine ⟨R5.out.ko, ⟨R5.out.bl, (R5.out.kc _ _ _ _ kN (by decide) (by omega)).trans kN.symm⟩, ⟨?_, R5.out.kc _ _ _ _ kS (by decide) (by omega), R5.out.kc _ _ _ _ kN (by decide) (by omega)⟩, HB.out.trans R5.out.bl⟩
        have := R5.out.bd
        rw [Hps.out, Hwd.out, hpl, hif]
        simpa [List.append_assoc] using this
    case done =>
      rintro D ys W hD hys ⟨⟨hbW, kS, kN⟩, hB⟩ hK
      unfold SomeOf at hys
      rw [hys, ← hxl] at hbW
      have hl1 := hk0.words_len (List.range c.lits.length) (fun j hj => List.mem_range.1 hj)
      rw [List.length_range] at hl1
      have hl2 := hk0.few
      have hl3 := hk0.low
      have hl4 := hk0.high
      rw [hbd] at hl3 hl4 hM1
      obtain ⟨pl, hpl⟩ : ∃ l, c.words (List.range c.lits.length) = l := ⟨_, rfl⟩
      rw [hpl] at hl1 hbW Htx
      have R0 := hid (Wr.start hbW)
      have sW : sz ≤ W.heap.size := by have := lt_of_block kS; omega
      have t2 : W.cell? ⟨sz, 2, none⟩ = some (.int .i64 bd) := by rw [cell_of_row _ _ _ _ _ _ kS]; rfl
      have HW := hid (hsz ▸ hB : Below w.heap.size w W)
      have HB := hid hB
      have HK := hid hK
      have q1 : (Lib.itoa bd).length ≤ 21 := Lib.itoa_length_le bd (by omega) (by omega)
      have q3 : ¬ 9223372036854775807 < 3 + (Lib.itoa bd).length := by omega
      clear hbW hB hys hpl hK
      gi_wp2_with fail
      refine ⟨trivial, (callsIn_wide.2 (hit bd (by omega) (by omega) W HW.out)).mono ?_⟩
      rintro r w4 ⟨rfl, b4⟩
      have R1 := hid (R0.out.calls sW b4)
      have s4 := b4.size
      clear b4 R0
      gi_wp2_with fail
      rw [show (⟨#[62, 61, 32]⟩ : ByteArray) ++ ⟨(Lib.itoa bd).toArray⟩ = ⟨([62, 61, 32] ++ Lib.itoa bd).toArray⟩ from bytes_append [62, 61, 32] _]
      refine ⟨trivial, (callsIn_wide.2 (write_round R1.out.bd (by simp; omega) (by omega))).mono ?_⟩
      rintro r w5 ⟨rfl, x1, x2, x3, x4⟩
      have R2 := hid (R1.out.write x1 x2 x3 x4)
      have s5 := x2.size
      clear x1 x2 x3 x4 R1
      gi_wp2_with fail
      refine ⟨trivial, (callsIn_wide.2 (sh_Builder_String_any_k sz Ob _ _ R2.out.bd (by omega))).mono ?_⟩
      rintro r w6 ⟨rfl, x1, x2, x3⟩
      have K5 := R2.out.ko.2 D _ HK.out rfl
      have K6 := x3 D _ K5 (by
        intro e
        obtain ⟨a1, a2, a3, a4⟩ := R2.out.bd.cells
        cases e
        rw [K5] at a4
        cases a4) (fun a1 a2 e => by cases e)
      have B6 := hid (HB.out.trans (R2.out.bl.trans x2))
      have s6 := x2.size
      clear x1 x2 x3 R2 HK K5
      have HK6 := hid K6
      clear K6
      gi_wp2_with fail
      have hK6 := HK6.out
      refine ⟨by simp, .inl ⟨_, _, rfl, run_takeDeferred hK6, ?_⟩⟩
      exact ⟨_, results_tmp rfl _ _ _, by rw [Htx.out]; simp, by (try rw [hsz]); exact B6.out.trans (belowK_b (w := w) (by omega) _ D _ _ (by omega) hK6 rfl rfl)⟩
    case stop =>
      rintro D co pre W _ _ h _
      exact h.elim
  · have htx : c.text = [] := by unfold Pb.text; rw [if_neg hok]
    have hok2 : c.ok = false := by simpa using hok
    have Htx := hid htx
    rw [hok2]
    clear hok hok2 htx
    gi_wp2_with fail
    exact ⟨_, results_tmp rfl _ _ _, by rw [Htx.out]; rfl, by (try rw [hsz]); exact hB2⟩
end Go.Proofs.YtooioikkgdgnnaaDoor
