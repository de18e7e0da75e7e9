/-
  Chapter 32: the lazy function of SearchLazy.
-/
import Derived.Test.YtcjmpobccbnpkaaGreatSgI
import Derived.Test.YtcjmpobccbnpkaaGreatPbGs
namespace Go.Proofs.YtcjmpobccbnpkaaGreat
open Go.RowKit

/-- What the lazy function answers: the first of the withheld constraints that the assignment violates. -/
def LazR (hs : List Pb) (av : List Int) : Option Stp → Prop
  | none => ∀ p ∈ hs, 0 ≤ p.slackB av
  | some s => ∃ (i : Nat) (p : Pb), hs[i]? = some p ∧ p.slackB av < 0 ∧ s = ⟨3, p, [(i : Int) + 1]⟩
theorem wrap_next (k : Int) : wrap64 (wrap64 k + 1) = wrap64 (k + 1) := by
  simp only [wrap64]
  omega
theorem one_set' {w : World} {b : Nat} {v : Value} {t : TypeId} (h : w.heap[b]? = some (.cells #[v] t)) (u : Value) : (w.setCell ⟨b, 0, none⟩ u).heap[b]? = some (.cells #[u] t) := by
  have := heap_setCell_same w b 0 #[v] t u h
  simpa using this
theorem box1 {w : World} {b : Nat} {v : Value} {t : TypeId} (h : w.heap[b]? = some (.cells #[v] t)) : w.cell? ⟨b, 0, none⟩ = some v ∧ w.frozen? ⟨b, 0, none⟩ = false :=
  ⟨by rw [cell_of_row _ _ _ _ _ _ h]; rfl, by simp [World.frozen?, h]⟩
set_option maxRecDepth 100000 in
set_option maxHeartbeats 4000000 in
theorem lazy1_any {w : World} {F G K : Nat → Prop} {AH A : Option Addr} {nH cH c hb gb : Nat} {g : Int} {hs : List Pb} {av : List Int} (h0 : w.cell? ⟨hb, 0, none⟩ = some (.slice AH nH cH)) (h1 : w.heap[gb]? = some (.cells #[.int .i64 g] 3))
    (hp : PsRd w F G AH nH cH hs) (hi : ∀ p ∈ hs, ∀ k ∈ p.coefs, I64 k) (ha : Rd w K 1 (.slice A 7 c) 7 (i8s av)) (hGg : ∀ b, G b → b ≠ gb) (hn : nH ≤ 24) :
    Calls Tryz.prog 20 #[.slice A 7 c, .pointer (some ⟨hb, 0, none⟩), .pointer (some ⟨gb, 0, none⟩)] w fun r w' => (∃ B m e, r = .returned (.slice B m e) ∧
      ((m = 0 ∧ LazR hs av none ∧ w'.heap[gb]? = some (.cells #[.int .i64 g] 3)) ∨ (m = 1 ∧ ∃ s, StsRd w' (fun b => w.heap.size ≤ b) (fun b => G b ∨ w.heap.size ≤ b) B 1 e [s] ∧ LazR hs av (some s) ∧ w'.heap[gb]? = some (.cells #[.int .i64 (wrap64 (g + 1))] 3)))) ∧ Mod (fun b => b = gb) w w' := by
  have hpl : hs.length = nH := by obtain ⟨_, _, _, h⟩ := hp; exact h
  have Hp := hid hp
  have Hi := hid hi
  have Ha := hid ha
  have HG := hid hGg
  have Hpl := hid hpl
  have H1 := hid h1
  clear hp hi ha hGg hpl h1
  go_enter Tryz.func20, Tryz.ntmps20
  go_wp2_with fail
  go_loopw [9] (fun iv W => ∃ k : Nat, k ≤ nH ∧ iv = .int .i64 k ∧ Hid (∀ p ∈ hs.take k, 0 ≤ p.slackB av) ∧ Hid (Below w.heap.size w W)) (fun iv _ => nH - (intOf iv).toNat)
  case atStart => exact ⟨0, Nat.zero_le _, rfl, hid (by simp), hid (Below.refl _ _)⟩
  case round =>
    obtain ⟨k, hk, rfl, HA, HB⟩ := hrel
    by_cases hlt : k < nH
    · have x1 : (k : Int) < (nH : Int) := by omega
      obtain ⟨gA, oA, p, A1, n1, c1, A2, n2, c2, rfl, hgF, hgl, hpk, e0, e1, e2, hpp⟩ := (Hp.out.below HB.out).cells hlt
      obtain ⟨X1, hX1, bX1, kX1, sX1⟩ := alloc_step wr (.cells #[.slice A1 n1 c1, .slice A2 n2 c2, .int .i64 p.bound] 41)
      have Hs := hid (slack_any (hpp.below bX1) (Hi.out p (List.mem_of_getElem? hpk)) ((Ha.out.below HB.out).below bX1))
      have BX := hid (HB.out.trans (bX1.mono HB.out.size))
      have Hpk := hid hpk
      have Hpp := hid (hpp.below bX1)
      have HX1 := hid hX1
      have KX := hid kX1
      obtain ⟨zc, hzc⟩ : ∃ z, wr.heap.size = z := ⟨_, rfl⟩
      rw [hzc] at KX
      obtain ⟨q0, q1, q2⟩ := box3 KX.out
      rw [← hX1] at q0 q1 q2
      have hwr := HB.out.size
      obtain ⟨sl, hsl⟩ : ∃ z, p.slackB av = z := ⟨_, rfl⟩
      rw [hsl] at Hs
      clear hpp hpk bX1 kX1 sX1 hX1
      go_wp2_with fail
      try rw [hzc]
      rw [HX1.out] at q0 q1 q2 ⊢
      refine Hs.out.mono ?_
      rintro r W5 ⟨rfl, b5⟩
      have hbx : W5.heap[gb]? = some (.cells #[.int .i64 g] 3) := keep_blk H1.out (BX.out.trans (b5.mono BX.out.size))
      obtain ⟨g0, g1⟩ := box1 hbx
      obtain ⟨q0, q1, q2⟩ := box3 (keep_blk KX.out b5)
      have HB5 := hid (BX.out.trans (b5.mono BX.out.size))
      have Hpp := hid (Hpp.out.below b5)
      have KX5 := hid (keep_blk KX.out b5)
      have Hbx := hid hbx
      clear b5 hbx
      by_cases hneg : sl < 0
      · have hzg : zc ≠ gb := fun e => by have := lt_of_block H1.out; omega
        obtain ⟨W6, hW6⟩ : ∃ W, W5.setCell ⟨gb, 0, none⟩ (.int .i64 (wrap64 (g + 1))) = W := ⟨_, rfl⟩
        have m6 : Mod (fun b => b = gb) W5 W6 := by rw [← hW6]; exact Mod.setCell (p := ⟨gb, 0, none⟩) (Mod.refl (fun b => b = gb) W5) (.inl rfl) _
        have k6 : W6.heap[gb]? = some (.cells #[.int .i64 (wrap64 (g + 1))] 3) := hW6 ▸ one_set' Hbx.out _
        have hs6 : W6.heap.size = W5.heap.size := by rw [← hW6]; simp
        obtain ⟨q0, q1, q2⟩ := box3 ((m6.block zc (lt_of_block KX5.out) hzg).trans KX5.out)
        have Hpp := hid (Hpp.out.mod m6 fun b _ hb => HG.out b hb)
        obtain ⟨X7, hX7, b7, r7, s7⟩ := lit_step W6 [(k : Int) + 1] (by simp) (by simp)
        obtain ⟨z7, hz7⟩ : ∃ z, W6.heap.size = z := ⟨_, rfl⟩
        rw [hz7] at r7 s7
        obtain ⟨A1', m1, d1, A2', m2, d2, e, r1, r2⟩ := Hpp.out.form
        obtain ⟨⟨rfl, rfl, rfl⟩, rfl, rfl, rfl⟩ : (A1 = A1' ∧ n1 = m1 ∧ c1 = d1) ∧ A2 = A2' ∧ n2 = m2 ∧ c2 = d2 := by simpa using e
        obtain ⟨X8, hX8, b8, k8, s8⟩ := alloc_step X7 (.cells (Six.cells ⟨.int .u8 3, .slice A1 n1 c1, .slice A2 n2 c2, .int .i64 p.bound, .slice (some ⟨z7, 0, none⟩) 1 1, .slice none 0 0⟩).toArray 52)
        have R8 := rd_lit6 k8
        rw [s7] at R8
        have H7 := hid hX7
        have H8 := hid hX8
        have HB5' := HB5.out
        have HS := hid (show StsRd X8 (fun b => w.heap.size ≤ b) (fun b => G b ∨ w.heap.size ≤ b) (some ⟨z7 + 1, 0, none⟩) 1 1 [⟨3, p, [(k : Int) + 1]⟩] from
          ⟨[⟨.int .u8 3, .slice A1 n1 c1, .slice A2 n2 c2, .int .i64 p.bound, .slice (some ⟨z7, 0, none⟩) 1 1, .slice none 0 0⟩], by rw [flat6_one]; exact R8.mono fun b _ h => by have := HB5'.size; omega,
            (Sts.nil X8 _).snoc ⟨_, _, _, _, _, _, some ⟨z7, 0, none⟩, 1, rfl, ((Hpp.out.below b7).below b8).mono fun b _ h => .inl h, (r7.below b8).mono fun b _ h => .inr (by have := HB5'.size; omega)⟩, rfl⟩)
        have HM := hid (show Mod (fun b => b = gb) w X8 from ((Mod.of_below (F := fun b => b = gb) HB5').trans (m6.mono fun b _ h => .inl h)).trans (Mod.of_below (b7.trans (b8.mono b7.size))))
        have HG8 := hid (show X8.heap[gb]? = some (.cells #[.int .i64 (wrap64 (g + 1))] 3) from keep_blk (keep_blk k6 b7) b8)
        clear e r1 r2 b7 b8 r7 s7 k8 s8 R8 hX7 hX8 m6 k6 HB5'
        have Hz5 := hid hz7
        have Hlz := hid (show LazR hs av (some ⟨3, p, [(k : Int) + 1]⟩) from ⟨k, p, Hpk.out, by rw [hsl]; exact hneg, rfl⟩)
        clear hz7 hs6
        go_wp2_with fail
        rw [Hz5.out, show W6.alloc (.cells #[.int .i64 ((k : Int) + 1)] 3) = X7 from H7.out, show X7.alloc (.cells #[.int .u8 3, .slice A1 n1 c1, .slice A2 n2 c2, .int .i64 p.bound, .slice (some ⟨z7, 0, none⟩) 1 1, .slice none 0 0] 52) = X8 from H8.out]
        go_ret
        exact ⟨⟨_, _, _, rfl, .inr ⟨rfl, _, HS.out, Hlz.out, HG8.out⟩⟩, HM.out⟩
      · have hneg' : ¬ sl < 0 := hneg
        go_wp2_with fail
        go_roundw
        case rel => exact ⟨k + 1, by omega, by go_num, hid (fun p' hp' => by
          rw [List.take_add_one, Hpk.out] at hp'
          rcases List.mem_append.1 hp' with hp' | hp'
          · exact HA.out p' hp'
          · have e : p' = p := by simpa using hp'
            rw [e, hsl]; omega), HB5⟩
        case measure => simp [intOf]; omega
    · have x1 : ¬ ((k : Int) < (nH : Int)) := by omega
      have hall : ∀ p ∈ hs, 0 ≤ p.slackB av := by have := HA.out; rwa [List.take_of_length_le (by have := Hpl.out; omega)] at this
      have Hall := hid hall
      clear hall
      go_wp2_with fail
      go_ret
      exact ⟨⟨_, _, _, rfl, .inl ⟨rfl, Hall.out, keep_blk H1.out HB.out⟩⟩, Mod.of_below HB.out⟩
/-- A step of SearchLazy's log: a clause, or a constraint that was withheld, unchanged. -/
def LazyStep (hs : List Pb) (s : Stp) : Prop := (s.kind = 1 ∧ s.set = [] ∧ s.c.Ok ∧ s.c.lits.length ≤ 1000000 ∧ s.c.coefs.length ≤ 1000000) ∨ ∃ (i : Nat) (p : Pb), hs[i]? = some p ∧ s = ⟨3, p, [(i : Int) + 1]⟩
/-- The lazy function with its state: the withheld constraints, the counter; all constraints are kept too. -/
def hidLazy (P : Nat → Prop) (hb gb : Nat) (AH : Option Addr) (nH cH : Nat) (hs : List Pb) (Al : Option Addr) (nl cl : Nat) (ls : List Pb) : Lazy :=
  ⟨.func (.func 20) #[] #[.pointer (some ⟨hb, 0, none⟩), .pointer (some ⟨gb, 0, none⟩)], P,
    fun w k => w.cell? ⟨hb, 0, none⟩ = some (.slice AH nH cH) ∧ w.heap[gb]? = some (.cells #[.int .i64 (wrap64 (k : Int))] 3) ∧ PsRd w (fun g => P g ∧ g ≠ gb) (fun g => P g ∧ g ≠ gb) AH nH cH hs ∧ PsRd w (fun g => P g ∧ g ≠ gb) (fun g => P g ∧ g ≠ gb) Al nl cl ls,
    fun X s => okX X ∧ LazR hs (asgX 7 X) s⟩
section
variable {P : Nat → Prop} {hb gb nH cH nl cl : Nat} {AH Al : Option Addr} {hs ls : List Pb}
theorem hidLazy_ok {a : Ask} (hP : P hb ∧ P gb ∧ hb ≠ gb) (hok : OkN 7 hs) (hn : nH ≤ 24) (h7 : a.n = 7) (hH : a.Hs = hs) (hLz : ∀ (i : Nat) (p : Pb), hs[i]? = some p → a.Lz ⟨3, p, [(i : Int) + 1]⟩) : LazyOk a (hidLazy P hb gb AH nH cH hs Al nl cl ls) where
  keep := fun {w w' k G} hI hm hd => by
    obtain ⟨h1, h2, h3, h4⟩ := hI
    have b1 : hb < w.heap.size := World.block_lt_of_cell? w _ h1
    have b2 := lt_of_block h2
    exact ⟨(World.cell?_of_block (hm.block hb b1 (hd hb b1 hP.1))).trans h1, (hm.block gb b2 (hd gb b2 hP.2.1)).trans h2, h3.mod hm (fun g hg h => hd g hg h.1) (fun g hg h => hd g hg h.1), h4.mod hm (fun g hg h => hd g hg h.1) (fun g hg h => hd g hg h.1)⟩
  ans := fun {X s} h => by
    obtain ⟨hX, i, p, hip, hsl, rfl⟩ := h
    have hpm := List.mem_of_getElem? hip
    obtain ⟨hpo, hpl⟩ := hok p hpm
    have k8 := hpo.fewn hpl
    have k9 := hpo.len
    refine ⟨hpo.i64, ?_, ?_, ?_, fun _ => ⟨rfl, hLz i p hip, ?_, ?_⟩⟩
    · show p.lits.length ≤ 1000000; omega
    · show p.coefs.length ≤ 1000000; omega
    · show 1 ≤ 1000000; omega
    · rw [hH]; exact hpm
    · show p.slackX X < 0
      rw [← slackB_asgX hX hpo hpl]; exact hsl
  call := .inr ⟨_, _, _, rfl, enters_of Tryz.func20 (by kernel_rfl) rfl, fun w k X A n c hI hX hXn hown => by
    obtain ⟨h1, h2, h3, h4⟩ := hI
    have hn7 : n = 7 := by
      have := hown.rd.1
      rw [i8s_length, asgX_len, h7] at this
      omega
    subst hn7
    rw [h7] at hown
    refine (lazy1_any h1 h2 h3 (fun p hp => (hok p hp).1.i64) hown.rd (fun b hb => hb.2) hn).mono ?_
    rintro r w' ⟨⟨B, m, e, rfl, hh⟩, hm⟩
    have c1 : w'.cell? ⟨hb, 0, none⟩ = some (.slice AH nH cH) := (World.cell?_of_block (hm.block hb (World.block_lt_of_cell? w _ h1) hP.2.2)).trans h1
    have p3 := h3.mod hm (fun g _ h => h.2) (fun g _ h => h.2)
    have p4 := h4.mod hm (fun g _ h => h.2) (fun g _ h => h.2)
    refine ⟨⟨B, m, e, rfl, ?_⟩, hm.mono fun g _ hg => hg ▸ hP.2.1⟩
    rcases hh with ⟨hm0, hr, hg⟩ | ⟨hm1, s, hs, hr, hg⟩
    · exact .inl ⟨hm0, ⟨hX, hr⟩, c1, hg, p3, p4⟩
    · exact .inr ⟨hm1, s, hs.mono (fun _ _ h => h) (fun g _ h => h.imp And.left id), ⟨hX, hr⟩, c1, by rw [hg, wrap_next]; rfl, p3, p4⟩⟩
theorem valX_ne {X : List Int} {l : Int} : valX X l ≠ 0 ↔ l ∈ X ∨ -l ∈ X := by
  unfold valX
  by_cases h1 : l ∈ X
  · simp [h1]
  · by_cases h2 : -l ∈ X <;> simp [h1, h2]
set_option maxHeartbeats 1000000 in
/-- The search of SearchLazy, in the law's words. -/
theorem ssolve_lazy {w : World} {F Ga : Nat → Prop} {sb tb eb ob pm na ca : Nat} {Aa : Option Addr} {asm : List Int} {os : List Pb} {S : Sol} (h : SolP w F sb tb eb ob pm S) (hK : Kept 7 os S) (hcs : S.E.cs.length ≤ 400000) (hl0 : S.log = [])
    (hI : (hidLazy P hb gb AH nH cH hs Al nl cl ls).I w 0) (hP : ∀ g, P g → g < w.heap.size ∧ ¬ F g) (hPb : P hb ∧ P gb ∧ hb ≠ gb) (hasm : Rd w Ga 1 (.slice Aa na ca) na (ints asm)) (hGa : ∀ g, Ga g → ¬ F g ∧ ¬ P g) (hal : ∀ x ∈ asm, x ≠ 0 ∧ x.natAbs ≤ 7) (hna : na ≤ 8)
    (hokL : OkN 7 ls) (hn : hs.length ≤ 24) (hnH : nH ≤ 24) (hmem : ∀ p, p ∈ ls ↔ p ∈ os ∨ p ∈ hs) :
    Calls Tryz.prog 10 #[.pointer (some ⟨sb, 0, none⟩), .slice Aa na ca, .int .i64 4000, .func (.func 20) #[] #[.pointer (some ⟨hb, 0, none⟩), .pointer (some ⟨gb, 0, none⟩)]] w fun r w' => (∃ sat A1 n1 c1 A2 n2 c2, r = .returned (.tuple #[.agg #[.bool sat, .slice A1 n1 c1, .slice A2 n2 c2], .int .i64 0]) ∧ ∃ S' F' new M co, Told ls asm new sat M co ∧
      S'.log = new ∧ (∀ s ∈ new, LazyStep hs s) ∧ new.length ≤ 4001 ∧ SolP w' F' sb tb eb ob pm S' ∧ (∀ g, F' g → g < w'.heap.size ∧ (F g ∨ w.heap.size ≤ g)) ∧ Rd w' (fun g => w.heap.size ≤ g ∧ ¬ F' g) 1 (.slice A1 n1 c1) n1 (i8s M) ∧ Rd w' (fun g => w.heap.size ≤ g ∧ ¬ F' g) 1 (.slice A2 n2 c2) n2 (ints co) ∧ (hidLazy P hb gb AH nH cH hs Al nl cl ls).I w' (new.countP fun s => s.kind == 3)) ∧ Mod (fun g => F g ∨ P g) w w' := by
  have hokH : OkN 7 hs := fun p hp => hokL p ((hmem p).2 (.inr hp))
  have hz := hidLazy_ok (a := ⟨asm, S.E.cs, S.log, 7, 4000, hs, fun s => ∃ (i : Nat) (p : Pb), hs[i]? = some p ∧ s = ⟨3, p, [(i : Int) + 1]⟩⟩) (AH := AH) (cH := cH) (Al := Al) (nl := nl) (cl := cl) (ls := ls) hPb hokH hnH rfl rfl fun i p hip => ⟨i, p, hip, rfl⟩
  have hs4 := ssolve_any h hz hI hP hasm hGa hal hna hK.base (by omega) (by omega) hcs (by rw [hl0]; simp)
  rw [show ((4000 : Nat) : Int) = 4000 from rfl] at hs4
  refine hs4.mono ?_
  rintro r w' ⟨⟨sat, A1, n1, c1, A2, n2, c2, e, rfl, S', F', k, i', new, M, co, hso, hlf, hba, hsp, hF', hM, hco, hI'⟩, hm⟩
  have hcs' : ∀ p ∈ os, p ∈ S'.E.cs := fun p hp => by rw [hlf.cs]; exact List.mem_append_left _ (hK.sub p hp)
  have hsp2 : ∀ s, Hold s ls → Hold s os ∧ Hold s hs := fun s hl => ⟨fun p hp => hl p ((hmem p).2 (.inl hp)), fun p hp => hl p ((hmem p).2 (.inr hp))⟩
  obtain ⟨rfl, ht, rfl⟩ : e = 0 ∧ Told ls asm new sat M co ∧ i' = k := by
    cases hso with
    | sat hi X hX hb hn' ha hall hcal hz =>
      have hN : Nilled 7 ls S.E.cs asm S.log 4000 new true (asgX 7 X) [] 0 := .sat X hX hn' ha hall (fun p hp => by
        rcases (hmem p).1 hp with h | h
        · exact hcal p (hcs' p h)
        · obtain ⟨hpo, hpl⟩ := hokH p h
          refine ⟨by rw [← slackB_asgX hX hpo hpl]; exact hz.2 p h, fun j hj _ => ?_⟩
          have h0 := hpo.lit0 hj
          have h7 := hpl _ (nth_mem hj)
          have h1 := valX_ne.1 (hall (nth p.lits j).natAbs (by omega) h7)
          refine valX_ne.2 ?_
          rcases Int.natAbs_eq (nth p.lits j) with e | e
          · rw [← e] at h1; exact h1
          · rw [show (((nth p.lits j).natAbs : Nat) : Int) = -nth p.lits j by omega, Int.neg_neg] at h1; exact h1.symm)
      rcases hN.law hokL hal with ⟨_, ht⟩ | ⟨h, _⟩
      · exact ⟨rfl, ht, by omega⟩
      · cases h
    | unsat hi co hs n0 hn' hr =>
      have hN : Nilled 7 ls S.E.cs asm S.log 4000 new false [] co 0 := .unsat co hs (fun s hl => core_no hlf (by show 7 ≤ 65536; omega) hK.ok hokH hn' hr (fun x hx => hal x (hs.subset hx)) (hK.imp s (hsp2 s hl).1) (hsp2 s hl).2) n0 hn' hr
      rcases hN.law hokL hal with ⟨_, ht⟩ | ⟨h, _⟩
      · exact ⟨rfl, ht, by omega⟩
      · cases h
    | many hmany =>
      have := hmany _ (Open.all (n := 7) ⟨asm, S.E.cs, S.log, 7, 4000, hs, fun s => ∃ (i : Nat) (p : Pb), hs[i]? = some p ∧ s = ⟨3, p, [(i : Int) + 1]⟩⟩ rfl)
      simp at this
      omega
    | arg X s hs' hn' =>
      obtain ⟨_, i, p, hip, _, rfl⟩ := hs'
      have := hokH.fits p (List.mem_of_getElem? hip)
      exact absurd (this.symm.trans hn') (by simp)
  have hstep : ∀ s ∈ new, LazyStep hs s := fun s hs => by
    obtain ⟨i, hi, e1⟩ := List.getElem_of_mem hs
    rcases hlf.grew.ok i s (by rw [List.getElem?_eq_getElem hi, e1]) with ⟨k1, k2, L, k3, k4, k5, _⟩ | ⟨_, ⟨j, p, hjp, e⟩, _⟩
    · obtain ⟨k6, k7⟩ := clauseB_okN k4 k5
      rw [← k3] at k6 k7
      have k8 : s.c.lits.length ≤ 7 := k6.fewn k7
      have k9 := k6.len
      exact .inl ⟨k1, k2, k6, by omega, by omega⟩
    · exact .inr ⟨j, p, hjp, e⟩
  have hcount := hlf.grew.lazy
  have hlen := hlf.most
  refine ⟨⟨sat, A1, n1, c1, A2, n2, c2, rfl, S', F', new, M, co, ht, by rw [hlf.log, hl0]; rfl, hstep, hlen, hsp, hF', hM, hco, by rw [hcount]; exact hI'⟩, hm⟩
end
end Go.Proofs.YtcjmpobccbnpkaaGreat
