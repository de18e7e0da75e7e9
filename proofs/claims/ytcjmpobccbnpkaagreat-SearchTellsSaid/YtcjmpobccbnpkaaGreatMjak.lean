/-
 Chapter 32: several texts in one (LnF).
-/
import Derived.Test.YtcjmpobccbnpkaaGreatMjaj
namespace Go.Proofs.YtcjmpobccbnpkaaGreat
section
open Go.RowKit Go.Maps
theorem AnAt.more {w : World} {a ma ms tb nm ns ns' : Nat} {T : Tr} {A : An} (e : AnAt w a ma ms tb nm ns T A) (h : ns ≤ ns') : AnAt w a ma ms tb nm ns' T A := ⟨e.blk, e.pos, e.set.more h, e.ne⟩
theorem meth_reason (tb : Nat) (w : World) : (method 326 25 (.pointer (some ⟨tb, 0, none⟩)) "Reason").run Tryz.prog w = .ok (123, .pointer (some ⟨tb, 0, none⟩)) w := by kernel_rfl
theorem backs_stop (T : Tr) : ∀ (ms : List Int) (A : An), A.now ≤ 1 → ms.foldl (An.back T) A = A := by
 intro ms
 induction ms with
 | nil => intro A _; rfl
 | cons m ms ih =>
  intro A h
  have e : A.back T m = A := by unfold An.back; rw [if_neg (fun x => by omega)]
  rw [List.foldl_cons, e]
  exact ih A h
def An.at (T : Tr) (A : An) (i : Nat) : An := ((T.lits.drop i).reverse).foldl (An.back T) A
theorem An.at_end (T : Tr) (A : An) : A.at T T.lits.length = A := by unfold An.at; rw [List.drop_length]; rfl
theorem An.at_zero (T : Tr) (A : An) : A.at T 0 = A.run T := by unfold An.at An.run; rw [List.drop_zero]
theorem An.at_step (T : Tr) (A : An) {i : Nat} (h : i < T.lits.length) : A.at T i = (A.at T (i + 1)).back T (nth T.lits i) := by
 unfold An.at
 rw [List.drop_eq_getElem_cons h, List.reverse_cons, List.foldl_append, ← nth_eq h]
 rfl
theorem An.at_stop (T : Tr) (A : An) {i : Nat} (_h : i ≤ T.lits.length) (h1 : (A.at T i).now ≤ 1) : A.run T = A.at T i := by
 have e := run_take T A i
 rw [e]
 exact backs_stop T _ _ h1
theorem Cn.at {T : Tr} (h : T.WF) {A : An} (c : Cn T A) (i : Nat) : Cn T (A.at T i) := c.backs h fun m hm => List.mem_of_mem_drop (by simpa using hm)
theorem lits_small {T : Tr} (h : T.WF) {m : Int} (hm : m ∈ T.lits) : -65536 ≤ m ∧ m ≤ 65536 := by
 obtain ⟨e, he, hel⟩ := List.mem_map.1 hm
 have := (h.lit e he).2
 have := h.vars
 unfold Ent.v at *
 omega
set_option maxRecDepth 100000 in
set_option maxHeartbeats 4000000 in
theorem run_any {w : World} {Ft G : Nat → Prop} {a ma ms tb nm ns n c : Nat} {R : Option Addr} {T : Tr} {A : An} (e : AnAt w a ma ms tb nm ns T A) (ht : Trail w Ft tb T) (hta : ¬ Ft a) (hts : ¬ Ft ms)
  (hr : Rd w G 1 (.slice R n c) n (ints T.lits)) (hG : ∀ g, G g → g ≠ a ∧ g ≠ ms) (hc : Cn T A) (hR : ∀ m ∈ T.lits, (T.reasonOf (m.natAbs : Nat)).length ≤ 100) (hns : ns + 100 * T.lits.length ≤ 1000000) :
  Calls Tryz.prog 116 #[.pointer (some ⟨a, 0, none⟩), .slice R n c] w fun r w' => r = .returned (.tuple #[]) ∧ AnAt w' a ma ms tb nm (ns + 100 * T.lits.length) T (A.run T) ∧ Mod (fun g => g = a ∨ g = ms) w w' := by
 have hln : T.lits.length = n := by have := hr.1; simpa [ints_length] using this
 have hn6 : n ≤ 10000 := by omega
 have hncap : (n : Int) ≤ (c : Int) := by
  obtain ⟨_, A2, c2, hv2, h2, _⟩ := hr
  injection hv2 with _ _ h3
  omega
 have E0 := hid e
 have Ht := hid ht
 have Hwf := hid ht.wf
 have Hr := hid hr
 have HG := hid hG
 have Hc := hid hc
 have HR := hid hR
 have Hln := hid hln
 have hlt0 := lt_of_block e.blk
 have hms := e.set.lt
 have hwn0 : IntKind.i64.wrap ((n : Int) - 1) = (n : Int) - 1 := liw' (by omega) (by omega)
 clear e ht hr hG hc hR hln
 go_enter Tryz.func116, Tryz.ntmps116
 go_wp2_with fail
 go_loopw [4] (fun iv W => ∃ i : Int, -1 ≤ i ∧ i < n ∧ iv = .int .i64 i ∧ Hid (AnAt W a ma ms tb nm (ns + 100 * (n - (i + 1).toNat)) T (A.at T (i + 1).toNat)) ∧ Hid (Mod (fun g => g = a ∨ g = ms) w W)) (fun iv _ => (intOf iv + 1).toNat)
 case atStart => 
  refine ⟨(n : Int) - 1, by omega, by omega, rfl, ?_, Mod.refl _ _⟩
  rw [show ((n : Int) - 1 + 1).toNat = n by omega]
  have := E0.o
  rw [← An.at_end T A, Hln.o] at this
  exact hid (this.more (by omega))
 case round =>
  obtain ⟨i, i1, i2, rfl, E1, M1⟩ := hrel
  have hsz := M1.o.size
  obtain ⟨c0, c1, c2, c3, c4, c5, f5⟩ := box6 E1.o.blk
  by_cases h0 : 0 ≤ i
  ·obtain ⟨j, rfl⟩ : ∃ j : Nat, i = j := ⟨i.toNat, by omega⟩
   rw [show ((j : Int) + 1).toNat = j + 1 by omega] at E1 c5
   have x0 : (0 : Int) ≤ (j : Int) := by omega
   by_cases h1 : 1 < (A.at T (j + 1)).now
   ·obtain ⟨m, hm⟩ : ∃ m, nth T.lits j = m := ⟨_, rfl⟩
    have hjl : j < T.lits.length := by have := Hln.o; omega
    have hjn : (j : Int) < (n : Int) := by omega
    have hmm : m ∈ T.lits := by rw [← hm]; exact nth_mem hjl
    obtain ⟨hb1, hb2⟩ := lits_small Hwf.o hmm
    obtain ⟨g, o, rfl, hg, _, e0⟩ := (Hr.o.mod M1.o fun g _ hg hf => by have := HG.o g hg; omega).cell.2 j (by omega)
    rw [hm] at e0
    have T1 := hid (Ht.o.mod M1.o fun g _ hg hf => hf.elim (fun e => hta (e ▸ hg)) (fun e => hts (e ▸ hg)))
    have hnx := A.at_step T hjl
    rw [hm] at hnx
    have Hnx := hid hnx
    have hcn := Hc.o.at Hwf.o (j + 1)
    obtain ⟨A1, hA1⟩ : ∃ A1, A.at T (j + 1) = A1 := ⟨_, rfl⟩
    rw [hA1] at E1 Hnx hcn h1 c5
    obtain ⟨D, hown, hD⟩ := E1.o.set
    have hIm : I64 (-m) := by unfold I64; omega
    have hkey : keyOf Tryz.prog 3 (.int .i64 (-m)) = some (.int .i64 (-m)) := lkey_num hIm
    have hDl := hD (-m) hIm
    obtain ⟨v, hv⟩ : ∃ v, m.natAbs = v := ⟨_, rfl⟩
    have hmx : (if -m < m then m else -m) = (v : Int) := by split <;> omega
    have hwn : IntKind.i64.wrap (-m) = -m := liw' (by omega) (by omega)
    have hwn2 : IntKind.i64.wrap m = m := liw' (by omega) (by omega)
    have na : (a = wr.heap.size) = False := by simp; omega
    have na' : (wr.heap.size = a) = False := by simp; omega
    have HD := hid hD
    have Hown := hid hown
    have Hcn := hid hcn
    have Hv := hid hv
    have BA : Below wr.heap.size wr (wr.alloc (.cells #[] 186)) := (Below.refl _ _).alloc (Nat.le_refl _) _
    have M2 : Hid (Mod (fun g => g = a ∨ g = ms) w (wr.alloc (.cells #[] 186))) := M1.o.alloc _
    have hlt1 := lt_of_block E1.o.blk
    have hwd : IntKind.i64.wrap ((j : Int) - 1) = (j : Int) - 1 := liw' (by omega) (by omega)
    clear hnx hD hown hm hA1 hcn hv E0
    cases q1 : A1.set (-m)
    ·rw [q1] at hDl
     have hone : Hid (A1.back T m = A1) := by
      unfold An.back
      rw [if_neg (by rw [q1]; simp)]
      exact hid rfl
     go_wp2_with (at_lookup; refine wpList_lookup_own_unit _ rfl _ _ 183 rfl 3 186 lkeyed_int Tryz.underlying183 (zero_unit _) ms _ D rfl Hown.o _ _ rfl hkey ?_)
     go_roundw
     case rel =>
      refine ⟨(j : Int) - 1, by omega, by omega, by go_num, ?_, M2⟩
      rw [show ((j : Int) - 1 + 1).toNat = j by omega, Hnx.o, hone.o]
      exact hid ((E1.o.below BA).more (by omega))
     case measure => simp [intOf]
    ·rw [q1] at hDl
     have hone : Hid (A1.back T m = (A1.drop (-m)).addAll T v (T.reasonOf (v : Int))) := by
      unfold An.back
      rw [if_pos ⟨h1, q1⟩, Hv.o]
      exact hid rfl
     have hms1 := E1.o.set.lt
     have hams : a ≠ ms := fun e => by
      obtain ⟨_, _, hm, _⟩ := Hown.o
      rw [← e, E1.o.blk] at hm
      cases hm
     have hc1 := Hcn.o.lo
     have hc2 := Hcn.o.hi
     have hc3 := cntNow_le T A1
     have hwp : IntKind.i64.wrap (A1.now - 1) = A1.now - 1 := liw' (by omega) (by omega)
     have hmr := meth_reason tb
     have Hblk := hid ((BA.block a hlt1).trans E1.o.blk)
     have Hpos := hid (E1.o.pos.of_block (BA.block ma E1.o.pos.lt))
     have Hne := E1.o.ne
     go_wp2_with (first
      | (at_lookup; refine wpList_lookup_own_unit _ rfl _ _ 183 rfl 3 186 lkeyed_int Tryz.underlying183 (zero_unit _) ms _ D rfl Hown.o _ _ rfl hkey ?_)
      | (at_delete; refine wpList_delete_own _ rfl _ _ 183 3 rfl 186 lkeyed_int Tryz.underlying183 _ ms _ D rfl (Hown.o.alloc _) _ _ rfl hkey ?_; intro w1 hown1 hturn1; have M3 := grown_mod hturn1.grown; have G3 := (M3.block a (by simp; omega) hams).trans Hblk.o; have s3 := M3.size; obtain ⟨d0, d1, d2, d3, d4, d5, g5⟩ := box6 G3))
     have E3 : AnAt (w1.setCell ⟨a, 5, none⟩ (.int .i64 (A1.now - 1))) a ma ms tb nm (ns + 100 * (n - (j + 1))) T (A1.drop (-m)) :=
      an_count (A' := A1.drop (-m)) G3 (Hpos.o.of_block (M3.block ma (by have := Hpos.o.lt; simpa using this) Hne)) (SetIs.del HD.o hown1) Hne
     have MS : Mod (fun g => g = a) w1 (w1.setCell ⟨a, 5, none⟩ (.int .i64 (A1.now - 1))) := (Mod.refl (fun g => g = a) _).setCell (p := ⟨a, 5, none⟩) (.inl rfl) _
     have T3 := hid (((T1.o.below BA).mod M3 fun g _ hg hf => hts (hf ▸ hg)).mod MS fun g _ hg hf => hta (hf ▸ hg))
     have N3 : Hid (Mod (fun g => g = a ∨ g = ms) w (w1.setCell ⟨a, 5, none⟩ (.int .i64 (A1.now - 1)))) := (M2.o.trans (M3.mono fun g _ hg => .inl (.inr hg))).trans (MS.mono fun g _ hg => .inl (.inl hg))
     have hRm := HR.o m hmm
     rw [Hv.o] at hRm
     have hlz := reasonOf_neg Hwf.o hmm
     rw [Hv.o] at hlz
     have Hlz := hid hlz
     have E3 := hid E3
     have hbz : Hid (∀ l ∈ T.reasonOf (v : Int), -65536 ≤ l ∧ l ≤ 65536) := hid fun l hl => by
      have := Hv.o
      rcases Hlz.o l hl with e | e
      ·omega
      ·have := lits_small Hwf.o e; omega
     have s4 : (w1.setCell ⟨a, 5, none⟩ (.int .i64 (A1.now - 1))).heap.size = w1.heap.size := by simp
     clear hlz d0 d1 d2 d3 d4 d5 g5 G3 hturn1 hown1 M3 MS
     generalize w1.setCell ⟨a, 5, none⟩ (.int .i64 (A1.now - 1)) = w2 at *
     refine (reason_any T3.o (v := (v : Int)) (by omega)).mono ?_
     rintro r w3 ⟨⟨u, rfl, hu⟩, b3⟩
     obtain ⟨A', c', rfl, _⟩ := hu.form
     have hsm : a < w2.heap.size ∧ ms < w2.heap.size := ⟨lt_of_block E3.o.blk, E3.o.set.lt⟩
     have E4 := E3.o.below b3
     have T4 := T3.o.below b3
     have N4 : Hid (Mod (fun g => g = a ∨ g = ms) w w3) := N3.o.trans (Mod.of_below b3)
     have hcd := Hcn.o.drop Hwf.o (l := -m) h1
     have Hu := hid hu.rd
     clear hu b3 E3 T3 N3
     go_wp2_with fail
     refine (add_any (ex := (v : Int)) E4 T4 hta hts Hu.o (fun g hg => by omega) hcd Hlz.o hbz.o (by have := Hln.o; omega)).mono ?_
     rintro r w5 ⟨rfl, E5, M5⟩
     go_wp2_with fail
     go_roundw
     case rel =>
      refine ⟨(j : Int) - 1, by omega, by omega, by go_num, ?_, N4.o.trans (M5.mono fun g _ hg => .inl hg)⟩
      rw [show ((j : Int) - 1 + 1).toNat = j by omega, Hnx.o, hone.o]
      exact hid (E5.more (by omega))
     case measure => simp [intOf]
   ·have hst : Hid (A.run T = A.at T (j + 1)) := hid (An.at_stop T A (by have := Hln.o; omega) (by omega))
    have h1 : (1 < (A.at T (j + 1)).now) = False := by simp; omega
    go_wp2_with fail
    go_end0
    exact ⟨rfl, by rw [hst.o, Hln.o]; exact E1.o.more (by omega), M1.o⟩
  ·have hi : i = -1 := by omega
   have h0 : (0 ≤ i) = False := by simp; omega
   have E2 : Hid (AnAt wr a ma ms tb nm (ns + 100 * n) T (A.run T)) := by
    have := E1.o
    rw [hi] at this
    rw [← An.at_zero]
    exact hid this
   clear hi
   go_wp2_with fail
   go_end0
   exact ⟨rfl, by rw [Hln.o]; exact E2.o, M1.o⟩
end
end Go.Proofs.YtcjmpobccbnpkaaGreat
