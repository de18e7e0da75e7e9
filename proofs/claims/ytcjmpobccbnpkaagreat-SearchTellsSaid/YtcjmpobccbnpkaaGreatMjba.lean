/-
 Chapter 32: several texts in one (EnF).
-/
import Derived.Test.YtcjmpobccbnpkaaGreatMjay
import Derived.Test.YtcjmpobccbnpkaaGreatMjaz
import Derived.Test.YtcjmpobccbnpkaaGreatTk
import Derived.Test.YtcjmpobccbnpkaaGreatTkU
namespace Go.Proofs.YtcjmpobccbnpkaaGreat
set_option maxRecDepth 100000
set_option maxHeartbeats 4000000
section
open Go.RowKit
structure IterSt (te tt eb tb m : Nat) (es : Array MapEntry) (clock : Nat) (vl vs : Value) (ts : List (Value × Value × Value)) (E : Eng) (T0 : Tr) (Fe Ft : Nat → Prop) (pre : List Nat) (W : World) : Prop where
 ce : W.cell? ⟨te, 0, none⟩ = some (.pointer (some ⟨eb, 0, none⟩))
 ct : W.cell? ⟨tt, 0, none⟩ = some (.pointer (some ⟨tb, 0, none⟩))
 eng : EngF W Fe eb m es clock vl vs ts E (occF E.cs)
 tr : Trail W Ft tb (T0.exams E.cs pre)
 fine : fineX E.cs T0.lits pre
 lt : ∀ i ∈ pre, i < E.cs.length
theorem Bl.grown {w w' : World} (h : Below w.heap.size w w') : w.grownBy w' none := ⟨h.os, h.tape, h.output, h.size, fun k hk _ => h.block k hk⟩
theorem InMap.own_case {w : World} {F : Nat → Prop} {m : Nat} {es : Array MapEntry} {clock : Nat} {f : Int → List Int} {l : Int} {v : Value} (h : InMap w F m es clock f)
  (hv : (∃ (j : Nat) (x : MapEntry), es.toList.findIdx? (fun x => keyNum x == l) = some j ∧ es[j]? = some x ∧ x.val = v ∧ keyNum x = l) ∨ (es.toList.findIdx? (fun x => keyNum x == l) = none ∧ v = .slice none 0 0 ∧ f l = [] ∧ ∀ (i : Nat) (x : MapEntry), es[i]? = some x → keyNum x ≠ l)) :
  Own w F 3 1 v (f l).length (ints (f l)) := by
 rcases hv with ⟨j, x, _, h2, h3, h4⟩ | ⟨_, h2, h3, _⟩
 ·have := h.vals j x h2
  rwa [h3, h4] at this
 ·rw [h2, h3]; exact Own.nil _ _ _ _
def Eng.start (E : Eng) (X : List Int) : Nat × Nat := if X.length < E.seen.length ∨ X.take E.seen.length ≠ E.seen then (0, 0) else (E.seen.length, E.done)
theorem examined_in (N : Nat) (eb tb : Nat) (w : World) :
  CallsIn Fence.wide N Tryz.prog 88 #[.pointer (some ⟨eb, 0, none⟩), .pointer (some ⟨tb, 0, none⟩)] w fun e w' => e = .returned (.func (.func 107) #[] #[.pointer (some ⟨w.heap.size + 1, 0, none⟩), .pointer (some ⟨w.heap.size, 0, none⟩)]) ∧ w' = (w.alloc (.cells #[.pointer (some ⟨eb, 0, none⟩)] 26)).alloc (.cells #[.pointer (some ⟨tb, 0, none⟩)] 25) := by
 refine callsIn_of_wp Tryz.func88 rfl trivial ?_ rfl
 simp only [Tryz.ntmps88, List.size_toArray, List.length_cons, List.length_nil, Nat.reduceAdd, Nat.reduceSub, Array.replicate_succ, Array.replicate_zero, List.push_toArray, List.append_toArray, List.nil_append, List.cons_append]
 gi_wp2
 go_ret
 exact ⟨rfl, rfl⟩
theorem runX_len (cs : List Pb) (X : List Int) (pre : List Nat) : X.length ≤ (runX cs X pre).length := by
 obtain ⟨N, e⟩ := runX_grow (cs := cs) pre X
 rw [e, List.length_append]; omega
theorem CalmTo.stepI {cs : List Pb} {X : List Int} {pre : List Nat} {i start : Nat} {p : Nat → Prop} (hcs : ∀ c ∈ cs, c.Ok) (hX : okX X) (h : CalmTo cs start (runX cs X pre) p) (hs : start ≤ (runX cs X pre).length) (hlt : ∀ k ∈ pre ++ [i], k < cs.length) (hf : fineX cs X (pre ++ [i])) :
  CalmTo cs start (runX cs X (pre ++ [i])) (fun j => p j ∨ j = i) := by
 rw [runX_snoc]
 exact h.step hcs (hlt i (by simp)) (okX_run hcs (fun k hk => hlt k (List.mem_append_left _ hk)) hX) hs (fineX_snoc.1 hf).2
theorem occF_len (cs : List Pb) (l : Int) : (occF cs l).length ≤ cs.length := by
 unfold occF occL
 rw [List.length_map]
 have := List.length_filter_le (fun j => decide (l ∈ (cAt cs j).lits)) (List.range cs.length)
 rw [List.length_range] at this
 exact this
theorem occAt {cs : List Pb} {l : Int} {q : Nat} (hq : q < (occF cs l).length) : ∃ i : Nat, nth (occF cs l) q = (i : Int) ∧ (occL cs l)[q]? = some i := by
 unfold occF at hq ⊢
 rw [List.length_map] at hq
 refine ⟨(occL cs l)[q], ?_, List.getElem?_eq_getElem hq⟩
 rw [nth_eq (by rw [List.length_map]; exact hq), List.getElem_map]
theorem keepAt {cs : List Pb} {X : List Int} {pre : List Nat} {i p : Nat} {x : Int} (h1 : p < (runX cs X pre).length) (h2 : nth (runX cs X pre) p = x) : p < (runX cs X (pre ++ [i])).length ∧ nth (runX cs X (pre ++ [i])) p = x := by
 rw [runX_snoc]
 unfold exX
 refine ⟨by rw [List.length_append]; omega, ?_⟩
 unfold nth at h2 ⊢
 rw [List.getElem?_append_left h1]
 exact h2
theorem takeOcc {cs : List Pb} {l : Int} {q i j : Nat} (h : (occL cs l)[q]? = some i) (hj : l ∈ (cAt cs j).lits → j ∈ (occL cs l).take (q + 1)) : (l ∈ (cAt cs j).lits → j ∈ (occL cs l).take q) ∨ j = i := by
 by_cases e : j = i
 ·exact .inr e
 ·refine .inl fun hl => ?_
  have h1 := hj hl
  rw [List.take_add_one, h] at h1
  rcases List.mem_append.1 h1 with h2 | h2
  ·exact h2
  ·simp at h2; exact absurd h2 e
theorem allOcc {cs : List Pb} {l : Int} {q j : Nat} (hj : j < cs.length) (h : l ∈ (cAt cs j).lits) (hq : (occF cs l).length ≤ q) : j ∈ (occL cs l).take q := by
 unfold occF at hq
 rw [List.length_map] at hq
 rw [List.take_of_length_le hq]
 exact mem_occL.2 ⟨hj, h⟩
theorem ints_to {A : Option Addr} {n c i : Nat} (hA : 0 < n → ∃ g o, A = some ⟨g, o, none⟩) (hi : i ≤ n) (hc : n ≤ c) :
  ∃ A', (0 < n → A' = A) ∧ ∀ W : World, (Instr.slice 23 (.slice A n c) none (some (.int .i64 (i : Int))) none).run Tryz.prog W = .ok (.slice A' i c) W := by
 have h1 : (0 : Int) ≤ (i : Int) ∧ (i : Int) ≤ (c : Int) := by omega
 refine ⟨if c = 0 then A else A.map (·.add (0 * 1)), fun hp => ?_, fun W => by simp [Instr.slice, Instr.sliceBounds, Instr.sliceBound, run_underlying Tryz.underlying23, asIntOf, h1, Tryz.sizeOf3]; exact fun h => absurd h (by omega)⟩
 obtain ⟨g, o, rfl⟩ := hA hp
 rw [if_neg (by omega)]
 simp [addr_add]
theorem rd_to {w : World} {F : Nat → Prop} {A A' : Option Addr} {n c i : Nat} {xs : List Value} (h : Rd w F 1 (.slice A n c) n xs) (hi : i ≤ n) (hA : 0 < n → A' = A) : Rd w F 1 (.slice A' i c) i (xs.take i) := by
 rcases Nat.eq_zero_or_pos n with e | e
 ·obtain ⟨_, A'', c', hv, _, hm, _⟩ := h
  injection hv with _ _ h3
  subst h3
  have hi0 : i = 0 := by omega
  subst hi0
  exact ⟨by simp, _, _, rfl, Nat.zero_le _, hm, fun h => absurd h (by omega)⟩
 ·rw [hA e]
  have := h.take hi
  rwa [Nat.mul_one] at this
theorem exams_more {E : Eng} {T0 : Tr} {pre : List Nat} (hE : E.Ok) (hT : T0.WF) (hv : E.vars ≤ T0.vars) (hlt : ∀ i ∈ pre, i < E.cs.length) : (T0.exams E.cs pre).lits = runX E.cs T0.lits pre ∧ (T0.exams E.cs pre).L.length = (runX E.cs T0.lits pre).length ∧ (T0.exams E.cs pre).L.length ≤ T0.vars ∧ ∀ x ∈ runX E.cs T0.lits pre, x ≠ 0 ∧ -65536 ≤ x ∧ x ≤ 65536 := by
 have h := Tr.exams_is hE.cs pre T0 hT (fun c hc l hl => Nat.le_trans (hE.lits c hc l hl) hv) hlt
 have h1 := h.lits
 refine ⟨h1, by rw [← h1]; simp [Tr.lits], by have := h.wf.len; rw [h.vars] at this; exact this, fun x hx => ?_⟩
 rw [← h1] at hx
 obtain ⟨i, e, he, h2⟩ := Tr.mem_lits.1 hx
 have h3 := h.wf.lit e (List.mem_of_getElem? he)
 have h4 := h.wf.vars
 unfold Ent.v at h3
 rw [h2] at h3
 omega
theorem examined_told (N : Nat) (hN : 1 ≤ N) {te tt eb tb m : Nat} {es : Array MapEntry} {clock : Nat} {vl vs : Value} {ts : List (Value × Value × Value)} {E : Eng} {T0 : Tr} {Fe Ft : Nat → Prop} {w0 : World} {I : List (Fin E.cs.length) → World → Prop}
  (hI : ∀ pre W, I pre W → IterSt te tt eb tb m es clock vl vs ts E T0 Fe Ft (pre.map Fin.val) W) (hE : E.Ok) (hT : T0.WF) (hv : E.vars ≤ T0.vars) (hn : E.cs.length ≤ 1000000) :
  SeqTold Fence.wide N Tryz.prog 107 #[.pointer (some ⟨tt, 0, none⟩), .pointer (some ⟨te, 0, none⟩)] (fun i : Fin E.cs.length => #[.int .i64 (i.val : Int)]) (fun _ _ => True) I (fun xs => fineX E.cs T0.lits (xs.map Fin.val) ∧ ∀ j, j < E.cs.length → (cAt E.cs j).Calm (runX E.cs T0.lits (xs.map Fin.val))) (fun _ => True) w0 := by
 intro l J Jx W _ hJ hJI hY h0
 have hJI2 := fun pre W1 h => hI pre W1 (hJI pre W1 h)
 have hJI3 : ∀ (pre : List (Fin E.cs.length)) (x : Fin E.cs.length) (W1 : World), J (pre ++ [x]) W1 → IterSt te tt eb tb m es clock vl vs ts E T0 Fe Ft (pre.map Fin.val ++ [x.val]) W1 := fun pre x W1 h => by
  have := hJI2 _ _ h
  rwa [List.map_append] at this
 have hg : ∀ pre (A B : World), J pre A → Below A.heap.size A B → J pre B := fun pre A B h hb => hJ pre A B none h (Bl.grown hb) fun r e => by cases e
 have HS := hid (hJI2 [] W h0)
 have more := fun (pre : List Nat) => exams_more (pre := pre) hE hT hv
 have htv := hT.vars
 obtain ⟨nl, hnl⟩ : ∃ z, E.cs.length = z := ⟨_, rfl⟩
 obtain ⟨Al, cl, hvl, _⟩ := HS.o.eng.l.form
 rw [hnl] at hvl hn
 subst hvl
 have Hnl := hid hnl
 clear hnl
 obtain ⟨c1, c2, c3, c4, c5⟩ := HS.o.eng.cells
 refine callsIn_of_wp Tryz.func107 rfl trivial ?_ rfl
 simp only [Tryz.ntmps107, List.size_toArray, List.length_cons, List.length_nil, Nat.reduceAdd, Nat.reduceSub, Array.replicate_succ, Array.replicate_zero, List.push_toArray, List.append_toArray, List.nil_append, List.cons_append]
 have ct := HS.o.ct
 gi_wp2
 refine ⟨trivial, (callsIn_wide.2 (lits_any HS.o.tr)).mono ?_⟩
 rintro r W1 ⟨⟨u, rfl, ho⟩, b1⟩
 have hJ1 := hg [] W W1 h0 b1
 have HS1 := hid (hJI2 [] W1 hJ1)
 have hJc := hJ1
 have ce := HS1.o.ce
 obtain ⟨c1, c2, c3, c4, c5⟩ := HS1.o.eng.cells
 obtain ⟨A1, a1, rfl, ha1, _, hAg⟩ := ho.form
 obtain ⟨vsA, vsc, hvs, hvc, _, hvA⟩ := HS1.o.eng.seen.2
 subst hvs
 have hL0 : (Tr.exams E.cs T0 (([] : List (Fin E.cs.length)).map Fin.val)).L.length = T0.lits.length := by simp [Tr.exams, Tr.lits]
 have HL1 := hid (show Rd W1 (fun g => W.heap.size ≤ g) 1 (.slice A1 (Tr.exams E.cs T0 (([] : List (Fin E.cs.length)).map Fin.val)).L.length a1) (Tr.exams E.cs T0 (([] : List (Fin E.cs.length)).map Fin.val)).L.length (ints T0.lits) from ho.rd)
 obtain ⟨n1, hn1⟩ : ∃ z, (Tr.exams E.cs T0 (([] : List (Fin E.cs.length)).map Fin.val)).L.length = z := ⟨_, rfl⟩
 simp only [hn1] at ho ha1 hAg HL1 hL0 ⊢
 obtain ⟨n2, hn2⟩ : ∃ z, E.seen.length = z := ⟨_, rfl⟩
 rw [hn2] at c4 hvc hvA
 have Hn2 := hid hn2
 have Hl0 := hid hL0.symm
 clear ct hvA hn2 ho hL0 hvc
 gi_wp2
 refine wpIn_wide.2 ?_
 refine wp_region_held_drew (S := fun w' => w'.cell? ⟨te, 0, none⟩ = some (.pointer (some ⟨eb, 0, none⟩)) ∧ w'.cell? ⟨eb, 3, none⟩ = some (.slice vsA n2 vsc) ∧ w'.cell? ⟨eb, 4, none⟩ = some (.int .i64 E.done)) (by kernel_rfl) ⟨ce, c4, c5⟩ (fun hHeld => ?_)
 obtain ⟨W2, hWD⟩ : ∃ X, W1.drew = X := ⟨_, rfl⟩
 rw [hWD] at hHeld ⊢
 have hJc := hg _ _ W2 hJc (hWD ▸ Bl.drew (Below.refl _ _))
 have HL1 := hid (hWD ▸ HL1.o.below (Bl.drew (Below.refl _ _)))
 clear hWD
 refine tk 0 ?_
 refine tk 5 ?_
 refine tk 1 ?_
 refine tk 6 ?_
 refine tk 2 ?_
 refine tk 7 ?_
 refine tk 3 ?_
 refine tk 8 ?_
 refine tk 4 ?_
 refine rd1 9 fun K hK => ?_
 go_simp
 go_simp
 refine hK.out _ _ hHeld (fun hHeld => ?_)
 clear hK K
 refine rd1 10 fun K hK => ?_
 go_simp
 go_simp
 refine hK.out _ _ hHeld (fun hHeld => ?_)
 clear hK K
 refine wpAnyH_done (by kernel_rfl) ?_ _
 have HS2 := hid (hJI2 [] W2 hJc)
 have ce := HS2.o.ce
 obtain ⟨_, c2, _, c4, c5⟩ := HS2.o.eng.cells
 rw [Hn2.o] at c4
 gi_wp2
 by_cases hA : n1 < n2
 ·have y1 : (n1 : Int) < (n2 : Int) := by omega
  refine wpIn_wide.2 ?_
  refine wp_region_held_drew (S := fun w' => w'.cell? ⟨te, 0, none⟩ = some (.pointer (some ⟨eb, 0, none⟩)) ∧ w'.cell? ⟨eb, 3, none⟩ = some (.slice vsA n2 vsc) ∧ w'.cell? ⟨eb, 4, none⟩ = some (.int .i64 E.done)) (by kernel_rfl) ⟨ce, c4, c5⟩ (fun hHeld => ?_)
  obtain ⟨W2d, hWD⟩ : ∃ X, W2.drew = X := ⟨_, rfl⟩
  rw [hWD] at hHeld ⊢
  have hJc := hg _ _ W2d hJc (hWD ▸ Bl.drew (Below.refl _ _))
  clear hWD
  refine tk 0 ?_
  refine tk 2 ?_
  refine tk 1 ?_
  refine tk 3 ?_
  refine tk 4 ?_
  refine tn 5 ?_
  refine tn 6 ?_
  refine tn 8 ?_
  refine tn 7 ?_
  refine tn 9 ?_
  refine tn 10 ?_
  refine tn 11 ?_
  refine tn 12 ?_
  refine tn 13 ?_
  refine tk 14 ?_
  refine wpAnyH_done (by kernel_rfl) ?_ _
  obtain ⟨fr, hfr1⟩ : ∃ z : Nat, z = 0 := ⟨0, rfl⟩
  obtain ⟨fi, hfi1⟩ : ∃ z : Nat, z = 0 := ⟨0, rfl⟩
  have hSt := hid (show CalmTo E.cs fr T0.lits (· < fi) by rw [hfi1]; exact CalmTo.none _ _)
  have hfr := hid (show fr ≤ T0.lits.length by omega)
  have hfi := hid (show fi ≤ nl by omega)
  have Hfr1 := hid hfr1
  have Hfi1 := hid hfi1
  clear hfr1 hfi1
  gi_wp2
  gi_loopw [7] (fun iv wr => ∃ (k : Nat) (pre : List (Fin E.cs.length)), k ≤ nl ∧ iv = .int .i64 k ∧ Hid (J pre wr) ∧ Hid (CalmTo E.cs fr (runX E.cs T0.lits (pre.map Fin.val)) (· < k))) (fun iv _ => nl - (intOf iv).toNat)
  case atStart => exact ⟨fi, [], hfi.o, by rw [Hfi1.o] <;> rfl, hid hJc, hSt⟩
  case round =>
   obtain ⟨k, pre, hk, rfl, HJ, HC⟩ := hrel
   have HSr := hid (hJI2 pre wr HJ.o)
   have ce := HSr.o.ce
   have c2 := HSr.o.eng.cells.2.1
   by_cases hlt : k < nl
   ·have x1 : (k : Int) < (nl : Int) := by omega
    obtain ⟨fn, tmps, assign, body, hy, hR⟩ := hY pre ⟨k, by rw [Hnl.o]; exact hlt⟩ wr HJ.o
    try dsimp only at hy
    gi_wp2
    refine hR.mono ?_
    rintro e W3 (⟨rfl, hJ3, _⟩ | ⟨rfl, hJx3⟩)
    ·have hC3 := hid (CalmTo.stepI hE.cs hT.okX HC.o (Nat.le_trans hfr.o (runX_len _ _ _)) (hJI3 _ _ _ hJ3).lt (hJI3 _ _ _ hJ3).fine)
     gi_wp2
     go_roundw
     case rel => exact ⟨k + 1, _, by omega, by go_num, hid hJ3, hid (by rw [List.map_append]; exact hC3.o.weak fun j _ hj => show j < k ∨ j = k by omega)⟩
     case measure => simp [intOf]; omega
    ·gi_wp2
     refine bodyPost_ret (results_none rfl _ _ _) rfl ?_
     exact ⟨⟨_, rfl⟩, .inr ⟨_, trivial, hJx3⟩⟩
   ·have x1 : ¬ ((k : Int) < (nl : Int)) := by omega
    have HC2 := hid (HC.o.weak (q := fun _ => True) fun j hj _ => by rw [Hnl.o] at hj; omega)
    gi_wp2
    gi_loopw [5] (fun fv wr => ∃ (p : Nat) (pre : List (Fin E.cs.length)), fr ≤ p ∧ p ≤ (runX E.cs T0.lits (pre.map Fin.val)).length ∧ fv = .int .i64 p ∧ Hid (J pre wr) ∧ Hid (CalmTo E.cs p (runX E.cs T0.lits (pre.map Fin.val)) fun _ => True)) (fun fv _ => T0.vars + 1 - (intOf fv).toNat)
    case atStart => exact ⟨fr, pre, Nat.le_refl _, Nat.le_trans hfr.o (runX_len _ _ (pre.map Fin.val)), by rw [Hfr1.o] <;> rfl, HJ, HC2⟩
    case round =>
     obtain ⟨p, pre, hp, hpl, rfl, HJ, HC⟩ := hrel
     have HSr := hid (hJI2 pre wr HJ.o)
     have ct := HSr.o.ct
     gi_wp2
     refine ⟨trivial, (callsIn_wide.2 (lits_any HSr.o.tr)).mono ?_⟩
     rintro r W4 ⟨⟨u, rfl, ho⟩, b4⟩
     have hJ4 := hg _ _ W4 HJ.o b4
     obtain ⟨A4, a4, rfl, ha4, _, hAg4⟩ := ho.form
     have HL4 := hid ho.rd
     obtain ⟨hlit4, hlen4, hlv4, hxs4⟩ := more (pre.map Fin.val) HSr.o.lt
     obtain ⟨X, hX⟩ : ∃ X, runX E.cs T0.lits (pre.map Fin.val) = X := ⟨_, rfl⟩
     rw [hX] at hlit4 hpl HC hlen4 hxs4
     rw [hlit4] at HL4
     obtain ⟨n4, hn4⟩ : ∃ z, (T0.exams E.cs (pre.map Fin.val)).L.length = z := ⟨_, rfl⟩
     simp only [hn4] at ho ha4 hAg4 HL4 hlen4 hlv4 ⊢
     have HX := hid hX
     have HS4 := hid (hJI2 pre W4 hJ4)
     have ce := HS4.o.ce
     obtain ⟨_, c2, c3, _, _⟩ := HS4.o.eng.cells
     have hXl : X.length = n4 := by have := HL4.o.1; simpa [ints_length] using this
     clear ho hAg4 hlit4 ct hX hlen4
     by_cases hpn : p < n4
     ·have x2 : ¬ ((p : Int) ≥ (n4 : Int)) := by omega
      obtain ⟨gX, oX, rfl, _, hgX, eX⟩ := HL4.o.cell.2 p hpn
      obtain ⟨x, hx⟩ : ∃ x, nth X p = x := ⟨_, rfl⟩
      rw [hx] at eX
      have hxr : x ≠ 0 ∧ -65536 ≤ x ∧ x ≤ 65536 := by rw [← hx]; exact hxs4 _ (nth_mem (by omega))
      have hwx : IntKind.i64.wrap (-x) = -x := iw' (by omega) (by omega)
      obtain ⟨v, hlk0, hV0, hcase⟩ := HS4.o.eng.inn.look (-x)
      have hlook := fun w2 hw2 => hlk0 w2 122 3 23 hw2 Tryz.underlying122 Tryz.underlying3 (zero_ints w2)
      have hml := HS4.o.eng.inn.map
      obtain ⟨Av, cv, rfl, _⟩ := hV0.form
      have Hcase := hid hcase
      obtain ⟨ql, hql⟩ : ∃ z, (occF E.cs (-x)).length = z := ⟨_, rfl⟩
      have Hql := hid hql
      have hqb : ql ≤ 1000000 := by have := occF_len E.cs (-x); have := Hnl.o; omega
      have HCn := hid (HC.o.next (by omega))
      have Hx := hid hx
      rw [hql] at hlook Hcase
      clear hlk0 hV0 hcase hql hx
      have hJc := hJ4
      gi_wp2
      refine wpIn_wide.2 ?_
      refine wp_region_held_drew (S := fun w' => w'.cell? ⟨te, 0, none⟩ = some (.pointer (some ⟨eb, 0, none⟩)) ∧ w'.cell? ⟨eb, 2, none⟩ = some (.map (some m)) ∧ w'.heap[m]? = some (.map es clock) ∧ w'.cell? ⟨gX, oX + p, none⟩ = some (.int .i64 x)) (by kernel_rfl) ⟨ce, c3, hml, eX⟩ (fun hHeld => ?_)
      obtain ⟨WL, hWD⟩ : ∃ X, W4.drew = X := ⟨_, rfl⟩
      rw [hWD] at hHeld ⊢
      have hJc := hg _ _ WL hJc (hWD ▸ Bl.drew (Below.refl _ _))
      clear hWD
      refine tk 0 ?_
      refine tk 4 ?_
      refine tk 5 ?_
      refine tk 11 ?_
      refine tk 1 ?_
      refine tk 6 ?_
      refine tk 2 ?_
      refine tk 7 ?_
      refine tk 3 ?_
      refine tk 8 ?_
      refine tk 9 ?_
      refine tk 10 ?_
      refine wpAnyH_done (by kernel_rfl) ?_ _
      gi_wp2
      gi_loopw [69] (fun iv wr => ∃ (q : Nat) (pre : List (Fin E.cs.length)), q ≤ ql ∧ iv = .int .i64 q ∧ Hid (J pre wr) ∧ Hid (p < (runX E.cs T0.lits (pre.map Fin.val)).length ∧ nth (runX E.cs T0.lits (pre.map Fin.val)) p = x) ∧ Hid (CalmTo E.cs (p + 1) (runX E.cs T0.lits (pre.map Fin.val)) fun j => -x ∈ (cAt E.cs j).lits → j ∈ (occL E.cs (-x)).take q)) (fun iv _ => ql - (intOf iv).toNat)
      case atStart => exact ⟨0, pre, by omega, rfl, hid hJc, hid (by rw [HX.o]; exact ⟨by omega, Hx.o⟩), hid (by rw [HX.o]; exact HCn.o.weak fun j _ hj h => absurd (hj (by rw [← Hx.o]; exact h)) (by simp))⟩
      case round =>
       obtain ⟨q, pre, hq, rfl, HJ, HX2, HC⟩ := hrel
       by_cases hqn : q < ql
       ·have x3 : (q : Int) < (ql : Int) := by omega
        have HSr := hid (hJI2 pre wr HJ.o)
        have HO := hid (HSr.o.eng.inn.own_case (l := -x) (v := .slice Av ql cv) Hcase.o).rd
        rw [Hql.o] at HO
        obtain ⟨gO, oO, rfl, _, hgO, eO⟩ := HO.o.cell.2 q hqn
        obtain ⟨i, hi0, hi1⟩ := occAt (cs := E.cs) (l := -x) (q := q) (by rw [Hql.o]; exact hqn)
        rw [hi0] at eO
        have hin := (mem_occL.1 (List.mem_of_getElem? hi1)).1
        obtain ⟨fn, tmps, assign, body, hy, hR⟩ := hY pre ⟨i, hin⟩ wr HJ.o
        try dsimp only at hy
        gi_wp2
        refine hR.mono ?_
        rintro e W5 (⟨rfl, hJ5, _⟩ | ⟨rfl, hJx5⟩)
        ·have hC5 := hid (CalmTo.stepI hE.cs hT.okX HC.o HX2.o.1 (hJI3 _ _ _ hJ5).lt (hJI3 _ _ _ hJ5).fine)
         have hX5 := hid (keepAt (i := i) HX2.o.1 HX2.o.2)
         gi_wp2
         go_roundw
         case rel => exact ⟨q + 1, _, by omega, by go_num, hid hJ5, by rw [List.map_append]; exact hX5, hid (by rw [List.map_append]; exact hC5.o.weak fun j hj hj2 => takeOcc hi1 hj2)⟩
         case measure => simp [intOf]; omega
        ·gi_wp2
         refine bodyPost_ret (results_none rfl _ _ _) rfl ?_
         exact ⟨⟨_, rfl⟩, .inr ⟨_, trivial, hJx5⟩⟩
       ·have x3 : ¬ ((q : Int) < (ql : Int)) := by omega
        have HC3 := hid (HC.o.weak (q := fun _ => True) fun j hj _ h => allOcc (l := -x) (q := q) hj h (by rw [Hql.o]; omega))
        have hX2 := HX2.o.1
        gi_wp2
        go_roundw
        case rel => exact ⟨p + 1, pre, by omega, by omega, by go_num, HJ, HC3⟩
        case measure => simp [intOf]; omega
     ·have x2 : (p : Int) ≥ (n4 : Int) := by omega
      gi_wp2
      refine bodyPost_ret (results_none rfl _ _ _) rfl ?_
      exact ⟨⟨_, rfl⟩, .inl ⟨pre, ⟨HSr.o.fine, by rw [HX.o]; exact HC.o.all (by omega)⟩, hJ4⟩⟩
 ·have y1 : ¬ ((n1 : Int) < (n2 : Int)) := by omega
  obtain ⟨A5, hA5, hsl⟩ := ints_to (A := A1) (n := n1) (c := a1) (i := n2) (fun hp => by obtain ⟨g, e, _⟩ := hAg (by omega); exact ⟨g, 0, e⟩) (by omega) ha1
  have HU := hid (rd_to HL1.o (show n2 ≤ n1 by omega) hA5)
  rw [← ints_take] at HU
  have HV := hid HS2.o.eng.seen
  rw [Hn2.o] at HV
  obtain ⟨q, hq⟩ : ∃ q, decide (T0.lits.take n2 = E.seen) = q := ⟨_, rfl⟩
  have Hq := hid hq
  refine wpIn_wide.2 ?_
  refine wp_region_held_drew (S := fun w' => w'.cell? ⟨te, 0, none⟩ = some (.pointer (some ⟨eb, 0, none⟩)) ∧ w'.cell? ⟨eb, 3, none⟩ = some (.slice vsA n2 vsc) ∧ w'.cell? ⟨eb, 4, none⟩ = some (.int .i64 E.done)) (by kernel_rfl) ⟨ce, c4, c5⟩ (fun hHeld => ?_)
  obtain ⟨W2d, hWD⟩ : ∃ X, W2.drew = X := ⟨_, rfl⟩
  rw [hWD] at hHeld ⊢
  have hJc := hg _ _ W2d hJc (hWD ▸ Bl.drew (Below.refl _ _))
  have HU := hid (hWD ▸ HU.o.below (Bl.drew (Below.refl _ _)))
  have HV := hid (hWD ▸ HV.o.below (Bl.drew (Below.refl _ _)))
  clear hWD
  refine tk 0 ?_
  refine tk 2 ?_
  refine tk 1 ?_
  refine tk 3 ?_
  refine tk 4 ?_
  refine tk 5 ?_
  refine tk 6 ?_
  refine tk 8 ?_
  refine tk 7 ?_
  refine tk 9 ?_
  refine tk 10 ?_
  refine tk 11 ?_
  refine rd1 12 fun K hK => ?_
  go_simp
  go_simp
  refine (equal_ints HU.o HV.o).mono ?_
  rintro r W3 ⟨rfl, b3⟩
  rw [hq]
  have hJc := hg _ _ W3 hJc b3
  refine hK.out _ _ ⟨keep_cell hHeld.1 b3, keep_cell hHeld.2.1 b3, keep_cell hHeld.2.2 b3⟩ (fun hHeld => ?_)
  clear hK K
  clear b3
  refine tk 13 ?_
  refine tk 14 ?_
  refine wpAnyH_done (by kernel_rfl) ?_ _
  cases q with
  | false =>
   obtain ⟨fr, hfr1⟩ : ∃ z : Nat, z = 0 := ⟨0, rfl⟩
   obtain ⟨fi, hfi1⟩ : ∃ z : Nat, z = 0 := ⟨0, rfl⟩
   have hSt := hid (show CalmTo E.cs fr T0.lits (· < fi) by rw [hfi1]; exact CalmTo.none _ _)
   have hfr := hid (show fr ≤ T0.lits.length by omega)
   have hfi := hid (show fi ≤ nl by omega)
   have Hfr1 := hid hfr1
   have Hfi1 := hid hfi1
   clear hfr1 hfi1
   gi_wp2
   gi_loopw [7] (fun iv wr => ∃ (k : Nat) (pre : List (Fin E.cs.length)), k ≤ nl ∧ iv = .int .i64 k ∧ Hid (J pre wr) ∧ Hid (CalmTo E.cs fr (runX E.cs T0.lits (pre.map Fin.val)) (· < k))) (fun iv _ => nl - (intOf iv).toNat)
   case atStart => exact ⟨fi, [], hfi.o, by rw [Hfi1.o] <;> rfl, hid hJc, hSt⟩
   case round =>
    obtain ⟨k, pre, hk, rfl, HJ, HC⟩ := hrel
    have HSr := hid (hJI2 pre wr HJ.o)
    have ce := HSr.o.ce
    have c2 := HSr.o.eng.cells.2.1
    by_cases hlt : k < nl
    ·have x1 : (k : Int) < (nl : Int) := by omega
     obtain ⟨fn, tmps, assign, body, hy, hR⟩ := hY pre ⟨k, by rw [Hnl.o]; exact hlt⟩ wr HJ.o
     try dsimp only at hy
     gi_wp2
     refine hR.mono ?_
     rintro e W3 (⟨rfl, hJ3, _⟩ | ⟨rfl, hJx3⟩)
     ·have hC3 := hid (CalmTo.stepI hE.cs hT.okX HC.o (Nat.le_trans hfr.o (runX_len _ _ _)) (hJI3 _ _ _ hJ3).lt (hJI3 _ _ _ hJ3).fine)
      gi_wp2
      go_roundw
      case rel => exact ⟨k + 1, _, by omega, by go_num, hid hJ3, hid (by rw [List.map_append]; exact hC3.o.weak fun j _ hj => show j < k ∨ j = k by omega)⟩
      case measure => simp [intOf]; omega
     ·gi_wp2
      refine bodyPost_ret (results_none rfl _ _ _) rfl ?_
      exact ⟨⟨_, rfl⟩, .inr ⟨_, trivial, hJx3⟩⟩
    ·have x1 : ¬ ((k : Int) < (nl : Int)) := by omega
     have HC2 := hid (HC.o.weak (q := fun _ => True) fun j hj _ => by rw [Hnl.o] at hj; omega)
     gi_wp2
     gi_loopw [5] (fun fv wr => ∃ (p : Nat) (pre : List (Fin E.cs.length)), fr ≤ p ∧ p ≤ (runX E.cs T0.lits (pre.map Fin.val)).length ∧ fv = .int .i64 p ∧ Hid (J pre wr) ∧ Hid (CalmTo E.cs p (runX E.cs T0.lits (pre.map Fin.val)) fun _ => True)) (fun fv _ => T0.vars + 1 - (intOf fv).toNat)
     case atStart => exact ⟨fr, pre, Nat.le_refl _, Nat.le_trans hfr.o (runX_len _ _ (pre.map Fin.val)), by rw [Hfr1.o] <;> rfl, HJ, HC2⟩
     case round =>
      obtain ⟨p, pre, hp, hpl, rfl, HJ, HC⟩ := hrel
      have HSr := hid (hJI2 pre wr HJ.o)
      have ct := HSr.o.ct
      gi_wp2
      refine ⟨trivial, (callsIn_wide.2 (lits_any HSr.o.tr)).mono ?_⟩
      rintro r W4 ⟨⟨u, rfl, ho⟩, b4⟩
      have hJ4 := hg _ _ W4 HJ.o b4
      obtain ⟨A4, a4, rfl, ha4, _, hAg4⟩ := ho.form
      have HL4 := hid ho.rd
      obtain ⟨hlit4, hlen4, hlv4, hxs4⟩ := more (pre.map Fin.val) HSr.o.lt
      obtain ⟨X, hX⟩ : ∃ X, runX E.cs T0.lits (pre.map Fin.val) = X := ⟨_, rfl⟩
      rw [hX] at hlit4 hpl HC hlen4 hxs4
      rw [hlit4] at HL4
      obtain ⟨n4, hn4⟩ : ∃ z, (T0.exams E.cs (pre.map Fin.val)).L.length = z := ⟨_, rfl⟩
      simp only [hn4] at ho ha4 hAg4 HL4 hlen4 hlv4 ⊢
      have HX := hid hX
      have HS4 := hid (hJI2 pre W4 hJ4)
      have ce := HS4.o.ce
      obtain ⟨_, c2, c3, _, _⟩ := HS4.o.eng.cells
      have hXl : X.length = n4 := by have := HL4.o.1; simpa [ints_length] using this
      clear ho hAg4 hlit4 ct hX hlen4
      by_cases hpn : p < n4
      ·have x2 : ¬ ((p : Int) ≥ (n4 : Int)) := by omega
       obtain ⟨gX, oX, rfl, _, hgX, eX⟩ := HL4.o.cell.2 p hpn
       obtain ⟨x, hx⟩ : ∃ x, nth X p = x := ⟨_, rfl⟩
       rw [hx] at eX
       have hxr : x ≠ 0 ∧ -65536 ≤ x ∧ x ≤ 65536 := by rw [← hx]; exact hxs4 _ (nth_mem (by omega))
       have hwx : IntKind.i64.wrap (-x) = -x := iw' (by omega) (by omega)
       obtain ⟨v, hlk0, hV0, hcase⟩ := HS4.o.eng.inn.look (-x)
       have hlook := fun w2 hw2 => hlk0 w2 122 3 23 hw2 Tryz.underlying122 Tryz.underlying3 (zero_ints w2)
       have hml := HS4.o.eng.inn.map
       obtain ⟨Av, cv, rfl, _⟩ := hV0.form
       have Hcase := hid hcase
       obtain ⟨ql, hql⟩ : ∃ z, (occF E.cs (-x)).length = z := ⟨_, rfl⟩
       have Hql := hid hql
       have hqb : ql ≤ 1000000 := by have := occF_len E.cs (-x); have := Hnl.o; omega
       have HCn := hid (HC.o.next (by omega))
       have Hx := hid hx
       rw [hql] at hlook Hcase
       clear hlk0 hV0 hcase hql hx
       have hJc := hJ4
       gi_wp2
       refine wpIn_wide.2 ?_
       refine wp_region_held_drew (S := fun w' => w'.cell? ⟨te, 0, none⟩ = some (.pointer (some ⟨eb, 0, none⟩)) ∧ w'.cell? ⟨eb, 2, none⟩ = some (.map (some m)) ∧ w'.heap[m]? = some (.map es clock) ∧ w'.cell? ⟨gX, oX + p, none⟩ = some (.int .i64 x)) (by kernel_rfl) ⟨ce, c3, hml, eX⟩ (fun hHeld => ?_)
       obtain ⟨WL, hWD⟩ : ∃ X, W4.drew = X := ⟨_, rfl⟩
       rw [hWD] at hHeld ⊢
       have hJc := hg _ _ WL hJc (hWD ▸ Bl.drew (Below.refl _ _))
       clear hWD
       refine tk 0 ?_
       refine tk 4 ?_
       refine tk 5 ?_
       refine tk 11 ?_
       refine tk 1 ?_
       refine tk 6 ?_
       refine tk 2 ?_
       refine tk 7 ?_
       refine tk 3 ?_
       refine tk 8 ?_
       refine tk 9 ?_
       refine tk 10 ?_
       refine wpAnyH_done (by kernel_rfl) ?_ _
       gi_wp2
       gi_loopw [69] (fun iv wr => ∃ (q : Nat) (pre : List (Fin E.cs.length)), q ≤ ql ∧ iv = .int .i64 q ∧ Hid (J pre wr) ∧ Hid (p < (runX E.cs T0.lits (pre.map Fin.val)).length ∧ nth (runX E.cs T0.lits (pre.map Fin.val)) p = x) ∧ Hid (CalmTo E.cs (p + 1) (runX E.cs T0.lits (pre.map Fin.val)) fun j => -x ∈ (cAt E.cs j).lits → j ∈ (occL E.cs (-x)).take q)) (fun iv _ => ql - (intOf iv).toNat)
       case atStart => exact ⟨0, pre, by omega, rfl, hid hJc, hid (by rw [HX.o]; exact ⟨by omega, Hx.o⟩), hid (by rw [HX.o]; exact HCn.o.weak fun j _ hj h => absurd (hj (by rw [← Hx.o]; exact h)) (by simp))⟩
       case round =>
        obtain ⟨q, pre, hq, rfl, HJ, HX2, HC⟩ := hrel
        by_cases hqn : q < ql
        ·have x3 : (q : Int) < (ql : Int) := by omega
         have HSr := hid (hJI2 pre wr HJ.o)
         have HO := hid (HSr.o.eng.inn.own_case (l := -x) (v := .slice Av ql cv) Hcase.o).rd
         rw [Hql.o] at HO
         obtain ⟨gO, oO, rfl, _, hgO, eO⟩ := HO.o.cell.2 q hqn
         obtain ⟨i, hi0, hi1⟩ := occAt (cs := E.cs) (l := -x) (q := q) (by rw [Hql.o]; exact hqn)
         rw [hi0] at eO
         have hin := (mem_occL.1 (List.mem_of_getElem? hi1)).1
         obtain ⟨fn, tmps, assign, body, hy, hR⟩ := hY pre ⟨i, hin⟩ wr HJ.o
         try dsimp only at hy
         gi_wp2
         refine hR.mono ?_
         rintro e W5 (⟨rfl, hJ5, _⟩ | ⟨rfl, hJx5⟩)
         ·have hC5 := hid (CalmTo.stepI hE.cs hT.okX HC.o HX2.o.1 (hJI3 _ _ _ hJ5).lt (hJI3 _ _ _ hJ5).fine)
          have hX5 := hid (keepAt (i := i) HX2.o.1 HX2.o.2)
          gi_wp2
          go_roundw
          case rel => exact ⟨q + 1, _, by omega, by go_num, hid hJ5, by rw [List.map_append]; exact hX5, hid (by rw [List.map_append]; exact hC5.o.weak fun j hj hj2 => takeOcc hi1 hj2)⟩
          case measure => simp [intOf]; omega
         ·gi_wp2
          refine bodyPost_ret (results_none rfl _ _ _) rfl ?_
          exact ⟨⟨_, rfl⟩, .inr ⟨_, trivial, hJx5⟩⟩
        ·have x3 : ¬ ((q : Int) < (ql : Int)) := by omega
         have HC3 := hid (HC.o.weak (q := fun _ => True) fun j hj _ h => allOcc (l := -x) (q := q) hj h (by rw [Hql.o]; omega))
         have hX2 := HX2.o.1
         gi_wp2
         go_roundw
         case rel => exact ⟨p + 1, pre, by omega, by omega, by go_num, HJ, HC3⟩
         case measure => simp [intOf]; omega
      ·have x2 : (p : Int) ≥ (n4 : Int) := by omega
       gi_wp2
       refine bodyPost_ret (results_none rfl _ _ _) rfl ?_
       exact ⟨⟨_, rfl⟩, .inl ⟨pre, ⟨HSr.o.fine, by rw [HX.o]; exact HC.o.all (by omega)⟩, hJ4⟩⟩
  | true =>
   obtain ⟨fr, hfr1⟩ : ∃ z : Nat, z = n2 := ⟨_, rfl⟩
   obtain ⟨fi, hfi1⟩ : ∃ z : Nat, z = E.done := ⟨_, rfl⟩
   have heq := of_decide_eq_true Hq.o
   have hSt := hid (show CalmTo E.cs fr T0.lits (· < fi) by rw [hfr1, hfi1]; exact CalmTo.start hT.okX fun j hj hd => by rw [heq]; exact hE.calm j hj hd)
   have hfr := hid (show fr ≤ T0.lits.length by rw [hfr1, Hl0.o]; omega)
   have hfi := hid (show fi ≤ nl by rw [hfi1]; have := hE.done; have := Hnl.o; omega)
   have Hfr1 := hid hfr1
   have Hfi1 := hid hfi1
   clear hfr1 hfi1 heq
   gi_wp2
   gi_loopw [7] (fun iv wr => ∃ (k : Nat) (pre : List (Fin E.cs.length)), k ≤ nl ∧ iv = .int .i64 k ∧ Hid (J pre wr) ∧ Hid (CalmTo E.cs fr (runX E.cs T0.lits (pre.map Fin.val)) (· < k))) (fun iv _ => nl - (intOf iv).toNat)
   case atStart => exact ⟨fi, [], hfi.o, by rw [Hfi1.o] <;> rfl, hid hJc, hSt⟩
   case round =>
    obtain ⟨k, pre, hk, rfl, HJ, HC⟩ := hrel
    have HSr := hid (hJI2 pre wr HJ.o)
    have ce := HSr.o.ce
    have c2 := HSr.o.eng.cells.2.1
    by_cases hlt : k < nl
    ·have x1 : (k : Int) < (nl : Int) := by omega
     obtain ⟨fn, tmps, assign, body, hy, hR⟩ := hY pre ⟨k, by rw [Hnl.o]; exact hlt⟩ wr HJ.o
     try dsimp only at hy
     gi_wp2
     refine hR.mono ?_
     rintro e W3 (⟨rfl, hJ3, _⟩ | ⟨rfl, hJx3⟩)
     ·have hC3 := hid (CalmTo.stepI hE.cs hT.okX HC.o (Nat.le_trans hfr.o (runX_len _ _ _)) (hJI3 _ _ _ hJ3).lt (hJI3 _ _ _ hJ3).fine)
      gi_wp2
      go_roundw
      case rel => exact ⟨k + 1, _, by omega, by go_num, hid hJ3, hid (by rw [List.map_append]; exact hC3.o.weak fun j _ hj => show j < k ∨ j = k by omega)⟩
      case measure => simp [intOf]; omega
     ·gi_wp2
      refine bodyPost_ret (results_none rfl _ _ _) rfl ?_
      exact ⟨⟨_, rfl⟩, .inr ⟨_, trivial, hJx3⟩⟩
    ·have x1 : ¬ ((k : Int) < (nl : Int)) := by omega
     have HC2 := hid (HC.o.weak (q := fun _ => True) fun j hj _ => by rw [Hnl.o] at hj; omega)
     gi_wp2
     gi_loopw [5] (fun fv wr => ∃ (p : Nat) (pre : List (Fin E.cs.length)), fr ≤ p ∧ p ≤ (runX E.cs T0.lits (pre.map Fin.val)).length ∧ fv = .int .i64 p ∧ Hid (J pre wr) ∧ Hid (CalmTo E.cs p (runX E.cs T0.lits (pre.map Fin.val)) fun _ => True)) (fun fv _ => T0.vars + 1 - (intOf fv).toNat)
     case atStart => exact ⟨fr, pre, Nat.le_refl _, Nat.le_trans hfr.o (runX_len _ _ (pre.map Fin.val)), by rw [Hfr1.o] <;> rfl, HJ, HC2⟩
     case round =>
      obtain ⟨p, pre, hp, hpl, rfl, HJ, HC⟩ := hrel
      have HSr := hid (hJI2 pre wr HJ.o)
      have ct := HSr.o.ct
      gi_wp2
      refine ⟨trivial, (callsIn_wide.2 (lits_any HSr.o.tr)).mono ?_⟩
      rintro r W4 ⟨⟨u, rfl, ho⟩, b4⟩
      have hJ4 := hg _ _ W4 HJ.o b4
      obtain ⟨A4, a4, rfl, ha4, _, hAg4⟩ := ho.form
      have HL4 := hid ho.rd
      obtain ⟨hlit4, hlen4, hlv4, hxs4⟩ := more (pre.map Fin.val) HSr.o.lt
      obtain ⟨X, hX⟩ : ∃ X, runX E.cs T0.lits (pre.map Fin.val) = X := ⟨_, rfl⟩
      rw [hX] at hlit4 hpl HC hlen4 hxs4
      rw [hlit4] at HL4
      obtain ⟨n4, hn4⟩ : ∃ z, (T0.exams E.cs (pre.map Fin.val)).L.length = z := ⟨_, rfl⟩
      simp only [hn4] at ho ha4 hAg4 HL4 hlen4 hlv4 ⊢
      have HX := hid hX
      have HS4 := hid (hJI2 pre W4 hJ4)
      have ce := HS4.o.ce
      obtain ⟨_, c2, c3, _, _⟩ := HS4.o.eng.cells
      have hXl : X.length = n4 := by have := HL4.o.1; simpa [ints_length] using this
      clear ho hAg4 hlit4 ct hX hlen4
      by_cases hpn : p < n4
      ·have x2 : ¬ ((p : Int) ≥ (n4 : Int)) := by omega
       obtain ⟨gX, oX, rfl, _, hgX, eX⟩ := HL4.o.cell.2 p hpn
       obtain ⟨x, hx⟩ : ∃ x, nth X p = x := ⟨_, rfl⟩
       rw [hx] at eX
       have hxr : x ≠ 0 ∧ -65536 ≤ x ∧ x ≤ 65536 := by rw [← hx]; exact hxs4 _ (nth_mem (by omega))
       have hwx : IntKind.i64.wrap (-x) = -x := iw' (by omega) (by omega)
       obtain ⟨v, hlk0, hV0, hcase⟩ := HS4.o.eng.inn.look (-x)
       have hlook := fun w2 hw2 => hlk0 w2 122 3 23 hw2 Tryz.underlying122 Tryz.underlying3 (zero_ints w2)
       have hml := HS4.o.eng.inn.map
       obtain ⟨Av, cv, rfl, _⟩ := hV0.form
       have Hcase := hid hcase
       obtain ⟨ql, hql⟩ : ∃ z, (occF E.cs (-x)).length = z := ⟨_, rfl⟩
       have Hql := hid hql
       have hqb : ql ≤ 1000000 := by have := occF_len E.cs (-x); have := Hnl.o; omega
       have HCn := hid (HC.o.next (by omega))
       have Hx := hid hx
       rw [hql] at hlook Hcase
       clear hlk0 hV0 hcase hql hx
       have hJc := hJ4
       gi_wp2
       refine wpIn_wide.2 ?_
       refine wp_region_held_drew (S := fun w' => w'.cell? ⟨te, 0, none⟩ = some (.pointer (some ⟨eb, 0, none⟩)) ∧ w'.cell? ⟨eb, 2, none⟩ = some (.map (some m)) ∧ w'.heap[m]? = some (.map es clock) ∧ w'.cell? ⟨gX, oX + p, none⟩ = some (.int .i64 x)) (by kernel_rfl) ⟨ce, c3, hml, eX⟩ (fun hHeld => ?_)
       obtain ⟨WL, hWD⟩ : ∃ X, W4.drew = X := ⟨_, rfl⟩
       rw [hWD] at hHeld ⊢
       have hJc := hg _ _ WL hJc (hWD ▸ Bl.drew (Below.refl _ _))
       clear hWD
       refine tk 0 ?_
       refine tk 4 ?_
       refine tk 5 ?_
       refine tk 11 ?_
       refine tk 1 ?_
       refine tk 6 ?_
       refine tk 2 ?_
       refine tk 7 ?_
       refine tk 3 ?_
       refine tk 8 ?_
       refine tk 9 ?_
       refine tk 10 ?_
       refine wpAnyH_done (by kernel_rfl) ?_ _
       gi_wp2
       gi_loopw [69] (fun iv wr => ∃ (q : Nat) (pre : List (Fin E.cs.length)), q ≤ ql ∧ iv = .int .i64 q ∧ Hid (J pre wr) ∧ Hid (p < (runX E.cs T0.lits (pre.map Fin.val)).length ∧ nth (runX E.cs T0.lits (pre.map Fin.val)) p = x) ∧ Hid (CalmTo E.cs (p + 1) (runX E.cs T0.lits (pre.map Fin.val)) fun j => -x ∈ (cAt E.cs j).lits → j ∈ (occL E.cs (-x)).take q)) (fun iv _ => ql - (intOf iv).toNat)
       case atStart => exact ⟨0, pre, by omega, rfl, hid hJc, hid (by rw [HX.o]; exact ⟨by omega, Hx.o⟩), hid (by rw [HX.o]; exact HCn.o.weak fun j _ hj h => absurd (hj (by rw [← Hx.o]; exact h)) (by simp))⟩
       case round =>
        obtain ⟨q, pre, hq, rfl, HJ, HX2, HC⟩ := hrel
        by_cases hqn : q < ql
        ·have x3 : (q : Int) < (ql : Int) := by omega
         have HSr := hid (hJI2 pre wr HJ.o)
         have HO := hid (HSr.o.eng.inn.own_case (l := -x) (v := .slice Av ql cv) Hcase.o).rd
         rw [Hql.o] at HO
         obtain ⟨gO, oO, rfl, _, hgO, eO⟩ := HO.o.cell.2 q hqn
         obtain ⟨i, hi0, hi1⟩ := occAt (cs := E.cs) (l := -x) (q := q) (by rw [Hql.o]; exact hqn)
         rw [hi0] at eO
         have hin := (mem_occL.1 (List.mem_of_getElem? hi1)).1
         obtain ⟨fn, tmps, assign, body, hy, hR⟩ := hY pre ⟨i, hin⟩ wr HJ.o
         try dsimp only at hy
         gi_wp2
         refine hR.mono ?_
         rintro e W5 (⟨rfl, hJ5, _⟩ | ⟨rfl, hJx5⟩)
         ·have hC5 := hid (CalmTo.stepI hE.cs hT.okX HC.o HX2.o.1 (hJI3 _ _ _ hJ5).lt (hJI3 _ _ _ hJ5).fine)
          have hX5 := hid (keepAt (i := i) HX2.o.1 HX2.o.2)
          gi_wp2
          go_roundw
          case rel => exact ⟨q + 1, _, by omega, by go_num, hid hJ5, by rw [List.map_append]; exact hX5, hid (by rw [List.map_append]; exact hC5.o.weak fun j hj hj2 => takeOcc hi1 hj2)⟩
          case measure => simp [intOf]; omega
         ·gi_wp2
          refine bodyPost_ret (results_none rfl _ _ _) rfl ?_
          exact ⟨⟨_, rfl⟩, .inr ⟨_, trivial, hJx5⟩⟩
        ·have x3 : ¬ ((q : Int) < (ql : Int)) := by omega
         have HC3 := hid (HC.o.weak (q := fun _ => True) fun j hj _ h => allOcc (l := -x) (q := q) hj h (by rw [Hql.o]; omega))
         have hX2 := HX2.o.1
         gi_wp2
         go_roundw
         case rel => exact ⟨p + 1, pre, by omega, by omega, by go_num, HJ, HC3⟩
         case measure => simp [intOf]; omega
      ·have x2 : (p : Int) ≥ (n4 : Int) := by omega
       gi_wp2
       refine bodyPost_ret (results_none rfl _ _ _) rfl ?_
       exact ⟨⟨_, rfl⟩, .inl ⟨pre, ⟨HSr.o.fine, by rw [HX.o]; exact HC.o.all (by omega)⟩, hJ4⟩⟩
end
end Go.Proofs.YtcjmpobccbnpkaaGreat
