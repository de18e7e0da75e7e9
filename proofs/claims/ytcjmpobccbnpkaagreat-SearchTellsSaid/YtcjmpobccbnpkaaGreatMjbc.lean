/-
 Chapter 32: several texts in one (EnI).
-/
import Derived.Test.YtcjmpobccbnpkaaGreatMjbb
import Derived.Test.YtcjmpobccbnpkaaGreatMjav
import Derived.Test.YtcjmpobccbnpkaaGreatTk
import Derived.Test.YtcjmpobccbnpkaaGreatTkU
namespace Go.Proofs.YtcjmpobccbnpkaaGreat
section
open Go.RowKit
attribute [local go_sem] Oper.semAt_some
def calmQ (Q : Exit → Act → World → Prop) : Exit → Act → World → Prop
 | .normal, a, w => Q .normal a w
 | _, _, _ => False
theorem calmQ_imp {Q : Exit → Act → World → Prop} : ∀ e a w, calmQ Q e a w → Q e a w := fun e a w h => by cases e <;> first | exact h | exact h.elim
theorem wpIn_region_calm {P : Program} {ops : Array Oper} {Q : Exit → Act → World → Prop} {n : Nat} {S : World → Prop} {id : Nat} {a : Act} {w : World} (hm : P.follows .mixedOrders = true) (hS : S w.drew)
  (h : S w.drew → wpAnyH P .any ops (calmQ Q) S ops.size (Array.replicate ops.size false) a w.drew) : (Code.region id ops true).wpIn Fence.wide n P Q a w :=
 wpIn_wide.2 (wp_mono (wp_region_held_drew hm hS h) calmQ_imp)
theorem wpIn_region_calm_round {P : Program} {ops : Array Oper} {Q : Exit → Act → World → Prop} {n l : Nat} {S : World → Prop} {id : Nat} {a : Act} {w : World} (hm : P.follows .mixedOrders = true) (hd : noDefer ops = true) (hS : S w.drew)
  (h : S w.drew → wpAnyH P .any ops (calmQ Q) S ops.size (Array.replicate ops.size false) a w.drew) : (Code.region id ops true).wpIn (Fence.wide.inRound l) n P Q a w :=
 wpIn_mono (wpIn_region_round hm hd (fun ⟨_, _, h⟩ => h) (wpAny_of_held _ _ _ _ (h hS))) calmQ_imp
theorem wpIn_rangeFunc_told2 {α : Type} {F : Fence} {n : Nat} {P : Program} {g : Operand} {ps : Array Tmp} {assign body : Code} {Q : Exit → Act → World → Prop} {a : Act} {w : World}
  (hro : F.round = none) (h1 : 1 ≤ n) {gf : Nat} {lb : Array Value} (hg : a.eval g = .func (.func gf) #[] lb) (hFg : F.fn gf) (eg : ∀ args w, (callFunc gf args).run P w = .ok (.enter gf args) w)
  {encs : α → Array Value} {Kp : World → World → Prop} {S Sp : List α → Prop} {w0 : World} (I : List α → World → Prop) (Ix : Code → List α → World → Prop) (hseq : SeqTold F (n - 1) P gf lb encs Kp I S Sp w0)
  (hKt : ∀ {A B C : World}, Kp A B → Kp B C → Kp A C) (hKb : ∀ (W : World) (l : Nat) (o o' : Obj), w.heap.size ≤ l → W.heap[l]? = some o → o.isCells = false → o.isWalk = false → Kp W (W.putObj l o')) (hb0 : Below w0.heap.size w0 w) (hps : ∀ x, (encs x).size = ps.size)
  (hI : OwnBk w.heap.size I) (hIx : ∀ c, OwnBk w.heap.size (Ix c)) (h0 : I [] w)
  (hround : ∀ (l : Nat) (pre : List α) (x : α) (W : World) (K : Act → World → Prop), I pre W → (∀ a' W', KeepsBk w.heap.size W W' → Kp W W' → I pre W' →
    (∀ (l : Nat) (pre : List α) (W : World), w.heap.size ≤ l → (∃ r, W.heap[l]? = some (.loop r)) → I pre W → body.wpIn (F.inRound l) (n - 1 - 1) P (ownPostT w.heap.size Kp I Ix (pre ++ [x]) W) a' W) → K a' W') →
   assign.wpIn (F.inRound l) (n - 1 - 1) P (Exit.then K (fun _ _ _ => False)) { tmps := (ps.zip (encs x)).foldl (fun t (p, v) => t.setIfInBounds p v) a.tmps, defers := [] } W)
  (hdone : ∀ (D : Nat) (xs : List α) (W : World), w.heap.size ≤ D → S xs → I xs W → W.heap[D]? = some (.deferred (some [])) → Q .normal { a with defers := { target := .collected D, args := #[] } :: a.defers } W)
  (hstop : ∀ (D : Nat) (c : Code) (pre : List α) (W : World), w.heap.size ≤ D → Sp pre → Ix c pre W → W.heap[D]? = some (.deferred (some [])) → c.wpIn F n P Q { a with defers := { target := .collected D, args := #[] } :: a.defers } W) :
  (Code.rangeFunc g ps assign body).wpIn F n P Q a w :=
 wpIn_rangeFunc_told hro h1 hg hFg eg I Ix hseq hKt hKb hb0 hps hI hIx h0 (fun x a' _ => ∀ (l : Nat) (pre : List α) (W : World), w.heap.size ≤ l → (∃ r, W.heap[l]? = some (.loop r)) → I pre W → body.wpIn (F.inRound l) (n - 1 - 1) P (ownPostT w.heap.size Kp I Ix (pre ++ [x]) W) a' W)
  (fun _ _ _ _ _ _ h _ _ => h) hround (fun l pre _ _ W hl hr hI hA => hA l pre W hl hr hI) hdone hstop
theorem OwnBk.comp {α β : Type} {B : Nat} {I : β → World → Prop} (h : OwnBk B I) (f : α → β) : OwnBk B fun a W => I (f a) W := fun s => h (f s)
theorem mem_nth1 {xs : List Int} {x : Int} (h : x ∈ xs) : ∃ i, i < xs.length ∧ nth xs i = x := by
 obtain ⟨i, hi, e⟩ := List.getElem_of_mem h
 exact ⟨i, hi, by rw [nth_eq hi]; exact e⟩
theorem imply_any2 {w : World} {F G : Nat → Prop} {b : Nat} {T : Tr} (ht : Trail w F b T) {l : Int} (hl : I64 l) {v : Value} {n : Nat} {r : List Int} (hv : Rd w G 1 v n (ints r)) (hn : n ≤ 17592186044416) (hr : ∀ x ∈ r, I64 x) :
  Calls Tryz.prog 91 #[.pointer (some ⟨b, 0, none⟩), .int .i64 l, v] w fun e w' => (∃ z, e = .returned (.int .i64 z)) ∧ Trail w' (fun g => F g ∨ w.heap.size ≤ g) b (T.imp l r) ∧ Mod F w w' := by
 by_cases hc : T.can l r = true
 ·refine (imply_ok ht hl hv hn hr hc).mono ?_
  rintro e w' ⟨rfl, h1, h2⟩
  exact ⟨⟨0, rfl⟩, by unfold Tr.imp; rw [if_pos hc]; exact h1, h2⟩
 ·refine (imply_bad ht hl hv hr (by simpa using hc)).mono ?_
  rintro e w' ⟨rfl, h1⟩
  exact ⟨⟨2, rfl⟩, by unfold Tr.imp; rw [if_neg hc]; exact (ht.below h1).mono fun g h => .inl h, Mod.of_below h1⟩
theorem results_c2 {fn : Func} {t u : Tmp} (h : fn.results = #[.cell t 23, .cell u 4]) {tmps : Array Value} {w : World} {a b : Addr} {x y : Value} (h1 : tmps.getD t undef = .pointer (some a)) (h2 : tmps.getD u undef = .pointer (some b)) (c1 : w.cell? a = some x) (c2 : w.cell? b = some y) :
  (results fn tmps).run Tryz.prog w = .ok (.tuple #[x, y]) w := by
 have e1 : tmps[t]?.getD undef = .pointer (some a) := by rw [← h1]; simp [Array.getD_eq_getD_getElem?]
 have e2 : tmps[u]?.getD undef = .pointer (some b) := by rw [← h2]; simp [Array.getD_eq_getD_getElem?]
 unfold results
 rw [h]
 go_simp
inductive PropTo (w : World) (F : Nat → Prop) (eb tb : Nat) (E : Eng) (T : Tr) (W : World) : Ending → Prop
 | calm (A : Option Addr) (c : Nat) (xs : List Nat) (h1 : ∀ i ∈ xs, i < E.cs.length) (h2 : fineX E.cs T.lits xs) (h3 : ∀ j, j < E.cs.length → (cAt E.cs j).Calm (runX E.cs T.lits xs))
   (h4 : EngTr W (fun g => F g ∨ w.heap.size ≤ g) eb tb { E with seen := runX E.cs T.lits xs, done := E.cs.length } (T.exams E.cs xs)) : PropTo w F eb tb E T W (.returned (.tuple #[.slice A 0 c, .bool false]))
 | bad (u : Value) (xs : List Nat) (i B : Nat) (h1 : ∀ i ∈ xs, i < E.cs.length) (h2 : fineX E.cs T.lits xs) (h3 : i < E.cs.length) (h4 : (cAt E.cs i).slackX (runX E.cs T.lits xs) < 0)
   (h5 : Own W (fun g => B ≤ g) 3 1 u ((cAt E.cs i).offX (runX E.cs T.lits xs)).length (ints ((cAt E.cs i).offX (runX E.cs T.lits xs)))) (h6 : w.heap.size ≤ B)
   (h7 : EngTr W (fun g => (F g ∨ w.heap.size ≤ g) ∧ g < B) eb tb { E with seen := [], done := 0 } (T.exams E.cs xs)) : PropTo w F eb tb E T W (.returned (.tuple #[u, .bool true]))
set_option maxRecDepth 100000 in
set_option maxHeartbeats 8000000 in
theorem prop_any {w : World} {F : Nat → Prop} {eb tb : Nat} {E : Eng} {T : Tr} (hET : EngTr w F eb tb E T) (hv : E.vars ≤ T.vars) (hn : E.cs.length ≤ 1000000) :
  Calls Tryz.prog 67 #[.pointer (some ⟨eb, 0, none⟩), .pointer (some ⟨tb, 0, none⟩)] w fun r w' => PropTo w F eb tb E T w' r ∧ Mod F w w' := by
 obtain ⟨Fe0, Ft0, hE, hT, hFe, hFt, hdis⟩ := hET
 obtain ⟨hEok, m, es, clock, vl, vs, ts, hEF⟩ := hE
 have hEF := hEF.restrict
 have hT := hT.restrict
 obtain ⟨sz, hsz⟩ : ∃ s, w.heap.size = s := ⟨_, rfl⟩
 rw [hsz] at hEF hT
 obtain ⟨Fe, hFe0⟩ : ∃ P : Nat → Prop, P = fun g => Fe0 g ∧ g < sz := ⟨_, rfl⟩
 obtain ⟨Ft, hFt0⟩ : ∃ P : Nat → Prop, P = fun g => Ft0 g ∧ g < sz := ⟨_, rfl⟩
 rw [← hFe0] at hEF
 rw [← hFt0] at hT
 have f1 := hid (show ∀ g, Fe g → F g ∧ g < sz by rw [hFe0]; exact fun g hg => ⟨hFe g hg.1, hg.2⟩)
 have f2 := hid (show ∀ g, Ft g → F g ∧ g < sz by rw [hFt0]; exact fun g hg => ⟨hFt g hg.1, hg.2⟩)
 have f3 := hid (show ∀ g, Fe g → ¬ Ft g by rw [hFe0, hFt0]; exact fun g hg h => hdis g hg.1 h.1)
 clear hFe hFt hdis hFe0 hFt0
 have hwf := hT.wf
 have htv := hwf.vars
 refine (callsIn_wide (n := 5)).1 ?_
 refine callsIn_of_wp_marks Tryz.func67 rfl trivial ?_ rfl
 simp only [Tryz.ntmps67, List.size_toArray, List.length_cons, List.length_nil, Nat.reduceAdd, Nat.reduceSub, Array.replicate_succ, Array.replicate_zero, List.push_toArray, List.append_toArray, List.nil_append, List.cons_append]
 gi_wp2_with fail
 obtain ⟨z1, z2, z3⟩ := allocs_get w [.cells #[.pointer (some ⟨eb, 0, none⟩)] 26, .cells #[.pointer (some ⟨tb, 0, none⟩)] 25, .cells #[.slice none 0 0] 23, .cells #[.bool false] 4]
 obtain ⟨W0, hW0⟩ : ∃ W0, allocs w [.cells #[.pointer (some ⟨eb, 0, none⟩)] 26, .cells #[.pointer (some ⟨tb, 0, none⟩)] 25, .cells #[.slice none 0 0] 23, .cells #[.bool false] 4] = W0 := ⟨_, rfl⟩
 rw [hW0] at z1 z2 z3
 unfold allocs at hW0
 simp only [List.foldl_cons, List.foldl_nil] at hW0
 try simp only [World.size_alloc]
 rw [hW0]
 simp only [List.length_cons, List.length_nil, Nat.zero_add, Nat.reduceAdd] at z1
 have k0 := Bx.of_block (z3 0 _ rfl)
 have k1 := Bx.of_block (z3 1 _ rfl)
 have k2 := Bx.of_block (z3 2 _ rfl)
 have k3 := Bx.of_block (z3 3 _ rfl)
 rw [Nat.add_zero] at k0
 rw [hsz] at z1 k0 k1 k2 k3
 have HEF := hid (hEF.keep z2.size fun g hg _ => z2.block g hg)
 have HT0 := hid (hT.below z2)
 have HE0 := hid (show Engine W0 Fe eb E from ⟨hEok, m, es, clock, vl, vs, ts, HEF.o⟩)
 have Bz := hid z2
 have v0 := HEF.o.cells.1
 have d0 := k0.1
 have d1 := k1.1
 have hnv : ¬ ((T.vars : Int) < (E.vars : Int)) := by omega
 have HEok := hid hEok
 have Hwf := hid hwf
 have Hk2 := hid k2
 have Hk3 := hid k3
 clear hW0 z3 hEF hT z2 k0 k1 k2 k3 hEok hwf
 try rw [hsz]
 refine wpIn_region_calm (S := fun w' => w'.cell? ⟨sz, 0, none⟩ = some (.pointer (some ⟨eb, 0, none⟩)) ∧ w'.cell? ⟨sz + 1, 0, none⟩ = some (.pointer (some ⟨tb, 0, none⟩)) ∧ w'.cell? ⟨eb, 0, none⟩ = some (.int .i64 E.vars) ∧ Hid (Below W0.heap.size W0 w')) (by kernel_rfl) ⟨d0, d1, v0, hid (Bl.drew (Below.refl _ _))⟩ (fun hHeld => ?_)
 obtain ⟨WD, hWD⟩ : ∃ X, W0.drew = X := ⟨_, rfl⟩
 rw [hWD] at hHeld ⊢
 clear hWD d0 d1 v0
 refine tk 0 ?_
 refine rd1 1 fun K hK => ?_
 go_simp
 go_simp
 refine (enone_any (HE0.o.below hHeld.2.2.2.o)).mono ?_
 rintro r W1 ⟨rfl, rfl⟩
 refine hK.out _ _ hHeld (fun hHeld => ?_)
 clear hK K
 refine tk 2 ?_
 refine tk 3 ?_
 refine tk 4 ?_
 refine tk 5 ?_
 refine tk 6 ?_
 refine tk 7 ?_
 refine tk 10 ?_
 refine tk 11 ?_
 refine tk 12 ?_
 refine tk 13 ?_
 refine rd1 8 fun K hK => ?_
 go_simp
 go_simp
 refine (assign_any (HT0.o.below hHeld.2.2.2.o)).mono ?_
 rintro r W1 ⟨⟨u, rfl, ho⟩, b1⟩
 obtain ⟨Au, au, rfl, _⟩ := ho.form
 refine hK.out _ _ ⟨keep_cell hHeld.1 b1, keep_cell hHeld.2.1 b1, keep_cell hHeld.2.2.1 b1, hid (hHeld.2.2.2.o.trans (b1.mono hHeld.2.2.2.o.size))⟩ (fun hHeld => ?_)
 clear hK K
 clear ho b1
 refine tk 9 ?_
 refine tk 14 ?_
 refine tk 15 ?_
 refine wpAnyH_done (by kernel_rfl) ?_ _
 have B1 := hid hHeld.2.2.2.o
 have d0 := hHeld.1
 have d1 := hHeld.2.1
 clear hHeld
 simp only [calmQ]
 have HEF := hid (HEF.o.keep B1.o.size fun g hg _ => B1.o.block g hg)
 have HT0 := hid (HT0.o.below B1.o)
 have k2 := Hk2.o.below B1.o
 have k3 := Hk3.o.below B1.o
 have Bw1 := hid (Bz.o.trans (B1.o.mono Bz.o.size))
 clear Hk2 Hk3 HE0
 gi_wp2_with fail
 refine ⟨trivial, (examined_in 4 eb tb W1).mono ?_⟩
 rintro e w' ⟨rfl, rfl⟩
 simp only []
 obtain ⟨te, hte⟩ : ∃ s, W1.heap.size = s := ⟨_, rfl⟩
 have hszte : sz + 4 ≤ te := by have := B1.o.size; omega
 obtain ⟨W2, hW2⟩ : ∃ X, (W1.alloc (.cells #[.pointer (some ⟨eb, 0, none⟩)] 26)).alloc (.cells #[.pointer (some ⟨tb, 0, none⟩)] 25) = X := ⟨_, rfl⟩
 obtain ⟨y1, y2, y3⟩ := allocs_get W1 [.cells #[.pointer (some ⟨eb, 0, none⟩)] 26, .cells #[.pointer (some ⟨tb, 0, none⟩)] 25]
 unfold allocs at y1 y2 y3
 simp only [List.foldl_cons, List.foldl_nil] at y1 y2 y3
 rw [hW2] at y1 y2 y3
 simp only [List.length_cons, List.length_nil, Nat.zero_add, Nat.reduceAdd] at y1
 have ce := (Bx.of_block (y3 0 _ rfl)).1
 have ct := (Bx.of_block (y3 1 _ rfl)).1
 rw [Nat.add_zero] at ce
 rw [hte] at y1 ce ct
 rw [hW2, hte]
 have HEF := hid (HEF.o.keep y2.size fun g hg _ => y2.block g hg)
 have HT0 := hid (HT0.o.below y2)
 have k2 := k2.below y2
 have k3 := k3.below y2
 have d0 := keep_cell d0 y2
 have d1 := keep_cell d1 y2
 have Bw2 := hid (Bw1.o.trans (y2.mono Bw1.o.size))
 clear hW2 y3 y2
 simp only [Nat.add_assoc, Nat.reduceAdd]
 obtain ⟨ZL, hZL⟩ : ∃ s, W2.heap.size = s := ⟨_, rfl⟩
 have hzt : te + 2 ≤ ZL := by omega
 clear y1
 have hFeZ : Hid (∀ g, Fe g → g < sz) := hid fun g hg => (f1.o g hg).2
 have hFtZ : Hid (∀ g, Ft g → g < sz) := hid fun g hg => (f2.o g hg).2
 have HI0 := hid (show PrSt sz te (te + 1) eb tb m es clock vl vs ts E T Fe Ft ZL W2 [] W2 from ⟨⟨ce, ct, HEF.o, HT0.o.mono fun g hg => .inl hg, trivial, fun _ h => by cases h⟩, d0, d1, k2, k3, Mod.refl _ _⟩)
 clear ce ct d0 d1 k2 k3
 gi_wp2_with fail
 obtain ⟨Al, cl, rfl, _⟩ := HEF.o.l.form
 refine' wpIn_rangeFunc_told2 (α := Fin E.cs.length) rfl (by omega) (gf := 107) (lb := #[.pointer (some ⟨te + 1, 0, none⟩), .pointer (some ⟨te, 0, none⟩)]) rfl trivial (enters_of Tryz.func107 (by kernel_rfl) rfl)
  (Kp := fun _ _ => True) (w0 := W2) (fun pre W => PrSt sz te (te + 1) eb tb m es clock (.slice Al E.cs.length cl) vs ts E T Fe Ft ZL W2 (pre.map Fin.val) W) (fun c _ W => c = .ret ∧ PrBad sz tb eb m es clock (.slice Al E.cs.length cl) ts E T Fe Ft ZL W2 W)
  (examined_told 4 (by omega) (fun pre W h => h.it) HEok.o Hwf.o hv hn) (fun _ _ => trivial) (fun _ _ _ _ _ _ _ _ => trivial) (Below.refl _ _) (fun _ => rfl)
  (hZL ▸ OwnBk.comp (PrSt.own (fun g hg => by have := hFeZ.o g hg; omega) (by omega)) _) (fun c => hZL ▸ OwnBk.comp (PrBad.own (fun g hg => by have := hFeZ.o g hg; omega) (by omega) c) (fun xs : List (Fin E.cs.length) => xs.map Fin.val)) HI0.o ?round ?done ?stop
 case round =>
  intro l pre x W K hI hK
  have HK := hid hK
  clear hK
  obtain ⟨i, hi⟩ : ∃ i, x.val = i := ⟨_, rfl⟩
  have hix : i < E.cs.length := by have := x.isLt; omega
  rw [hi]
  gi_wp2
  refine HK.o _ _ (KeepsBk.refl _ _) trivial hI ?_
  clear HK hI K W pre l
  rintro l pre W hl ⟨rr, hrr⟩ hI
  obtain ⟨xs, hxs⟩ : ∃ z, pre.map Fin.val = z := ⟨_, rfl⟩
  have Hpx := hid (show (pre ++ [x]).map Fin.val = xs ++ [i] by rw [List.map_append, hxs, ← hi]; rfl)
  simp only [hxs] at hI
  have HP := hid hI
  have hcl : PsRd W _ _ Al E.cs.length cl E.cs := ⟨ts, HP.o.it.eng.l.rd, HP.o.it.eng.ps, rfl⟩
  obtain ⟨gA, oA, p, A1, n1, c1, A2, n2, c2, rfl, hgF, hgl, hpk, e0, e1, e2, hp⟩ := hcl.cells hix
  have hpc := hid (show cAt E.cs i = p by simp [cAt, hpk])
  have d0 := HP.o.d0
  have d1 := HP.o.d1
  have b1 := HP.o.it.eng.cells.2.1
  have Hi := hid hi
  obtain ⟨X1, hX1, bX1, kX1, sX1⟩ := alloc_step W (.cells #[.slice A1 n1 c1, .slice A2 n2 c2, .int .i64 p.bound] 41)
  obtain ⟨o7, ho7⟩ : ∃ s, W.heap.size = s := ⟨_, rfl⟩
  rw [ho7] at kX1 sX1
  obtain ⟨q0, q1, q2⟩ := box3 kX1
  have Q0 := hid q0
  have d0 := keep_cell d0 bX1
  have d1' := keep_cell d1 bX1
  have HT1 := hid (HP.o.it.tr.below bX1)
  have HE1 := hid (HP.o.it.eng.keep bX1.size fun g hg _ => bX1.block g hg)
  have HPd := hid (hp.below bX1)
  have BX := hid bX1
  have hpok := hid (HEok.o.cs p (List.mem_of_getElem? hpk))
  have hpl := hid (HEok.o.lits p (List.mem_of_getElem? hpk))
  clear hcl hp hpk hI hi hxs bX1 kX1 sX1
  gi_wp2_with (refine ⟨trivial, ?_⟩; gi_at_call 89; refine (callsIn_round (state_any HT1.o HPd.o hpok.o)).mono ?_; rintro r X2 ⟨⟨u, rfl, hoff⟩, bX2⟩; obtain ⟨Au2, cu2, rfl, _⟩ := hoff.form; obtain ⟨S, hS⟩ : ∃ z, p.slackX (T.exams E.cs xs).lits = z := ⟨_, rfl⟩; rw [hS]; have HS := hid hS; have HO := hid hoff; have BX2 := hid bX2; have HT2 := hid (HT1.o.below bX2); have HE2 := hid (HE1.o.keep bX2.size fun g hg _ => bX2.block g hg); have HPd := hid (HPd.o.below bX2); replace q0 := keep_cell q0 bX2; replace q1 := keep_cell q1 bX2; replace q2 := keep_cell q2 bX2; replace d0 := keep_cell d0 bX2; replace d1' := keep_cell d1' bX2; clear hS hoff bX2 hX1; by_cases hneg : S < 0)
  ·skip
   have heb := hid (hFeZ.o _ HE2.o.he)
   have hZW := hid (show ZL ≤ o7 by have := HP.o.md.size; omega)
   have hsX := hid (show o7 ≤ X1.heap.size ∧ X1.heap.size ≤ X2.heap.size by have h1 := BX.o.size; have h2 := BX2.o.size; omega)
   refine wpIn_region_calm_round (S := fun w' => w'.cell? ⟨sz, 0, none⟩ = some (.pointer (some ⟨eb, 0, none⟩))) (by kernel_rfl) (by kernel_rfl) d0 (fun hHeld => ?_)
   obtain ⟨WD, hWD⟩ : ∃ X, X2.drew = X := ⟨_, rfl⟩
   have bWD : Below X2.heap.size X2 X2.drew := Bl.drew (Below.refl _ _)
   rw [hWD] at hHeld bWD ⊢
   have HEd := hid (HE2.o.keep bWD.size fun g hg _ => bWD.block g hg)
   have BD := hid bWD
   have e3 := HEd.o.cells.2.2.2.1
   have e4 := HEd.o.cells.2.2.2.2
   have z3 := HEd.o.froz 3
   have z4 := HEd.o.froz 4
   clear bWD hWD
   refine tk 0 ?_
   refine tk 1 ?_
   refine tk 2 ?_
   refine tk 3 ?_
   refine rd1 4 fun K hK => ?_
   go_simp
   go_simp
   refine hK.out _ _ ((World.cell?_setCell_far _ _ _ _ (by show eb ≠ sz; have := heb.o; omega)).trans hHeld) (fun hHeld => ?_)
   clear hK K
   refine tk 5 ?_
   refine tk 6 ?_
   refine rd1 7 fun K hK => ?_
   go_simp
   go_simp
   refine hK.out _ _ ((World.cell?_setCell_far _ _ _ _ (by show eb ≠ sz; have := heb.o; omega)).trans hHeld) (fun hHeld => ?_)
   clear hK K
   refine wpAnyH_done (by kernel_rfl) ?_ _
   simp only [calmQ]
   obtain ⟨hE3, hM3⟩ := HEd.o.mark (X := []) (d := 0) (G := fun _ => False) (vs' := .slice none 0 0) ((Own.nil WD (fun _ => False) 3 1).rd) (fun g _ h => h.elim)
   obtain ⟨X3, hX3⟩ : ∃ X, ((WD.setCell ⟨eb, 3, none⟩ (.slice none 0 0)).setCell ⟨eb, 4, none⟩ (.int .i64 0)) = X := ⟨_, rfl⟩
   rw [hX3]
   rw [show ((0 : Nat) : Int) = 0 from rfl, hX3] at hE3 hM3
   have r0 := (((HP.o.r0.below BX.o).below BX2.o).below BD.o).mod hM3 (by have := heb.o; omega)
   have r1 := (((HP.o.r1.below BX.o).below BX2.o).below BD.o).mod hM3 (by have := heb.o; omega)
   have r0c := r0.1
   have r0f := r0.2
   have r1c := r1.1
   have r1f := r1.2
   have HE3 := hid hE3
   have HM3 := hid hM3
   clear hE3 hM3 hX3 d0 d1 d1' q0 q1 q2 e0 e1 e2 e3 e4 z3 z4 hHeld
   gi_wp2_with fail
   obtain ⟨X4, hX4⟩ : ∃ X, ((X3.setCell ⟨sz + 2, 0, none⟩ (.slice Au2 (p.offX (T.exams E.cs xs).lits).length cu2)).setCell ⟨sz + 3, 0, none⟩ (.bool true)) = X := ⟨_, rfl⟩
   have hM4 : Mod (fun g => g = sz + 2 ∨ g = sz + 3) X3 X4 := hX4 ▸ ((Mod.refl _ _).setCell (p := ⟨sz + 2, 0, none⟩) (.inl (.inl rfl)) _).setCell (p := ⟨sz + 3, 0, none⟩) (.inl (.inr rfl)) _
   have r0' : Bx X4 (sz + 2) (.slice Au2 (p.offX (T.exams E.cs xs).lits).length cu2) := hX4 ▸ (r0.put _).far (by omega) _
   have r1' : Bx X4 (sz + 3) (.bool true) := hX4 ▸ (r1.far (by omega) _).put _
   rw [hX4]
   clear hX4
   have hlits : (T.exams E.cs xs).lits = runX E.cs T.lits xs := (exams_more HEok.o Hwf.o hv HP.o.it.lt).1
   have hMX : Mod (fun g => g = eb ∨ g = sz + 2 ∨ g = sz + 3) X2 X4 := ((Mod.of_below BD.o).trans (HM3.o.mono fun _ _ h => .inl (.inl h))).trans (hM4.mono fun _ _ h => .inl (.inr h))
   have hMW : Mod (fun g => g = eb ∨ g = sz + 2 ∨ g = sz + 3) W X4 := (Mod.of_below (BX.o.trans (BX2.o.mono BX.o.size))).trans (hMX.mono fun _ _ h => .inl h)
   have he := heb.o
   have hX := hsX.o
   have hZ := hZW.o
   have hFe := hFeZ.o
   have hFt := hFtZ.o
   refine ⟨KeepsBk.of_mod hMW (fun g hg hB => absurd hB (by rcases hg with e | e | e <;> omega)), rfl, ⟨⟨xs, i, _, X1.heap.size, HP.o.it.lt, HP.o.it.fine, hix, ?_, ?_, r0', ?_, ?_⟩, ?_, r1', ?_⟩⟩
   ·rw [hpc.o, ← hlits, HS.o]; exact hneg
   ·omega
   ·rw [hpc.o, ← hlits]
    exact HO.o.mod hMX fun g _ _ hF e => by have : X1.heap.size ≤ g := hF; rcases e with e | e | e <;> omega
   ·refine ((((HP.o.it.tr.restrict).below BX.o).below BX2.o).mod hMX fun g _ hF e => ?_).mono fun g hF => ⟨hF.1, by have := hF.2; omega⟩
    rcases hF.1 with h | h
    ·have := hFt g h
     rcases e with e | e | e
     ·exact f3.o eb HE2.o.he (e ▸ h)
     ·omega
     ·omega
    ·rcases e with e | e | e <;> omega
   ·exact (HE3.o.keep hM4.size fun g hg hF => hM4.block g hg fun e => by have := hFe g (hF.elim id False.elim); omega).mono fun g h => h.elim id False.elim
   ·exact (HP.o.md.mono fun _ _ h => .inl h).trans (hMW.mono fun g _ h => .inl (by
     rcases h with e | e | e
     ·exact .inr (.inl (e ▸ HE2.o.he))
     ·exact .inr (.inr (.inl e))
     ·exact .inr (.inr (.inr e))))
  ·have hS0 : 0 ≤ S := by omega
   obtain ⟨no, hno⟩ : ∃ z, (p.offX (T.exams E.cs xs).lits).length = z := ⟨_, rfl⟩
   simp only [hno] at HO ⊢
   have hnob : no ≤ 65536 := by
    have h1 := hpok.o.few
    have h2 : no ≤ p.lits.length := by rw [← hno]; exact List.length_filter_le _ _
    omega
   have Hno := hid hno
   clear hno
   obtain ⟨FN, hFN⟩ : ∃ P : Nat → Prop, P = fun g => ((Ft g ∨ ZL ≤ g) ∧ g < o7) ∧ NoBk W g := ⟨_, rfl⟩
   have HTW := hid (show Trail W FN tb (T.exams E.cs xs) by rw [hFN, ← ho7]; exact HP.o.it.tr.restrict.nobk)
   have HF := hid (show ∀ g, FN g → (Ft g ∨ ZL ≤ g) ∧ g < o7 ∧ NoBk W g by rw [hFN]; exact fun g h => ⟨h.1.1, h.1.2, h.2⟩)
   clear hFN
   have HTX := hid ((HTW.o.below BX.o).below BX2.o)
   have hZW := hid (show ZL ≤ o7 by have := HP.o.md.size; omega)
   have hsX := hid (show o7 < X1.heap.size ∧ X1.heap.size ≤ X2.heap.size by have h1 := World.block_lt_of_cell? _ _ Q0.o; have h2 := BX2.o.size; exact ⟨h1, h2⟩)
   have HFN := hid (show ∀ g, FN g → ¬ Fe g ∧ (g < sz ∨ ZL ≤ g) ∧ g < o7 from fun g hg => by
    obtain ⟨h1, h2, _⟩ := HF.o g hg
    rcases h1 with h | h
    ·exact ⟨fun e => f3.o g e h, .inl (hFtZ.o g h), h2⟩
    ·exact ⟨fun e => by have := hFeZ.o g e; omega, .inr h, h2⟩)
   have HNS := hid (show ¬ (FN (sz + 1) ∨ X2.heap.size ≤ sz + 1) from fun h => by
    have := hsX.o
    have := hZW.o
    rcases h with h | h
    ·have := (HFN.o _ h).2.1; omega
    ·omega)
   have hlc : p.lits.length = n1 := by have := HPd.o.lits.cell.1; omega
   have hcc : p.coefs.length = n2 := by have := HPd.o.cos.cell.1; omega
   have hn12 : n2 = n1 := by have := hpok.o.len; omega
   clear hcc
   subst n2
   have Hlc := hid hlc
   have hnf := hpok.o.few
   rw [hlc] at hnf
   clear hlc d0 e0 e1 e2 q0 q2 b1
   gi_loopw [57] (fun iv wr => ∃ k : Nat, k ≤ n1 ∧ iv = .int .i64 k ∧ Hid (Trail wr (fun g => FN g ∨ X2.heap.size ≤ g) tb ((T.exams E.cs xs).examTo p k)) ∧ Hid (Mod FN X2 wr)) (fun iv _ => n1 - (intOf iv).toNat)
   case atStart => exact ⟨0, Nat.zero_le _, rfl, hid (HTX.o.mono fun g h => .inl h), hid (Mod.refl _ _)⟩
   case round =>
    obtain ⟨k, hk, rfl, HT7, HM7⟩ := hrel
    have d1r : wr.cell? ⟨sz + 1, 0, none⟩ = some (.pointer (some ⟨tb, 0, none⟩)) := (World.cell?_of_block (HM7.o.block (sz + 1) (World.block_lt_of_cell? _ _ d1') fun e => HNS.o (.inl e))).trans d1'
    have q1r : wr.cell? ⟨o7, 1, none⟩ = some (.slice A2 n1 c2) := (World.cell?_of_block (HM7.o.block o7 (World.block_lt_of_cell? _ _ q1) fun e => by have := (HFN.o _ e).2.2; omega)).trans q1
    have HPr := hid (HPd.o.mod HM7.o fun g _ hG hf => (HFN.o g hf).1 hG.1)
    have HR7 := hid (HO.o.rd.mod HM7.o fun g _ hG hf => by have h1 : X1.heap.size ≤ g := hG; have := hsX.o; have := (HFN.o g hf).2.2; omega)
    have sM := HM7.o.size
    have hw7 := hid (show X2.heap.size ≤ wr.heap.size from sM)
    have HEx := hid (Tr.examTo_succ (T.exams E.cs xs) p k)
    by_cases hlt : k < n1
    ·have x1 : (k : Int) < (n1 : Int) := by omega
     obtain ⟨gL, oL, rfl, _, hgL, eL⟩ := HPr.o.lits.cell.2 k hlt
     obtain ⟨gC, oC, rfl, _, hgC, eC⟩ := HPr.o.cos.cell.2 k (by omega)
     obtain ⟨li, hli⟩ : ∃ z, nth p.lits k = z := ⟨_, rfl⟩
     obtain ⟨ci, hci⟩ : ∃ z, nth p.coefs k = z := ⟨_, rfl⟩
     have hli64 := hid (show I64 li by have := hpok.o.lit k (by rw [Hlc.o]; exact hlt); rw [hli] at this; unfold I64; omega)
     rw [hli] at eL
     rw [hci] at eC
     have HEx := hid (by have := HEx.o; rw [HS.o, hli, hci] at this; exact this)
     clear hli hci
     by_cases hgt : S < ci
     ·have t1 : ci > S := hgt
      obtain ⟨y, hy⟩ : ∃ z, ((T.exams E.cs xs).examTo p k).value li = z := ⟨_, rfl⟩
      have Hy := hid hy
      clear hy
      by_cases hy0 : y = 0
      ·subst hy0
       gi_wp2_with (refine ⟨trivial, ?_⟩; gi_at_call 90; refine (callsIn_round (value_any HT7.o hli64.o)).mono ?_; rw [Hy.o]; rintro r w4 ⟨rfl, b4⟩; have HT7 := hid (HT7.o.below b4); have HR7 := hid (HR7.o.below b4); have BV := hid b4; replace d1r := keep_cell d1r b4; clear b4)
       have hoff64 := hid (show ∀ x ∈ p.offX (T.exams E.cs xs).lits, I64 x from fun x hx => by
        have h1 := (mem_offX.1 hx).1
        obtain ⟨j, hj, e⟩ := mem_nth1 h1
        have := hpok.o.lit j hj
        rw [e] at this
        unfold I64; omega)
       have hw7 := hid (show X2.heap.size ≤ w4.heap.size from Nat.le_trans hw7.o BV.o.size)
       refine wpIn_region_calm_round (S := fun w' => w'.cell? ⟨sz + 1, 0, none⟩ = some (.pointer (some ⟨tb, 0, none⟩))) (by kernel_rfl) (by kernel_rfl) d1r (fun hHeld => ?_)
       obtain ⟨WD, hWD⟩ : ∃ X, w4.drew = X := ⟨_, rfl⟩
       have bWD : Below w4.heap.size w4 w4.drew := Bl.drew (Below.refl _ _)
       rw [hWD] at hHeld bWD ⊢
       have HT7 := hid (HT7.o.below bWD).restrict
       have HR7 := hid (HR7.o.below bWD)
       have BD := hid bWD
       clear bWD hWD d1r
       refine tk 0 ?_
       refine tk 1 ?_
       refine tk 2 ?_
       refine tk 4 ?_
       refine rd1 3 fun K hK => ?_
       go_simp
       go_simp
       obtain ⟨Y, hY, bY, kY, sY⟩ := alloc_step WD (.cells #[.int .i64 li] 3)
       rw [hY]
       refine hK.out _ _ (keep_cell hHeld bY) (fun hHeld => ?_)
       clear hK K
       have HV := hid (show Own Y (fun g => g = WD.heap.size) 3 1 (.slice (some ⟨WD.heap.size, 0, none⟩) 1 1) 1 (ints [li]) by rw [← hY]; exact own_one WD _)
       have HT7 := hid (HT7.o.below bY)
       have HR7 := hid (HR7.o.below bY)
       have BY := hid (BD.o.trans (bY.mono BD.o.size))
       have SY := hid (BD.o.size)
       clear hY bY kY sY
       refine rd1 5 fun K hK => ?_
       refine step_append_ints rfl _ _ rfl HV.o HR7.o rfl rfl (ints_one _) (by omega) ?_
       intro A3 c3 W3 ho3 hm3 hr3
       have hrw : ∀ g, row (.slice (some ⟨WD.heap.size, 0, none⟩) 1 1) g → g = WD.heap.size := fun g hg => (HV.o.row hg).1
       refine hK.out _ _ ((World.cell?_of_block (hm3.block (sz + 1) (World.block_lt_of_cell? _ _ hHeld) fun e => by have := hrw _ e; have := SY.o; have := hw7.o; have := hsX.o; have := hZW.o; omega)).trans hHeld) (fun hHeld => ?_)
       clear hK K
       have HT7 := hid (HT7.o.mod hm3 fun g _ hF e => by have := hrw _ e; have := hF.2; omega)
       have HQ := hid (show Rd W3 (fun g => g = WD.heap.size ∨ Y.heap.size ≤ g) 1 (.slice A3 (1 + no) c3) (1 + no) (ints (li :: p.offX (T.exams E.cs xs).lits)) from ho3.rd)
       have HM3 := hid (below_mod BY.o BY.o.size hm3 fun g hg => by rw [hrw g hg]; exact SY.o)
       clear ho3 hm3 hr3 hrw
       refine rd1 6 fun K hK => ?_
       go_simp
       go_simp
       refine (imply_any2 HT7.o hli64.o HQ.o (by omega) (by have := hoff64.o; have h2 := hli64.o; intro x hx; rcases List.mem_cons.1 hx with e | e; exact e ▸ h2; exact this x e)).mono ?_
       rintro e W6 ⟨⟨z6, rfl⟩, ht6, hm6⟩
       refine hK.out _ _ ((World.cell?_of_block (hm6.block (sz + 1) (World.block_lt_of_cell? _ _ hHeld) fun e => HNS.o e.1)).trans hHeld) (fun hHeld => ?_)
       clear hK K
       have HT6 := hid ht6
       have HM6 := hid hm6
       clear ht6 hm6
       refine wpAnyH_done (by kernel_rfl) ?_ _
       simp only [calmQ]
       have hM2 := hid ((HM7.o.trans (Mod.of_below (BV.o))).trans ((Mod.of_below (F := fun g => FN g ∨ X2.heap.size ≤ g) HM3.o).trans (HM6.o.mono fun g _ h => .inl h.1)))
       have hT2 := hid (HT6.o.mono (G := fun g => FN g ∨ X2.heap.size ≤ g) fun g h => h.elim (fun h => h.1) fun h => .inr (by have := HM3.o.size; have := hw7.o; omega))
       gi_wp2_with fail
       go_roundw
       case rel => exact ⟨k + 1, by omega, by go_num, hid (by rw [HEx.o, if_pos ⟨hgt, Hy.o⟩]; exact hT2.o), hM2⟩
       case measure => simp [intOf]; omega
      ·have t2 : (y == 0) = false := by simpa using hy0
       have t3 : (y = 0) = False := by simpa using hy0
       gi_wp2_with (refine ⟨trivial, ?_⟩; gi_at_call 90; refine (callsIn_round (value_any HT7.o hli64.o)).mono ?_; rw [Hy.o]; rintro r w4 ⟨rfl, b4⟩; have HT7 := hid (HT7.o.below b4); have BV := hid b4; clear b4)
       go_roundw
       case rel => exact ⟨k + 1, by omega, by go_num, hid (by rw [HEx.o, if_neg fun h => hy0 (by rw [← Hy.o]; exact h.2)]; exact HT7.o), hid (HM7.o.trans (Mod.of_below BV.o))⟩
       case measure => simp [intOf]; omega
     ·have t1 : ¬ (ci > S) := hgt
      gi_wp2
      refine ⟨trivial, ?_⟩
      gi_wp2
      go_roundw
      case rel => exact ⟨k + 1, by omega, by go_num, hid (by rw [HEx.o, if_neg fun h => absurd h.1 (by omega)]; exact HT7.o), HM7⟩
      case measure => simp [intOf]; omega
    ·have x1 : ¬ ((k : Int) < (n1 : Int)) := by omega
     obtain rfl : k = n1 := by omega
     gi_wp2
     have hlits : (T.exams E.cs xs).lits = runX E.cs T.lits xs := (exams_more HEok.o Hwf.o hv HP.o.it.lt).1
     have hMW : Mod FN W wr := (Mod.of_below (BX.o.trans (BX2.o.mono BX.o.size))).trans (HM7.o.mono fun _ _ h => .inl h)
     have hlo : W.heap.size ≤ X2.heap.size := Nat.le_trans BX.o.size BX2.o.size
     have hZ := hZW.o
     have keepc : ∀ (g : Nat) (o : Nat) (v : Value), W.cell? ⟨g, o, none⟩ = some v → sz ≤ g → g < ZL → wr.cell? ⟨g, o, none⟩ = some v := fun g o v h h1 h2 => (World.cell?_of_block (hMW.block g (World.block_lt_of_cell? _ _ h) fun e => by have := (HFN.o g e).2.1; omega)).trans h
     refine ⟨KeepsBk.of_mod hMW fun g hg _ => (HF.o g hg).2.2, trivial, ?_⟩
     show PrSt _ _ _ _ _ _ _ _ _ _ _ _ _ _ _ _ _ _ _
     rw [Hpx.o]
     refine ⟨⟨keepc _ _ _ HP.o.it.ce (by omega) (by omega), keepc _ _ _ HP.o.it.ct (by omega) (by omega), HP.o.it.eng.keep hMW.size fun g hg hF => hMW.block g hg fun e => (HFN.o g e).1 hF, ?_, fineX_snoc.2 ⟨HP.o.it.fine, by rw [hpc.o, ← hlits, HS.o]; exact hS0⟩, ?_⟩, keepc _ _ _ HP.o.d0 (by omega) (by omega), keepc _ _ _ HP.o.d1 (by omega) (by omega), HP.o.r0.mod hMW fun e => ?_, HP.o.r1.mod hMW fun e => ?_, ?_⟩
     ·rw [Tr.exams_snoc, hpc.o]
      unfold Tr.exam
      rw [Hlc.o]
      exact HT7.o.mono fun g h => h.elim (fun h => (HF.o g h).1) fun h => .inr (by omega)
     ·intro j hj
      rcases List.mem_append.1 hj with h | h
      ·exact HP.o.it.lt j h
      ·rw [List.mem_singleton.1 h]; exact hix
     ·have := (HFN.o _ e).2.1; omega
     ·have := (HFN.o _ e).2.1; omega
     ·exact HP.o.md.trans (hMW.mono fun g _ h => (HF.o g h).1.imp id fun h => by omega)
 case done =>
  rintro D ys W hD ⟨hys1, hys2⟩ hI hDk
  obtain ⟨xs, hxs⟩ : ∃ z, ys.map Fin.val = z := ⟨_, rfl⟩
  simp only [hxs] at hys1 hys2 hI
  have HP := hid hI
  have Hys1 := hid hys1
  have Hys2 := hid hys2
  have HDk := hid hDk
  rw [hZL] at hD
  have d0 := HP.o.d0
  have d1 := HP.o.d1
  have b1 := HP.o.it.eng.cells.2.1
  clear hI hys1 hys2 hxs hDk
  gi_wp2_with fail
  refine wpIn_region_calm (S := fun w' => w'.cell? ⟨sz, 0, none⟩ = some (.pointer (some ⟨eb, 0, none⟩)) ∧ w'.cell? ⟨sz + 1, 0, none⟩ = some (.pointer (some ⟨tb, 0, none⟩)) ∧ w'.cell? ⟨eb, 1, none⟩ = some (.slice Al E.cs.length cl)) (by kernel_rfl) ⟨d0, d1, b1⟩ (fun hHeld => ?_)
  obtain ⟨WD, hWD⟩ : ∃ X, W.drew = X := ⟨_, rfl⟩
  have bWD : Below W.heap.size W W.drew := Bl.drew (Below.refl _ _)
  rw [hWD] at hHeld bWD ⊢
  have HTd := hid (HP.o.it.tr.below bWD)
  have HEd := hid (HP.o.it.eng.keep bWD.size fun g hg _ => bWD.block g hg)
  have BD := hid bWD
  have heb := hid (hFeZ.o _ HP.o.it.eng.he)
  clear bWD hWD d0 d1 b1
  refine tk 0 ?_
  refine tk 1 ?_
  refine tk 2 ?_
  refine tk 4 ?_
  refine tk 5 ?_
  refine tk 6 ?_
  refine tk 7 ?_
  refine tk 8 ?_
  refine rd1 3 fun K hK => ?_
  go_simp
  go_simp
  refine (lits_any HTd.o).mono ?_
  rintro r W5 ⟨⟨u, rfl, ho⟩, b5⟩
  obtain ⟨A5, c5, rfl, _⟩ := ho.form
  refine hK.out _ _ ⟨keep_cell hHeld.1 b5, keep_cell hHeld.2.1 b5, keep_cell hHeld.2.2 b5⟩ (fun hHeld => ?_)
  clear hK K
  have HE5 := hid (HEd.o.keep b5.size fun g hg _ => b5.block g hg)
  have HT5 := hid (HTd.o.below b5)
  have HL5 := hid ho.rd
  have B5 := hid b5
  have e3 := HE5.o.cells.2.2.2.1
  have e4 := HE5.o.cells.2.2.2.2
  have z3 := HE5.o.froz 3
  have z4 := HE5.o.froz 4
  clear ho b5
  refine tk 9 ?_
  refine tk 10 ?_
  refine rd1 11 fun K hK => ?_
  go_simp
  go_simp
  refine hK.out _ _ ⟨(World.cell?_setCell_far _ _ _ _ (by show eb ≠ sz; have := heb.o; omega)).trans hHeld.1, (World.cell?_setCell_far _ _ _ _ (by show eb ≠ sz + 1; have := heb.o; omega)).trans hHeld.2.1, (World.cell?_setCell_other _ _ _ _ (by simp)).trans hHeld.2.2⟩ (fun hHeld => ?_)
  clear hK K
  refine tk 12 ?_
  refine tk 13 ?_
  refine rd1 14 fun K hK => ?_
  go_simp
  go_simp
  refine hK.out _ _ ⟨(World.cell?_setCell_far _ _ _ _ (by show eb ≠ sz; have := heb.o; omega)).trans hHeld.1, (World.cell?_setCell_far _ _ _ _ (by show eb ≠ sz + 1; have := heb.o; omega)).trans hHeld.2.1, (World.cell?_setCell_other _ _ _ _ (by simp)).trans hHeld.2.2⟩ (fun hHeld => ?_)
  clear hK K
  refine wpAnyH_done (by kernel_rfl) ?_ _
  simp only [calmQ]
  obtain ⟨hE3, hM3⟩ := HE5.o.mark (X := (T.exams E.cs xs).lits) (d := E.cs.length) (G := fun g => WD.heap.size ≤ g) (vs' := .slice A5 (T.exams E.cs xs).L.length c5) (by rw [show (T.exams E.cs xs).lits.length = (T.exams E.cs xs).L.length by simp [Tr.lits]]; exact HL5.o) (fun g _ (hg : WD.heap.size ≤ g) => by
   have hz := heb.o
   have hs := BD.o.size
   have hw : sz ≤ W.heap.size := by have := HP.o.md.size; omega
   refine ⟨by omega, fun e => ?_, fun h => ?_, fun h => ?_⟩
   ·have := hFeZ.o _ HE5.o.inn.hm; omega
   ·have := hFeZ.o _ (HE5.o.l.row h).1; omega
   ·have := hFeZ.o _ (HE5.o.inn.inRow h).1; omega)
  obtain ⟨X3, hX3⟩ : ∃ X, ((W5.setCell ⟨eb, 3, none⟩ (.slice A5 (T.exams E.cs xs).L.length c5)).setCell ⟨eb, 4, none⟩ (.int .i64 E.cs.length)) = X := ⟨_, rfl⟩
  rw [hX3]
  rw [hX3] at hE3 hM3
  have r0 := ((HP.o.r0.below BD.o).below B5.o).mod hM3 (by have := heb.o; omega)
  have r1 := ((HP.o.r1.below BD.o).below B5.o).mod hM3 (by have := heb.o; omega)
  have r0c := r0.1
  have r0f := r0.2
  have r1c := r1.1
  have r1f := r1.2
  have HE3 := hid hE3
  have HM3 := hid hM3
  clear hE3 hM3 hX3 hHeld e3 e4 z3 z4
  gi_wp2_with fail
  obtain ⟨X4, hX4⟩ : ∃ X, ((X3.setCell ⟨sz + 2, 0, none⟩ (.slice none 0 0)).setCell ⟨sz + 3, 0, none⟩ (.bool false)) = X := ⟨_, rfl⟩
  have hM4 : Mod (fun g => g = sz + 2 ∨ g = sz + 3) X3 X4 := hX4 ▸ ((Mod.refl _ _).setCell (p := ⟨sz + 2, 0, none⟩) (.inl (.inl rfl)) _).setCell (p := ⟨sz + 3, 0, none⟩) (.inl (.inr rfl)) _
  have r0' : Bx X4 (sz + 2) (.slice none 0 0) := hX4 ▸ (r0.put _).far (by omega) _
  have r1' : Bx X4 (sz + 3) (.bool false) := hX4 ▸ (r1.far (by omega) _).put _
  rw [hX4]
  clear hX4
  have hMd : Mod (fun g => g = eb ∨ g = sz + 2 ∨ g = sz + 3) W5 X4 := (HM3.o.mono fun _ _ h => .inl h).trans (hM4.mono fun _ _ h => .inl (.inr h))
  have hMW : Mod (fun g => g = eb ∨ g = sz + 2 ∨ g = sz + 3) W X4 := (Mod.of_below (BD.o.trans (B5.o.mono BD.o.size))).trans (hMd.mono fun _ _ h => .inl h)
  have he := heb.o
  have hFe := hFeZ.o
  have hFt := hFtZ.o
  have hWZ : ZL ≤ W.heap.size := by have := HP.o.md.size; omega
  have hDW := lt_of_block HDk.o
  have hWD := BD.o.size
  have hD4 : X4.heap[D]? = some (.deferred (some [])) := (hMW.block D hDW fun e => by rcases e with e | e | e <;> omega).trans HDk.o
  have hlits : (T.exams E.cs xs).lits = runX E.cs T.lits xs := (exams_more HEok.o Hwf.o hv HP.o.it.lt).1
  have hE4 := HE3.o.keep hM4.size fun g hg hF => hM4.block g hg fun e => by
   rcases hF with h | h
   ·have := hFe g h; omega
   ·have h2 : WD.heap.size ≤ g := h; omega
  have hT4 := ((HP.o.it.tr.restrict.below BD.o).below B5.o).mod hMd fun g _ hF e => by
   rcases hF.1 with h | h
   ·have := hFt g h
    rcases e with e | e | e
    ·exact f3.o eb HP.o.it.eng.he (e ▸ h)
    ·omega
    ·omega
   ·rcases e with e | e | e <;> omega
  refine ⟨by simp, .inl ⟨_, _, rfl, run_takeDeferred hD4, ?_⟩⟩
  have hgr := grownBy_putObj' X4 D (.deferred none)
  obtain ⟨X5, hX5⟩ : ∃ X, X4.putObj D (.deferred none) = X := ⟨_, rfl⟩
  rw [hX5] at hgr ⊢
  clear hX5
  have hbk : ∀ r, some D = some r → ZL ≤ r ∧ ∃ o : Obj, X4.heap[r]? = some o ∧ Obj.isBk o = true := fun r e => by cases e; exact ⟨hD, _, hD4, rfl⟩
  have x0 := (r0'.grown hgr hbk).1
  have x1 := (r1'.grown hgr hbk).1
  refine ⟨_, results_c2 rfl rfl rfl x0 x1, ?_, ?_⟩
  ·rw [hlits] at hE4
   refine .calm none 0 xs HP.o.it.lt HP.o.it.fine Hys2.o ⟨_, _, ⟨⟨HEok.o.vars, HEok.o.cs, HEok.o.lits, Nat.le_refl _, fun j hj _ => Hys2.o j hj⟩, m, es, clock, _, _, ts, hE4.keep hgr.size fun g hg hF => hgr.block g hg fun e => ?_⟩, hT4.grown hgr hbk, fun g h => h.elim (fun h => .inl (f1.o g h).1) fun h => .inr (by have h2 : WD.heap.size ≤ g := h; omega), fun g h => h.1.elim (fun h => .inl (f2.o g h).1) fun h => .inr (by omega), fun g h k => ?_⟩
   ·cases e
    rcases hF with h | h
    ·have := hFe _ h; omega
    ·have h2 : WD.heap.size ≤ D := h; omega
   ·rcases h with h | h
    ·rcases k.1 with k | k
     ·exact f3.o g h k
     ·have := hFe g h; omega
    ·have h2 : WD.heap.size ≤ g := h
     have := k.2; omega
  ·refine (((Mod.of_below Bw2.o).trans (HP.o.md.mono fun g _ h => .inl (f2.o g h).1)).trans (hMW.mono fun g _ h => ?_)).trans ((Mod.of_grown hgr).mono fun g _ h => .inr (by cases h; omega))
   rcases h with e | e | e
   ·exact .inl (e ▸ (f1.o _ HP.o.it.eng.he).1)
   ·exact .inr (by omega)
   ·exact .inr (by omega)
 case stop =>
  rintro D c pre W hD _ ⟨rfl, hPB⟩ hDk
  have HPB := hid hPB
  have HDk := hid hDk
  rw [hZL] at hD
  clear hPB hDk
  gi_wp2
  obtain ⟨pre2, i, u, B, g1, g2, g3, g4, g5, g6, g7, g8⟩ := HPB.o.bad
  refine ⟨by simp, .inl ⟨_, _, rfl, run_takeDeferred HDk.o, ?_⟩⟩
  have hgr := grownBy_putObj' W D (.deferred none)
  obtain ⟨X5, hX5⟩ : ∃ X, W.putObj D (.deferred none) = X := ⟨_, rfl⟩
  rw [hX5] at hgr ⊢
  clear hX5
  have hbk : ∀ r, some D = some r → ZL ≤ r ∧ ∃ o : Obj, W.heap[r]? = some o ∧ Obj.isBk o = true := fun r e => by cases e; exact ⟨hD, _, HDk.o, rfl⟩
  have x0 := (g6.grown hgr hbk).1
  have x1 := (HPB.o.r1.grown hgr hbk).1
  have hFe := hFeZ.o
  refine ⟨_, results_c2 rfl rfl rfl x0 x1, ?_, ?_⟩
  ·refine .bad u pre2 i B g1 g2 g3 g4 (g7.kept hgr fun r e => by cases e; exact ⟨_, HDk.o, rfl⟩) (by omega) ⟨Fe, _, ⟨⟨HEok.o.vars, HEok.o.cs, HEok.o.lits, Nat.zero_le _, fun j _ hd => absurd hd (Nat.not_lt_zero _)⟩, m, es, clock, _, _, ts, HPB.o.eng.grown hgr (fun g hg => by have := hFe g hg; omega) hbk⟩, g8.grown hgr hbk, fun g hg => ⟨.inl (f1.o g hg).1, by have := hFe g hg; omega⟩, fun g hg => ⟨hg.1.elim (fun h => .inl (f2.o g h).1) fun h => .inr (by omega), hg.2⟩, fun g hg h => ?_⟩
   rcases h.1 with h | h
   ·exact f3.o g hg h
   ·have := hFe g hg; omega
  ·refine ((Mod.of_below Bw2.o).trans (HPB.o.md.mono fun g _ h => ?_)).trans ((Mod.of_grown hgr).mono fun g _ h => .inr (by cases h; omega))
   rcases h with h | h | h | h
   ·exact .inl (f2.o g h).1
   ·exact .inl (f1.o g h).1
   ·exact .inr (by omega)
   ·exact .inr (by omega)
end
end Go.Proofs.YtcjmpobccbnpkaaGreat
