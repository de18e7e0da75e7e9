/-
 Chapter 32: several texts in one (EnG EnH RgRound).
-/
import Derived.Test.YtcjmpobccbnpkaaGreatMjaz
import Derived.Test.YtcjmpobccbnpkaaGreatMjba
import Derived.OrdersIn
import Derived.TacticsIn
namespace Go.Proofs.YtcjmpobccbnpkaaGreat
section
open Go.RowKit
theorem bk_cells {o : Obj} (h : Obj.isBk o = true) : o.isCells = false := by cases o <;> simp_all [Obj.isBk, Go.Obj.isCells]
def NoBk (w : World) (g : Nat) : Prop := ∀ o : Obj, w.heap[g]? = some o → Obj.isBk o = false
theorem NoBk.cells {w : World} {g : Nat} {cur : Array Value} {e : TypeId} {fz : Nat × Nat} (h : w.heap[g]? = some (.cells cur e fz)) : NoBk w g := fun o ho => by rw [h] at ho; cases ho; rfl
theorem NoBk.map {w : World} {g : Nat} {es : Array MapEntry} {c : Nat} (h : w.heap[g]? = some (.map es c)) : NoBk w g := fun o ho => by rw [h] at ho; cases ho; rfl
theorem NoBk.cell {w : World} {a : Addr} {u : Value} (h : w.cell? a = some u) : NoBk w a.block := fun o ho => by
 obtain ⟨o', ho', hc⟩ := cells_of_cell h
 rw [ho] at ho'
 cases ho'
 cases o <;> simp_all [Obj.isBk, Go.Obj.isCells]
section
variable {w w' : World} {F : Nat → Prop}
theorem Own.nobk {e : TypeId} {k n : Nat} {v : Value} {xs : List Value} (h : Own w F e k v n xs) : Own w (fun g => F g ∧ NoBk w g) e k v n xs := by
 obtain ⟨hl, h⟩ := h
 refine ⟨hl, h.imp id fun ⟨g, cap, cur, hv, hp, hF, hg, r⟩ => ⟨g, cap, cur, hv, hp, ⟨hF, NoBk.cells hg⟩, hg, r⟩⟩
theorem Rd.nobk {v : Value} {n : Nat} {xs : List Value} (h : Rd w F 1 v n xs) : Rd w (fun g => F g ∧ NoBk w g) 1 v n xs := by
 obtain ⟨hl, A, cap, hv, hc, hm, hA⟩ := h
 refine ⟨hl, A, cap, hv, hc, hm, fun hp => ?_⟩
 obtain ⟨g, o, e1, hF, hlt, hcell⟩ := hA hp
 have hx : xs[0]? = some (xs[0]'(by omega)) := List.getElem?_eq_getElem (by omega)
 exact ⟨g, o, e1, ⟨hF, NoBk.cell (hcell _ _ hx)⟩, hlt, hcell⟩
theorem Trail.nobk {b : Nat} {T : Tr} (h : Trail w F b T) : Trail w (fun g => F g ∧ NoBk w g) b T := by
 obtain ⟨wf, m, es, clock, vl, vs, h⟩ := h
 refine ⟨wf, m, es, clock, vl, vs, ⟨h.hb, NoBk.cells h.blk⟩, ⟨h.hm, NoBk.map h.map⟩, h.blk, h.map, h.size, fun i e he => ?_, h.lits.nobk, h.starts.nobk, h.apart⟩
 obtain ⟨x, A, n, c, h1, h2, h3, h4⟩ := h.ents i e he
 exact ⟨x, A, n, c, h1, h2, h3, h4.nobk.mono fun g _ hg => ⟨⟨hg.1.1, hg.2⟩, hg.1.2⟩⟩
theorem Trail.grown {b B : Nat} {T : Tr} {row : Option Nat} (h : Trail w F b T) (hg : w.grownBy w' row) (hr : ∀ r, row = some r → B ≤ r ∧ ∃ o : Obj, w.heap[r]? = some o ∧ Obj.isBk o = true) : Trail w' F b T := by
 obtain ⟨wf, m, es, clock, vl, vs, h⟩ := h.nobk
 refine Trail.mono (F := fun g => F g ∧ NoBk w g) ⟨wf, m, es, clock, vl, vs, h.keep hg.size fun g hlt hF => hg.block g hlt fun e => ?_⟩ fun g hg => hg.1
 obtain ⟨_, o, ho, hb⟩ := hr g e.symm
 have := hF.2 o ho
 rw [hb] at this
 cases this
theorem EngF.grown {e m B : Nat} {es : Array MapEntry} {clock : Nat} {vl vs : Value} {ts : List (Value × Value × Value)} {E : Eng} {f : Int → List Int} {row : Option Nat} (h : EngF w F e m es clock vl vs ts E f) (hg : w.grownBy w' row) (hF : ∀ g, F g → g < B) (hr : ∀ r, row = some r → B ≤ r ∧ ∃ o : Obj, w.heap[r]? = some o ∧ Obj.isBk o = true) : EngF w' F e m es clock vl vs ts E f :=
 h.keep hg.size fun g hlt hF' => hg.block g hlt fun e => by have := (hr g e.symm).1; have := hF g hF'; omega
theorem cell_grown {a : Addr} {u : Value} {B : Nat} {row : Option Nat} (h : w.cell? a = some u) (hg : w.grownBy w' row) (hr : ∀ r, row = some r → B ≤ r ∧ ∃ o : Obj, w.heap[r]? = some o ∧ Obj.isBk o = true) : w'.cell? a = some u :=
 cell_kept h hg fun r e => by obtain ⟨_, o, ho, hb⟩ := hr r e; exact ⟨o, ho, bk_cells hb⟩
theorem Bx.grown {b B : Nat} {u : Value} {row : Option Nat} (h : Bx w b u) (hg : w.grownBy w' row) (hr : ∀ r, row = some r → B ≤ r ∧ ∃ o : Obj, w.heap[r]? = some o ∧ Obj.isBk o = true) : Bx w' b u :=
 h.kept hg fun r e => by obtain ⟨_, o, ho, hb⟩ := hr r e; exact ⟨o, ho, bk_cells hb⟩
theorem Mod.grown {w0 : World} {B : Nat} {row : Option Nat} (h : Mod F w0 w) (hg : w.grownBy w' row) (hB : w0.heap.size ≤ B) (hr : ∀ r, row = some r → B ≤ r ∧ ∃ o : Obj, w.heap[r]? = some o ∧ Obj.isBk o = true) : Mod F w0 w' :=
 ⟨hg.os.trans h.os, hg.tape.trans h.tape, hg.output.trans h.output, Nat.le_trans h.size hg.size, fun k hk hF => (hg.block k (Nat.lt_of_lt_of_le hk h.size) fun e => by have := (hr k e.symm).1; omega).trans (h.block k hk hF)⟩
theorem KeepsBk.of_mod {G : Nat → Prop} {B : Nat} (h : Mod G w w') (hG : ∀ g, G g → B ≤ g → NoBk w g) : KeepsBk B w w' :=
 ⟨h.size, fun k o hB hk ho => (h.block k (Array.getElem?_eq_some_iff.1 hk).1 fun e => by have := hG k e hB o hk; rw [ho] at this; cases this).trans hk⟩
end
end
section
open Go.RowKit
theorem EngF.mark {w : World} {F G : Nat → Prop} {e m : Nat} {es : Array MapEntry} {clock : Nat} {vl vs vs' : Value} {ts : List (Value × Value × Value)} {E : Eng} {f : Int → List Int} {X : List Int} {d : Nat} (h : EngF w F e m es clock vl vs ts E f) (hr : Rd w G 1 vs' X.length (ints X)) (hG : ∀ g, g < w.heap.size → G g → g ≠ e ∧ g ≠ m ∧ ¬ row vl g ∧ ¬ rowsIn es g) :
  EngF ((w.setCell ⟨e, 3, none⟩ vs').setCell ⟨e, 4, none⟩ (.int .i64 d)) (fun g => F g ∨ G g) e m es clock vl vs' ts { E with seen := X, done := d } f ∧ Mod (fun g => g = e) w ((w.setCell ⟨e, 3, none⟩ vs').setCell ⟨e, 4, none⟩ (.int .i64 d)) := by
 have m1 : Mod (fun g => g = e) w ((w.setCell ⟨e, 3, none⟩ vs').setCell ⟨e, 4, none⟩ (.int .i64 d)) := (((Mod.refl (fun g => g = e) _).setCell (p := ⟨e, 3, none⟩) (.inl rfl) _).setCell (p := ⟨e, 4, none⟩) (.inl rfl) _)
 refine ⟨⟨.inl h.he, ?_, ?_, ?_, ?_, ?_, h.apart⟩, m1⟩
 ·have h1 := heap_setCell_same w e 3 _ _ vs' h.blk
  have h2 := heap_setCell_same _ e 4 _ _ (.int .i64 d) h1
  simpa using h2
 ·exact (h.inn.mod m1 fun g _ _ hx e1 => by
   subst e1
   rcases hx with hx | hx
   ·exact h.me hx
   ·exact (h.rowi hx).1 rfl).mono fun g hg => .inl hg
 ·exact (h.l.mod m1 fun g _ hr _ e1 => (h.rowl hr).1 e1).mono fun g _ _ hg => .inl hg
 ·exact (h.ps.mod m1 fun g _ hg e1 => hg.2.1 e1).mono fun g _ hg => ⟨.inl hg.1, hg.2⟩
 ·exact ((hr.mono (G := fun g => G g ∧ (g ≠ e ∧ g ≠ m ∧ ¬ row vl g ∧ ¬ rowsIn es g)) fun g hlt hg => ⟨hg, hG g hlt hg⟩).mod m1 fun g _ hg e1 => hg.2.1 e1).mono fun g _ hg => ⟨.inr hg.1, hg.2⟩
def EngTr (w : World) (F : Nat → Prop) (eb tb : Nat) (E : Eng) (T : Tr) : Prop := ∃ Fe Ft, Engine w Fe eb E ∧ Trail w Ft tb T ∧ (∀ g, Fe g → F g) ∧ (∀ g, Ft g → F g) ∧ (∀ g, Fe g → ¬ Ft g)
structure PrSt (sz te tt eb tb m : Nat) (es : Array MapEntry) (clock : Nat) (vl vs : Value) (ts : List (Value × Value × Value)) (E : Eng) (T0 : Tr) (Fe Ft : Nat → Prop) (ZL : Nat) (w2 : World) (pre : List Nat) (W : World) : Prop where
 it : IterSt te tt eb tb m es clock vl vs ts E T0 Fe (fun g => Ft g ∨ ZL ≤ g) pre W
 d0 : W.cell? ⟨sz, 0, none⟩ = some (.pointer (some ⟨eb, 0, none⟩))
 d1 : W.cell? ⟨sz + 1, 0, none⟩ = some (.pointer (some ⟨tb, 0, none⟩))
 r0 : Bx W (sz + 2) (.slice none 0 0)
 r1 : Bx W (sz + 3) (.bool false)
 md : Mod Ft w2 W
section
variable {sz te tt eb tb m : Nat} {es : Array MapEntry} {clock : Nat} {vl vs : Value} {ts : List (Value × Value × Value)} {E : Eng} {T0 : Tr} {Fe Ft : Nat → Prop} {ZL : Nat} {w2 : World}
theorem PrSt.own (hFe : ∀ g, Fe g → g < ZL) (hw : w2.heap.size ≤ ZL) : OwnBk ZL (PrSt sz te tt eb tb m es clock vl vs ts E T0 Fe Ft ZL w2) := fun _ _ _ _ h hg hr =>
 ⟨⟨cell_grown h.it.ce hg hr, cell_grown h.it.ct hg hr, h.it.eng.grown hg hFe hr, h.it.tr.grown hg hr, h.it.fine, h.it.lt⟩, cell_grown h.d0 hg hr, cell_grown h.d1 hg hr, h.r0.grown hg hr, h.r1.grown hg hr, h.md.grown hg hw hr⟩
structure PrBad (sz tb : Nat) (eb m : Nat) (es : Array MapEntry) (clock : Nat) (vl : Value) (ts : List (Value × Value × Value)) (E : Eng) (T0 : Tr) (Fe Ft : Nat → Prop) (ZL : Nat) (w2 : World) (W : World) : Prop where
 bad : ∃ (pre : List Nat) (i : Nat) (u : Value) (B : Nat), (∀ k ∈ pre, k < E.cs.length) ∧ fineX E.cs T0.lits pre ∧ i < E.cs.length ∧ (cAt E.cs i).slackX (runX E.cs T0.lits pre) < 0 ∧ ZL ≤ B ∧ Bx W (sz + 2) u ∧ Own W (fun g => B ≤ g) 3 1 u ((cAt E.cs i).offX (runX E.cs T0.lits pre)).length (ints ((cAt E.cs i).offX (runX E.cs T0.lits pre))) ∧ Trail W (fun g => (Ft g ∨ ZL ≤ g) ∧ g < B) tb (T0.exams E.cs pre)
 eng : EngF W Fe eb m es clock vl (.slice none 0 0) ts { E with seen := [], done := 0 } (occF E.cs)
 r1 : Bx W (sz + 3) (.bool true)
 md : Mod (fun g => Ft g ∨ Fe g ∨ g = sz + 2 ∨ g = sz + 3) w2 W
theorem PrBad.own (hFe : ∀ g, Fe g → g < ZL) (hw : w2.heap.size ≤ ZL) (c : Code) : OwnBk ZL (fun (_ : List Nat) W => c = .ret ∧ PrBad sz tb eb m es clock vl ts E T0 Fe Ft ZL w2 W) := fun _ _ _ _ ⟨hc, h⟩ hg hr => by
 obtain ⟨pre, i, u, B, h1, h2, h3, h4, h5, h6, h7, h8⟩ := h.bad
 refine ⟨hc, ⟨pre, i, u, B, h1, h2, h3, h4, h5, h6.grown hg hr, ?_, h8.grown hg hr⟩, h.eng.grown hg hFe hr, h.r1.grown hg hr, h.md.grown hg hw hr⟩
 exact (h7.nobk.keep fun g hlt _ hF => hg.block g hlt fun e => by
  obtain ⟨_, o, ho, hb⟩ := hr g e.symm
  have := hF.2 o ho
  rw [hb] at this
  cases this).mono fun g _ _ hF => hF.1
end
end
section
open Go Go.RowKit
section
variable {P : Program} {ops : Array Oper} {Q : Exit → Act → World → Prop} {n l : Nat}
theorem rowsIn_round {row : String} {args : Array Value} {w : World} {R : Value → World → Prop} (h : Rows P row args w R) : RowsIn (Fence.wide.inRound l) n P row args w R :=
 fun c cs _ => let ⟨v, w', r, s⟩ := h c cs; ⟨v, w', r, stepsIn_wide.2 s⟩
theorem callsIn_round {f : FuncId} {args : Array Value} {w : World} {R : Ending → World → Prop} (h : Calls P f args w R) : CallsIn (Fence.wide.inRound l) n P f args w R := CallsIn.inRound l (callsIn_wide.2 h)
theorem opIn_round {o : Oper} {a : Act} {w : World} {K : Act → World → Prop} (hd : ∀ c, o.op ≠ .defer c) (h : o.wp P a w K Q) : o.wpIn (Fence.wide.inRound l) n P a w K Q := by
 refine ⟨fun _ _ => trivial, ?_⟩
 rw [Fence.inRound_round, Oper.semAt_some l _ _ hd]
 unfold Oper.wp at h
 generalize (execOp a.eval o).run P w = r at *
 cases r with
 | ok x w' =>
  cases x with
  | enter f args => exact ⟨fun h => (by simp [Fence.wide] at h), (callsIn_round h).mono fun e w'' he => by cases e <;> exact he⟩
  | row row args => exact ⟨fun h => (by simp [Fence.wide] at h), rowsIn_round h⟩
  | round l f t a b => exact h.elim
  | _ => exact h
 | halt x w' => cases x <;> exact h
def noDefer (ops : Array Oper) : Bool := ops.all fun o => match o.op with | .defer _ => false | _ => true
theorem noDefer_spec (h : noDefer ops = true) {i : Nat} {o : Oper} (ho : ops[i]? = some o) : ∀ c, o.op ≠ .defer c := fun c e => by
 have h1 := Array.all_eq_true'.1 h o (Array.mem_of_getElem? ho)
 rw [e] at h1
 cases h1
theorem anyIn_round {md : Region.Mode} (hd : noDefer ops = true) (hL : ¬ LetsOut Q) : ∀ (fuel : Nat) (listed : Array Bool) (a : Act) (w : World), wpAny P md ops Q fuel listed a w → wpAnyIn (Fence.wide.inRound l) n P md ops Q fuel listed a w := by
 intro fuel
 induction fuel with
 | zero => exact fun _ _ _ h => h
 | succ fuel ih =>
  intro listed a w h
  refine ⟨h.1, fun i hi => ?_⟩
  have h2 := h.2 i hi
  unfold wpOp at h2
  unfold wpOpIn
  cases ho : ops[i]? with
  | none =>
   simp only [ho] at h2 ⊢
   exact ih _ _ _ h2
  | some o =>
   simp only [ho] at h2 ⊢
   split at h2
   ·rename_i hw
    rw [if_pos hw]
    exact opIn_round (noDefer_spec hd ho) (Go.Oper.wp_mono (fun a w h => ih _ a w h) (h2.resolve_right fun h => hL h.2))
   ·rename_i hw
    rw [if_neg hw]
    exact ⟨fun _ _ => trivial, ih _ _ _ h2⟩
theorem wpIn_region_round {id : Nat} {a : Act} {w : World} (hm : P.follows .mixedOrders = true) (hd : noDefer ops = true) (hL : ¬ LetsOut Q) (h : wpAny P .any ops Q ops.size (Array.replicate ops.size false) a w.drew) : (Code.region id ops true).wpIn (Fence.wide.inRound l) n P Q a w :=
 wpIn_region_any hm (anyIn_round hd hL _ _ _ _ h)
end
end
end Go.Proofs.YtcjmpobccbnpkaaGreat
