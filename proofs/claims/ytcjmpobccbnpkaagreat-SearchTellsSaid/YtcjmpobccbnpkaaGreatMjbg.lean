/-
 Chapter 32: several texts in one (SeP SeQ SeK).
-/
import Derived.Test.YtcjmpobccbnpkaaGreatMjbf
import Derived.Test.YtcjmpobccbnpkaaGreatMjag
import Derived.Test.YtcjmpobccbnpkaaGreatMjai
import Derived.Test.YtcjmpobccbnpkaaGreatMjay
import Derived.Test.YtcjmpobccbnpkaaGreatMjan
import Derived.Test.YtcjmpobccbnpkaaGreatMjbe
import Derived.Test.YtcjmpobccbnpkaaGreatMjbd
import Derived.Test.YtcjmpobccbnpkaaGreatMjau
import Derived.Test.YtcjmpobccbnpkaaGreatMjad
namespace Go.Proofs.YtcjmpobccbnpkaaGreat
set_option maxRecDepth 100000
set_option maxHeartbeats 1000000
section
open Go.RowKit
structure Sol where
 vars : Nat
 T : Tr
 E : Eng
 log : List Stp
structure SolAt (w : World) (sb tb eb ob pm : Nat) (vl : Value) (ts : List Six) (o : Om) (Fe Fo Fq : Nat → Prop) (S : Sol) : Prop where
 blk : w.heap[sb]? = some (.cells #[.int .i64 S.vars, .pointer (some ⟨tb, 0, none⟩), .pointer (some ⟨eb, 0, none⟩), .pointer (some ⟨ob, 0, none⟩), .map (some pm), vl] 31)
 et : EngTr w Fe eb tb S.E S.T
 ord : Order w Fo ob S.vars o
 ph : PhaseAt w pm
 log : Own w (row vl) 52 6 vl S.log.length (flat6 ts)
 sts : Sts w Fq ts S.log
 de : ∀ g, Fe g → g < w.heap.size ∧ g ≠ sb ∧ g ≠ pm ∧ ¬ Fo g ∧ ¬ row vl g ∧ ¬ Fq g
 do_ : ∀ g, Fo g → g < w.heap.size ∧ g ≠ sb ∧ g ≠ pm ∧ ¬ row vl g ∧ ¬ Fq g
 dq : ∀ g, Fq g → g < w.heap.size ∧ g ≠ sb ∧ g ≠ pm ∧ ¬ row vl g
 dp : sb ≠ pm
def SolP (w : World) (F : Nat → Prop) (sb tb eb ob pm : Nat) (S : Sol) : Prop := ∃ vl ts o Fe Fo Fq, SolAt w sb tb eb ob pm vl ts o Fe Fo Fq S ∧ F sb ∧ F pm ∧ (∀ g, Fe g → F g) ∧ (∀ g, Fo g → F g) ∧ (∀ g, Fq g → F g) ∧ ∀ g, row vl g → F g
section
variable {w w' : World} {F G : Nat → Prop} {sb tb eb ob pm : Nat} {vl : Value} {ts : List Six} {o : Om} {Fe Fo Fq : Nat → Prop} {S : Sol}
theorem SolAt.rowl (h : SolAt w sb tb eb ob pm vl ts o Fe Fo Fq S) {g : Nat} (hr : row vl g) : g < w.heap.size ∧ g ≠ sb ∧ g ≠ pm := by
 obtain ⟨_, cur, h1⟩ := h.log.row hr
 refine ⟨lt_of_block h1, fun e => ?_, fun e => ?_⟩
 ·rw [e, h.blk] at h1
  simp only [Option.some.injEq, Obj.cells.injEq] at h1
  exact absurd h1.2.1 (by decide)
 ·obtain ⟨es, clock, h2, _⟩ := h.ph
  rw [e, h2] at h1
  cases h1
theorem SolP.mono (h : SolP w F sb tb eb ob pm S) (hFG : ∀ g, F g → G g) : SolP w G sb tb eb ob pm S := by
 obtain ⟨vl, ts, o, Fe, Fo, Fq, h, h1, h2, h3, h4, h5, h6⟩ := h
 exact ⟨vl, ts, o, Fe, Fo, Fq, h, hFG _ h1, hFG _ h2, fun g hg => hFG g (h3 g hg), fun g hg => hFG g (h4 g hg), fun g hg => hFG g (h5 g hg), fun g hg => hFG g (h6 g hg)⟩
theorem SolP.cells (h : SolP w F sb tb eb ob pm S) : ∃ vl, w.heap[sb]? = some (.cells #[.int .i64 S.vars, .pointer (some ⟨tb, 0, none⟩), .pointer (some ⟨eb, 0, none⟩), .pointer (some ⟨ob, 0, none⟩), .map (some pm), vl] 31) := by
 obtain ⟨vl, ts, o, Fe, Fo, Fq, h, _⟩ := h
 exact ⟨vl, h.blk⟩
end
section
variable {w w' : World} {F G : Nat → Prop} {sb tb eb ob pm : Nat} {vl : Value} {ts : List Six} {o : Om} {Fe Fo Fq Fe' : Nat → Prop} {S : Sol} {E' : Eng} {T' : Tr}
theorem SolAt.sb_lt (h : SolAt w sb tb eb ob pm vl ts o Fe Fo Fq S) : sb < w.heap.size := lt_of_block h.blk
theorem SolAt.setE (h : SolAt w sb tb eb ob pm vl ts o Fe Fo Fq S) (he : EngTr w' Fe' eb tb E' T') (hm : Mod Fe w w') (hF : ∀ g, Fe' g → Fe g ∨ w.heap.size ≤ g) : SolAt w' sb tb eb ob pm vl ts o (fun g => Fe' g ∧ g < w'.heap.size) Fo Fq { S with E := E', T := T' } := by
 have hs := hm.size
 have hsb := h.sb_lt
 have hpm := h.ph.lt
 refine ⟨(hm.block sb hsb fun e => (h.de _ e).2.1 rfl).trans h.blk, he.restrict, h.ord.mod hm fun g _ h1 h2 => (h.de g h2).2.2.2.1 h1, h.ph.keep (hm.block pm hpm fun e => (h.de _ e).2.2.1 rfl), h.log.mod hm fun g _ h1 _ h2 => (h.de g h2).2.2.2.2.1 h1,
  h.sts.mod hm fun g _ h1 h2 => (h.de g h2).2.2.2.2.2 h1, fun g hg => ?_, fun g hg => ?_, fun g hg => ?_, h.dp⟩
 ·refine ⟨hg.2, ?_⟩
  rcases hF g hg.1 with h1 | h1
  ·exact (h.de g h1).2
  ·exact ⟨by omega, by omega, fun e => by have := (h.do_ g e).1; omega, fun e => by have := (h.rowl e).1; omega, fun e => by have := (h.dq g e).1; omega⟩
 ·have := h.do_ g hg; exact ⟨by omega, this.2⟩
 ·have := h.dq g hg; exact ⟨by omega, this.2⟩
theorem SolAt.setO {o' : Om} (h : SolAt w sb tb eb ob pm vl ts o Fe Fo Fq S) (ho : Order w' Fo ob S.vars o') (hm : Mod Fo w w') : SolAt w' sb tb eb ob pm vl ts o' Fe Fo Fq S := by
 have hs := hm.size
 have hsb := h.sb_lt
 have hpm := h.ph.lt
 refine ⟨(hm.block sb hsb fun e => (h.do_ _ e).2.1 rfl).trans h.blk, h.et.mod hm fun g _ h1 h2 => (h.de g h1).2.2.2.1 h2, ho, h.ph.keep (hm.block pm hpm fun e => (h.do_ _ e).2.2.1 rfl), h.log.mod hm fun g _ h1 _ h2 => (h.do_ g h2).2.2.2.1 h1,
  h.sts.mod hm fun g _ h1 h2 => (h.do_ g h2).2.2.2.2 h1, fun g hg => ?_, fun g hg => ?_, fun g hg => ?_, h.dp⟩
 ·have := h.de g hg; exact ⟨by omega, this.2⟩
 ·have := h.do_ g hg; exact ⟨by omega, this.2⟩
 ·have := h.dq g hg; exact ⟨by omega, this.2⟩
theorem SolAt.setP (h : SolAt w sb tb eb ob pm vl ts o Fe Fo Fq S) (hp : PhaseAt w' pm) (hm : Mod (fun g => g = pm) w w') : SolAt w' sb tb eb ob pm vl ts o Fe Fo Fq S := by
 have hs := hm.size
 have hsb := h.sb_lt
 refine ⟨(hm.block sb hsb h.dp).trans h.blk, h.et.mod hm fun g _ h1 h2 => (h.de g h1).2.2.1 h2, h.ord.mod hm fun g _ h1 h2 => (h.do_ g h1).2.2.1 h2, hp, h.log.mod hm fun g _ h1 _ h2 => (h.rowl h1).2.2 h2,
  h.sts.mod hm fun g _ h1 h2 => (h.dq g h1).2.2.1 h2, fun g hg => ?_, fun g hg => ?_, fun g hg => ?_, h.dp⟩
 ·have := h.de g hg; exact ⟨by omega, this.2⟩
 ·have := h.do_ g hg; exact ⟨by omega, this.2⟩
 ·have := h.dq g hg; exact ⟨by omega, this.2⟩
theorem SolAt.mod (h : SolAt w sb tb eb ob pm vl ts o Fe Fo Fq S) (hm : Mod G w w') (h0 : ¬ G sb) (h1 : ¬ G pm) (h2 : ∀ g, Fe g → ¬ G g) (h3 : ∀ g, Fo g → ¬ G g) (h4 : ∀ g, Fq g → ¬ G g) (h5 : ∀ g, row vl g → ¬ G g) : SolAt w' sb tb eb ob pm vl ts o Fe Fo Fq S := by
 have hs := hm.size
 refine ⟨(hm.block sb h.sb_lt h0).trans h.blk, h.et.mod hm fun g _ h => h2 g h, h.ord.mod hm fun g _ h => h3 g h, h.ph.keep (hm.block pm h.ph.lt h1), h.log.mod hm fun g _ h _ => h5 g h, h.sts.mod hm fun g _ h => h4 g h, fun g hg => ?_, fun g hg => ?_, fun g hg => ?_, h.dp⟩
 ·have := h.de g hg; exact ⟨by omega, this.2⟩
 ·have := h.do_ g hg; exact ⟨by omega, this.2⟩
 ·have := h.dq g hg; exact ⟨by omega, this.2⟩
theorem SolAt.setL (h : SolAt w sb tb eb ob pm vl ts o Fe Fo Fq S) {s : Stp} (hn : Noted w w' (row vl) sb (.int .i64 S.vars) (.pointer (some ⟨tb, 0, none⟩)) (.pointer (some ⟨eb, 0, none⟩)) (.pointer (some ⟨ob, 0, none⟩)) (.map (some pm)) vl S.log.length ts s) :
  (∃ vl' ts' Fq', SolAt w' sb tb eb ob pm vl' ts' o Fe Fo Fq' { S with log := S.log ++ [s] } ∧ (∀ g, Fq' g → Fq g ∨ w.heap.size ≤ g) ∧ ∀ g, row vl' g → row vl g ∨ w.heap.size ≤ g) ∧ Mod (fun g => row vl g ∨ g = sb) w w' := by
 obtain ⟨A, c, t, hb, ho, hr, hst, hm⟩ := hn
 have hs := hm.size
 have hpm := h.ph.lt
 refine ⟨⟨.slice A (S.log.length + 1) c, ts ++ [t], fun g => Fq g ∨ (w.heap.size ≤ g ∧ ¬ row (.slice A (S.log.length + 1) c) g ∧ g < w'.heap.size), ⟨hb, h.et.mod hm fun g _ h1 h2 => ?_, h.ord.mod hm fun g _ h1 h2 => ?_, h.ph.keep (hm.block pm hpm fun e => ?_), ?_, ?_, fun g hg => ?_, fun g hg => ?_, fun g hg => ?_, h.dp⟩, fun g hg => hg.imp id fun h => h.1, hr⟩, hm⟩
 ·exact h2.elim (h.de g h1).2.2.2.2.1 (h.de g h1).2.1
 ·exact h2.elim (h.do_ g h1).2.2.2.1 (h.do_ g h1).2.1
 ·exact e.elim (fun e => (h.rowl e).2.2 rfl) fun e => h.dp e.symm
 ·show Own w' _ _ 6 _ (S.log ++ [s]).length _
  rw [List.length_append]
  exact ho.mono fun g _ h _ => h
 ·exact (((h.sts.mono fun g hg h => (⟨h, hg⟩ : Fq g ∧ g < w.heap.size)).mod hm fun g _ h1 h2 => h2.elim (h.dq g h1.1).2.2.2 (h.dq g h1.1).2.1).mono fun g _ h => .inl h.1).snoc (hst.mono fun g hg h => .inr ⟨h.1, h.2, hg⟩)
 ·have h0 := h.de g hg
  refine ⟨by omega, h0.2.1, h0.2.2.1, h0.2.2.2.1, fun e => ?_, fun e => ?_⟩
  ·rcases hr g e with e | e
   ·exact h0.2.2.2.2.1 e
   ·omega
  ·rcases e with e | e
   ·exact h0.2.2.2.2.2 e
   ·omega
 ·have h0 := h.do_ g hg
  refine ⟨by omega, h0.2.1, h0.2.2.1, fun e => ?_, fun e => ?_⟩
  ·rcases hr g e with e | e
   ·exact h0.2.2.2.1 e
   ·omega
  ·rcases e with e | e
   ·exact h0.2.2.2.2 e
   ·omega
 ·rcases hg with hg | hg
  ·have h0 := h.dq g hg
   refine ⟨by omega, h0.2.1, h0.2.2.1, fun e => ?_⟩
   rcases hr g e with e | e
   ·exact h0.2.2.2 e
   ·omega
  ·have := h.sb_lt
   exact ⟨hg.2.2, by omega, by omega, hg.2.1⟩
theorem SolP.restrict (h : SolP w F sb tb eb ob pm S) : SolP w (fun g => F g ∧ g < w.heap.size) sb tb eb ob pm S := by
 obtain ⟨vl, ts, o, Fe, Fo, Fq, h, h1, h2, h3, h4, h5, h6⟩ := h
 exact ⟨vl, ts, o, Fe, Fo, Fq, h, ⟨h1, h.sb_lt⟩, ⟨h2, h.ph.lt⟩, fun g hg => ⟨h3 g hg, (h.de g hg).1⟩, fun g hg => ⟨h4 g hg, (h.do_ g hg).1⟩, fun g hg => ⟨h5 g hg, (h.dq g hg).1⟩, fun g hg => ⟨h6 g hg, (h.rowl hg).1⟩⟩
theorem SolP.mod (h : SolP w F sb tb eb ob pm S) (hm : Mod G w w') (hFG : ∀ g, g < w.heap.size → F g → ¬ G g) : SolP w' F sb tb eb ob pm S := by
 obtain ⟨vl, ts, o, Fe, Fo, Fq, h, h1, h2, h3, h4, h5, h6⟩ := h
 exact ⟨vl, ts, o, Fe, Fo, Fq, h.mod hm (hFG _ h.sb_lt h1) (hFG _ h.ph.lt h2) (fun g hg => hFG g (h.de g hg).1 (h3 g hg)) (fun g hg => hFG g (h.do_ g hg).1 (h4 g hg)) (fun g hg => hFG g (h.dq g hg).1 (h5 g hg)) (fun g hg => hFG g (h.rowl hg).1 (h6 g hg)), h1, h2, h3, h4, h5, h6⟩
theorem SolP.below (h : SolP w F sb tb eb ob pm S) (hb : Below w.heap.size w w') : SolP w' F sb tb eb ob pm S := h.mod (Mod.of_below (F := fun _ => False) hb) fun _ _ _ h => h
theorem SolP.trail (h : SolP w F sb tb eb ob pm S) : Trail w F tb S.T := by
 obtain ⟨vl, ts, o, Fe, Fo, Fq, h, h1, h2, h3, h4, h5, h6⟩ := h
 exact h.et.trail.mono h3
theorem SolP.eok (h : SolP w F sb tb eb ob pm S) : S.E.Ok := by
 obtain ⟨vl, ts, o, Fe, Fo, Fq, h, h1, h2, h3, h4, h5, h6⟩ := h
 exact h.et.engine.1
theorem SolP.blocks (h : SolP w F sb tb eb ob pm S) : F sb ∧ sb < w.heap.size ∧ F pm ∧ pm < w.heap.size := by
 obtain ⟨vl, ts, o, Fe, Fo, Fq, h, h1, h2, h3, h4, h5, h6⟩ := h
 exact ⟨h1, h.sb_lt, h2, h.ph.lt⟩
theorem SolP.phase (h : SolP w F sb tb eb ob pm S) : PhaseAt w pm := by
 obtain ⟨vl, ts, o, Fe, Fo, Fq, h, _⟩ := h
 exact h.ph
end
section
variable {w : World} {F G : Nat → Prop} {sb tb eb ob pm : Nat} {S : Sol}
theorem s_decide (h : SolP w F sb tb eb ob pm S) {l : Int} (hl : I64 l) :
  Calls Tryz.prog 99 #[.pointer (some ⟨tb, 0, none⟩), .int .i64 l] w fun r w' => r = .returned (.int .i64 (err (S.T.freeB l))) ∧ SolP w' (fun g => F g ∨ w.heap.size ≤ g) sb tb eb ob pm { S with T := S.T.dec l } ∧ Mod F w w' := by
 obtain ⟨vl, ts, o, Fe, Fo, Fq, h, h1, h2, h3, h4, h5, h6⟩ := h
 refine (etr_decide h.et hl).mono ?_
 rintro r w' ⟨rfl, he, hm⟩
 exact ⟨rfl, ⟨vl, ts, o, _, Fo, Fq, h.setE he hm fun g hg => hg, .inl h1, .inl h2, fun g hg => hg.1.imp (h3 g) id, fun g hg => .inl (h4 g hg), fun g hg => .inl (h5 g hg), fun g hg => .inl (h6 g hg)⟩, hm.mono fun g _ hg => h3 g hg⟩
theorem s_back (h : SolP w F sb tb eb ob pm S) (k : Int) :
  Calls Tryz.prog 71 #[.pointer (some ⟨tb, 0, none⟩), .int .i64 k] w fun r w' => (∃ A n c xs, r = .returned (.slice A n c) ∧ Rd w' (fun g => w.heap.size ≤ g) 1 (.slice A n c) n (ints xs) ∧ (∀ x ∈ xs, x ∈ S.T.lits)) ∧ SolP w' (fun g => F g ∨ w.heap.size ≤ g) sb tb eb ob pm { S with T := S.T.back (lvl k) } ∧ Mod F w w' := by
 obtain ⟨vl, ts, o, Fe, Fo, Fq, h, h1, h2, h3, h4, h5, h6⟩ := h
 obtain ⟨Ft, ht, hF, hk⟩ := h.et.stepT
 refine (undo_e ht k).mono ?_
 rintro r w' ⟨⟨u, rfl, ho⟩, he, hm⟩
 have hm2 := hm.mono fun g _ hg => hF g hg
 obtain ⟨A, c, rfl, _⟩ := ho.form
 refine ⟨⟨A, _, c, _, rfl, ho.rd, fun x hx => ?_⟩, ⟨vl, ts, o, _, Fo, Fq, h.setE (hk _ _ he hm) hm2 fun g hg => hg, .inl h1, .inl h2, fun g hg => hg.1.imp (h3 g) id, fun g hg => .inl (h4 g hg), fun g hg => .inl (h5 g hg), fun g hg => .inl (h6 g hg)⟩, hm2.mono fun g _ hg => h3 g hg⟩
 unfold Tr.gone at hx
 split at hx
 ·exact List.mem_of_mem_drop (List.mem_reverse.1 hx)
 ·cases hx
theorem s_imply (h : SolP w F sb tb eb ob pm S) {l : Int} (hl : I64 l) {v : Value} {n : Nat} {r : List Int} (hv : Rd w G 1 v n (ints r)) (hn : n ≤ 17592186044416) (hr : ∀ x ∈ r, I64 x) :
  Calls Tryz.prog 91 #[.pointer (some ⟨tb, 0, none⟩), .int .i64 l, v] w fun r0 w' => r0 = .returned (.int .i64 (err (S.T.can l r))) ∧ SolP w' (fun g => F g ∨ w.heap.size ≤ g) sb tb eb ob pm { S with T := S.T.imp l r } ∧ Mod F w w' := by
 obtain ⟨vl, ts, o, Fe, Fo, Fq, h, h1, h2, h3, h4, h5, h6⟩ := h
 obtain ⟨Ft, ht, hF, hk⟩ := h.et.stepT
 refine (imply_e ht hl hv hn hr).mono ?_
 rintro r w' ⟨rfl, he, hm⟩
 have hm2 := hm.mono fun g _ hg => hF g hg
 exact ⟨rfl, ⟨vl, ts, o, _, Fo, Fq, h.setE (hk _ _ he hm) hm2 fun g hg => hg, .inl h1, .inl h2, fun g hg => hg.1.imp (h3 g) id, fun g hg => .inl (h4 g hg), fun g hg => .inl (h5 g hg), fun g hg => .inl (h6 g hg)⟩, hm2.mono fun g _ hg => h3 g hg⟩
theorem s_add (h : SolP w F sb tb eb ob pm S) {v : Value} {c : Pb} (hc : PbRd w G v c) (hic : ∀ k ∈ c.coefs, I64 k) (hGF : ∀ g, G g → ¬ F g) (hlen : S.E.cs.length ≤ 500000) :
  Calls Tryz.prog 42 #[.pointer (some ⟨eb, 0, none⟩), v] w fun r w' => r = .returned (.int .i64 (if S.E.fits c = true then 0 else 2)) ∧ SolP w' (fun g => F g ∨ w.heap.size ≤ g) sb tb eb ob pm { S with E := if S.E.fits c = true then S.E.add c else S.E } ∧ Mod F w w' := by
 obtain ⟨vl, ts, o, Fe, Fo, Fq, h, h1, h2, h3, h4, h5, h6⟩ := h
 refine (etr_add h.et hc hic (fun g hg hf => hGF g hg (h3 g hf)) hlen).mono ?_
 rintro r w' ⟨rfl, he, hm⟩
 exact ⟨rfl, ⟨vl, ts, o, _, Fo, Fq, h.setE he hm fun g hg => hg, .inl h1, .inl h2, fun g hg => hg.1.imp (h3 g) id, fun g hg => .inl (h4 g hg), fun g hg => .inl (h5 g hg), fun g hg => .inl (h6 g hg)⟩, hm.mono fun g _ hg => h3 g hg⟩
theorem s_bump (h : SolP w F sb tb eb ob pm S) {v : Nat} (h1v : 1 ≤ v) (hvn : v ≤ S.vars) :
  Calls Tryz.prog 96 #[.pointer (some ⟨ob, 0, none⟩), .int .i64 v] w fun r w' => (∃ u, r = .returned u) ∧ SolP w' F sb tb eb ob pm S ∧ Mod F w w' := by
 obtain ⟨vl, ts, o, Fe, Fo, Fq, h, h1, h2, h3, h4, h5, h6⟩ := h
 refine (bump_any h.ord h1v hvn).mono ?_
 rintro r w' ⟨rfl, he, hm⟩
 exact ⟨⟨_, rfl⟩, ⟨vl, ts, _, _, Fo, Fq, h.setO he hm, h1, h2, h3, h4, h5, h6⟩, hm.mono fun g _ hg => h4 g hg⟩
theorem s_decay (h : SolP w F sb tb eb ob pm S) :
  Calls Tryz.prog 97 #[.pointer (some ⟨ob, 0, none⟩)] w fun r w' => (∃ u, r = .returned u) ∧ SolP w' F sb tb eb ob pm S ∧ Mod F w w' := by
 obtain ⟨vl, ts, o, Fe, Fo, Fq, h, h1, h2, h3, h4, h5, h6⟩ := h
 refine (decay_any h.ord).mono ?_
 rintro r w' ⟨rfl, he, hm⟩
 exact ⟨⟨_, rfl⟩, ⟨vl, ts, _, _, Fo, Fq, h.setO he hm, h1, h2, h3, h4, h5, h6⟩, hm.mono fun g _ hg => h4 g hg⟩
theorem s_next (h : SolP w F sb tb eb ob pm S) :
  Calls Tryz.prog 100 #[.pointer (some ⟨ob, 0, none⟩), .pointer (some ⟨tb, 0, none⟩)] w fun r w' => (∃ v is, r = .returned (.tuple #[.int .i64 v, .bool is]) ∧ ((is = false ∧ ∀ y : Nat, 1 ≤ y → y ≤ S.vars → S.T.value y ≠ 0) ∨ (is = true ∧ 1 ≤ v ∧ v ≤ S.vars ∧ S.T.value v = 0))) ∧ Below w.heap.size w w' := by
 obtain ⟨vl, ts, o, Fe, Fo, Fq, h, h1, h2, h3, h4, h5, h6⟩ := h
 refine (next_any (h.ord.mono fun g _ hg => h4 g hg) (h.et.trail.mono h3)).mono ?_
 rintro r w' ⟨⟨v, is, rfl, hn⟩, hb⟩
 refine ⟨⟨v, is, rfl, ?_⟩, hb⟩
 rcases hn with ⟨rfl, _, h⟩ | ⟨rfl, x, rfl, x1, x2, x3, _⟩
 ·exact .inl ⟨rfl, h⟩
 ·exact .inr ⟨rfl, by omega, by omega, x3⟩
theorem s_prop (h : SolP w F sb tb eb ob pm S) (hv : S.E.vars ≤ S.T.vars) (hn : S.E.cs.length ≤ 1000000) :
  Calls Tryz.prog 67 #[.pointer (some ⟨eb, 0, none⟩), .pointer (some ⟨tb, 0, none⟩)] w fun r w' =>
   ((∃ A c xs, r = .returned (.tuple #[.slice A 0 c, .bool false]) ∧ (∀ i ∈ xs, i < S.E.cs.length) ∧ fineX S.E.cs S.T.lits xs ∧ (∀ p ∈ S.E.cs, p.Calm (runX S.E.cs S.T.lits xs)) ∧
    SolP w' (fun g => F g ∨ w.heap.size ≤ g) sb tb eb ob pm { S with E := { S.E with seen := runX S.E.cs S.T.lits xs, done := S.E.cs.length }, T := S.T.exams S.E.cs xs }) ∨
   (∃ A n c xs i B, r = .returned (.tuple #[.slice A n c, .bool true]) ∧ (∀ i ∈ xs, i < S.E.cs.length) ∧ fineX S.E.cs S.T.lits xs ∧ i < S.E.cs.length ∧ (cAt S.E.cs i).slackX (runX S.E.cs S.T.lits xs) < 0 ∧
    Rd w' (fun g => B ≤ g) 1 (.slice A n c) n (ints ((cAt S.E.cs i).offX (runX S.E.cs S.T.lits xs))) ∧ w.heap.size ≤ B ∧
    SolP w' (fun g => (F g ∨ w.heap.size ≤ g) ∧ g < B) sb tb eb ob pm { S with E := { S.E with seen := [], done := 0 }, T := S.T.exams S.E.cs xs })) ∧ Mod F w w' := by
 obtain ⟨vl, ts, o, Fe, Fo, Fq, h, h1, h2, h3, h4, h5, h6⟩ := h
 refine (prop_any h.et hv hn).mono ?_
 rintro r w' ⟨hr, hm⟩
 refine ⟨?_, hm.mono fun g _ hg => h3 g hg⟩
 cases hr with
 | calm A c xs e1 e2 e3 e4 =>
  exact .inl ⟨A, c, xs, rfl, e1, e2, calm_all e3, vl, ts, o, _, Fo, Fq, h.setE e4 hm fun g hg => hg, .inl h1, .inl h2, fun g hg => hg.1.imp (h3 g) id, fun g hg => .inl (h4 g hg), fun g hg => .inl (h5 g hg), fun g hg => .inl (h6 g hg)⟩
 | bad u xs i B e1 e2 e3 e4 e5 e6 e7 =>
  obtain ⟨A, c, rfl, _⟩ := e5.form
  refine .inr ⟨A, _, c, xs, i, B, rfl, e1, e2, e3, e4, e5.rd, e6, vl, ts, o, _, Fo, Fq, h.setE e7 hm fun g hg => hg.1, ⟨.inl h1, ?_⟩, ⟨.inl h2, ?_⟩, fun g hg => ⟨hg.1.1.imp (h3 g) id, hg.1.2⟩, fun g hg => ⟨.inl (h4 g hg), ?_⟩, fun g hg => ⟨.inl (h5 g hg), ?_⟩, fun g hg => ⟨.inl (h6 g hg), ?_⟩⟩
  ·have := h.sb_lt; omega
  ·have := h.ph.lt; omega
  ·have := (h.do_ g hg).1; omega
  ·have := (h.dq g hg).1; omega
  ·have := (h.rowl hg).1; omega
theorem s_note (h : SolP w F sb tb eb ob pm S) {t : Six} {s : Stp} (hr : StRd w G t s) (hsm : s.c.lits.length ≤ 1000000 ∧ s.c.coefs.length ≤ 1000000 ∧ s.set.length ≤ 1000000) (hn : S.log.length ≤ 900000) :
  Calls Tryz.prog 45 #[.pointer (some ⟨sb, 0, none⟩), t.agg] w fun r w' => (∃ v, r = .returned v) ∧ SolP w' (fun g => F g ∨ w.heap.size ≤ g) sb tb eb ob pm { S with log := S.log ++ [s] } ∧ Mod F w w' := by
 obtain ⟨vl, ts, o, Fe, Fo, Fq, h, h1, h2, h3, h4, h5, h6⟩ := h
 refine (note_any hr hsm h.blk h.log hn).mono ?_
 rintro r w' ⟨hv, hno⟩
 obtain ⟨⟨vl', ts', Fq', h', q1, q2⟩, hm⟩ := h.setL hno
 exact ⟨hv, ⟨vl', ts', o, Fe, Fo, Fq', h', .inl h1, .inl h2, fun g hg => .inl (h3 g hg), fun g hg => .inl (h4 g hg), fun g hg => (q1 g hg).imp (h5 g) id, fun g hg => (q2 g hg).imp (h6 g) id⟩, hm.mono fun g _ hg => hg.elim (h6 g) fun e => e ▸ h1⟩
theorem s_phase (h : SolP w F sb tb eb ob pm S) {v z : Int} (hz : z = v ∨ z = -v) : ∃ w', (Instr.mapUpdate 28 (.map (some pm)) (.int .i64 v) (.int .i64 z)).run Tryz.prog w = .ok () w' ∧ SolP w' F sb tb eb ob pm S ∧ Mod (fun g => g = pm) w w' := by
 obtain ⟨vl, ts, o, Fe, Fo, Fq, h, h1, h2, h3, h4, h5, h6⟩ := h
 obtain ⟨w', e, hp, hm⟩ := phase_put h.ph hz
 exact ⟨w', e, ⟨vl, ts, o, Fe, Fo, Fq, h.setP hp hm, h1, h2, h3, h4, h5, h6⟩, hm⟩
end
end
section
open Go.RowKit
theorem snone_no {w : World} {sb tb : Nat} (c1 : w.cell? ⟨sb, 1, none⟩ = some (.pointer (some ⟨tb, 0, none⟩))) :
  Calls Tryz.prog 33 #[.pointer (some ⟨sb, 0, none⟩)] w fun r w' => r = .returned (.bool false) ∧ w = w' := by
 go_enter Tryz.func33, Tryz.ntmps33
 go_wp2_with fail
 go_ret
 exact ⟨rfl, rfl⟩
theorem SolP.six {w : World} {F : Nat → Prop} {sb tb eb ob pm : Nat} {S : Sol} (h : SolP w F sb tb eb ob pm S) : w.cell? ⟨sb, 0, none⟩ = some (.int .i64 S.vars) ∧ w.cell? ⟨sb, 1, none⟩ = some (.pointer (some ⟨tb, 0, none⟩)) ∧ w.cell? ⟨sb, 2, none⟩ = some (.pointer (some ⟨eb, 0, none⟩)) ∧ w.cell? ⟨sb, 3, none⟩ = some (.pointer (some ⟨ob, 0, none⟩)) ∧ w.cell? ⟨sb, 4, none⟩ = some (.map (some pm)) := by
 obtain ⟨vl, hb⟩ := h.cells
 obtain ⟨z0, z1, z2, z3, z4, z5⟩ := sbox6 hb
 exact ⟨z0, z1, z2, z3, z4⟩
theorem sundo_any {w : World} {F : Nat → Prop} {sb tb eb ob pm : Nat} {S : Sol} (h : SolP w F sb tb eb ob pm S) (k : Int) :
  Calls Tryz.prog 38 #[.pointer (some ⟨sb, 0, none⟩), .int .i64 k] w fun r w' => (∃ v, r = .returned v) ∧ SolP w' (fun g => F g ∨ w.heap.size ≤ g) sb tb eb ob pm { S with T := S.T.back (lvl k) } ∧ Mod F w w' := by
 obtain ⟨z0, z1, z2, z3, z4⟩ := h.six
 have H := hid h
 have Hw := hid h.trail.wf
 have Hpm := hid h.blocks
 clear h
 go_enter Tryz.func38, Tryz.ntmps38
 go_wp2_with fail
 refine (s_back H.o k).mono ?_
 rintro r w1 ⟨⟨A, n, c, xs, rfl, hr, hx⟩, hs, hm⟩
 have hln : xs.length = n := by have := hr.1; simpa [ints_length] using this
 have hncap : (n : Int) ≤ (c : Int) := by
  obtain ⟨_, A2, c2, hv2, h2, _⟩ := hr
  injection hv2 with _ _ h3
  omega
 have hnl := hr.len
 have Hln := hid hln
 have Hr := hid hr
 have Hx := hid hx
 have Hs := hid hs
 have Hm := hid hm
 have hsz := hm.size
 clear hr hx hs hm hln z0 z1 z2 z3 z4
 unfold maxLen at hnl
 go_wp2_with fail
 go_loopw [13] (fun jv W => ∃ j : Nat, j ≤ n ∧ jv = .int .i64 j ∧ Hid (SolP W (fun g => F g ∨ w.heap.size ≤ g) sb tb eb ob pm { S with T := S.T.back (lvl k) }) ∧ Hid (Mod (fun g => g = pm) w1 W)) (fun jv _ => n - (intOf jv).toNat)
 case atStart => exact ⟨0, Nat.zero_le _, rfl, Hs, Mod.refl _ _⟩
 case round =>
  obtain ⟨j, jn, rfl, S1, M1⟩ := hrel
  obtain ⟨z0, z1, z2, z3, z4⟩ := S1.o.six
  rcases Nat.lt_or_ge j n with h1 | h1
  ·obtain ⟨g, o, rfl, hg, _, e0⟩ := (Hr.o.mod M1.o fun g _ hg hf => by have := Hpm.o.2.2.2; omega).cell.2 j (by omega)
   obtain ⟨l, hl⟩ : ∃ l, nth xs j = l := ⟨_, rfl⟩
   have hlm : l ∈ S.T.lits := by rw [← hl]; exact Hx.o _ (nth_mem (by have := Hln.o; omega))
   obtain ⟨b1, b2⟩ := lits_small Hw.o hlm
   rw [hl] at e0
   have hmx := max_abs (show -65536 ≤ l ∧ l ≤ 65536 by omega)
   have hwn : IntKind.i64.wrap (-l) = -l := iw' (by omega) (by omega)
   obtain ⟨w2, hup, S2, M2⟩ := s_phase S1.o (v := (l.natAbs : Nat)) (z := l) (by omega)
   have S2 := hid S2
   have M2 := hid M2
   have hjn : (j : Int) < (n : Int) := by omega
   clear hl hlm
   go_wp2_with fail
   go_roundw
   case rel => exact ⟨j + 1, by omega, by go_num, S2, M1.o.trans (M2.o.mono fun g _ hg => .inl hg)⟩
   case measure => simp [intOf]; omega
  ·have hjn : ¬ ((j : Int) < (n : Int)) := by omega
   go_wp2_with fail
   go_end0
   exact ⟨⟨_, rfl⟩, S1.o, Hm.o.trans (M1.o.mono fun g _ hg => by subst hg; exact .inl Hpm.o.2.2.1)⟩
theorem slevel_any {w : World} {F G : Nat → Prop} {sb tb n c : Nat} {T : Tr} {A : Option Addr} {xs : List Int} (c1 : w.cell? ⟨sb, 1, none⟩ = some (.pointer (some ⟨tb, 0, none⟩))) (hsb : sb < w.heap.size) (ht : Trail w F tb T) (hr : Rd w G 1 (.slice A n c) n (ints xs)) (hx : ∀ x ∈ xs, -65536 ≤ x ∧ x ≤ 65536) :
  Calls Tryz.prog 94 #[.pointer (some ⟨sb, 0, none⟩), .slice A n c] w fun r w' => r = .returned (.int .i64 (topLv T xs)) ∧ Below w.heap.size w w' := by
 have hln : xs.length = n := by have := hr.1; simpa [ints_length] using this
 have hncap : (n : Int) ≤ (c : Int) := by
  obtain ⟨_, A2, c2, hv2, h2, _⟩ := hr
  injection hv2 with _ _ h3
  omega
 have hnl := hr.len
 have Hln := hid hln
 have Hr := hid hr
 have Hx := hid hx
 have Ht := hid ht
 have C1 := hid c1
 clear hr hx ht hln c1
 unfold maxLen at hnl
 go_enter Tryz.func94, Tryz.ntmps94
 go_wp2_with fail
 go_loopw [5, 10] (fun tv jv W => ∃ j : Nat, j ≤ n ∧ jv = .int .i64 j ∧ tv = .int .i64 (topLv T (xs.take j)) ∧ Hid (Below w.heap.size w W)) (fun _ jv _ => n - (intOf jv).toNat)
 case atStart => exact ⟨0, Nat.zero_le _, rfl, rfl, Below.refl _ _⟩
 case round =>
  obtain ⟨j, jn, rfl, rfl, B1⟩ := hrel
  rcases Nat.lt_or_ge j n with h1 | h1
  ·have hd1 := (World.cell?_of_block (B1.o.block sb hsb)).trans C1.o
   obtain ⟨g, o, rfl, hg, _, e0⟩ := (Hr.o.below B1.o).cell.2 j (by omega)
   obtain ⟨l, hl⟩ : ∃ l, nth xs j = l := ⟨_, rfl⟩
   obtain ⟨b1, b2⟩ := Hx.o l (by rw [← hl]; exact nth_mem (by have := Hln.o; omega))
   rw [hl] at e0
   have hmx := max_abs (show -65536 ≤ l ∧ l ≤ 65536 by omega)
   have hwn : IntKind.i64.wrap (-l) = -l := iw' (by omega) (by omega)
   have htk : Hid (topLv T (xs.take (j + 1)) = max (topLv T (xs.take j)) (T.levelOf (l.natAbs : Nat))) := hid (by rw [take_nth (by have := Hln.o; omega), hl, topLv_snoc]; rfl)
   have hjn : (j : Int) < (n : Int) := by omega
   clear hl
   go_wp2_with fail
   refine (level_any (Ht.o.below B1.o) (v := (l.natAbs : Nat))).mono ?_
   rintro r w2 ⟨rfl, B2⟩
   have hm2 := run_max (topLv T (xs.take j)) (T.levelOf (l.natAbs : Nat)) w2
   go_wp2_with fail
   go_roundw
   case rel => exact ⟨j + 1, by omega, by go_num, by rw [htk.o], B1.o.trans (B2.mono B1.o.size)⟩
   case measure => simp [intOf]; omega
  ·have hjn : ¬ ((j : Int) < (n : Int)) := by omega
   go_wp2_with fail
   go_ret
   exact ⟨by rw [List.take_of_length_le (by have := Hln.o; omega)]; rfl, B1.o⟩
def RunAt (w : World) (rb sb : Nat) (va lz : Value) (left : Nat) : Prop := w.heap[rb]? = some (.cells #[.pointer (some ⟨sb, 0, none⟩), va, .int .i64 left, lz] 79)
section
variable {w w' : World} {rb sb left : Nat} {va lz : Value}
theorem RunAt.four (h : RunAt w rb sb va lz left) : w.cell? ⟨rb, 0, none⟩ = some (.pointer (some ⟨sb, 0, none⟩)) ∧ w.cell? ⟨rb, 1, none⟩ = some va ∧ w.cell? ⟨rb, 2, none⟩ = some (.int .i64 left) ∧ w.cell? ⟨rb, 3, none⟩ = some lz := by
 unfold RunAt at h
 exact ⟨by rw [cell_of_row _ _ _ _ _ _ h]; rfl, by rw [cell_of_row _ _ _ _ _ _ h]; rfl, by rw [cell_of_row _ _ _ _ _ _ h]; rfl, by rw [cell_of_row _ _ _ _ _ _ h]; rfl⟩
theorem RunAt.lt (h : RunAt w rb sb va lz left) : rb < w.heap.size := lt_of_block h
theorem RunAt.froz (h : RunAt w rb sb va lz left) (i : Nat) : w.frozen? ⟨rb, i, none⟩ = false := by
 unfold RunAt at h
 simp [World.frozen?, h]
theorem RunAt.keep (h : RunAt w rb sb va lz left) (hk : w'.heap[rb]? = w.heap[rb]?) : RunAt w' rb sb va lz left := hk.trans h
theorem RunAt.put (h : RunAt w rb sb va lz left) (l : Nat) : RunAt (w.setCell ⟨rb, 2, none⟩ (.int .i64 l)) rb sb va lz l ∧ Mod (fun g => g = rb) w (w.setCell ⟨rb, 2, none⟩ (.int .i64 l)) :=
 ⟨heap_setCell_same _ _ _ _ _ _ h, (Mod.refl (fun g => g = rb) w).setCell (p := ⟨rb, 2, none⟩) (.inl rfl) _⟩
theorem scount_no (h : RunAt w rb sb va lz 0) :
  Calls Tryz.prog 93 #[.pointer (some ⟨rb, 0, none⟩)] w fun r w' => r = .returned (.int .i64 5) ∧ w = w' := by
 obtain ⟨c0, c1, c2, c3⟩ := h.four
 clear h
 go_enter Tryz.func93, Tryz.ntmps93
 go_wp2_with fail
 go_ret
 exact ⟨rfl, rfl⟩
theorem scount_yes (h : RunAt w rb sb va lz (left + 1)) (hl : left ≤ 65536) :
  Calls Tryz.prog 93 #[.pointer (some ⟨rb, 0, none⟩)] w fun r w' => r = .returned (.int .i64 0) ∧ RunAt w' rb sb va lz left ∧ Mod (fun g => g = rb) w w' := by
 obtain ⟨c0, c1, c2, c3⟩ := h.four
 have f2 := h.froz 2
 have hne : (((left + 1 : Nat) : Int) == 0) = false := by simp; omega
 have hw : IntKind.i64.wrap (((left + 1 : Nat) : Int) - 1) = (left : Int) := by rw [show (((left + 1 : Nat) : Int) - 1) = (left : Int) by omega]; exact iw' (by omega) (by omega)
 have H := hid h
 clear h
 go_enter Tryz.func93, Tryz.ntmps93
 go_wp2_with fail
 go_ret
 exact ⟨rfl, H.o.put left⟩
end
end
section
open Go.RowKit
theorem clause32_any {w : World} {F : Nat → Prop} {A : Option Addr} {n cA : Nat} {ls : List Int} (hl : Rd w F 1 (.slice A n cA) n (ints ls)) (hi : ∀ x ∈ ls, I64 x) (hn : n ≤ 1000000) :
  Calls Tryz.prog 32 #[.slice A n cA] w fun r w' => GivesPb w w' r (clauseB ls).1 := by
 obtain ⟨R, hR⟩ : ∃ R, clauseB ls = R := ⟨_, rfl⟩
 rw [hR]
 have HR := hid hR
 obtain ⟨X0, hX0, bX0, k0, s0⟩ := alloc_step w (.cells #[.slice none 0 0, .slice none 0 0, .int .i64 0] 41)
 have HX0 := hid hX0
 have hl0 := hid (hl.below bX0)
 have KO := hid k0
 have B0 := hid bX0
 clear hX0 bX0 k0 hR hl
 go_enter Tryz.func32, Tryz.ntmps32
 go_wp2_with fail
 rw [HX0.o]
 have hll : ls.length = n := by have := hl0.o.1; simpa [ints_length] using this
 refine (clause_any hl0.o hi hn (by rw [← hll]; exact once_len ls) fun x hx => mem_once.1 hx).mono ?_
 rintro r w1 ⟨⟨pv, rfl, hpv⟩, b1⟩
 rw [HR.o] at hpv ⊢
 obtain ⟨⟨A1, n1, c1, A2, n2, c2, rfl, r1, r2⟩, hb1⟩ := hpv
 have KO1 := hid (keep_blk KO.o b1)
 have B1 := hid (B0.o.trans (b1.mono B0.o.size))
 have s1 := b1.size
 obtain ⟨X2, hX2, bX2, k2, s2⟩ := alloc_step w1 (.cells #[.slice A1 n1 c1, .slice A2 n2 c2, .int .i64 R.1.bound] 41)
 have HX2 := hid hX2
 have R1 := hid (r1.below bX2)
 have R2 := hid (r2.below bX2)
 have KO2 := hid (keep_blk KO1.o bX2)
 have B2 := hid (B1.o.trans (bX2.mono B1.o.size))
 have hlt := lt_of_block KO2.o
 obtain ⟨t0, t1, t2⟩ := box3 KO2.o
 obtain ⟨f0, f1, f2⟩ := froz3 KO2.o
 rw [← hX2] at t0 t1 t2 f0 f1 f2
 clear hX2 bX2 k2 r1 r2 b1 HR hi hn hll
 go_wp2_with fail
 rw [HX2.o] at t0 t1 t2 ⊢
 obtain ⟨u0, u1, u2, m3⟩ := set3 t0 t1 t2 (.slice A1 n1 c1) (.slice A2 n2 c2) (.int .i64 R.1.bound)
 refine bodyPost_ret (v := .agg #[.slice A1 n1 c1, .slice A2 n2 c2, .int .i64 R.1.bound]) (by simp [results, Tryz.f32, go_sem, u0, u1, u2]) rfl ⟨⟨_, _, _, _, _, _, rfl, ⟨A1, n1, c1, A2, n2, c2, rfl, ?_, ?_⟩, hb1⟩, below_mod B2.o B2.o.size m3 fun g hg => by omega⟩
 ·exact (R1.o.mod m3 fun g _ hf e => by omega).mono fun g _ hf => by omega
 ·exact (R2.o.mod m3 fun g _ hf e => by omega).mono fun g _ hf => by omega
end
end Go.Proofs.YtcjmpobccbnpkaaGreat
