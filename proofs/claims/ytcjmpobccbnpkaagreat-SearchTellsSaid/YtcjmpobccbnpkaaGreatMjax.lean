/-
 Chapter 32: several texts in one (PrC EnB EnC).
-/
import Derived.Test.YtcjmpobccbnpkaaGreatMjaw
import Derived.Test.YtcjmpobccbnpkaaGreatMjad
namespace Go.Proofs.YtcjmpobccbnpkaaGreat
section
open Go.RowKit
theorem Tr.value_is (T : Tr) (l : Int) : T.value l = valX T.lits l := rfl
def Pb.newTo (c : Pb) (X : List Int) (k : Nat) : List Int := c.pick (fun l q => decide (c.slackX X < q) && decide (valX X l = 0)) (List.range k)
theorem Pb.newTo_succ (c : Pb) (X : List Int) (k : Nat) : c.newTo X (k + 1) = c.newTo X k ++ (if c.slackX X < nth c.coefs k ∧ valX X (nth c.lits k) = 0 then [nth c.lits k] else []) := by
 unfold Pb.newTo
 rw [List.range_succ, Pb.pick_snoc]
 congr 1
 simp only [Bool.and_eq_true, decide_eq_true_eq]
theorem mem_newTo {c : Pb} {X : List Int} {k : Nat} {l : Int} (h : l ∈ c.newTo X k) : ∃ j, j < k ∧ valX X (nth c.lits j) = 0 ∧ nth c.lits j = l := by
 unfold Pb.newTo Pb.pick at h
 obtain ⟨j, hj, e⟩ := List.mem_map.1 h
 obtain ⟨h1, h2⟩ := List.mem_filter.1 hj
 simp only [Bool.and_eq_true, decide_eq_true_eq] at h2
 exact ⟨j, List.mem_range.1 h1, h2.2, e⟩
def entOf (v : Nat) (off : List Int) (l : Int) : Ent := ⟨l, v, l :: off⟩
def Tr.examTo (T : Tr) (c : Pb) (k : Nat) : Tr := (List.range k).foldl (fun T' j => if c.slackX T.lits < nth c.coefs j ∧ T'.value (nth c.lits j) = 0 then T'.imp (nth c.lits j) (nth c.lits j :: c.offX T.lits) else T') T
def Tr.exam (T : Tr) (c : Pb) : Tr := T.examTo c c.lits.length
theorem Tr.examTo_succ (T : Tr) (c : Pb) (k : Nat) : T.examTo c (k + 1) = if c.slackX T.lits < nth c.coefs k ∧ (T.examTo c k).value (nth c.lits k) = 0 then (T.examTo c k).imp (nth c.lits k) (nth c.lits k :: c.offX T.lits) else T.examTo c k := by
 unfold Tr.examTo
 rw [List.range_succ, List.foldl_append]
 rfl
theorem Tr.WF.okX {T : Tr} (h : T.WF) : okX T.lits := by
 intro l hl hn
 obtain ⟨i, e, he, h1⟩ := Tr.mem_lits.1 hl
 obtain ⟨j, f, hf, h2⟩ := Tr.mem_lits.1 hn
 have := h.uniq he hf (by unfold Ent.v; rw [h1, h2]; omega)
 subst this
 rw [he] at hf
 obtain rfl := Option.some.inj hf
 have := (h.lit e (List.mem_of_getElem? he)).1
 omega
theorem Tr.WF.lits0 {T : Tr} (h : T.WF) : ∀ l ∈ T.lits, l ≠ 0 := by
 intro l hl
 obtain ⟨i, e, he, h1⟩ := Tr.mem_lits.1 hl
 have := (h.lit e (List.mem_of_getElem? he)).1
 omega
structure Examed (T : Tr) (c : Pb) (k : Nat) (T' : Tr) : Prop where
 wf : T'.WF
 vars : T'.vars = T.vars
 starts : T'.starts = T.starts
 L : T'.L = T.L ++ (c.newTo T.lits k).map (entOf T.starts.length (c.offX T.lits))
theorem Examed.lits {T T' : Tr} {c : Pb} {k : Nat} (h : Examed T c k T') : T'.lits = T.lits ++ c.newTo T.lits k := by
 unfold Tr.lits
 rw [h.L, List.map_append, List.map_map]
 congr 1
 conv => rhs; rw [← List.map_id (c.newTo _ k)]
 rfl
theorem Tr.examed {T : Tr} {c : Pb} (hw : T.WF) (hc : c.Ok) (hv : ∀ l ∈ c.lits, l.natAbs ≤ T.vars) : ∀ k, k ≤ c.lits.length → Examed T c k (T.examTo c k) := by
 intro k
 induction k with
 | zero => intro _; exact ⟨hw, rfl, rfl, by simp [Tr.examTo, Pb.newTo, Pb.pick]⟩
 | succ k ih =>
  intro hk
  have h := ih (by omega)
  have hkl : k < c.lits.length := by omega
  have hl := h.lits
  obtain ⟨l, hlk⟩ : ∃ l, nth c.lits k = l := ⟨_, rfl⟩
  have hlm : l ∈ c.lits := by rw [← hlk]; exact nth_mem hkl
  have hno : ∀ x ∈ c.newTo T.lits k, x.natAbs ≠ l.natAbs := fun x hx e => by
   obtain ⟨j, hj, _, h2⟩ := mem_newTo hx
   have := hc.inj (i := j) (j := k) (by omega) hkl (by rw [h2, hlk, e])
   omega
  have hval : (T.examTo c k).value l = 0 ↔ valX T.lits l = 0 := by
   rw [Tr.value_is, hl, valX_zero, valX_zero]
   constructor
   ·rintro ⟨h1, h2⟩
    exact ⟨fun e => h1 (List.mem_append_left _ e), fun e => h2 (List.mem_append_left _ e)⟩
   ·rintro ⟨h1, h2⟩
    exact ⟨fun e => (List.mem_append.1 e).elim h1 fun e => hno _ e rfl, fun e => (List.mem_append.1 e).elim h2 fun e => hno _ e (by omega)⟩
  have e1 := T.examTo_succ c k
  have e2 := c.newTo_succ T.lits k
  rw [hlk] at e1 e2
  by_cases hcd : c.slackX T.lits < nth c.coefs k ∧ valX T.lits l = 0
  ·rw [if_pos ⟨hcd.1, hval.2 hcd.2⟩] at e1
   rw [if_pos hcd] at e2
   rw [e1]
   have hfree : (T.examTo c k).free l := ⟨by rw [← hlk]; exact hc.lit0 hkl, by rw [h.vars]; exact hv l hlm, hval.2 hcd.2⟩
   have hoff : ∀ x ∈ c.offX T.lits, x ∉ (T.examTo c k).lits ∧ -x ∈ (T.examTo c k).lits := fun x hx => by
    obtain ⟨_, h1, h2⟩ := mem_offX.1 hx
    rw [hl]
    refine ⟨fun e => (List.mem_append.1 e).elim h1 fun e => ?_, List.mem_append_left _ h2⟩
    obtain ⟨j, _, h3, h4⟩ := mem_newTo e
    rw [h4] at h3
    exact (valX_zero.1 h3).2 h2
   have hcan : (T.examTo c k).can l (l :: c.offX T.lits) = true := by
    unfold Tr.can
    rw [Tr.free_iff.2 hfree]
    simp only [Bool.true_and, Bool.not_eq_true', List.any_cons, beq_self_eq_true, Bool.true_or]
    rw [Bool.or_eq_false_iff]
    refine ⟨by simp [badB], ?_⟩
    rw [List.any_eq_false]
    intro x hx
    obtain ⟨h1, h2⟩ := hoff x hx
    have : (T.examTo c k).value x < 0 := by rw [Tr.value_is]; exact valX_neg.2 ⟨h1, h2⟩
    simp [badB]
    intro _
    exact this
   rw [show (T.examTo c k).imp l (l :: c.offX T.lits) = (T.examTo c k).imply l (l :: c.offX T.lits) from if_pos hcan]
   refine ⟨h.wf.imply hfree (List.mem_cons_self ..) fun x hx => ?_, h.vars, h.starts, ?_⟩
   ·rcases List.mem_cons.1 hx with e | e
    ·exact .inl e
    ·exact .inr (hoff x e).2
   ·show (T.examTo c k).L ++ _ = _
    rw [h.L, e2, List.map_append, List.append_assoc, h.starts]
    rfl
  ·rw [if_neg fun h2 => hcd ⟨h2.1, hval.1 h2.2⟩] at e1
   rw [if_neg hcd, List.append_nil] at e2
   rw [e1]
   exact ⟨h.wf, h.vars, h.starts, by rw [e2]; exact h.L⟩
theorem Tr.exam_is {T : Tr} {c : Pb} (hw : T.WF) (hc : c.Ok) (hv : ∀ l ∈ c.lits, l.natAbs ≤ T.vars) : Examed T c c.lits.length (T.exam c) := Tr.examed hw hc hv _ (Nat.le_refl _)
def Tr.exams (cs : List Pb) (T : Tr) (is : List Nat) : Tr := is.foldl (fun T i => T.exam (cAt cs i)) T
theorem Tr.exams_snoc (cs : List Pb) (T : Tr) (is : List Nat) (i : Nat) : T.exams cs (is ++ [i]) = (T.exams cs is).exam (cAt cs i) := by simp [Tr.exams, List.foldl_append]
def FromX (cs : List Pb) (v : Nat) (e : Ent) : Prop := ∃ i X, i < cs.length ∧ e.lit ∈ (cAt cs i).newX X ∧ e.reason = e.lit :: (cAt cs i).offX X ∧ okX X ∧ 0 ≤ (cAt cs i).slackX X ∧ e.level = v
structure Examd (cs : List Pb) (T : Tr) (is : List Nat) (T' : Tr) : Prop where
 wf : T'.WF
 vars : T'.vars = T.vars
 starts : T'.starts = T.starts
 lits : T'.lits = runX cs T.lits is
 more : ∃ N, T'.L = T.L ++ N ∧ (fineX cs T.lits is → ∀ e ∈ N, FromX cs T.starts.length e)
theorem Tr.exams_is {cs : List Pb} (hcs : ∀ c ∈ cs, c.Ok) : ∀ (is : List Nat) (T : Tr), T.WF → (∀ c ∈ cs, ∀ l ∈ c.lits, l.natAbs ≤ T.vars) → (∀ i ∈ is, i < cs.length) → Examd cs T is (T.exams cs is) := by
 intro is
 induction is with
 | nil => intro T hw hv hi; exact ⟨hw, rfl, rfl, rfl, [], by simp [Tr.exams], fun _ e he => by cases he⟩
 | cons i is ih =>
  intro T hw hv hi
  have hin := hi i (List.mem_cons_self ..)
  have hm := cAt_mem hin
  have h := Tr.exam_is hw (hcs _ hm) (hv _ hm)
  have hl : (T.exam (cAt cs i)).lits = exX cs T.lits i := h.lits
  have h2 := ih (T.exam (cAt cs i)) h.wf (fun c hc l hl => by rw [h.vars]; exact hv c hc l hl) fun k hk => hi k (List.mem_cons_of_mem _ hk)
  obtain ⟨N, h3, h4⟩ := h2.more
  refine ⟨h2.wf, h2.vars.trans h.vars, h2.starts.trans h.starts, ?_, ((cAt cs i).newX T.lits).map (entOf T.starts.length ((cAt cs i).offX T.lits)) ++ N, ?_, fun hf e he => ?_⟩
  ·have := h2.lits
   rw [hl] at this
   exact this
  ·rw [← List.append_assoc]
   have h5 := h.L
   rw [h5] at h3
   exact h3
  ·rcases List.mem_append.1 he with e1 | e1
   ·obtain ⟨l, h5, rfl⟩ := List.mem_map.1 e1
    exact ⟨i, T.lits, hin, h5, rfl, hw.okX, hf.1, rfl⟩
   ·obtain ⟨k, X, h6⟩ := h4 (by rw [hl]; exact hf.2) e e1
    rw [h.starts] at h6
    exact ⟨k, X, h6⟩
end
section
open Go.RowKit
def occF (cs : List Pb) (l : Int) : List Int := (occL cs l).map fun (i : Nat) => (i : Int)
structure Eng where
 vars : Nat
 cs : List Pb
 seen : List Int
 done : Nat
structure Eng.Ok (E : Eng) : Prop where
 vars : E.vars ≤ 65536
 cs : ∀ c ∈ E.cs, c.Ok
 lits : ∀ c ∈ E.cs, ∀ l ∈ c.lits, l.natAbs ≤ E.vars
 done : E.done ≤ E.cs.length
 calm : ∀ j, j < E.cs.length → j < E.done → (cAt E.cs j).Calm E.seen
structure EngF (w : World) (F : Nat → Prop) (e m : Nat) (es : Array MapEntry) (clock : Nat) (vl vs : Value) (ts : List (Value × Value × Value)) (E : Eng) (f : Int → List Int) : Prop where
 he : F e
 blk : w.heap[e]? = some (.cells #[.int .i64 E.vars, vl, .map (some m), vs, .int .i64 E.done] 124 (0, 0))
 inn : InMap w F m es clock f
 l : Own w F 41 3 vl E.cs.length (flat3 ts)
 ps : Ps w (fun g => F g ∧ g ≠ e ∧ g ≠ m ∧ ¬ row vl g ∧ ¬ rowsIn es g) ts E.cs
 seen : Rd w (fun g => F g ∧ g ≠ e ∧ g ≠ m ∧ ¬ row vl g ∧ ¬ rowsIn es g) 1 vs E.seen.length (ints E.seen)
 apart : ∀ g, row vl g → ¬ rowsIn es g
def Engine (w : World) (F : Nat → Prop) (e : Nat) (E : Eng) : Prop := E.Ok ∧ ∃ m es clock vl vs ts, EngF w F e m es clock vl vs ts E (occF E.cs)
section
variable {w w' : World} {F G : Nat → Prop} {e m : Nat} {es : Array MapEntry} {clock : Nat} {vl vs : Value} {ts : List (Value × Value × Value)} {E : Eng} {f : Int → List Int}
theorem EngF.keep (h : EngF w F e m es clock vl vs ts E f) (hs : w.heap.size ≤ w'.heap.size) (hk : ∀ g, g < w.heap.size → F g → w'.heap[g]? = w.heap[g]?) : EngF w' F e m es clock vl vs ts E f where
 he := h.he
 blk := (hk e (lt_of_block h.blk) h.he).trans h.blk
 inn := h.inn.keep fun g hg hF _ => hk g hg hF
 l := h.l.keep fun g hg _ hF => hk g hg hF
 ps := ⟨h.ps.1, fun i t p h1 h2 => by
  obtain ⟨A, n, c, B, k, d, e1, r1, r2⟩ := (h.ps.2 i t p h1 h2).form
  exact ⟨⟨A, n, c, B, k, d, e1, r1.keep hs fun g hg hF => hk g hg hF.1, r2.keep hs fun g hg hF => hk g hg hF.1⟩, (h.ps.2 i t p h1 h2).bnd⟩⟩
 seen := h.seen.keep hs fun g hg hF => hk g hg hF.1
 apart := h.apart
theorem EngF.mono (h : EngF w F e m es clock vl vs ts E f) (hFG : ∀ g, F g → G g) : EngF w G e m es clock vl vs ts E f where
 he := hFG _ h.he
 blk := h.blk
 inn := h.inn.mono hFG
 l := h.l.mono fun g _ _ hF => hFG g hF
 ps := h.ps.mono fun g _ hF => ⟨hFG g hF.1, hF.2⟩
 seen := h.seen.mono fun g _ hF => ⟨hFG g hF.1, hF.2⟩
 apart := h.apart
theorem EngF.restrict (h : EngF w F e m es clock vl vs ts E f) : EngF w (fun g => F g ∧ g < w.heap.size) e m es clock vl vs ts E f where
 he := ⟨h.he, lt_of_block h.blk⟩
 blk := h.blk
 inn := ⟨⟨h.inn.hm, lt_of_block h.inn.map⟩, h.inn.map, h.inn.keyed, h.inn.inj, fun i x hx => (h.inn.vals i x hx).mono fun _ hg _ hF => ⟨hF, hg⟩, h.inn.gone, h.inn.apart⟩
 l := h.l.mono fun _ hg _ hF => ⟨hF, hg⟩
 ps := h.ps.mono fun _ hg hF => ⟨⟨hF.1, hg⟩, hF.2⟩
 seen := h.seen.mono fun _ hg hF => ⟨⟨hF.1, hg⟩, hF.2⟩
 apart := h.apart
theorem Engine.mono (h : Engine w F e E) (hFG : ∀ g, F g → G g) : Engine w G e E := by
 obtain ⟨ok, m, es, clock, vl, vs, ts, h⟩ := h
 exact ⟨ok, m, es, clock, vl, vs, ts, h.mono hFG⟩
theorem Engine.mod (h : Engine w F e E) (hm : Mod G w w') (hFG : ∀ g, g < w.heap.size → F g → ¬ G g) : Engine w' F e E := by
 obtain ⟨ok, m, es, clock, vl, vs, ts, h⟩ := h
 exact ⟨ok, m, es, clock, vl, vs, ts, h.keep hm.size fun g hg hF => hm.block g hg (hFG g hg hF)⟩
theorem Engine.below (h : Engine w F e E) (hb : Below w.heap.size w w') : Engine w' F e E := by
 obtain ⟨ok, m, es, clock, vl, vs, ts, h⟩ := h
 exact ⟨ok, m, es, clock, vl, vs, ts, h.keep hb.size fun g hg _ => hb.block g hg⟩
theorem EngF.me (h : EngF w F e m es clock vl vs ts E f) : e ≠ m := fun e1 => by
 have h1 := h.blk
 rw [e1, h.inn.map] at h1
 cases h1
theorem EngF.rowl (h : EngF w F e m es clock vl vs ts E f) {g : Nat} (hr : row vl g) : g ≠ e ∧ g ≠ m := by
 obtain ⟨_, cur, h1⟩ := h.l.row hr
 refine ⟨fun e1 => ?_, fun e1 => ?_⟩
 ·rw [e1, h.blk] at h1
  simp only [Option.some.injEq, Obj.cells.injEq] at h1
  exact absurd h1.2.1 (by decide)
 ·rw [e1, h.inn.map] at h1
  cases h1
theorem EngF.rowi (h : EngF w F e m es clock vl vs ts E f) {g : Nat} (hr : rowsIn es g) : g ≠ e ∧ g ≠ m := by
 obtain ⟨_, cur, h1⟩ := h.inn.inRow hr
 refine ⟨fun e1 => ?_, fun e1 => ?_⟩
 ·rw [e1, h.blk] at h1
  simp only [Option.some.injEq, Obj.cells.injEq] at h1
  exact absurd h1.2.1 (by decide)
 ·rw [e1, h.inn.map] at h1
  cases h1
theorem EngF.cells (h : EngF w F e m es clock vl vs ts E f) : w.cell? ⟨e, 0, none⟩ = some (.int .i64 E.vars) ∧ w.cell? ⟨e, 1, none⟩ = some vl ∧ w.cell? ⟨e, 2, none⟩ = some (.map (some m)) ∧ w.cell? ⟨e, 3, none⟩ = some vs ∧ w.cell? ⟨e, 4, none⟩ = some (.int .i64 E.done) :=
 ⟨by rw [cell_of_row _ _ _ _ _ _ h.blk]; rfl, by rw [cell_of_row _ _ _ _ _ _ h.blk]; rfl, by rw [cell_of_row _ _ _ _ _ _ h.blk]; rfl, by rw [cell_of_row _ _ _ _ _ _ h.blk]; rfl, by rw [cell_of_row _ _ _ _ _ _ h.blk]; rfl⟩
theorem EngF.froz (h : EngF w F e m es clock vl vs ts E f) (i : Nat) : w.frozen? ⟨e, i, none⟩ = false := by simp [World.frozen?, h.blk]
theorem EngF.put {w1 : World} {v v' : Value} {l : Int} {n : Nat} {ys : List Int} (h : EngF w F e m es clock vl vs ts E f)
  (hv : (∃ (j : Nat) (x : MapEntry), es.toList.findIdx? (fun x => keyNum x == l) = some j ∧ es[j]? = some x ∧ x.val = v ∧ keyNum x = l) ∨ (es.toList.findIdx? (fun x => keyNum x == l) = none ∧ v = .slice none 0 0 ∧ f l = [] ∧ ∀ (i : Nat) (x : MapEntry), es[i]? = some x → keyNum x ≠ l))
  (ho : Own w1 (fun b => F b ∨ w.heap.size ≤ b) 3 1 v' n (ints ys)) (hn : ys.length = n) (hm : Mod (row v) w w1) (hr : ∀ b, row v' b → row v b ∨ w.heap.size ≤ b) :
  ∃ es' clock', (∀ (t k e : TypeId), Tryz.prog.underlying t = some (.map k e) → Tryz.prog.underlying k = some (.int .i64) → (Instr.mapUpdate t (.map (some m)) (.int .i64 l) v').run Tryz.prog w1 = .ok () (ChangeMaps.setBlock w1 m (.map es' clock'))) ∧
   EngF (ChangeMaps.setBlock w1 m (.map es' clock')) (fun b => F b ∨ w.heap.size ≤ b) e m es' clock' vl vs ts E (fun x => if x = l then ys else f x) ∧ Mod F w (ChangeMaps.setBlock w1 m (.map es' clock')) := by
 obtain ⟨es', clock', h1, h2, h3, h4⟩ := h.inn.put hv ho hn hm hr
 have hrow : ∀ g, row v g → rowsIn es g := fun g hg => by
  rcases hv with ⟨j, x, _, e2, e3, _⟩ | ⟨_, e2, _⟩
  ·exact ⟨j, x, e2, e3 ▸ hg⟩
  ·rw [e2] at hg; exact absurd hg row_zero
 have hsz := h3.size
 have hno : ∀ g, g < w.heap.size → ¬ rowsIn es g → ¬ rowsIn es' g := fun g hg hn hr => (h4 g hr).elim hn fun hr => by omega
 refine ⟨es', clock', h1, ⟨.inl h.he, ?_, h2, ?_, ?_, ?_, fun g hg hr => ?_⟩, h3.mono fun g _ hg => hg.elim (fun e => e ▸ h.inn.hm) fun hg => (h.inn.inRow (hrow g hg)).1⟩
 ·refine (h3.block e (lt_of_block h.blk) fun hg => ?_).trans h.blk
  rcases hg with hg | hg
  ·exact h.me hg
  ·exact (h.rowi (hrow _ hg)).1 rfl
 ·refine (h.l.mod h3 fun g _ hr _ hg => ?_).mono fun g _ _ hg => .inl hg
  rcases hg with hg | hg
  ·exact (h.rowl hr).2 hg
  ·exact h.apart g hr (hrow g hg)
 ·exact ((h.ps.mono (G := fun g => (F g ∧ g ≠ e ∧ g ≠ m ∧ ¬ row vl g ∧ ¬ rowsIn es g) ∧ ¬ rowsIn es' g) fun g hg hF => ⟨hF, hno g hg hF.2.2.2.2⟩).mod h3 fun g _ hg hx => hx.elim hg.1.2.2.1 fun hx => hg.1.2.2.2.2 (hrow g hx)).mono fun g _ hF => ⟨.inl hF.1.1, hF.1.2.1, hF.1.2.2.1, hF.1.2.2.2.1, hF.2⟩
 ·exact ((h.seen.mono (G := fun g => (F g ∧ g ≠ e ∧ g ≠ m ∧ ¬ row vl g ∧ ¬ rowsIn es g) ∧ ¬ rowsIn es' g) fun g hg hF => ⟨hF, hno g hg hF.2.2.2.2⟩).mod h3 fun g _ hg hx => hx.elim hg.1.2.2.1 fun hx => hg.1.2.2.2.2 (hrow g hx)).mono fun g _ hF => ⟨.inl hF.1.1, hF.1.2.1, hF.1.2.2.1, hF.1.2.2.2.1, hF.2⟩
 ·rcases h4 g hr with h5 | h5
  ·exact h.apart g hg h5
  ·have := lt_of_block (h.l.row hg).2.choose_spec
   omega
theorem EngF.push {vl' : Value} {n : Nat} {t : Value × Value × Value} {c : Pb} {B : Nat} (h : EngF w F e m es clock vl vs ts E f) (hn : n = E.cs.length) (ho : Own w' (fun b => F b ∨ w.heap.size ≤ b) 41 3 vl' (n + 1) (flat3 ts ++ [t.1, t.2.1, t.2.2])) (hm : Mod (row vl) w w') (hr : ∀ b, row vl' b → row vl b ∨ w.heap.size ≤ b)
  (hp : PbRd w (fun g => B ≤ g) (agg3 t) c) (hB : ∀ g, B ≤ g → g ≠ e ∧ g ≠ m ∧ ¬ row vl g ∧ ¬ rowsIn es g) (hBF : ∀ g, B ≤ g → F g) :
  EngF (w'.setCell ⟨e, 1, none⟩ vl') (fun b => F b ∨ w.heap.size ≤ b) e m es clock vl' vs (ts ++ [t]) { E with cs := E.cs ++ [c] } f ∧ Mod F w (w'.setCell ⟨e, 1, none⟩ vl') := by
 have hblk : w'.heap[e]? = some (.cells #[.int .i64 E.vars, vl, .map (some m), vs, .int .i64 E.done] 124 (0, 0)) := (hm.block e (lt_of_block h.blk) fun hg => (h.rowl hg).1 rfl).trans h.blk
 have m2 : Mod (fun g => g = e) w' (w'.setCell ⟨e, 1, none⟩ vl') := (Mod.refl (fun g => g = e) _).setCell (p := ⟨e, 1, none⟩) (.inl rfl) _
 have hM : Mod (fun g => g = e ∨ row vl g) w (w'.setCell ⟨e, 1, none⟩ vl') := (hm.mono fun g _ hg => .inr hg).trans (m2.mono fun g _ hg => .inl (.inl hg))
 have hre : ∀ g, row vl' g → g ≠ e := fun g hg e1 => by
  subst e1
  obtain ⟨_, cur, h1⟩ := ho.row hg
  rw [hblk] at h1
  simp only [Option.some.injEq, Obj.cells.injEq] at h1
  exact absurd h1.2.1 (by decide)
 have hnl : ∀ g, g < w.heap.size → ¬ row vl g → ¬ row vl' g := fun g hg hn hx => (hr g hx).elim hn fun hx => by omega
 refine ⟨⟨.inl h.he, ?_, ?_, ?_, ?_, ?_, fun g hg hx => ?_⟩, hM.mono fun g _ hg => hg.elim (fun e1 => e1 ▸ h.he) fun hg => (h.l.row hg).1⟩
 ·have := heap_setCell_same w' e 1 _ _ vl' hblk
  simpa using this
 ·exact (h.inn.mod hM fun g _ _ hx hg => by
   rcases hg with hg | hg
   ·rcases hx with hx | hx
    ·exact h.me (hg.symm.trans hx)
    ·exact (h.rowi hx).1 hg
   ·rcases hx with hx | hx
    ·exact (h.rowl hg).2 hx
    ·exact h.apart g hg hx).mono fun g hg => .inl hg
 ·have hl : (E.cs ++ [c]).length = n + 1 := by rw [List.length_append, hn]; rfl
  show Own _ _ _ 3 vl' (E.cs ++ [c]).length _
  rw [hl, flat3_append]
  exact ho.mod m2 fun g _ hg _ e1 => hre g hg e1
 ·have h1 := h.ps.mono (G := fun g => (F g ∧ g ≠ e ∧ g ≠ m ∧ ¬ row vl g ∧ ¬ rowsIn es g) ∧ ¬ row vl' g) fun g hg hF => ⟨hF, hnl g hg hF.2.2.2.1⟩
  have h2 := hp.mono (G := fun g => (F g ∧ g ≠ e ∧ g ≠ m ∧ ¬ row vl g ∧ ¬ rowsIn es g) ∧ ¬ row vl' g) fun g hg hF => ⟨⟨hBF g hF, hB g hF⟩, hnl g hg (hB g hF).2.2.1⟩
  exact ((h1.snoc h2).mod hM fun g _ hg hx => hx.elim hg.1.2.1 hg.1.2.2.2.1).mono fun g _ hF => ⟨.inl hF.1.1, hF.1.2.1, hF.1.2.2.1, hF.2, hF.1.2.2.2.2⟩
 ·exact ((h.seen.mono (G := fun g => (F g ∧ g ≠ e ∧ g ≠ m ∧ ¬ row vl g ∧ ¬ rowsIn es g) ∧ ¬ row vl' g) fun g hg hF => ⟨hF, hnl g hg hF.2.2.2.1⟩).mod hM fun g _ hg hx => hx.elim hg.1.2.1 hg.1.2.2.2.1).mono fun g _ hF => ⟨.inl hF.1.1, hF.1.2.1, hF.1.2.2.1, hF.2, hF.1.2.2.2.2⟩
 ·rcases hr g hg with h5 | h5
  ·exact h.apart g h5 hx
  ·have := lt_of_block (h.inn.inRow hx).2.choose_spec
   omega
end
end
section
open Go.RowKit
set_option maxHeartbeats 400000 in
theorem enew_ok {w : World} {vars : Nat} (hv : vars ≤ 65536) :
  Calls Tryz.prog 47 #[.int .i64 vars] w fun r w' => (∃ b, r = .returned (.tuple #[.pointer (some ⟨b, 0, none⟩), .int .i64 0]) ∧ Engine w' (fun g => w.heap.size ≤ g) b ⟨vars, [], [], 0⟩) ∧ Below w.heap.size w w' := by
 have hlt : ((vars : Int) < 0) = False := by simp
 have hmm := @run_makeMap Tryz.prog
 go_enter Tryz.func47, Tryz.ntmps47
 go_wp2
 go_ret2
 refine ⟨⟨_, rfl, ⟨hv, by simp, by simp, Nat.zero_le _, fun j hj => absurd hj (by simp)⟩, w.heap.size, #[], 0, .slice none 0 0, .slice none 0 0, [], ?_⟩, ((Below.refl _ _).alloc (Nat.le_refl _) _).alloc (by simp) _⟩
 exact { he := by simp, blk := heap_alloc2_new w _ _, inn := { hm := by simp, map := heap_alloc2_old w _ _, keyed := by simp, inj := by simp, vals := by simp, gone := fun l _ => rfl, apart := by simp }, l := Own.nil _ _ _ _, ps := Ps.nil _ _, seen := (Own.nil _ _ 0 1).rd, apart := fun g hg => absurd hg row_zero }
theorem eql_map_in (w : World) (r : Option Nat) : (binOp .eql 122 (.map r) (.map none)).run Tryz.prog w = .ok (.bool r.isNone) w := run_eql_map_nil w _ _ _ r Tryz.underlying122
attribute [go_sem] eql_map_in
section
variable {w : World} {F : Nat → Prop} {b : Nat} {E : Eng}
theorem enone_any (h : Engine w F b E) : Calls Tryz.prog 74 #[.pointer (some ⟨b, 0, none⟩)] w fun r w' => r = .returned (.bool false) ∧ w = w' := by
 obtain ⟨_, m, es, clock, vl, vs, ts, h⟩ := h
 obtain ⟨_, _, c2, _, _⟩ := h.cells
 have he := eql_map_in w (some m)
 go_enter Tryz.func74, Tryz.ntmps74
 go_wp2
 go_ret
 exact ⟨rfl, rfl⟩
end
end
end Go.Proofs.YtcjmpobccbnpkaaGreat
