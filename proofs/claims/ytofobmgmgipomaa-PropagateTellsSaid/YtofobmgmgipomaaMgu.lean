/-
  Chapter 29: several texts in one (EnV EnX EnW).
-/
import Derived.Test.YtofobmgmgipomaaMgr
import Derived.Test.YtofobmgmgipomaaMgt
import Derived.Test.YtofobmgmgipomaaMgd
namespace Go.Proofs.Ytofobmgmgipomaa
section
open Go.RowKit

section
variable {w w' : World} {F G : Nat → Prop} {eb tb : Nat} {E : Eng} {T : Tr}
theorem EngTr.mono (h : EngTr w F eb tb E T) (hFG : ∀ g, F g → G g) : EngTr w G eb tb E T := by
  obtain ⟨Fe, Ft, h1, h2, h3, h4, h5⟩ := h
  exact ⟨Fe, Ft, h1, h2, fun g hg => hFG g (h3 g hg), fun g hg => hFG g (h4 g hg), h5⟩
theorem EngTr.mod (h : EngTr w F eb tb E T) (hm : Mod G w w') (hFG : ∀ g, g < w.heap.size → F g → ¬ G g) : EngTr w' F eb tb E T := by
  obtain ⟨Fe, Ft, h1, h2, h3, h4, h5⟩ := h
  exact ⟨Fe, Ft, h1.mod hm fun g hg hf => hFG g hg (h3 g hf), h2.mod hm fun g hg hf => hFG g hg (h4 g hf), h3, h4, h5⟩
theorem EngTr.below (h : EngTr w F eb tb E T) (hb : Below w.heap.size w w') : EngTr w' F eb tb E T := by
  obtain ⟨Fe, Ft, h1, h2, h3, h4, h5⟩ := h
  exact ⟨Fe, Ft, h1.below hb, h2.below hb, h3, h4, h5⟩
theorem EngTr.restrict (h : EngTr w F eb tb E T) : EngTr w (fun g => F g ∧ g < w.heap.size) eb tb E T := by
  obtain ⟨Fe, Ft, ⟨ok, m, es, clock, vl, vs, ts, h1⟩, h2, h3, h4, h5⟩ := h
  exact ⟨_, _, ⟨ok, m, es, clock, vl, vs, ts, h1.restrict⟩, h2.restrict, fun g hg => ⟨h3 g hg.1, hg.2⟩, fun g hg => ⟨h4 g hg.1, hg.2⟩, fun g hg hf => h5 g hg.1 hf.1⟩
theorem EngTr.trail (h : EngTr w F eb tb E T) : Trail w F tb T := by
  obtain ⟨Fe, Ft, h1, h2, h3, h4, h5⟩ := h
  exact h2.mono h4
theorem EngTr.engine (h : EngTr w F eb tb E T) : Engine w F eb E := by
  obtain ⟨Fe, Ft, h1, h2, h3, h4, h5⟩ := h
  exact h1.mono h3
theorem EngTr.stepT (h : EngTr w F eb tb E T) : ∃ Ft, Trail w Ft tb T ∧ (∀ g, Ft g → F g) ∧ ∀ w' T', Trail w' (fun g => Ft g ∨ w.heap.size ≤ g) tb T' → Mod Ft w w' → EngTr w' (fun g => F g ∨ w.heap.size ≤ g) eb tb E T' := by
  obtain ⟨Fe, Ft, h1, h2, h3, h4, h5⟩ := h.restrict
  refine ⟨Ft, h2, fun g hg => (h4 g hg).1, fun w' T' ht hm => ⟨Fe, _, h1.mod hm fun g _ hf => h5 g hf, ht, fun g hg => .inl (h3 g hg).1, fun g hg => hg.elim (fun hg => .inl (h4 g hg).1) .inr, fun g hg hf => hf.elim (h5 g hg) fun hf => ?_⟩⟩
  have := (h3 g hg).2
  omega
theorem EngTr.stepE (h : EngTr w F eb tb E T) : ∃ Fe, Engine w Fe eb E ∧ (∀ g, Fe g → F g) ∧ ∀ w' E', Engine w' (fun g => Fe g ∨ w.heap.size ≤ g) eb E' → Mod Fe w w' → EngTr w' (fun g => F g ∨ w.heap.size ≤ g) eb tb E' T := by
  obtain ⟨Fe, Ft, h1, h2, h3, h4, h5⟩ := h.restrict
  refine ⟨Fe, h1, fun g hg => (h3 g hg).1, fun w' E' he hm => ⟨_, Ft, he, h2.mod hm fun g _ hf hg => h5 g hg hf, fun g hg => hg.elim (fun hg => .inl (h3 g hg).1) .inr, fun g hg => .inl (h4 g hg).1, fun g hg hf => hg.elim (fun hg => h5 g hg hf) fun hg => ?_⟩⟩
  have := (h4 g hf).2
  omega
theorem etr_decide (h : EngTr w F eb tb E T) {l : Int} (hl : I64 l) :
    Calls Try.prog 26 #[.pointer (some ⟨tb, 0, none⟩), .int .i64 l] w fun r w' => r = .returned (.int .i64 (err (T.freeB l))) ∧ EngTr w' (fun g => F g ∨ w.heap.size ≤ g) eb tb E (T.dec l) ∧ Mod F w w' := by
  obtain ⟨Ft, ht, hF, hk⟩ := h.stepT
  refine (decide_e ht hl).mono ?_
  rintro r w' ⟨rfl, h1, h2⟩
  exact ⟨rfl, hk _ _ h1 h2, h2.mono fun g _ hg => hF g hg⟩
theorem etr_undo (h : EngTr w F eb tb E T) (k : Int) :
    Calls Try.prog 22 #[.pointer (some ⟨tb, 0, none⟩), .int .i64 k] w fun r w' => (∃ u, r = .returned u) ∧ EngTr w' (fun g => F g ∨ w.heap.size ≤ g) eb tb E (T.back (lvl k)) ∧ Mod F w w' := by
  obtain ⟨Ft, ht, hF, hk⟩ := h.stepT
  refine (undo_e ht k).mono ?_
  rintro r w' ⟨⟨u, rfl, _⟩, h1, h2⟩
  exact ⟨⟨_, rfl⟩, hk _ _ h1 h2, h2.mono fun g _ hg => hF g hg⟩
theorem etr_decided (h : EngTr w F eb tb E T) {A : Option Addr} {n c : Nat} {ls : List Int} (hl : Rd w G 1 (.slice A n c) n (ints ls)) (hi : ∀ x ∈ ls, I64 x) (hGF : ∀ g, G g → ¬ F g) :
    Calls Try.prog 11 #[.pointer (some ⟨tb, 0, none⟩), .slice A n c] w fun r w' => (∃ v, r = .returned v) ∧ EngTr w' (fun g => F g ∨ w.heap.size ≤ g) eb tb E (T.decs (ls.take 7)) ∧ Mod F w w' := by
  obtain ⟨Ft, ht, hF, hk⟩ := h.stepT
  refine (decided_any ht hl hi fun g hg hf => hGF g hg (hF g hf)).mono ?_
  rintro r w' ⟨h0, h1, h2⟩
  exact ⟨h0, hk _ _ h1 h2, h2.mono fun g _ hg => hF g hg⟩
theorem etr_add (h : EngTr w F eb tb E T) {v : Value} {c : Pb} (hc : PbRd w G v c) (hic : ∀ k ∈ c.coefs, I64 k) (hGF : ∀ g, G g → ¬ F g) (hlen : E.cs.length ≤ 500000) :
    Calls Try.prog 15 #[.pointer (some ⟨eb, 0, none⟩), v] w fun r w' => r = .returned (.int .i64 (if E.fits c = true then 0 else 2)) ∧ EngTr w' (fun g => F g ∨ w.heap.size ≤ g) eb tb (if E.fits c = true then E.add c else E) T ∧ Mod F w w' := by
  obtain ⟨Fe, he, hF, hk⟩ := h.stepE
  refine (eadd_any he hc hic (fun g hg hf => hGF g hg (hF g hf)) hlen).mono ?_
  rintro r w' ⟨rfl, h1, h2⟩
  exact ⟨rfl, hk _ _ h1 h2, h2.mono fun g _ hg => hF g hg⟩
/-- A slice of one constraint, of two. -/
theorem ps_one {W : World} {Z : Nat} {x y : Value} {b : Int} {p : Pb} (k : W.heap[Z]? = some (.cells #[x, y, .int .i64 b] 36)) (hp : PbRd W G (agg3 (x, y, .int .i64 b)) p) : PsRd W (fun g => g = Z) G (some ⟨Z, 0, none⟩) 1 1 [p] :=
  ⟨[(x, y, .int .i64 b)], rd_lit3 k, (Ps.nil W G).snoc hp, rfl⟩
theorem ps_two {W : World} {Z : Nat} {x y x' y' : Value} {b b' : Int} {p p' : Pb} (k : W.heap[Z]? = some (.cells #[x, y, .int .i64 b, x', y', .int .i64 b'] 36)) (hp : PbRd W G (agg3 (x, y, .int .i64 b)) p) (hp' : PbRd W G (agg3 (x', y', .int .i64 b')) p') :
    PsRd W (fun g => g = Z) G (some ⟨Z, 0, none⟩) 2 2 [p, p'] := by
  refine ⟨[(x, y, .int .i64 b), (x', y', .int .i64 b')], ⟨rfl, _, _, rfl, Nat.le_refl _, by decide, fun _ => ⟨Z, 0, rfl, rfl, lt_of_block k, fun j u hj => ?_⟩⟩, ((Ps.nil W G).snoc hp).snoc hp', rfl⟩
  rw [Nat.zero_add, cell_of_row _ _ _ _ _ _ k]
  rw [← hj]
  simp [flat3]
theorem lit_step (W : World) (xs : List Int) (h0 : 0 < xs.length) (hn : xs.length ≤ 1000000) : ∃ X, W.alloc (.cells (ints xs).toArray 3) = X ∧ Below W.heap.size W X ∧ Rd X (fun g => g = W.heap.size) 1 (.slice (some ⟨W.heap.size, 0, none⟩) xs.length xs.length) xs.length (ints xs) ∧ X.heap.size = W.heap.size + 1 :=
  ⟨_, rfl, (Below.refl _ _).alloc (Nat.le_refl _) _, (own_lit W xs h0 hn).rd, World.size_alloc _ _⟩
theorem PsRd.i64s {A : Option Addr} {n c : Nat} {ps : List Pb} (_h : PsRd w F G A n c ps) (hok : ∀ p ∈ ps, p.Ok) : ∀ p ∈ ps, ∀ k ∈ p.coefs, I64 k := fun p hp => (hok p hp).i64
end
end

section
open Go.RowKit

theorem cAt_of_mem {cs : List Pb} {c : Pb} (h : c ∈ cs) : ∃ j, j < cs.length ∧ cAt cs j = c := by
  obtain ⟨j, hj, e⟩ := List.getElem_of_mem h
  exact ⟨j, hj, by simp [cAt, hj, e]⟩
theorem calm_all {cs : List Pb} {Y : List Int} (h : ∀ j, j < cs.length → (cAt cs j).Calm Y) : ∀ c ∈ cs, c.Calm Y := fun c hc => by
  obtain ⟨j, hj, rfl⟩ := cAt_of_mem hc
  exact h j hj
/-- Where one propagation ends calm, no other over fewer constraints from fewer literals finds a conflict. -/
theorem no_clash {cs1 cs2 : List Pb} {X Y : List Int} {xs : List Nat} {i : Nat} (hcs : ∀ c ∈ cs1, c.Ok) (hsub : ∀ c ∈ cs1, c ∈ cs2) (hY : okX Y) (hc : ∀ c ∈ cs2, c.Calm Y) (hX : ∀ l ∈ X, l ∈ Y) (hi : ∀ i ∈ xs, i < cs1.length) (hi1 : i < cs1.length) : ¬ (cAt cs1 i).slackX (runX cs1 X xs) < 0 := by
  have h := run_inside hcs hsub hY hc xs X hX hi
  have h2 := (calm_holds (hcs _ (cAt_mem hi1)) h.2 hY (hc _ (hsub _ (cAt_mem hi1)))).1
  omega
theorem same_val {X Y : List Int} (h : ∀ l ∈ X, l ∈ Y) (h2 : ∀ l ∈ Y, l ∈ X) (l : Int) : valX X l = valX Y l := by
  have e : ∀ l, l ∈ X ↔ l ∈ Y := fun l => ⟨h l, h2 l⟩
  unfold valX
  simp only [e]
/-- What Propagate tells and leaves. -/
inductive PropR (E : Eng) (T : Tr) : Eng → Tr → Value → Bool → Prop
  | calm (A : Option Addr) (c : Nat) (xs : List Nat) (h1 : ∀ i ∈ xs, i < E.cs.length) (h2 : fineX E.cs T.lits xs) (h3 : ∀ j, j < E.cs.length → (cAt E.cs j).Calm (runX E.cs T.lits xs)) :
      PropR E T { E with seen := runX E.cs T.lits xs, done := E.cs.length } (T.exams E.cs xs) (.slice A 0 c) false
  | bad (u : Value) (xs : List Nat) (i : Nat) (h1 : ∀ i ∈ xs, i < E.cs.length) (h2 : fineX E.cs T.lits xs) (h3 : i < E.cs.length) (h4 : (cAt E.cs i).slackX (runX E.cs T.lits xs) < 0) :
      PropR E T { E with seen := [], done := 0 } (T.exams E.cs xs) u true
section
variable {E E' : Eng} {T T' : Tr} {v : Value} {b : Bool}
theorem PropR.cs (h : PropR E T E' T' v b) : E'.cs = E.cs := by cases h <;> rfl
theorem PropR.evars (h : PropR E T E' T' v b) : E'.vars = E.vars := by cases h <;> rfl
theorem PropR.exams (h : PropR E T E' T' v b) : ∃ xs, (∀ i ∈ xs, i < E.cs.length) ∧ T' = T.exams E.cs xs := by
  cases h with
  | calm A c xs h1 h2 h3 => exact ⟨xs, h1, rfl⟩
  | bad u xs i h1 h2 h3 h4 => exact ⟨xs, h1, rfl⟩
theorem PropR.tvars (h : PropR E T E' T' v b) (hE : E.Ok) (hT : T.WF) (hv : E.vars ≤ T.vars) : T'.vars = T.vars := by
  obtain ⟨xs, h1, rfl⟩ := h.exams
  exact (Tr.exams_is hE.cs xs T hT (fun c hc l hl => Nat.le_trans (hE.lits c hc l hl) hv) h1).vars
end
theorem etr_prop {w : World} {F : Nat → Prop} {eb tb : Nat} {E : Eng} {T : Tr} (hET : EngTr w F eb tb E T) (hv : E.vars ≤ T.vars) (hn : E.cs.length ≤ 1000000) :
    Calls Try.prog 12 #[.pointer (some ⟨eb, 0, none⟩), .pointer (some ⟨tb, 0, none⟩)] w fun r w' => (∃ v b E' T', r = .returned (.tuple #[v, .bool b]) ∧ PropR E T E' T' v b ∧ EngTr w' (fun g => F g ∨ w.heap.size ≤ g) eb tb E' T') ∧ Mod F w w' := by
  refine (prop_any hET hv hn).mono ?_
  rintro r w' ⟨h, hm⟩
  cases h with
  | calm A c xs h1 h2 h3 h4 => exact ⟨⟨_, _, _, _, rfl, .calm A c xs h1 h2 h3, h4⟩, hm⟩
  | bad u xs i B h1 h2 h3 h4 h5 h6 h7 => exact ⟨⟨_, _, _, _, rfl, .bad u xs i h1 h2 h3 h4, h7.mono fun g hg => hg.1⟩, hm⟩

/-- Two engines with their trails, all of them in blocks from B on. -/
def Duo (B : Nat) (w : World) (eb tb : Nat) (E : Eng) (T : Tr) (fb ub : Nat) (E2 : Eng) (T2 : Tr) : Prop := ∃ Fe Ff, EngTr w Fe eb tb E T ∧ EngTr w Ff fb ub E2 T2 ∧ (∀ g, Fe g → B ≤ g) ∧ (∀ g, Ff g → B ≤ g) ∧ (∀ g, Fe g → ¬ Ff g)
section
variable {w w' : World} {B eb tb fb ub : Nat} {E E2 : Eng} {T T2 : Tr} {G : Nat → Prop}
theorem Duo.swap (h : Duo B w eb tb E T fb ub E2 T2) : Duo B w fb ub E2 T2 eb tb E T := by
  obtain ⟨Fe, Ff, h1, h2, h3, h4, h5⟩ := h
  exact ⟨Ff, Fe, h2, h1, h4, h3, fun g a b => h5 g b a⟩
theorem Duo.below (h : Duo B w eb tb E T fb ub E2 T2) (b : Below w.heap.size w w') : Duo B w' eb tb E T fb ub E2 T2 := by
  obtain ⟨Fe, Ff, h1, h2, h3, h4, h5⟩ := h
  exact ⟨Fe, Ff, h1.below b, h2.below b, h3, h4, h5⟩
theorem Duo.step (h : Duo B w eb tb E T fb ub E2 T2) (hB : B ≤ w.heap.size) : ∃ Fe, EngTr w Fe eb tb E T ∧ (∀ g, Fe g → B ≤ g) ∧ ∀ w' tb' E' T', EngTr w' (fun g => Fe g ∨ w.heap.size ≤ g) eb tb' E' T' → Mod Fe w w' → Duo B w' eb tb' E' T' fb ub E2 T2 ∧ Below B w w' := by
  obtain ⟨Fe, Ff, h1, h2, h3, h4, h5⟩ := h
  refine ⟨Fe, h1, h3, fun w' tb' E' T' he hm => ⟨⟨_, fun g => Ff g ∧ g < w.heap.size, he, (h2.restrict).mod hm fun g _ hf hg => h5 g hg hf.1, fun g hg => hg.elim (h3 g) fun hg => Nat.le_trans hB hg, fun g hg => h4 g hg.1, fun g hg hf => hg.elim (fun hg => h5 g hg hf.1) fun hg => ?_⟩, below_mod (Below.refl _ _) hB hm fun g hg => h3 g hg⟩⟩
  have := hf.2
  omega
theorem Duo.trail (h : Duo B w eb tb E T fb ub E2 T2) : ∃ Ft, Trail w Ft tb T := by
  obtain ⟨Fe, Ff, h1, h2, h3, h4, h5⟩ := h
  exact ⟨_, h1.trail⟩
theorem Duo.ok (h : Duo B w eb tb E T fb ub E2 T2) : E.Ok ∧ T.WF := by
  obtain ⟨Fe, Ff, h1, h2, h3, h4, h5⟩ := h
  exact ⟨h1.engine.1, h1.trail.wf⟩
theorem duo_decided (h : Duo B w eb tb E T fb ub E2 T2) (hB : B ≤ w.heap.size) {A : Option Addr} {n c : Nat} {ls : List Int} (hl : Rd w (fun g => g < B) 1 (.slice A n c) n (ints ls)) (hi : ∀ x ∈ ls, I64 x) :
    Calls Try.prog 11 #[.pointer (some ⟨tb, 0, none⟩), .slice A n c] w fun r w' => (∃ v, r = .returned v) ∧ Duo B w' eb tb E (T.decs (ls.take 7)) fb ub E2 T2 ∧ Below B w w' := by
  obtain ⟨Fe, he, hb, hk⟩ := h.step hB
  refine (etr_decided he hl hi fun g hg hf => by have := hb g hf; omega).mono ?_
  rintro r w' ⟨h0, h1, h2⟩
  exact ⟨h0, hk _ _ _ _ h1 h2⟩
theorem duo_undo (h : Duo B w eb tb E T fb ub E2 T2) (hB : B ≤ w.heap.size) (k : Int) :
    Calls Try.prog 22 #[.pointer (some ⟨tb, 0, none⟩), .int .i64 k] w fun r w' => (∃ u, r = .returned u) ∧ Duo B w' eb tb E (T.back (lvl k)) fb ub E2 T2 ∧ Below B w w' := by
  obtain ⟨Fe, he, hb, hk⟩ := h.step hB
  refine (etr_undo he k).mono ?_
  rintro r w' ⟨h0, h1, h2⟩
  exact ⟨h0, hk _ _ _ _ h1 h2⟩
theorem duo_add (h : Duo B w eb tb E T fb ub E2 T2) (hB : B ≤ w.heap.size) {v : Value} {c : Pb} (hc : PbRd w (fun g => g < B) v c) (hic : ∀ k ∈ c.coefs, I64 k) (hf : E.fits c = true) (hlen : E.cs.length ≤ 500000) :
    Calls Try.prog 15 #[.pointer (some ⟨eb, 0, none⟩), v] w fun r w' => r = .returned (.int .i64 0) ∧ Duo B w' eb tb (E.add c) T fb ub E2 T2 ∧ Below B w w' := by
  obtain ⟨Fe, he, hb, hk⟩ := h.step hB
  refine (etr_add he hc hic (fun g hg hf => by have := hb g hf; omega) hlen).mono ?_
  rintro r w' ⟨h0, h1, h2⟩
  rw [if_pos hf] at h0 h1
  exact ⟨h0, hk _ _ _ _ h1 h2⟩
theorem duo_prop (h : Duo B w eb tb E T fb ub E2 T2) (hB : B ≤ w.heap.size) (hv : E.vars ≤ T.vars) (hn : E.cs.length ≤ 1000000) :
    Calls Try.prog 12 #[.pointer (some ⟨eb, 0, none⟩), .pointer (some ⟨tb, 0, none⟩)] w fun r w' => (∃ v b E' T', r = .returned (.tuple #[v, .bool b]) ∧ PropR E T E' T' v b ∧ Duo B w' eb tb E' T' fb ub E2 T2) ∧ Below B w w' := by
  obtain ⟨Fe, he, hb, hk⟩ := h.step hB
  refine (etr_prop he hv hn).mono ?_
  rintro r w' ⟨⟨v, b, E', T', rfl, hp, h1⟩, h2⟩
  obtain ⟨h3, h4⟩ := hk _ _ _ _ h1 h2
  exact ⟨⟨_, _, _, _, rfl, hp, h3⟩, h4⟩
/-- A new trail in the place of the first. -/
theorem duo_new (h : Duo B w eb tb E T fb ub E2 T2) (hB : B ≤ w.heap.size) :
    Calls Try.prog 19 #[.int .i64 7] w fun r w' => (∃ b, r = .returned (.tuple #[.pointer (some ⟨b, 0, none⟩), .int .i64 0]) ∧ Duo B w' eb b E ⟨7, [], []⟩ fb ub E2 T2) ∧ Below B w w' := by
  obtain ⟨Fe, he, hb, hk⟩ := h.step hB
  refine (new_ok (vars := 7) (by decide)).mono ?_
  rintro r w' ⟨⟨b, rfl, ht⟩, h2⟩
  obtain ⟨Fe', Ft, h1, _, h4, h5, h6⟩ := he.restrict
  obtain ⟨h7, h8⟩ := hk w' b E ⟨7, [], []⟩ ⟨fun g => Fe' g, fun g => w.heap.size ≤ g, h1.below h2, ht, fun g hg => .inl (h4 g hg).1, fun g hg => .inr hg, fun g hg hf => by have := (h4 g hg).2; omega⟩ (Mod.of_below h2)
  exact ⟨⟨b, rfl, h7⟩, h8⟩
end
theorem Tr.decs_vars (ls : List Int) : ∀ T : Tr, (T.decs ls).vars = T.vars := by
  induction ls with
  | nil => intro T; rfl
  | cons l ls ih => intro T; exact (ih (T.dec (Int.tmod l 8))).trans (T.dec_vars _)
section
variable {E E' F F' : Eng} {T T' U U' : Tr} {v v2 : Value} {b b2 : Bool}
theorem PropR.lits (h : PropR E T E' T' v b) (hE : E.Ok) (hT : T.WF) (hv : E.vars ≤ T.vars) : ∃ xs, (∀ i ∈ xs, i < E.cs.length) ∧ T'.lits = runX E.cs T.lits xs ∧ okX T'.lits ∧ (∀ l ∈ T.lits, l ∈ T'.lits) ∧
    (b = false → ∀ c ∈ E.cs, c.Calm T'.lits) ∧ (b = true → ∃ i, i < E.cs.length ∧ (cAt E.cs i).slackX (runX E.cs T.lits xs) < 0) := by
  have hl : ∀ c ∈ E.cs, ∀ l ∈ c.lits, l.natAbs ≤ T.vars := fun c hc l hl => Nat.le_trans (hE.lits c hc l hl) hv
  cases h with
  | calm A c xs h1 h2 h3 =>
    have h := Tr.exams_is hE.cs xs T hT hl h1
    exact ⟨xs, h1, h.lits, h.wf.okX, fun l hl => by rw [h.lits]; exact runX_sub hl, fun _ => by rw [h.lits]; exact calm_all h3, fun e => by cases e⟩
  | bad u xs i h1 h2 h3 h4 =>
    have h := Tr.exams_is hE.cs xs T hT hl h1
    exact ⟨xs, h1, h.lits, h.wf.okX, fun l hl => by rw [h.lits]; exact runX_sub hl, (fun e => by cases e), fun _ => ⟨i, h3, h4⟩⟩
theorem propR_same (P1 : PropR E T E' T' v b) (P2 : PropR F U F' U' v2 b2) (hE : E.Ok) (hF : F.Ok) (hT : T.WF) (hU : U.WF) (hv1 : E.vars ≤ T.vars) (hv2 : F.vars ≤ U.vars) (h12 : ∀ c ∈ E.cs, c ∈ F.cs) (h21 : ∀ c ∈ F.cs, c ∈ E.cs)
    (hX1 : ∀ l ∈ U.lits, l ∈ T.lits) (hX2 : okX U'.lits → (∀ c ∈ F.cs, c.Calm U'.lits) → (∀ l ∈ U.lits, l ∈ U'.lits) → ∀ l ∈ T.lits, l ∈ U'.lits) : b = b2 ∧ (b = false → ∀ l, T'.value l = U'.value l) := by
  obtain ⟨xs, i1, e1, o1, s1, c1, d1⟩ := P1.lits hE hT hv1
  obtain ⟨ys, i2, e2, o2, s2, c2, d2⟩ := P2.lits hF hU hv2
  have hb : b = b2 := by
    cases b with
    | false =>
      cases b2 with
      | false => rfl
      | true =>
        obtain ⟨i, hi, hs⟩ := d2 rfl
        exact absurd hs (no_clash hF.cs h21 o1 (c1 rfl) (fun l hl => s1 l (hX1 l hl)) i2 hi)
    | true =>
      cases b2 with
      | true => rfl
      | false =>
        obtain ⟨i, hi, hs⟩ := d1 rfl
        exact absurd hs (no_clash hE.cs h12 o2 (c2 rfl) (hX2 o2 (c2 rfl) s2) i1 hi)
  refine ⟨hb, fun hf l => ?_⟩
  have hf2 : b2 = false := hb ▸ hf
  rw [Tr.value_is, Tr.value_is]
  refine same_val (fun l hl => ?_) (fun l hl => ?_) l
  · rw [e1] at hl
    exact (run_inside hE.cs h12 o2 (c2 hf2) xs T.lits (hX2 o2 (c2 hf2) s2) i1).2 l hl
  · rw [e2] at hl
    exact (run_inside hF.cs h21 o1 (c1 hf) ys U.lits (fun l hl => s1 l (hX1 l hl)) i2).2 l hl
/-- Where all is calm, propagation goes on calm. -/
theorem PropR.again (P1 : PropR E T E' T' v false) (P2 : PropR E' T' F' U' v2 b2) (hE : E.Ok) (hT : T.WF) (hv : E.vars ≤ T.vars) (hE' : E'.Ok) (hT' : T'.WF) (hv' : E'.vars ≤ T'.vars) : b2 = false := by
  obtain ⟨xs, i1, e1, o1, s1, c1, d1⟩ := P1.lits hE hT hv
  obtain ⟨ys, i2, e2, o2, s2, c2, d2⟩ := P2.lits hE' hT' hv'
  cases b2 with
  | false => rfl
  | true =>
    obtain ⟨i, hi, hs⟩ := d2 rfl
    exact absurd hs (no_clash hE'.cs (fun c hc => P1.cs ▸ hc) o1 (c1 rfl) (fun l hl => hl) i2 hi)
end
end

section
open Go.RowKit

set_option maxRecDepth 100000 in
set_option maxHeartbeats 8000000 in
theorem awake29_any {w : World} : Calls Try.prog 13 #[] w fun r w' => r = .returned (.bool true) ∧ Below w.heap.size w w' := by
  go_enter Try.func13, Try.ntmps13
  go_wp2_with fail
  obtain ⟨X1, hX1, b1, r1, s1⟩ := lit_step w [1, 2, 3] (by decide) (by decide)
  obtain ⟨X2, hX2, b2, r2, s2⟩ := lit_step X1 [2, 1, 1] (by decide) (by decide)
  rw [show (w.alloc (.cells #[.int .i64 1, .int .i64 2, .int .i64 3] 3)).alloc (.cells #[.int .i64 2, .int .i64 1, .int .i64 1] 3) = X2 from by rw [← hX2, ← hX1]; rfl]
  rw [s1] at r2
  refine (norm_any (r1.below b2) r2 (by simp [I64]) (by simp [I64]) (by simp [I64])).mono ?_
  rintro r w3 ⟨⟨pv, rfl, hpv⟩, b3⟩
  rw [nm_aC] at hpv ⊢
  have B3 := hid ((b1.trans (b2.mono b1.size)).trans (b3.mono (Nat.le_trans b1.size b2.size)))
  obtain ⟨⟨A1, n1, c1, A2, n2, c2, rfl, p1, p2⟩, hbd⟩ := hpv
  have hpv : PbRd w3 (fun g => X2.heap.size ≤ g) (agg3 (.slice A1 n1 c1, .slice A2 n2 c2, .int .i64 aC.bound)) aC := ⟨⟨A1, n1, c1, A2, n2, c2, rfl, p1, p2⟩, hbd⟩
  have eb : aC.bound = 2 := rfl
  rw [eb] at hpv ⊢
  obtain ⟨X4, hX4, b4, _, s4⟩ := alloc_step w3 (.cells #[.slice A1 n1 c1, .slice A2 n2 c2, .int .i64 2] 36)
  obtain ⟨X5, hX5, b5, k5, s5⟩ := alloc_step X4 (.cells #[.slice A1 n1 c1, .slice A2 n2 c2, .int .i64 2] 36)
  have P5 := hid ((hpv.below b4).below b5)
  have B5 := hid (B3.out.trans ((b4.trans (b5.mono b4.size)).mono B3.out.size))
  rw [s4] at k5
  rw [← hX4] at hX5
  have H5 := hid hX5
  have K5 := hid k5
  clear hX1 b1 r1 s1 hX2 b2 r2 s2 b3 p1 p2 hbd hpv hX4 b4 s4 hX5 b5 k5 s5 B3 eb
  -- from here
  go_wp2_with fail
  rw [H5.out]
  refine (loaded_any (ps_one K5.out P5.out) (fun p hp => by rw [List.mem_singleton.1 hp]; simp [aC, I64]) (fun p hp => by rw [List.mem_singleton.1 hp]; decide +kernel) (by decide)).mono ?_
  rintro r w6 ⟨⟨eb, tb, rfl, het⟩, b6⟩
  have B6 := hid (B5.out.trans (b6.mono B5.out.size))
  have hx := B5.out.size
  have h6 := b6.size
  have ET := hid het
  clear het b6 H5 K5 P5 B5
  go_wp2_with fail
  refine (etr_decide ET.out (by simp [I64])).mono ?_
  rintro r w7 ⟨rfl, h7, m7⟩
  rw [show err (Tr.freeB ⟨7, [], []⟩ (-1)) = 0 from by decide +kernel]
  have h70 := m7.size
  have ET7 := hid (h7.mono (G := fun g => X5.heap.size ≤ g) fun g hg => hg.elim id fun h => Nat.le_trans h6 h)
  have B7 := hid (below_mod B6.out B6.out.size m7 fun g hg => Nat.le_trans hx hg)
  clear h7 m7 ET B6
  go_wp2_with fail
  refine (prop_any ET7.out (show 7 ≤ 7 by decide) (by decide)).mono ?_
  rintro r w8 ⟨hP, m8⟩
  have h80 := m8.size
  have B8 := hid (below_mod B7.out B7.out.size m8 fun g hg => Nat.le_trans hx hg)
  clear m8
  cases hP with
  | bad u xs i B g1 g2 g3 g4 g5 g6 g7 => exact absurd g4 (ex_fine g1 g2 g3)
  | calm A cc xs g1 g2 g3 g4 =>
    have g4 := ex_calm g1 g2 g3 ▸ g4
    have HT := hid g4.trail
    clear g1 g2 g3 g4 ET7 B7
    go_wp2_with fail
    refine (value_any HT.out (by simp [I64])).mono ?_
    rintro r w9 ⟨rfl, b9⟩
    rw [ex_vals.2.1]
    have B9 := hid (B8.out.trans (b9.mono B8.out.size))
    have HT9 := hid (HT.out.below b9)
    clear b9 B8 HT
    go_wp2_with fail
    refine (value_any HT9.out (by simp [I64])).mono ?_
    rintro r w10 ⟨rfl, b9⟩
    rw [ex_vals.2.2.1]
    have B10 := hid (B9.out.trans (b9.mono B9.out.size))
    have HT10 := hid (HT9.out.below b9)
    clear b9 B9 HT9
    go_wp2_with fail
    refine (level_any HT10.out).mono ?_
    rintro r w11 ⟨rfl, b9⟩
    rw [ex_vals.2.2.2.1]
    have B11 := hid (B10.out.trans (b9.mono B10.out.size))
    have HT11 := hid (HT10.out.below b9)
    clear b9 B10 HT10
    go_wp2_with fail
    refine (reason_any HT11.out (by rw [ex_vals.2.2.2.2.1]; decide)).mono ?_
    rintro r w12 ⟨⟨u, rfl, ou⟩, b9⟩
    rw [ex_vals.2.2.2.2.1] at ou
    have B12 := hid (B11.out.trans (b9.mono B11.out.size))
    have HT12 := hid (HT11.out.below b9)
    have OU := hid ou
    clear b9 B11 HT11 ou
    go_wp2_with fail
    obtain ⟨X, hX, bX, rX, sX⟩ := lit_step w12 [2, 1] (by decide) (by decide)
    rw [show w12.alloc (.cells #[.int .i64 2, .int .i64 1] 3) = X from hX]
    refine (ints_eq (OU.out.rd.below bX) rX).mono ?_
    rintro r w13 ⟨rfl, b9⟩
    rw [show decide ([2, 1] = ([2, 1] : List Int)) = true from by decide]
    have B13 := hid (B12.out.trans ((bX.trans (b9.mono bX.size)).mono B12.out.size))
    have HT13 := hid ((HT12.out.below bX).below b9)
    clear b9 B12 HT12 hX bX rX sX OU
    go_wp2_with fail
    refine (reason_any HT13.out (by rw [ex_vals.2.2.2.2.2.1]; decide)).mono ?_
    rintro r w14 ⟨⟨u, rfl, ou⟩, b9⟩
    rw [ex_vals.2.2.2.2.2.1] at ou
    have B14 := hid (B13.out.trans (b9.mono B13.out.size))
    have HT14 := hid (HT13.out.below b9)
    have OU := hid ou
    clear b9 B13 HT13 ou
    go_wp2_with fail
    obtain ⟨X, hX, bX, rX, sX⟩ := lit_step w14 [3, 1] (by decide) (by decide)
    rw [show w14.alloc (.cells #[.int .i64 3, .int .i64 1] 3) = X from hX]
    refine (ints_eq (OU.out.rd.below bX) rX).mono ?_
    rintro r w15 ⟨rfl, b9⟩
    rw [show decide ([3, 1] = ([3, 1] : List Int)) = true from by decide]
    have B15 := hid (B14.out.trans ((bX.trans (b9.mono bX.size)).mono B14.out.size))
    have HT15 := hid ((HT14.out.below bX).below b9)
    clear b9 B14 HT14 hX bX rX sX OU
    clear HT15
    go_wp2_with fail
    obtain ⟨X, hX, bX, rX, sX⟩ := lit_step w15 [1, 2] (by decide) (by decide)
    rw [show w15.alloc (.cells #[.int .i64 1, .int .i64 2] 3) = X from hX]
    refine (clause29_any rX (by simp [I64]) (by decide)).mono ?_
    rintro r w16 hgv
    rw [cl_bC] at hgv
    obtain ⟨⟨C1, m1, d1, C2, m2, d2, rfl, hp1⟩, b16⟩ := hgv
    have B16 := hid (B15.out.trans ((bX.trans (b16.mono bX.size)).mono B15.out.size))
    have P1 := hid hp1
    have Pb1 := hid (show bC.bound = 1 from rfl)
    clear hX bX rX sX hp1 b16 B15
    go_wp2_with fail
    obtain ⟨X, hX, bX, rX, sX⟩ := lit_step w16 [1, -2] (by decide) (by decide)
    rw [show w16.alloc (.cells #[.int .i64 1, .int .i64 (-2)] 3) = X from hX]
    refine (clause29_any rX (by simp [I64]) (by decide)).mono ?_
    rintro r w17 hgv
    rw [cl_bD] at hgv
    obtain ⟨⟨D1, q1, e1, D2, q2, e2, rfl, hp1⟩, b17⟩ := hgv
    have bb := bX.trans (b17.mono bX.size)
    have B17 := hid (B16.out.trans (bb.mono B16.out.size))
    have P2 := hid hp1
    have P1' := hid ((P1.out.mono (G := fun _ => True) fun _ _ _ => trivial).below bb)
    clear hX bX rX sX hp1 b17 B16 P1 bb
    go_wp2_with fail
    obtain ⟨Y, hY, bY, kY, sY⟩ := alloc_step w17 (.cells #[.slice C1 m1 d1, .slice C2 m2 d2, .int .i64 bC.bound, .slice D1 q1 e1, .slice D2 q2 e2, .int .i64 bD.bound] 36)
    rw [hY]
    refine (loaded_any (ps_two kY (P1'.out.below bY) ((P2.out.mono (G := fun _ => True) fun _ _ _ => trivial).below bY)) (fun p hp => by rcases List.mem_cons.1 hp with rfl | hp; (· simp [bC, I64]); rw [List.mem_singleton.1 hp]; simp [bD, I64]) (fun p hp => by rcases List.mem_cons.1 hp with rfl | hp; (· decide +kernel); rw [List.mem_singleton.1 hp]; decide +kernel) (by decide)).mono ?_
    rintro r w18 ⟨⟨eb2, tb2, rfl, het⟩, b18⟩
    have hyw := bY.size
    have B18 := hid (B17.out.trans ((bY.trans (b18.mono bY.size)).mono B17.out.size))
    have hx18 := Nat.le_trans B17.out.size bY.size
    have h18 := b18.size
    have ET := hid het
    clear het b18 hY bY kY sY B17 P1' P2
    go_wp2_with fail
    refine (etr_decide ET.out (by simp [I64])).mono ?_
    rintro r w19 ⟨rfl, h7, m7⟩
    rw [show err (Tr.freeB ⟨7, [], []⟩ (-1)) = 0 from by decide +kernel]
    have h70 := m7.size
    have ET19 := hid (h7.mono (G := fun g => Y.heap.size ≤ g) fun g hg => hg.elim id fun h => Nat.le_trans h18 h)
    have B19 := hid (below_mod B18.out B18.out.size m7 fun g hg => Nat.le_trans hx18 hg)
    clear h7 m7 ET B18
    go_wp2_with fail
    refine (prop_any ET19.out (show 7 ≤ 7 by decide) (by decide)).mono ?_
    rintro r w20 ⟨hP, m8⟩
    have B20 := hid (below_mod B19.out B19.out.size m8 fun g hg => Nat.le_trans hx18 hg)
    clear m8
    cases hP with
    | calm A cc xs g1 g2 g3 g4 => exact absurd g3 (ex_bad g1 g2).1
    | bad u xs i B g1 g2 g3 g4 g5 g6 g7 =>
      have ht := g7.trail
      have hor := (ex_bad g1 g2).2 i g3 g4
      clear g1 g2 g3 g4 g6 g7 ET19 B19
      rcases hor with ⟨e1, e2⟩ | ⟨e1, e2⟩
      · have g5 := e2 ▸ g5
        have HT := hid (e1 ▸ ht)
        obtain ⟨U, cu, rfl, hcu, _, _⟩ := g5.form
        obtain ⟨gu, rfl, _, hgu, q0, _⟩ := g5.cell (j := 0) (by decide)
        obtain ⟨gu', eu, _, _, q1, _⟩ := g5.cell (j := 1) (by decide)
        injection eu with eu
        injection eu with eu
        subst eu
        rw [show (ints [1, -2])[0]? = some (.int .i64 1) from rfl] at q0
        rw [show (ints [1, -2])[1]? = some (.int .i64 (-2)) from rfl] at q1
        clear g5 e1 e2 ht
        go_wp2_with fail
        refine (value_any HT.out (by simp [I64])).mono ?_
        rintro r w21 ⟨rfl, b9⟩
        rw [ex_vals.2.2.2.2.2.2.1]
        have B21 := hid (B20.out.trans (b9.mono B20.out.size))
        have HT21 := hid (HT.out.below b9)
        have q0 := keep_cell q0 b9
        have q1 := keep_cell q1 b9
        clear b9
        go_wp2_with fail
        refine (value_any HT21.out (by simp [I64])).mono ?_
        rintro r w22 ⟨rfl, b9⟩
        rw [ex_vals.2.2.2.2.2.2.2.1]
        have B22 := hid (B21.out.trans (b9.mono B21.out.size))
        have HT22 := hid (HT21.out.below b9)
        have q0 := keep_cell q0 b9
        have q1 := keep_cell q1 b9
        clear b9
        go_wp2_with fail
        refine (value_any HT22.out (by simp [I64])).mono ?_
        rintro r w23 ⟨rfl, b9⟩
        rw [ex_vals.2.2.2.2.2.2.2.2.1]
        have B23 := hid (B22.out.trans (b9.mono B22.out.size))
        clear b9
        go_wp2_with fail
        go_ret
        exact ⟨rfl, B23.out⟩
      · have g5 := e2 ▸ g5
        have HT := hid (e1 ▸ ht)
        obtain ⟨U, cu, rfl, hcu, _, _⟩ := g5.form
        obtain ⟨gu, rfl, _, hgu, q0, _⟩ := g5.cell (j := 0) (by decide)
        obtain ⟨gu', eu, _, _, q1, _⟩ := g5.cell (j := 1) (by decide)
        injection eu with eu
        injection eu with eu
        subst eu
        rw [show (ints [1, 2])[0]? = some (.int .i64 1) from rfl] at q0
        rw [show (ints [1, 2])[1]? = some (.int .i64 (2)) from rfl] at q1
        clear g5 e1 e2 ht
        go_wp2_with fail
        refine (value_any HT.out (by simp [I64])).mono ?_
        rintro r w21 ⟨rfl, b9⟩
        rw [ex_vals.2.2.2.2.2.2.2.2.2.1]
        have B21 := hid (B20.out.trans (b9.mono B20.out.size))
        have HT21 := hid (HT.out.below b9)
        have q0 := keep_cell q0 b9
        have q1 := keep_cell q1 b9
        clear b9
        go_wp2_with fail
        refine (value_any HT21.out (by simp [I64])).mono ?_
        rintro r w22 ⟨rfl, b9⟩
        rw [ex_vals.2.2.2.2.2.2.2.2.2.2]
        have B22 := hid (B21.out.trans (b9.mono B21.out.size))
        have HT22 := hid (HT21.out.below b9)
        have q0 := keep_cell q0 b9
        have q1 := keep_cell q1 b9
        clear b9
        go_wp2_with fail
        refine (value_any HT22.out (by simp [I64])).mono ?_
        rintro r w23 ⟨rfl, b9⟩
        rw [ex_vals.2.2.2.2.2.2.2.2.2.1]
        have B23 := hid (B22.out.trans (b9.mono B22.out.size))
        clear b9
        go_wp2_with fail
        go_ret
        exact ⟨rfl, B23.out⟩
end
end Go.Proofs.Ytofobmgmgipomaa
