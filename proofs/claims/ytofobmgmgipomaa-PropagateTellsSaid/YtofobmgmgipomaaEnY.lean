/-
  Parts of slices; an engine with its trail, apart from blocks that are kept.
-/
import Derived.Test.YtofobmgmgipomaaMgu
namespace Go.Proofs.Ytofobmgmgipomaa
open Go.RowKit

theorem ints_from {A : Option Addr} {n c i : Nat} (hi : i ≤ n) (hc : n ≤ c) :
    ∃ A', (i < n → A' = A.map (·.add (i * 1))) ∧ ∀ W : World, (Instr.slice 23 (.slice A n c) (some (.int .i64 (i : Int))) none none).run Try.prog W = .ok (.slice A' (n - i) (c - i)) W := by
  have h1 : (0 : Int) ≤ (i : Int) ∧ (i : Int) ≤ (n : Int) := by omega
  refine ⟨if c = i then A else A.map (·.add (i * 1)), fun hp => by rw [if_neg (by omega)], fun W => ?_⟩
  by_cases e : c = i
  · simp [Instr.slice, Instr.sliceBounds, Instr.sliceBound, run_underlying Try.underlying23, asIntOf, h1, e, Try.sizeOf3]
    exact fun h => absurd h (by omega)
  · simp [Instr.slice, Instr.sliceBounds, Instr.sliceBound, run_underlying Try.underlying23, asIntOf, h1, e, Try.sizeOf3]
    exact fun h => absurd h (by omega)
theorem pbs_to {A : Option Addr} {n c i : Nat} (hA : 0 < n → ∃ g o, A = some ⟨g, o, none⟩) (hi : i ≤ n) (hc : n ≤ c) :
    ∃ A', (0 < n → A' = A) ∧ ∀ W : World, (Instr.slice 24 (.slice A n c) none (some (.int .i64 (i : Int))) none).run Try.prog W = .ok (.slice A' i c) W := by
  have h1 : (0 : Int) ≤ (i : Int) ∧ (i : Int) ≤ (c : Int) := by omega
  refine ⟨if c = 0 then A else A.map (·.add (0 * 3)), fun hp => ?_, fun W => by simp [Instr.slice, Instr.sliceBounds, Instr.sliceBound, run_underlying Try.underlying24, asIntOf, h1, Try.sizeOf36]; exact fun h => absurd h (by omega)⟩
  obtain ⟨g, o, rfl⟩ := hA hp
  rw [if_neg (by omega)]
  simp [addr_add]
theorem pbs_from {A : Option Addr} {n c i : Nat} (hi : i ≤ n) (hc : n ≤ c) :
    ∃ A', (i < n → A' = A.map (·.add (i * 3))) ∧ ∀ W : World, (Instr.slice 24 (.slice A n c) (some (.int .i64 (i : Int))) none none).run Try.prog W = .ok (.slice A' (n - i) (c - i)) W := by
  have h1 : (0 : Int) ≤ (i : Int) ∧ (i : Int) ≤ (n : Int) := by omega
  refine ⟨if c = i then A else A.map (·.add (i * 3)), fun hp => by rw [if_neg (by omega)], fun W => ?_⟩
  by_cases e : c = i
  · simp [Instr.slice, Instr.sliceBounds, Instr.sliceBound, run_underlying Try.underlying24, asIntOf, h1, e, Try.sizeOf36]
    exact fun h => absurd h (by omega)
  · simp [Instr.slice, Instr.sliceBounds, Instr.sliceBound, run_underlying Try.underlying24, asIntOf, h1, e, Try.sizeOf36]
    exact fun h => absurd h (by omega)
section
variable {w : World} {F G : Nat → Prop} {k : Nat} {A A' : Option Addr} {n c i : Nat} {xs : List Value} {ps : List Pb}
theorem rd_from (h : Rd w F k (.slice A n c) n xs) (hi : i ≤ n) (hA : i < n → A' = A.map (·.add (i * k))) : Rd w F k (.slice A' (n - i) (c - i)) (n - i) (xs.drop (i * k)) := by
  obtain ⟨hl, A0, c0, hv, hc, hm, hA0⟩ := h
  injection hv with e1 _ e3
  subst e1 e3
  refine ⟨by rw [List.length_drop, hl, Nat.sub_mul], _, _, rfl, by omega, by omega, fun hp => ?_⟩
  obtain ⟨g, o, rfl, hF, hg, hcell⟩ := hA0 (by omega)
  refine ⟨g, o + i * k, by rw [hA (by omega)]; simp [addr_add], hF, hg, fun j u hu => ?_⟩
  rw [Nat.add_assoc]
  exact hcell (i * k + j) u (by rw [← hu, List.getElem?_drop])
theorem rd_to_k (h : Rd w F k (.slice A n c) n xs) (hi : i ≤ n) (hA : 0 < n → A' = A) : Rd w F k (.slice A' i c) i (xs.take (i * k)) := by
  rcases Nat.eq_zero_or_pos n with e | e
  · obtain ⟨_, A'', c', hv, _, hm, _⟩ := h
    injection hv with _ _ h3
    subst h3
    have hi0 : i = 0 := by omega
    subst hi0
    exact ⟨by simp, _, _, rfl, Nat.zero_le _, hm, fun h => absurd h (by omega)⟩
  · rw [hA e]
    exact h.take hi
theorem flat3_drop (ts : List (Value × Value × Value)) (k : Nat) : (flat3 ts).drop (k * 3) = flat3 (ts.drop k) := by
  induction ts generalizing k with
  | nil => simp [flat3]
  | cons q ts ih =>
    cases k with
    | zero => simp
    | succ k =>
      have e : flat3 (q :: ts) = q.1 :: q.2.1 :: q.2.2 :: flat3 ts := rfl
      rw [e, show (k + 1) * 3 = k * 3 + 1 + 1 + 1 by omega, List.drop_succ_cons, List.drop_succ_cons, List.drop_succ_cons, List.drop_succ_cons, ih]
theorem Ps.drop {ts : List (Value × Value × Value)} (h : Ps w G ts ps) (k : Nat) : Ps w G (ts.drop k) (ps.drop k) :=
  ⟨by simp [h.1], fun i t p h1 h2 => by rw [List.getElem?_drop] at h1 h2; exact h.2 _ t p h1 h2⟩
theorem PsRd.to (h : PsRd w F G A n c ps) (hi : i ≤ n) (hA : 0 < n → A' = A) : PsRd w F G A' i c (ps.take i) := by
  obtain ⟨ts, h1, h2, h3⟩ := h
  exact ⟨ts.take i, by rw [← flat3_take]; exact rd_to_k h1 hi hA, h2.take i, by rw [List.length_take]; omega⟩
theorem PsRd.from_ (h : PsRd w F G A n c ps) (hi : i ≤ n) (hA : i < n → A' = A.map (·.add (i * 3))) : PsRd w F G A' (n - i) (c - i) (ps.drop i) := by
  obtain ⟨ts, h1, h2, h3⟩ := h
  exact ⟨ts.drop i, by rw [← flat3_drop]; exact rd_from h1 hi hA, h2.drop i, by rw [List.length_drop]; omega⟩
theorem PsRd.spot (h : PsRd w F G A n c ps) : n ≤ c ∧ c ≤ maxLen ∧ (0 < n → ∃ g o, A = some ⟨g, o, none⟩) := by
  obtain ⟨ts, h1, _⟩ := h
  exact rd_spot h1
end

/-- An engine with its trail in blocks from B on, none of them one of K. -/
def Solo (B : Nat) (K : Nat → Prop) (w : World) (eb tb : Nat) (E : Eng) (T : Tr) : Prop := ∃ F, EngTr w F eb tb E T ∧ (∀ g, F g → B ≤ g) ∧ (∀ g, F g → ¬ K g) ∧ ∀ g, K g → g < w.heap.size
section
variable {w w' : World} {B : Nat} {K K' G : Nat → Prop} {eb tb : Nat} {E : Eng} {T : Tr}
theorem Solo.below (h : Solo B K w eb tb E T) (b : Below w.heap.size w w') : Solo B K w' eb tb E T := by
  obtain ⟨F, h1, h2, h3, h4⟩ := h
  exact ⟨F, h1.below b, h2, h3, fun g hg => Nat.lt_of_lt_of_le (h4 g hg) b.size⟩
/-- What a call made is kept from now on. -/
theorem Solo.more (h : Solo B K w eb tb E T) (b : Below w.heap.size w w') : Solo B (fun g => K g ∨ (w.heap.size ≤ g ∧ g < w'.heap.size)) w' eb tb E T := by
  obtain ⟨F, h1, h2, h3, h4⟩ := h
  exact ⟨_, h1.restrict.below b, fun g hg => h2 g hg.1, fun g hg hk => hk.elim (h3 g hg.1) fun hk => by have := hg.2; omega, fun g hg => hg.elim (fun hk => Nat.lt_of_lt_of_le (h4 g hk) b.size) fun hk => hk.2⟩
theorem Solo.trail (h : Solo B K w eb tb E T) : Trail w (fun g => B ≤ g ∧ ¬ K g) tb T := by
  obtain ⟨F, h1, h2, h3, h4⟩ := h
  exact h1.trail.mono fun g hg => ⟨h2 g hg, h3 g hg⟩
theorem Solo.ok (h : Solo B K w eb tb E T) : E.Ok ∧ T.WF := by
  obtain ⟨F, h1, h2, h3, h4⟩ := h
  exact ⟨h1.engine.1, h1.trail.wf⟩
theorem Solo.step (h : Solo B K w eb tb E T) (hB : B ≤ w.heap.size) : ∃ F, EngTr w F eb tb E T ∧ (∀ g, F g → B ≤ g) ∧ (∀ g, F g → ¬ K g) ∧ ∀ w' E' T', EngTr w' (fun g => F g ∨ w.heap.size ≤ g) eb tb E' T' → Mod F w w' → Solo B K w' eb tb E' T' ∧ Mod (fun g => B ≤ g ∧ ¬ K g) w w' := by
  obtain ⟨F, h1, h2, h3, h4⟩ := h
  exact ⟨F, h1, h2, h3, fun w' E' T' he hm => ⟨⟨_, he, fun g hg => hg.elim (h2 g) fun hg => Nat.le_trans hB hg, fun g hg hk => hg.elim (fun hg => h3 g hg hk) fun hg => by have := h4 g hk; omega, fun g hg => Nat.lt_of_lt_of_le (h4 g hg) hm.size⟩, hm.mono fun g _ hg => ⟨h2 g hg, h3 g hg⟩⟩⟩
theorem solo_decided (h : Solo B K w eb tb E T) (hB : B ≤ w.heap.size) {A : Option Addr} {n c : Nat} {ls : List Int} (hl : Rd w G 1 (.slice A n c) n (ints ls)) (hi : ∀ x ∈ ls, I64 x) (hG : ∀ g, G g → g < B ∨ K g) :
    Calls Try.prog 11 #[.pointer (some ⟨tb, 0, none⟩), .slice A n c] w fun r w' => (∃ v, r = .returned v) ∧ Solo B K w' eb tb E (T.decs (ls.take 7)) ∧ Mod (fun g => B ≤ g ∧ ¬ K g) w w' := by
  obtain ⟨F, he, hb, hn, hk⟩ := h.step hB
  refine (etr_decided he hl hi fun g hg hf => (hG g hg).elim (fun hg => by have := hb g hf; omega) (hn g hf)).mono ?_
  rintro r w' ⟨h0, h1, h2⟩
  exact ⟨h0, hk _ _ _ h1 h2⟩
theorem solo_decide (h : Solo B K w eb tb E T) (hB : B ≤ w.heap.size) {l : Int} (hl : I64 l) :
    Calls Try.prog 26 #[.pointer (some ⟨tb, 0, none⟩), .int .i64 l] w fun r w' => r = .returned (.int .i64 (err (T.freeB l))) ∧ Solo B K w' eb tb E (T.dec l) ∧ Mod (fun g => B ≤ g ∧ ¬ K g) w w' := by
  obtain ⟨F, he, hb, hn, hk⟩ := h.step hB
  refine (etr_decide he hl).mono ?_
  rintro r w' ⟨h0, h1, h2⟩
  exact ⟨h0, hk _ _ _ h1 h2⟩
theorem solo_undo (h : Solo B K w eb tb E T) (hB : B ≤ w.heap.size) (k : Int) :
    Calls Try.prog 22 #[.pointer (some ⟨tb, 0, none⟩), .int .i64 k] w fun r w' => (∃ u, r = .returned u) ∧ Solo B K w' eb tb E (T.back (lvl k)) ∧ Mod (fun g => B ≤ g ∧ ¬ K g) w w' := by
  obtain ⟨F, he, hb, hn, hk⟩ := h.step hB
  refine (etr_undo he k).mono ?_
  rintro r w' ⟨h0, h1, h2⟩
  exact ⟨h0, hk _ _ _ h1 h2⟩
theorem solo_add (h : Solo B K w eb tb E T) (hB : B ≤ w.heap.size) {v : Value} {c : Pb} (hc : PbRd w G v c) (hic : ∀ k ∈ c.coefs, I64 k) (hG : ∀ g, G g → g < B ∨ K g) (hlen : E.cs.length ≤ 500000) :
    Calls Try.prog 15 #[.pointer (some ⟨eb, 0, none⟩), v] w fun r w' => r = .returned (.int .i64 (if E.fits c = true then 0 else 2)) ∧ Solo B K w' eb tb (if E.fits c = true then E.add c else E) T ∧ Mod (fun g => B ≤ g ∧ ¬ K g) w w' := by
  obtain ⟨F, he, hb, hn, hk⟩ := h.step hB
  refine (etr_add he hc hic (fun g hg hf => (hG g hg).elim (fun hg => by have := hb g hf; omega) (hn g hf)) hlen).mono ?_
  rintro r w' ⟨h0, h1, h2⟩
  exact ⟨h0, hk _ _ _ h1 h2⟩
/-- What Propagate leaves and tells. -/
inductive SoloTo (B : Nat) (K : Nat → Prop) (eb tb : Nat) (E : Eng) (T : Tr) (W : World) : Ending → Prop
  | calm (A : Option Addr) (c : Nat) (xs : List Nat) (h1 : ∀ i ∈ xs, i < E.cs.length) (h2 : fineX E.cs T.lits xs) (h3 : ∀ j, j < E.cs.length → (cAt E.cs j).Calm (runX E.cs T.lits xs))
      (h4 : Solo B K W eb tb { E with seen := runX E.cs T.lits xs, done := E.cs.length } (T.exams E.cs xs)) : SoloTo B K eb tb E T W (.returned (.tuple #[.slice A 0 c, .bool false]))
  | bad (A : Option Addr) (n c : Nat) (xs : List Nat) (i : Nat) (K' : Nat → Prop) (h1 : ∀ i ∈ xs, i < E.cs.length) (h2 : fineX E.cs T.lits xs) (h3 : i < E.cs.length) (h4 : (cAt E.cs i).slackX (runX E.cs T.lits xs) < 0)
      (h5 : Rd W (fun g => K' g ∧ B ≤ g) 1 (.slice A n c) n (ints ((cAt E.cs i).offX (runX E.cs T.lits xs)))) (h6 : ∀ g, K g → K' g) (h7 : Solo B K' W eb tb { E with seen := [], done := 0 } (T.exams E.cs xs)) : SoloTo B K eb tb E T W (.returned (.tuple #[.slice A n c, .bool true]))
theorem solo_prop (h : Solo B K w eb tb E T) (hB : B ≤ w.heap.size) (hv : E.vars ≤ T.vars) (hn : E.cs.length ≤ 1000000) :
    Calls Try.prog 12 #[.pointer (some ⟨eb, 0, none⟩), .pointer (some ⟨tb, 0, none⟩)] w fun r w' => SoloTo B K eb tb E T w' r ∧ Mod (fun g => B ≤ g ∧ ¬ K g) w w' := by
  obtain ⟨F, h1, h2, h3, h4⟩ := h
  refine (prop_any h1 hv hn).mono ?_
  rintro r w' ⟨hp, hm⟩
  refine ⟨?_, hm.mono fun g _ hg => ⟨h2 g hg, h3 g hg⟩⟩
  have hs := hm.size
  cases hp with
  | calm A c xs g1 g2 g3 g4 => exact .calm A c xs g1 g2 g3 ⟨_, g4, fun g hg => hg.elim (h2 g) fun hg => Nat.le_trans hB hg, fun g hg hk => hg.elim (fun hg => h3 g hg hk) fun hg => by have := h4 g hk; omega, fun g hg => Nat.lt_of_lt_of_le (h4 g hg) hs⟩
  | bad u xs i B' g1 g2 g3 g4 g5 g6 g7 =>
    obtain ⟨A, c, rfl, _⟩ := g5.form
    refine .bad A _ c xs i (fun g => K g ∨ (B' ≤ g ∧ g < w'.heap.size)) g1 g2 g3 g4 (g5.rd.mono fun g hg hb => ⟨.inr ⟨hb, hg⟩, by omega⟩) (fun g hg => .inl hg) ⟨_, g7, fun g hg => hg.1.elim (h2 g) fun hg => Nat.le_trans hB hg, fun g hg hk => hk.elim (fun hk => hg.1.elim (fun hg => h3 g hg hk) fun hg => by have := h4 g hk; omega) fun hk => by have := hg.2; omega, fun g hg => hg.elim (fun hk => Nat.lt_of_lt_of_le (h4 g hk) hs) fun hk => hk.2⟩
end
section
variable {w w' : World} {B : Nat} {K K' : Nat → Prop} {eb tb fb ub : Nat} {E E2 : Eng} {T T2 : Tr}
theorem Solo.less (h : Solo B K w eb tb E T) (hk : ∀ g, K' g → K g) : Solo B K' w eb tb E T := by
  obtain ⟨F, h1, h2, h3, h4⟩ := h
  exact ⟨F, h1, h2, fun g hg hk' => h3 g hg (hk g hk'), fun g hg => h4 g (hk g hg)⟩
theorem SoloTo.propR {r : Ending} (h : SoloTo B K eb tb E T w r) : ∃ v b E' T', r = .returned (.tuple #[v, .bool b]) ∧ PropR E T E' T' v b ∧ Solo B K w eb tb E' T' := by
  cases h with
  | calm A c xs h1 h2 h3 h4 => exact ⟨_, _, _, _, rfl, .calm A c xs h1 h2 h3, h4⟩
  | bad A n c xs i K' h1 h2 h3 h4 h5 h6 h7 => exact ⟨_, _, _, _, rfl, .bad _ xs i h1 h2 h3 h4, h7.less h6⟩
theorem Solo.duo (h : Solo B K w eb tb E T) (hB : B ≤ w.heap.size) (b : Below w.heap.size w w') (h2 : EngTr w' (fun g => w.heap.size ≤ g) fb ub E2 T2) : Duo B w' eb tb E T fb ub E2 T2 := by
  obtain ⟨F, h1, h2', h3, h4⟩ := h
  exact ⟨_, _, h1.restrict.below b, h2, fun g hg => h2' g hg.1, fun g hg => Nat.le_trans hB hg, fun g hg hf => by have := hg.2; omega⟩
end
theorem mod_on {B : Nat} {K : Nat → Prop} {w0 w w' : World} (h : Below B w0 w) (hB : B ≤ w.heap.size) (hm : Mod (fun g => B ≤ g ∧ ¬ K g) w w') : Below B w0 w' := below_mod h hB hm fun _ hg => hg.1
end Go.Proofs.Ytofobmgmgipomaa
