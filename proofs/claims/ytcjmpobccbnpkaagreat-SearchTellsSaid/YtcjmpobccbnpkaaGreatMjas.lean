/-
 Chapter 32: several texts in one (PbF PlA PbG PbH).
-/
import Derived.Test.YtcjmpobccbnpkaaGreatMjar
import Derived.Test.YtcjmpobccbnpkaaGreatMjaq
namespace Go.Proofs.YtcjmpobccbnpkaaGreat
section
open Go.RowKit Go.Shelf
attribute [local go_sem] Oper.semAt_some
theorem Bx.below {W W' : World} {b : Nat} {v : Value} (h : Bx W b v) (hb : Below W.heap.size W W') : Bx W' b v :=
 ⟨keep_cell h.1 hb, (World.frozen?_of_block (hb.block b (World.block_lt_of_cell? W _ h.1))).trans h.2⟩
theorem Bx.alloc {W : World} {b : Nat} {v : Value} (h : Bx W b v) (o : Obj) : Bx (W.alloc o) b v := h.below ((Below.refl _ _).alloc (Nat.le_refl _) _)
structure Pb.Ok (c : Pb) : Prop where
 len : c.lits.length = c.coefs.length
 few : c.lits.length ≤ 65536
 low : 0 ≤ c.bound
 high : c.bound ≤ 16777216
 lit : ∀ j, j < c.lits.length → nth c.lits j ≠ 0 ∧ -65536 ≤ nth c.lits j ∧ nth c.lits j ≤ 65536
 coef : ∀ j, j < c.lits.length → 1 ≤ nth c.coefs j ∧ nth c.coefs j ≤ c.bound
 rise : ∀ j, j < c.lits.length → c.last j < ((nth c.lits j).natAbs : Nat)
 sums : c.bound ≤ c.sum c.lits.length ∨ (c.lits.length = 0 ∧ c.bound = 1)
theorem Pb.ok_iff (c : Pb) : c.ok = true ↔ c.Ok := by
 constructor
 ·intro h
  unfold Pb.ok at h
  simp only [Bool.and_eq_true, Bool.or_eq_true, decide_eq_true_eq, List.all_eq_true, List.mem_range] at h
  obtain ⟨⟨⟨⟨h1, h2⟩, h3⟩, h4⟩, h5⟩ := h
  have hg : ∀ j, j < c.lits.length → (nth c.lits j ≠ 0 ∧ -65536 ≤ nth c.lits j ∧ nth c.lits j ≤ 65536) ∧ c.last j < ((nth c.lits j).natAbs : Nat) ∧ 1 ≤ nth c.coefs j ∧ nth c.coefs j ≤ c.bound := by
   intro j hj
   have := h4 j hj
   unfold Pb.good litB at this
   simp only [Bool.and_eq_true, decide_eq_true_eq] at this
   exact ⟨this.1.1.1, this.1.1.2, this.1.2, this.2⟩
  have hlast : ∀ k, k ≤ c.lits.length → (k : Int) ≤ c.last k := by
   intro k
   induction k with
   | zero => intro _; simp [Pb.last]
   | succ k ih =>
    intro hk
    have h6 := ih (by omega)
    have h7 := (hg k (by omega)).2.1
    have : c.last (k + 1) = ((nth c.lits k).natAbs : Nat) := by simp [Pb.last]
    rw [this]
    omega
  refine ⟨h1, ?_, h2, h3, fun j hj => (hg j hj).1, fun j hj => (hg j hj).2.2, fun j hj => (hg j hj).2.1, h5⟩
  rcases Nat.eq_zero_or_pos c.lits.length with e | e
  ·omega
  ·have h6 := hlast c.lits.length (Nat.le_refl _)
   have h7 := (hg (c.lits.length - 1) (by omega)).1
   unfold Pb.last at h6
   rw [if_neg (by omega)] at h6
   omega
 ·intro h
  unfold Pb.ok
  simp only [Bool.and_eq_true, Bool.or_eq_true, decide_eq_true_eq, List.all_eq_true, List.mem_range]
  refine ⟨⟨⟨⟨h.len, h.low⟩, h.high⟩, fun j hj => ?_⟩, h.sums⟩
  unfold Pb.good litB
  simp only [Bool.and_eq_true, decide_eq_true_eq]
  exact ⟨⟨⟨h.lit j hj, h.rise j hj⟩, (h.coef j hj).1⟩, (h.coef j hj).2⟩
def Pb.part (c : Pb) (p : Int → Bool) (js : List Nat) : Int := (js.map fun j => if p (nth c.lits j) = true then nth c.coefs j else 0).sum
theorem Pb.part_snoc (c : Pb) (p : Int → Bool) (js : List Nat) (j : Nat) : c.part p (js ++ [j]) = c.part p js + (if p (nth c.lits j) = true then nth c.coefs j else 0) := by simp [Pb.part]
theorem Pb.part_bounds {c : Pb} (h : c.Ok) (p : Int → Bool) : ∀ js : List Nat, (∀ j ∈ js, j < c.lits.length) → 0 ≤ c.part p js ∧ c.part p js ≤ js.length * 16777216 := by
 intro js
 induction js with
 | nil => intro _; simp [Pb.part]
 | cons j js ih =>
  intro hj
  obtain ⟨h1, h2⟩ := ih fun q hq => hj q (by simp [hq])
  obtain ⟨h3, h4⟩ := h.coef j (hj j (by simp))
  have h5 := h.high
  have e : c.part p (j :: js) = (if p (nth c.lits j) = true then nth c.coefs j else 0) + c.part p js := by simp [Pb.part]
  rw [e, List.length_cons]
  split <;> omega
def Pb.total (c : Pb) (p : Int → Bool) : Int := c.part p (List.range c.lits.length)
def Pb.holdsB (c : Pb) (av : List Int) : Bool := c.ok && decide (c.bound ≤ c.total fun l => decide (0 < valB av l))
end
def tr (s : Int → Bool) (l : Int) : Bool := if 0 < l then s l else !(s (-l))
def got (s : Int → Bool) (ls ks : List Int) (j : Nat) : Int := ((List.range j).map fun i => if tr s (nth ls i) = true then nth ks i else 0).sum
theorem got_succ (s : Int → Bool) (ls ks : List Int) (j : Nat) : got s ls ks (j + 1) = got s ls ks j + (if tr s (nth ls j) = true then nth ks j else 0) := by simp [got, List.range_succ]
theorem sum_zero {α : Type} {g : α → Int} : ∀ V : List α, (∀ v ∈ V, g v = 0) → (V.map g).sum = 0 := by
 intro V
 induction V with
 | nil => intro _; rfl
 | cons v V ih =>
  intro h
  rw [List.map_cons, List.sum_cons, h v (by simp), ih fun u hu => h u (by simp [hu])]
  rfl
theorem pick_sum {α : Type} {g : α → Int} {x : α} : ∀ V : List α, V.Nodup → x ∈ V → (∀ v ∈ V, v ≠ x → g v = 0) → (V.map g).sum = g x := by
 intro V
 induction V with
 | nil => intro _ h; cases h
 | cons v V ih =>
  intro hn hx h0
  rw [List.nodup_cons] at hn
  rw [List.map_cons, List.sum_cons]
  rcases List.mem_cons.1 hx with e | e
  ·subst e
   rw [sum_zero V fun u hu => h0 u (by simp [hu]) fun e => hn.1 (e ▸ hu)]
   omega
  ·rw [ih hn.2 e fun u hu hne => h0 u (by simp [hu]) hne, h0 v (by simp) fun e2 => hn.1 (e2 ▸ e)]
   omega
theorem sum_add {α : Type} (g k : α → Int) : ∀ V : List α, (V.map fun v => g v + k v).sum = (V.map g).sum + (V.map k).sum := by
 intro V
 induction V with
 | nil => rfl
 | cons v V ih => simp only [List.map_cons, List.sum_cons]; rw [ih]; omega
theorem sum_cong {α : Type} {g k : α → Int} : ∀ V : List α, (∀ v ∈ V, g v = k v) → (V.map g).sum = (V.map k).sum := by
 intro V
 induction V with
 | nil => intro _; rfl
 | cons v V ih => intro h; simp only [List.map_cons, List.sum_cons]; rw [h v (by simp), ih fun u hu => h u (by simp [hu])]
theorem sum_le {α : Type} {g k : α → Int} : ∀ V : List α, (∀ v ∈ V, g v ≤ k v) → (V.map g).sum ≤ (V.map k).sum := by
 intro V
 induction V with
 | nil => intro _; exact Int.le_refl _
 | cons v V ih =>
  intro h
  have h1 := h v (by simp)
  have h2 := ih fun u hu => h u (by simp [hu])
  simp only [List.map_cons, List.sum_cons]
  omega
theorem sum_filter {α : Type} {g : α → Int} {p : α → Bool} : ∀ V : List α, (∀ v ∈ V, p v = false → g v = 0) → ((V.filter p).map g).sum = (V.map g).sum := by
 intro V
 induction V with
 | nil => intro _; rfl
 | cons v V ih =>
  intro h
  have h2 := ih fun u hu => h u (by simp [hu])
  cases hp : p v with
  | true => rw [List.filter_cons_of_pos hp]; simp only [List.map_cons, List.sum_cons]; rw [h2]
  | false => rw [List.filter_cons_of_neg (by simp [hp])]; simp only [List.map_cons, List.sum_cons]; rw [h2, h v (by simp) hp]; omega
def V6 : List Int := (List.range 65536).map fun (i : Nat) => (i : Int) + 1
theorem mem_V6 {v : Int} : v ∈ V6 ↔ 1 ≤ v ∧ v ≤ 65536 := by
 unfold V6
 rw [List.mem_map]
 constructor
 ·rintro ⟨i, hi, rfl⟩
  have := List.mem_range.1 hi
  exact ⟨by omega, by omega⟩
 ·rintro ⟨h1, h2⟩
  exact ⟨(v - 1).toNat, List.mem_range.2 (by omega), by omega⟩
theorem V6_nodup : V6.Nodup := by
 unfold V6
 have : ((List.range 65536).map fun (i : Nat) => (i : Int) + 1).Pairwise (fun x y => x < y) := by
  rw [List.pairwise_map]
  exact List.pairwise_lt_range.imp fun h => by omega
 exact this.imp fun h => by omega
theorem litB_iff {l : Int} : litB l = true ↔ l ≠ 0 ∧ -65536 ≤ l ∧ l ≤ 65536 := by unfold litB; rw [decide_eq_true_eq]
theorem by_vars (s : Int → Bool) (ls ks : List Int) : ∀ j, (∀ i, i < j → litB (nth ls i) = true) →
  (V6.map fun v => if s v = true then vsum ls ks j v else 0).sum + nsum ls ks j = got s ls ks j := by
 intro j
 induction j with
 | zero =>
  intro _
  rw [sum_zero V6 fun v _ => by simp [vsum]]
  simp [nsum, got]
 | succ j ih =>
  intro h
  have h1 := ih fun i hi => h i (by omega)
  have hl := litB_iff.1 (h j (by omega))
  have e : (V6.map fun v => if s v = true then vsum ls ks (j + 1) v else 0).sum = (V6.map fun v => if s v = true then vsum ls ks j v else 0).sum + (V6.map fun v => if s v = true then term (nth ls j) (nth ks j) v else 0).sum := by
   rw [← sum_add]
   refine sum_cong V6 fun v _ => ?_
   rw [vsum_succ]
   split <;> omega
  have e2 : (V6.map fun v => if s v = true then term (nth ls j) (nth ks j) v else 0).sum + (if nth ls j < 0 then nth ks j else 0) = if tr s (nth ls j) = true then nth ks j else 0 := by
   rw [pick_sum (x := ((nth ls j).natAbs : Int)) V6 V6_nodup (mem_V6.2 (by omega)) fun v hv hne => by
    have := mem_V6.1 hv
    have e3 : term (nth ls j) (nth ks j) v = 0 := by
     unfold term
     rw [if_neg (by omega), if_neg (by omega)]
    rw [e3]
    simp]
   have e4 : term (nth ls j) (nth ks j) (((nth ls j).natAbs : Nat) : Int) = if 0 < nth ls j then nth ks j else -(nth ks j) := by
    unfold term
    split
    ·rw [if_pos (by omega)]
    ·rw [if_pos (by omega), if_neg (by omega)]
   rw [e4]
   unfold tr
   by_cases hp : 0 < nth ls j
   ·rw [if_pos hp, if_pos hp, if_neg (by omega : ¬ nth ls j < 0), show (((nth ls j).natAbs : Nat) : Int) = nth ls j by omega]
    omega
   ·rw [if_neg hp, if_neg hp, if_pos (by omega : nth ls j < 0), show (((nth ls j).natAbs : Nat) : Int) = - nth ls j by omega]
    cases s (-nth ls j) <;> simp <;> omega
  rw [e, nsum_succ, got_succ]
  omega
theorem normVars_V6 (ls ks : List Int) : normVars ls ks = V6.filter fun v => decide (vsum ls ks ls.length v ≠ 0) := rfl
theorem by_norm (s : Int → Bool) {ls ks : List Int} (h : ∀ i, i < ls.length → litB (nth ls i) = true) :
  ((normVars ls ks).map fun v => if s v = true then vsum ls ks ls.length v else 0).sum + nsum ls ks ls.length = got s ls ks ls.length := by
 rw [← by_vars s ls ks ls.length h, normVars_V6, sum_filter V6 fun v _ hv => by
  have : vsum ls ks ls.length v = 0 := by simpa using hv
  rw [this]; simp]
theorem total_map (p : Int → Bool) (f g : Int → Int) (b : Int) (vs : List Int) : (⟨vs.map f, vs.map g, b⟩ : Pb).total p = (vs.map fun v => if p (f v) = true then g v else 0).sum := by
 unfold Pb.total Pb.part
 simp only [List.length_map]
 have : (List.range vs.length).map (fun j => if p (nth (vs.map f) j) = true then nth (vs.map g) j else 0) = (List.range vs.length).map (fun j => (fun v => if p (f v) = true then g v else 0) (nth vs j)) := by
  refine List.map_congr_left fun j hj => ?_
  have := List.mem_range.1 hj
  rw [nth_map this, nth_map this]
 rw [this]
 have : vs.map (fun v => if p (f v) = true then g v else 0) = (List.range vs.length).map (fun j => (fun v => if p (f v) = true then g v else 0) (nth vs j)) := by
  apply List.ext_getElem (by simp)
  intro i h1 h2
  simp only [List.getElem_map, List.getElem_range]
  rw [nth_eq (by simpa using h1)]
 rw [this]
theorem sum_pos : ∀ xs : List Int, (∀ x ∈ xs, 0 ≤ x) → 0 ≤ xs.sum := by
 intro xs
 induction xs with
 | nil => intro _; exact Int.le_refl _
 | cons x xs ih =>
  intro h
  have h1 := ih fun y hy => h y (by simp [hy])
  have h2 := h x (by simp)
  rw [List.sum_cons]
  omega
theorem le_sum {x : Int} : ∀ xs : List Int, (∀ y ∈ xs, 0 ≤ y) → x ∈ xs → x ≤ xs.sum := by
 intro xs
 induction xs with
 | nil => intro _ h; cases h
 | cons y xs ih =>
  intro h hx
  have h1 := sum_pos xs fun y hy => h y (by simp [hy])
  have h2 := h y (by simp)
  rw [List.sum_cons]
  rcases List.mem_cons.1 hx with e | e
  ·omega
  ·have := ih (fun y hy => h y (by simp [hy])) e
   omega
theorem cut_sum {α : Type} {b : Int} (hb : 0 < b) (f : α → Int) (vs : List α) (h : ∀ v ∈ vs, 0 ≤ f v) : b ≤ (vs.map fun v => min (f v) b).sum ↔ b ≤ (vs.map f).sum := by
 have h5 : (vs.map fun v => min (f v) b).sum ≤ (vs.map f).sum := sum_le vs fun v _ => by show min (f v) b ≤ f v; omega
 by_cases e : ∃ v, v ∈ vs ∧ b ≤ f v
 ·obtain ⟨v, hv, e⟩ := e
  have h1 : min (f v) b ≤ (vs.map fun v => min (f v) b).sum := le_sum _ (fun y hy => by
   obtain ⟨u, hu, rfl⟩ := List.mem_map.1 hy
   have := h u hu
   show 0 ≤ min (f u) b
   omega) (List.mem_map.2 ⟨v, hv, rfl⟩)
  constructor <;> intro _ <;> omega
 ·have e2 : (vs.map fun v => min (f v) b).sum = (vs.map f).sum := sum_cong vs fun v hv => by
   have : ¬ b ≤ f v := fun h => e ⟨v, hv, h⟩
   show min (f v) b = f v
   omega
  rw [e2]
theorem normOk_iff {ls ks : List Int} {b : Int} : normOk ls ks b = true ↔ ls.length = ks.length ∧ ls.length ≤ 65536 ∧ -1099511627776 ≤ b ∧ b ≤ 1099511627776 ∧ ∀ i, i < ls.length → inB ls ks i = true := by
 unfold normOk
 simp only [Bool.and_eq_true, decide_eq_true_eq, List.all_eq_true, List.mem_range]
 exact ⟨fun ⟨⟨⟨⟨h1, h2⟩, h3⟩, h4⟩, h5⟩ => ⟨h1, h2, h3, h4, h5⟩, fun ⟨h1, h2, h3, h4, h5⟩ => ⟨⟨⟨⟨h1, h2⟩, h3⟩, h4⟩, h5⟩⟩
theorem inB_lit {ls ks : List Int} {i : Nat} (h : inB ls ks i = true) : litB (nth ls i) = true := by
 unfold inB at h
 simp only [Bool.and_eq_true] at h
 exact h.1.1
def sg (f v : Int) : Int := if f < 0 then -v else v
theorem tr_sg (s : Int → Bool) (f : Int) {v : Int} (hv : 1 ≤ v) : tr s (sg f v) = if f < 0 then !(s v) else s v := by
 unfold tr sg
 by_cases e : f < 0
 ·rw [if_pos e, if_pos e, if_neg (by omega), Int.neg_neg]
 ·rw [if_neg e, if_neg e, if_pos (by omega)]
theorem normed_sg (ls ks : List Int) (b : Int) : normed ls ks b =
 if normOk ls ks b = false then (⟨[], [], 0⟩, 2)
 else if normBd ls ks b ≤ 0 then (⟨[], [], 0⟩, 0)
 else if (normCoefs ls ks b).sum < normBd ls ks b then (⟨[], [], 1⟩, 0)
 else if 16777216 < normBd ls ks b then (⟨[], [], 0⟩, 3)
 else (⟨(normVars ls ks).map fun v => sg (vsum ls ks ls.length v) v, normCoefs ls ks b, normBd ls ks b⟩, 0) := rfl
def ups (s : Int → Bool) (ls ks : List Int) : Int := ((normVars ls ks).map fun v => if tr s (sg (vsum ls ks ls.length v) v) = true then (((vsum ls ks ls.length v).natAbs : Nat) : Int) else 0).sum
theorem ups_is (s : Int → Bool) {ls ks : List Int} {b : Int} (h : ∀ i, i < ls.length → litB (nth ls i) = true) : normBd ls ks b ≤ ups s ls ks ↔ b ≤ got s ls ks ls.length := by
 have h1 := by_norm s (ks := ks) h
 have h2 : ups s ls ks + ((normVars ls ks).map fun v => min (vsum ls ks ls.length v) 0).sum = ((normVars ls ks).map fun v => if s v = true then vsum ls ks ls.length v else 0).sum := by
  unfold ups
  rw [← sum_add]
  refine sum_cong _ fun v hv => ?_
  have h3 := mem_normVars.1 hv
  obtain ⟨f, hf⟩ : ∃ f, vsum ls ks ls.length v = f := ⟨_, rfl⟩
  rw [hf] at h3 ⊢
  rw [tr_sg s f (by omega)]
  by_cases e : f < 0
  ·rw [if_pos e]
   cases s v <;> simp <;> omega
  ·rw [if_neg e]
   cases s v <;> simp <;> omega
 unfold normBd
 omega
theorem ups_pos (s : Int → Bool) (ls ks : List Int) : 0 ≤ ups s ls ks := sum_pos _ fun y hy => by
 obtain ⟨v, _, rfl⟩ := List.mem_map.1 hy
 show 0 ≤ (if _ then _ else _ : Int)
 split
 ·exact Int.natCast_nonneg _
 ·exact Int.le_refl _
theorem norm_holds (s : Int → Bool) {ls ks : List Int} {b : Int} (hok : normOk ls ks b = true) (he : (normed ls ks b).2 = 0) : (normed ls ks b).1.bound ≤ (normed ls ks b).1.total (tr s) ↔ b ≤ got s ls ks ls.length := by
 have hl : ∀ i, i < ls.length → litB (nth ls i) = true := fun i hi => inB_lit ((normOk_iff.1 hok).2.2.2.2 i hi)
 have h1 := ups_is s (ks := ks) (b := b) hl
 have h2 := ups_pos s ls ks
 rw [← h1]
 have hn : normed ls ks b = normed ls ks b := rfl
 rw [normed_sg] at he ⊢
 rw [if_neg (by rw [hok]; decide)] at he ⊢
 by_cases e1 : normBd ls ks b ≤ 0
 ·rw [if_pos e1]
  have : (⟨[], [], 0⟩ : Pb).total (tr s) = 0 := rfl
  simp only [this]
  constructor <;> intro _ <;> omega
 ·rw [if_neg e1] at he ⊢
  have hcut := cut_sum (b := normBd ls ks b) (by omega) (fun v => if tr s (sg (vsum ls ks ls.length v) v) = true then (((vsum ls ks ls.length v).natAbs : Nat) : Int) else 0) (normVars ls ks) (fun v _ => by
   show 0 ≤ (if _ then _ else _ : Int)
   split
   ·exact Int.natCast_nonneg _
   ·exact Int.le_refl _)
  have hc2 : ((normVars ls ks).map fun v => min (if tr s (sg (vsum ls ks ls.length v) v) = true then (((vsum ls ks ls.length v).natAbs : Nat) : Int) else 0) (normBd ls ks b)).sum = (⟨(normVars ls ks).map fun v => sg (vsum ls ks ls.length v) v, normCoefs ls ks b, normBd ls ks b⟩ : Pb).total (tr s) := by
   unfold normCoefs
   rw [total_map]
   refine sum_cong _ fun v _ => ?_
   split <;> omega
  rw [hc2] at hcut
  by_cases e2 : (normCoefs ls ks b).sum < normBd ls ks b
  ·rw [if_pos e2]
   have e3 : (⟨(normVars ls ks).map fun v => sg (vsum ls ks ls.length v) v, normCoefs ls ks b, normBd ls ks b⟩ : Pb).total (tr s) ≤ (normCoefs ls ks b).sum := by
    unfold normCoefs
    rw [total_map]
    refine sum_le _ fun v _ => ?_
    split <;> omega
   have : (⟨[], [], 1⟩ : Pb).total (tr s) = 0 := rfl
   simp only [this]
   have h5 : ¬ normBd ls ks b ≤ ups s ls ks := fun h => by
    have := hcut.2 h
    omega
   constructor <;> intro h6
   ·omega
   ·exact absurd h6 h5
  ·rw [if_neg e2] at he ⊢
   by_cases e3 : 16777216 < normBd ls ks b
   ·rw [if_pos e3] at he
    cases he
   ·rw [if_neg e3]
    exact hcut
theorem ok_made {vs : List Int} {f : Int → Int} {b : Int} (hr : vs.Pairwise (fun x y => x < y)) (hm : ∀ v ∈ vs, 1 ≤ v ∧ v ≤ 65536 ∧ f v ≠ 0) (hb : 0 < b) (hb2 : b ≤ 16777216) (hlen : vs.length ≤ 65536)
  (hs : b ≤ (vs.map fun v => min (((f v).natAbs : Nat) : Int) b).sum) : (⟨vs.map fun v => sg (f v) v, vs.map fun v => min (((f v).natAbs : Nat) : Int) b, b⟩ : Pb).Ok := by
 have hm2 : ∀ j, j < vs.length → 1 ≤ nth vs j ∧ nth vs j ≤ 65536 ∧ f (nth vs j) ≠ 0 := fun j hj => hm _ (nth_mem hj)
 have hn : ∀ j, j < vs.length → nth (vs.map fun v => sg (f v) v) j = sg (f (nth vs j)) (nth vs j) := fun j hj => nth_map hj
 have hab : ∀ j, j < vs.length → (((nth (vs.map fun v => sg (f v) v) j).natAbs : Nat) : Int) = nth vs j := fun j hj => by
  have := hm2 j hj
  rw [hn j hj]
  unfold sg
  split <;> omega
 refine ⟨by simp, by simpa using hlen, by show 0 ≤ b; omega, hb2, ?_, ?_, ?_, ?_⟩
 ·intro j hj
  have hj : j < vs.length := by simpa using hj
  have h1 := hm2 j hj
  have h2 := hab j hj
  dsimp only
  omega
 ·intro j hj
  have hj : j < vs.length := by simpa using hj
  have h1 := hm2 j hj
  dsimp only
  rw [nth_map hj]
  omega
 ·intro j hj
  have hj : j < vs.length := by simpa using hj
  have h1 := hm2 j hj
  dsimp only
  rw [hab j hj]
  unfold Pb.last
  dsimp only
  split
  ·omega
  ·rw [hab (j - 1) (by omega), nth_eq (by omega), nth_eq hj]
   exact List.pairwise_iff_getElem.1 hr (j - 1) j (by omega) hj (by omega)
 ·left
  unfold Pb.sum
  dsimp only
  rw [List.take_of_length_le (by simp)]
  exact hs
theorem norm_valid {ls ks : List Int} {b : Int} (hok : normOk ls ks b = true) (he : (normed ls ks b).2 = 0) : (normed ls ks b).1.ok = true := by
 rw [normed_sg] at he ⊢
 rw [if_neg (by rw [hok]; decide)] at he ⊢
 by_cases e1 : normBd ls ks b ≤ 0
 ·rw [if_pos e1]; decide
 ·rw [if_neg e1] at he ⊢
  by_cases e2 : (normCoefs ls ks b).sum < normBd ls ks b
  ·rw [if_pos e2]; decide
  ·rw [if_neg e2] at he ⊢
   by_cases e3 : 16777216 < normBd ls ks b
   ·rw [if_pos e3] at he
    cases he
   ·rw [if_neg e3]
    have hlen : (normVars ls ks).length ≤ 65536 := by
     have : (normVars ls ks).length ≤ V6.length := List.length_filter_le _ _
     rw [show V6.length = 65536 by unfold V6; rw [List.length_map, List.length_range]] at this
     exact this
    exact (Pb.ok_iff _).2 (ok_made (normVars_rise ls ks) (fun v hv => mem_normVars.1 hv) (by omega) (by omega) hlen (by unfold normCoefs at e2; omega))
theorem vsum_all {ls ks : List Int} {K : Int} : ∀ j, (∀ i, i < j → litB (nth ls i) = true ∧ -K ≤ nth ks i ∧ nth ks i ≤ K) →
  -(j * K : Int) ≤ (V6.map fun v => min (vsum ls ks j v) 0).sum ∧ -(j * K : Int) ≤ nsum ls ks j ∧ nsum ls ks j ≤ j * K := by
 intro j
 induction j with
 | zero => intro _; rw [sum_zero V6 fun v _ => by simp [vsum]]; simp [nsum]
 | succ j ih =>
  intro h
  obtain ⟨h1, h2, h3⟩ := ih fun i hi => h i (by omega)
  obtain ⟨h4, h5, h6⟩ := h j (by omega)
  have h4 := litB_iff.1 h4
  have e2 : ((j + 1 : Nat) : Int) * K = j * K + K := by rw [Int.natCast_add, Int.add_mul]; simp
  refine ⟨?_, ?_, ?_⟩
  ·have hle : (V6.map fun v => min (vsum ls ks j v) 0 + (if v = ((nth ls j).natAbs : Int) then -K else 0)).sum ≤ (V6.map fun v => min (vsum ls ks (j + 1) v) 0).sum := sum_le V6 fun v hv => by
    have := mem_V6.1 hv
    rw [vsum_succ]
    unfold term
    split
    ·split
     ·omega
     ·split <;> omega
    ·rw [if_neg (by omega), if_neg (by omega)]; omega
   rw [sum_add, pick_sum (x := ((nth ls j).natAbs : Int)) V6 V6_nodup (mem_V6.2 (by omega)) (fun v _ hne => if_neg hne), if_pos rfl] at hle
   omega
  ·rw [nsum_succ]; split <;> omega
  ·rw [nsum_succ]; split <;> omega
theorem normBd_le {ls ks : List Int} {b K : Int} (h : ∀ i, i < ls.length → litB (nth ls i) = true ∧ -K ≤ nth ks i ∧ nth ks i ≤ K) : normBd ls ks b ≤ b + 2 * (ls.length * K) := by
 obtain ⟨h1, h2, _⟩ := vsum_all ls.length h
 unfold normBd
 rw [normVars_V6, sum_filter V6 fun v _ hv => by
  have : vsum ls ks ls.length v = 0 := by simpa using hv
  rw [this]; rfl]
 omega
theorem norm_fits {ls ks : List Int} {b : Int} (hok : normOk ls ks b = true) (hb : normBd ls ks b ≤ 16777216) : (normed ls ks b).2 = 0 := by
 rw [normed_sg]
 rw [if_neg (by rw [hok]; decide)]
 split
 ·rfl
 ·split
  ·rfl
  ·rw [if_neg (by omega)]
theorem norm_lits {ls ks : List Int} {b : Int} {l : Int} (hl : l ∈ (normed ls ks b).1.lits) : ∃ x ∈ ls, x.natAbs = l.natAbs := by
 have hv : ∃ v, vsum ls ks ls.length v ≠ 0 ∧ v.natAbs = l.natAbs := by
  rw [normed_sg] at hl
  split at hl
  ·cases hl
  ·split at hl
   ·cases hl
   ·split at hl
    ·cases hl
    ·split at hl
     ·cases hl
     ·dsimp only at hl
      obtain ⟨v, hv, rfl⟩ := List.mem_map.1 hl
      refine ⟨v, (mem_normVars.1 hv).2.2, ?_⟩
      unfold sg
      split <;> omega
 obtain ⟨v, hv, e⟩ := hv
 by_cases h : ∃ x ∈ ls, x.natAbs = l.natAbs
 ·exact h
 ·refine absurd (sum_zero _ fun i hi => ?_) hv
  have := List.mem_range.1 hi
  have h2 : ¬ (nth ls i).natAbs = l.natAbs := fun e2 => h ⟨_, nth_mem this, e2⟩
  unfold term
  rw [if_neg (by omega), if_neg (by omega)]
section
open Go.RowKit Go.Shelf
attribute [local go_sem] Oper.semAt_some
def Pb.slackB (c : Pb) (av : List Int) : Int := if c.ok = true then (c.total fun l => decide (0 ≤ valB av l)) - c.bound else 0
end
section
open Go.RowKit Go.Shelf
attribute [local go_sem] Oper.semAt_some
theorem wpListIn_append_ints {Fn : Fence} {N : Nat} {ops : Array Oper} {rest : List Oper} {o : Oper} {a : Act} {w : World} {Q : Exit → Act → World → Prop} (hgd : o.guard = none) (s x : Operand)
  (ho : o.op = .call { callee := .builtin .append, args := #[s, x], argTypes := #[23, 23] }) {F G : Nat → Prop} {v u : Value} {n m : Nat} {xs ys : List Value}
  (hv : Own w F 3 1 v n xs) (hu : Rd w G 1 u m ys) (hs : a.eval s = v) (hx : a.eval x = u) (h1 : ∀ u ∈ ys, u.oneCell' = true) (hb : n + m ≤ 17592186044416)
  (hK : ∀ A c w', Own w' (fun b => F b ∨ w.heap.size ≤ b) 3 1 (.slice A (n + m) c) (n + m) (xs ++ ys) → Mod (row v) w w' → (∀ b, row (.slice A (n + m) c) b → row v b ∨ w.heap.size ≤ b) → wpListIn Fn N Tryz.prog ops Q rest (a.put o.dst (.slice A (n + m) c)) w') :
  wpListIn Fn N Tryz.prog ops Q (o :: rest) a w := by
 refine wpListIn_plain hgd fun K hK' => ?_
 obtain ⟨i0, hi, hz0, hz1, hz2⟩ := info_parts info_int
 obtain ⟨v', w', hr, h2, h3, h4⟩ := run_append_rd (P := Tryz.prog) 23 o.type i0 (.int .i64 0) 8 Tryz.underlying23 hi hz0 hz1 hz2 rfl (by decide) hv hu h1 (by unfold maxLen; omega) (by omega)
 obtain ⟨A, c, rfl, _⟩ := h2.form
 unfold Oper.wpIn
 refine ⟨?_, ?_⟩
 ·simp [Oper.about, ho, resolve, Target.leads, Sem.run_pure]
 ·rw [Oper.semAt_plain Fn _ _ (by rw [ho]; intro c hc'; cases hc')]
  simp [execOp, ho, resolve, invoke, builtin, hs, hx, hr, Result.andThen]
  exact hK' _ _ (hK A c w' h2 h3 h4)
theorem Own.kept {W W' : World} {row' : Option Nat} {F : Nat → Prop} {e : TypeId} {k n : Nat} {v : Value} {xs : List Value} (h : Own W F e k v n xs) (hg : W.grownBy W' row') (hr : ∀ r, row' = some r → ∃ o : Obj, W.heap[r]? = some o ∧ o.isCells = false) : Own W' F e k v n xs :=
 h.keep fun g _ hrow _ => by
  obtain ⟨_, cur, hc⟩ := h.row hrow
  exact grownBy_keeps_cells hg hr hc rfl
theorem keeps_append {W W' : World} {F : Nat → Prop} {e : TypeId} {k n : Nat} {v : Value} {xs : List Value} (h : Own W F e k v n xs) (hm : Mod (row v) W W') : KeepsOthers W W' :=
 ⟨hm.size, fun l o hl ho => by
  by_cases hrow : row v l
  ·obtain ⟨_, cur, hc⟩ := h.row hrow
   rw [hl] at hc
   injection hc with hc
   subst hc
   cases ho
  ·exact (hm.block l (lt_of_block hl) hrow).trans hl⟩
theorem Bx.mod {W W' : World} {b : Nat} {v : Value} {G : Nat → Prop} (h : Bx W b v) (hm : Mod G W W') (hb : ¬ G b) : Bx W' b v := by
 have e := hm.block b (World.block_lt_of_cell? W _ h.1) hb
 exact ⟨(World.cell?_of_block (a := ⟨b, 0, none⟩) e).trans h.1, (World.frozen?_of_block (a := ⟨b, 0, none⟩) e).trans h.2⟩
theorem KpB.alloc {n₀ Bn : Nat} {A W : World} (h : KpB n₀ Bn A W) (o : Obj) (hn : n₀ ≤ W.heap.size) (hB : Bn < W.heap.size) : KpB n₀ Bn A (W.alloc o) :=
 ⟨h.1.alloc hn o, (World.heap_alloc_ne W o Bn (by omega)).trans h.2⟩
theorem KpB.mod {n₀ Bn : Nat} {A W W' : World} {G : Nat → Prop} (h : KpB n₀ Bn A W) (hm : Mod G W W') (hn : n₀ ≤ W.heap.size) (hB : Bn < W.heap.size) (hG : ∀ g, G g → n₀ ≤ g) (hGB : ¬ G Bn) : KpB n₀ Bn A W' :=
 ⟨below_mod h.1 hn hm hG, (hm.block Bn hB hGB).trans h.2⟩
def Pb.pick (c : Pb) (q : Int → Int → Bool) (js : List Nat) : List Int := (js.filter fun j => q (nth c.lits j) (nth c.coefs j)).map (nth c.lits)
theorem Pb.pick_snoc (c : Pb) (q : Int → Int → Bool) (js : List Nat) (j : Nat) : c.pick q (js ++ [j]) = c.pick q js ++ (if q (nth c.lits j) (nth c.coefs j) = true then [nth c.lits j] else []) := by
 unfold Pb.pick
 rw [List.filter_append, List.map_append]
 by_cases h : q (nth c.lits j) (nth c.coefs j) = true
 ·simp [h]
 ·have h' : q (nth c.lits j) (nth c.coefs j) = false := by simpa using h
  simp [h']
def Pb.unitsB (c : Pb) (av : List Int) : List Int := if c.ok = true ∧ 0 ≤ c.slackB av then c.pick (fun l k => decide (valB av l = 0) && decide (c.slackB av < k)) (List.range c.lits.length) else []
end
end Go.Proofs.YtcjmpobccbnpkaaGreat
