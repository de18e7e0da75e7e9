/-
  Chapter 25: several texts in one (merge.py: CtA CtB CtD).
-/
import Derived.Test.YtooioikkgdgnnaaDoorPlE
namespace Go.Proofs.YtooioikkgdgnnaaDoor
theorem got_append (s : Int → Bool) {l1 k1 l2 k2 : List Int} (h1 : l1.length = k1.length) : got s (l1 ++ l2) (k1 ++ k2) (l1 ++ l2).length = got s l1 k1 l1.length + got s l2 k2 l2.length := by
  have e1 : ∀ j, j ≤ l1.length → got s (l1 ++ l2) (k1 ++ k2) j = got s l1 k1 j := by
    intro j
    induction j with
    | zero => intro _; rfl
    | succ j ih =>
      intro hj
      rw [got_succ, got_succ, ih (by omega)]
      unfold nth
      rw [List.getElem?_append_left (by omega), List.getElem?_append_left (by omega)]
  have e2 : ∀ j, j ≤ l2.length → got s (l1 ++ l2) (k1 ++ k2) (l1.length + j) = got s l1 k1 l1.length + got s l2 k2 j := by
    intro j
    induction j with
    | zero => intro _; rw [Nat.add_zero, e1 _ (Nat.le_refl _)]; simp [got]
    | succ j ih =>
      intro hj
      rw [← Nat.add_assoc, got_succ, got_succ, ih (by omega)]
      unfold nth
      rw [List.getElem?_append_right (by omega), List.getElem?_append_right (by omega), Nat.add_sub_cancel_left, h1, Nat.add_sub_cancel_left]
      omega
  rw [List.length_append, e2 _ (Nat.le_refl _)]
/-- Divide and round up. -/
def upN (n k : Int) : Int := (n + k - 1) / k
theorem upN_le {n k : Int} (hk : 1 ≤ k) {x : Int} : upN n k ≤ x ↔ n ≤ x * k := by
  unfold upN
  rw [← Int.lt_add_one_iff, Int.ediv_lt_iff_lt_mul (by omega), Int.add_mul]
  omega
def Pb.bad2 : Pb × Int := (⟨[], [], 0⟩, 2)
def Pb.addB (a b : Pb) : Pb × Int := if a.ok = true ∧ b.ok = true then normed (a.lits ++ b.lits) (a.coefs ++ b.coefs) (a.bound + b.bound) else Pb.bad2
def Pb.mulB (a : Pb) (k : Int) : Pb × Int := if ¬ (a.ok = true ∧ 1 ≤ k ∧ k ≤ 16777216) then Pb.bad2 else if 16777216 < a.bound * k then (⟨[], [], 0⟩, 3) else normed a.lits (a.coefs.map (· * k)) (a.bound * k)
def Pb.divB (a : Pb) (k : Int) : Pb × Int := if ¬ (a.ok = true ∧ 1 ≤ k ∧ k ≤ 16777216) then Pb.bad2 else normed a.lits (a.coefs.map fun n => upN n k) (upN a.bound k)
/-- The place of the variable v, or the length. -/
def Pb.at (a : Pb) (v : Int) : Nat := a.lits.findIdx fun l => l == v || l == -v
def Pb.weakB (a : Pb) (v : Int) : Pb × Int := if ¬ (a.ok = true ∧ 1 ≤ v ∧ v ≤ 65536) then Pb.bad2 else if a.at v < a.lits.length then normed (a.lits.take (a.at v) ++ a.lits.drop (a.at v + 1)) (a.coefs.take (a.at v) ++ a.coefs.drop (a.at v + 1)) (a.bound - nth a.coefs (a.at v)) else normed a.lits a.coefs a.bound
theorem inB_append {l1 k1 l2 k2 : List Int} (hl1 : l1.length = k1.length) (hl2 : l2.length = k2.length) (h1 : ∀ i, i < l1.length → inB l1 k1 i = true) (h2 : ∀ i, i < l2.length → inB l2 k2 i = true) : ∀ i, i < (l1 ++ l2).length → inB (l1 ++ l2) (k1 ++ k2) i = true := by
  intro i hi
  rw [List.length_append] at hi
  by_cases e : i < l1.length
  · have h := h1 i e
    unfold inB nth at h ⊢
    rw [List.getElem?_append_left e, List.getElem?_append_left (by omega)]
    exact h
  · have h := h2 (i - l1.length) (by omega)
    unfold inB nth at h ⊢
    rw [List.getElem?_append_right (by omega), List.getElem?_append_right (by omega), ← hl1]
    exact h
theorem Pb.Ok.inB {c : Pb} (h : c.Ok) {i : Nat} (hi : i < c.lits.length) : Go.Proofs.YtooioikkgdgnnaaDoor.inB c.lits c.coefs i = true := by
  obtain ⟨_, _, _, _, h5⟩ := normOk_iff.1 h.inn
  exact h5 i hi
theorem add_in {a b : Pb} (ha : a.Ok) (hb : b.Ok) (hl : a.lits.length + b.lits.length ≤ 65536) : normOk (a.lits ++ b.lits) (a.coefs ++ b.coefs) (a.bound + b.bound) = true := by
  have h1 := ha.low; have h2 := hb.low; have h3 := ha.high; have h4 := hb.high
  refine normOk_iff.2 ⟨by rw [List.length_append, List.length_append, ha.len, hb.len], by rw [List.length_append]; exact hl, by omega, by omega, inB_append ha.len hb.len (fun i hi => ha.inB hi) fun i hi => hb.inB hi⟩
/-- The sum of two constraints: satisfied exactly if the sums reach the sum of the bounds. -/
theorem add_holds (s : Int → Bool) {a b : Pb} (ha : a.Ok) (hb : b.Ok) (hl : a.lits.length + b.lits.length ≤ 65536) (he : (a.addB b).2 = 0) : (a.addB b).1.bound ≤ (a.addB b).1.total (tr s) ↔ a.bound + b.bound ≤ a.total (tr s) + b.total (tr s) := by
  have e : a.addB b = normed (a.lits ++ b.lits) (a.coefs ++ b.coefs) (a.bound + b.bound) := by
    unfold Pb.addB
    rw [if_pos ⟨(Pb.ok_iff a).2 ha, (Pb.ok_iff b).2 hb⟩]
  rw [e] at he ⊢
  rw [norm_holds s (add_in ha hb hl) he, got_append s ha.len, total_got, total_got]
theorem nth_mapI {f : Int → Int} {xs : List Int} {i : Nat} (h : i < xs.length) : nth (xs.map f) i = f (nth xs i) := by
  rw [nth_eq (by simpa using h), nth_eq h, List.getElem_map]
theorem got_mul (s : Int → Bool) (c : Pb) (hc : c.Ok) (k : Int) : ∀ j, j ≤ c.lits.length → got s c.lits (c.coefs.map (· * k)) j = got s c.lits c.coefs j * k := by
  intro j
  induction j with
  | zero => intro _; simp [got]
  | succ j ih =>
    intro hj
    rw [got_succ, got_succ, ih (by omega), nth_mapI (by rw [← hc.len]; omega), Int.add_mul]
    congr 1
    split <;> simp
theorem got_up (s : Int → Bool) (c : Pb) (hc : c.Ok) {k : Int} (hk : 1 ≤ k) : ∀ j, j ≤ c.lits.length → got s c.lits c.coefs j ≤ got s c.lits (c.coefs.map fun n => upN n k) j * k := by
  intro j
  induction j with
  | zero => intro _; simp [got]
  | succ j ih =>
    intro hj
    have h1 := ih (by omega)
    have h2 : nth c.coefs j ≤ upN (nth c.coefs j) k * k := (upN_le hk).1 (Int.le_refl _)
    rw [got_succ, got_succ, nth_mapI (by rw [← hc.len]; omega), Int.add_mul]
    split
    · omega
    · simp; exact h1

/-- A constraint over the variables 1 to 6. -/
structure O6 (c : Pb) : Prop where
  ok : c.Ok
  six : ∀ j, j < c.lits.length → (nth c.lits j).natAbs ≤ 6
theorem nth_of_mem {xs : List Int} {x : Int} (h : x ∈ xs) : ∃ i, i < xs.length ∧ nth xs i = x := by
  obtain ⟨i, hi, e⟩ := List.getElem_of_mem h
  exact ⟨i, hi, by rw [nth_eq hi]; exact e⟩
theorem O6.lit {c : Pb} (h : O6 c) : ∀ l ∈ c.lits, l ≠ 0 ∧ -6 ≤ l ∧ l ≤ 6 := fun l hl => by
  obtain ⟨i, hi, rfl⟩ := nth_of_mem hl
  have h1 := h.six i hi
  have h2 := h.ok.lit i hi
  omega
theorem Pb.Ok.co {c : Pb} (h : c.Ok) : ∀ k ∈ c.coefs, 1 ≤ k ∧ k ≤ c.bound := fun k hk => by
  obtain ⟨i, hi, rfl⟩ := nth_of_mem hk
  exact h.coef i (by rw [h.len]; exact hi)
theorem O6.co {c : Pb} (h : O6 c) : ∀ k ∈ c.coefs, 1 ≤ k ∧ k ≤ c.bound := h.ok.co
theorem O6.few {c : Pb} (h : O6 c) : c.lits.length ≤ 6 := h.ok.few6 h.six
theorem Sm.o6 {L C : List Int} {b : Int} (h : Sm L C) (h1 : -100 ≤ b) (h2 : b ≤ 100) : O6 (normed L C b).1 :=
  ⟨h.ok h1 h2, fun _ hj => (h.six h1 h2 hj).2⟩
theorem in6 {ls ks : List Int} {b : Int} (hlen : ls.length = ks.length) (hl : ∀ l ∈ ls, l ≠ 0 ∧ -65536 ≤ l ∧ l ≤ 65536) (hf : ls.length ≤ 65536) (hk : ∀ k ∈ ks, -16777216 ≤ k ∧ k ≤ 16777216) (h1 : -1099511627776 ≤ b) (h2 : b ≤ 1099511627776) : normOk ls ks b = true :=
  normOk_iff.2 ⟨hlen, hf, h1, h2, fun i hi => by
    have h3 := hl _ (nth_mem hi)
    have h4 := hk _ (nth_mem (show i < ks.length by omega))
    unfold inB
    simp only [Bool.and_eq_true, decide_eq_true_eq]
    exact ⟨⟨litB_iff.2 h3, h4.1⟩, h4.2⟩⟩
/-- A normal form over six variables. -/
theorem normed6 {ls ks : List Int} {b : Int} (hl : ∀ l ∈ ls, l ≠ 0 ∧ -6 ≤ l ∧ l ≤ 6) (hok : normOk ls ks b = true) (he : (normed ls ks b).2 = 0) : O6 (normed ls ks b).1 := by
  refine ⟨(Pb.ok_iff _).1 (norm_valid hok he), fun j hj => ?_⟩
  obtain ⟨x, hx, e⟩ := norm_lits (nth_mem hj)
  have := hl x hx
  omega
theorem err6 {ls ks : List Int} {b : Int} (hl : ∀ l ∈ ls, l ≠ 0 ∧ -6 ≤ l ∧ l ≤ 6) (hf : ls.length ≤ 12) (hk : ∀ k ∈ ks, -200000 ≤ k ∧ k ≤ 200000) (hlen : ls.length = ks.length) (hb : b ≤ 1000000) (hok : normOk ls ks b = true) : (normed ls ks b).2 = 0 :=
  norm_fits hok (by
    have := normBd_le (b := b) (K := 200000) (ls := ls) (ks := ks) fun i hi => by
      have h3 := hl _ (nth_mem hi)
      exact ⟨litB_iff.2 ⟨h3.1, by omega, by omega⟩, hk _ (nth_mem (show i < ks.length by omega))⟩
    omega)
section
variable {a b : Pb}
theorem Pb.Ok.litr (h : a.Ok) : ∀ l ∈ a.lits, l ≠ 0 ∧ -65536 ≤ l ∧ l ≤ 65536 := fun l hl => by
  obtain ⟨i, hi, rfl⟩ := nth_of_mem hl
  have h2 := h.lit i hi
  omega
theorem addB_is (ha : a.Ok) (hb : b.Ok) : a.addB b = normed (a.lits ++ b.lits) (a.coefs ++ b.coefs) (a.bound + b.bound) := by
  unfold Pb.addB
  rw [if_pos ⟨(Pb.ok_iff a).2 ha, (Pb.ok_iff b).2 hb⟩]
theorem O6.add (ha : O6 a) (hb : O6 b) (he : (a.addB b).2 = 0) : O6 (a.addB b).1 ∧ ∀ av, Tot av → a.holdsB av = true → b.holdsB av = true → (a.addB b).1.holdsB av = true := by
  have h1 := ha.few; have h2 := hb.few
  have e := addB_is ha.ok hb.ok
  have ho : O6 (a.addB b).1 := by
    rw [e] at he ⊢
    exact normed6 (fun l hl => (List.mem_append.1 hl).elim (ha.lit l) (hb.lit l)) (add_in ha.ok hb.ok (by omega)) he
  refine ⟨ho, fun av hv h3 h4 => ?_⟩
  rw [tot_holds ha.ok ha.six hv, decide_eq_true_eq] at h3
  rw [tot_holds hb.ok hb.six hv, decide_eq_true_eq] at h4
  rw [tot_holds ho.ok ho.six hv, decide_eq_true_eq]
  exact (add_holds _ ha.ok hb.ok (by omega) he).2 (by omega)
theorem O6.add_err (ha : O6 a) (hb : O6 b) (hla : a.bound ≤ 100000) (hlb : b.bound ≤ 100000) : (a.addB b).2 = 0 := by
  rw [addB_is ha.ok hb.ok]
  have h1 := ha.few; have h2 := hb.few
  refine err6 (fun l hl => (List.mem_append.1 hl).elim (ha.lit l) (hb.lit l)) (by rw [List.length_append]; omega) (fun k hk => ?_) (by rw [List.length_append, List.length_append, ha.ok.len, hb.ok.len]) (by omega) (add_in ha.ok hb.ok (by omega))
  rcases List.mem_append.1 hk with h | h
  · have := ha.co k h; omega
  · have := hb.co k h; omega
theorem mulB_is (ha : a.Ok) {k : Int} (h1 : 1 ≤ k) (h2 : k ≤ 16777216) (h3 : a.bound * k ≤ 16777216) : a.mulB k = normed a.lits (a.coefs.map (· * k)) (a.bound * k) := by
  unfold Pb.mulB
  rw [if_neg (by simp [(Pb.ok_iff a).2 ha, h1, h2]), if_neg (by omega)]
theorem divB_is (ha : a.Ok) {k : Int} (h1 : 1 ≤ k) (h2 : k ≤ 16777216) : a.divB k = normed a.lits (a.coefs.map fun n => upN n k) (upN a.bound k) := by
  unfold Pb.divB
  rw [if_neg (by simp [(Pb.ok_iff a).2 ha, h1, h2])]
theorem mul_le' {x y k : Int} (h1 : 0 ≤ x) (h2 : x ≤ y) (h3 : 0 ≤ k) : 0 ≤ x * k ∧ x * k ≤ y * k := ⟨Int.mul_nonneg h1 h3, Int.mul_le_mul_of_nonneg_right h2 h3⟩
theorem mul_in (ha : a.Ok) {k : Int} (h1 : 1 ≤ k) (h3 : a.bound * k ≤ 16777216) : normOk a.lits (a.coefs.map (· * k)) (a.bound * k) = true := by
  have h5 := (mul_le' ha.low (Int.le_refl _) (show 0 ≤ k by omega)).1
  refine in6 (by rw [List.length_map, ha.len]) ha.litr (normOk_iff.1 ha.inn).2.1 (fun x hx => ?_) (by omega) (by omega)
  obtain ⟨y, hy, rfl⟩ := List.mem_map.1 hx
  have h6 := ha.co y hy
  have e1 := mul_le' (show 0 ≤ y by omega) h6.2 (show 0 ≤ k by omega)
  omega
theorem mul_says {k : Int} (he : (a.mulB k).2 = 0) : a.Ok ∧ 1 ≤ k ∧ k ≤ 16777216 ∧ a.bound * k ≤ 16777216 := by
  unfold Pb.mulB at he
  split at he
  · exact absurd he (by decide)
  · rename_i h
    have h := Decidable.not_not.1 h
    split at he
    · exact absurd he (by decide)
    · exact ⟨(Pb.ok_iff a).1 h.1, h.2.1, h.2.2, by omega⟩
theorem O6.mul (ha : O6 a) {k : Int} (he : (a.mulB k).2 = 0) : O6 (a.mulB k).1 ∧ ∀ av, Tot av → (a.mulB k).1.holdsB av = a.holdsB av := by
  obtain ⟨_, h1, h2, h3⟩ := mul_says he
  have e := mulB_is ha.ok h1 h2 h3
  have hin := mul_in ha.ok h1 h3
  have ho : O6 (a.mulB k).1 := by
    rw [e] at he ⊢
    exact normed6 ha.lit hin he
  refine ⟨ho, fun av hv => ?_⟩
  rw [tot_holds ha.ok ha.six hv, tot_holds ho.ok ho.six hv]
  refine decide_eq_decide.2 ?_
  rw [e] at he ⊢
  rw [norm_holds _ hin he, got_mul _ a ha.ok k _ (Nat.le_refl _), total_got]
  exact ⟨fun h => Int.le_of_mul_le_mul_right h (by omega), fun h => Int.mul_le_mul_of_nonneg_right h (by omega)⟩
theorem O6.mul_err (ha : O6 a) (hlo : a.bound ≤ 228) {k : Int} (h1 : 1 ≤ k) (h2 : k ≤ 256) : (a.mulB k).2 = 0 ∧ a.bound * k ≤ 58368 := by
  have h3 : a.bound * k ≤ 58368 := by
    have e1 := (mul_le' ha.ok.low hlo (show 0 ≤ k by omega)).2
    omega
  have hf := ha.few
  refine ⟨?_, h3⟩
  rw [mulB_is ha.ok h1 (by omega) (by omega)]
  refine err6 ha.lit (by omega) (fun x hx => ?_) (by rw [List.length_map, ha.ok.len]) (by omega) (mul_in ha.ok h1 (by omega))
  obtain ⟨y, hy, rfl⟩ := List.mem_map.1 hx
  have h6 := ha.co y hy
  have e1 := mul_le' (show 0 ≤ y by omega) h6.2 (show 0 ≤ k by omega)
  omega
theorem upN_bounds {n k : Int} (h0 : 0 ≤ n) (hk : 1 ≤ k) : 0 ≤ upN n k ∧ upN n k ≤ n := by
  constructor
  · unfold upN
    exact Int.ediv_nonneg (by omega) (by omega)
  · refine (upN_le hk).2 ?_
    have := Int.mul_le_mul_of_nonneg_left hk h0
    omega
theorem div_in (ha : a.Ok) {k : Int} (h1 : 1 ≤ k) : normOk a.lits (a.coefs.map fun n => upN n k) (upN a.bound k) = true := by
  have h3 := upN_bounds ha.low h1
  have h4 := ha.high
  refine in6 (by rw [List.length_map, ha.len]) ha.litr (normOk_iff.1 ha.inn).2.1 (fun x hx => ?_) (by omega) (by omega)
  obtain ⟨y, hy, rfl⟩ := List.mem_map.1 hx
  have h6 := ha.co y hy
  have e1 := upN_bounds (show 0 ≤ y by omega) h1
  omega
theorem div_says {k : Int} (he : (a.divB k).2 = 0) : a.Ok ∧ 1 ≤ k ∧ k ≤ 16777216 := by
  unfold Pb.divB at he
  split at he
  · exact absurd he (by decide)
  · rename_i h
    have h := Decidable.not_not.1 h
    exact ⟨(Pb.ok_iff a).1 h.1, h.2⟩
theorem O6.div (ha : O6 a) {k : Int} (he : (a.divB k).2 = 0) : O6 (a.divB k).1 ∧ ∀ av, Tot av → a.holdsB av = true → (a.divB k).1.holdsB av = true := by
  obtain ⟨_, h1, h2⟩ := div_says he
  have e := divB_is ha.ok h1 h2
  have hin := div_in ha.ok h1
  have ho : O6 (a.divB k).1 := by
    rw [e] at he ⊢
    exact normed6 ha.lit hin he
  refine ⟨ho, fun av hv h => ?_⟩
  rw [tot_holds ha.ok ha.six hv, decide_eq_true_eq] at h
  rw [tot_holds ho.ok ho.six hv, decide_eq_true_eq]
  rw [e] at he ⊢
  rw [norm_holds _ hin he]
  have h3 := got_up (sOf av) a ha.ok h1 _ (Nat.le_refl _)
  rw [total_got] at h
  exact (upN_le h1).2 (by omega)
theorem O6.div_err (ha : O6 a) (hlo : a.bound ≤ 100000) {k : Int} (h1 : 1 ≤ k) (h2 : k ≤ 16777216) : (a.divB k).2 = 0 := by
  rw [divB_is ha.ok h1 h2]
  have h3 := upN_bounds ha.ok.low h1
  have hf := ha.few
  refine err6 ha.lit (by omega) (fun x hx => ?_) (by rw [List.length_map, ha.ok.len]) (by omega) (div_in ha.ok h1)
  obtain ⟨y, hy, rfl⟩ := List.mem_map.1 hx
  have h6 := ha.co y hy
  have e1 := upN_bounds (show 0 ≤ y by omega) h1
  omega
theorem got_drop (s : Int → Bool) {ls ks : List Int} (h : ls.length = ks.length) {i : Nat} (hi : i < ls.length) :
    got s (ls.take i ++ ls.drop (i + 1)) (ks.take i ++ ks.drop (i + 1)) (ls.take i ++ ls.drop (i + 1)).length = got s ls ks ls.length - (if tr s (nth ls i) = true then nth ks i else 0) := by
  have e1 : got s ls ks ls.length = got s (ls.take i ++ ([nth ls i] ++ ls.drop (i + 1))) (ks.take i ++ ([nth ks i] ++ ks.drop (i + 1))) (ls.take i ++ ([nth ls i] ++ ls.drop (i + 1))).length := by
    have f1 : ls.take i ++ ([nth ls i] ++ ls.drop (i + 1)) = ls := by
      rw [← List.append_assoc, ← take_nth hi, List.take_append_drop]
    have f2 : ks.take i ++ ([nth ks i] ++ ks.drop (i + 1)) = ks := by
      rw [← List.append_assoc, ← take_nth (by omega), List.take_append_drop]
    rw [f1, f2]
  rw [e1, got_append s (by rw [List.length_take, List.length_take, h]), got_append s (by rw [List.length_take, List.length_take, h]), got_append s (l1 := [nth ls i]) (k1 := [nth ks i]) rfl]
  have e2 : got s [nth ls i] [nth ks i] [nth ls i].length = if tr s (nth ls i) = true then nth ks i else 0 := by
    show got s [nth ls i] [nth ks i] (0 + 1) = _
    rw [got_succ]
    exact Int.zero_add _
  rw [e2]
  omega
theorem weakB_is (ha : a.Ok) {v : Int} (h1 : 1 ≤ v) (h2 : v ≤ 65536) : a.weakB v = if a.at v < a.lits.length then normed (a.lits.take (a.at v) ++ a.lits.drop (a.at v + 1)) (a.coefs.take (a.at v) ++ a.coefs.drop (a.at v + 1)) (a.bound - nth a.coefs (a.at v)) else (a, 0) := by
  unfold Pb.weakB
  rw [if_neg (by simp [(Pb.ok_iff a).2 ha, h1, h2]), ha.again]
theorem weak_in (ha : a.Ok) {i : Nat} (hi : i < a.lits.length) : normOk (a.lits.take i ++ a.lits.drop (i + 1)) (a.coefs.take i ++ a.coefs.drop (i + 1)) (a.bound - nth a.coefs i) = true := by
  have hl := ha.len
  have h3 := ha.co _ (nth_mem (show i < a.coefs.length by omega))
  have h4 := ha.high; have h5 := ha.low; have h6 := (normOk_iff.1 ha.inn).2.1
  refine in6 (by simp [hl]) (fun l hl => (List.mem_append.1 hl).elim (fun h => ha.litr l (List.mem_of_mem_take h)) fun h => ha.litr l (List.mem_of_mem_drop h)) (by rw [List.length_append, List.length_take, List.length_drop]; omega) (fun k hk => ?_) (by omega) (by omega)
  rcases List.mem_append.1 hk with h | h
  · have := ha.co k (List.mem_of_mem_take h); omega
  · have := ha.co k (List.mem_of_mem_drop h); omega
theorem weak_says {v : Int} (he : (a.weakB v).2 = 0) : a.Ok ∧ 1 ≤ v ∧ v ≤ 65536 := by
  unfold Pb.weakB at he
  split at he
  · exact absurd he (by decide)
  · rename_i h
    have h := Decidable.not_not.1 h
    exact ⟨(Pb.ok_iff a).1 h.1, h.2⟩
theorem O6.weak (ha : O6 a) {v : Int} (he : (a.weakB v).2 = 0) : O6 (a.weakB v).1 ∧ ∀ av, Tot av → a.holdsB av = true → (a.weakB v).1.holdsB av = true := by
  obtain ⟨_, h1, h2⟩ := weak_says he
  have e := weakB_is ha.ok h1 h2
  rw [e] at he ⊢
  by_cases hlt : a.at v < a.lits.length
  · rw [if_pos hlt] at he ⊢
    have ho := normed6 (fun l hl => (List.mem_append.1 hl).elim (fun h => ha.lit l (List.mem_of_mem_take h)) fun h => ha.lit l (List.mem_of_mem_drop h)) (weak_in ha.ok hlt) he
    refine ⟨ho, fun av hv h => ?_⟩
    rw [tot_holds ho.ok ho.six hv, decide_eq_true_eq]
    rw [tot_holds ha.ok ha.six hv, decide_eq_true_eq] at h
    have hl := ha.ok.len
    have h3 := ha.co _ (nth_mem (show a.at v < a.coefs.length by omega))
    rw [norm_holds _ (weak_in ha.ok hlt) he, got_drop _ hl hlt, ← total_got]
    split <;> omega
  · rw [if_neg hlt]
    exact ⟨ha, fun av _ h => h⟩
theorem O6.weak_err (ha : O6 a) (hlo : a.bound ≤ 100000) {v : Int} (h1 : 1 ≤ v) (h2 : v ≤ 65536) : (a.weakB v).2 = 0 := by
  rw [weakB_is ha.ok h1 h2]
  split
  · rename_i hlt
    have hl := ha.ok.len
    have hf := ha.few
    have h3 := ha.co _ (nth_mem (show a.at v < a.coefs.length by omega))
    refine err6 (fun l hl => (List.mem_append.1 hl).elim (fun h => ha.lit l (List.mem_of_mem_take h)) fun h => ha.lit l (List.mem_of_mem_drop h)) (by rw [List.length_append, List.length_take, List.length_drop]; omega) (fun k hk => ?_) (by simp [hl]) (by omega) (weak_in ha.ok hlt)
    rcases List.mem_append.1 hk with h | h
    · have := ha.co k (List.mem_of_mem_take h); omega
    · have := ha.co k (List.mem_of_mem_drop h); omega
  · rfl
end

/-- An operation: its kind, its number. -/
structure Cop where
  kind : Nat
  n : Int
def Pb.nil : Pb := ⟨[], [], 0⟩
/-- The constraint at a place. -/
def pbAt (s : List Pb) (i : Nat) : Pb := s[i]?.getD Pb.nil
theorem pbAt_get {s : List Pb} {i : Nat} (h : i < s.length) : s[i]? = some (pbAt s i) := by simp [pbAt, h]
theorem pbAt_mem {s : List Pb} {i : Nat} (h : i < s.length) : pbAt s i ∈ s := by
  have : pbAt s i = s[i] := by simp [pbAt, h]
  rw [this]; exact List.getElem_mem h
/-- An operation on a constraint. -/
def oneB (k : Nat) (c : Pb) (n : Int) : Pb × Int := if k = 3 then c.mulB n else if k = 4 then c.divB n else c.weakB n
/-- One operation on the stack. -/
def stepB (db : List Pb) (s : List Pb) (op : Cop) : List Pb × Int :=
  if op.kind = 1 then (if op.n < 0 ∨ (db.length : Int) ≤ op.n then (s, 2) else (s ++ [pbAt db op.n.toNat], 0))
  else if op.kind = 2 then (if s.length < 2 ∨ op.n ≠ 0 then (s, 2) else (s.take (s.length - 2) ++ [((pbAt s (s.length - 2)).addB (pbAt s (s.length - 1))).1], ((pbAt s (s.length - 2)).addB (pbAt s (s.length - 1))).2))
  else if s.length < 1 ∨ op.kind < 3 ∨ 5 < op.kind then (s, 2)
  else (s.take (s.length - 1) ++ [(oneB op.kind (pbAt s (s.length - 1)) op.n).1], (oneB op.kind (pbAt s (s.length - 1)) op.n).2)
def runFrom (db : List Pb) : List Cop → List Pb → Pb × Int
  | [], s => if s.length = 1 then (pbAt s 0, 0) else Pb.bad2
  | op :: ops, s => if (stepB db s op).2 = 0 then runFrom db ops (stepB db s op).1 else (Pb.nil, (stepB db s op).2)
def runB (ops : List Cop) (db : List Pb) : Pb × Int := if 1000 < ops.length ∨ db.all Pb.ok = false then Pb.bad2 else runFrom db ops []
theorem runFrom_drop {db : List Pb} {ops : List Cop} {i : Nat} (hi : i < ops.length) (s : List Pb) : runFrom db (ops.drop i) s = if (stepB db s ops[i]).2 = 0 then runFrom db (ops.drop (i + 1)) (stepB db s ops[i]).1 else (Pb.nil, (stepB db s ops[i]).2) := by
  rw [List.drop_eq_getElem_cons hi]
  rfl
/-- What a step keeps. -/
theorem step_keeps {db s : List Pb} {op : Cop} {p : Pb → Prop} (hdb : ∀ c ∈ db, p c) (hs : ∀ c ∈ s, p c) (he : (stepB db s op).2 = 0)
    (h2 : ∀ a b : Pb, p a → p b → (a.addB b).2 = 0 → p (a.addB b).1) (h3 : ∀ (a : Pb) (n : Int), p a → (a.mulB n).2 = 0 → p (a.mulB n).1) (h4 : ∀ (a : Pb) (n : Int), p a → (a.divB n).2 = 0 → p (a.divB n).1)
    (h5 : ∀ (a : Pb) (n : Int), p a → (a.weakB n).2 = 0 → p (a.weakB n).1) : ∀ c ∈ (stepB db s op).1, p c := by
  unfold stepB at he ⊢
  split
  · rename_i e
    rw [if_pos e] at he
    split
    · exact hs
    · rename_i e2
      intro c hc
      rcases List.mem_append.1 hc with h | h
      · exact hs c h
      · rw [List.mem_singleton.1 h]
        exact hdb _ (pbAt_mem (by omega))
  · rename_i e
    rw [if_neg e] at he
    split
    · rename_i e1
      rw [if_pos e1] at he
      split
      · exact hs
      · rename_i e2
        rw [if_neg e2] at he
        intro c hc
        rcases List.mem_append.1 hc with h | h
        · exact hs c (List.mem_of_mem_take h)
        · rw [List.mem_singleton.1 h]
          exact h2 _ _ (hs _ (pbAt_mem (by omega))) (hs _ (pbAt_mem (by omega))) he
    · rename_i e1
      rw [if_neg e1] at he
      split
      · exact hs
      · rename_i e2
        rw [if_neg e2] at he
        intro c hc
        rcases List.mem_append.1 hc with h | h
        · exact hs c (List.mem_of_mem_take h)
        · rw [List.mem_singleton.1 h]
          have hp := hs _ (pbAt_mem (s := s) (i := s.length - 1) (by omega))
          unfold oneB at he ⊢
          split
          · rename_i e3
            rw [if_pos e3] at he
            exact h3 _ _ hp he
          · rename_i e3
            rw [if_neg e3] at he
            split
            · rename_i e4
              rw [if_pos e4] at he
              exact h4 _ _ hp he
            · rename_i e4
              rw [if_neg e4] at he
              exact h5 _ _ hp he
theorem runFrom_keeps {db : List Pb} {p : Pb → Prop} (hdb : ∀ c ∈ db, p c)
    (h2 : ∀ a b : Pb, p a → p b → (a.addB b).2 = 0 → p (a.addB b).1) (h3 : ∀ (a : Pb) (n : Int), p a → (a.mulB n).2 = 0 → p (a.mulB n).1) (h4 : ∀ (a : Pb) (n : Int), p a → (a.divB n).2 = 0 → p (a.divB n).1)
    (h5 : ∀ (a : Pb) (n : Int), p a → (a.weakB n).2 = 0 → p (a.weakB n).1) : ∀ (ops : List Cop) (s : List Pb), (∀ c ∈ s, p c) → (runFrom db ops s).2 = 0 → p (runFrom db ops s).1 := by
  intro ops
  induction ops with
  | nil =>
    intro s hs he
    unfold runFrom at he ⊢
    split
    · exact hs _ (pbAt_mem (by omega))
    · rename_i e; rw [if_neg e] at he; exact absurd he (by decide)
  | cons op ops ih =>
    intro s hs he
    unfold runFrom at he ⊢
    split
    · rename_i e
      rw [if_pos e] at he
      exact ih _ (step_keeps hdb hs e h2 h3 h4 h5) he
    · rename_i e
      rw [if_neg e] at he
      exact absurd he e
/-- A proof's result follows from its premises. -/
theorem run_sound {ops : List Cop} {db : List Pb} (hdb : ∀ c ∈ db, O6 c) (he : (runB ops db).2 = 0) : O6 (runB ops db).1 ∧ ∀ av, Tot av → (∀ c ∈ db, c.holdsB av = true) → (runB ops db).1.holdsB av = true := by
  have e : runB ops db = runFrom db ops [] := by
    unfold runB at he ⊢
    split
    · rename_i e; rw [if_pos e] at he; exact absurd he (by decide)
    · rfl
  rw [e] at he ⊢
  refine ⟨runFrom_keeps (p := O6) hdb (fun a b ha hb he => (ha.add hb he).1) (fun a n ha he => (ha.mul he).1) (fun a n ha he => (ha.div he).1) (fun a n ha he => (ha.weak he).1) ops [] (fun c hc => by cases hc) he, fun av hv hh => ?_⟩
  refine (runFrom_keeps (p := fun c => O6 c ∧ c.holdsB av = true) (fun c hc => ⟨hdb c hc, hh c hc⟩) (fun a b ha hb he => ⟨(ha.1.add hb.1 he).1, (ha.1.add hb.1 he).2 av hv ha.2 hb.2⟩) (fun a n ha he => ⟨(ha.1.mul he).1, by rw [(ha.1.mul he).2 av hv]; exact ha.2⟩)
    (fun a n ha he => ⟨(ha.1.div he).1, (ha.1.div he).2 av hv ha.2⟩) (fun a n ha he => ⟨(ha.1.weak he).1, (ha.1.weak he).2 av hv ha.2⟩) ops [] (fun c hc => by cases hc) he).2
theorem runFrom_err {db : List Pb} : ∀ (ops : List Cop) (s : List Pb), (runFrom db ops s).2 ≠ 0 → (runFrom db ops s).1 = Pb.nil := by
  intro ops
  induction ops with
  | nil =>
    intro s he
    unfold runFrom at he ⊢
    split
    · rename_i e; rw [if_pos e] at he; exact absurd rfl he
    · rfl
  | cons op ops ih =>
    intro s he
    unfold runFrom at he ⊢
    split
    · rename_i e
      rw [if_pos e] at he
      exact ih _ he
    · rfl
theorem run_err {ops : List Cop} {db : List Pb} (he : (runB ops db).2 ≠ 0) : (runB ops db).1 = Pb.nil := by
  unfold runB at he ⊢
  split
  · rfl
  · rename_i e
    rw [if_neg e] at he
    exact runFrom_err ops [] he
end Go.Proofs.YtooioikkgdgnnaaDoor
