/-
  Chapter 25: the walk of CutResolves (written by gen_res.py).
-/
import Derived.Test.YtooioikkgdgnnaaDoorLwRsH
import Derived.Test.YtooioikkgdgnnaaDoorLwDb
namespace Go.Proofs.YtooioikkgdgnnaaDoor
open Go.RowKit Go.Maps

/-- Three slices that grow side by side, and a list that none of them touches. -/
structure Tri (m0 : Nat) (W : World) (u v t : Value) (a b c : Nat) (xs ys zs : List Int) (e : Value) (n : Nat) (es : List Int) : Prop where
  x : Own W (fun g => m0 < g) 3 1 u a (ints xs)
  y : Own W (fun g => m0 < g) 3 1 v b (ints ys)
  z : Own W (fun g => m0 < g) 3 1 t c (ints zs)
  xy : ∀ g, row u g → ¬ row v g
  xz : ∀ g, row u g → ¬ row t g
  yz : ∀ g, row v g → ¬ row t g
  e : Rd W (fun g => m0 < g ∧ ¬ row u g ∧ ¬ row v g ∧ ¬ row t g) 1 e n (ints es)
section
variable {m0 : Nat} {W W' : World} {u v t : Value} {a b c : Nat} {xs ys zs : List Int} {e : Value} {n : Nat} {es : List Int}
theorem Tri.rot (h : Tri m0 W u v t a b c xs ys zs e n es) : Tri m0 W v t u b c a ys zs xs e n es :=
  ⟨h.y, h.z, h.x, h.yz, fun g h1 h2 => h.xy g h2 h1, fun g h1 h2 => h.xz g h2 h1, h.e.mono fun g _ h1 => ⟨h1.1, h1.2.2.1, h1.2.2.2, h1.2.1⟩⟩
theorem Tri.below (h : Tri m0 W u v t a b c xs ys zs e n es) (hb : Below W.heap.size W W') : Tri m0 W' u v t a b c xs ys zs e n es :=
  ⟨h.x.below hb, h.y.below hb, h.z.below hb, h.xy, h.xz, h.yz, h.e.below hb⟩
theorem Tri.map (h : Tri m0 W u v t a b c xs ys zs e n es) (hm : Mod (fun g => g = m0) W W') : Tri m0 W' u v t a b c xs ys zs e n es :=
  ⟨h.x.mod hm fun g _ _ (h1 : m0 < g) (h2 : g = m0) => by omega, h.y.mod hm fun g _ _ (h1 : m0 < g) (h2 : g = m0) => by omega, h.z.mod hm fun g _ _ (h1 : m0 < g) (h2 : g = m0) => by omega,
    h.xy, h.xz, h.yz, h.e.mod hm fun g _ h1 (h2 : g = m0) => by have := h1.1; omega⟩
theorem Tri.push (h : Tri m0 W u v t a b c xs ys zs e n es) (hw : m0 < W.heap.size) {u' : Value} {k : Int} (ho : Own W' (fun b => m0 < b ∨ W.heap.size ≤ b) 3 1 u' (a + 1) (ints xs ++ [.int .i64 k]))
    (hm : Mod (row u) W W') (hr : ∀ b, row u' b → row u b ∨ W.heap.size ≤ b) : Tri m0 W' u' v t (a + 1) b c (xs ++ [k]) ys zs e n es ∧ Below (m0 + 1) W W' := by
  have hv : ∀ g, row v g → g < W.heap.size := fun g hg => by obtain ⟨_, cur, h2⟩ := h.y.row hg; exact lt_of_block h2
  have ht : ∀ g, row t g → g < W.heap.size := fun g hg => by obtain ⟨_, cur, h2⟩ := h.z.row hg; exact lt_of_block h2
  refine ⟨⟨?_, h.y.mod hm fun g _ h1 _ h2 => h.xy g h2 h1, h.z.mod hm fun g _ h1 _ h2 => h.xz g h2 h1, fun g h1 h2 => ?_, fun g h1 h2 => ?_, h.yz, ?_⟩, below_mod (Below.refl _ _) (by omega) hm fun g hg => (h.x.row hg).1⟩
  · rw [ints_append]
    exact ho.mono fun g _ _ hg => hg.elim id fun e => by omega
  · exact (hr g h1).elim (fun e => h.xy g e h2) fun e => by have := hv g h2; omega
  · exact (hr g h1).elim (fun e => h.xz g e h2) fun e => by have := ht g h2; omega
  · exact ((h.e.mono (G := fun g => (m0 < g ∧ ¬ row u' g ∧ ¬ row v g ∧ ¬ row t g) ∧ ¬ row u g) fun g hg h1 => ⟨⟨h1.1, fun e => (hr g e).elim h1.2.1 fun e2 => by omega, h1.2.2.1, h1.2.2.2⟩, h1.2.1⟩).mod hm fun g _ h1 => h1.2).mono fun g _ h1 => h1.1
end
/-- The literal of a variable in a list. -/
def litAt (zs : List Int) (v : Int) : Int := if v ∈ zs then v else if -v ∈ zs then -v else 0
theorem litAt_snoc {zs : List Int} {x : Int} (hc : clash (zs ++ [x]) = false) {v : Int} (hv : 1 ≤ v) : (((x.natAbs : Nat) : Int) = v → litAt (zs ++ [x]) v = x) ∧ (((x.natAbs : Nat) : Int) ≠ v → litAt (zs ++ [x]) v = litAt zs v) := by
  constructor
  · intro e
    unfold litAt
    by_cases e1 : v ∈ zs ++ [x]
    · rw [if_pos e1]
      rcases (show x = v ∨ x = -v by omega) with e2 | e2
      · exact e2.symm
      · exact absurd (not_both hc e1 (List.mem_append.2 (.inr (by simp [e2])))) id
    · rw [if_neg e1]
      have e2 : x = -v := by
        rcases (show x = v ∨ x = -v by omega) with e2 | e2
        · exact absurd (List.mem_append.2 (.inr (by simp [e2]))) e1
        · exact e2
      rw [if_pos (List.mem_append.2 (.inr (by simp [e2]))), e2]
  · intro e
    unfold litAt
    have a1 : v ∈ zs ++ [x] ↔ v ∈ zs := by rw [List.mem_append, List.mem_singleton]; exact or_iff_left (by omega)
    have a2 : -v ∈ zs ++ [x] ↔ -v ∈ zs := by rw [List.mem_append, List.mem_singleton]; exact or_iff_left (by omega)
    simp only [a1, a2]
theorem clash_snoc {zs : List Int} {x v : Int} (hc : clash zs = false) (hx : x ≠ 0) (hv : v = ((x.natAbs : Nat) : Int)) (hl : litAt zs v = 0 ∨ litAt zs v = x) : clash (zs ++ [x]) = false := by
  have hn : -x ∉ zs := by
    intro e
    unfold litAt at hl
    rcases (show v = x ∨ v = -x by omega) with e1 | e1
    · rw [e1] at hl
      rw [if_pos e] at hl
      by_cases e2 : x ∈ zs
      · exact not_both hc e2 e
      · rw [if_neg e2] at hl; omega
    · rw [e1, if_pos e] at hl
      omega
  rw [← Bool.not_eq_true]
  intro e
  obtain ⟨y, h1, h2⟩ := clash_iff.1 e
  rw [List.mem_append, List.mem_singleton] at h1 h2
  rcases h1 with h1 | h1 <;> rcases h2 with h2 | h2
  · exact not_both hc h1 h2
  · exact hn (by rw [← h2, Int.neg_neg]; exact h1)
  · rw [h1] at h2; exact hn h2
  · omega
/-- What the loop keeps of the lists. -/
structure Resd (x1 j : Nat) (P Q : List Int) : Prop where
  cl : clash (P ++ Q) = false
  lit : ∀ l ∈ P ++ Q, l ≠ 0 ∧ l ≠ 1 ∧ l ≠ -1 ∧ -6 ≤ l ∧ l ≤ 6
  first : j ≤ x1 → Q = []
theorem Resd.start (x1 : Nat) : Resd x1 0 [] [] := ⟨rfl, fun l hl => by simp at hl, fun _ => rfl⟩
theorem Resd.skip {x1 j : Nat} {P Q : List Int} (h : Resd x1 j P Q) : Resd x1 (j + 1) P Q := ⟨h.cl, h.lit, fun e => h.first (by omega)⟩
theorem Resd.left {x1 j : Nat} {P Q : List Int} (h : Resd x1 j P Q) {x : Int} (hx : x ≠ 0 ∧ x ≠ 1 ∧ x ≠ -1 ∧ -6 ≤ x ∧ x ≤ 6) (hc : clash ((P ++ Q) ++ [x]) = false) (hj : j < x1) : (P ++ Q) ++ [x] = (P ++ [x]) ++ Q ∧ Resd x1 (j + 1) (P ++ [x]) Q := by
  have hQ := h.first (by omega)
  subst hQ
  have e : (P ++ []) ++ [x] = (P ++ [x]) ++ [] := by simp
  refine ⟨e, by rw [← e]; exact hc, fun l hl => ?_, fun _ => rfl⟩
  rw [← e, List.mem_append, List.mem_singleton] at hl
  rcases hl with hl | rfl
  · exact h.lit l hl
  · exact hx
theorem Resd.right {x1 j : Nat} {P Q : List Int} (h : Resd x1 j P Q) {x : Int} (hx : x ≠ 0 ∧ x ≠ 1 ∧ x ≠ -1 ∧ -6 ≤ x ∧ x ≤ 6) (hc : clash ((P ++ Q) ++ [x]) = false) (hj : ¬ j < x1) : (P ++ Q) ++ [x] = P ++ (Q ++ [x]) ∧ Resd x1 (j + 1) P (Q ++ [x]) := by
  have e : (P ++ Q) ++ [x] = P ++ (Q ++ [x]) := List.append_assoc _ _ _
  refine ⟨e, by rw [← e]; exact hc, fun l hl => ?_, fun e => absurd e (by omega)⟩
  rw [← e, List.mem_append, List.mem_singleton] at hl
  rcases hl with hl | rfl
  · exact h.lit l hl
  · exact hx

set_option maxRecDepth 100000 in
theorem CntIs.look {w : World} {b n : Nat} {f : Int → Int} (h : CntIs w b n f) {v c : Int} (h1 : 1 ≤ v) (h2 : v ≤ 65536) (hc : f v = c) : (Instr.lookup 55 (.map (some b)) (.int .i64 v) false).run Tryd.prog w = .ok (.int .i64 c) w := by
  obtain ⟨D, hown, hD⟩ := h
  obtain ⟨c', hrun, hat, _⟩ := hown.lookup_int keyed_int Tryd.underlying55 Tryd.underlying3 (zero_num _) (key_num (show I64 v by unfold I64; omega))
  have h9 := hD.val v h1 h2
  rw [hat, hc] at h9
  injection h9 with h9
  injection h9 with _ h9
  subst h9
  exact hrun
theorem m0_lt_alloc {W : World} {m0 : Nat} {o : Obj} (h : m0 < W.heap.size) : m0 < (W.alloc o).heap.size := by rw [World.size_alloc]; omega
theorem tri_start {W : World} {m0 : Nat} (hm : W.heap.size = m0 + 1) {W1 W2 W3 : World} (h1 : W.alloc (.cells #[.int .i64 1] 3) = W1) (h2 : W1.alloc (.cells #[.int .i64 (-1)] 3) = W2) (h3 : W2.alloc (.cells #[] 3) = W3) :
    W3.heap.size = m0 + 4 ∧ Below (m0 + 1) W W3 ∧ ∀ (W4 : World) (e : Value) (n : Nat) (es : List Int), Below (m0 + 4) W3 W4 → Rd W4 (fun g => m0 + 4 ≤ g) 1 e n (ints es) →
      Tri m0 W4 (.slice (some ⟨m0 + 1, 0, none⟩) 1 1) (.slice (some ⟨m0 + 1 + 1, 0, none⟩) 1 1) (.slice (some ⟨m0 + 1 + 1 + 1, 0, none⟩) 0 0) 1 1 0 [1] [-1] [] e n es := by
  have s1 : W1.heap.size = m0 + 2 := by rw [← h1]; exact (World.size_alloc _ _).trans (by omega)
  have s2 : W2.heap.size = m0 + 3 := by rw [← h2]; exact (World.size_alloc _ _).trans (by omega)
  have s3 : W3.heap.size = m0 + 4 := by rw [← h3]; exact (World.size_alloc _ _).trans (by omega)
  have b1 : Below W.heap.size W W1 := by rw [← h1]; exact (Below.refl _ _).alloc (Nat.le_refl _) _
  have b2 : Below W1.heap.size W1 W2 := by rw [← h2]; exact (Below.refl _ _).alloc (Nat.le_refl _) _
  have b3 : Below W2.heap.size W2 W3 := by rw [← h3]; exact (Below.refl _ _).alloc (Nat.le_refl _) _
  have o1 : Own W1 (fun g => g = W.heap.size) 3 1 (.slice (some ⟨W.heap.size, 0, none⟩) 1 1) 1 (ints [1]) := by rw [← h1]; exact own_lit W [1] (by decide) (by decide)
  have o2 : Own W2 (fun g => g = W1.heap.size) 3 1 (.slice (some ⟨W1.heap.size, 0, none⟩) 1 1) 1 (ints [-1]) := by rw [← h2]; exact own_lit W1 [-1] (by decide) (by decide)
  rw [hm] at o1
  rw [s1] at o2
  refine ⟨s3, (hm ▸ b1 : Below (m0 + 1) W W1).trans ((b2.mono (by omega)).trans (b3.mono (by omega))), fun W4 e n es b4 hr => ?_⟩
  refine ⟨?_, ?_, Own.none_ _ _ _ _ _, ?_, ?_, ?_, ?_⟩
  · refine (((o1.below b2).below b3).below (b4.mono (by omega))).mono fun g _ _ (e : g = m0 + 1) => by omega
  · refine ((o2.below b3).below (b4.mono (by omega))).mono fun g _ _ (e : g = m0 + 2) => by omega
  · rintro g ⟨_, h5⟩ ⟨_, h6⟩
    simp only at h5 h6
    omega
  · rintro g ⟨_, h5⟩ ⟨h6, _⟩
    omega
  · rintro g ⟨_, h5⟩ ⟨h6, _⟩
    omega
  · refine hr.mono fun g _ h5 => ⟨by omega, ?_, ?_, ?_⟩
    · rintro ⟨_, h6⟩; simp only at h6; omega
    · rintro ⟨_, h6⟩; simp only at h6; omega
    · rintro ⟨h6, _⟩; omega
set_option maxRecDepth 100000 in
set_option maxHeartbeats 8000000 in
theorem resolves_walk {w : World} {F G : Nat → Prop} {u v : Value} {n1 n2 : Nat} {ls ms : List Int} (hu : Rd w F 1 u n1 (ints ls)) (hv : Rd w G 1 v n2 (ints ms)) :
    Calls Tryd.prog 8 #[u, v] w fun r w' => r = .returned (.bool true) ∧ Below w.heap.size w w' := by
  obtain ⟨p, hp⟩ : ∃ c, smL ls [] = c := ⟨_, rfl⟩
  obtain ⟨q, hq⟩ : ∃ c, smL ms [] = c := ⟨_, rfl⟩
  have sp := sm_is ls []
  have sq := sm_is ms []
  rw [hp] at sp
  rw [hq] at sq
  have hpl := sp.few
  have hql := sq.few
  have Hes := hid (fun x (hx : x ∈ p ++ q) => (List.mem_append.1 hx).elim (sp.lit x) (sq.lit x))
  have Hp := hid hp
  have Hq := hid hq
  have Hu := hid hu
  have Hv := hid hv
  obtain ⟨w0, hw0⟩ : ∃ z, w.heap.size = z := ⟨_, rfl⟩
  clear hp hq hu hv sp sq
  go_enter Tryd.func8, Tryd.ntmps8
  go_wp2_with fail
  refine (small_any Hu.out (Rd.empty w (fun _ => True) none)).mono ?_
  rintro r W1 ⟨⟨A1, x1, c1, B1, y1, d1, rfl, ho1, _⟩, b1⟩
  rw [Hp.out] at ho1
  have P1 := hid ho1.rd
  have Hv1 := hid (Hv.out.below b1)
  have hw1 : w0 ≤ W1.heap.size := by have := b1.size; omega
  have B0 := hid (hw0 ▸ b1 : Below w0 w W1)
  clear ho1 b1
  go_wp2_with fail
  refine (small_any Hv1.out (Rd.empty W1 (fun _ => True) none)).mono ?_
  rintro r W2 ⟨⟨A2, x2, c2, B2, y2, d2, rfl, ho2, _⟩, b2⟩
  rw [Hq.out] at ho2
  have P2 := hid (P1.out.below b2)
  have Q2 := hid ho2.rd
  have B0 := hid (B0.out.trans (b2.mono hw1))
  clear ho2 b2 Hv1 P1 Hu Hv Hp Hq
  have hx1 : x1 = p.length := P2.out.cell.1.symm
  have hx2 : x2 = q.length := Q2.out.cell.1.symm
  have hx1' : x1 ≤ 8 := by omega
  have hx2' : x2 ≤ 8 := by omega
  have Hx1 := hid hx1
  have Hx2 := hid hx2
  clear hx1 hx2 hpl hql
  have hmm := @run_makeMap Tryd.prog
  go_upto_region 5 with fail
  obtain ⟨M, hM, bM, kM, sM⟩ := alloc_step W2 (.map #[] 0)
  rw [hM]
  have hcnt : CntIs M W2.heap.size 0 (litAt []) := by rw [← hM]; exact CntIs.made W2 _ fun v _ => rfl
  obtain ⟨m0, hm0⟩ : ∃ z, W2.heap.size = z := ⟨_, rfl⟩
  rw [hm0] at hcnt sM
  have hww : w0 ≤ m0 := by have := B0.out.size; omega
  have B1 := hid (B0.out.trans (bM.mono (by omega)))
  have P3 := hid (P2.out.below bM)
  have Q3 := hid (Q2.out.below bM)
  have C3 := hid hcnt
  obtain ⟨M1, hM1⟩ : ∃ z, M.alloc (.cells #[.int .i64 1] 3) = z := ⟨_, rfl⟩
  obtain ⟨M2, hM2⟩ : ∃ z, M1.alloc (.cells #[.int .i64 (-1)] 3) = z := ⟨_, rfl⟩
  obtain ⟨M3, hM3⟩ : ∃ z, M2.alloc (.cells #[] 3) = z := ⟨_, rfl⟩
  obtain ⟨sM3, bM3, hT⟩ := tri_start sM hM1 hM2 hM3
  have HT := hid hT
  rw [hM1, hM2, hM3]
  rw [hm0]
  have SM3 := hid sM3
  have P4 := hid (P3.out.below (sM ▸ bM3))
  have Q4 := hid (Q3.out.below (sM ▸ bM3))
  clear sM3 sM hm0 hM1 hM2 hM3 hT kM bM hM hmm hcnt P2 Q2 P3 Q3
  go_wp2_with (first
    | (at_builtin; refine wpList_append_ints rfl _ _ rfl (Own.none_ (M3.alloc (.cells #[] 3)) (fun g => M3.heap.size ≤ g) 3 1 (some ⟨M3.heap.size, 0, none⟩)) (P4.out.below ((Below.refl _ _).alloc (Nat.le_refl _) _)) rfl rfl (ints_one _) (by omega) fun E1 k1 w3 ho3 m3 hr3 => ?_; simp only [Nat.zero_add, List.nil_append] at ho3 hr3; have O3 := hid (ho3.mono (G := fun b => M3.heap.size ≤ b) fun g _ _ hg => hg.elim id fun h6 => by rw [World.size_alloc] at h6; omega); have D3 := hid (below_mod ((Below.refl M3.heap.size M3).alloc (Nat.le_refl _) _) (Nat.le_of_lt (by rw [World.size_alloc]; omega)) m3 (fun g hg => absurd hg (by rintro ⟨h6, _⟩; omega)) : Below M3.heap.size M3 w3); clear ho3 m3 hr3)
    | (at_builtin; refine wpList_append_ints rfl _ _ rfl O3.out (Q4.out.below D3.out) rfl rfl (ints_one _) (by omega) fun E2 k2 w4 ho4 m4 hr4 => ?_; have O4 := hid ho4; have D4 := hid (below_mod D3.out D3.out.size m4 (fun g hg => by have := (O3.out.row hg).1; exact this) : Below M3.heap.size M3 w4); clear ho4 m4 hr4))
  obtain ⟨n, hn⟩ : ∃ n, x1 + x2 = n := ⟨_, rfl⟩
  rw [show ((x1 : Int) + (x2 : Int)) = (n : Int) by omega, hn]
  rw [hn] at O4
  have hn16 : n ≤ 16 := by omega
  obtain ⟨es, hes⟩ : ∃ es, p ++ q = es := ⟨_, rfl⟩
  have hes2 : ints p ++ ints q = ints es := by rw [← ints_append, hes]
  rw [hes2] at O4
  rw [hes] at Hes
  have T0 := hid (HT.out w4 _ _ es (SM3.out ▸ D4.out) (O4.out.rd.mono fun g _ hg => SM3.out ▸ hg.elim id fun h6 => Nat.le_trans D3.out.size h6))
  have B2 := hid (B1.out.trans (bM3.mono (by omega)))
  have hsM3 : w0 ≤ M3.heap.size := by have := B2.out.size; omega
  have HB0 := hid (B2.out.trans (D4.out.mono hsM3))
  have C0 := hid (C3.out.of_block ((D4.out.block m0 (by have := SM3.out; omega)).trans (bM3.block m0 (by omega))))
  clear hes2 hes O4 D4 D3 O3 SM3 HT C3 B1 B2 hn bM3 hsM3 P4 Q4
  go_loopw [43, 10, 11, 12] (fun iv lv rv bv W => ∃ (j : Nat) (AL : Option Addr) (a cl : Nat) (AR : Option Addr) (b cr : Nat) (AB : Option Addr) (c cb : Nat) (P Q : List Int) (k : Nat), j ≤ n ∧ iv = .int .i64 j ∧ lv = .slice AL a cl ∧ rv = .slice AR b cr ∧ bv = .slice AB c cb ∧ a ≤ j + 1 ∧ b ≤ j + 1 ∧ c ≤ j ∧ k ≤ j ∧
      Hid (Tri m0 W (.slice AL a cl) (.slice AR b cr) (.slice AB c cb) a b c (1 :: P) (-1 :: Q) (P ++ Q) (.slice E2 n k2) n es) ∧ Hid (CntIs W m0 k (litAt (P ++ Q))) ∧ Hid (Resd x1 j P Q) ∧ Hid (Below w0 w W)) (fun iv _ _ _ _ => n - (intOf iv).toNat)
  case atStart => exact ⟨0, _, 1, 1, _, 1, 1, _, 0, 0, [], [], 0, by omega, rfl, rfl, rfl, rfl, by omega, by omega, by omega, by omega, T0, C0, hid (Resd.start x1), HB0⟩
  case round =>
    obtain ⟨j, AL, a, cl, AR, b, cr, AB, c, cb, P, Q, k, hj, rfl, rfl, rfl, rfl, ha, hb, hc, hk, T, C, R, HB⟩ := hrel
    clear T0 C0 HB0
    by_cases hlt : j < n
    · obtain ⟨g, o, rfl, _, hg, hcl⟩ := T.out.e.cell.2 j hlt
      have hxf := Hes.out _ (nth_mem (show j < es.length by rw [T.out.e.cell.1]; exact hlt))
      obtain ⟨x, hx⟩ : ∃ x, nth es j = x := ⟨_, rfl⟩
      rw [hx] at hcl hxf
      obtain ⟨v, hv⟩ : ∃ v, max x (-x) = v := ⟨_, rfl⟩
      have hvx : v = ((x.natAbs : Nat) : Int) := by omega
      have hwn : IntKind.i64.wrap (-x) = -x := iw' (by omega) (by omega)
      have hmx : ∀ w, (Builtin.max_ #[3, 3] 3 #[.int .i64 x, .int .i64 (-x)]).run Tryd.prog w = .ok (.int .i64 v) w := fun w => by rw [← hv]; exact run_max _ _ w
      have x1' : (j : Int) < (n : Int) := by omega
      have hvr : 1 ≤ v ∧ v ≤ 6 := by omega
      have Hvx := hid hvx
      have Hxf := hid hxf
      have hx0 : x ≠ 0 := hxf.1
      clear hx hv hg hvx hxf
      by_cases h1 : v = 1
      · subst h1
        go_wp2_with fail
        go_roundw
        case rel => exact ⟨j + 1, _, a, cl, _, b, cr, _, c, cb, P, Q, k, by omega, by go_num, rfl, rfl, rfl, by omega, by omega, by omega, by omega, T, C, hid R.out.skip, HB⟩
        case measure => simp [intOf]; omega
      · obtain ⟨y, hy⟩ : ∃ y, litAt (P ++ Q) v = y := ⟨_, rfl⟩
        have hlook := C.out.look (v := v) (c := y) (by omega) (by omega) hy
        by_cases h2 : y = 0
        · subst h2
          have hcs : Hid (clash ((P ++ Q) ++ [x]) = false) := hid (clash_snoc R.out.cl hx0 Hvx.out (.inl hy))
          obtain ⟨D, hown, hD⟩ := C.out
          have Hown := hid hown
          have HD := hid hD
          have hxl : x ≠ 0 ∧ x ≠ 1 ∧ x ≠ -1 ∧ -6 ≤ x ∧ x ≤ 6 := by have := Hxf.out; have := Hvx.out; omega
          have Hxl := hid hxl
          have hkey : keyOf Tryd.prog 3 (.int .i64 v) = some (.int .i64 v) := key_num (by unfold I64; omega)
          have hpe : plainElem (H := Unit) Tryd.prog 3 (.int .i64 x) = some (.lit (.int .i64 x), []) := plainElem_int Tryd.underlying3 (i64_wf (by unfold I64; omega))
          have hm0w : m0 < wr.heap.size := by obtain ⟨es, clock, hm, _⟩ := Hown.out; exact lt_of_block hm
          clear hown hD hy hxl
          by_cases hjx : j < x1
          · have y1 : (j : Int) < (x1 : Int) := by omega
            go_wp2_with (first
              | (at_mapUpdate; refine wpList_mapUpdate_own _ rfl _ _ _ 55 rfl 3 3 keyed_int Tryd.underlying55 (plainElem (H := Unit) Tryd.prog 3) m0 _ D rfl Hown.out (by unfold maxLen; omega) _ _ _ rfl rfl hkey _ [] hpe ?_; intro w5 hown5 hgrow5;
                  have m5 : Mod (fun g => g = m0) wr w5 := (Mod.of_grown hgrow5).mono fun k _ hk => by { injection hk with hk; exact hk.symm };
                  have hs5 : m0 < w5.heap.size := Nat.lt_of_lt_of_le hm0w m5.size;
                  have T5 := hid ((T.out.map m5).below ((Below.refl _ _).alloc (Nat.le_refl _) (.cells #[.int .i64 x] 3)));
                  have HB5 := hid (below_mod HB.out (by omega) m5 fun g (hg : g = m0) => by omega);
                  have Hown5 := hid hown5;
                  clear hown5 hgrow5 m5 hlook)
              | (at_builtin; refine wpList_append_ints rfl _ _ rfl T5.out.z (own_one w5 (.int .i64 x)).rd rfl rfl (by simp [Value.oneCell']) (by omega) fun AB' cb' w6 ho6 hm6 hr6 => ?_;
                  have P6 := hid (T5.out.rot.rot.push (by rw [World.size_alloc]; omega) ho6 hm6 hr6);
                  have T6 := hid (P6.out.1.rot.below ((Below.refl _ _).alloc (Nat.le_refl _) (.cells #[.int .i64 x] 3)));
                  have hs6 : m0 < w6.heap.size := by { have := P6.out.2.size; have := m0_lt_alloc (o := .cells #[.int .i64 x] 3) hs5; omega };
                  have B6 := hid ((show Below (m0 + 1) w5 (w5.alloc (.cells #[.int .i64 x] 3)) from (Below.refl _ _).alloc (by omega) _).trans P6.out.2);
                  clear ho6 hm6 hr6)
              | (at_builtin; refine wpList_append_ints rfl _ _ rfl T6.out.x (own_one w6 (.int .i64 x)).rd rfl rfl (by simp [Value.oneCell']) (by omega) fun A8 c8 w8 ho8 hm8 hr8 => ?_;
                  have P8 := hid (T6.out.push (by rw [World.size_alloc]; omega) ho8 hm8 hr8);
                  have B8 := hid ((B6.out.trans ((Below.refl _ _).alloc (by omega) (.cells #[.int .i64 x] 3))).trans P8.out.2);
                  clear ho8 hm8 hr8))
            obtain ⟨heq, hR⟩ := R.out.left Hxl.out hcs.out hjx
            have T8 := hid P8.out.1
            rw [heq] at T8
            have C8 := hid ((CntIs.put (g := litAt ((P ++ Q) ++ [x])) Hown.out HD.out (v := v) (by omega) (by omega) Hown5.out ((litAt_snoc hcs.out (by omega)).1 Hvx.out.symm) fun u hu hne => (litAt_snoc hcs.out hu).2 (by have := Hvx.out; omega)).of_block (B8.out.block m0 (by omega)))
            rw [heq] at C8
            have HB8 := hid (HB5.out.trans (B8.out.mono (by omega)))
            have R8 := hid hR
            clear heq hR P8 P6 T6 T5 B6 B8 HB5 Hown5 Hown HD hkey hpe
            go_roundw
            case rel => exact ⟨j + 1, _, _, _, _, _, _, _, _, _, _, _, k + 1, by omega, by go_num, rfl, rfl, rfl, by omega, by omega, by omega, by omega, T8, C8, R8, HB8⟩
            case measure => simp [intOf]; omega
          · have y1 : ¬ ((j : Int) < (x1 : Int)) := by omega
            go_wp2_with (first
              | (at_mapUpdate; refine wpList_mapUpdate_own _ rfl _ _ _ 55 rfl 3 3 keyed_int Tryd.underlying55 (plainElem (H := Unit) Tryd.prog 3) m0 _ D rfl Hown.out (by unfold maxLen; omega) _ _ _ rfl rfl hkey _ [] hpe ?_; intro w5 hown5 hgrow5;
                  have m5 : Mod (fun g => g = m0) wr w5 := (Mod.of_grown hgrow5).mono fun k _ hk => by { injection hk with hk; exact hk.symm };
                  have hs5 : m0 < w5.heap.size := Nat.lt_of_lt_of_le hm0w m5.size;
                  have T5 := hid ((T.out.map m5).below ((Below.refl _ _).alloc (Nat.le_refl _) (.cells #[.int .i64 x] 3)));
                  have HB5 := hid (below_mod HB.out (by omega) m5 fun g (hg : g = m0) => by omega);
                  have Hown5 := hid hown5;
                  clear hown5 hgrow5 m5 hlook)
              | (at_builtin; refine wpList_append_ints rfl _ _ rfl T5.out.z (own_one w5 (.int .i64 x)).rd rfl rfl (by simp [Value.oneCell']) (by omega) fun AB' cb' w6 ho6 hm6 hr6 => ?_;
                  have P6 := hid (T5.out.rot.rot.push (by rw [World.size_alloc]; omega) ho6 hm6 hr6);
                  have T6 := hid (P6.out.1.rot.below ((Below.refl _ _).alloc (Nat.le_refl _) (.cells #[.int .i64 x] 3)));
                  have hs6 : m0 < w6.heap.size := by { have := P6.out.2.size; have := m0_lt_alloc (o := .cells #[.int .i64 x] 3) hs5; omega };
                  have B6 := hid ((show Below (m0 + 1) w5 (w5.alloc (.cells #[.int .i64 x] 3)) from (Below.refl _ _).alloc (by omega) _).trans P6.out.2);
                  clear ho6 hm6 hr6)
              | (at_builtin; refine wpList_append_ints rfl _ _ rfl T6.out.y (own_one w6 (.int .i64 x)).rd rfl rfl (by simp [Value.oneCell']) (by omega) fun A8 c8 w8 ho8 hm8 hr8 => ?_;
                  have P8 := hid (T6.out.rot.push (by rw [World.size_alloc]; omega) ho8 hm8 hr8);
                  have B8 := hid ((B6.out.trans ((Below.refl _ _).alloc (by omega) (.cells #[.int .i64 x] 3))).trans P8.out.2);
                  clear ho8 hm8 hr8))
            obtain ⟨heq, hR⟩ := R.out.right Hxl.out hcs.out hjx
            have T8 := hid P8.out.1.rot.rot
            rw [heq] at T8
            have C8 := hid ((CntIs.put (g := litAt ((P ++ Q) ++ [x])) Hown.out HD.out (v := v) (by omega) (by omega) Hown5.out ((litAt_snoc hcs.out (by omega)).1 Hvx.out.symm) fun u hu hne => (litAt_snoc hcs.out hu).2 (by have := Hvx.out; omega)).of_block (B8.out.block m0 (by omega)))
            rw [heq] at C8
            have HB8 := hid (HB5.out.trans (B8.out.mono (by omega)))
            have R8 := hid hR
            clear heq hR P8 P6 T6 T5 B6 B8 HB5 Hown5 Hown HD hkey hpe
            go_roundw
            case rel => exact ⟨j + 1, _, _, _, _, _, _, _, _, _, _, _, k + 1, by omega, by go_num, rfl, rfl, rfl, by omega, by omega, by omega, by omega, T8, C8, R8, HB8⟩
            case measure => simp [intOf]; omega
        · by_cases h3 : y = x
          · subst h3
            have hcs : Hid (clash ((P ++ Q) ++ [y]) = false) := hid (clash_snoc R.out.cl hx0 Hvx.out (.inr hy))
            obtain ⟨D, hown, hD⟩ := C.out
            have Hown := hid hown
            have HD := hid hD
            have hxl : y ≠ 0 ∧ y ≠ 1 ∧ y ≠ -1 ∧ -6 ≤ y ∧ y ≤ 6 := by have := Hxf.out; have := Hvx.out; omega
            have Hxl := hid hxl
            have hkey : keyOf Tryd.prog 3 (.int .i64 v) = some (.int .i64 v) := key_num (by unfold I64; omega)
            have hpe : plainElem (H := Unit) Tryd.prog 3 (.int .i64 y) = some (.lit (.int .i64 y), []) := plainElem_int Tryd.underlying3 (i64_wf (by unfold I64; omega))
            have hm0w : m0 < wr.heap.size := by obtain ⟨es, clock, hm, _⟩ := Hown.out; exact lt_of_block hm
            clear hown hD hy hxl
            by_cases hjx : j < x1
            · have y1 : (j : Int) < (x1 : Int) := by omega
              go_wp2_with (first
                | (at_mapUpdate; refine wpList_mapUpdate_own _ rfl _ _ _ 55 rfl 3 3 keyed_int Tryd.underlying55 (plainElem (H := Unit) Tryd.prog 3) m0 _ D rfl Hown.out (by unfold maxLen; omega) _ _ _ rfl rfl hkey _ [] hpe ?_; intro w5 hown5 hgrow5;
                    have m5 : Mod (fun g => g = m0) wr w5 := (Mod.of_grown hgrow5).mono fun k _ hk => by { injection hk with hk; exact hk.symm };
                    have hs5 : m0 < w5.heap.size := Nat.lt_of_lt_of_le hm0w m5.size;
                    have T5 := hid ((T.out.map m5).below ((Below.refl _ _).alloc (Nat.le_refl _) (.cells #[.int .i64 y] 3)));
                    have HB5 := hid (below_mod HB.out (by omega) m5 fun g (hg : g = m0) => by omega);
                    have Hown5 := hid hown5;
                    clear hown5 hgrow5 m5 hlook)
                | (at_builtin; refine wpList_append_ints rfl _ _ rfl T5.out.z (own_one w5 (.int .i64 y)).rd rfl rfl (by simp [Value.oneCell']) (by omega) fun AB' cb' w6 ho6 hm6 hr6 => ?_;
                    have P6 := hid (T5.out.rot.rot.push (by rw [World.size_alloc]; omega) ho6 hm6 hr6);
                    have T6 := hid (P6.out.1.rot.below ((Below.refl _ _).alloc (Nat.le_refl _) (.cells #[.int .i64 y] 3)));
                    have hs6 : m0 < w6.heap.size := by { have := P6.out.2.size; have := m0_lt_alloc (o := .cells #[.int .i64 y] 3) hs5; omega };
                    have B6 := hid ((show Below (m0 + 1) w5 (w5.alloc (.cells #[.int .i64 y] 3)) from (Below.refl _ _).alloc (by omega) _).trans P6.out.2);
                    clear ho6 hm6 hr6)
                | (at_builtin; refine wpList_append_ints rfl _ _ rfl T6.out.x (own_one w6 (.int .i64 y)).rd rfl rfl (by simp [Value.oneCell']) (by omega) fun A8 c8 w8 ho8 hm8 hr8 => ?_;
                    have P8 := hid (T6.out.push (by rw [World.size_alloc]; omega) ho8 hm8 hr8);
                    have B8 := hid ((B6.out.trans ((Below.refl _ _).alloc (by omega) (.cells #[.int .i64 y] 3))).trans P8.out.2);
                    clear ho8 hm8 hr8))
              obtain ⟨heq, hR⟩ := R.out.left Hxl.out hcs.out hjx
              have T8 := hid P8.out.1
              rw [heq] at T8
              have C8 := hid ((CntIs.put (g := litAt ((P ++ Q) ++ [y])) Hown.out HD.out (v := v) (by omega) (by omega) Hown5.out ((litAt_snoc hcs.out (by omega)).1 Hvx.out.symm) fun u hu hne => (litAt_snoc hcs.out hu).2 (by have := Hvx.out; omega)).of_block (B8.out.block m0 (by omega)))
              rw [heq] at C8
              have HB8 := hid (HB5.out.trans (B8.out.mono (by omega)))
              have R8 := hid hR
              clear heq hR P8 P6 T6 T5 B6 B8 HB5 Hown5 Hown HD hkey hpe
              go_roundw
              case rel => exact ⟨j + 1, _, _, _, _, _, _, _, _, _, _, _, k + 1, by omega, by go_num, rfl, rfl, rfl, by omega, by omega, by omega, by omega, T8, C8, R8, HB8⟩
              case measure => simp [intOf]; omega
            · have y1 : ¬ ((j : Int) < (x1 : Int)) := by omega
              go_wp2_with (first
                | (at_mapUpdate; refine wpList_mapUpdate_own _ rfl _ _ _ 55 rfl 3 3 keyed_int Tryd.underlying55 (plainElem (H := Unit) Tryd.prog 3) m0 _ D rfl Hown.out (by unfold maxLen; omega) _ _ _ rfl rfl hkey _ [] hpe ?_; intro w5 hown5 hgrow5;
                    have m5 : Mod (fun g => g = m0) wr w5 := (Mod.of_grown hgrow5).mono fun k _ hk => by { injection hk with hk; exact hk.symm };
                    have hs5 : m0 < w5.heap.size := Nat.lt_of_lt_of_le hm0w m5.size;
                    have T5 := hid ((T.out.map m5).below ((Below.refl _ _).alloc (Nat.le_refl _) (.cells #[.int .i64 y] 3)));
                    have HB5 := hid (below_mod HB.out (by omega) m5 fun g (hg : g = m0) => by omega);
                    have Hown5 := hid hown5;
                    clear hown5 hgrow5 m5 hlook)
                | (at_builtin; refine wpList_append_ints rfl _ _ rfl T5.out.z (own_one w5 (.int .i64 y)).rd rfl rfl (by simp [Value.oneCell']) (by omega) fun AB' cb' w6 ho6 hm6 hr6 => ?_;
                    have P6 := hid (T5.out.rot.rot.push (by rw [World.size_alloc]; omega) ho6 hm6 hr6);
                    have T6 := hid (P6.out.1.rot.below ((Below.refl _ _).alloc (Nat.le_refl _) (.cells #[.int .i64 y] 3)));
                    have hs6 : m0 < w6.heap.size := by { have := P6.out.2.size; have := m0_lt_alloc (o := .cells #[.int .i64 y] 3) hs5; omega };
                    have B6 := hid ((show Below (m0 + 1) w5 (w5.alloc (.cells #[.int .i64 y] 3)) from (Below.refl _ _).alloc (by omega) _).trans P6.out.2);
                    clear ho6 hm6 hr6)
                | (at_builtin; refine wpList_append_ints rfl _ _ rfl T6.out.y (own_one w6 (.int .i64 y)).rd rfl rfl (by simp [Value.oneCell']) (by omega) fun A8 c8 w8 ho8 hm8 hr8 => ?_;
                    have P8 := hid (T6.out.rot.push (by rw [World.size_alloc]; omega) ho8 hm8 hr8);
                    have B8 := hid ((B6.out.trans ((Below.refl _ _).alloc (by omega) (.cells #[.int .i64 y] 3))).trans P8.out.2);
                    clear ho8 hm8 hr8))
              obtain ⟨heq, hR⟩ := R.out.right Hxl.out hcs.out hjx
              have T8 := hid P8.out.1.rot.rot
              rw [heq] at T8
              have C8 := hid ((CntIs.put (g := litAt ((P ++ Q) ++ [y])) Hown.out HD.out (v := v) (by omega) (by omega) Hown5.out ((litAt_snoc hcs.out (by omega)).1 Hvx.out.symm) fun u hu hne => (litAt_snoc hcs.out hu).2 (by have := Hvx.out; omega)).of_block (B8.out.block m0 (by omega)))
              rw [heq] at C8
              have HB8 := hid (HB5.out.trans (B8.out.mono (by omega)))
              have R8 := hid hR
              clear heq hR P8 P6 T6 T5 B6 B8 HB5 Hown5 Hown HD hkey hpe
              go_roundw
              case rel => exact ⟨j + 1, _, _, _, _, _, _, _, _, _, _, _, k + 1, by omega, by go_num, rfl, rfl, rfl, by omega, by omega, by omega, by omega, T8, C8, R8, HB8⟩
              case measure => simp [intOf]; omega
          · have h2b : (y != 0) = true := by simp [h2]
            have h3b : (y != x) = true := by simp [h3]
            clear hy h2 h3
            go_wp2_with fail
            go_roundw
            case rel => exact ⟨j + 1, _, a, cl, _, b, cr, _, c, cb, P, Q, k, by omega, by go_num, rfl, rfl, rfl, by omega, by omega, by omega, by omega, T, C, hid R.out.skip, HB⟩
            case measure => simp [intOf]; omega
    · have x1' : ¬ ((j : Int) < (n : Int)) := by omega
      have hlen : (P ++ Q).length = c := T.out.z.rd.cell.1
      obtain ⟨_, _, _, oka, okb, okc, hadd, hdiv, himp⟩ := resolves R.out.lit R.out.cl (by rw [← List.length_append]; omega)
      have I1 := hid (fun x (hx : x ∈ 1 :: P) => (show I64 x by
        rcases List.mem_cons.1 hx with e | e
        · unfold I64; omega
        · have := R.out.lit x (List.mem_append.2 (.inl e)); unfold I64; omega))
      have I2 := hid (fun x (hx : x ∈ -1 :: Q) => (show I64 x by
        rcases List.mem_cons.1 hx with e | e
        · unfold I64; omega
        · have := R.out.lit x (List.mem_append.2 (.inr e)); unfold I64; omega))
      have I3 := hid (fun x (hx : x ∈ P ++ Q) => (show I64 x by have := R.out.lit x hx; unfold I64; omega))
      obtain ⟨qa, hqa⟩ : ∃ z, (clauseB (1 :: P)).1 = z := ⟨_, rfl⟩
      obtain ⟨qd, hqd⟩ : ∃ z, (clauseB (-1 :: Q)).1 = z := ⟨_, rfl⟩
      obtain ⟨qc, hqc⟩ : ∃ z, (clauseB (P ++ Q)).1 = z := ⟨_, rfl⟩
      rw [hqa] at oka hadd himp
      rw [hqd] at okb hadd himp
      rw [hqc] at okc hadd hdiv himp
      have Ha := hid hqa
      have Hd := hid hqd
      have Hc := hid hqc
      have oka := hid oka
      have okb := hid okb
      have okc := hid okc
      have hadd := hid hadd
      have hdiv := hid hdiv
      have himp := hid himp
      have Hs := hid (fun c : Pb => (show c.same c = true by simp [Pb.same]))
      have Lx := hid T.out.x.rd
      have Ly := hid T.out.y.rd
      have Lz := hid T.out.z.rd
      have B := hid (hw0.symm ▸ HB.out : Below w.heap.size w wr)
      have ha' : a ≤ 1000000 := by omega
      have hb' : b ≤ 1000000 := by omega
      have hc' : c ≤ 1000000 := by omega
      clear hlt hj hlen hqa hqd hqc T C R HB Hes ha hb hc hk hn16 hx1' hx2' hww hw1
      go_wp2_with fail
      refine (clause25_any Lx.out I1.out ha').mono ?_
      rintro r W21 ⟨⟨Apa, xpa, ypa, Dpa, zpa, tpa, rfl, hp⟩, b⟩
      rw [Ha.out] at hp ⊢
      have Lx := hid (Lx.out.below b)
      have Ly := hid (Ly.out.below b)
      have Lz := hid (Lz.out.below b)
      have B := hid (B.out.trans (b.mono B.out.size))
      have pa := hid hp
      clear b hp
      go_wp2_with fail
      refine (clause25_any Ly.out I2.out hb').mono ?_
      rintro r W22 ⟨⟨Apd, xpd, ypd, Dpd, zpd, tpd, rfl, hp⟩, b⟩
      rw [Hd.out] at hp ⊢
      have Lx := hid (Lx.out.below b)
      have Ly := hid (Ly.out.below b)
      have Lz := hid (Lz.out.below b)
      have pa := hid (pa.out.below b)
      have B := hid (B.out.trans (b.mono B.out.size))
      have pd := hid hp
      clear b hp
      go_wp2_with fail
      refine (clause25_any Lz.out I3.out hc').mono ?_
      rintro r W23 ⟨⟨Apc, xpc, ypc, Dpc, zpc, tpc, rfl, hp⟩, b⟩
      rw [Hc.out] at hp ⊢
      have Lx := hid (Lx.out.below b)
      have Ly := hid (Ly.out.below b)
      have Lz := hid (Lz.out.below b)
      have pa := hid (pa.out.below b)
      have pd := hid (pd.out.below b)
      have B := hid (B.out.trans (b.mono B.out.size))
      have pc := hid hp
      clear b hp
      clear Lx Ly Lz
      go_upto_region 17 with fail
      obtain ⟨W24, hW, b, k, sx⟩ := alloc_step W23 (.cells #[.slice Apa xpa ypa, .slice Dpa zpa tpa, .int .i64 qa.bound] 24)
      rw [hW]
      clear sx
      obtain ⟨Zka, hZ⟩ : ∃ z, W23.heap.size = z := ⟨_, rfl⟩
      have sW24 : W24.heap.size = W23.heap.size + 1 := by rw [← hW]; exact World.size_alloc _ _
      rw [hZ] at k sW24
      try rw [hZ]
      clear hW hZ
      have pa := hid (pa.out.below b)
      have pd := hid (pd.out.below b)
      have pc := hid (pc.out.below b)
      have B := hid (B.out.trans (b.mono B.out.size))
      have ka := hid k
      clear b k
      obtain ⟨W25, hW, b, k, sx⟩ := alloc_step W24 (.cells #[.slice Apd xpd ypd, .slice Dpd zpd tpd, .int .i64 qd.bound] 24)
      rw [hW]
      clear sx
      obtain ⟨Zkd, hZ⟩ : ∃ z, W24.heap.size = z := ⟨_, rfl⟩
      have sW25 : W25.heap.size = W24.heap.size + 1 := by rw [← hW]; exact World.size_alloc _ _
      have hZ2 := hZ
      rw [sW24] at hZ2
      rw [hZ] at k sW25
      try rw [hZ2]
      clear hW hZ hZ2
      have pa := hid (pa.out.below b)
      have pd := hid (pd.out.below b)
      have pc := hid (pc.out.below b)
      have ka := hid (keep_blk ka.out b)
      have B := hid (B.out.trans (b.mono B.out.size))
      have kd := hid k
      clear b k
      obtain ⟨W26, hW, b, k, sx⟩ := alloc_step W25 (.cells #[.slice Apc xpc ypc, .slice Dpc zpc tpc, .int .i64 qc.bound] 24)
      rw [hW]
      clear sx
      obtain ⟨Zkc, hZ⟩ : ∃ z, W25.heap.size = z := ⟨_, rfl⟩
      have sW26 : W26.heap.size = W25.heap.size + 1 := by rw [← hW]; exact World.size_alloc _ _
      have hZ2 := hZ
      rw [sW25] at hZ2
      rw [hZ] at k sW26
      try rw [hZ2]
      clear hW hZ hZ2
      have pa := hid (pa.out.below b)
      have pd := hid (pd.out.below b)
      have pc := hid (pc.out.below b)
      have ka := hid (keep_blk ka.out b)
      have kd := hid (keep_blk kd.out b)
      have B := hid (B.out.trans (b.mono B.out.size))
      have kc := hid k
      clear b k
      obtain ⟨kae0, kae1, kae2⟩ := box3 ka.out
      obtain ⟨kde0, kde1, kde2⟩ := box3 kd.out
      go_wp2_with fail
      clear kae0 kae1 kae2 kde0 kde1 kde2
      refine (add_any pa.out pd.out oka.out.i64 okb.out.i64).mono ?_
      rintro r W27 ⟨⟨pv, rfl, hp⟩, b⟩
      rw [hadd.out] at hp ⊢
      dsimp only at hp
      have hp2 := hid hp
      obtain ⟨⟨Aps, xps, yps, Dps, zps, tps, rfl, _, _⟩, _⟩ := hp
      have pa := hid (pa.out.below b)
      have pd := hid (pd.out.below b)
      have pc := hid (pc.out.below b)
      have ka := hid (keep_blk ka.out b)
      have kd := hid (keep_blk kd.out b)
      have kc := hid (keep_blk kc.out b)
      have B := hid (B.out.trans (b.mono B.out.size))
      have ps := hp2
      clear b hp2
      go_upto_region 18 with fail
      obtain ⟨W28, hW, b, k, sx⟩ := alloc_step W27 (.cells #[.slice Aps xps yps, .slice Dps zps tps, .int .i64 qc.bound] 24)
      rw [hW]
      clear sx
      obtain ⟨Zks, hZ⟩ : ∃ z, W27.heap.size = z := ⟨_, rfl⟩
      have sW28 : W28.heap.size = W27.heap.size + 1 := by rw [← hW]; exact World.size_alloc _ _
      rw [hZ] at k sW28
      try rw [hZ]
      clear hW hZ
      have pa := hid (pa.out.below b)
      have pd := hid (pd.out.below b)
      have pc := hid (pc.out.below b)
      have ka := hid (keep_blk ka.out b)
      have kd := hid (keep_blk kd.out b)
      have kc := hid (keep_blk kc.out b)
      have ps := hid (ps.out.below b)
      have B := hid (B.out.trans (b.mono B.out.size))
      have ks := hid k
      clear b k
      obtain ⟨kse0, kse1, kse2⟩ := box3 ks.out
      go_wp2_with fail
      clear kse0 kse1 kse2
      refine (div_any ps.out okc.out.i64).mono ?_
      rintro r W29 ⟨⟨pv, rfl, hp⟩, b⟩
      rw [hdiv.out] at hp ⊢
      dsimp only at hp
      have hp2 := hid hp
      obtain ⟨⟨Aph, xph, yph, Dph, zph, tph, rfl, _, _⟩, _⟩ := hp
      have pa := hid (pa.out.below b)
      have pd := hid (pd.out.below b)
      have pc := hid (pc.out.below b)
      have ka := hid (keep_blk ka.out b)
      have kd := hid (keep_blk kd.out b)
      have kc := hid (keep_blk kc.out b)
      have ps := hid (ps.out.below b)
      have ks := hid (keep_blk ks.out b)
      have B := hid (B.out.trans (b.mono B.out.size))
      have ph := hp2
      clear b hp2
      clear ks ps
      go_upto_region 19 with fail
      obtain ⟨W30, hW, b, k, sx⟩ := alloc_step W29 (.cells #[.slice Aph xph yph, .slice Dph zph tph, .int .i64 qc.bound] 24)
      rw [hW]
      clear sx
      obtain ⟨Zkh, hZ⟩ : ∃ z, W29.heap.size = z := ⟨_, rfl⟩
      have sW30 : W30.heap.size = W29.heap.size + 1 := by rw [← hW]; exact World.size_alloc _ _
      rw [hZ] at k sW30
      try rw [hZ]
      clear hW hZ
      have pa := hid (pa.out.below b)
      have pd := hid (pd.out.below b)
      have pc := hid (pc.out.below b)
      have ka := hid (keep_blk ka.out b)
      have kd := hid (keep_blk kd.out b)
      have kc := hid (keep_blk kc.out b)
      have ph := hid (ph.out.below b)
      have B := hid (B.out.trans (b.mono B.out.size))
      have kh := hid k
      clear b k
      obtain ⟨khe0, khe1, khe2⟩ := box3 kh.out
      obtain ⟨kce0, kce1, kce2⟩ := box3 kc.out
      go_wp2_with fail
      clear khe0 khe1 khe2 kce0 kce1 kce2
      refine (equal_any ph.out pc.out).mono ?_
      rintro r W31 ⟨rfl, b⟩
      rw [Hs.out]
      have pa := hid (pa.out.below b)
      have pd := hid (pd.out.below b)
      have pc := hid (pc.out.below b)
      have ka := hid (keep_blk ka.out b)
      have kd := hid (keep_blk kd.out b)
      have kc := hid (keep_blk kc.out b)
      have ph := hid (ph.out.below b)
      have kh := hid (keep_blk kh.out b)
      have B := hid (B.out.trans (b.mono B.out.size))
      clear b
      clear kh ph
      obtain ⟨kce0, kce1, kce2⟩ := box3 kc.out
      obtain ⟨kae0, kae1, kae2⟩ := box3 ka.out
      obtain ⟨kde0, kde1, kde2⟩ := box3 kd.out
      go_wp2_with fail
      clear kce0 kce1 kce2 kae0 kae1 kae2 kde0 kde1 kde2
      obtain ⟨W32, hW, b, ho⟩ := ps_lit (ps := [qa, qd]) (ts := [(_, _, _), (_, _, _)]) (((Ps.nil _ (fun _ => True)).snoc (t := (_, _, _)) (pa.out.mono fun _ _ _ => trivial)).snoc (t := (_, _, _)) (pd.out.mono fun _ _ _ => trivial)) (by simp) (by simp)
      rw [show W31.alloc (.cells #[.slice Apa xpa ypa, .slice Dpa zpa tpa, .int .i64 qa.bound, .slice Apd xpd ypd, .slice Dpd zpd tpd, .int .i64 qd.bound] 24) = W32 from hW]
      have sW32 : W32.heap.size = W31.heap.size + 1 := by rw [← hW]; exact World.size_alloc _ _
      clear hW
      have pa := hid (pa.out.below b)
      have pd := hid (pd.out.below b)
      have pc := hid (pc.out.below b)
      have ka := hid (keep_blk ka.out b)
      have kd := hid (keep_blk kd.out b)
      have kc := hid (keep_blk kc.out b)
      have B := hid (B.out.trans (b.mono B.out.size))
      have pr := hid ho
      clear b ho
      refine (implied_any pc.out okc.out.i64 pr.out (by intro p hp; simp at hp; rcases hp with rfl | rfl; exact oka.out.i64; exact okb.out.i64)).mono ?_
      rintro r W33 ⟨rfl, b⟩
      rw [himp.out]
      have pa := hid (pa.out.below b)
      have pd := hid (pd.out.below b)
      have pc := hid (pc.out.below b)
      have ka := hid (keep_blk ka.out b)
      have kd := hid (keep_blk kd.out b)
      have kc := hid (keep_blk kc.out b)
      have pr := hid (pr.out.below b)
      have B := hid (B.out.trans (b.mono B.out.size))
      clear b
      clear pr
      go_wp2_with fail
      refine (awake25_any).mono ?_
      rintro r W34 ⟨rfl, b⟩
      have pa := hid (pa.out.below b)
      have pd := hid (pd.out.below b)
      have pc := hid (pc.out.below b)
      have ka := hid (keep_blk ka.out b)
      have kd := hid (keep_blk kd.out b)
      have kc := hid (keep_blk kc.out b)
      have B := hid (B.out.trans (b.mono B.out.size))
      clear b
      go_wp2_with fail
      go_ret
      exact ⟨rfl, B.out⟩
end Go.Proofs.YtooioikkgdgnnaaDoor
