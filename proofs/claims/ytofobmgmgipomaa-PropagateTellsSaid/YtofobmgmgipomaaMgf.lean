/-
  Chapter 29: several texts in one (PbK PbD PbF).
-/
import Derived.Test.YtofobmgmgipomaaMge
import Derived.Shelf.GgSortFunc.Compose
import Derived.Shelf.RegionOpen
namespace Go.Proofs.Ytofobmgmgipomaa
section
open Go.RowKit Go.Maps

def sortL (xs : List Int) : List Int := xs.mergeSort fun x y => decide (x ≤ y)
theorem sortL_perm (xs : List Int) : (sortL xs).Perm xs := List.mergeSort_perm _ _
theorem sortL_sorted (xs : List Int) : (sortL xs).Pairwise (fun x y => x ≤ y) := by
  have := List.pairwise_mergeSort (le := fun x y : Int => decide (x ≤ y)) (by intro a b c h1 h2; simp at *; omega) (by intro a b; simp; omega) xs
  exact this.imp fun h => by simpa using h
theorem sort_mod {α : Type} [Inhabited α] (enc : α → Value) (w : World) (blk off n : Nat) (d : Array α) (os : Array Obj) : Mod (fun g => g = blk) w (sortWorld enc w blk off n d os) := by
  refine ⟨rfl, rfl, rfl, ?_, fun k hk hne => ?_⟩
  · unfold sortWorld
    rw [Go.Sort.size_grow]
    simp [Go.Sort.putRow, Go.Sort.mapBlock, Go.Sort.ahead]
  · unfold sortWorld
    rw [Go.Sort.heap_grow_old _ _ (by simp [Go.Sort.putRow, Go.Sort.mapBlock, Go.Sort.ahead]; omega)]
    unfold Go.Sort.putRow Go.Sort.mapBlock Go.Sort.ahead
    simp only
    rw [Array.getElem?_modify, if_neg (fun e => hne e.symm)]
theorem Rd.empty' (w : World) (F : Nat → Prop) (R : Option Addr) (c : Nat) (hc : c ≤ maxLen) : Rd w F 1 (.slice R 0 c) 0 (ints []) := ⟨rfl, R, c, rfl, Nat.zero_le _, hc, fun h => absurd h (by omega)⟩
theorem sort_any {w : World} {F : Nat → Prop} {R : Option Addr} {n c : Nat} {xs : List Int} (ho : Own w F 3 1 (.slice R n c) n (ints xs)) (hn : n ≤ 1000000) :
    Calls Try.prog 56 #[.slice R n c] w fun r w' => r = .returned (.tuple #[]) ∧ Rd w' F 1 (.slice R n c) n (ints (sortL xs)) ∧ Mod (row (.slice R n c)) w w' := by
  have hl : xs.length = n := by have := ho.1; simpa [ints_length] using this
  rcases Nat.eq_zero_or_pos n with e | e
  · subst e
    refine (sh_slices_Sort_int_none R c w).mono ?_
    rintro r w' ⟨rfl, rfl⟩
    have hx : xs = [] := List.length_eq_zero_iff.1 hl
    have hcm : c ≤ maxLen := by
      obtain ⟨_, _, hv, _, h, _⟩ := ho.form
      injection hv with _ _ h3
      omega
    exact ⟨rfl, by rw [hx, show sortL [] = [] by simp [sortL]]; exact Rd.empty' w' F R c hcm, Mod.refl _ _⟩
  · obtain ⟨R', c', hv, hle, hmx, hg⟩ := ho.form
    injection hv with hv1 _ hv3
    subst hv1 hv3
    obtain ⟨g, rfl, hgF, hgl⟩ := hg (by omega)
    have hH : Go.Sort.Holds (Value.int .i64) w g 0 xs.toArray := by
      intro j hj
      have hj' : j < xs.length := by simpa using hj
      obtain ⟨g', e1, _, _, hc, hf⟩ := ho.cell (j := j) (by omega)
      injection e1 with e1
      injection e1 with e1
      subst e1
      rw [Nat.zero_add]
      refine ⟨?_, hf⟩
      rw [hc, ints_nth hj', nth_eq hj', getElem!_pos xs.toArray j hj]
      rfl
    have hsi := sh_slices_Sort_int g 0 c xs w hH hgl (by omega)
    rw [hl] at hsi
    refine hsi.mono ?_
    rintro r w' ⟨rfl, m, os, rfl⟩
    have hlen : (sortL xs).length = n := by rw [(sortL_perm xs).length_eq, hl]
    have hH2 := holds_sortWorld (Value.int .i64) w g 0 m xs.toArray (sortL xs).toArray os hgl hH (by simp [hlen, hl])
    have hm := sort_mod (Value.int .i64) w g 0 m (sortL xs).toArray os
    refine ⟨rfl, ⟨by rw [ints_length]; omega, _, c, rfl, hle, hmx, fun _ => ⟨g, 0, rfl, hgF, Nat.lt_of_lt_of_le hgl hm.size, fun j u hu => ?_⟩⟩, hm.mono fun k _ hk => ⟨by omega, hk.symm⟩⟩
    have hj : j < (sortL xs).length := by
      have := (List.getElem?_eq_some_iff.1 hu).1
      simpa [ints_length] using this
    rw [ints_nth hj, nth_eq hj] at hu
    injection hu with hu
    have h3 := (hH2 j (by simpa using hj)).1
    rw [getElem!_pos (sortL xs).toArray j (by simpa using hj)] at h3
    rw [← hu]
    exact h3

theorem minus_perm {f : Int → Int} {xs ys : List Int} (h : xs.Perm ys) : minus f xs = minus f ys := by
  induction h with
  | nil => rfl
  | cons x _ ih => unfold minus at *; simp only [List.map_cons, List.sum_cons]; rw [ih]
  | swap x y l => unfold minus; simp only [List.map_cons, List.sum_cons]; omega
  | trans _ _ h1 h2 => exact h1.trans h2
theorem normVars_rise (ls ks : List Int) : (normVars ls ks).Pairwise (fun x y => x < y) := by
  unfold normVars
  refine List.Pairwise.filter _ ?_
  rw [List.pairwise_map]
  exact List.pairwise_lt_range.imp fun h => by omega
theorem mem_normVars {ls ks : List Int} {v : Int} : v ∈ normVars ls ks ↔ 1 ≤ v ∧ v ≤ 65536 ∧ vsum ls ks ls.length v ≠ 0 := by
  unfold normVars
  rw [List.mem_filter, List.mem_map, decide_eq_true_eq]
  constructor
  · rintro ⟨⟨i, hi, rfl⟩, h⟩
    have := List.mem_range.1 hi
    exact ⟨by omega, by omega, h⟩
  · rintro ⟨h1, h2, h3⟩
    exact ⟨⟨(v - 1).toNat, List.mem_range.2 (by omega), by omega⟩, h3⟩
theorem vars_perm {ls ks : List Int} {f : Int → Int} (hf : vsum ls ks ls.length = f) {xs : List Int} (hn : xs.Nodup) (h1 : ∀ x ∈ xs, 1 ≤ x ∧ x ≤ 65536 ∧ f x ≠ 0) (h2 : ∀ v, 1 ≤ v → v ≤ 65536 → f v ≠ 0 → v ∈ xs) :
    sortL xs = normVars ls ks ∧ minus f xs = minus f (normVars ls ks) := by
  have hr := normVars_rise ls ks
  have hnn : (normVars ls ks).Nodup := hr.imp fun h => by omega
  have hp : xs.Perm (normVars ls ks) := (List.perm_ext_iff_of_nodup hn hnn).2 fun v => by
    rw [mem_normVars, hf]
    exact ⟨h1 v, fun h => h2 v h.1 h.2.1 h.2.2⟩
  refine ⟨?_, minus_perm hp⟩
  have hp2 := (sortL_perm xs).trans hp
  exact List.Perm.eq_of_pairwise (le := fun x y : Int => x ≤ y) (fun a b _ _ h1 h2 => by omega) (sortL_sorted xs) (hr.imp fun h => by omega) hp2
/-- Norm's answer where all is well. -/
theorem normed_ok {ls ks : List Int} {b : Int} (h1 : ls.length = ks.length) (h2 : ls.length ≤ 65536) (h3 : -1099511627776 ≤ b) (h4 : b ≤ 1099511627776) (h5 : ∀ i, i < ls.length → inB ls ks i = true) : normOk ls ks b = true := by
  unfold normOk
  simp only [Bool.and_eq_true, decide_eq_true_eq, List.all_eq_true, List.mem_range]
  exact ⟨⟨⟨⟨h1, h2⟩, h3⟩, h4⟩, h5⟩
theorem sums_bounds {B : Int} : ∀ xs : List Int, (∀ x ∈ xs, 0 ≤ x ∧ x ≤ B) → 0 ≤ xs.sum ∧ xs.sum ≤ xs.length * B := by
  intro xs
  induction xs with
  | nil => intro _; simp
  | cons x xs ih =>
    intro h
    obtain ⟨h1, h2⟩ := ih fun y hy => h y (by simp [hy])
    obtain ⟨h3, h4⟩ := h x (by simp)
    have e2 : ((x :: xs).length : Int) * B = xs.length * B + B := by rw [List.length_cons, Int.natCast_add, Int.add_mul]; simp
    rw [List.sum_cons, e2]
    omega
theorem nth_map {xs : List Int} {g : Int → Int} {i : Nat} (hi : i < xs.length) : nth (xs.map g) i = g (nth xs i) := by
  unfold nth
  rw [List.getElem?_map, List.getElem?_eq_getElem hi]
  rfl
theorem cnt_owns_block {w w' : World} {b n : Nat} {D : DataW Unit} (h : w.ownsMap Try.prog 3 (plainElem Try.prog 3) b n D) (hb : w'.heap[b]? = w.heap[b]?) : w'.ownsMap Try.prog 3 (plainElem Try.prog 3) b n D := by
  obtain ⟨es, clock, hm, r⟩ := h
  exact ⟨es, clock, hb.trans hm, r⟩
end

section
open Go.RowKit Go.Shelf

attribute [local go_sem] Oper.semAt_some

def Pb.last (c : Pb) (j : Nat) : Int := if j = 0 then 0 else ((nth c.lits (j - 1)).natAbs : Nat)
def Pb.sum (c : Pb) (j : Nat) : Int := (c.coefs.take j).sum
def Pb.good (c : Pb) (j : Nat) : Bool := litB (nth c.lits j) && decide (c.last j < ((nth c.lits j).natAbs : Nat)) && decide (1 ≤ nth c.coefs j) && decide (nth c.coefs j ≤ c.bound)
/-- c is in normal form. -/
def Pb.ok (c : Pb) : Bool := decide (c.lits.length = c.coefs.length) && decide (0 ≤ c.bound) && decide (c.bound ≤ 16777216) && (List.range c.lits.length).all c.good &&
  (decide (c.bound ≤ c.sum c.lits.length) || (decide (c.lits.length = 0) && decide (c.bound = 1)))

/-- Valid's walk over the places js: the last variable, the sum, whether all was well. -/
def Pb.step (c : Pb) (s : Int × Int × Bool) (j : Nat) : Int × Int × Bool :=
  (((nth c.lits j).natAbs : Nat), s.2.1 + nth c.coefs j, s.2.2 && (litB (nth c.lits j) && decide (s.1 < ((nth c.lits j).natAbs : Nat)) && decide (1 ≤ nth c.coefs j) && decide (nth c.coefs j ≤ c.bound)))
def Pb.fold (c : Pb) (js : List Nat) : Int × Int × Bool := js.foldl c.step (0, 0, true)
theorem Pb.fold_snoc (c : Pb) (js : List Nat) (j : Nat) : c.fold (js ++ [j]) = c.step (c.fold js) j := by simp [Pb.fold, List.foldl_append]
theorem Pb.fold_range (c : Pb) (h : c.lits.length = c.coefs.length) : ∀ k, k ≤ c.lits.length → c.fold (List.range k) = (c.last k, c.sum k, (List.range k).all c.good) := by
  intro k
  induction k with
  | zero => intro _; simp [Pb.fold, Pb.last, Pb.sum]
  | succ k ih =>
    intro hk
    rw [List.range_succ, Pb.fold_snoc, ih (by omega)]
    unfold Pb.step
    simp only [List.all_append, List.all_cons, List.all_nil, Bool.and_true]
    refine Prod.ext ?_ (Prod.ext ?_ ?_)
    · simp [Pb.last]
    · simp only [Pb.sum]
      rw [take_nth (by omega), List.sum_append]
      simp
    · rfl
theorem Pb.fold_bounds (c : Pb) (hb : c.bound ≤ 16777216) : ∀ js : List Nat, (c.fold js).2.2 = true → 0 ≤ (c.fold js).1 ∧ (c.fold js).1 ≤ 65536 ∧ 0 ≤ (c.fold js).2.1 ∧ (c.fold js).2.1 ≤ (c.fold js).1 * 16777216 := by
  intro js
  have : ∀ n (js : List Nat), js.length = n → (c.fold js).2.2 = true → 0 ≤ (c.fold js).1 ∧ (c.fold js).1 ≤ 65536 ∧ 0 ≤ (c.fold js).2.1 ∧ (c.fold js).2.1 ≤ (c.fold js).1 * 16777216 := by
    intro n
    induction n with
    | zero => intro js h _; rw [List.length_eq_zero_iff.1 h]; simp [Pb.fold]
    | succ n ih =>
      intro js h hf
      have hne : js ≠ [] := fun e => by rw [e] at h; cases h
      rw [← List.dropLast_concat_getLast hne, Pb.fold_snoc] at hf ⊢
      unfold Pb.step at hf ⊢
      simp only [Bool.and_eq_true, decide_eq_true_eq] at hf
      obtain ⟨h0, ⟨⟨h1, h2⟩, h3⟩, h4⟩ := hf
      obtain ⟨b1, b2, b3, b4⟩ := ih js.dropLast (by simp [h]) h0
      unfold litB at h1
      simp only [decide_eq_true_eq] at h1
      simp only []
      generalize c.fold js.dropLast = S at *
      omega
  exact this _ js rfl

set_option maxRecDepth 100000 in
set_option maxHeartbeats 4000000 in
theorem valid_any {w : World} {F : Nat → Prop} {v : Value} {c : Pb} (hc : PbRd w F v c) (hi : ∀ k ∈ c.coefs, I64 k) :
    Calls Try.prog 41 #[v] w fun r w' => r = .returned (.bool c.ok) ∧ Below w.heap.size w w' := by
  obtain ⟨⟨A, n, cn, B, m, cm, rfl, hx, hk⟩, hb⟩ := hc
  have hxl : c.lits.length = n := by have := hx.1; simpa [ints_length] using this
  have hkl : c.coefs.length = m := by have := hk.1; simpa [ints_length] using this
  obtain ⟨bd, hbd⟩ : ∃ b, c.bound = b := ⟨_, rfl⟩
  rw [hbd] at hb ⊢
  unfold I64 at hb
  by_cases hnm : n = m
  · subst hnm
    by_cases hb0 : 0 ≤ bd
    · by_cases hb1 : bd ≤ 16777216
      · have q1 : (bd < 0) = False := by simp; omega
        have q2 : (16777216 < bd) = False := by simp; omega
        have q3 : decide (bd < 0) = false := by simp; omega
        have q4 : decide (16777216 < bd) = false := by simp; omega
        refine callsIn_wide (n := 5).1 ?_
        refine callsIn_of_wp_marks Try.func41 rfl trivial ?_ rfl
        simp only [Try.ntmps41, List.size_toArray, List.length_cons, List.length_nil, Nat.reduceAdd, Nat.reduceSub, Array.replicate_succ, Array.replicate_zero, List.push_toArray, List.append_toArray, List.nil_append, List.cons_append]
        gi_wp2_with fail
        refine ⟨trivial, (parts_in 4 _ _ _ _).mono ?_⟩
        rintro e w' ⟨rfl, rfl⟩
        obtain ⟨z1, z2, z3⟩ := allocs_get w [.cells #[.slice A n cn, .slice B n cm, .int .i64 bd] 36, .cells #[.bool false] 4, .cells #[.int .i64 0] 3, .cells #[.int .i64 0] 3, .cells #[.slice A n cn, .slice B n cm, .int .i64 bd] 36]
        obtain ⟨W0, hW0⟩ : ∃ W0, allocs w [.cells #[.slice A n cn, .slice B n cm, .int .i64 bd] 36, .cells #[.bool false] 4, .cells #[.int .i64 0] 3, .cells #[.int .i64 0] 3, .cells #[.slice A n cn, .slice B n cm, .int .i64 bd] 36] = W0 := ⟨_, rfl⟩
        rw [hW0] at z1 z2 z3
        unfold allocs at hW0
        simp only [List.foldl_cons, List.foldl_nil] at hW0
        simp only [World.size_alloc]
        rw [hW0]
        simp only [List.length_cons, List.length_nil, Nat.zero_add, Nat.reduceAdd] at z1
        have k0 := z3 0 _ rfl
        have k1 := Bx.of_block (z3 1 _ rfl)
        have k2 := Bx.of_block (z3 2 _ rfl)
        have k3 := Bx.of_block (z3 3 _ rfl)
        have k4 := z3 4 _ rfl
        rw [Nat.add_zero] at k0
        have hx0 := (hx.mono (G := fun g => g < w.heap.size) fun g hg _ => hg).below z2
        have hk0 := (hk.mono (G := fun g => g < w.heap.size) fun g hg _ => hg).below z2
        clear hW0 z3
        obtain ⟨sz, hsz⟩ : ∃ s, w.heap.size = s := ⟨_, rfl⟩
        rw [hsz] at z1 z2 k0 k1 k2 k3 k4 hx0 hk0
        rw [hsz]
        gi_wp2_with fail
        simp only [Nat.add_assoc, Nat.reduceAdd]
        have c0 : W0.cell? ⟨sz + 4, 0, none⟩ = some (.slice A n cn) := by rw [cell_of_row _ _ _ _ _ _ k4]; rfl
        have c1 : W0.cell? ⟨sz + 4, 1, none⟩ = some (.slice B n cm) := by rw [cell_of_row _ _ _ _ _ _ k4]; rfl
        have d0 : W0.cell? ⟨sz, 0, none⟩ = some (.slice A n cn) := by rw [cell_of_row _ _ _ _ _ _ k0]; rfl
        have d2 : W0.cell? ⟨sz, 2, none⟩ = some (.int .i64 bd) := by rw [cell_of_row _ _ _ _ _ _ k0]; rfl
        refine' wpIn_rangeFunc_ownF (α := Fin n) rfl (by omega) (gf := 69) (lb := #[.pointer (some ⟨sz + 4, 0, none⟩)]) rfl trivial (enters_of Try.func69 (by kernel_rfl) rfl)
          (parts_stops 4 (sz + 4) sz (by omega) (F := fun g => g < sz) (fun g hg => hg) W0 c0 c1 hx0 hk0) (fun h k => h.trans k) (kpb_b (by omega) (by omega)) (Below.refl _ _) (fun _ => rfl)
          (fun pre W => ((c.fold (pre.map Fin.val)).2.2 = true ∧ Bx W (sz + 2) (.int .i64 (c.fold (pre.map Fin.val)).1) ∧ Bx W (sz + 3) (.int .i64 (c.fold (pre.map Fin.val)).2.1) ∧ Bx W (sz + 1) (.bool false) ∧ W.cell? ⟨sz, 0, none⟩ = some (.slice A n cn) ∧ W.cell? ⟨sz, 2, none⟩ = some (.int .i64 bd)) ∧ Below sz w W)
          (fun co pre W => (co = .ret ∧ (c.fold (pre.map Fin.val)).2.2 = false ∧ Bx W (sz + 1) (.bool false)) ∧ Below sz w W)
          (OwnFrom.and (Own.from (fun s A B row hs hg hr => ⟨hs.1, hs.2.1.kept hg hr, hs.2.2.1.kept hg hr, hs.2.2.2.1.kept hg hr, cell_kept hs.2.2.2.2.1 hg hr, cell_kept hs.2.2.2.2.2 hg hr⟩) _) (ownFrom_below (by omega) (by omega)))
          (fun co => OwnFrom.and (Own.from (fun s A B row hs hg hr => ⟨hs.1, hs.2.1, hs.2.2.kept hg hr⟩) _) (ownFrom_below (by omega) (by omega)))
          ⟨⟨rfl, k2, k3, k1, d0, d2⟩, z2⟩ _ ?assign ?body ?done ?stop
        case assign =>
          intro l x W K hK
          gi_wp2
          exact hK
        case body =>
          rintro l pre x W ⟨⟨hf, e2, e3, e1, e0, e4⟩, hB⟩ hpre
          have hbn := c.fold_bounds (by omega) _ hf
          have hsn := c.fold_snoc (pre.map Fin.val) x.val
          have hmp : (pre ++ [x]).map Fin.val = pre.map Fin.val ++ [x.val] := by simp
          rw [← hmp] at hsn
          obtain ⟨li, hli⟩ : ∃ l, nth c.lits x.val = l := ⟨_, rfl⟩
          obtain ⟨ki, hki⟩ : ∃ l, nth c.coefs x.val = l := ⟨_, rfl⟩
          have hki64 : I64 ki := hi ki (by rw [← hki]; exact nth_mem (by have := x.isLt; omega))
          obtain ⟨S, hS⟩ : ∃ S, c.fold (pre.map Fin.val) = S := ⟨_, rfl⟩
          rw [hS] at hf e2 e3 hbn hsn
          obtain ⟨la, su, ok⟩ := S
          simp only [] at hf e2 e3 hbn
          subst hf
          unfold Pb.step at hsn
          rw [hli, hki, hbd] at hsn
          rw [hli, hki]
          obtain ⟨b1, b2, b3, b4⟩ := hbn
          unfold I64 at hki64
          have Hsn := hid hsn
          have HB := hid hB
          clear hsn hB hli hki hS hmp
          by_cases h1 : litB li = true
          · obtain ⟨l1, l2, l3⟩ : li ≠ 0 ∧ -65536 ≤ li ∧ li ≤ 65536 := by unfold litB at h1; simpa using h1
            have H1 := hid h1
            obtain ⟨v, hv⟩ : ∃ v, li.natAbs = v := ⟨_, rfl⟩
            have hv1 : v ≤ 65536 := by omega
            have Hv := hid hv
            clear h1 hv
            by_cases h2 : la < (v : Int)
            · have p1 : ((v : Int) ≤ la) = False := by simp; omega
              by_cases h3 : 1 ≤ ki
              · have p2 : (ki < 1) = False := by simp; omega
                by_cases h4 : ki ≤ bd
                · have p3 : (bd < ki) = False := by simp; omega
                  have hw : IntKind.i64.wrap (su + ki) = su + ki := iw' (by omega) (by omega)
                  have e2c := e2.1
                  have e2f := e2.2
                  have e3c := e3.1
                  have e3f := e3.2
                  have hmix : Try.prog.follows .mixedOrders = true := by kernel_rfl
                  gi_wp2_with fail
                  gi_region_with_o (first
                    | (refine ⟨trivial, ?_⟩; gi_at_call 55; refine (CallsIn.inRound l (callsIn_wide.2 literal_any)).mono ?_; rw [H1.out]; rintro r w4 ⟨rfl, rfl⟩)
                    | (refine ⟨trivial, ?_⟩; gi_at_call 61; refine (CallsIn.inRound l (callsIn_wide.2 (abs_any (by omega) (by omega)))).mono ?_; rw [Hv.out]; rintro r w4 ⟨rfl, rfl⟩))
                  all_goals gi_wp2_with (refine ⟨trivial, ?_⟩; gi_at_call 61; refine (CallsIn.inRound l (callsIn_wide.2 (abs_any (by omega) (by omega)))).mono ?_; rw [Hv.out]; rintro r w4 ⟨rfl, rfl⟩)
                  all_goals exact ⟨((KeepsOthers.drew W).trans (KeepsOthers.setCell _ _ _)).trans (KeepsOthers.setCell _ _ _), ((KpB.refl _ _ _).drew.set (Nat.le_add_right _ _) (by omega) _).set (Nat.le_add_right _ _) (by omega) _,
                    ⟨by rw [Hsn.out]; have := Hv.out; simp [H1.out]; omega, by rw [Hsn.out, Hv.out]; exact Bx.far (Bx.put e2 _) (by omega) _, by rw [Hsn.out]; exact Bx.put (Bx.far e3 (by omega) _) _, Bx.far (Bx.far e1 (by omega) _) (by omega) _,
                      cell_set_far (cell_set_far e0 (by omega) _) (by omega) _, cell_set_far (cell_set_far e4 (by omega) _) (by omega) _⟩,
                    ((Below.drew HB.out).setCell (p := ⟨sz + 2, 0, none⟩) (Nat.le_add_right _ _) _).setCell (p := ⟨sz + 3, 0, none⟩) (Nat.le_add_right _ _) _⟩
                · have p3 : bd < ki := by omega
                  have p4 : decide (bd < ki) = true := by simpa using p3
                  have hmix : Try.prog.follows .mixedOrders = true := by kernel_rfl
                  have e1c := e1.1
                  have e2c := e2.1
                  have e2f := e2.2
                  have e1f := e1.2
                  gi_wp2_with fail
                  gi_region_with_o (first
                                      | (refine ⟨trivial, ?_⟩; gi_at_call 55; refine (CallsIn.inRound l (callsIn_wide.2 literal_any)).mono ?_; rw [H1.out]; rintro r w4 ⟨rfl, rfl⟩)
                                      | (refine ⟨trivial, ?_⟩; gi_at_call 61; refine (CallsIn.inRound l (callsIn_wide.2 (abs_any (by omega) (by omega)))).mono ?_; rw [Hv.out]; rintro r w4 ⟨rfl, rfl⟩))
                  all_goals gi_wp2
                  all_goals exact ⟨(KeepsOthers.drew W).trans (KeepsOthers.setCell _ _ _), ⟨rfl, by rw [Hsn.out]; have := Hv.out; simp; intros; omega, Bx.put e1 _⟩, (Below.drew HB.out).setCell (p := ⟨sz + 1, 0, none⟩) (Nat.le_add_right _ _) _⟩
              · have p2 : ki < 1 := by omega
                have hmix : Try.prog.follows .mixedOrders = true := by kernel_rfl
                have e1c := e1.1
                have e2c := e2.1
                have e2f := e2.2
                have e1f := e1.2
                gi_wp2_with fail
                gi_region_with_o (first
                                    | (refine ⟨trivial, ?_⟩; gi_at_call 55; refine (CallsIn.inRound l (callsIn_wide.2 literal_any)).mono ?_; rw [H1.out]; rintro r w4 ⟨rfl, rfl⟩)
                                    | (refine ⟨trivial, ?_⟩; gi_at_call 61; refine (CallsIn.inRound l (callsIn_wide.2 (abs_any (by omega) (by omega)))).mono ?_; rw [Hv.out]; rintro r w4 ⟨rfl, rfl⟩))
                all_goals gi_wp2
                all_goals exact ⟨(KeepsOthers.drew W).trans (KeepsOthers.setCell _ _ _), ⟨rfl, by rw [Hsn.out]; have := Hv.out; simp; intros; omega, Bx.put e1 _⟩, (Below.drew HB.out).setCell (p := ⟨sz + 1, 0, none⟩) (Nat.le_add_right _ _) _⟩
            · have p1 : (v : Int) ≤ la := by omega
              have hmix : Try.prog.follows .mixedOrders = true := by kernel_rfl
              have e1c := e1.1
              have e2c := e2.1
              have e2f := e2.2
              have e1f := e1.2
              gi_wp2_with fail
              gi_region_with_o (first
                                  | (refine ⟨trivial, ?_⟩; gi_at_call 55; refine (CallsIn.inRound l (callsIn_wide.2 literal_any)).mono ?_; rw [H1.out]; rintro r w4 ⟨rfl, rfl⟩)
                                  | (refine ⟨trivial, ?_⟩; gi_at_call 61; refine (CallsIn.inRound l (callsIn_wide.2 (abs_any (by omega) (by omega)))).mono ?_; rw [Hv.out]; rintro r w4 ⟨rfl, rfl⟩))
              all_goals gi_wp2
              all_goals exact ⟨(KeepsOthers.drew W).trans (KeepsOthers.setCell _ _ _), ⟨rfl, by rw [Hsn.out]; have := Hv.out; simp; intros; omega, Bx.put e1 _⟩, (Below.drew HB.out).setCell (p := ⟨sz + 1, 0, none⟩) (Nat.le_add_right _ _) _⟩
          · have h1 : litB li = false := by simpa using h1
            have H1 := hid h1
            have Hv : Hid (li.natAbs = li.natAbs) := rfl
            clear h1
            have hmix : Try.prog.follows .mixedOrders = true := by kernel_rfl
            have e1c := e1.1
            have e2c := e2.1
            have e2f := e2.2
            have e1f := e1.2
            gi_wp2_with fail
            gi_region_with_o (first
                                | (refine ⟨trivial, ?_⟩; gi_at_call 55; refine (CallsIn.inRound l (callsIn_wide.2 literal_any)).mono ?_; rw [H1.out]; rintro r w4 ⟨rfl, rfl⟩)
                                | (refine ⟨trivial, ?_⟩; gi_at_call 61; refine (CallsIn.inRound l (callsIn_wide.2 (abs_any (by omega) (by omega)))).mono ?_; rw [Hv.out]; rintro r w4 ⟨rfl, rfl⟩)
                                | (refine ⟨trivial, ?_⟩))
            all_goals gi_wp2
            all_goals exact ⟨(KeepsOthers.drew W).trans (KeepsOthers.setCell _ _ _), ⟨rfl, by rw [Hsn.out]; simp [H1.out], Bx.put e1 _⟩, (Below.drew HB.out).setCell (p := ⟨sz + 1, 0, none⟩) (Nat.le_add_right _ _) _⟩
        case done =>
          rintro D ys W hD hys ⟨⟨hf, e2, e3, e1, e0, e4⟩, hB⟩ hK
          unfold SomeOf at hys
          rw [hys, ← hxl, c.fold_range (by omega) _ (Nat.le_refl _)] at hf e3
          simp only [] at hf e3
          obtain ⟨su, hsu⟩ : ∃ s, c.sum c.lits.length = s := ⟨_, rfl⟩
          have hok : c.ok = (decide (bd ≤ su) || (decide (n = 0) && decide (bd = 1))) := by
            unfold Pb.ok
            rw [hf, hsu, hbd, hxl, hkl]
            simp [hb0, hb1]
          rw [hsu] at e3
          have e0c := e0
          have e1c := e1.1
          have e1f := e1.2
          have e3c := e3.1
          by_cases t1 : bd ≤ su
          · have t1' : decide (bd ≤ su) = true := by simpa using t1
            have hokt : c.ok = true := by rw [hok, t1']; rfl
            have Hok := hid hokt
            clear hokt hok
            gi_wp2
            have hK' := (KeepsOthers.setCell W ⟨sz + 1, 0, none⟩ (.bool true)).same D _ hK rfl
            refine ⟨by simp, .inl ⟨_, _, rfl, run_takeDeferred hK', ?_⟩⟩
            have hc5 := cell_kept (Bx.put e1 (.bool true)).1 (grownBy_putObj' _ D (.deferred none)) (fun r e => by cases e; exact ⟨_, hK', rfl⟩)
            refine ⟨.bool true, ?_, by rw [Hok.out], by (try rw [hsz]); exact (hB.setCell (p := ⟨sz + 1, 0, none⟩) (Nat.le_add_right _ _) _).trans (belowK_b (w := w) (by omega) _ D _ _ (by omega) hK' rfl rfl)⟩
            simp [results, Try.f41, go_sem, hc5]
          · have t1' : decide (bd ≤ su) = false := by simpa using t1
            by_cases t2 : n = 0
            · by_cases t3 : bd = 1
              · have hokt : c.ok = true := by rw [hok]; simp [t2, t3]
                have t2' : ((n : Int) == 0) = true := by simpa using t2
                have t3' : (bd == 1) = true := by simpa using t3
                clear t2 t3
                have Hok := hid hokt
                clear hokt hok
                gi_wp2
                have hK' := (KeepsOthers.setCell W ⟨sz + 1, 0, none⟩ (.bool true)).same D _ hK rfl
                refine ⟨by simp, .inl ⟨_, _, rfl, run_takeDeferred hK', ?_⟩⟩
                have hc5 := cell_kept (Bx.put e1 (.bool true)).1 (grownBy_putObj' _ D (.deferred none)) (fun r e => by cases e; exact ⟨_, hK', rfl⟩)
                refine ⟨.bool true, ?_, by rw [Hok.out], by (try rw [hsz]); exact (hB.setCell (p := ⟨sz + 1, 0, none⟩) (Nat.le_add_right _ _) _).trans (belowK_b (w := w) (by omega) _ D _ _ (by omega) hK' rfl rfl)⟩
                simp [results, Try.f41, go_sem, hc5]
              · have hokt : c.ok = false := by rw [hok, t1']; simp [t3]
                have t2' : ((n : Int) == 0) = true := by simpa using t2
                have t3' : (bd == 1) = false := by simpa using t3
                clear t2 t3
                have Hok := hid hokt
                clear hokt hok
                gi_wp2
                have hK' := (KeepsOthers.setCell W ⟨sz + 1, 0, none⟩ (.bool false)).same D _ hK rfl
                refine ⟨by simp, .inl ⟨_, _, rfl, run_takeDeferred hK', ?_⟩⟩
                have hc5 := cell_kept (Bx.put e1 (.bool false)).1 (grownBy_putObj' _ D (.deferred none)) (fun r e => by cases e; exact ⟨_, hK', rfl⟩)
                refine ⟨.bool false, ?_, by rw [Hok.out], by (try rw [hsz]); exact (hB.setCell (p := ⟨sz + 1, 0, none⟩) (Nat.le_add_right _ _) _).trans (belowK_b (w := w) (by omega) _ D _ _ (by omega) hK' rfl rfl)⟩
                simp [results, Try.f41, go_sem, hc5]
            · have hokt : c.ok = false := by rw [hok, t1']; simp [t2]
              have t2' : ((n : Int) == 0) = false := by simpa using t2
              clear t2
              have Hok := hid hokt
              clear hokt hok
              gi_wp2
              have hK' := (KeepsOthers.setCell W ⟨sz + 1, 0, none⟩ (.bool false)).same D _ hK rfl
              refine ⟨by simp, .inl ⟨_, _, rfl, run_takeDeferred hK', ?_⟩⟩
              have hc5 := cell_kept (Bx.put e1 (.bool false)).1 (grownBy_putObj' _ D (.deferred none)) (fun r e => by cases e; exact ⟨_, hK', rfl⟩)
              refine ⟨.bool false, ?_, by rw [Hok.out], by (try rw [hsz]); exact (hB.setCell (p := ⟨sz + 1, 0, none⟩) (Nat.le_add_right _ _) _).trans (belowK_b (w := w) (by omega) _ D _ _ (by omega) hK' rfl rfl)⟩
              simp [results, Try.f41, go_sem, hc5]
        case stop =>
          rintro D co pre W hD ⟨k, hkn, hpre⟩ ⟨⟨rfl, hf, e1⟩, hB⟩ hK
          unfold SomeOf at hpre
          have hok : c.ok = false := by
            rw [hpre, c.fold_range (by omega) _ (by omega)] at hf
            simp only [] at hf
            unfold Pb.ok
            have hall : (List.range c.lits.length).all c.good = false := by
              rw [List.all_eq_false] at hf ⊢
              obtain ⟨q, hq, h⟩ := hf
              exact ⟨q, by rw [List.mem_range] at hq ⊢; omega, h⟩
            rw [hall]
            simp
          have Hok := hid hok
          clear hok
          gi_wp2
          refine ⟨by simp, .inl ⟨_, _, rfl, run_takeDeferred hK, ?_⟩⟩
          have hc5 := cell_kept e1.1 (grownBy_putObj' _ D (.deferred none)) (fun r e => by cases e; exact ⟨_, hK, rfl⟩)
          refine ⟨.bool false, ?_, by rw [Hok.out], by (try rw [hsz]); exact hB.trans (belowK_b (w := w) (by omega) W D _ _ (by omega) hK rfl rfl)⟩
          simp [results, Try.f41, go_sem, hc5]
      · have q1 : (bd < 0) = False := by simp; omega
        have q2 : 16777216 < bd := by omega
        have q3 : decide (bd < 0) = false := by simp; omega
        have q4 : decide (16777216 < bd) = true := by simpa using q2
        have hok : c.ok = false := by unfold Pb.ok; rw [hbd]; simp [hb1]
        rw [hok]
        go_enter Try.func41, Try.ntmps41
        go_wp2_with fail
        obtain ⟨_, y2, y3⟩ := allocs_get w [.cells #[.slice A n cn, .slice B n cm, .int .i64 bd] 36, .cells #[.bool false] 4]
        have hcell : ((w.alloc (.cells #[.slice A n cn, .slice B n cm, .int .i64 bd] 36)).alloc (.cells #[.bool false] 4)).cell? ⟨w.heap.size + 1, 0, none⟩ = some (.bool false) := (Bx.of_block (y3 1 _ rfl)).1
        exact bodyPost_ret (v := .bool false) (by simp [results, Try.f41, go_sem, hcell]) rfl ⟨rfl, y2⟩
    · have q1 : bd < 0 := by omega
      have q3 : decide (bd < 0) = true := by simpa using q1
      have hok : c.ok = false := by unfold Pb.ok; rw [hbd]; simp [hb0]
      rw [hok]
      go_enter Try.func41, Try.ntmps41
      go_wp2_with fail
      obtain ⟨_, y2, y3⟩ := allocs_get w [.cells #[.slice A n cn, .slice B n cm, .int .i64 bd] 36, .cells #[.bool false] 4]
      have hcell : ((w.alloc (.cells #[.slice A n cn, .slice B n cm, .int .i64 bd] 36)).alloc (.cells #[.bool false] 4)).cell? ⟨w.heap.size + 1, 0, none⟩ = some (.bool false) := (Bx.of_block (y3 1 _ rfl)).1
      exact bodyPost_ret (v := .bool false) (by simp [results, Try.f41, go_sem, hcell]) rfl ⟨rfl, y2⟩
  · have q1 : ((n : Int) != (m : Int)) = true := by simp; omega
    have q2 : (n != m) = true := by simp; omega
    have hok : c.ok = false := by unfold Pb.ok; rw [hxl, hkl]; simp [hnm]
    rw [hok]
    go_enter Try.func41, Try.ntmps41
    go_wp2_with fail
    obtain ⟨_, y2, y3⟩ := allocs_get w [.cells #[.slice A n cn, .slice B m cm, .int .i64 bd] 36, .cells #[.bool false] 4]
    have hcell : ((w.alloc (.cells #[.slice A n cn, .slice B m cm, .int .i64 bd] 36)).alloc (.cells #[.bool false] 4)).cell? ⟨w.heap.size + 1, 0, none⟩ = some (.bool false) := (Bx.of_block (y3 1 _ rfl)).1
    exact bodyPost_ret (v := .bool false) (by simp [results, Try.f41, go_sem, hcell]) rfl ⟨rfl, y2⟩
end

section
open Go.RowKit Go.Shelf

attribute [local go_sem] Oper.semAt_some

theorem Bx.below {W W' : World} {b : Nat} {v : Value} (h : Bx W b v) (hb : Below W.heap.size W W') : Bx W' b v :=
  ⟨keep_cell h.1 hb, (World.frozen?_of_block (hb.block b (World.block_lt_of_cell? W _ h.1))).trans h.2⟩
theorem Bx.alloc {W : World} {b : Nat} {v : Value} (h : Bx W b v) (o : Obj) : Bx (W.alloc o) b v := h.below ((Below.refl _ _).alloc (Nat.le_refl _) _)
/-- What a valid constraint is. -/
structure Pb.Ok (c : Pb) : Prop where
  len : c.lits.length = c.coefs.length
  few : c.lits.length ≤ 65536
  low : 0 ≤ c.bound
  high : c.bound ≤ 16777216
  lit : ∀ j, j < c.lits.length → nth c.lits j ≠ 0 ∧ -65536 ≤ nth c.lits j ∧ nth c.lits j ≤ 65536
  coef : ∀ j, j < c.lits.length → 1 ≤ nth c.coefs j ∧ nth c.coefs j ≤ c.bound
  rise : ∀ j, j < c.lits.length → c.last j < ((nth c.lits j).natAbs : Nat)
  sums : c.bound ≤ c.sum c.lits.length ∨ (c.lits.length = 0 ∧ c.bound = 1)
theorem Pb.ok_iff (c : Pb) : c.ok = true ↔ c.Ok := by
  constructor
  · intro h
    unfold Pb.ok at h
    simp only [Bool.and_eq_true, Bool.or_eq_true, decide_eq_true_eq, List.all_eq_true, List.mem_range] at h
    obtain ⟨⟨⟨⟨h1, h2⟩, h3⟩, h4⟩, h5⟩ := h
    have hg : ∀ j, j < c.lits.length → (nth c.lits j ≠ 0 ∧ -65536 ≤ nth c.lits j ∧ nth c.lits j ≤ 65536) ∧ c.last j < ((nth c.lits j).natAbs : Nat) ∧ 1 ≤ nth c.coefs j ∧ nth c.coefs j ≤ c.bound := by
      intro j hj
      have := h4 j hj
      unfold Pb.good litB at this
      simp only [Bool.and_eq_true, decide_eq_true_eq] at this
      exact ⟨this.1.1.1, this.1.1.2, this.1.2, this.2⟩
    have hlast : ∀ k, k ≤ c.lits.length → (k : Int) ≤ c.last k := by
      intro k
      induction k with
      | zero => intro _; simp [Pb.last]
      | succ k ih =>
        intro hk
        have h6 := ih (by omega)
        have h7 := (hg k (by omega)).2.1
        have : c.last (k + 1) = ((nth c.lits k).natAbs : Nat) := by simp [Pb.last]
        rw [this]
        omega
    refine ⟨h1, ?_, h2, h3, fun j hj => (hg j hj).1, fun j hj => (hg j hj).2.2, fun j hj => (hg j hj).2.1, h5⟩
    rcases Nat.eq_zero_or_pos c.lits.length with e | e
    · omega
    · have h6 := hlast c.lits.length (Nat.le_refl _)
      have h7 := (hg (c.lits.length - 1) (by omega)).1
      unfold Pb.last at h6
      rw [if_neg (by omega)] at h6
      omega
  · intro h
    unfold Pb.ok
    simp only [Bool.and_eq_true, Bool.or_eq_true, decide_eq_true_eq, List.all_eq_true, List.mem_range]
    refine ⟨⟨⟨⟨h.len, h.low⟩, h.high⟩, fun j hj => ?_⟩, h.sums⟩
    unfold Pb.good litB
    simp only [Bool.and_eq_true, decide_eq_true_eq]
    exact ⟨⟨⟨h.lit j hj, h.rise j hj⟩, (h.coef j hj).1⟩, (h.coef j hj).2⟩

/-- The sum of the coefficients at the places js at which p holds of the literal. -/
def Pb.part (c : Pb) (p : Int → Bool) (js : List Nat) : Int := (js.map fun j => if p (nth c.lits j) = true then nth c.coefs j else 0).sum
theorem Pb.part_snoc (c : Pb) (p : Int → Bool) (js : List Nat) (j : Nat) : c.part p (js ++ [j]) = c.part p js + (if p (nth c.lits j) = true then nth c.coefs j else 0) := by simp [Pb.part]
theorem Pb.part_bounds {c : Pb} (h : c.Ok) (p : Int → Bool) : ∀ js : List Nat, (∀ j ∈ js, j < c.lits.length) → 0 ≤ c.part p js ∧ c.part p js ≤ js.length * 16777216 := by
  intro js
  induction js with
  | nil => intro _; simp [Pb.part]
  | cons j js ih =>
    intro hj
    obtain ⟨h1, h2⟩ := ih fun q hq => hj q (by simp [hq])
    obtain ⟨h3, h4⟩ := h.coef j (hj j (by simp))
    have h5 := h.high
    have e : c.part p (j :: js) = (if p (nth c.lits j) = true then nth c.coefs j else 0) + c.part p js := by simp [Pb.part]
    rw [e, List.length_cons]
    split <;> omega
def Pb.total (c : Pb) (p : Int → Bool) : Int := c.part p (List.range c.lits.length)
def Pb.holdsB (c : Pb) (av : List Int) : Bool := c.ok && decide (c.bound ≤ c.total fun l => decide (0 < valB av l))

set_option maxRecDepth 100000 in
set_option maxHeartbeats 4000000 in
theorem holds_any {w : World} {F G : Nat → Prop} {v : Value} {c : Pb} {A : Option Addr} {na ca : Nat} {av : List Int} (hc : PbRd w F v c) (hi : ∀ k ∈ c.coefs, I64 k) (ha : Rd w G 1 (.slice A na ca) na (i8s av)) :
    Calls Try.prog 47 #[v, .slice A na ca] w fun r w' => r = .returned (.bool (c.holdsB av)) ∧ Below w.heap.size w w' := by
  have hc0 := hc
  obtain ⟨⟨L, n, cn, K, m, cm, rfl, hx, hk⟩, hb⟩ := hc
  have hxl : c.lits.length = n := by have := hx.1; simpa [ints_length] using this
  have hkl : c.coefs.length = m := by have := hk.1; simpa [ints_length] using this
  obtain ⟨bd, hbd⟩ : ∃ b, c.bound = b := ⟨_, rfl⟩
  rw [hbd] at hb hc0 ⊢
  refine callsIn_wide (n := 5).1 ?_
  refine callsIn_of_wp_marks Try.func47 rfl trivial ?_ rfl
  simp only [Try.ntmps47, List.size_toArray, List.length_cons, List.length_nil, Nat.reduceAdd, Nat.reduceSub, Array.replicate_succ, Array.replicate_zero, List.push_toArray, List.append_toArray, List.nil_append, List.cons_append]
  gi_wp2_with fail
  obtain ⟨z1, z2, z3⟩ := allocs_get w [.cells #[.slice L n cn, .slice K m cm, .int .i64 bd] 36, .cells #[.slice A na ca] 56, .cells #[.int .i64 0] 3]
  obtain ⟨W0, hW0⟩ : ∃ W0, allocs w [.cells #[.slice L n cn, .slice K m cm, .int .i64 bd] 36, .cells #[.slice A na ca] 56, .cells #[.int .i64 0] 3] = W0 := ⟨_, rfl⟩
  rw [hW0] at z1 z2 z3
  unfold allocs at hW0
  simp only [List.foldl_cons, List.foldl_nil] at hW0
  simp only [List.length_cons, List.length_nil, Nat.zero_add, Nat.reduceAdd] at z1
  have k0 := z3 0 _ rfl
  have k1 := Bx.of_block (z3 1 _ rfl)
  have k2 := Bx.of_block (z3 2 _ rfl)
  rw [Nat.add_zero] at k0
  rw [hW0]
  refine ⟨trivial, (callsIn_wide.2 (valid_any (hc0.below z2) hi)).mono ?_⟩
  rintro r w2 ⟨rfl, b2⟩
  have s2 := b2.size
  have hB2 : Below w.heap.size w w2 := z2.trans (b2.mono z2.size)
  obtain ⟨sz, hsz⟩ : ∃ s, w.heap.size = s := ⟨_, rfl⟩
  have hx2 := (hx.mono (G := fun g => g < w.heap.size) fun g hg _ => hg).below hB2
  have hk2 := (hk.mono (G := fun g => g < w.heap.size) fun g hg _ => hg).below hB2
  have ha2 := ha.mono (G := fun g => g < w.heap.size) fun g hg _ => hg
  rw [hsz] at z1 z2 k0 k1 k2 hx2 hk2 hB2 ha2
  rw [hsz]
  simp only [Nat.add_assoc, Nat.reduceAdd]
  have d0 := keep_cell (show W0.cell? ⟨sz, 0, none⟩ = some (.slice L n cn) by rw [cell_of_row _ _ _ _ _ _ k0]; rfl) b2
  have d1 := keep_cell (show W0.cell? ⟨sz, 1, none⟩ = some (.slice K m cm) by rw [cell_of_row _ _ _ _ _ _ k0]; rfl) b2
  have d2 := keep_cell (show W0.cell? ⟨sz, 2, none⟩ = some (.int .i64 bd) by rw [cell_of_row _ _ _ _ _ _ k0]; rfl) b2
  have e1 := k1.below b2
  have e2 := k2.below b2
  clear hW0 z3 b2 k0 k1 k2
  by_cases hok : c.ok = true
  · have hk0 := c.ok_iff.1 hok
    rw [hok]
    gi_wp2_with fail
    refine ⟨trivial, (parts_in 4 _ _ _ _).mono ?_⟩
    rintro e w' ⟨rfl, rfl⟩
    obtain ⟨Bn, hBn⟩ : ∃ b, w2.heap.size = b := ⟨_, rfl⟩
    obtain ⟨W3, hW3⟩ : ∃ W, w2.alloc (.cells #[.slice L n cn, .slice K m cm, .int .i64 bd] 36) = W := ⟨_, rfl⟩
    have b3 : Below w2.heap.size w2 W3 := by rw [← hW3]; exact (Below.refl _ _).alloc (Nat.le_refl _) _
    have k3 : W3.heap[Bn]? = some (.cells #[.slice L n cn, .slice K m cm, .int .i64 bd] 36) := by rw [← hW3, ← hBn]; exact heap_alloc_new _ _
    have s3 : W3.heap.size = Bn + 1 := by rw [← hW3, World.size_alloc, hBn]
    have f2 := keep_cell d2 b3
    have g1 := e1.below b3
    have g2 := e2.below b3
    have hx3 := hx2.below b3
    have hk3 := hk2.below b3
    have hB3 : Below sz w W3 := hB2.trans (b3.mono (by omega))
    rw [hBn, hW3]
    obtain rfl : n = m := by have := hk0.len; omega
    clear hW3 d0 d1 d2 e1 e2 b3 hx2 hk2 hc0
    gi_wp2_with fail
    have c0 : W3.cell? ⟨Bn, 0, none⟩ = some (.slice L n cn) := by rw [cell_of_row _ _ _ _ _ _ k3]; rfl
    have c1 : W3.cell? ⟨Bn, 1, none⟩ = some (.slice K n cm) := by rw [cell_of_row _ _ _ _ _ _ k3]; rfl
    obtain ⟨p, hp⟩ : ∃ p : Int → Bool, p = fun l => decide (0 < valB av l) := ⟨_, rfl⟩
    have hpl : ∀ l, p l = decide (0 < valB av l) := fun l => by rw [hp]
    have hs2 : sz + 3 ≤ Bn := by omega
    refine' wpIn_rangeFunc_ownF (α := Fin n) rfl (by omega) (gf := 69) (lb := #[.pointer (some ⟨Bn, 0, none⟩)]) rfl trivial (enters_of Try.func69 (by kernel_rfl) rfl)
      (parts_stops 4 Bn sz (by omega) (F := fun g => g < sz) (fun g hg => hg) W3 c0 c1 hx3 hk3) (fun h k => h.trans k) (kpb_b (by omega) (by omega)) (Below.refl _ _) (fun _ => rfl)
      (fun pre W => (Bx W (sz + 2) (.int .i64 (c.part p (pre.map Fin.val))) ∧ Bx W (sz + 1) (.slice A na ca) ∧ W.cell? ⟨sz, 2, none⟩ = some (.int .i64 bd)) ∧ Below sz w W)
      (fun _ _ _ => False)
      (OwnFrom.and (Own.from (fun s A B row hs hg hr => ⟨hs.1.kept hg hr, hs.2.1.kept hg hr, cell_kept hs.2.2 hg hr⟩) _) (ownFrom_below (by omega) (by omega)))
      (fun _ _ _ _ _ hs _ _ => hs)
      ⟨⟨g2, g1, f2⟩, hB3⟩ _ ?assign ?body ?done ?stop
    case assign =>
      intro l x W K hK
      gi_wp2
      exact hK
    case body =>
      rintro l pre x W ⟨⟨e2, e1, d2⟩, hB⟩ hpre
      have hps := c.part_snoc p (pre.map Fin.val) x.val
      have hmp : (pre ++ [x]).map Fin.val = pre.map Fin.val ++ [x.val] := by simp
      rw [← hmp] at hps
      obtain ⟨p1, p2⟩ := c.part_bounds hk0 p (pre.map Fin.val) (fun j hj => by
        obtain ⟨y, _, rfl⟩ := List.mem_map.1 hj
        have := y.isLt
        omega)
      rw [List.length_map] at p2
      obtain ⟨l1, l2, l3⟩ := hk0.lit x.val (by have := x.isLt; omega)
      obtain ⟨q1, q2⟩ := hk0.coef x.val (by have := x.isLt; omega)
      have hfew := hk0.few
      have hhigh := hk0.high
      obtain ⟨S, hS⟩ : ∃ S, c.part p (pre.map Fin.val) = S := ⟨_, rfl⟩
      obtain ⟨li, hli⟩ : ∃ l, nth c.lits x.val = l := ⟨_, rfl⟩
      obtain ⟨ki, hki⟩ : ∃ l, nth c.coefs x.val = l := ⟨_, rfl⟩
      rw [hS] at e2 hps p1 p2
      rw [hli] at l1 l2 l3 hps ⊢
      rw [hki] at q1 q2 hps ⊢
      have hw : IntKind.i64.wrap (S + ki) = S + ki := iw' (by omega) (by omega)
      rw [hpl] at hps
      have Hps := hid hps
      have HB := hid hB
      have haw := ha2.below (hsz ▸ hB : Below w.heap.size w W)
      have e1c := e1.1
      have e2c := e2.1
      have e2f := e2.2
      clear hps hmp hS hli hki hB
      obtain ⟨y, hy⟩ : ∃ y, valB av li = y := ⟨_, rfl⟩
      have Hy := hid hy
      clear hy
      by_cases hp0 : 0 < y
      · have hp1 : decide (0 < y) = true := by simpa using hp0
        gi_wp2_with (refine ⟨trivial, ?_⟩; gi_at_call 54; refine (CallsIn.inRound l (callsIn_wide.2 (pval_any haw l1 l2 l3))).mono ?_; rw [Hy.out]; rintro r w4 ⟨rfl, rfl⟩)
        exact ⟨KeepsOthers.setCell _ _ _, (KpB.refl _ _ _).set (Nat.le_add_right _ _) (by omega) _, ⟨by rw [Hps.out, Hy.out, if_pos hp1]; exact Bx.put e2 _, Bx.far e1 (by omega) _, cell_set_far d2 (by omega) _⟩, HB.out.setCell (p := ⟨sz + 2, 0, none⟩) (Nat.le_add_right _ _) _⟩
      · have hp1 : decide (0 < y) = false := by simpa using hp0
        gi_wp2_with (refine ⟨trivial, ?_⟩; gi_at_call 54; refine (CallsIn.inRound l (callsIn_wide.2 (pval_any haw l1 l2 l3))).mono ?_; rw [Hy.out]; rintro r w4 ⟨rfl, rfl⟩)
        exact ⟨KeepsOthers.refl _, KpB.refl _ _ _, ⟨by rw [Hps.out, Hy.out, hp1, if_neg (by simp), Int.add_zero]; exact e2, e1, d2⟩, HB.out⟩
    case done =>
      rintro D ys W hD hys ⟨⟨e2, e1, d2⟩, hB⟩ hK
      unfold SomeOf at hys
      rw [hys, ← hxl] at e2
      obtain ⟨S, hS⟩ : ∃ S, c.part p (List.range c.lits.length) = S := ⟨_, rfl⟩
      rw [hS] at e2
      have hres : c.holdsB av = decide (bd ≤ S) := by
        unfold Pb.holdsB Pb.total
        rw [hok, hbd, ← hp, hS]
        rfl
      have e2c := e2.1
      have Hres := hid hres
      clear hres hok
      gi_wp2
      refine ⟨by simp, .inl ⟨_, _, rfl, run_takeDeferred hK, ?_⟩⟩
      exact ⟨_, results_tmp rfl _ _ _, by rw [Hres.out]; rfl, by (try rw [hsz]); exact hB.trans (belowK_b (w := w) (by omega) W D _ _ (by omega) hK rfl rfl)⟩
    case stop =>
      rintro D co pre W _ _ h _
      exact h.elim
  · have hok' : c.ok = false := by simpa using hok
    have hres : c.holdsB av = false := by unfold Pb.holdsB; rw [hok']; rfl
    rw [hok']
    have Hres := hid hres
    clear hres hok hok'
    gi_wp2_with fail
    exact ⟨_, results_tmp rfl _ _ _, by rw [Hres.out]; rfl, by (try rw [hsz]); exact hB2⟩
end
end Go.Proofs.Ytofobmgmgipomaa
