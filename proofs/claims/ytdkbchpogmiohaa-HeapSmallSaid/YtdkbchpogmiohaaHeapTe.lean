/-
  The statement HeapSmall.
-/
import Derived.Test.YtdkbchpogmiohaaHeapTd
import Derived.Test.YtdkbchpogmiohaaHeapP
namespace Go.Proofs.Ytdkbchpogmiohaa
open Go.RowKit

/-! ### slices of operations -/
theorem info_dd : (Try.prog.info? 57).map (fun i => (i.zero, i.size, i.bytes)) = some (some (.agg #[.int .u8 0, .int .i64 0]), 2, 16) := by kernel_rfl
def dcells (os : List Dd) : List Value := os.flatMap fun x => [.int .u8 x.kind, .int .i64 x.n]
theorem dcells_length (os : List Dd) : (dcells os).length = os.length * 2 := by
  induction os with
  | nil => rfl
  | cons x os ih => simp only [dcells, List.flatMap_cons, List.length_append, List.length_cons, List.length_nil] at ih ⊢; omega
theorem dcells_append (xs ys : List Dd) : dcells (xs ++ ys) = dcells xs ++ dcells ys := by simp [dcells]
theorem dcells_one (os : List Dd) : ∀ u ∈ dcells os, u.oneCell' = true := by
  intro u hu
  simp only [dcells, List.mem_flatMap] at hu
  obtain ⟨x, _, hx⟩ := hu
  simp only [List.mem_cons, List.not_mem_nil, or_false] at hx
  rcases hx with rfl | rfl <;> rfl
theorem dcells_get : ∀ (os : List Dd) (i : Nat) (x : Dd), os[i]? = some x → (dcells os)[i * 2]? = some (.int .u8 x.kind) ∧ (dcells os)[i * 2 + 1]? = some (.int .i64 x.n)
  | [], i, x, h => by simp at h
  | y :: os, 0, x, h => by
    simp only [List.getElem?_cons_zero, Option.some.injEq] at h
    subst h
    exact ⟨rfl, rfl⟩
  | y :: os, i + 1, x, h => by
    have := dcells_get os i x (by simpa using h)
    have e : dcells (y :: os) = [.int .u8 y.kind, .int .i64 y.n] ++ dcells os := rfl
    rw [e, List.getElem?_append_right (by simp; omega), List.getElem?_append_right (by simp; omega)]
    rw [show (i + 1) * 2 - [Value.int .u8 y.kind, Value.int .i64 y.n].length = i * 2 by simp; omega, show (i + 1) * 2 + 1 - [Value.int .u8 y.kind, Value.int .i64 y.n].length = i * 2 + 1 by simp; omega]
    exact this
/-- Operations that are in bounds, as a slice of one's own. -/
def DsOwn (W : World) (F : Nat → Prop) (v : Value) (os : List Dd) : Prop := Own W F 57 2 v os.length (dcells os) ∧ ∀ x ∈ os, x.ok
theorem DsOwn.rd {W : World} {F : Nat → Prop} {v : Value} {os : List Dd} (e : DsOwn W F v os) : DsRd W v os := by
  obtain ⟨A, cap, rfl, h1, h2, _⟩ := e.1.form
  refine ⟨A, cap, rfl, h1, h2, fun i x hx => ?_⟩
  have hi : i < os.length := (List.getElem?_eq_some_iff.1 hx).1
  obtain ⟨a, b⟩ := dcells_get os i x hx
  obtain ⟨g, rfl, _, hg, e0, _⟩ := e.1.cell (j := i * 2) (by omega)
  obtain ⟨_, he, _, _, e1, _⟩ := e.1.cell (j := i * 2 + 1) (by omega)
  injection he with he; injection he with he _ _; subst he
  exact ⟨g, 0, rfl, hg, by rw [Nat.zero_add, e0, a], by rw [Nat.zero_add, e1, b], e.2 x (List.mem_of_getElem? hx)⟩
theorem DsOwn.below {W W' : World} {F : Nat → Prop} {v : Value} {os : List Dd} (e : DsOwn W F v os) (hb : Below W.heap.size W W') : DsOwn W' F v os := ⟨e.1.below hb, e.2⟩
theorem wp_append_dd {o : Oper} {a : Act} {w : World} {K : Act → World → Prop} {Q : Exit → Act → World → Prop} (s x : Operand)
    (ho : o.op = .call { callee := .builtin .append, args := #[s, x], argTypes := #[45, 45] }) {F G : Nat → Prop} {v u : Value} {xs ys : List Dd}
    (hv : DsOwn w F v xs) (hu : DsOwn w G u ys) (hs : a.eval s = v) (hx : a.eval x = u) (hb : xs.length + ys.length ≤ 1000000)
    (hK : ∀ A c w', DsOwn w' (fun b => F b ∨ w.heap.size ≤ b) (.slice A (xs ++ ys).length c) (xs ++ ys) → Mod (row v) w w' → K (a.put o.dst (.slice A (xs ++ ys).length c)) w') : o.wp Try.prog a w K Q := by
  obtain ⟨i0, hi, hz0, hz1, hz2⟩ := info_parts info_dd
  obtain ⟨v', w', hr, h2, h3, h4⟩ := run_append_rd (P := Try.prog) 45 o.type i0 (.agg #[.int .u8 0, .int .i64 0]) 16 Try.underlying45 hi hz0 hz1 hz2 rfl (by decide) hv.1 hu.1.rd (dcells_one ys) (by unfold maxLen; omega) (by omega)
  unfold Oper.wp execOp
  simp only [ho, resolve, invoke, builtin, Sem.run_bind, Sem.run_pure, Result.andThen_ok, List.map_toArray, List.map_cons, List.map_nil, hs, hx, hr]
  obtain ⟨A, c, rfl, _⟩ := h2.form
  rw [← List.length_append, ← dcells_append] at h2
  have := hK A c w' ⟨h2, fun z hz => (List.mem_append.1 hz).elim (hv.2 z) (hu.2 z)⟩ h3
  rw [List.length_append] at this
  exact this
theorem wpList_append_dd {ops : Array Oper} {rest : List Oper} {o : Oper} {a : Act} {w : World} {Q : Exit → Act → World → Prop} (hgd : o.guard = none) (s x : Operand)
    (ho : o.op = .call { callee := .builtin .append, args := #[s, x], argTypes := #[45, 45] }) {F G : Nat → Prop} {v u : Value} {xs ys : List Dd}
    (hv : DsOwn w F v xs) (hu : DsOwn w G u ys) (hs : a.eval s = v) (hx : a.eval x = u) (hb : xs.length + ys.length ≤ 1000000)
    (hK : ∀ A c w', DsOwn w' (fun b => F b ∨ w.heap.size ≤ b) (.slice A (xs ++ ys).length c) (xs ++ ys) → Mod (row v) w w' → wpList Try.prog ops Q rest (a.put o.dst (.slice A (xs ++ ys).length c)) w') :
    wpList Try.prog ops Q (o :: rest) a w :=
  wpList_plain hgd fun _ hK' => wp_append_dd s x ho hv hu hs hx hb fun A c w' h2 h3 => hK' _ _ (hK A c w' h2 h3)
/-- A slice newly made. -/
theorem DsOwn.new (w : World) (os : List Dd) (h : ∀ x ∈ os, x.ok) (h0 : 0 < os.length) (hm : os.length ≤ 1000) (cs : Array Value) (hc : cs.toList = dcells os) : DsOwn (w.alloc (.cells cs 57)) (fun g => g = w.heap.size) (.slice (some ⟨w.heap.size, 0, none⟩) os.length os.length) os := by
  refine ⟨own_new w _ _ 2 os.length cs os.length (dcells os) (dcells_length os) h0 (Nat.le_refl _) (by unfold maxLen; omega) (by rw [← Array.length_toList, hc, dcells_length]) ?_ rfl, h⟩
  rw [hc]
  exact List.take_of_length_le (by rw [dcells_length]; omega)

theorem tmod_nat (n k : Nat) (K : Int) (hK : K = k) (hk : 0 < k) (hn : n ≤ 1000000) : ∃ a : Nat, (n : Int).tmod K = (a : Int) ∧ IntKind.i64.wrap (a : Int) = (a : Int) ∧ a < k ∧ a ≤ n := by
  have h1 := Nat.mod_le n k
  have h2 := Nat.mod_lt n hk
  have e : (n : Int).tmod K = ((n % k : Nat) : Int) := by rw [hK, Int.tmod_eq_emod_of_nonneg (by omega)]; rfl
  generalize n % k = a at *
  exact ⟨a, e, iw (by omega) (by omega), h2, h1⟩
theorem tdiv_nat (n k : Nat) (K : Int) (hK : K = k) (hn : n ≤ 1000000) : ∃ a : Nat, (n : Int).tdiv K = (a : Int) ∧ IntKind.i64.wrap (a : Int) = (a : Int) ∧ a ≤ n := by
  have h1 := Nat.div_le_self n k
  have e : (n : Int).tdiv K = ((n / k : Nat) : Int) := by rw [hK, Int.tdiv_eq_ediv_of_nonneg (by omega)]; rfl
  generalize n / k = a at *
  exact ⟨a, e, iw (by omega) (by omega), h1⟩

def szL : List Int := [-9223372036854775808, -1, 0, 1, 65536, 65537, 9223372036854775807]

set_option maxRecDepth 100000 in
set_option maxHeartbeats 4000000 in
theorem small_walk {w : World} : Calls Try.prog 10 #[] w fun r w' => r = .returned (.bool true) ∧ Below w.heap.size w w' := by
  obtain ⟨B, hB⟩ : ∃ B, w.heap.size = B := ⟨_, rfl⟩
  rw [hB]
  go_enter Try.func10, Try.ntmps10
  go_wp2_with fail
  go_loopw [1] (fun iv W => ∃ i : Int, -2 ≤ i ∧ i ≤ 5000 ∧ iv = .int .i64 i ∧ Hid (Below B w W)) (fun iv _ => 5002 - (intOf iv + 2).toNat)
  case atStart => exact ⟨-2, by omega, by omega, rfl, by rw [← hB]; exact Below.refl _ _⟩
  case round =>
    obtain ⟨i, i1, i2, rfl, B1⟩ := hrel
    have s1 := B1.out.size
    by_cases h1 : i < 5000
    · go_wp2_with fail
      refine (lubys_walk (i := i) (by unfold I64; omega)).mono ?_
      rintro r w1 ⟨rfl, b1⟩
      go_wp2_with fail
      go_roundw
      case rel => exact ⟨i + 1, by omega, by omega, by go_num, B1.out.trans (b1.mono (by omega))⟩
      case measure => simp [intOf]; omega
    · have h1 : (i < 5000) = False := by simp; omega
      go_wp2_with fail
      go_loopw [2] (fun nv W => ∃ n : Nat, n ≤ 729 ∧ nv = .int .i64 n ∧ Hid (Below B w W)) (fun nv _ => 729 - (intOf nv).toNat)
      case atStart => exact ⟨0, by omega, rfl, B1⟩
      case round =>
        obtain ⟨n, hn, rfl, B2⟩ := hrel
        have s2 := B2.out.size
        by_cases h2 : n < 729
        · have y0 : (n : Int) < 729 := by omega
          obtain ⟨a1, y1, z1, l1, _⟩ := tmod_nat n 6 6 rfl (by omega) (by omega)
          obtain ⟨a2, y2, z2, l2, _⟩ := tmod_nat n 9 9 rfl (by omega) (by omega)
          obtain ⟨q6, y3, z3, l3⟩ := tdiv_nat n 6 6 rfl (by omega)
          obtain ⟨a3, y4, z4, l4, _⟩ := tmod_nat q6 6 6 rfl (by omega) (by omega)
          obtain ⟨q3, y5, z5, l5⟩ := tdiv_nat n 3 3 rfl (by omega)
          obtain ⟨a4, y6, z6, l6, _⟩ := tmod_nat q3 6 6 rfl (by omega) (by omega)
          obtain ⟨a5, y7, z7, l7, _⟩ := tmod_nat n 4 4 rfl (by omega) (by omega)
          obtain ⟨a6, y8, z8, l8, _⟩ := tmod_nat n 8 8 rfl (by omega) (by omega)
          have x1 : IntKind.i64.wrap (1 + (a1 : Int)) = 1 + (a1 : Int) := iw (by omega) (by omega)
          have x3 : IntKind.i64.wrap (1 + (a3 : Int)) = 1 + (a3 : Int) := iw (by omega) (by omega)
          have x4 : IntKind.i64.wrap (1 + (a4 : Int)) = 1 + (a4 : Int) := iw (by omega) (by omega)
          have O3 : Hid (DsOwn (wr.alloc (.cells #[.int .u8 1, .int .i64 (1 + (a1 : Int)), .int .u8 0, .int .i64 (a2 : Int), .int .u8 1, .int .i64 (1 + (a3 : Int)), .int .u8 2, .int .i64 (1 + (a4 : Int))] 57)) (fun g => g = wr.heap.size) (.slice (some ⟨wr.heap.size, 0, none⟩) 4 4) [⟨1, 1 + (a1 : Int)⟩, ⟨0, (a2 : Int)⟩, ⟨1, 1 + (a3 : Int)⟩, ⟨2, 1 + (a4 : Int)⟩]) := by
            refine hid (DsOwn.new wr _ ?_ (by simp) (by simp) _ rfl)
            intro x hx
            simp only [List.mem_cons, List.not_mem_nil, or_false] at hx
            rcases hx with rfl | rfl | rfl | rfl <;> exact ⟨by dsimp only; omega, by unfold I64; dsimp only; omega⟩
          have B3 : Hid (Below B w (wr.alloc (.cells #[.int .u8 1, .int .i64 (1 + (a1 : Int)), .int .u8 0, .int .i64 (a2 : Int), .int .u8 1, .int .i64 (1 + (a3 : Int)), .int .u8 2, .int .i64 (1 + (a4 : Int))] 57))) := B2.out.alloc (by omega) _
          go_wp2_with fail
          generalize wr.alloc (.cells #[.int .u8 1, .int .i64 (1 + (a1 : Int)), .int .u8 0, .int .i64 (a2 : Int), .int .u8 1, .int .i64 (1 + (a3 : Int)), .int .u8 2, .int .i64 (1 + (a4 : Int))] 57) = w3 at *
          have O3 : Hid (DsOwn w3 (fun g => B ≤ g) (.slice (some ⟨wr.heap.size, 0, none⟩) 4 4) [⟨1, 1 + (a1 : Int)⟩, ⟨0, (a2 : Int)⟩, ⟨1, 1 + (a3 : Int)⟩, ⟨2, 1 + (a4 : Int)⟩]) := ⟨O3.out.1.mono fun g _ _ hg => by omega, O3.out.2⟩
          go_loopw [4, 5, 3] (fun vv xv lv W => ∃ (v x : Nat) (A : Option Addr) (c : Nat) (os : List Dd), 1 ≤ v ∧ v ≤ 7 ∧ x ≤ 729 ∧ os.length ≤ 3 + v ∧ vv = .int .i64 v ∧ xv = .int .i64 x ∧ lv = .slice A os.length c ∧ Hid (DsOwn W (fun g => B ≤ g) (.slice A os.length c) os) ∧ Hid (Below B w W)) (fun vv _ _ _ => 7 - (intOf vv).toNat)
          case atStart => exact ⟨1, n, _, 4, _, by omega, by omega, by omega, by simp, rfl, rfl, rfl, O3, B3⟩
          case round =>
            obtain ⟨v, x, A, c, os, v1, v7, xb, lb, rfl, rfl, rfl, O4, B4⟩ := hrel
            have s4 := B4.out.size
            by_cases hv : v ≤ 6
            · have x5 : (v : Int) ≤ 6 := by omega
              obtain ⟨d, y9, z9, l9, _⟩ := tmod_nat x 3 3 rfl (by omega) (by omega)
              obtain ⟨x', y10, z10, l10⟩ := tdiv_nat x 3 3 rfl (by omega)
              by_cases hd : 0 < d
              · have x6 : (0 : Int) < (d : Int) := by omega
                have x7 : IntKind.i64.wrap (2 * (d : Int)) = 2 * (d : Int) := iw (by omega) (by omega)
                have x8 : IntKind.i64.wrap (2 * (d : Int) - 3) = 2 * (d : Int) - 3 := iw (by omega) (by omega)
                obtain ⟨z, hz⟩ : ∃ z, (v : Int) * (2 * (d : Int) - 3) = z := ⟨_, rfl⟩
                have hzb : -6 ≤ z ∧ z ≤ 6 := by
                  rcases (by omega : d = 1 ∨ d = 2) with rfl | rfl <;> omega
                have x9 : IntKind.i64.wrap z = z := iw (by omega) (by omega)
                go_wp2_with (at_builtin; refine wpList_append_dd rfl _ _ rfl (O4.out.below ((Below.refl _ _).alloc (Nat.le_refl _) _)) (DsOwn.new wr [⟨3, z⟩] (fun x hx => by simp only [List.mem_cons, List.not_mem_nil, or_false] at hx; subst hx; exact ⟨by dsimp only; omega, by unfold I64; dsimp only; omega⟩) (by simp) (by simp) _ rfl) rfl rfl (by simp; omega) ?_; intro Av cv w5 ho5 hm5)
                go_roundw
                case rel => exact ⟨v + 1, x', Av, cv, os ++ [⟨3, z⟩], by omega, by omega, by omega, by rw [List.length_append, List.length_singleton]; omega, by go_num, by go_num, by simp, ⟨ho5.1.mono fun g _ _ hg => by simp at hg; omega, ho5.2⟩, (B4.out.alloc (by omega) _).trans ((hm5.mono (G := fun g => B ≤ g) fun g _ hg => (O4.out.1.row hg).1).base (by simp; omega))⟩
                case measure => simp [intOf]; omega
              · have x6 : ((0 : Int) < (d : Int)) = False := by simp; omega
                go_wp2_with fail
                go_roundw
                case rel => exact ⟨v + 1, x', A, c, os, by omega, by omega, by omega, by omega, by go_num, by go_num, by go_num, O4, B4⟩
                case measure => simp [intOf]; omega
            · have x5 : ((v : Int) ≤ 6) = False := by simp; omega
              go_wp2_with (at_builtin; refine wpList_append_dd rfl _ _ rfl (O4.out.below ((Below.refl _ _).alloc (Nat.le_refl _) _)) (DsOwn.new wr [⟨4, (a5 : Int)⟩, ⟨1, (a6 : Int)⟩] (fun x hx => by simp only [List.mem_cons, List.not_mem_nil, or_false] at hx; rcases hx with rfl | rfl <;> exact ⟨by dsimp only; omega, by unfold I64; dsimp only; omega⟩) (by simp) (by simp) _ rfl) rfl rfl (by simp; omega) ?_; intro Av cv w5 ho5 hm5)
              have B5 : Hid (Below B w w5) := (B4.out.alloc (by omega) _).trans ((hm5.mono (G := fun g => B ≤ g) fun g _ hg => (O4.out.1.row hg).1).base (by simp; omega))
              have s5 := B5.out.size
              have R5 := ho5.rd
              simp only [List.length_append, List.length_cons, List.length_nil, Nat.reduceAdd] at R5
              clear ho5 hm5
              refine (tells_walk (x := 6) R5).mono ?_
              rintro r w6 ⟨rfl, b6⟩
              go_wp2_with fail
              go_roundw
              case rel => exact ⟨n + 1, by omega, by go_num, B5.out.trans (b6.mono (by omega))⟩
              case measure => simp [intOf]; omega
        · have y0 : ((n : Int) < 729) = False := by simp; omega
          go_wp2_with fail
          go_loopw [7, 6] (fun kv lv W => ∃ (k : Nat) (A : Option Addr) (c : Nat) (os : List Dd), k ≤ 60 ∧ os.length ≤ 3 * k ∧ kv = .int .i64 k ∧ lv = .slice A os.length c ∧ Hid (DsOwn W (fun g => B ≤ g) (.slice A os.length c) os) ∧ Hid (Below B w W)) (fun kv _ _ => 60 - (intOf kv).toNat)
          case atStart => exact ⟨0, none, 0, [], by omega, by simp, rfl, rfl, ⟨Own.nil _ _ _ _, by simp⟩, B2⟩
          case round =>
            obtain ⟨k, A, c, os, hk, lb, rfl, rfl, O4, B4⟩ := hrel
            have s4 := B4.out.size
            by_cases hk6 : k < 60
            · have x5 : (k : Int) < 60 := by omega
              obtain ⟨a1, y1, z1, l1, _⟩ := tmod_nat k 3 3 rfl (by omega) (by omega)
              obtain ⟨a2, y2, z2, l2, _⟩ := tmod_nat k 2 2 rfl (by omega) (by omega)
              have x1 : IntKind.i64.wrap (1 + (a1 : Int)) = 1 + (a1 : Int) := iw (by omega) (by omega)
              have x2 : IntKind.i64.wrap (1 + (a2 : Int)) = 1 + (a2 : Int) := iw (by omega) (by omega)
              go_wp2_with (at_builtin; refine wpList_append_dd rfl _ _ rfl (O4.out.below ((Below.refl _ _).alloc (Nat.le_refl _) _)) (DsOwn.new wr [⟨0, 45⟩, ⟨1, 1 + (a1 : Int)⟩, ⟨1, 1 + (a2 : Int)⟩] (fun x hx => by simp only [List.mem_cons, List.not_mem_nil, or_false] at hx; rcases hx with rfl | rfl | rfl <;> exact ⟨by dsimp only; omega, by unfold I64; dsimp only; omega⟩) (by simp) (by simp) _ rfl) rfl rfl (by simp; omega) ?_; intro Av cv w5 ho5 hm5)
              go_roundw
              case rel => exact ⟨k + 1, Av, cv, _, by omega, by rw [List.length_append]; simp; omega, by go_num, by simp, ⟨ho5.1.mono fun g _ _ hg => by simp at hg; omega, ho5.2⟩, (B4.out.alloc (by omega) _).trans ((hm5.mono (G := fun g => B ≤ g) fun g _ hg => (O4.out.1.row hg).1).base (by simp; omega))⟩
              case measure => simp [intOf]; omega
            · have x5 : ((k : Int) < 60) = False := by simp; omega
              have cs : ∀ j, j < 7 → (wr.alloc (.cells #[.int .i64 (-9223372036854775808), .int .i64 (-1), .int .i64 0, .int .i64 1, .int .i64 65536, .int .i64 65537, .int .i64 9223372036854775807] 3)).cell? ⟨wr.heap.size, j, none⟩ = some (.int .i64 (nth szL j)) := fun j hj => by
                rw [cell_of_row _ wr.heap.size j _ _ _ (heap_alloc_new wr _)]
                rcases (by omega : j = 0 ∨ j = 1 ∨ j = 2 ∨ j = 3 ∨ j = 4 ∨ j = 5 ∨ j = 6) with rfl | rfl | rfl | rfl | rfl | rfl | rfl <;> rfl
              have O5 := hid (O4.out.below ((Below.refl _ _).alloc (Nat.le_refl _) (.cells #[.int .i64 (-9223372036854775808), .int .i64 (-1), .int .i64 0, .int .i64 1, .int .i64 65536, .int .i64 65537, .int .i64 9223372036854775807] 3)))
              have B5 : Hid (Below B w (wr.alloc (.cells #[.int .i64 (-9223372036854775808), .int .i64 (-1), .int .i64 0, .int .i64 1, .int .i64 65536, .int .i64 65537, .int .i64 9223372036854775807] 3))) := B4.out.alloc (by omega) _
              have hgs : wr.heap.size < (wr.alloc (.cells #[.int .i64 (-9223372036854775808), .int .i64 (-1), .int .i64 0, .int .i64 1, .int .i64 65536, .int .i64 65537, .int .i64 9223372036854775807] 3)).heap.size := by simp
              have Cs := hid cs
              clear cs O4 B4
              go_wp2_with fail
              generalize wr.alloc (.cells #[.int .i64 (-9223372036854775808), .int .i64 (-1), .int .i64 0, .int .i64 1, .int .i64 65536, .int .i64 65537, .int .i64 9223372036854775807] 3) = w5 at *
              generalize wr.heap.size = g at *
              go_loopw [9] (fun jv W => ∃ j : Nat, j ≤ 7 ∧ jv = .int .i64 j ∧ Hid (Below w5.heap.size w5 W)) (fun jv _ => 7 - (intOf jv).toNat)
              case atStart => exact ⟨0, by omega, rfl, Below.refl _ _⟩
              case round =>
                obtain ⟨j, hj, rfl, B6⟩ := hrel
                have s6 := B6.out.size
                by_cases hj7 : j < 7
                · have x6 : (j : Int) < 7 := by omega
                  obtain ⟨s, hs⟩ : ∃ s, nth szL j = s := ⟨_, rfl⟩
                  have c0 := (B6.out.cell (p := ⟨g, j, none⟩) hgs).trans (Cs.out j hj7)
                  rw [hs] at c0
                  clear hs
                  by_cases hs1 : s < 0
                  · have x7 : ((0 : Int) ≤ s) = False := by simp; omega
                    go_wp2_with fail
                    refine (onew_bad (.inl hs1)).mono ?_
                    rintro r w' ⟨rfl, rfl⟩
                    go_wp2_with fail
                    go_quiet (fail)
                    go_wp2_with fail
                    go_roundw
                    case rel => exact ⟨j + 1, by omega, by go_num, B6.out.trans (Below.drewsN _ _ _)⟩
                    case measure => simp [intOf]; omega
                  · by_cases hs2 : 65536 < s
                    · have x7 : (0 : Int) ≤ s := by omega
                      have x8 : (s ≤ 65536) = False := by simp; omega
                      go_wp2_with fail
                      refine (onew_bad (.inr hs2)).mono ?_
                      rintro r w' ⟨rfl, rfl⟩
                      go_wp2_with fail
                      go_quiet (fail)
                      go_wp2_with fail
                      go_roundw
                      case rel => exact ⟨j + 1, by omega, by go_num, B6.out.trans (Below.drewsN _ _ _)⟩
                      case measure => simp [intOf]; omega
                    · obtain ⟨n7, rfl⟩ : ∃ n : Nat, s = n := ⟨s.toNat, by omega⟩
                      have x7 : (0 : Int) ≤ (n7 : Int) := by omega
                      have x8 : (n7 : Int) ≤ 65536 := by omega
                      have x9 : n7 ≤ 65536 := by omega
                      clear hs1 hs2
                      go_wp2_with fail
                      refine (onew_any x9).mono ?_
                      rintro r w7 ⟨b, rfl, o7, b7⟩
                      have B7 : Hid (Below w5.heap.size w5 w7) := B6.out.trans (b7.mono s6)
                      have c1 := (b7.cell (p := ⟨g, j, none⟩) (by show g < wr.heap.size; omega)).trans c0
                      have Lq : Hid (∀ q, Calls Try.prog 20 #[.pointer (some ⟨b, 0, none⟩)] (w7.drewN q) fun e w'' => e = .returned (.int .i64 n7) ∧ ∃ m, w'' = w7.drewN m) := fun q => by
                        obtain ⟨wf, ga, gh, gp, np, heap, pos, O, H⟩ := o7.drews q
                        exact Calls.quiet_of_same (len_any O (by have := wf.inc1; omega))
                      clear o7 b7 c0
                      go_wp2_with fail
                      go_quiet (first | (go_at_call 20; exact Lq.out _))
                      go_wp2_with fail
                      go_roundw
                      case rel => exact ⟨j + 1, by omega, by go_num, B7.out.trans (Below.drewsN _ _ _)⟩
                      case measure => simp [intOf]; omega
                · have x6 : ((j : Int) < 7) = False := by simp; omega
                  have R6 := (O5.out.below B6.out).rd
                  have B7 : Hid (Below B w wr) := B5.out.trans (B6.out.mono (by have := B5.out.size; omega))
                  have s7 := B7.out.size
                  go_wp2_with fail
                  refine (tells_walk (x := 5) R6).mono ?_
                  rintro r w8 ⟨rfl, b8⟩
                  have B8 : Hid (Below B w w8) := B7.out.trans (b8.mono (by omega))
                  have s8 := B8.out.size
                  have R8 := (DsOwn.new w8 [⟨1, 1⟩, ⟨3, 1⟩] (fun x hx => by simp only [List.mem_cons, List.not_mem_nil, or_false] at hx; rcases hx with rfl | rfl <;> exact ⟨by dsimp only; omega, by unfold I64; dsimp only; omega⟩) (by simp) (by simp) #[.int .u8 1, .int .i64 1, .int .u8 3, .int .i64 1] rfl).rd
                  have B9 := hid (B8.out.alloc (by omega) (.cells #[.int .u8 1, .int .i64 1, .int .u8 3, .int .i64 1] 57))
                  have s9 := B9.out.size
                  clear b8
                  go_wp2_with fail
                  refine (tells_walk (x := 0) R8).mono ?_
                  rintro r w10 ⟨rfl, b10⟩
                  have B10 : Hid (Below B w w10) := B9.out.trans (b10.mono (by omega))
                  have s10 := B10.out.size
                  clear b10
                  go_wp2_with fail
                  refine awake_any.mono ?_
                  rintro r w11 ⟨rfl, b11⟩
                  go_wp2_with fail
                  go_ret
                  exact ⟨rfl, B10.out.trans (b11.mono (by omega))⟩
end Go.Proofs.Ytdkbchpogmiohaa
