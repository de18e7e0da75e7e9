/-
  Pick; no trail; the conflicts of chapter 30's laws.
-/
import Derived.Test.YtanhacdadgbjdaaLnJ
import Derived.Test.YtanhacdadgbjdaaLnB
namespace Go.Proofs.Ytanhacdadgbjdaa
open Go.RowKit

set_option maxRecDepth 100000 in
set_option maxHeartbeats 4000000 in
theorem pick_any {w : World} {x : Int} {n : Nat} (_hx : I64 x) (h0 : 0 < n) (h1 : n ≤ 1000000) :
    Calls Try.prog 24 #[.int .i64 x, .int .i64 n] w fun r w' => (∃ k : Nat, r = .returned (.int .i64 k) ∧ k < n) ∧ w' = w := by
  have h2 := Int.tmod_lt_of_pos x (b := n) (by omega)
  have h3 := Int.lt_tmod_of_pos x (b := n) (by omega)
  obtain ⟨m, hm⟩ : ∃ m, x.tmod n = m := ⟨_, rfl⟩
  rw [hm] at h2 h3
  have e1 : IntKind.i64.wrap m = m := iw' (by omega) (by omega)
  have e2 : IntKind.i64.wrap (m + n) = m + n := iw' (by omega) (by omega)
  have x1 : ((n : Int) < 1) = False := by simp; omega
  have x2 : ((n : Int) = 0) = False := by simp; omega
  have x3 : (n = 0) = False := by simp; omega
  by_cases h : m < 0
  · obtain ⟨k, hk⟩ : ∃ k : Nat, m + n = k := ⟨(m + n).toNat, by omega⟩
    rw [hk] at e2
    go_enter Try.func24, Try.ntmps24
    go_wp2_with fail
    go_ret
    exact ⟨⟨k, rfl, by omega⟩, rfl⟩
  · obtain ⟨k, rfl⟩ : ∃ k : Nat, m = k := ⟨m.toNat, by omega⟩
    have x4 : ((k : Int) < 0) = False := by simp
    clear h
    go_enter Try.func24, Try.ntmps24
    go_wp2_with fail
    go_ret
    exact ⟨⟨k, rfl, by omega⟩, rfl⟩

/-- No trail there: the nil pointer, or a trail that New did not return. -/
def NoTrail (w : World) (p : Option Addr) : Prop := p = none ∨ ∃ b, p = some ⟨b, 0, none⟩ ∧ w.cell? ⟨b, 1, none⟩ = some (.map none)
section
variable {w : World} {p : Option Addr}
theorem NoTrail.below {w' : World} (h : NoTrail w p) (hb : Below w.heap.size w w') : NoTrail w' p := by
  rcases h with rfl | ⟨b, rfl, hc⟩
  · exact .inl rfl
  · exact .inr ⟨b, rfl, (hb.cell (p := ⟨b, 1, none⟩) (World.block_lt_of_cell? w _ hc)).trans hc⟩
set_option maxRecDepth 100000 in
set_option maxHeartbeats 400000 in
theorem none_dead (h : NoTrail w p) : Calls Try.prog 29 #[.pointer p] w fun e w' => e = .returned (.bool true) ∧ w = w' := by
  rcases h with rfl | ⟨b, rfl, hc⟩
  · exact none_nil
  · go_enter Try.func29, Try.ntmps29
    go_wp2
    go_ret
    exact ⟨rfl, rfl⟩
set_option maxRecDepth 100000 in
set_option maxHeartbeats 400000 in
theorem decide_dead (h : NoTrail w p) {l : Int} : Calls Try.prog 23 #[.pointer p, .int .i64 l] w fun r w' => r = .returned (.int .i64 1) ∧ w = w' := by
  have h' := hid h
  clear h
  go_enter Try.func23, Try.ntmps23
  go_wp2_with (go_at_call 29; refine (none_dead h'.out).mono ?_; rintro r w1 ⟨rfl, rfl⟩)
  all_goals (go_ret; exact ⟨rfl, rfl⟩)
set_option maxRecDepth 100000 in
set_option maxHeartbeats 400000 in
theorem learn_dead (h : NoTrail w p) {v : Value} : Calls Try.prog 10 #[.pointer p, v] w fun r w' => r = .returned (.tuple #[.slice none 0 0, .int .i64 0, .int .i64 1]) ∧ w = w' := by
  have h' := hid h
  clear h
  go_enter Try.func10, Try.ntmps10
  go_wp2_with fail
  refine (decide_dead h'.out).mono ?_
  rintro r w1 ⟨rfl, rfl⟩
  go_wp2_with fail
  go_ret3
  exact ⟨rfl, rfl⟩
end

set_option maxRecDepth 100000 in
set_option maxHeartbeats 4000000 in
/-- A conflict: negations of literals of the trail. -/
theorem clause_any {w : World} {Ft G : Nat → Prop} {tb n c : Nat} {R : Option Addr} {T : Tr} {fs : List Int} (ht : Trail w Ft tb T) (hv : T.vars ≤ 1000) (hr : Rd w G 1 (.slice R n c) n (ints fs)) (hi : ∀ x ∈ fs, I64 x) (hn : n ≤ 100) :
    Calls Try.prog 9 #[.pointer (some ⟨tb, 0, none⟩), .slice R n c] w fun r w' => (∃ cs R' c', r = .returned (.slice R' cs.length c') ∧ Own w' (fun g => w.heap.size ≤ g) 3 1 (.slice R' cs.length c') cs.length (ints cs) ∧ (∀ x ∈ cs, -x ∈ T.lits) ∧ cs.length ≤ 100) ∧ Below w.heap.size w w' := by
  have hln : fs.length = n := by have := hr.1; simpa [ints_length] using this
  have hncap : (n : Int) ≤ (c : Int) := by
    obtain ⟨_, A2, c2, hv2, h2, _⟩ := hr
    injection hv2 with _ _ h3
    omega
  have htl : T.lits.length ≤ 1000 := by
    have := ht.wf.len
    simp [Tr.lits]
    omega
  have Ht := hid ht
  have Hwf := hid ht.wf
  have Hr := hid hr
  have Hi := hid hi
  have Hln := hid hln
  have hll : Hid (T.lits.length = T.L.length) := hid (by simp [Tr.lits])
  obtain ⟨m, hm⟩ : ∃ m, T.L.length = m := ⟨_, rfl⟩
  have hmm : m ≤ 1000 := by have := hll.out; omega
  have Hm := hid hm
  clear ht hr hi hln htl hm
  go_enter Try.func9, Try.ntmps9
  go_wp2_with fail
  refine (lits_any Ht.out).mono ?_
  rintro r w1 ⟨⟨u, rfl, hu⟩, b1⟩
  rw [Hm.out] at hu
  obtain ⟨A', c', rfl, _⟩ := hu.form
  have hmc : (m : Int) ≤ (c' : Int) := by
    obtain ⟨_, A2, c2, hv2, h2, _⟩ := hu.rd
    injection hv2 with _ _ h3
    omega
  have B1 := hid b1
  have s1 := b1.size
  have Hu := hid hu.rd
  clear hu b1
  go_wp2_with fail
  go_loopw [6, 7] (fun xv jv W => ∃ (j : Nat) (xs : List Int) (X : Option Addr) (cx : Nat), j ≤ n ∧ jv = .int .i64 j ∧ xv = .slice X xs.length cx ∧ Hid (xs.length = j) ∧ Hid (Own W (fun g => w1.heap.size ≤ g) 3 1 (.slice X xs.length cx) xs.length (ints xs)) ∧ Hid (∀ x ∈ xs, -x ∈ T.lits) ∧ Hid (Below w1.heap.size w1 W)) (fun _ jv _ => n - (intOf jv).toNat)
  case atStart => exact ⟨0, [], none, 0, by omega, rfl, rfl, rfl, Own.nil _ _ _ _, fun x hx => by simp at hx, Below.refl _ _⟩
  case round =>
    obtain ⟨j, xs, X, cx, hj, rfl, rfl, hxl, Ho, Hx, B2⟩ := hrel
    have hsz := B2.out.size
    by_cases hlt : j < n
    · have x1 : (j : Int) < (n : Int) := by omega
      by_cases hm0 : 0 < m
      · have x2 : (0 : Int) < (m : Int) := by omega
        obtain ⟨l, hlj⟩ : ∃ l, nth fs j = l := ⟨_, rfl⟩
        have hIl : I64 l := by rw [← hlj]; exact Hi.out _ (nth_mem (by have := Hln.out; omega))
        obtain ⟨g, o, rfl, hg, _, e0⟩ := ((Hr.out.below B1.out).below B2.out).cell.2 j hlt
        rw [hlj] at e0
        clear hlj
        go_wp2_with fail
        refine (pick_any hIl hm0 (by omega)).mono ?_
        rintro r w2 ⟨⟨k, rfl, hk⟩, rfl⟩
        obtain ⟨g', o', rfl, hg', _, e1⟩ := (Hu.out.below B2.out).cell.2 k hk
        have hkl : k < T.lits.length := by have := hll.out; have := Hm.out; omega
        obtain ⟨l2, hl2⟩ : ∃ l2, nth T.lits k = l2 := ⟨_, rfl⟩
        have hmem : l2 ∈ T.lits := by rw [← hl2]; exact nth_mem hkl
        rw [hl2] at e1
        obtain ⟨hb1, hb2⟩ := lits_small Hwf.out hmem
        have hwn : IntKind.i64.wrap (-l2) = -l2 := iw' (by omega) (by omega)
        have xk : (k : Int) < (m : Int) := by omega
        have Hmem := hid hmem
        clear hl2 hmem hkl
        go_wp2_with (at_builtin; refine wpList_append_ints rfl _ _ rfl (Ho.out.below ((Below.refl _ _).alloc (Nat.le_refl _) _)) (own_one w2 (.int .i64 (-l2))).rd rfl rfl (by simp [Value.oneCell']) (by have := hxl.out; omega) ?_; intro Av cv w3 ho3 hm3 hr3)
        have B3 : Hid (Below w1.heap.size w1 w3) := hid (below_mod (Bl.alloc B2.out) (by simp; omega) hm3 fun g hg => (Ho.out.row hg).1)
        go_roundw
        case rel =>
          refine ⟨j + 1, xs ++ [-l2], Av, cv, by omega, by go_num, by simp, hid (by have := hxl.out; simp; omega), ?_, ?_, B3⟩
          · rw [ints_append, List.length_append]
            exact ho3.mono fun g _ _ hg => hg.elim id fun hg => by simp at hg; omega
          · intro z hz
            rcases List.mem_append.1 hz with hz | hz
            · exact Hx.out z hz
            · rw [List.mem_singleton.1 hz, Int.neg_neg]; exact Hmem.out
        case measure => simp [intOf]; omega
      · have x2 : ((0 : Int) < (m : Int)) = False := by simp; omega
        go_wp2_with fail
        go_ret
        exact ⟨⟨xs, X, cx, rfl, Ho.out.mono fun g _ _ hg => by omega, Hx.out, by have := hxl.out; omega⟩, B1.out.trans (B2.out.mono (by omega))⟩
    · have x1 : ((j : Int) < (n : Int)) = False := by simp; omega
      go_wp2_with fail
      go_ret
      exact ⟨⟨xs, X, cx, rfl, Ho.out.mono fun g _ _ hg => by omega, Hx.out, by have := hxl.out; omega⟩, B1.out.trans (B2.out.mono (by omega))⟩
end Go.Proofs.Ytanhacdadgbjdaa
