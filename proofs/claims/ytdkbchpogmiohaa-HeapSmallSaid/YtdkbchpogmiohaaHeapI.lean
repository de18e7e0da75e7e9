/-
  The activity order: push, the second closure of Next.
-/
import Derived.Test.YtdkbchpogmiohaaHeapH
namespace Go.Proofs.Ytdkbchpogmiohaa
open Go.RowKit

/-- Positions of a heap of n. -/
def InPos (n : Nat) (xs : List Int) : Prop := ∀ x ∈ xs, 0 ≤ x ∧ x < n
theorem InPos.nat {n : Nat} {xs : List Int} (e : InPos n xs) {k : Nat} (hk : k < xs.length) : ∃ p : Nat, nth xs k = p ∧ p < n := by
  have := e _ (nth_mem hk)
  exact ⟨(nth xs k).toNat, by omega, by omega⟩
theorem InPos.perm {n : Nat} {xs ys : List Int} (e : InPos n xs) (hp : ys.Perm xs) : InPos n ys := fun x hx => e x (hp.mem_iff.1 hx)
section
variable {w w' : World} {F G : Nat → Prop} {b ga gh gp n np q q0 q3 : Nat} {acts : List Int} {inc : Int} {heap pos : List Int} {A : Option Addr} {m c : Nat} {xs : List Int}
theorem OpenAt.stored {g j : Nat} {x : Int} (e : OpenAt w F q (some ⟨g, 0, none⟩) m c xs) (hj : j < m) : OpenAt (w.setCell ⟨g, j, none⟩ (.int .i64 x)) F q (some ⟨g, 0, none⟩) m c (xs.set j x) := by
  have hc : 0 < c := by
    obtain ⟨_, cap, he, hn, _, _⟩ := e.own.form
    injection he with _ _ he
    omega
  have hne : q ≠ g := fun he => e.apart ⟨hc, he.symm⟩
  refine { e with
    blk := (Below.heap_setCell w _ _ q hne).trans e.blk
    own := ?_ }
  rw [ints_set]
  exact e.own.stored _
theorem OpenAt.swapped {g i k : Nat} (e : OpenAt w F q (some ⟨g, 0, none⟩) m c xs) (hi : i < m) (hk : k < m) {x y : Int} (hx : nth xs i = x) (hy : nth xs k = y) :
    OpenAt ((w.setCell ⟨g, i, none⟩ (.int .i64 y)).setCell ⟨g, k, none⟩ (.int .i64 x)) F q (some ⟨g, 0, none⟩) m c (swp xs i k) := by
  have := (e.stored (x := y) hi).stored (x := x) hk
  unfold swp
  rw [hx, hy]
  exact this

theorem OpenAt.pushed {Av : Option Addr} {cv : Nat} {w3 : World} {p : Int} (e : OpenAt w G q A m c xs) (hG : ∀ g, w.heap.size ≤ g → G g)
    (ho3 : Own w3 (fun b => G b ∨ (w.alloc (.cells #[.int .i64 p] 3)).heap.size ≤ b) 3 1 (.slice Av (m + 1) cv) (m + 1) (ints xs ++ [.int .i64 p]))
    (hm3 : Mod (row (.slice A m c)) (w.alloc (.cells #[.int .i64 p] 3)) w3) (hr3 : ∀ b, row (.slice Av (m + 1) cv) b → row (.slice A m c) b ∨ (w.alloc (.cells #[.int .i64 p] 3)).heap.size ≤ b) :
    OpenAt (w3.setCell ⟨q, 0, none⟩ (.slice Av (m + 1) cv)) G q Av (m + 1) cv (xs ++ [p]) ∧ Mod G w (w3.setCell ⟨q, 0, none⟩ (.slice Av (m + 1) cv)) := by
  have qlt := lt_of_block e.blk
  have hsz : (w.alloc (.cells #[.int .i64 p] 3)).heap.size = w.heap.size + 1 := by simp
  have hb3 := (hm3.block q (by omega) e.apart).trans ((World.heap_alloc_ne w _ q (by omega)).trans e.blk)
  have hap : ¬ row (.slice Av (m + 1) cv) q := fun hr => by
    rcases hr3 q hr with h | h
    · exact e.apart h
    · omega
  have hM : Mod G w (w3.setCell ⟨q, 0, none⟩ (.slice Av (m + 1) cv)) := by
    refine Mod.setCell ?_ (.inl e.hq) _
    refine ((Mod.refl G w).alloc _).trans (hm3.mono fun g _ hg => .inl (e.own.row hg).1)
  refine ⟨{ hq := e.hq, blk := ?_, own := ?_, apart := hap }, hM⟩
  · rw [heap_setCell_same w3 q 0 _ _ _ hb3]; simp
  · have : ints (xs ++ [p]) = ints xs ++ [.int .i64 p] := by simp [ints]
    rw [this]
    refine (ho3.keep (w' := w3.setCell ⟨q, 0, none⟩ (.slice Av (m + 1) cv)) fun g hg hr _ => Below.heap_setCell w3 _ _ g fun e => hap (by have e : g = q := e; rw [← e]; exact hr)).mono fun g _ _ hg => ?_
    rcases hg with hg | hg
    · exact hg
    · exact hG g (by omega)
theorem OpenAt.mono' (e : OpenAt w F q A m c xs) (hFG : ∀ g, F g → G g) : OpenAt w G q A m c xs := { e with hq := hFG _ e.hq, own := e.own.mono fun g _ _ hg => hFG g hg }
theorem append_last {xs : List Int} {p : Int} : nth (xs ++ [p]) xs.length = p := by simp [nth]
theorem append_front {xs : List Int} {p : Int} {k : Nat} (hk : k < xs.length) : nth (xs ++ [p]) k = nth xs k := by simp [nth, List.getElem?_append_left hk]

/-- What a push hands on. -/
structure Pushed (w w' : World) (G : Nat → Prop) (q m : Nat) (acts heap xs : List Int) (p : Int) : Prop where
  ex : ∃ A c xs', OpenAt w' G q A (m + 1) c xs' ∧ xs'.Perm (xs ++ [p]) ∧ HeapTo acts (vs heap xs') (m + 1)
  mod : Mod G w w'

set_option maxRecDepth 100000 in
set_option maxHeartbeats 4000000 in
theorem npush_any (ho : OrdAt w F b ga gh gp n np acts inc heap pos) (hFG : ∀ g, F g → ¬ G g) (hG : ∀ g, w.heap.size ≤ g → G g) (hg0 : ¬ G q0) (hg3 : ¬ G q3)
    (hq : w.cell? ⟨q0, 0, none⟩ = some (.pointer (some ⟨b, 0, none⟩))) (hq3 : w.cell? ⟨q3, 0, none⟩ = some (.func (.func 34) #[] #[.pointer (some ⟨q0, 0, none⟩), .pointer (some ⟨q, 0, none⟩)]))
    (hx : OpenAt w G q A m c xs) (hin : InPos n xs) (hh : HeapTo acts (vs heap xs) m) {p : Nat} (hm : m ≤ 65536) (hp : p < n) :
    Calls Try.prog 36 #[.int .i64 p, .pointer (some ⟨q0, 0, none⟩), .pointer (some ⟨q, 0, none⟩), .pointer (some ⟨q3, 0, none⟩)] w fun r w' => r = .returned (.tuple #[]) ∧ Pushed w w' G q m acts heap xs p := by
  have c2 := ho.c2
  have d0 := hx.c0
  have hs := ho.small
  have hl := hx.len
  have z1 : (p : Int) < (n : Int) := by omega
  have q0lt := World.block_lt_of_cell? w _ hq
  have q3lt := World.block_lt_of_cell? w _ hq3
  have qlt := lt_of_block hx.blk
  have blt := lt_of_block ho.blk
  have Ho := hid ho
  have Hx := hid hx
  have Hin := hid hin
  have Hh := hid hh
  have Hl := hid hl
  have HFG := hid hFG
  have HG := hid hG
  have Hq := hid hq
  have Hq3 := hid hq3
  clear ho hx hin hh hl hFG hG
  go_enter Try.func36, Try.ntmps36
  go_wp2_with (at_builtin; refine wpList_append_ints rfl _ _ rfl (Hx.out.own.below ((Below.refl _ _).alloc (Nat.le_refl _) _)) (own_one w (.int .i64 p)).rd rfl rfl (by simp [Value.oneCell']) (by omega) ?_; intro Av cv w3 ho3 hm3 hr3; have hb3 := (hm3.block q (by simp; omega) Hx.out.apart).trans ((World.heap_alloc_ne w _ q (by omega)).trans Hx.out.blk); have d3 : w3.cell? ⟨q, 0, none⟩ = some (.slice A m c) := (cell_of_row w3 q 0 _ _ _ hb3).trans rfl; have f3 := frozen_of_row w3 q 0 _ _ hb3; clear hb3 d0)
  obtain ⟨O1, M1⟩ := Hx.out.pushed HG.out ho3 hm3 hr3
  generalize w3.setCell ⟨q, 0, none⟩ (.slice Av (m + 1) cv) = w4 at *
  have HO1 := hid O1
  have HM1 := hid M1
  clear O1 M1 ho3 hm3 hr3 d3 f3 c2 hq hq3
  have b0 : Hid (HeapBut acts (vs heap (xs ++ [(p : Int)])) (m + 1) m) := by
    have e1 : vs heap (xs ++ [(p : Int)]) = vs heap xs ++ [nth heap p] := by simp [vs]
    have lv : (vs heap xs).length = m := by rw [vs_length]; exact Hl.out
    have key : ∀ k, k < m → hat (vs heap xs ++ [nth heap p]) k = hat (vs heap xs) k := fun k hk => by
      unfold hat
      rw [append_front (by omega)]
    rw [e1]
    exact ⟨fun k h1 h2 h3 => by rw [key k (by omega), key _ (by omega)]; exact Hh.out k h1 (by omega), fun k h1 h2 h3 _ => by omega⟩
  have in0 : Hid (InPos n (xs ++ [(p : Int)])) := fun x hx => by
    rcases List.mem_append.1 hx with hx | hx
    · exact Hin.out x hx
    · have : x = p := by simpa using hx
      omega
  obtain ⟨mm, hmm⟩ : ∃ mm, m + 1 = mm := ⟨_, rfl⟩
  rw [hmm] at HO1 b0
  go_loopw [5] (fun iv W => ∃ (j : Nat) (ys : List Int), j < mm ∧ iv = .int .i64 j ∧ Hid (OpenAt W G q Av mm cv ys) ∧ Hid (ys.Perm (xs ++ [(p : Int)])) ∧ Hid (HeapBut acts (vs heap ys) mm j) ∧ Hid (Mod G w W)) (fun iv _ => (intOf iv).toNat)
  case atStart => exact ⟨m, xs ++ [(p : Int)], by omega, by simp, HO1, List.Perm.refl _, b0, HM1⟩
  case round =>
    obtain ⟨j, ys, hj, rfl, O, P, H, M⟩ := hrel
    have d3 : wr.cell? ⟨q3, 0, none⟩ = some (.func (.func 34) #[] #[.pointer (some ⟨q0, 0, none⟩), .pointer (some ⟨q, 0, none⟩)]) := (World.cell?_of_block (M.out.block q3 q3lt hg3)).trans Hq3.out
    rcases Nat.eq_zero_or_pos j with h0 | h0
    · subst h0
      go_wp2_with fail
      go_end0
      exact ⟨rfl, ⟨_, _, _, by rw [hmm]; exact O.out, P.out, by rw [hmm]; exact H.out.done (fun e => absurd e (by omega))⟩, M.out⟩
    · have Ow : Hid (OrdAt wr F b ga gh gp n np acts inc heap pos) := Ho.out.mod M.out fun g _ hF => HFG.out g hF
      have e0 := Hid.out (hid ((World.cell?_of_block (M.out.block q0 q0lt hg0)).trans Hq.out))
      have E0 := hid e0
      obtain ⟨k, hk⟩ : ∃ k, (j - 1) / 2 = k := ⟨_, rfl⟩
      have hkj : k < j := by omega
      have q1 : ((j : Int) - 1).tdiv 2 = (k : Int) := by rw [Int.tdiv_eq_ediv_of_nonneg (by omega)]; omega
      have q4 : IntKind.i64.wrap ((j : Int) - 1) = (j : Int) - 1 := iw (by omega) (by omega)
      have q5 : IntKind.i64.wrap (k : Int) = (k : Int) := iw (by omega) (by omega)
      have x1 : (j : Int) < (mm : Int) := by omega
      have x2 : (k : Int) < (mm : Int) := by omega
      have hl := O.out.len
      obtain ⟨pj, hpj, pjn⟩ := (in0.out.perm P.out).nat (k := j) (by omega)
      obtain ⟨pk, hpk, pkn⟩ := (in0.out.perm P.out).nat (k := k) (by omega)
      obtain ⟨g, he, Gg, _, e1, f1⟩ := O.out.own.cell (j := j) (by omega)
      have hAv := he
      obtain ⟨_, he, _, _, e2, f2⟩ := O.out.own.cell (j := k) (by omega)
      rw [hAv] at he
      injection he with he; injection he with he _ _; subst he
      rw [ints_nth (by omega), hpj] at e1
      rw [ints_nth (by omega), hpk] at e2
      have d0 := O.out.c0
      have hgq : g ≠ q := fun e => O.out.apart (by
        have hc : 0 < cv := by
          obtain ⟨_, cap, he, hn, _, _⟩ := O.out.own.form
          injection he with _ _ he
          omega
        rw [hAv]
        exact ⟨hc, e⟩)
      have Hpj := hid hpj
      have Hpk := hid hpk
      have Hl2 := hid hl
      have Hk := hid hk
      have Hmm := hid hmm
      have r1 : (g = q) = False := by simpa using hgq
      have r2 : (q = g) = False := by simpa using hgq.symm
      have Lc : Hid (∀ W, W = wr → Calls Try.prog 34 #[.int .i64 j, .int .i64 k, .pointer (some ⟨q0, 0, none⟩), .pointer (some ⟨q, 0, none⟩)] W fun r w' => r = .returned (.bool (ahead acts (hat (vs heap ys) j) (hat (vs heap ys) k))) ∧ ∃ z, w' = W.drewN z) := fun W e => by
        subst e
        exact less_any Ow.out e0 O.out (by omega) (by omega) hpj hpk pjn pkn
      rw [hAv] at d0
      have HAv := hid hAv
      clear hAv hpj hpk hl hk hmm e0 he
      cases hah : ahead acts (hat (vs heap ys) j) (hat (vs heap ys) k) with
      | true =>
        go_wp2_with fail
        refine (Lc.out _ rfl).mono ?_
        rintro r w5 ⟨rfl, z, rfl⟩
        go_wp2_with fail
        go_region
        go_wp2_with fail
        go_roundw
        case rel =>
          have hAv := HAv.out
          subst hAv
          have S1 := (O.out.drewN z).swapped (i := j) (k := k) (by omega) (by omega) Hpj.out Hpk.out
          refine ⟨k, swp ys j k, by omega, rfl, hid (S1.keep fun _ _ _ => rfl), hid ((swp_perm (by have := Hl2.out; omega) (by have := Hl2.out; omega)).trans P.out), hid ?_, hid ((((M.out.drewN z).setCell (p := ⟨g, j, none⟩) (.inl Gg) _).setCell (p := ⟨g, k, none⟩) (.inl Gg) _).drew)⟩
          rw [vs_swp (by have := Hl2.out; omega) (by have := Hl2.out; omega)]
          have := H.out.swap h0 hj (by rw [vs_length]; have := Hl2.out; omega) (by rw [Hk.out]; exact hah)
          rwa [Hk.out] at this
        case measure => simp [intOf]; omega
      | false =>
        go_wp2_with fail
        refine (Lc.out _ rfl).mono ?_
        rintro r w5 ⟨rfl, z, rfl⟩
        go_wp2_with fail
        go_end0
        exact ⟨rfl, ⟨_, _, _, by rw [Hmm.out]; exact O.out.drewN z, P.out, by rw [Hmm.out]; exact H.out.done (fun _ => by rw [Hk.out]; exact hah)⟩, M.out.drewN z⟩
theorem npush_out (ho : OrdAt w F b ga gh gp n np acts inc heap pos) (hq : w.cell? ⟨q0, 0, none⟩ = some (.pointer (some ⟨b, 0, none⟩))) {p : Nat} (hp : n ≤ p) :
    Calls Try.prog 36 #[.int .i64 p, .pointer (some ⟨q0, 0, none⟩), .pointer (some ⟨q, 0, none⟩), .pointer (some ⟨q3, 0, none⟩)] w fun r w' => r = .returned (.tuple #[]) ∧ w' = w := by
  have c2 := ho.c2
  have z1 : (n : Int) ≤ (p : Int) := by omega
  clear ho
  go_enter Try.func36, Try.ntmps36
  go_wp2_with fail
  refine bodyPost_ret (results_none rfl _ _ _) rfl ?_
  exact ⟨rfl, rfl⟩
end
end Go.Proofs.Ytdkbchpogmiohaa
