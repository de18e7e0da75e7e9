/-
  The analysis: later; the closure that the sort calls.
-/
import Derived.Test.YtanhacdadgbjdaaLnSort
import Derived.BigRegion
namespace Go.Proofs.Ytanhacdadgbjdaa
open Go.RowKit Go.Maps

theorem pos_look {W : World} {ma nm : Nat} {T : Tr} (h : PosIs W ma nm T) {m : Int} (hm : m ∈ T.lits) (hb : I64 ((m.natAbs : Nat) : Int)) (q : Nat) :
    (Instr.lookup 69 (.map (some ma)) (.int .i64 (m.natAbs : Nat)) false).run Try.prog (W.drewN q) = .ok (.int .i64 (T.pos m)) (W.drewN q) := by
  obtain ⟨D, hown, hD⟩ := h
  have hown' : (W.drewN q).ownsMap Try.prog 3 (plainElem Try.prog 3) ma nm D := hown
  obtain ⟨c, hrun, hat, _⟩ := hown'.lookup_int keyed_int Try.underlying69 Try.underlying3 (zero_num _) (key_num hb)
  rw [hD m hm] at hat
  injection hat with hat
  injection hat with _ hat
  rw [hat]
  exact hrun

set_option maxRecDepth 100000 in
set_option maxHeartbeats 4000000 in
theorem later_any {W : World} {a ma nm : Nat} {T : Tr} (hc : W.cell? ⟨a, 0, none⟩ = some (.map (some ma))) (hP : PosIs W ma nm T) (hw : T.WF) {x y : Int} (hx : -x ∈ T.lits) (hy : -y ∈ T.lits) :
    Calls Try.prog 41 #[.pointer (some ⟨a, 0, none⟩), .int .i64 x, .int .i64 y] W fun e w' => e = .returned (.int .i64 (T.pos y - T.pos x)) ∧ ∃ q, w' = W.drewN q := by
  have hsx := lits_small hw hx
  have hsy := lits_small hw hy
  obtain ⟨p1, p2, _⟩ := pos_lt hw hx
  obtain ⟨r1, r2, _⟩ := pos_lt hw hy
  have hl := hw.len
  have hv := hw.vars
  have hl2 : T.lits.length = T.L.length := by simp [Tr.lits]
  have lx := pos_look hP hx (by unfold I64; omega)
  have ly := pos_look hP hy (by unfold I64; omega)
  rw [Int.natAbs_neg, pos_neg] at lx ly
  obtain ⟨vx, hvx⟩ : ∃ v, x.natAbs = v := ⟨_, rfl⟩
  obtain ⟨vy, hvy⟩ : ∃ v, y.natAbs = v := ⟨_, rfl⟩
  rw [hvx] at lx
  rw [hvy] at ly
  obtain ⟨px, hpx⟩ : ∃ p, T.pos x = p := ⟨_, rfl⟩
  obtain ⟨py, hpy⟩ : ∃ p, T.pos y = p := ⟨_, rfl⟩
  rw [hpx] at lx p1 p2 ⊢
  rw [hpy] at ly r1 r2 ⊢
  have hmx : max x (-x) = (vx : Int) := by omega
  have hmy : max y (-y) = (vy : Int) := by omega
  have wx : IntKind.i64.wrap (-x) = -x := iw' (by omega) (by omega)
  have wy : IntKind.i64.wrap (-y) = -y := iw' (by omega) (by omega)
  have wd : IntKind.i64.wrap (py - px) = py - px := iw' (by omega) (by omega)
  clear hP hw hx hy hpx hpy hvx hvy
  go_enter Try.func41, Try.ntmps41
  have lx1 : (Instr.lookup 69 (.map (some ma)) (.int .i64 vx) false).run Try.prog W.drew = .ok (.int .i64 px) W.drew := lx 1
  have ly1 : (Instr.lookup 69 (.map (some ma)) (.int .i64 vy) false).run Try.prog W.drew = .ok (.int .i64 py) W.drew := ly 1
  go_wp2_with fail
  go_region
  go_wp2_with fail
  go_ret
  exact ⟨rfl, 1, rfl⟩
set_option maxRecDepth 100000 in
set_option maxHeartbeats 4000000 in
theorem sorted_closure {W : World} {a bx ma nm : Nat} {T : Tr} (hb : W.cell? ⟨bx, 0, none⟩ = some (.pointer (some ⟨a, 0, none⟩))) (hc : W.cell? ⟨a, 0, none⟩ = some (.map (some ma))) (hP : PosIs W ma nm T) (hw : T.WF) {x y : Int} (hx : -x ∈ T.lits) (hy : -y ∈ T.lits) :
    Calls Try.prog 40 #[.int .i64 x, .int .i64 y, .pointer (some ⟨bx, 0, none⟩)] W fun e w' => e = .returned (.int .i64 (T.pos y - T.pos x)) ∧ ∃ q, w' = W.drewN q := by
  have hcall := hid (later_any hc hP hw hx hy)
  clear hP hw hx hy
  go_enter Try.func40, Try.ntmps40
  go_wp2_with fail
  refine hcall.out.mono ?_
  rintro r w' ⟨rfl, q, rfl⟩
  go_wp2_with fail
  go_ret
  exact ⟨rfl, q, rfl⟩
end Go.Proofs.Ytanhacdadgbjdaa
