/-
  The activity order: New.
-/
import Derived.Test.YtdkbchpogmiohaaHeapF
import Derived.Deep.OwnRows
namespace Go.Proofs.Ytdkbchpogmiohaa
open Go.RowKit

def Om.new (n : Nat) : Om := ⟨List.replicate (n + 1) 0, 1⟩
theorem onew_bad {w : World} {v : Int} (hv : v < 0 ∨ 65536 < v) :
    Calls Try.prog 14 #[.int .i64 v] w fun r w' => r = .returned (.tuple #[.pointer none, .int .i64 2]) ∧ w' = w := by
  by_cases h1 : v < 0
  · go_enter Try.func14, Try.ntmps14
    go_wp2_with fail
    go_ret2
    exact ⟨rfl, rfl⟩
  · have h2 : 65536 < v := by omega
    go_enter Try.func14, Try.ntmps14
    go_wp2_with fail
    go_ret2
    exact ⟨rfl, rfl⟩

theorem own_made (w : World) (n : Nat) (hn : n ≤ 65537) : Own (w.alloc (.cells (madeCells #[.int .i64 0] n) 3)) (fun g => g = w.heap.size) 3 1 (.slice (some ⟨w.heap.size, 0, none⟩) n n) n (ints (List.replicate n 0)) := by
  have e : ints (List.replicate n 0) = List.replicate n (.int .i64 0) := by simp [ints]
  rw [e]
  rcases Nat.eq_zero_or_pos n with h0 | h0
  · subst h0
    exact Own.none_ _ _ _ _ _
  · exact own_new w _ 3 1 n _ n _ (by simp) h0 (Nat.le_refl _) (by unfold maxLen; omega) (by simp [size_madeCells]) (by rw [toList_madeCells_one, Nat.mul_one, List.take_replicate, Nat.min_self]) rfl
theorem raw3 (w : World) {n1 n2 n3 : Nat} (h1 : n1 ≤ 65537) (h2 : n2 ≤ 65537) (h3 : n3 ≤ 65537) (cs : Array Value) (t : TypeId) {W : World}
    (hW : W = ((((w.alloc (.cells (madeCells #[.int .i64 0] n1) 3)).alloc (.cells (madeCells #[.int .i64 0] n2) 3)).alloc (.cells (madeCells #[.int .i64 0] n3) 3)).alloc (.cells cs t)).drew) :
    Own W (fun g => w.heap.size ≤ g) 3 1 (.slice (some ⟨w.heap.size, 0, none⟩) n1 n1) n1 (ints (List.replicate n1 0)) ∧
    Own W (fun g => w.heap.size ≤ g) 3 1 (.slice (some ⟨w.heap.size + 1, 0, none⟩) n2 n2) n2 (ints (List.replicate n2 0)) ∧
    Own W (fun g => w.heap.size ≤ g) 3 1 (.slice (some ⟨w.heap.size + 1 + 1, 0, none⟩) n3 n3) n3 (ints (List.replicate n3 0)) ∧
    W.heap[w.heap.size + 1 + 1 + 1]? = some (.cells cs t (0, 0)) ∧ Below w.heap.size w W := by
  subst hW
  have o1 := own_made w n1 h1
  have o2 := own_made (w.alloc (.cells (madeCells #[.int .i64 0] n1) 3)) n2 h2
  have o3 := own_made ((w.alloc (.cells (madeCells #[.int .i64 0] n1) 3)).alloc (.cells (madeCells #[.int .i64 0] n2) 3)) n3 h3
  have e1 : (w.alloc (.cells (madeCells #[.int .i64 0] n1) 3)).heap.size = w.heap.size + 1 := by simp
  have e2 : ((w.alloc (.cells (madeCells #[.int .i64 0] n1) 3)).alloc (.cells (madeCells #[.int .i64 0] n2) 3)).heap.size = w.heap.size + 1 + 1 := by simp
  rw [e1] at o2
  rw [e2] at o3
  refine ⟨?_, ?_, ?_, ?_, ?_⟩
  · refine Own.mono (F := fun g => g = w.heap.size) ?_ fun g _ _ hg => by omega
    exact (((o1.below ((Below.refl _ _).alloc (Nat.le_refl _) _)).below ((Below.refl _ _).alloc (Nat.le_refl _) _)).below ((Below.refl _ _).alloc (Nat.le_refl _) _)).drew
  · refine Own.mono (F := fun g => g = w.heap.size + 1) ?_ fun g _ _ hg => by omega
    exact ((o2.below ((Below.refl _ _).alloc (Nat.le_refl _) _)).below ((Below.refl _ _).alloc (Nat.le_refl _) _)).drew
  · refine Own.mono (F := fun g => g = w.heap.size + 1 + 1) ?_ fun g _ _ hg => by omega
    exact (o3.below ((Below.refl _ _).alloc (Nat.le_refl _) _)).drew
  · have := heap_alloc_new (((w.alloc (.cells (madeCells #[.int .i64 0] n1) 3)).alloc (.cells (madeCells #[.int .i64 0] n2) 3)).alloc (.cells (madeCells #[.int .i64 0] n3) 3)) (.cells cs t)
    have e3 : (((w.alloc (.cells (madeCells #[.int .i64 0] n1) 3)).alloc (.cells (madeCells #[.int .i64 0] n2) 3)).alloc (.cells (madeCells #[.int .i64 0] n3) 3)).heap.size = w.heap.size + 1 + 1 + 1 := by simp
    rw [e3] at this
    exact this
  · exact (((((Below.refl _ _).alloc (Nat.le_refl _) _).alloc (by rw [e1]; omega) _).alloc (by rw [e2]; omega) _).alloc (by simp; omega) _).drew

/-- A new order, at work. -/
structure Raw (W : World) (B b n np j : Nat) : Prop where
  ex : ∃ (ga gh gp : Nat) (hs ps : List Int), ga ≠ b ∧ gh ≠ b ∧ gp ≠ b ∧ ga ≠ gh ∧ ga ≠ gp ∧ gh ≠ gp ∧
    W.heap[b]? = some (.cells #[.slice (some ⟨ga, 0, none⟩) np np, .int .i64 1, .slice (some ⟨gh, 0, none⟩) n n, .slice (some ⟨gp, 0, none⟩) np np] 42 (0, 0)) ∧
    Own W (fun g => B ≤ g) 3 1 (.slice (some ⟨ga, 0, none⟩) np np) np (ints (List.replicate np 0)) ∧
    Own W (fun g => B ≤ g) 3 1 (.slice (some ⟨gh, 0, none⟩) n n) n (ints hs) ∧
    Own W (fun g => B ≤ g) 3 1 (.slice (some ⟨gp, 0, none⟩) np np) np (ints ps) ∧
    (∀ k, k < j → nth hs k = ((k + 1 : Nat) : Int)) ∧ (∀ k, k < j → nth ps (k + 1) = (k : Int))
theorem raw_step {W : World} {B b n np j ga gh gp : Nat} {hs ps : List Int} (_hB : B ≤ b) (hnp : np = n + 1) (hj : j < n) (d1 : ga ≠ b) (d2 : gh ≠ b) (d3 : gp ≠ b) (d4 : ga ≠ gh) (d5 : ga ≠ gp) (d6 : gh ≠ gp)
    (hblk : W.heap[b]? = some (.cells #[.slice (some ⟨ga, 0, none⟩) np np, .int .i64 1, .slice (some ⟨gh, 0, none⟩) n n, .slice (some ⟨gp, 0, none⟩) np np] 42 (0, 0)))
    (oa : Own W (fun g => B ≤ g) 3 1 (.slice (some ⟨ga, 0, none⟩) np np) np (ints (List.replicate np 0)))
    (oh : Own W (fun g => B ≤ g) 3 1 (.slice (some ⟨gh, 0, none⟩) n n) n (ints hs))
    (op : Own W (fun g => B ≤ g) 3 1 (.slice (some ⟨gp, 0, none⟩) np np) np (ints ps))
    (h1 : ∀ k, k < j → nth hs k = ((k + 1 : Nat) : Int)) (h2 : ∀ k, k < j → nth ps (k + 1) = (k : Int)) (gB : B ≤ gh) (gB' : B ≤ gp) :
    Raw ((W.setCell ⟨gh, j, none⟩ (.int .i64 ((j : Int) + 1))).setCell ⟨gp, j + 1, none⟩ (.int .i64 (j : Int))).drew B b n np (j + 1) ∧
    Mod (fun g => B ≤ g) W ((W.setCell ⟨gh, j, none⟩ (.int .i64 ((j : Int) + 1))).setCell ⟨gp, j + 1, none⟩ (.int .i64 (j : Int))).drew := by
  have lh : hs.length = n := by have := oh.1; simpa [ints_length] using this
  have lp : ps.length = np := by have := op.1; simpa [ints_length] using this
  have m1 : Mod (fun g => g = gh) W (W.setCell ⟨gh, j, none⟩ (.int .i64 ((j : Int) + 1))) := (Mod.refl (fun g => g = gh) W).setCell (p := ⟨gh, j, none⟩) (.inl rfl) _
  have m2 : Mod (fun g => g = gp) (W.setCell ⟨gh, j, none⟩ (.int .i64 ((j : Int) + 1))) ((W.setCell ⟨gh, j, none⟩ (.int .i64 ((j : Int) + 1))).setCell ⟨gp, j + 1, none⟩ (.int .i64 (j : Int))) := (Mod.refl (fun g => g = gp) _).setCell (p := ⟨gp, j + 1, none⟩) (.inl rfl) _
  have m3 : Mod (fun g => g = gh ∨ g = gp) W ((W.setCell ⟨gh, j, none⟩ (.int .i64 ((j : Int) + 1))).setCell ⟨gp, j + 1, none⟩ (.int .i64 (j : Int))).drew := ((m1.mono fun g _ hg => .inl hg).trans (m2.mono fun g _ hg => .inl (.inr hg))).drew
  refine ⟨⟨ga, gh, gp, hs.set j ((j : Int) + 1), ps.set (j + 1) j, d1, d2, d3, d4, d5, d6, ?_, ?_, ?_, ?_, fun k hk => ?_, fun k hk => ?_⟩, m3.mono fun g _ hg => by omega⟩
  · exact (m3.block b (lt_of_block hblk) (by omega)).trans hblk
  · refine oa.mod m3 fun g _ hr _ e => ?_
    have := hr.2
    dsimp only at this
    omega
  · rw [ints_set]
    refine (Own.mod (oh.stored _) m2 fun g _ hr _ e => ?_).drew
    have := hr.2
    dsimp only at this
    omega
  · rw [ints_set]
    refine ((Own.mod op m1 fun g _ hr _ e => ?_).stored _).drew
    have := hr.2
    dsimp only at this
    omega
  · rw [nth_set _ _ _ _ (by omega)]
    by_cases e : j = k
    · subst e; simp
    · rw [if_neg e]; exact h1 k (by omega)
  · rw [nth_set _ _ _ _ (by omega)]
    by_cases e : j = k
    · subst e; simp
    · rw [if_neg (by omega)]; exact h2 k (by omega)
theorem Raw.order {W : World} {B b n np : Nat} (hB : B ≤ b) (hnp : np = n + 1) (hn : n ≤ 65536) (e : Raw W B b n np n) : Order W (fun g => B ≤ g) b n (Om.new n) := by
  obtain ⟨ga, gh, gp, hs, ps, d1, d2, d3, d4, d5, d6, hblk, oa, oh, op, h1, h2⟩ := e.ex
  have lh : hs.length = n := by have := oh.1; simpa [ints_length] using this
  have lp : ps.length = np := by have := op.1; simpa [ints_length] using this
  have z : ∀ k, nth (List.replicate (n + 1) (0 : Int)) k = 0 := fun k => by
    unfold nth
    rw [List.getElem?_replicate]
    split <;> rfl
  refine ⟨⟨by simp [Om.new], hn, by simp [Om.new], by simp [Om.new], fun x => ?_⟩, ga, gh, gp, np, hs, ps, ⟨hB, hnp, hblk, by rw [hnp] at oa ⊢; exact oa, oh, op, d1, d2, d3, d4, d5, d6, ⟨lh, by omega, fun j hj => ⟨j + 1, h1 j hj, by omega, by omega, by rw [h2 j hj]⟩, fun x x1 xn => ⟨x - 1, by omega, ?_, ?_⟩⟩, hn⟩, fun k hk hkn => ?_⟩
  · show 0 ≤ nth (List.replicate (n + 1) (0 : Int)) x ∧ _
    rw [show nth (Om.new n).acts x = 0 from z x, z x]
    omega
  · have := h2 (x - 1) (by omega)
    rwa [show x - 1 + 1 = x by omega] at this
  · have := h1 (x - 1) (by omega)
    rw [this]
    congr 1
    omega
  · rw [ahead_no]
    rw [show nth (Om.new n).acts _ = 0 from z _, show nth (Om.new n).acts _ = 0 from z _]
    simp only [hat, h1 k hkn, h1 ((k - 1) / 2) (by omega), Int.toNat_natCast]
    omega

set_option maxRecDepth 100000 in
set_option maxHeartbeats 4000000 in
theorem onew_any {w : World} {n : Nat} (hn : n ≤ 65536) :
    Calls Try.prog 14 #[.int .i64 n] w fun r w' => ∃ b, r = .returned (.tuple #[.pointer (some ⟨b, 0, none⟩), .int .i64 0]) ∧ Order w' (fun g => w.heap.size ≤ g) b n (Om.new n) ∧ Below w.heap.size w w' := by
  obtain ⟨np, hnp⟩ : ∃ np, n + 1 = np := ⟨_, rfl⟩
  have q1 : (n : Int) + 1 = (np : Int) := by omega
  have q2 : IntKind.i64.wrap (np : Int) = (np : Int) := iw (by omega) (by omega)
  have q3 : (n : Int) ≤ 65536 := by omega
  have mk1 := run_make_row' (P := Try.prog) 37 3 (.int .i64 0) 8 Try.underlying37 info_int rfl .i64 .i64 n (by omega) (by omega)
  have mk2 := run_make_row' (P := Try.prog) 37 3 (.int .i64 0) 8 Try.underlying37 info_int rfl .i64 .i64 np (by omega) (by omega)
  have Hnp := hid hnp
  clear hnp
  go_enter Try.func14, Try.ntmps14
  go_wp2_with fail
  go_region
  all_goals go_wp2_with fail
  all_goals
    go_loopw [24, 5] (fun iv _ W => ∃ (j : Nat), j ≤ n ∧ iv = .int .i64 j ∧ Hid (Raw W w.heap.size (w.heap.size + 1 + 1 + 1) n np j) ∧ Hid (Below w.heap.size w W)) (fun iv _ _ => n - (intOf iv).toNat)
    case atStart =>
      first
        | (obtain ⟨o1, o2, o3, o4, o5⟩ := raw3 w (n1 := np) (n2 := n) (n3 := np) (by omega) (by omega) (by omega) _ _ rfl
           first
             | exact ⟨0, by omega, rfl, hid ⟨_, _, _, _, _, by omega, by omega, by omega, by omega, by omega, by omega, o4, o1, o2, o3, fun k hk => by omega, fun k hk => by omega⟩, hid o5⟩
             | exact ⟨0, by omega, rfl, hid ⟨_, _, _, _, _, by omega, by omega, by omega, by omega, by omega, by omega, o4, o3, o2, o1, fun k hk => by omega, fun k hk => by omega⟩, hid o5⟩)
        | (obtain ⟨o1, o2, o3, o4, o5⟩ := raw3 w (n1 := np) (n2 := np) (n3 := n) (by omega) (by omega) (by omega) _ _ rfl
           first
             | exact ⟨0, by omega, rfl, hid ⟨_, _, _, _, _, by omega, by omega, by omega, by omega, by omega, by omega, o4, o1, o3, o2, fun k hk => by omega, fun k hk => by omega⟩, hid o5⟩
             | exact ⟨0, by omega, rfl, hid ⟨_, _, _, _, _, by omega, by omega, by omega, by omega, by omega, by omega, o4, o2, o3, o1, fun k hk => by omega, fun k hk => by omega⟩, hid o5⟩)
        | (obtain ⟨o1, o2, o3, o4, o5⟩ := raw3 w (n1 := n) (n2 := np) (n3 := np) (by omega) (by omega) (by omega) _ _ rfl
           first
             | exact ⟨0, by omega, rfl, hid ⟨_, _, _, _, _, by omega, by omega, by omega, by omega, by omega, by omega, o4, o2, o1, o3, fun k hk => by omega, fun k hk => by omega⟩, hid o5⟩
             | exact ⟨0, by omega, rfl, hid ⟨_, _, _, _, _, by omega, by omega, by omega, by omega, by omega, by omega, o4, o3, o1, o2, fun k hk => by omega, fun k hk => by omega⟩, hid o5⟩)
    case round =>
      obtain ⟨j, hj, rfl, R, B⟩ := hrel
      obtain ⟨b, hbq⟩ : ∃ b, w.heap.size + 1 + 1 + 1 = b := ⟨_, rfl⟩
      rw [hbq] at R ⊢
      by_cases hlt : j < n
      · obtain ⟨ga, gh, gp, hs, ps, d1, d2, d3, d4, d5, d6, hblk, oa, oh, op, h1, h2⟩ := R.out.ex
        have c2 : wr.cell? ⟨b, 2, none⟩ = some (.slice (some ⟨gh, 0, none⟩) n n) := by rw [cell_of_row wr b 2 _ _ _ hblk]; rfl
        have c3 : wr.cell? ⟨b, 3, none⟩ = some (.slice (some ⟨gp, 0, none⟩) np np) := by rw [cell_of_row wr b 3 _ _ _ hblk]; rfl
        have hnp := Hnp.out
        have lh : hs.length = n := by have := oh.1; simpa [ints_length] using this
        have lp : ps.length = np := by have := op.1; simpa [ints_length] using this
        obtain ⟨_, he, gB, _, e1, f1⟩ := oh.cell (j := j) (by omega)
        injection he with he; injection he with he _ _; subst he
        obtain ⟨_, he, gB', _, e2, f2⟩ := op.cell (j := j + 1) (by omega)
        injection he with he; injection he with he _ _; subst he
        rw [ints_nth (by omega)] at e1 e2
        have y8 := hid lh
        have y9 := hid lp
        clear lh lp
        have y1 := hid oa
        have y2 := hid oh
        have y3 := hid op
        have y4 := hid h1
        have y5 := hid h2
        have y6 := hid hblk
        have y7 := hid hbq
        have x1 : (j : Int) < (n : Int) := by omega
        have x2 : (j : Int) + 1 < (np : Int) := by omega
        have r1 : (gh = b) = False := by simpa using d2
        have r2 : (gp = b) = False := by simpa using d3
        have r3 : (gh = gp) = False := by simpa using d6
        have r4 : (gp = gh) = False := by simpa using d6.symm
        have r5 : (b = gh) = False := by simpa using d2.symm
        have r6 : (b = gp) = False := by simpa using d3.symm
        clear oa oh op h1 h2 hblk hbq hnp
        go_wp2_with fail
        go_region
        go_wp2_with fail
        go_roundw
        case rel =>
          obtain ⟨k1, k2⟩ := raw_step (by have := y7.out; omega) Hnp.out.symm hlt d1 d2 d3 d4 d5 d6 y6.out y1.out y2.out y3.out y4.out y5.out gB gB'
          have y7 := y7.out
          subst y7
          exact ⟨j + 1, by omega, by go_num, hid k1, hid (B.out.trans (k2.base B.out.size))⟩
        case measure => simp [intOf]; omega
      · have x1 : (n : Int) ≤ (j : Int) := by omega
        obtain rfl : j = n := by omega
        go_wp2_with fail
        go_ret2
        exact ⟨b, rfl, R.out.order (by omega) Hnp.out.symm hn, B.out⟩
end Go.Proofs.Ytdkbchpogmiohaa
