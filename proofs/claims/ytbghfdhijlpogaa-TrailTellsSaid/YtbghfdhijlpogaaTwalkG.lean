/-
  Walks: Imply.
-/
import Derived.Test.YtbghfdhijlpogaaTwalkF
namespace Go.Proofs.Ytbghfdhijlpogaa
open Go.RowKit
open Go.ChangeMaps

/-- What the closure of Imply asks of a literal of the reason. -/
def badB (T : Tr) (l x : Int) : Bool := x != l && decide (0 ≤ T.value x)
set_option maxRecDepth 100000 in
set_option maxHeartbeats 400000 in
theorem closure_any {w : World} {F : Nat → Prop} {b : Nat} {T : Tr} (ht : Trail w F b T) {l x : Int} (hx : I64 x) {bl bt : Nat} (cl : w.cell? ⟨bl, 0, none⟩ = some (.int .i64 l)) (ct : w.cell? ⟨bt, 0, none⟩ = some (.pointer (some ⟨b, 0, none⟩))) :
    Calls Try.prog 38 #[.int .i64 x, .pointer (some ⟨bl, 0, none⟩), .pointer (some ⟨bt, 0, none⟩)] w fun r w' => r = .returned (.bool (badB T l x)) ∧ Below w.heap.size w w' := by
  by_cases hxl : x = l
  · have hv : badB T l x = false := by simp [badB, hxl]
    rw [hv]; clear hv
    have hq : (x != l) = false := by simpa using hxl
    clear hxl
    go_enter Try.func38, Try.ntmps38
    go_wp2
    go_ret
    exact ⟨rfl, Below.refl _ _⟩
  · have hv : badB T l x = decide (0 ≤ T.value x) := by simp [badB, hxl]
    rw [hv]; clear hv
    have hq : (x != l) = true := by simpa using hxl
    clear hxl
    go_enter Try.func38, Try.ntmps38
    go_wp2_with (go_at_call 18; refine (value_any ht hx).mono ?_; rintro r w1 ⟨rfl, hb⟩)
    go_ret
    exact ⟨rfl, hb⟩
/-- May the literal be implied with this reason? -/
def Tr.can (T : Tr) (l : Int) (r : List Int) : Bool := T.freeB l && r.any (l == ·) && !r.any (badB T l)
set_option maxRecDepth 100000 in
set_option maxHeartbeats 1000000 in
theorem imply_ok {w : World} {F G : Nat → Prop} {b : Nat} {T : Tr} (ht : Trail w F b T) {l : Int} (hl : I64 l) {v : Value} {n : Nat} {r : List Int} (hv : Rd w G 1 v n (ints r)) (hn : n ≤ 17592186044416) (hr : ∀ x ∈ r, I64 x) (hc : T.can l r = true) :
    Calls Try.prog 17 #[.pointer (some ⟨b, 0, none⟩), .int .i64 l, v] w fun e w' => e = .returned (.int .i64 0) ∧ Trail w' (fun g => F g ∨ w.heap.size ≤ g) b (T.imply l r) ∧ Mod F w w' := by
  unfold Tr.can at hc
  simp only [Bool.and_eq_true, Bool.not_eq_true'] at hc
  obtain ⟨⟨hf, hin⟩, hbad⟩ := hc
  have hb0 := ((Below.refl w.heap.size w).alloc (Nat.le_refl _) (.cells #[.pointer (some ⟨b, 0, none⟩)] 23)).alloc (by simp) (.cells #[.int .i64 l] 3)
  have ht0 := hid (ht.below hb0)
  have hv0 := hid (hv.below hb0)
  have hfree := Tr.free_iff.1 hf
  have hwf := ht.wf
  have Hd := hid (hwf.imply (r := r) hfree (by
    obtain ⟨y, hy, hyl⟩ := List.any_eq_true.1 hin
    rw [show l = y by simpa using hyl]; exact hy) (fun x hx => by
    have := List.any_eq_false.1 hbad x hx
    by_cases hxl : x = l
    · exact .inl hxl
    · right
      simp only [badB, hxl, bne_iff_ne, ne_eq, not_false_eq_true, Bool.and_eq_true, decide_eq_true_eq, true_and] at this
      unfold Tr.value at this
      split at this
      · omega
      · split at this
        · assumption
        · omega))
  have Hr := hid hr
  have h1 := hwf.len
  have h2 := hwf.vars
  have Hno : Hid (T.idx l.natAbs = none) := by
    cases hx : T.idx l.natAbs with
    | none => exact hid rfl
    | some i =>
      obtain ⟨e, he, hv⟩ := Tr.idx_some hx
      exact absurd (by omega) (Tr.free_v hfree e (List.mem_of_getElem? he))
  have hlo : -65536 ≤ l := by have := hfree.2.1; omega
  have hhi : l ≤ 65536 := by have := hfree.2.1; omega
  clear hb0 ht hv hfree hwf hr
  go_enter Try.func17, Try.ntmps17
  go_wp2_with (first | (go_at_call 30; refine (none_any ht0.out).mono ?_; rintro r w1 ⟨rfl, rfl⟩) | (go_at_call 34; refine (free_any ht0.out hl).mono ?_; rintro e w2 ⟨rfl, hb⟩; have k1 := (hb.cell (p := ⟨w.heap.size, 0, none⟩) (by simp; omega)).trans (show _ = some (Value.pointer (some ⟨b, 0, none⟩)) from by simp); have k2 := (hb.cell (p := ⟨w.heap.size + 1, 0, none⟩) (by simp)).trans (show _ = some (Value.int .i64 l) from by simp)) | (go_at_call 36; refine (contains_any (hv0.out.below hb)).mono ?_; rintro e w3 ⟨rfl, rfl⟩) | (go_at_call 37; refine (containsfunc_any (p := badB T l) (hv0.out.below hb) Try.call38 (fun W x hW hx => by simpa using closure_any ((ht0.out.below hb).below hW) (Hr.out x hx) ((hW.cell (p := ⟨w.heap.size + 1, 0, none⟩) (World.block_lt_of_cell? _ _ k2)).trans k2) ((hW.cell (p := ⟨w.heap.size, 0, none⟩) (World.block_lt_of_cell? _ _ k1)).trans k1))).mono ?_; rintro e w3 ⟨rfl, hb3⟩; have j1 := (hb3.cell (p := ⟨w.heap.size, 0, none⟩) (World.block_lt_of_cell? _ _ k1)).trans k1; have j2 := (hb3.cell (p := ⟨w.heap.size + 1, 0, none⟩) (World.block_lt_of_cell? _ _ k2)).trans k2; clear k1 k2))
  obtain ⟨_, m, es, clock, vl, vs, hT⟩ := (ht0.out.below hb).below hb3
  have HT := hid hT
  have s1 := hb.size
  have s3 := hb3.size
  simp only [World.size_alloc] at s1
  clear hT
  go_wp2_with (go_at_call 35; refine (push_any HT.out ((hv0.out.below hb).below hb3) hn hlo hhi (by omega) Hno.out).mono ?_; rintro e w5 ⟨rfl, ⟨v5, m5, es5, clock5, hT5⟩, hm5⟩)
  go_ret
  refine ⟨rfl, ⟨Hd.out, m5, es5, clock5, v5, _, hT5.mono fun g hg => ?_⟩, ?_⟩
  · rcases hg with hg | hg
    · exact .inl hg
    · right; omega
  · refine (Mod.of_below ((((Below.refl w.heap.size w).alloc (Nat.le_refl _) _).alloc (by simp) _).trans (hb.mono (by simp; omega)))).trans ((Mod.of_below hb3).trans (hm5.mono fun g _ hg => .inl (.inl hg)))
set_option maxRecDepth 100000 in
set_option maxHeartbeats 1000000 in
theorem imply_bad {w : World} {F G : Nat → Prop} {b : Nat} {T : Tr} (ht : Trail w F b T) {l : Int} (hl : I64 l) {v : Value} {n : Nat} {r : List Int} (hv : Rd w G 1 v n (ints r)) (hr : ∀ x ∈ r, I64 x) (hc : T.can l r = false) :
    Calls Try.prog 17 #[.pointer (some ⟨b, 0, none⟩), .int .i64 l, v] w fun e w' => e = .returned (.int .i64 2) ∧ Below w.heap.size w w' := by
  have hb0 := ((Below.refl w.heap.size w).alloc (Nat.le_refl _) (.cells #[.pointer (some ⟨b, 0, none⟩)] 23)).alloc (by simp) (.cells #[.int .i64 l] 3)
  have ht0 := hid (ht.below hb0)
  have hv0 := hid (hv.below hb0)
  have Hr := hid hr
  unfold Tr.can at hc
  have Hc := hid hc
  clear hb0 ht hv hr hc
  cases hf : T.freeB l
  case' true => cases hin : r.any (l == ·)
  case' true.true =>
    have hbad : r.any (badB T l) = true := by
      have := Hc.out
      rw [hf, hin] at this
      simpa using this
  all_goals
    clear Hc
    go_enter Try.func17, Try.ntmps17
    go_wp2_with (first | (go_at_call 30; refine (none_any ht0.out).mono ?_; rintro r w1 ⟨rfl, rfl⟩) | (go_at_call 34; refine (free_any ht0.out hl).mono ?_; rintro e w2 ⟨rfl, hb⟩; have k1 := (hb.cell (p := ⟨w.heap.size, 0, none⟩) (by simp; omega)).trans (show _ = some (Value.pointer (some ⟨b, 0, none⟩)) from by simp); have k2 := (hb.cell (p := ⟨w.heap.size + 1, 0, none⟩) (by simp)).trans (show _ = some (Value.int .i64 l) from by simp)) | (go_at_call 36; refine (contains_any (hv0.out.below hb)).mono ?_; rintro e w3 ⟨rfl, rfl⟩) | (go_at_call 37; refine (containsfunc_any (p := badB T l) (hv0.out.below hb) Try.call38 (fun W x hW hx => by simpa using closure_any ((ht0.out.below hb).below hW) (Hr.out x hx) ((hW.cell (p := ⟨w.heap.size + 1, 0, none⟩) (World.block_lt_of_cell? _ _ k2)).trans k2) ((hW.cell (p := ⟨w.heap.size, 0, none⟩) (World.block_lt_of_cell? _ _ k1)).trans k1))).mono ?_; rintro e w3 ⟨rfl, hb3⟩))
    go_ret
    have s1 := hb.size
    simp only [World.size_alloc] at s1
    have hb1 := (((Below.refl w.heap.size w).alloc (Nat.le_refl _) (.cells #[.pointer (some ⟨b, 0, none⟩)] 23)).alloc (by simp) (.cells #[.int .i64 l] 3)).trans (hb.mono (by simp; omega))
    first
      | exact ⟨rfl, hb1⟩
      | exact ⟨rfl, hb1.trans (hb3.mono (by omega))⟩
end Go.Proofs.Ytbghfdhijlpogaa
