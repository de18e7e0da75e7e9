/-
  Walks: Decide.
-/
import Derived.Test.YtbghfdhijlpogaaTwalkE
import Derived.Test.YtbghfdhijlpogaaTplain
namespace Go.Proofs.Ytbghfdhijlpogaa
open Go.RowKit
open Go.ChangeMaps

/-- What a new start has done. -/
theorem start_done {w w3 : World} {F : Nat → Prop} {b m : Nat} {es : Array MapEntry} {clock : Nat} {vl vs v' : Value} {T : Tr} {w1 : World}
    (hT : TrailAt w F b m es clock vl vs T) (hb1 : Below w.heap.size w w1)
    (ho3 : Own w3 (fun g => F g ∨ w1.heap.size ≤ g) 3 1 v' (T.starts.length + 1) (ints (T.starts.map Int.ofNat) ++ [.int .i64 T.L.length])) (hm3 : Mod (row vs) w1 w3)
    (hr3 : ∀ g, row v' g → row vs g ∨ w1.heap.size ≤ g) :
    TrailAt (w3.setCell ⟨b, 3, none⟩ v') (fun g => F g ∨ w.heap.size ≤ g) b m es clock vl v' { T with starts := T.starts ++ [T.L.length] } ∧ Mod F w (w3.setCell ⟨b, 3, none⟩ v') := by
  have hblt := lt_of_block hT.blk
  have hmlt := lt_of_block hT.map
  have hs1 := hb1.size
  have hs3 := hm3.size
  have hbm : b ≠ m := fun e => by
    have := hT.blk
    rw [e, hT.map] at this
    cases this
  have hbl : ¬ row vl b := fun hr => row_blk hT.lits hr hT.blk rfl
  have hbs : ¬ row vs b := fun hr => row_blk hT.starts hr hT.blk rfl
  have hms : ¬ row vs m := fun hr => row_map hT.starts hr hT.map rfl
  have keep3 : ∀ k, k < w.heap.size → ¬ row vs k → w3.heap[k]? = w.heap[k]? := fun k hk hr =>
    (hm3.block k (by omega) hr).trans (hb1.block k hk)
  have keep4 : ∀ k, k < w.heap.size → ¬ row vs k → k ≠ b → (w3.setCell ⟨b, 3, none⟩ v').heap[k]? = w.heap[k]? := fun k hk hr hkb =>
    (Below.heap_setCell w3 _ _ k hkb).trans (keep3 k hk hr)
  have hb3 := (keep3 b hblt hbs).trans hT.blk
  have hv'b : ¬ row v' b := fun hr => by
    rcases hr3 b hr with h | h
    · exact hbs h
    · omega
  have hM : Mod F w (w3.setCell ⟨b, 3, none⟩ v') :=
    Mod.setCell ⟨hm3.os.trans hb1.os, hm3.tape.trans hb1.tape, hm3.output.trans hb1.output, by omega, fun k hk hF => keep3 k hk (fun hr => hF (hT.starts.row hr).1)⟩ (.inl hT.hb) _
  refine ⟨?_, hM⟩
  refine { hb := .inl hT.hb, hm := .inl hT.hm, blk := ?_, map := ?_, size := hT.size, ents := ?_, lits := ?_, starts := ?_, apart := ?_ }
  · rw [heap_setCell_same w3 b 3 _ _ _ hb3]
    simp
  · exact (keep4 m hmlt hms hbm.symm).trans hT.map
  · intro i e he
    obtain ⟨x, A', n', c', h1, h3, h4, h5⟩ := hT.ents i e he
    refine ⟨x, A', n', c', h1, h3, h4, ?_⟩
    refine ((h5.mono (G := fun g => ((F g ∨ w.heap.size ≤ g) ∧ g ≠ b ∧ g ≠ m ∧ ¬ row vl g ∧ ¬ row v' g) ∧ ¬ row vs g) fun g hg hF => ⟨⟨.inl hF.1, hF.2.1, hF.2.2.1, hF.2.2.2.1, fun hr => ?_⟩, hF.2.2.2.2⟩).keep hM.size fun g hg hF => keep4 g hg hF.2 hF.1.2.1).mono fun g _ hF => hF.1
    rcases hr3 g hr with h | h
    · exact hF.2.2.2.2 h
    · omega
  · exact (hT.lits.keep fun g hg hr hF => keep4 g hg (fun h => hT.apart g hr h) (fun e => hbl (e ▸ hr))).mono fun g hg hr hF => .inl hF
  · have h := ho3.keep (w' := w3.setCell ⟨b, 3, none⟩ v') fun g hg hr hF => Below.heap_setCell w3 _ _ g (fun e => hv'b ((show g = b from e) ▸ hr))
    simp only [List.length_append, List.length_singleton, List.map_append, ints_append]
    exact h.mono fun g hg hr hF => by
      rcases hF with hF | hF
      · exact .inl hF
      · right; omega
  · intro g hl hr
    rcases hr3 g hr with h | h
    · exact hT.apart g hl h
    · obtain ⟨_, cur, hgs⟩ := hT.lits.row hl
      have := lt_of_block hgs
      omega

theorem cells2 {w w' : World} {b : Nat} {x2 x3 : Value} (c2 : w.cell? ⟨b, 2, none⟩ = some x2) (c3 : w.cell? ⟨b, 3, none⟩ = some x3) (h : ∀ i, w'.cell? ⟨b, i, none⟩ = w.cell? ⟨b, i, none⟩) :
    w'.cell? ⟨b, 2, none⟩ = some x2 ∧ w'.cell? ⟨b, 3, none⟩ = some x3 := ⟨(h 2).trans c2, (h 3).trans c3⟩
set_option maxRecDepth 100000 in
set_option maxHeartbeats 1000000 in
theorem decide_ok {w : World} {F : Nat → Prop} {b : Nat} {T : Tr} (ht : Trail w F b T) {l : Int} (hl : I64 l) (hf : T.free l) :
    Calls Try.prog 16 #[.pointer (some ⟨b, 0, none⟩), .int .i64 l] w fun r w' => r = .returned (.int .i64 0) ∧ Trail w' (fun g => F g ∨ w.heap.size ≤ g) b (T.decide l) ∧ Mod F w w' := by
  have hwf := ht.1
  have hfb := Tr.free_iff.2 hf
  have Hd := hid (hwf.decide hf)
  have h1 := hwf.len
  have h2 := hwf.vars
  have h3 := hwf.len'
  go_enter Try.func16, Try.ntmps16
  go_wp2_with (first | (go_at_call 30; refine (none_any ht).mono ?_; rintro r w1 ⟨rfl, rfl⟩) | (go_at_call 34; refine (free_any ht hl).mono ?_; rintro r w1 ⟨rfl, hb⟩; rw [hfb]))
  obtain ⟨_, m, es, clock, vl, vs, hT0⟩ := ht.below hb
  obtain ⟨Al, cl, rfl, _⟩ := hT0.lits.form
  obtain ⟨As, cs, rfl, _⟩ := hT0.starts.form
  have HT := hid hT0
  have hfree := hid hf
  clear hT0 hwf hf hfb
  have c2 : w1.cell? ⟨b, 2, none⟩ = some (.slice Al T.L.length cl) := by rw [cell_of_row w1 b 2 _ _ _ HT.out.blk]; rfl
  have c3 : w1.cell? ⟨b, 3, none⟩ = some (.slice As T.starts.length cs) := by rw [cell_of_row w1 b 3 _ _ _ HT.out.blk]; rfl
  have hblt := lt_of_block HT.out.blk
  go_region_law (refine step_append_ints rfl _ _ rfl (HT.out.starts.below ((Below.refl _ _).alloc (Nat.le_refl _) _).drew) (own_one w1 (.int .i64 T.L.length)).drew.rd rfl rfl (by simp [Value.oneCell']) (by omega) ?_; intro Av cv w3 ho3 hm3 hr3; have hb3 := (hm3.block b (by simp; omega) (fun hr => row_blk HT.out.starts hr HT.out.blk rfl)).trans ((World.heap_alloc_ne w1 _ b (by omega)).trans HT.out.blk); have d3 : w3.cell? ⟨b, 3, none⟩ = some (.slice As T.starts.length cs) := (cell_of_row w3 b 3 _ _ _ hb3).trans rfl; have f3 := frozen_of_row w3 b 3 _ _ hb3; have Hb3 := hid hb3; clear hb3)
  all_goals
    obtain ⟨hT4, hm4⟩ := start_done HT.out ((Below.refl _ _).alloc (Nat.le_refl _) _).drew (ho3.mono fun g _ _ h => h) hm3 hr3
    generalize w3.setCell ⟨b, 3, none⟩ (.slice Av (T.starts.length + 1) cv) = w4 at hT4 hm4 ⊢
    have HT4 := hid hT4
    have Hno : Hid (T.idx l.natAbs = none) := by
      have hfr := hfree.out
      cases hx : T.idx l.natAbs with
      | none => exact hid rfl
      | some i =>
        obtain ⟨e, he, hv⟩ := Tr.idx_some hx
        exact absurd (by omega) (Tr.free_v hfr e (List.mem_of_getElem? he))
    have hlo : -65536 ≤ l := by have := hfree.out.2.1; omega
    have hhi : l ≤ 65536 := by have := hfree.out.2.1; omega
    clear hT4 ho3 hm3 hr3 d3 f3 c2 c3
    go_wp2_with (go_at_call 35; refine (push_any (r := []) (n := 0) HT4.out (Own.nil w4 (fun _ => False) 0 1).rd (by omega) hlo hhi (by simp; omega) Hno.out).mono ?_; rintro r w5 ⟨rfl, ⟨v5, m5, es5, clock5, hT5⟩, hm5⟩)
    go_ret
    have s4 := hm4.size
    have sb := hb.size
    have e5 : ({ T with starts := T.starts ++ [T.L.length] } : Tr).imply l [] = T.decide l := by simp [Tr.imply, Tr.decide]
    rw [e5] at hT5
    refine ⟨rfl, ⟨Hd.out, m5, es5, clock5, v5, _, hT5.mono fun g hg => ?_⟩, ?_⟩
    · rcases hg with (hg | hg) | hg
      · exact .inl hg
      · right; omega
      · right; omega
    · refine (Mod.of_below hb).trans ((hm4.mono fun g _ hg => .inl hg).trans (hm5.mono fun g _ hg => ?_))
      rcases hg with hg | hg
      · exact .inl (.inl hg)
      · exact .inl (.inr (by omega))
set_option maxRecDepth 100000 in
set_option maxHeartbeats 400000 in
theorem decide_bad {w : World} {F : Nat → Prop} {b : Nat} {T : Tr} (ht : Trail w F b T) {l : Int} (hl : I64 l) (hf : ¬ T.free l) :
    Calls Try.prog 16 #[.pointer (some ⟨b, 0, none⟩), .int .i64 l] w fun r w' => r = .returned (.int .i64 2) ∧ Below w.heap.size w w' := by
  have hfb : T.freeB l = false := by
    cases h : T.freeB l with
    | false => rfl
    | true => exact absurd (Tr.free_iff.1 h) hf
  clear hf
  go_enter Try.func16, Try.ntmps16
  go_wp2_with (first | (go_at_call 30; refine (none_any ht).mono ?_; rintro r w1 ⟨rfl, rfl⟩) | (go_at_call 34; refine (free_any ht hl).mono ?_; rintro r w1 ⟨rfl, hb⟩; rw [hfb]))
  go_ret
  exact ⟨rfl, hb⟩

end Go.Proofs.Ytbghfdhijlpogaa
