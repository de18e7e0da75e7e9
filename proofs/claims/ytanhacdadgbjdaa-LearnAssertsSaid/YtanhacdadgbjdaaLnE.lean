/-
  The analysis in memory; add.
-/
import Derived.Test.YtanhacdadgbjdaaLnC
import Derived.Maps.RangeWalk
namespace Go.Proofs.Ytanhacdadgbjdaa
open Go.RowKit Go.Maps

theorem keyed_int : Keyed Try.prog 3 := int_keyed Try.underlying3
theorem zero_unit (w : World) : (zeroValue 75).run Try.prog w = .ok (.agg #[]) w := by kernel_rfl
theorem zero_num (w : World) : (zeroValue 3).run Try.prog w = .ok (.int .i64 0) w := by kernel_rfl
theorem i64_wf {x : Int} (h : I64 x) : (Lit.int .i64 x).wf = true := by
  unfold I64 at h
  simp [Lit.wf, IntKind.min, IntKind.max, IntKind.signed, IntKind.bits]
  omega
theorem key_num {x : Int} (h : I64 x) : keyOf Try.prog 3 (.int .i64 x) = some (.int .i64 x) := keyOf_int_mk Try.underlying3 (i64_wf h)
theorem num_key {x : Int} (h : I64 x) : WideAt.IsKeyLit (.int .i64 x) := keyed_int.key (key_num h)
theorem num_ne {x y : Int} (h : x ≠ y) : (Lit.int .i64 x) ≠ .int .i64 y := fun e => h (by injection e)
/-- Block b is a set of at most n integers: S says which. -/
def SetIs (w : World) (b n : Nat) (S : Int → Bool) : Prop := ∃ D : DataW Unit, w.ownsMap Try.prog 3 unitElem b n D ∧ ∀ x, I64 x → Maps.has D (.int .i64 x) = S x
theorem SetIs.of_block {w w' : World} {b n : Nat} {S : Int → Bool} (h : SetIs w b n S) (hb : w'.heap[b]? = w.heap[b]?) : SetIs w' b n S := by
  obtain ⟨D, ⟨es, clock, hm, r⟩, hS⟩ := h
  exact ⟨D, ⟨es, clock, hb.trans hm, r⟩, hS⟩
theorem SetIs.lt {w : World} {b n : Nat} {S : Int → Bool} (h : SetIs w b n S) : b < w.heap.size := by
  obtain ⟨D, h, _⟩ := h
  exact h.lt
theorem grown_mod {w w' : World} {b : Nat} (h : w.grownBy w' (some b)) : Mod (fun g => g = b) w w' :=
  ⟨h.os, h.tape, h.output, h.size, fun k hk hb => h.block k hk (fun e => hb (by injection e))⟩
theorem SetIs.more {w : World} {b n n' : Nat} {S : Int → Bool} (h : SetIs w b n S) (hn : n ≤ n') : SetIs w b n' S := by
  obtain ⟨D, h, hS⟩ := h
  exact ⟨D, h.mono hn, hS⟩
theorem SetIs.put {w w' : World} {b n : Nat} {S : Int → Bool} {D : DataW Unit} {l : Int} {d : DataW Unit} (h : w.ownsMap Try.prog 3 unitElem b n D) (hS : ∀ x, I64 x → Maps.has D (.int .i64 x) = S x) (hl : I64 l) (h' : w'.ownsMap Try.prog 3 unitElem b (n + 1) (D.put (.int .i64 l) d)) :
    SetIs w' b (n + 1) (fun x => S x || decide (x = l)) := by
  refine ⟨_, h', fun x hx => ?_⟩
  by_cases e : x = l
  · subst e
    rw [has_put_same h.isMap (num_key hl)]
    simp
  · rw [has_put_other (num_ne e), hS x hx]
    simp [e]
theorem SetIs.del {w' : World} {b n : Nat} {S : Int → Bool} {D : DataW Unit} {l : Int} (hS : ∀ x, I64 x → Maps.has D (.int .i64 x) = S x) (h' : w'.ownsMap Try.prog 3 unitElem b n (D.del (.int .i64 l))) :
    SetIs w' b n (fun x => S x && !decide (x = l)) := by
  refine ⟨_, h', fun x hx => ?_⟩
  by_cases e : x = l
  · subst e
    rw [has_del_same]
    simp
  · rw [has_del_other (num_ne e), hS x hx]
    simp [e]
theorem owns_block {w w' : World} {b n : Nat} {D : DataW Unit} (h : w.ownsMap Try.prog 3 unitElem b n D) (hb : w'.heap[b]? = w.heap[b]?) : w'.ownsMap Try.prog 3 unitElem b n D := by
  obtain ⟨es, clock, hm, r⟩ := h
  exact ⟨es, clock, hb.trans hm, r⟩
/-- The positions. -/
def PosIs (w : World) (b n : Nat) (T : Tr) : Prop := ∃ D : DataW Unit, w.ownsMap Try.prog 3 (plainElem Try.prog 3) b n D ∧ ∀ m, m ∈ T.lits → D.atKey (.int .i64 (m.natAbs : Nat)) (.lit (.int .i64 0)) = .lit (.int .i64 (T.pos m))
theorem PosIs.of_block {w w' : World} {b n : Nat} {T : Tr} (h : PosIs w b n T) (hb : w'.heap[b]? = w.heap[b]?) : PosIs w' b n T := by
  obtain ⟨D, ⟨es, clock, hm, r⟩, hS⟩ := h
  exact ⟨D, ⟨es, clock, hb.trans hm, r⟩, hS⟩
theorem PosIs.lt {w : World} {b n : Nat} {T : Tr} (h : PosIs w b n T) : b < w.heap.size := by
  obtain ⟨D, h, _⟩ := h
  exact h.lt

/-- The analysis lies at block a: its maps at ma and ms, its trail at tb. -/
structure AnAt (w : World) (a ma ms tb nm ns : Nat) (T : Tr) (A : An) : Prop where
  blk : w.heap[a]? = some (.cells #[.map (some ma), .func (.method "Level") #[.iface 25 (.pointer (some ⟨tb, 0, none⟩))] #[], .func (.method "Reason") #[.iface 25 (.pointer (some ⟨tb, 0, none⟩))] #[], .int .i64 T.depth, .map (some ms), .int .i64 A.now] 74 (0, 0))
  pos : PosIs w ma nm T
  set : SetIs w ms ns A.set
  ne : ma ≠ ms
theorem AnAt.mod {w w' : World} {a ma ms tb nm ns : Nat} {T : Tr} {A : An} {G : Nat → Prop} (e : AnAt w a ma ms tb nm ns T A) (m : Mod G w w') (h1 : ¬ G a) (h2 : ¬ G ma) (h3 : ¬ G ms) : AnAt w' a ma ms tb nm ns T A :=
  ⟨(m.block a (lt_of_block e.blk) h1).trans e.blk, e.pos.of_block (m.block ma e.pos.lt h2), e.set.of_block (m.block ms e.set.lt h3), e.ne⟩
theorem AnAt.below {w w' : World} {a ma ms tb nm ns : Nat} {T : Tr} {A : An} (e : AnAt w a ma ms tb nm ns T A) (m : Below w.heap.size w w') : AnAt w' a ma ms tb nm ns T A :=
  ⟨(m.block a (lt_of_block e.blk)).trans e.blk, e.pos.of_block (m.block ma e.pos.lt), e.set.of_block (m.block ms e.set.lt), e.ne⟩
theorem max_abs {l : Int} (h1 : -65536 ≤ l) (h2 : l ≤ 65536) : max l (-l) = (l.natAbs : Nat) := by omega

theorem iw' {k : Int} (h1 : -9223372036854775808 ≤ k) (h2 : k ≤ 9223372036854775807) : IntKind.i64.wrap k = k := (IntWalk.i64_left _).trans (IntWalk.wrap64_in _ ⟨by omega, by omega⟩)
/-- The cells of a block of six. -/
theorem box6 {w : World} {b : Nat} {x0 x1 x2 x3 x4 x5 : Value} {e : TypeId} (h : w.heap[b]? = some (.cells #[x0, x1, x2, x3, x4, x5] e (0, 0))) :
    w.cell? ⟨b, 0, none⟩ = some x0 ∧ w.cell? ⟨b, 1, none⟩ = some x1 ∧ w.cell? ⟨b, 2, none⟩ = some x2 ∧ w.cell? ⟨b, 3, none⟩ = some x3 ∧ w.cell? ⟨b, 4, none⟩ = some x4 ∧ w.cell? ⟨b, 5, none⟩ = some x5 ∧ w.frozen? ⟨b, 5, none⟩ = false :=
  ⟨(cell_of_row w b 0 _ _ _ h).trans rfl, (cell_of_row w b 1 _ _ _ h).trans rfl, (cell_of_row w b 2 _ _ _ h).trans rfl, (cell_of_row w b 3 _ _ _ h).trans rfl, (cell_of_row w b 4 _ _ _ h).trans rfl, (cell_of_row w b 5 _ _ _ h).trans rfl, frozen_of_row w b 5 _ _ h⟩

theorem meth_level (tb : Nat) (w : World) : (method 219 25 (.pointer (some ⟨tb, 0, none⟩)) "Level").run Try.prog w = .ok (12, .pointer (some ⟨tb, 0, none⟩)) w := by kernel_rfl
theorem an_count {w : World} {a ma ms tb nm ns : Nat} {T : Tr} {k : Int} {A' : An}
    (hb : w.heap[a]? = some (.cells #[.map (some ma), .func (.method "Level") #[.iface 25 (.pointer (some ⟨tb, 0, none⟩))] #[], .func (.method "Reason") #[.iface 25 (.pointer (some ⟨tb, 0, none⟩))] #[], .int .i64 T.depth, .map (some ms), .int .i64 k] 74 (0, 0)))
    (hp : PosIs w ma nm T) (hs : SetIs w ms ns A'.set) (hn : ma ≠ ms) : AnAt (w.setCell ⟨a, 5, none⟩ (.int .i64 A'.now)) a ma ms tb nm ns T A' := by
  refine ⟨heap_setCell_same _ a 5 _ _ _ hb, hp.of_block (Below.heap_setCell _ _ _ _ fun e => ?_), hs.of_block (Below.heap_setCell _ _ _ _ fun e => ?_), hn⟩
  · obtain ⟨_, ⟨_, _, hm, _⟩, _⟩ := hp
    rw [show ma = a from e, hb] at hm
    cases hm
  · obtain ⟨_, ⟨_, _, hm, _⟩, _⟩ := hs
    rw [show ms = a from e, hb] at hm
    cases hm
theorem AnAt.stay {w w' : World} {a ma ms tb nm ns ns' : Nat} {T : Tr} {A : An} (e : AnAt w a ma ms tb nm ns T A) (m : Below w.heap.size w w') (h : ns ≤ ns') : AnAt w' a ma ms tb nm ns' T A := by
  have := e.below m
  exact ⟨this.blk, this.pos, this.set.more h, this.ne⟩

set_option maxRecDepth 100000 in
set_option maxHeartbeats 4000000 in
theorem add_any {w : World} {Ft G : Nat → Prop} {a ma ms tb nm ns n c : Nat} {R : Option Addr} {T : Tr} {A : An} {ls : List Int} {ex : Int} (e : AnAt w a ma ms tb nm ns T A) (ht : Trail w Ft tb T) (hta : ¬ Ft a) (hts : ¬ Ft ms)
    (hr : Rd w G 1 (.slice R n c) n (ints ls)) (hG : ∀ g, G g → g ≠ a ∧ g ≠ ms) (hc : Cn T A) (hl : ∀ l ∈ ls, (l.natAbs : Int) = ex ∨ -l ∈ T.lits) (hb : ∀ l ∈ ls, -65536 ≤ l ∧ l ≤ 65536) (hns : ns + ls.length ≤ 1000000) :
    Calls Try.prog 26 #[.pointer (some ⟨a, 0, none⟩), .slice R n c, .int .i64 ex] w fun r w' => r = .returned (.tuple #[]) ∧ AnAt w' a ma ms tb nm (ns + ls.length) T (A.addAll T ex ls) ∧ Mod (fun g => g = a ∨ g = ms) w w' := by
  have hln : ls.length = n := by have := hr.1; simpa [ints_length] using this
  have hn6 : n ≤ 1000000 := by omega
  have hncap : (n : Int) ≤ (c : Int) := by
    obtain ⟨_, A2, c2, hv2, h2, _⟩ := hr
    injection hv2 with _ _ h3
    omega
  have E0 := hid e
  have Ht := hid ht
  have Hwf := hid ht.wf
  have Hr := hid hr
  have HG := hid hG
  have Hc := hid hc
  have Hl := hid hl
  have Hb := hid hb
  have Hln := hid hln
  have hlt0 := lt_of_block e.blk
  have hms := e.set.lt
  clear e ht hr hG hc hl hb hln
  go_enter Try.func26, Try.ntmps26
  go_wp2_with fail
  go_loopw [13] (fun jv W => ∃ j : Nat, j ≤ n ∧ jv = .int .i64 j ∧ Hid (AnAt W a ma ms tb nm (ns + j) T (A.addAll T ex (ls.take j))) ∧ Hid (Mod (fun g => g = a ∨ g = ms) w W)) (fun jv _ => n - (intOf jv).toNat)
  case atStart => exact ⟨0, by omega, rfl, E0, Mod.refl _ _⟩
  case round =>
    obtain ⟨j, hj, rfl, E1, M1⟩ := hrel
    by_cases hlt : j < n
    · have x1 : (j : Int) < (n : Int) := by omega
      obtain ⟨l, hlj⟩ : ∃ l, nth ls j = l := ⟨_, rfl⟩
      have hmem : l ∈ ls := by rw [← hlj]; exact nth_mem (by have := Hln.out; omega)
      obtain ⟨hb1, hb2⟩ := Hb.out l hmem
      obtain ⟨D, hown, hD⟩ := E1.out.set
      have hkey : keyOf Try.prog 3 (.int .i64 l) = some (.int .i64 l) := key_num (by unfold I64; omega)
      obtain ⟨c0, c1, c2, c3, c4, c5, f5⟩ := box6 E1.out.blk
      obtain ⟨g, o, rfl, hg, _, e0⟩ := (Hr.out.mod M1.out fun g _ hg hf => by have := HG.out g hg; omega).cell.2 j hlt
      rw [hlj] at e0
      have T1 := hid (Ht.out.mod M1.out fun g _ hg hf => hf.elim (fun e => hta (e ▸ hg)) (fun e => hts (e ▸ hg)))
      obtain ⟨v, hv⟩ : ∃ v, l.natAbs = v := ⟨_, rfl⟩
      have hmx : (if l < -l then -l else l) = (v : Int) := by split <;> omega
      have hsz := M1.out.size
      have na : (a = wr.heap.size) = False := by simp; omega
      have na' : (wr.heap.size = a) = False := by simp; omega
      have hwn : IntKind.i64.wrap (-l) = -l := iw' (by omega) (by omega)
      have hnx : (A.addAll T ex (ls.take (j + 1))) = An.one T ex (A.addAll T ex (ls.take j)) l := by
        have : ls.take (j + 1) = ls.take j ++ [l] := by rw [take_nth (by have := Hln.out; omega), hlj]
        rw [this, An.addAll_snoc]
      have Hnx := hid hnx
      obtain ⟨A1, hA1⟩ : ∃ A1, A.addAll T ex (ls.take j) = A1 := ⟨_, rfl⟩
      rw [hA1] at E1 Hnx
      simp only [hA1] at hD
      have HA1 := hid hA1
      clear hA1
      have hDl := hD l (by unfold I64; omega)
      have HD := hid hD
      have Hown := hid hown
      clear hnx hD hown hlj E0
      have hm1 := hid (meth_level tb)
      have hlm := meth_level tb
      have BA : Below wr.heap.size wr (wr.alloc (.cells #[] 75)) := (Below.refl _ _).alloc (Nat.le_refl _) _
      have hcl := Hl.out l hmem
      have Hcl := hid hcl
      have M2 : Hid (Mod (fun g => g = a ∨ g = ms) w (wr.alloc (.cells #[] 75))) := M1.out.alloc _
      clear hcl hm1
      cases q1 : A1.set l
      · rw [q1] at hDl
        cases q2 : ((v : Int) == ex)
        · obtain ⟨lv, hlv⟩ : ∃ lv, T.levelOf (v : Int) = lv := ⟨_, rfl⟩
          have hlv2 : T.lvOf l = lv := by unfold Tr.lvOf; rw [hv]; exact hlv
          cases q3 : (lv == 0)
          · have hone : Hid (An.one T ex A1 l = ⟨fun x => A1.set x || decide (x = l), if lv = T.depth then A1.now + 1 else A1.now⟩) := by
              unfold An.one
              rw [if_neg (by rw [hlv2, hv, q1]; simp only [not_or]; exact ⟨by simp, by simpa using q2, by simpa using q3⟩), hlv2]
              exact hid rfl
            go_wp2_with (at_lookup; refine wpList_lookup_own_unit _ rfl _ _ 72 rfl 3 75 keyed_int Try.underlying72 (zero_unit _) ms _ D rfl Hown.out _ _ rfl hkey ?_)
            refine (level_any (T1.out.below BA)).mono ?_
            rintro r w2 ⟨rfl, b2⟩
            rw [hlv]
            have B2 : Below wr.heap.size wr w2 := BA.trans (b2.mono (by simp))
            have E2 := E1.out.below B2
            have hown2 := owns_block Hown.out (B2.block ms E1.out.set.lt)
            obtain ⟨d0, d1, d2, d3, d4, d5, _⟩ := box6 E2.blk
            have Hpos := hid E2.pos
            have Hne := E2.ne
            have hlt2 := lt_of_block E2.blk
            have Hblk := hid E2.blk
            go_wp2_with (at_mapUpdate; refine wpList_mapUpdate_own _ rfl _ _ _ 72 rfl 3 75 keyed_int Try.underlying72 (unitElem (H := Unit)) ms _ D rfl hown2 (by unfold maxLen; omega) _ _ _ rfl rfl hkey _ [] unitElem_mk ?_; intro w3 hown3 hgrow3)
            have M3 : Mod (fun g => g = ms) w2 w3 := grown_mod hgrow3
            have hams : a ≠ ms := fun e => by
              obtain ⟨_, _, hm, _⟩ := hown2
              rw [← e, Hblk.out] at hm
              cases hm
            have G3 : w3.heap[a]? = _ := (M3.block a hlt2 hams).trans Hblk.out
            have S3 : Hid (SetIs w3 ms (ns + j + 1) (fun x => A1.set x || decide (x = l))) := SetIs.put hown2 HD.out (by unfold I64; omega) hown3
            have P3 : Hid (PosIs w3 ma nm T) := Hpos.out.of_block (M3.block ma Hpos.out.lt Hne)
            have T3 := hid ((T1.out.below B2).mod M3 fun g _ hg hf => hts (hf ▸ hg))
            have N3 : Hid (Mod (fun g => g = a ∨ g = ms) w w3) := (M2.out.trans (Mod.of_below b2)).trans (M3.mono fun g _ hg => .inl (.inr hg))
            have s3 := M3.size
            clear c0 c1 c2 c3 c4 c5 f5 d0 d1 d2 d3 d4 d5 hown2 hown3 hgrow3 E2 BA b2 M3
            obtain ⟨c0, c1, c2, c3, c4, c5, f5⟩ := box6 G3
            have hlt3 := lt_of_block G3
            have HG3 := hid G3
            go_wp2_with fail
            go_region_held3 (fun w' => w'.cell? ⟨a, 1, none⟩ = some (.func (.method "Level") #[.iface 25 (.pointer (some ⟨tb, 0, none⟩))] #[]) ∧ w'.cell? ⟨a, 3, none⟩ = some (.int .i64 T.depth))
              (first | go_keep | exact ⟨(b4.cell (p := ⟨a, 1, none⟩) (by simp; omega)).trans c1, (b4.cell (p := ⟨a, 3, none⟩) (by simp; omega)).trans c3⟩)
              ((go_at_call 12; refine (level_any T3.out.drew).mono ?_; rintro r w4 ⟨rfl, b4⟩))
            have B4 : Below w3.heap.size w3 w4 := (Below.refl _ _).drew.trans b4
            have G4 := (B4.block a hlt3).trans HG3.out
            have S4 : Hid (SetIs w4 ms (ns + j + 1) (fun x => A1.set x || decide (x = l))) := S3.out.of_block (B4.block ms S3.out.lt)
            have P4 : Hid (PosIs w4 ma nm T) := P3.out.of_block (B4.block ma P3.out.lt)
            have N4 : Hid (Mod (fun g => g = a ∨ g = ms) w w4) := N3.out.trans (Mod.of_below B4)
            clear c0 c1 c2 c3 c4 c5 f5 S3 P3 N3 b4 T3 G3 HG3
            obtain ⟨c0, c1, c2, c3, c4, c5, f5⟩ := box6 G4
            have HG4 := hid G4
            have hlt4 := lt_of_block G4
            clear G4
            cases q4 : (lv == (T.depth : Int))
            · have hd : ¬ lv = T.depth := by simpa using q4
              rw [if_neg hd] at hone
              have hone := hid hone
              go_wp2_with fail
              go_roundw
              case rel => exact ⟨j + 1, by omega, by go_num, by rw [Hnx.out, hone.out.out]; exact ⟨HG4.out, P4.out, S4.out, Hne⟩, N4⟩
              case measure => simp [intOf]; omega
            · have hd : lv = T.depth := by simpa using q4
              rw [if_pos hd] at hone
              have hone := hid hone
              have hcn := (Cn.addAll (ls := ls.take j) Hwf.out Hc.out fun x hx => Hl.out x (List.mem_of_mem_take hx))
              rw [HA1.out] at hcn
              have hc1 := hcn.lo
              have hc2 := hcn.hi
              have hc3 := cntNow_le T A1
              have hc4 := Hwf.out.len
              have hc5 := Hwf.out.vars
              have hc6 : T.lits.length = T.L.length := by simp [Tr.lits]
              have hwp : IntKind.i64.wrap (A1.now + 1) = A1.now + 1 := iw' (by omega) (by omega)
              clear hd
              go_wp2_with fail
              go_roundw
              case rel =>
                refine ⟨j + 1, by omega, by go_num, ?_, N4.out.setCell (p := ⟨a, 5, none⟩) (.inl (.inl rfl)) _⟩
                rw [Hnx.out, hone.out.out]
                exact an_count (A' := ⟨fun x => A1.set x || decide (x = l), A1.now + 1⟩) HG4.out P4.out S4.out Hne
              case measure => simp [intOf]; omega
          · have hone : Hid (An.one T ex A1 l = A1) := by
              unfold An.one
              rw [if_pos (.inr (.inr (by rw [hlv2]; simpa using q3)))]
              exact hid rfl
            go_wp2_with (at_lookup; refine wpList_lookup_own_unit _ rfl _ _ 72 rfl 3 75 keyed_int Try.underlying72 (zero_unit _) ms _ D rfl Hown.out _ _ rfl hkey ?_)
            refine (level_any (T1.out.below BA)).mono ?_
            rintro r w2 ⟨rfl, b2⟩
            rw [hlv]
            go_wp2_with fail
            go_roundw
            case rel => exact ⟨j + 1, by omega, by go_num, by rw [Hnx.out, hone.out]; exact E1.out.stay (BA.trans (b2.mono (by simp))) (by omega), M2.out.trans (Mod.of_below b2)⟩
            case measure => simp [intOf]; omega
        · have hone : Hid (An.one T ex A1 l = A1) := by
            unfold An.one
            rw [if_pos (.inr (.inl (by rw [hv]; simpa using q2)))]
            exact hid rfl
          go_wp2_with (at_lookup; refine wpList_lookup_own_unit _ rfl _ _ 72 rfl 3 75 keyed_int Try.underlying72 (zero_unit _) ms _ D rfl Hown.out _ _ rfl hkey ?_)
          go_roundw
          case rel => exact ⟨j + 1, by omega, by go_num, by rw [Hnx.out, hone.out]; exact E1.out.stay BA (by omega), M2⟩
          case measure => simp [intOf]; omega
      · rw [q1] at hDl
        have hone : Hid (An.one T ex A1 l = A1) := by
          unfold An.one
          rw [if_pos (.inl q1)]
          exact hid rfl
        go_wp2_with (at_lookup; refine wpList_lookup_own_unit _ rfl _ _ 72 rfl 3 75 keyed_int Try.underlying72 (zero_unit _) ms _ D rfl Hown.out _ _ rfl hkey ?_)
        go_roundw
        case rel => exact ⟨j + 1, by omega, by go_num, by rw [Hnx.out, hone.out]; exact E1.out.stay BA (by omega), M2⟩
        case measure => simp [intOf]; omega
    · have x1 : ((j : Int) < (n : Int)) = False := by simp; omega
      have ejn : j = n := by omega
      have e : Hid (ls.take j = ls) := hid (List.take_of_length_le (by have := Hln.out; omega))
      rw [e.out] at E1
      go_wp2_with fail
      go_end0
      exact ⟨rfl, by rw [Hln.out, ← ejn]; exact E1.out, M1.out⟩
end Go.Proofs.Ytanhacdadgbjdaa
