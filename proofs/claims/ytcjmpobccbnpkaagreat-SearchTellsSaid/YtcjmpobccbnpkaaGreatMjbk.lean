/-
 Chapter 32: several texts in one (SeV).
-/
import Derived.Test.YtcjmpobccbnpkaaGreatMjbj
import Derived.Test.YtcjmpobccbnpkaaGreatMjbg
import Derived.Test.YtcjmpobccbnpkaaGreatMjbi
namespace Go.Proofs.YtcjmpobccbnpkaaGreat
section
open Go.RowKit
theorem wpList_append_q {w : World} {ops : Array Oper} {rest : List Oper} {o : Oper} {a : Act} {Q : Exit → Act → World → Prop} (hgd : o.guard = none) (s x : Operand)
  (ho : o.op = .call { callee := .builtin .append, args := #[s, x], argTypes := #[23, 23] }) {F G : Nat → Prop} {v u : Value} {qs : List Int} {y : Int}
  (hv : Qu w F v qs) (hu : Rd w G 1 u 1 (ints [y])) (hs : a.eval s = v) (hx : a.eval x = u) (hn : qs.length ≤ 1000000)
  (hK : ∀ A c w', Qu w' (fun g => F g ∨ w.heap.size ≤ g) (.slice A (qs.length + 1) c) (qs ++ [y]) → Mod (row v) w w' → (∀ g, row (.slice A (qs.length + 1) c) g → row v g ∨ w.heap.size ≤ g) → wpList Tryz.prog ops Q rest (a.put o.dst (.slice A (qs.length + 1) c)) w') :
  wpList Tryz.prog ops Q (o :: rest) a w := by
 refine wpList_plain hgd fun _ hK' => ?_
 obtain ⟨A, c, w', hr, h2, h3, h4⟩ := hv.append hu hn o.type
 unfold Oper.wp execOp
 simp only [ho, resolve, invoke, builtin, Sem.run_bind, Sem.run_pure, Result.andThen_ok, List.map_toArray, List.map_cons, List.map_nil, hs, hx, hr]
 exact hK' _ _ (hK A c w' h2 h3 h4)
structure NewTo (S N : List Nat) (xs : List Int) : Prop where
 nodup : (S ++ N).Nodup
 mem : ∀ n, n ∈ N ↔ n ∉ S ∧ ∃ x ∈ xs, x.natAbs = n
theorem NewTo.nil {S : List Nat} (h : S.Nodup) : NewTo S [] [] := ⟨by simpa using h, fun n => by simp⟩
theorem NewTo.old {S N : List Nat} {xs : List Int} (h : NewTo S N xs) {x : Int} (hx : x.natAbs ∈ S ++ N) : NewTo S N (xs ++ [x]) := by
 refine ⟨h.nodup, fun n => ?_⟩
 rw [h.mem]
 constructor
 ·rintro ⟨h1, y, hy, e⟩
  exact ⟨h1, y, List.mem_append_left _ hy, e⟩
 ·rintro ⟨h1, y, hy, e⟩
  refine ⟨h1, ?_⟩
  rcases List.mem_append.1 hy with hy | hy
  ·exact ⟨y, hy, e⟩
  ·rw [List.mem_singleton.1 hy] at e
   rcases List.mem_append.1 hx with hx | hx
   ·exact absurd (e ▸ hx) h1
   ·exact e ▸ ((h.mem _).1 hx).2
theorem NewTo.new {S N : List Nat} {xs : List Int} (h : NewTo S N xs) {x : Int} (hx : x.natAbs ∉ S ++ N) : NewTo S (N ++ [x.natAbs]) (xs ++ [x]) := by
 refine ⟨by rw [← List.append_assoc]; exact nodup_snoc h.nodup hx, fun n => ?_⟩
 rw [List.mem_append, List.mem_singleton, h.mem]
 constructor
 ·rintro (⟨h1, y, hy, e⟩ | rfl)
  ·exact ⟨h1, y, List.mem_append_left _ hy, e⟩
  ·exact ⟨fun h2 => hx (List.mem_append_left _ h2), x, List.mem_append_right _ (List.mem_singleton.2 rfl), rfl⟩
 ·rintro ⟨h1, y, hy, e⟩
  rcases List.mem_append.1 hy with hy | hy
  ·exact .inl ⟨h1, y, hy, e⟩
  ·rw [List.mem_singleton.1 hy] at e
   exact .inr e.symm
theorem ent_facts {T : Tr} (hw : T.WF) {e : Ent} (he : e ∈ T.L) : T.reasonOf (e.v : Nat) = e.reason ∧ T.levelOf (e.v : Nat) = e.level ∧ (e.reason = [] → 1 ≤ e.level) ∧ ((T.value (e.v : Nat) = 1 ∧ e.lit = (e.v : Nat)) ∨ (T.value (e.v : Nat) = -1 ∧ e.lit = -((e.v : Nat) : Int))) ∧ 1 ≤ e.v ∧ e.v ≤ 65536 ∧ ∀ x ∈ e.reason, ∃ f ∈ T.L, f.v = x.natAbs := by
 obtain ⟨i, hi, e1⟩ := List.getElem_of_mem he
 have he2 : T.L[i]? = some e := by rw [List.getElem?_eq_getElem hi, e1]
 have hv := hw.lit e he
 have hv1 := hw.vars
 have hmem : e.lit ∈ T.lits := List.mem_map.2 ⟨e, he, rfl⟩
 refine ⟨by simp [Tr.reasonOf, hw.idx he2, he2], Tr.level_of hw he2, fun hr => ?_, ?_, ?_, by omega, fun x hx => ?_⟩
 ·have hs : i ∈ T.starts := Classical.byContradiction fun hs => by
   have := ((hw.reason i e he2).2 hs).1
   rw [hr] at this
   cases this
  rw [hw.level i e he2]
  exact List.length_pos_of_mem (List.mem_filter.2 ⟨hs, by simp⟩)
 ·rcases Int.natAbs_eq e.lit with h1 | h1
  ·refine .inl ⟨?_, h1⟩
   unfold Tr.value Ent.v
   rw [← h1, if_pos hmem]
  ·refine .inr ⟨?_, h1⟩
   have h2 : ((e.v : Nat) : Int) = -e.lit := by unfold Ent.v; omega
   rw [h2, Tr.value_is]
   unfold valX
   rw [if_neg (hw.okX _ hmem), Int.neg_neg, if_pos hmem]
 ·unfold Ent.v
  omega
 ·by_cases hs : i ∈ T.starts
  ·rw [(hw.reason i e he2).1 hs] at hx
   cases hx
  ·rcases ((hw.reason i e he2).2 hs).2 x hx with h1 | ⟨j, _, f, hf, h1⟩
   ·exact ⟨e, he, by rw [h1]; rfl⟩
   ·exact ⟨f, List.mem_of_getElem? hf, by unfold Ent.v; rw [h1, Int.natAbs_neg]⟩
theorem NewTo.len {S N : List Nat} {xs : List Int} (h : NewTo S N xs) : N.length ≤ xs.length := by
 have := List.Nodup.length_le_of_subset (List.nodup_append.1 h.nodup).2.1 (l₂ := xs.map Int.natAbs) fun n hn => by
  obtain ⟨_, x, hx, e⟩ := (h.mem n).1 hn
  exact List.mem_map.2 ⟨x, hx, e⟩
 simpa using this
def ofs (Q : List Nat) : List Int := Q.map fun v : Nat => (v : Int)
structure CoreW (B q0 q2 : Nat) (T : Tr) (a : Int) (W : World) (A : Option Addr) (n c : Nat) (P Q : List Nat) (mt bl : Int → Int) : Prop where
 qu : Qu W (fun g => B ≤ g) (.slice A n c) (ofs Q)
 met : MapF W q0 mt
 blm : MapF W q2 bl
 st : CoreSt T a P Q fun l => 0 < bl l
 ms : ∀ v : Nat, mt v ≠ 0 ↔ v ∈ P ++ Q
 mr : ∀ v, 0 ≤ mt v ∧ mt v ≤ 1
 br : ∀ l, 0 ≤ bl l ∧ bl l ≤ P.length + 1
 len : Q.length = n
theorem Qu.not_map {w : World} {F : Nat → Prop} {v : Value} {qs : List Int} {m : Nat} {f : Int → Int} (h : Qu w F v qs) (hm : MapF w m f) {g : Nat} (hr : Go.Proofs.YtcjmpobccbnpkaaGreat.row v g) : g ≠ m := fun e => by
 obtain ⟨_, _, cur, h1⟩ := h.row hr
 obtain ⟨es, clock, h2, _⟩ := hm
 rw [e, h2] at h1
 cases h1
theorem ofs_snoc (Q : List Nat) (v : Nat) : ofs (Q ++ [v]) = ofs Q ++ [(v : Int)] := by simp [ofs]
theorem CoreW.next {B q0 q2 n c n' c' v : Nat} {T : Tr} {a : Int} {W W' : World} {A A' : Option Addr} {P Q N : List Nat} {mt bl mt' bl' : Int → Int} {e : Ent} (C : CoreW B q0 q2 T a W A n c P (v :: Q) mt bl) (hw : T.WF) (he : e ∈ T.L) (hev : e.v = v) (hN : NewTo (P ++ v :: Q) N e.reason)
  (qu : Qu W' (fun g => B ≤ g) (.slice A' n' c') (ofs (Q ++ N))) (met : MapF W' q0 mt') (blm : MapF W' q2 bl') (hmt : ∀ u : Nat, mt' u ≠ 0 ↔ u ∈ (P ++ v :: Q) ++ N) (hmr : ∀ v, 0 ≤ mt' v ∧ mt' v ≤ 1) (hbl : (e.reason ≠ [] ∧ bl' = bl) ∨ (e.reason = [] ∧ bl' = putF bl e.lit (bl e.lit + 1))) (hlen : (Q ++ N).length = n') :
  CoreW B q0 q2 T a W' A' n' c' (P ++ [v]) (Q ++ N) mt' bl' where
 qu := qu
 met := met
 blm := blm
 st := C.st.step hw he hev hN.nodup hN.mem (ent_facts hw he).2.2.2.2.2.2 fun l => by
  rcases hbl with ⟨h1, rfl⟩ | ⟨h1, rfl⟩
  ·simp [h1]
  ·unfold putF
   have := C.br e.lit
   split
   ·rename_i h2
    rw [h2]
    simp [h1]
    omega
   ·rename_i h2
    simp [h1, Ne.symm h2]
 ms := fun u => by
  rw [hmt]
  simp
 mr := hmr
 br := fun l => by
  have := C.br l
  have h0 := C.br e.lit
  rw [List.length_append, List.length_singleton]
  rcases hbl with ⟨_, rfl⟩ | ⟨_, rfl⟩
  ·omega
  ·unfold putF
   split <;> omega
 len := hlen
set_option maxRecDepth 100000 in
set_option maxHeartbeats 8000000 in
theorem score_any {w : World} {F Ga : Nat → Prop} {rb sb tb na ca : Nat} {Aa : Option Addr} {T : Tr} {asm : List Int} {a : Int} (r0 : w.cell? ⟨rb, 0, none⟩ = some (.pointer (some ⟨sb, 0, none⟩))) (r1 : w.cell? ⟨rb, 1, none⟩ = some (.slice Aa na ca)) (z1 : w.cell? ⟨sb, 1, none⟩ = some (.pointer (some ⟨tb, 0, none⟩))) (hrl : rb < w.heap.size) (hsl' : sb < w.heap.size)
  (ht : Trail w F tb T) (hasm : Rd w Ga 1 (.slice Aa na ca) na (ints asm)) (ha : -a ∈ T.lits) (hab : ∀ x ∈ asm, -65536 ≤ x ∧ x ≤ 65536) (hsh : ∀ e ∈ T.L, e.reason.length ≤ 9) (hna : na ≤ 1000000) :
  Calls Tryz.prog 98 #[.pointer (some ⟨rb, 0, none⟩), .int .i64 a] w fun r w' => (∃ A n c, r = .returned (.slice A n c) ∧ ∃ B, Rd w' (fun g => w.heap.size ≤ g) 1 (.slice A n c) n (ints (coreOut B asm)) ∧ ∃ P, CoreSt T a P [] fun l => B l = true) ∧ Below w.heap.size w w' := by
 obtain ⟨q0, hq0⟩ : ∃ q, w.heap.size = q := ⟨_, rfl⟩
 obtain ⟨ba1, ba2⟩ := lits_small ht.wf ha
 have hmxa := max_abs (show -65536 ≤ a ∧ a ≤ 65536 by omega)
 have hwna : IntKind.i64.wrap (-a) = -a := iw' (by omega) (by omega)
 obtain ⟨X0, hX0, bX0, kX0, sX0⟩ := alloc_step w (.map #[] 0)
 have f0 := MapF.made w
 rw [hX0, hq0] at f0
 rw [hq0] at sX0 bX0
 obtain ⟨X1, hX1, bX1, kX1, sX1⟩ := alloc_step X0 (.cells #[.int .i64 (a.natAbs : Nat)] 3)
 rw [sX0] at kX1 sX1 bX1
 have g1 := (f0.below (by rw [sX0]; exact bX1)).get (a.natAbs : Nat)
 obtain ⟨X2, u2, f2, m2⟩ := (f0.below (by rw [sX0]; exact bX1)).put (a.natAbs : Nat) 1
 obtain ⟨q2, hq2⟩ : ∃ q, X2.heap.size = q := ⟨_, rfl⟩
 obtain ⟨X3, hX3, bX3, kX3, sX3⟩ := alloc_step X2 (.map #[] 0)
 have f3 := MapF.made X2
 rw [hX3, hq2] at f3
 rw [hq2] at sX3 bX3
 obtain ⟨X4, u4, f4, m4⟩ := f3.put a 1
 have hs2 := m2.size
 have hs4 := m4.size
 have K1 := hid (show X4.heap[q0 + 1]? = some (.cells #[.int .i64 (a.natAbs : Nat)] 3) from (m4.block _ (by omega) (by omega)).trans ((bX3.block _ (by omega)).trans ((m2.block _ (by omega) (by omega)).trans kX1)))
 have f2 := (f2.below (by rw [hq2]; exact bX3)).keep (m4.block q0 (by omega) (by omega))
 have B4 : Hid (Below q0 w X4) := hid (by
  have b1 : Below q0 w X1 := bX0.trans (bX1.mono (by omega))
  have b2 := below_mod b1 (by omega) m2 fun g hg => by omega
  have b3 := b2.trans (bX3.mono (by omega))
  exact below_mod b3 (by omega) m4 fun g hg => by omega)
 have R0 := hid r0
 have R1 := hid r1
 have Z1 := hid z1
 have Ht := hid ht
 have Hasm := hid hasm
 have Ha := hid ha
 have Hab := hid hab
 have Hsh := hid hsh
 have F2 := hid f2
 have F4 := hid f4
 have Hq0 := hid hq0
 have Hq2 := hid hq2
 have HX0 := hid hX0
 have HX1 := hid hX1
 have HX3 := hid hX3
 rw [← hX1, ← hX0] at g1 u2
 rw [← hX3] at u4
 clear ht hasm ha hab hsh f2 f4 kX0 kX1 kX3 bX0 bX1 bX3 f0 f3 r0 r1 z1 hX0 hX1 hX3
 have hmm := @run_makeMap Tryz.prog
 go_enter Tryz.func98, Tryz.ntmps98
 go_wp2_with fail
 have hB : ∀ {W : World}, Below q0 w W → Below w.heap.size w W := fun h => by rw [hq0]; exact h
 have hBt : ∀ {W W' : World}, Below q0 w W → Below W.heap.size W W' → Below q0 w W' := fun h1 h2 => h1.trans (h2.mono (by rw [← hq0]; exact h1.size))
 have hq02 : q0 + 1 < q2 := by omega
 clear hq0 hq2 sX0 sX1 sX3 u2 u4 g1 hmm hmxa hwna m2 m4
 have C0 : Hid (CoreW q0 q0 q2 T a X4 (some ⟨q0 + 1, 0, none⟩) 1 1 [] [a.natAbs] (putF (fun _ => 0) (a.natAbs : Nat) 1) (putF (fun _ => 0) a 1)) := hid {
  qu := Qu.one K1.o (by omega)
  met := F2.o
  blm := F4.o
  st := by
   have := CoreSt.first Ha.o
   refine { this with blame := fun l => ?_ }
   rw [← this.blame l]
   unfold putF
   split <;> simp_all
  ms := fun v => by unfold putF; split <;> simp <;> omega
  mr := fun v => by unfold putF; split <;> simp
  br := fun l => by unfold putF; split <;> simp
  len := rfl }
 go_loopg [6] (T.L.length) (fun k qv W => ∃ (A : Option Addr) (n c : Nat) (P Q : List Nat) (mt bl : Int → Int), qv = .slice A n c ∧ Hid (P.length + k = T.L.length) ∧ Hid (CoreW q0 q0 q2 T a W A n c P Q mt bl) ∧ Hid (Below q0 w W))
 case atStart => exact ⟨_, 1, 1, [], [a.natAbs], _, _, rfl, hid (by simp), C0, B4⟩
 case round =>
  obtain ⟨A, n, c, P, Q, mt, bl, rfl, Hk, C, B⟩ := hrel
  have r0 := (World.cell?_of_block (B.o.block rb (by rw [← Hq0.o]; exact hrl))).trans R0.o
  have r1 := (World.cell?_of_block (B.o.block rb (by rw [← Hq0.o]; exact hrl))).trans R1.o
  have z1 := (World.cell?_of_block (B.o.block sb (by rw [← Hq0.o]; exact hsl'))).trans Z1.o
  cases n with
  | zero =>
   have hQ : Q = [] := List.eq_nil_of_length_eq_zero C.o.len
   have hst := C.o.st
   rw [hQ] at hst
   have Hst : Hid (CoreSt T a P [] fun l => (fun l => decide (0 < bl l)) l = true) := hid (by simpa using hst)
   obtain ⟨Bf, hBf⟩ : ∃ Bf : Int → Bool, (fun l => decide (0 < bl l)) = Bf := ⟨_, rfl⟩
   have HBf : Hid (∀ l, Bf l = decide (0 < bl l)) := hid fun l => by rw [← hBf]
   rw [hBf] at Hst
   have Hbl := hid C.o.blm
   have Hbr := hid C.o.br
   have HP := hid (C.o.st.len Ht.o.wf)
   have Hasm2 := hid (Hasm.o.below (hB B.o))
   have hln : asm.length = na := by have := Hasm.o.1; simpa [ints_length] using this
   have hncap : (na : Int) ≤ (ca : Int) := by
    obtain ⟨_, A2, c2, hv2, h2, _⟩ := Hasm.o
    injection hv2 with _ _ h3
    omega
   have hnl := Hasm.o.len
   unfold maxLen at hnl
   have hTL : T.L.length ≤ 65536 := by have := Ht.o.wf.len; have := Ht.o.wf.vars; omega
   have hwsz : q0 ≤ wr.heap.size := by rw [← Hq0.o]; exact B.o.size
   have hbq : q2 < wr.heap.size := C.o.blm.lt
   have Hln := hid hln
   obtain ⟨zw, hzw⟩ : ∃ z, wr.heap.size = z := ⟨_, rfl⟩
   have Hzw := hid hzw
   rw [hzw] at hwsz hbq
   clear hQ hst hBf hln hzw
   go_wp2_with fail
   go_loopw [13, 105] (fun ov jv W => ∃ (j : Nat) (A5 : Option Addr) (c5 : Nat) (xs : List Int), j ≤ na ∧ jv = .int .i64 j ∧ ov = .slice A5 xs.length c5 ∧ Hid (xs = coreOut Bf (asm.take j)) ∧ Hid (Own W (fun g => zw ≤ g) 3 1 (.slice A5 xs.length c5) xs.length (ints xs)) ∧ Hid (Below zw wr W)) (fun _ jv _ => na - (intOf jv).toNat)
   case atStart => exact ⟨0, none, 0, [], Nat.zero_le _, rfl, rfl, rfl, Own.nil _ _ _ _, Below.refl _ _⟩
   case round =>
    obtain ⟨j, A5, c5, xs, jn, rfl, rfl, Hxs, Ho, B5⟩ := hrel
    have Hbl5 := hid (Hbl.o.keep (B5.o.block q2 hbq))
    have hszs : zw ≤ wr.heap.size := by rw [← Hzw.o]; exact B5.o.size
    rcases Nat.lt_or_ge j na with h1 | h1
    ·have hjl : j < asm.length := by rw [Hln.o]; exact h1
     obtain ⟨ga, oa, rfl, hga, _, e0⟩ := (Hasm2.o.keep B5.o.size fun g hg _ => B5.o.block g (by rw [← Hzw.o]; exact hg)).cell.2 j h1
     obtain ⟨l, hl⟩ : ∃ l, nth asm j = l := ⟨_, rfl⟩
     have htk : Hid (coreOut Bf (asm.take (j + 1)) = if Bf l && !decide (l ∈ xs) then xs ++ [l] else xs) := hid (by rw [take_nth hjl, hl, coreOut_snoc, ← Hxs.o])
     rw [hl] at e0
     have hjn : (j : Int) < (na : Int) := by omega
     have hget := Hbl5.o.get l
     have hbr := Hbr.o l
     have hP := HP.o
     rw [List.length_append] at hP
     have hBl := HBf.o l
     obtain ⟨bz, hbz⟩ : ∃ z, bl l = z := ⟨_, rfl⟩
     rw [hbz] at hget hbr hBl
     have HBl := hid hBl
     clear hl hbz hBl hP
     by_cases hb : 0 < bz
     ·have hb1 : bz > 0 := hb
      have hBt1 : Hid (Bf l = true) := hid (by rw [HBl.o]; exact decide_eq_true hb)
      go_wp2_with fail
      refine (contains_any Ho.o.rd (x := l)).mono ?_
      rintro r w8 ⟨rfl, rfl⟩
      by_cases hm : l ∈ xs
      ·have hx : xs.any (l == ·) = true := List.any_eq_true.2 ⟨l, hm, by simp⟩
       have Hf : Hid (xs = coreOut Bf (asm.take (j + 1))) := hid (by rw [htk.o, hBt1.o]; simp [hm])
       rw [hx]
       clear hm hx
       go_wp2_with fail
       go_roundw
       case rel => exact ⟨j + 1, A5, c5, xs, by omega, by go_num, rfl, Hf, Ho, B5⟩
       case measure => simp [intOf]; omega
      ·have hx : xs.any (l == ·) = false := by
        rw [List.any_eq_false]
        intro y hy e
        have : l = y := by simpa using e
        exact hm (this ▸ hy)
       have Hf : Hid (xs ++ [l] = coreOut Bf (asm.take (j + 1))) := hid (by rw [htk.o, hBt1.o]; simp [hm])
       rw [hx]
       have hxl : xs.length ≤ na := by
        have := (coreOut_sub Bf (asm.take j)).length_le
        rw [← Hxs.o, List.length_take] at this
        omega
       clear hm hx
       go_wp2_with (at_builtin; refine wpList_append_ints rfl _ _ rfl (Ho.o.below ((Below.refl _ _).alloc (Nat.le_refl _) _)) (own_one wr (.int .i64 l)).rd rfl rfl (by simp [Value.oneCell']) (by omega) ?_; intro Av cv w9 ho9 hm9 hr9)
       go_roundw
       case rel =>
        refine ⟨j + 1, Av, cv, xs ++ [l], by omega, by go_num, by simp, Hf, ?_, ?_⟩
        ·rw [ints_append, List.length_append]
         exact ho9.mono fun g _ _ hg => hg.elim id fun hg => by simp at hg; omega
        ·exact below_mod (B5.o.alloc hszs _) (by simp; omega) hm9 fun g hg => (Ho.o.row hg).1
       case measure => simp [intOf]; omega
     ·have hb1 : ¬ (bz > 0) := hb
      have Hf : Hid (xs = coreOut Bf (asm.take (j + 1))) := hid (by rw [htk.o, HBl.o]; simp [hb])
      go_wp2_with fail
      go_roundw
      case rel => exact ⟨j + 1, A5, c5, xs, by omega, by go_num, rfl, Hf, Ho, B5⟩
      case measure => simp [intOf]; omega
    ·have hjn : ¬ ((j : Int) < (na : Int)) := by omega
     have Hf : Hid (xs = coreOut Bf asm) := hid (by rw [Hxs.o, List.take_of_length_le (by rw [Hln.o]; exact h1)])
     go_wp2_with fail
     go_ret
     refine ⟨⟨A5, _, c5, rfl, Bf, ?_, P, Hst.o⟩, ?_⟩
     ·rw [← Hf.o, Hq0.o]
      exact Ho.o.rd.mono fun g _ hg => by omega
     ·rw [Hq0.o]
      exact B.o.trans (B5.o.mono hwsz)
  | succ n =>
   obtain ⟨v, Q', hQ⟩ : ∃ v Q', Q = v :: Q' := by
    cases Q with
    | nil => have := C.o.len; simp at this
    | cons v Q' => exact ⟨v, Q', rfl⟩
   subst hQ
   have hln : Q'.length = n := by have := C.o.len; simpa using this
   obtain ⟨g, off, cap, hv, hcap, e0, hq⟩ := Qu.head (x := v) (qs := ofs Q') C.o.qu
   have hol : (ofs Q').length = n := by unfold ofs; rw [List.length_map]; exact hln
   rw [hol] at hv hcap hq
   injection hv with hA _ hc
   subst hA
   subst hc
   obtain ⟨A2, hA2⟩ : ∃ A2, (some (if c = 1 then (⟨g, off, none⟩ : Addr) else ⟨g, off + 1, none⟩)) = A2 := ⟨_, rfl⟩
   rw [hA2] at hq
   have hsl : ∀ W : World, (Instr.sliceAt 23 (.slice (some ⟨g, off, none⟩) (n + 1) c) (some (.int .i64 1)) none none).run Tryz.prog W = .ok (.slice A2 n (c - 1)) W := fun W => by
    rw [← hA2]
    go_simp
    rw [if_pos (by omega)]
    by_cases h : c = 1 <;> simp [h, ← hA2]
   obtain ⟨e, heL, hev⟩ := C.o.st.on v (List.mem_append_right _ (List.mem_cons_self ..))
   obtain ⟨x1, x2, x3, x4, x5, x6, x7⟩ := ent_facts Ht.o.wf heL
   rw [hev] at x1 x2 x4 x5 x6
   have Hq := hid hq
   have hn0 : (((n + 1 : Nat) : Int) > 0) := by omega
   have hn1 : (0 : Int) < ((n + 1 : Nat) : Int) := by omega
   have Hev := hid hev
   have Hhe := hid heL
   have Hx7 := hid x7
   have Hx3 := hid x3
   have Hx1 := hid x1
   clear hq hA2 hev heL x7 x3 x1
   go_wp2_with fail
   refine (reason_any (Ht.o.below (hB B.o)) (v := (v : Int)) (by rw [Hx1.o]; have := Hsh.o e Hhe.o; omega)).mono ?_
   rintro r w1 ⟨⟨u, rfl, hu⟩, b1⟩
   rw [Hx1.o] at hu
   obtain ⟨Au, cu, rfl, hcu, _⟩ := hu.form
   have hru := hu.rd
   have s1 := b1.size
   have Hq1 := hid ((Hq.o.mono (G := fun g => q0 ≤ g ∧ g < wr.heap.size) fun g hg h => ⟨h, hg⟩).below b1)
   have Hru := hid (hru.mono (G := fun g => wr.heap.size ≤ g ∧ g < w1.heap.size) fun g hg h => ⟨h, hg⟩)
   have B1 := hid (hBt B.o b1)
   have Hmet := hid (C.o.met.below b1)
   have Hblm := hid (C.o.blm.below b1)
   have r0 := (World.cell?_of_block (B1.o.block rb (by rw [← Hq0.o]; exact hrl))).trans R0.o
   have r1 := (World.cell?_of_block (B1.o.block rb (by rw [← Hq0.o]; exact hrl))).trans R1.o
   have z1 := (World.cell?_of_block (B1.o.block sb (by rw [← Hq0.o]; exact hsl'))).trans Z1.o
   clear hu hru b1 Hq
   obtain ⟨zw, hzw⟩ : ∃ z, wr.heap.size = z := ⟨_, rfl⟩
   rw [hzw] at Hq1 Hru s1
   have hq0w : q0 < zw := by rw [← hzw]; exact C.o.met.lt
   clear hzw
   have hgk : P.length + (n + 1) ≤ T.L.length := by
    have := C.o.st.len Ht.o.wf
    rw [List.length_append, List.length_cons, hln] at this
    exact this
   have hTL : T.L.length ≤ 65536 := by have := Ht.o.wf.len; have := Ht.o.wf.vars; omega
   by_cases hre : e.reason = []
   ·have hrl0 : e.reason.length = 0 := by rw [hre]; rfl
    have hlv1 := Hx3.o hre
    rw [hrl0] at Hru ⊢
    have Hre := hid hre
    clear hre hrl0
    go_wp2_with fail
    refine (level_any (Ht.o.below (hB B1.o)) (v := (v : Int))).mono ?_
    rintro r w2 ⟨rfl, b2⟩
    rw [x2]
    have hl0 : (e.level : Int) > 0 := by omega
    have B2 := hid (hBt B1.o b2)
    have Hq2' := hid (Hq1.o.below b2)
    have Hmet := hid (Hmet.o.below b2)
    have Hblm := hid (Hblm.o.below b2)
    have s2 := b2.size
    have r0 := (World.cell?_of_block (B2.o.block rb (by rw [← Hq0.o]; exact hrl))).trans R0.o
    have z1 := (World.cell?_of_block (B2.o.block sb (by rw [← Hq0.o]; exact hsl'))).trans Z1.o
    clear b2
    go_wp2_with fail
    refine (value_any (Ht.o.below (hB B2.o)) (l := (v : Int)) (by unfold I64; omega)).mono ?_
    rintro r w3 ⟨rfl, b3⟩
    have hmul : IntKind.i64.wrap ((v : Int) * T.value (v : Int)) = e.lit := by
     rcases x4 with ⟨h1, h2⟩ | ⟨h1, h2⟩
     ·rw [h1, h2, Int.mul_one]; exact iw' (by omega) (by omega)
     ·rw [h1, h2]; rw [show (v : Int) * -1 = -(v : Int) by omega]; exact iw' (by omega) (by omega)
    have B3 := hid (hBt B2.o b3)
    have Hq3 := hid (Hq2'.o.below b3)
    have Hmet := hid (Hmet.o.below b3)
    have Hblm := hid (Hblm.o.below b3)
    have hget := Hblm.o.get e.lit
    obtain ⟨w4, hput, hbl4, m4⟩ := Hblm.o.put e.lit (bl e.lit + 1)
    have hbr := C.o.br e.lit
    have hwp : IntKind.i64.wrap (bl e.lit + 1) = bl e.lit + 1 := iw' (by omega) (by omega)
    obtain ⟨bz, hbz⟩ : ∃ z, bl e.lit = z := ⟨_, rfl⟩
    have Hbl4 := hid hbl4
    have HM4 := hid m4
    rw [hbz] at hget hput hwp
    have Hbz := hid hbz
    clear b3 hbl4 m4 hbr hbz x4
    go_wp2_with fail
    go_loopw [6, 79] (fun qv jv W => qv = .slice A2 n (c - 1) ∧ jv = .int .i64 0 ∧ W = w4) (fun _ _ _ => 0)
    case atStart => exact ⟨rfl, rfl, rfl⟩
    case round =>
     obtain ⟨rfl, rfl, hW⟩ := hrel
     obtain rfl : w4 = wr := hW.symm
     have hN := NewTo.nil C.o.st.nodup
     have hms := C.o.ms
     have Cn : Hid (CoreW q0 q0 q2 T a w4 A2 n (c - 1) (P ++ [v]) (Q' ++ []) mt (putF bl e.lit (bl e.lit + 1))) := hid (C.o.next Ht.o.wf Hhe.o Hev.o (by rw [Hre.o]; exact hN) (by rw [List.append_nil]; exact (Hq3.o.mod HM4.o fun g hr e => Hq3.o.not_map Hblm.o hr e).mono fun g _ h => h.1)
      (Hmet.o.keep (HM4.o.block q0 Hmet.o.lt (by omega))) Hbl4.o (fun u => by rw [List.append_nil]; exact hms u) C.o.mr (.inr ⟨Hre.o, rfl⟩) (by rw [List.append_nil]; exact hln))
     have B4 := hid (below_mod B3.o (by rw [← Hq0.o]; exact B3.o.size) HM4.o fun g hg => by omega)
     clear hN hms
     go_wp2_with fail
     go_roundg (gk - 1)
     case measure => have := Hk.o; omega
     case rel => exact ⟨A2, n, c - 1, P ++ [v], Q' ++ [], mt, _, rfl, hid (by have := Hk.o; rw [List.length_append, List.length_singleton]; omega), Cn, B4⟩
   ·obtain ⟨kr, hkr⟩ : ∃ k, e.reason.length = k := ⟨_, rfl⟩
    have hkr1 : 0 < kr := by rw [← hkr]; exact List.length_pos_iff.2 hre
    have hkr9 : kr ≤ 9 := by rw [← hkr]; exact Hsh.o e Hhe.o
    rw [hkr] at Hru hcu ⊢
    have hkF : ((kr : Int) == 0) = false := by simp; omega
    have Hkr := hid hkr
    have Hre := hid hre
    clear hre hkr x4
    go_wp2_with fail
    go_loopw [6, 79] (fun qv jv W => ∃ (j : Nat) (N : List Nat) (A3 : Option Addr) (n3 c3 : Nat) (mt' : Int → Int), j ≤ kr ∧ jv = .int .i64 j ∧ qv = .slice A3 n3 c3 ∧ Hid ((Q' ++ N).length = n3) ∧ Hid (Qu W (fun g => (q0 ≤ g ∧ g < zw) ∨ w1.heap.size ≤ g) (.slice A3 n3 c3) (ofs (Q' ++ N))) ∧ Hid (MapF W q0 mt') ∧ Hid (MapF W q2 bl) ∧ Hid (NewTo (P ++ v :: Q') N (e.reason.take j)) ∧ Hid (∀ u : Nat, mt' u ≠ 0 ↔ u ∈ (P ++ v :: Q') ++ N) ∧ Hid (∀ v, 0 ≤ mt' v ∧ mt' v ≤ 1) ∧ Hid (Mod (fun g => q0 ≤ g ∧ g < zw) w1 W)) (fun _ jv _ => kr - (intOf jv).toNat)
    case atStart => exact ⟨0, [], A2, n, c - 1, mt, Nat.zero_le _, rfl, rfl, hid (by rw [List.append_nil]; exact hln), hid (by rw [List.append_nil]; exact Hq1.o.mono fun g _ h => .inl h), Hmet, Hblm, hid (NewTo.nil C.o.st.nodup), hid (fun u => by rw [List.append_nil]; exact C.o.ms u), hid C.o.mr, Mod.refl _ _⟩
    case round =>
     obtain ⟨j, N, A3, n3, c3, mt', jk, rfl, rfl, Hn3, Hqw, Hmw, Hbw, HN, Hms, Hmr, M1⟩ := hrel
     rcases Nat.lt_or_ge j kr with h1 | h1
     ·have hjl : j < e.reason.length := by rw [Hkr.o]; exact h1
      obtain ⟨gr, o, rfl, hg, _, e1⟩ := (Hru.o.mod M1.o fun g _ hg hf => by omega).cell.2 j h1
      obtain ⟨l, hl⟩ : ∃ l, nth e.reason j = l := ⟨_, rfl⟩
      have hlm : l ∈ e.reason := by rw [← hl]; exact nth_mem hjl
      have htk : Hid (e.reason.take (j + 1) = e.reason.take j ++ [l]) := hid (by rw [take_nth hjl, hl])
      obtain ⟨f, hf, hfv⟩ := Hx7.o l hlm
      have hfb := ent_facts Ht.o.wf hf
      rw [hfv] at hfb
      obtain ⟨_, _, _, _, y1, y2, _⟩ := hfb
      rw [hl] at e1
      have hmx := max_abs (show -65536 ≤ l ∧ l ≤ 65536 by omega)
      have hwn : IntKind.i64.wrap (-l) = -l := iw' (by omega) (by omega)
      have hjn : (j : Int) < (kr : Int) := by omega
      have hget := Hmw.o.get (l.natAbs : Nat)
      have hms := Hms.o l.natAbs
      obtain ⟨mz, hmz⟩ : ∃ z, mt' (l.natAbs : Nat) = z := ⟨_, rfl⟩
      rw [hmz] at hget hms
      have hmr := Hmr.o (l.natAbs : Nat)
      rw [hmz] at hmr
      obtain ⟨ab, hab2⟩ : ∃ q, l.natAbs = q := ⟨_, rfl⟩
      rw [hab2] at hmx hget hms y1 y2
      have Hhab := hid hab2
      have Hms2 := hid hms
      clear hl hlm hf hfv hmz hab2 hms
      by_cases hz : mz = 0
      ·subst hz
       obtain ⟨w5, hput, hmet5, m5⟩ := Hmw.o.put (ab : Nat) 1
       have Hmet5 := hid hmet5
       have HM5 := hid m5
       have Hq5 := hid (Hqw.o.mod m5 fun g hr e => Hqw.o.not_map Hmw.o hr e)
       have Hb5 := hid (Hbw.o.keep (m5.block q2 Hbw.o.lt (by omega)))
       have hn6 := Hn3.o
       have hlN := C.o.st.len Ht.o.wf
       have hNl : (ofs (Q' ++ N)).length = n3 := by unfold ofs; rw [List.length_map]; exact hn6
       have hN3 : n3 ≤ 1000000 := by
        have h1 := HN.o.len
        have h2 : (e.reason.take j).length ≤ e.reason.length := by rw [List.length_take]; omega
        have h3 := Hkr.o
        rw [List.length_append] at hn6
        have h4 : (P ++ v :: Q').length = P.length + (Q'.length + 1) := by simp
        omega
       have HNl := hid hNl
       clear hmet5 m5 hn6 hlN hNl
       go_wp2_with (at_builtin; refine wpList_append_q rfl _ _ rfl (Hq5.o.below ((Below.refl _ _).alloc (Nat.le_refl _) _)) (own_one w5 (.int .i64 (ab : Nat))).rd rfl rfl (by rw [HNl.o]; exact hN3) ?_; intro Av cv w6 hq6 hm6 hr6)
       have bX : Below w5.heap.size w5 (w5.alloc (.cells #[.int .i64 (ab : Nat)] 3)) := (Below.refl _ _).alloc (Nat.le_refl _) _
       have hqX := Hq5.o.below bX
       have hmX := Hmet5.o.below bX
       have hbX := Hb5.o.below bX
       have s5 := HM5.o.size
       have sw := M1.o.size
       have sX : (w5.alloc (.cells #[.int .i64 (ab : Nat)] 3)).heap.size = w5.heap.size + 1 := World.size_alloc _ _
       have hnew : ab ∉ (P ++ v :: Q') ++ N := fun h => (Hms2.o.2 h) rfl
       have hN2 := HN.o.new (x := l) (by rw [Hhab.o]; exact hnew)
       rw [Hhab.o, ← htk.o] at hN2
       go_roundw
       case rel =>
        refine ⟨j + 1, N ++ [ab], Av, _, cv, putF mt' (ab : Nat) 1, by omega, by go_num, rfl, hid ?_, hid ?_, hid ?_, hid ?_, hid hN2, hid fun u => ?_, hid fun u => ?_, hid ?_⟩
        ·rw [← List.append_assoc, List.length_append, HNl.o, Hn3.o]; rfl
        ·rw [← List.append_assoc, ofs_snoc]
         refine hq6.mono fun g _ h => ?_
         rcases h with h | h
         ·exact h
         ·exact .inr (by omega)
        ·exact hmX.keep (hm6.block q0 hmX.lt fun hr => hqX.not_map hmX hr rfl)
        ·exact hbX.keep (hm6.block q2 hbX.lt fun hr => hqX.not_map hbX hr rfl)
        ·unfold putF
         rw [← List.append_assoc, List.mem_append (s := P ++ v :: Q' ++ N), List.mem_singleton]
         by_cases hu : u = ab
         ·subst hu; simp
         ·rw [if_neg (by omega), Hms.o u]
          simp [hu]
        ·unfold putF
         split
         ·omega
         ·exact Hmr.o u
        ·refine ((M1.o.trans (HM5.o.mono fun g _ hg => .inl (by omega))).alloc _).trans (hm6.mono fun g _ hg => ?_)
         rcases (hqX.row hg).1 with h | h
         ·exact .inl h
         ·exact .inr h
       case measure => simp [intOf]; omega
      ·have hzF : (mz == 0) = false := by simpa using hz
       have hold : ab ∈ (P ++ v :: Q') ++ N := Hms2.o.1 hz
       have hN2 := HN.o.old (x := l) (by rw [Hhab.o]; exact hold)
       rw [← htk.o] at hN2
       have HN2 := hid hN2
       clear hN2 hold
       go_wp2_with fail
       go_roundw
       case rel => exact ⟨j + 1, N, A3, n3, c3, mt', by omega, by go_num, rfl, Hn3, Hqw, Hmw, Hbw, HN2, Hms, Hmr, M1⟩
       case measure => simp [intOf]; omega
     ·have hjn : ¬ ((j : Int) < (kr : Int)) := by omega
      have Cn : Hid (CoreW q0 q0 q2 T a wr A3 n3 c3 (P ++ [v]) (Q' ++ N) mt' bl) := hid (C.o.next Ht.o.wf Hhe.o Hev.o (by
        have := HN.o
        rw [List.take_of_length_le (by rw [Hkr.o]; exact h1)] at this
        exact this) (Hqw.o.mono fun g _ h => by omega) Hmw.o Hbw.o Hms.o Hmr.o (.inl ⟨Hre.o, rfl⟩) Hn3.o)
      have B4 := hid (below_mod B1.o (by rw [← Hq0.o]; exact B1.o.size) M1.o fun g hg => hg.1)
      go_wp2_with fail
      go_roundg (gk - 1)
      case measure => have := Hk.o; omega
      case rel => exact ⟨A3, n3, c3, P ++ [v], Q' ++ N, mt', bl, rfl, hid (by have := Hk.o; rw [List.length_append, List.length_singleton]; omega), Cn, B4⟩
end
end Go.Proofs.YtcjmpobccbnpkaaGreat
