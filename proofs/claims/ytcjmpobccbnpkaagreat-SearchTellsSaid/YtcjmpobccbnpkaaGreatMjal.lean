/-
 Chapter 32: several texts in one (LnG).
-/
import Derived.Test.YtcjmpobccbnpkaaGreatMjak
import Derived.Test.YtcjmpobccbnpkaaGreatTkR
namespace Go.Proofs.YtcjmpobccbnpkaaGreat
section
open Go.RowKit Go.Maps
theorem meth_depth (tb : Nat) (w : World) : (method 326 25 (.pointer (some ⟨tb, 0, none⟩)) "Depth").run Tryz.prog w = .ok (178, .pointer (some ⟨tb, 0, none⟩)) w := by kernel_rfl
theorem meth_lits (tb : Nat) (w : World) : (method 326 25 (.pointer (some ⟨tb, 0, none⟩)) "Lits").run Tryz.prog w = .ok (92, .pointer (some ⟨tb, 0, none⟩)) w := by kernel_rfl
def PosTo (w : World) (b j : Nat) (T : Tr) : Prop := ∃ D : DataW Unit, w.ownsMap Tryz.prog 3 (plainElem Tryz.prog 3) b j D ∧ ∀ i, i < j → ∀ m, T.lits[i]? = some m → D.atKey (.int .i64 (m.natAbs : Nat)) (.lit (.int .i64 0)) = .lit (.int .i64 i)
theorem PosTo.of_block {w w' : World} {b j : Nat} {T : Tr} (h : PosTo w b j T) (hb : w'.heap[b]? = w.heap[b]?) : PosTo w' b j T := by
 obtain ⟨D, ⟨es, clock, hm, r⟩, hS⟩ := h
 exact ⟨D, ⟨es, clock, hb.trans hm, r⟩, hS⟩
theorem PosTo.lt {w : World} {b j : Nat} {T : Tr} (h : PosTo w b j T) : b < w.heap.size := by
 obtain ⟨D, h, _⟩ := h
 exact h.lt
theorem PosTo.all {w : World} {b j : Nat} {T : Tr} (hw : T.WF) (h : PosTo w b j T) (hj : j = T.lits.length) : PosIs w b j T := by
 obtain ⟨D, h, hD⟩ := h
 refine ⟨D, h, fun m hm => ?_⟩
 obtain ⟨i, hi, hmi⟩ := List.mem_iff_getElem.1 hm
 have e : T.lits[i]? = some m := by rw [← hmi]; exact List.getElem?_eq_getElem hi
 rw [hD i (by omega) m e, pos_at hw e]
theorem PosTo.put {w w' : World} {b j : Nat} {T : Tr} (hw : T.WF) {D : DataW Unit} {m : Int} (h : w.ownsMap Tryz.prog 3 (plainElem Tryz.prog 3) b j D) (hD : ∀ i, i < j → ∀ m, T.lits[i]? = some m → D.atKey (.int .i64 (m.natAbs : Nat)) (.lit (.int .i64 0)) = .lit (.int .i64 i))
  (hm : T.lits[j]? = some m) (h' : w'.ownsMap Tryz.prog 3 (plainElem Tryz.prog 3) b (j + 1) (D.put (.int .i64 (m.natAbs : Nat)) (.lit (.int .i64 j)))) : PosTo w' b (j + 1) T := by
 have hs := lits_small hw (List.mem_of_getElem? hm)
 refine ⟨_, h', fun i hi m' hm' => ?_⟩
 by_cases e : i = j
 ·subst e
  rw [hm] at hm'
  injection hm' with hm'
  subst hm'
  exact atKey_put_same h.isMap (lnum_key (by unfold I64; omega)) _ _
 ·have hne : ((m'.natAbs : Nat) : Int) ≠ (m.natAbs : Nat) := fun he => by
   have h1 := pos_at hw hm
   have h2 := pos_at hw hm'
   have : T.pos m' = T.pos m := by unfold Tr.pos; rw [he]
   omega
  rw [atKey_put_other (lnum_ne hne)]
  exact hD i (by omega) m' hm'
theorem Bl.ldrew {w W : World} (h : Below w.heap.size w W) : Below w.heap.size w W.drew := ⟨h.os, h.tape, h.output, h.size, h.block⟩
theorem Bl.lalloc {w W : World} {o : Obj} (h : Below w.heap.size w W) : Below w.heap.size w (W.alloc o) := RowKit.Below.alloc h h.size o
theorem lbelow_mod {B : Nat} {G : Nat → Prop} {w W X : World} (h : Below B w W) (hB : B ≤ W.heap.size) (m : Mod G W X) (hG : ∀ g, G g → B ≤ g) : Below B w X :=
 ⟨m.os.trans h.os, m.tape.trans h.tape, m.output.trans h.output, Nat.le_trans h.size m.size, fun k hk => (m.block k (by omega) (fun hg => by have := hG k hg; omega)).trans (h.block k hk)⟩
theorem begin_start (w : World) (tb : Nat) (T : Tr) (m1 m2 : Nat) (hm : (m1 = w.heap.size ∧ m2 = w.heap.size + 1) ∨ (m1 = w.heap.size + 1 ∧ m2 = w.heap.size)) :
  ∃ W : World, W = (((w.alloc (.map #[] 0)).alloc (.map #[] 0)).alloc (.cells #[.map (some m1), .func (.method "Level") #[.iface 25 (.pointer (some ⟨tb, 0, none⟩))] #[], .func (.method "Reason") #[.iface 25 (.pointer (some ⟨tb, 0, none⟩))] #[], .int .i64 T.depth, .map (some m2), .int .i64 0] 185)).drew ∧
   W.heap.size = w.heap.size + 3 ∧ Below w.heap.size w W ∧ W.heap[w.heap.size + 1 + 1]? = some (.cells #[.map (some m1), .func (.method "Level") #[.iface 25 (.pointer (some ⟨tb, 0, none⟩))] #[], .func (.method "Reason") #[.iface 25 (.pointer (some ⟨tb, 0, none⟩))] #[], .int .i64 T.depth, .map (some m2), .int .i64 0] 185 (0, 0)) ∧
   PosTo W m1 0 T ∧ SetIs W m2 0 An.fresh.set := by
 refine ⟨_, rfl, by simp, ?_, ?_, ?_, ?_⟩
 ·exact Bl.ldrew (Bl.lalloc (Bl.lalloc (Bl.lalloc (Below.refl _ _))))
 ·have := heap_alloc_new ((w.alloc (.map #[] 0)).alloc (.map #[] 0)) (.cells #[.map (some m1), .func (.method "Level") #[.iface 25 (.pointer (some ⟨tb, 0, none⟩))] #[], .func (.method "Reason") #[.iface 25 (.pointer (some ⟨tb, 0, none⟩))] #[], .int .i64 T.depth, .map (some m2), .int .i64 0] 185)
  rw [show ((w.alloc (.map #[] 0)).alloc (.map #[] 0)).heap.size = w.heap.size + 1 + 1 by simp] at this
  exact this
 ·have h1 : ((((w.alloc (.map #[] 0)).alloc (.map #[] 0)).alloc (.cells #[.map (some m1), .func (.method "Level") #[.iface 25 (.pointer (some ⟨tb, 0, none⟩))] #[], .func (.method "Reason") #[.iface 25 (.pointer (some ⟨tb, 0, none⟩))] #[], .int .i64 T.depth, .map (some m2), .int .i64 0] 185))).ownsMap Tryz.prog 3 (plainElem (H := Unit) Tryz.prog 3) m1 0 (.map []) := by
   refine World.ownsMap.alloc ?_ _
   rcases hm with ⟨rfl, rfl⟩ | ⟨rfl, rfl⟩
   ·exact World.ownsMap.alloc (World.ownsMap_made _ _ _ _) _
   ·have := World.ownsMap_made (w.alloc (.map #[] 0)) Tryz.prog 3 (plainElem (H := Unit) Tryz.prog 3)
    rw [show (w.alloc (.map #[] 0)).heap.size = w.heap.size + 1 by simp] at this
    exact this
  exact ⟨_, h1, fun i hi => absurd hi (by omega)⟩
 ·have h1 : ((((w.alloc (.map #[] 0)).alloc (.map #[] 0)).alloc (.cells #[.map (some m1), .func (.method "Level") #[.iface 25 (.pointer (some ⟨tb, 0, none⟩))] #[], .func (.method "Reason") #[.iface 25 (.pointer (some ⟨tb, 0, none⟩))] #[], .int .i64 T.depth, .map (some m2), .int .i64 0] 185))).ownsMap Tryz.prog 3 (unitElem (H := Unit)) m2 0 (.map []) := by
   refine World.ownsMap.alloc ?_ _
   rcases hm with ⟨rfl, rfl⟩ | ⟨rfl, rfl⟩
   ·have := World.ownsMap_made (w.alloc (.map #[] 0)) Tryz.prog 3 (unitElem (H := Unit))
    rw [show (w.alloc (.map #[] 0)).heap.size = w.heap.size + 1 by simp] at this
    exact this
   ·exact World.ownsMap.alloc (World.ownsMap_made _ _ _ _) _
  exact ⟨_, h1, fun x _ => rfl⟩
set_option maxRecDepth 100000 in
set_option maxHeartbeats 4000000 in
theorem begin_any {w : World} {Ft : Nat → Prop} {tb : Nat} {T : Tr} (ht : Trail w Ft tb T) :
  Calls Tryz.prog 114 #[.iface 25 (.pointer (some ⟨tb, 0, none⟩))] w fun r w' => (∃ a ma ms nm, r = .returned (.pointer (some ⟨a, 0, none⟩)) ∧ AnAt w' a ma ms tb nm 0 T An.fresh ∧ w.heap.size ≤ a ∧ w.heap.size ≤ ma ∧ w.heap.size ≤ ms) ∧ Below w.heap.size w w' := by
 have hmm := @run_makeMap Tryz.prog
 have h1 := meth_depth tb
 have h2 := meth_lits tb
 have Ht := hid ht
 clear ht
 go_enter Tryz.func114, Tryz.ntmps114
 go_wp2_with fail
 refine wp_region_held_drew (S := fun _ => True) (by kernel_rfl) trivial (fun hHeld => ?_)
 refine tk 2 ?_ (hS := trivial)
 refine tk 3 ?_ (hS := trivial)
 refine tk 4 ?_ (hS := trivial)
 refine tk 5 ?_ (hS := trivial)
 refine tk 6 ?_ (hS := trivial)
 refine tk 7 ?_ (hS := trivial)
 refine tk 8 ?_ (hS := trivial)
 refine wpAnyH_ready (rs := [0, 9, 10]) (by kernel_rfl) (by simp) ?_
 refine AllReadyH.cons (o := ⟨_, _, _, _, _, _⟩) rfl (fun K hK => ?_) ?_
 ·go_simp
  refine hK.out _ _ trivial (fun hHeld => ?_)
  clear hK K
  refine tk 1 ?_ (hS := trivial)
  refine wpAnyH_ready (rs := [9, 10]) (by kernel_rfl) (by simp) ?_
  refine AllReadyH.cons (o := ⟨_, _, _, _, _, _⟩) rfl (fun K hK => ?_) ?_
  ·go_simp
   refine (depth_any (F := Ft) (T := T) (Ht.o.below (by with_reducible (repeat first | exact Below.refl _ _ | apply Bl.ldrew | apply Bl.lalloc)))).mono ?_
   rintro r w' ⟨rfl, rfl⟩
   go_simp
   refine hK.out _ _ trivial (fun hHeld => ?_)
   clear hK K
   refine wpAnyH_ready (rs := [10]) (by kernel_rfl) (by simp) ?_
   refine AllReadyH.cons (o := ⟨_, _, _, _, _, _⟩) rfl (fun K hK => ?_) ?_
   ·go_simp
    refine hK.out _ _ trivial (fun hHeld => ?_)
    clear hK K
    refine tk 11 ?_ (hS := trivial)
    refine rd0 12 fun K hK => ?_
    go_simp
    refine hK.out _ _ trivial (fun hHeld => ?_)
    clear hK K
    refine tk 13 ?_ (hS := trivial)
    refine wpAnyH_done (by kernel_rfl) ?_ _
    obtain ⟨W, hW, hsz, hbw, hbk, hps, hst⟩ := begin_start w tb T w.heap.size (w.heap.size + 1) (by omega)
    rw [← hW]
    clear hW hHeld
    have Hsz := hid hsz
    have Hbw := hid hbw
    have Hbk := hid hbk
    have Hps := hid hps
    have Hst := hid hst
    have Hwf := hid Ht.o.wf
    have Hlt := hid (show T.lits.length = T.L.length by simp [Tr.lits])
    have hln := Hwf.o.len
    have hvs := Hwf.o.vars
    obtain ⟨n, hn⟩ : ∃ n, T.L.length = n := ⟨_, rfl⟩
    rw [hn] at hln Hlt
    have Hn := hid hn
    clear hsz hbw hbk hps hst hn
    go_wp2_with fail
    refine (lits_any (Ht.o.below Hbw.o)).mono ?_
    rintro r W1 ⟨⟨u, rfl, hu⟩, b1⟩
    rw [Hn.o] at hu
    obtain ⟨A', c', rfl, _⟩ := hu.form
    have Hu := hid hu.rd
    have B1 := hid b1
    have hs1 := b1.size
    have hncap : (n : Int) ≤ (c' : Int) := by
     obtain ⟨_, A2, c2, hv2, h2, _⟩ := hu.rd
     injection hv2 with _ _ h3
     omega
    clear hu b1
    go_wp2_with fail
    go_loopw [22] (fun jv X => ∃ j : Nat, j ≤ n ∧ jv = .int .i64 j ∧ Hid (PosTo X w.heap.size j T) ∧ Hid (Mod (fun g => g = w.heap.size) W1 X)) (fun jv _ => n - (intOf jv).toNat)
    case atStart => exact ⟨0, by omega, rfl, Hps.o.of_block (B1.o.block _ Hps.o.lt), Mod.refl _ _⟩
    case round =>
     obtain ⟨j, hj, rfl, P1, M1⟩ := hrel
     have hsz := M1.o.size
     have hblk := (M1.o.block (w.heap.size + 1 + 1) (by have := Hsz.o; omega) (by omega)).trans ((B1.o.block _ (by have := Hsz.o; omega)).trans Hbk.o)
     obtain ⟨c0, _⟩ := box6 hblk
     have Hblk := hid hblk
     clear hblk
     by_cases hlt : j < n
     ·have x1 : (j : Int) < (n : Int) := by omega
      obtain ⟨m, hm⟩ : ∃ m, nth T.lits j = m := ⟨_, rfl⟩
      have hmem : T.lits[j]? = some m := by
       have := Hlt.o
       rw [← hm, nth_eq (by omega)]
       exact List.getElem?_eq_getElem (by omega)
      obtain ⟨hb1, hb2⟩ := lits_small Hwf.o (List.mem_of_getElem? hmem)
      obtain ⟨g, o, rfl, hg, _, e0⟩ := (Hu.o.mod M1.o fun g _ hg hf => by have := Hsz.o; omega).cell.2 j hlt
      rw [hm] at e0
      obtain ⟨v, hv⟩ : ∃ v, m.natAbs = v := ⟨_, rfl⟩
      have hmx : (if m < -m then -m else m) = (v : Int) := by split <;> omega
      have hwn : IntKind.i64.wrap (-m) = -m := liw' (by omega) (by omega)
      obtain ⟨D, hown, hD⟩ := P1.o
      have hkey : keyOf Tryz.prog 3 (.int .i64 v) = some (.int .i64 v) := lkey_num (by unfold I64; omega)
      have hpe : plainElem (H := Unit) Tryz.prog 3 (.int .i64 j) = some (.lit (.int .i64 j), []) := plainElem_int Tryz.underlying3 (li64_wf (by unfold I64; omega))
      have HD := hid hD
      have Hown := hid hown
      have Hmem := hid hmem
      have Hv := hid hv
      clear hD hown hmem hm hv
      go_wp2_with (at_mapUpdate; refine wpList_mapUpdate_own _ rfl _ _ _ 28 rfl 3 3 lkeyed_int Tryz.underlying28 (plainElem (H := Unit) Tryz.prog 3) w.heap.size _ D rfl Hown.o (by unfold maxLen; omega) _ _ _ rfl rfl hkey _ [] hpe ?_; intro w3 hown3 hgrow3)
      have hput := PosTo.put Hwf.o Hown.o HD.o Hmem.o (by rw [Hv.o]; exact hown3)
      go_roundw
      case rel => exact ⟨j + 1, by omega, by go_num, hput, M1.o.trans ((grown_mod hgrow3).mono fun g _ hg => .inl hg)⟩
      case measure => simp [intOf]; omega
     ·have x1 : ((j : Int) < (n : Int)) = False := by simp; omega
      go_wp2_with fail
      go_ret
      refine ⟨⟨_, w.heap.size, (w.heap.size + 1), n, rfl, ⟨Hblk.o, ?_, ?_, by omega⟩, by omega, by omega, by omega⟩, ?_⟩
      ·have := P1.o.all Hwf.o (by have := Hlt.o; omega)
       rwa [show j = n by omega] at this
      ·exact Hst.o.of_block ((M1.o.block _ (by have := Hsz.o; omega) (by omega)).trans (B1.o.block _ Hst.o.lt))
      ·exact lbelow_mod (Hbw.o.trans (B1.o.mono (by have := Hsz.o; omega))) (by have := Hsz.o; omega) M1.o fun g hg => by omega
   exact AllReadyH.nil
  refine AllReadyH.cons (o := ⟨_, _, _, _, _, _⟩) rfl (fun K hK => ?_) ?_
  ·go_simp
   refine hK.out _ _ trivial (fun hHeld => ?_)
   clear hK K
   refine wpAnyH_ready (rs := [9]) (by kernel_rfl) (by simp) ?_
   refine AllReadyH.cons (o := ⟨_, _, _, _, _, _⟩) rfl (fun K hK => ?_) ?_
   ·go_simp
    refine (depth_any (F := Ft) (T := T) (Ht.o.below (by with_reducible (repeat first | exact Below.refl _ _ | apply Bl.ldrew | apply Bl.lalloc)))).mono ?_
    rintro r w' ⟨rfl, rfl⟩
    go_simp
    refine hK.out _ _ trivial (fun hHeld => ?_)
    clear hK K
    refine tk 11 ?_ (hS := trivial)
    refine rd0 12 fun K hK => ?_
    go_simp
    refine hK.out _ _ trivial (fun hHeld => ?_)
    clear hK K
    refine tk 13 ?_ (hS := trivial)
    refine wpAnyH_done (by kernel_rfl) ?_ _
    obtain ⟨W, hW, hsz, hbw, hbk, hps, hst⟩ := begin_start w tb T w.heap.size (w.heap.size + 1) (by omega)
    rw [← hW]
    clear hW hHeld
    have Hsz := hid hsz
    have Hbw := hid hbw
    have Hbk := hid hbk
    have Hps := hid hps
    have Hst := hid hst
    have Hwf := hid Ht.o.wf
    have Hlt := hid (show T.lits.length = T.L.length by simp [Tr.lits])
    have hln := Hwf.o.len
    have hvs := Hwf.o.vars
    obtain ⟨n, hn⟩ : ∃ n, T.L.length = n := ⟨_, rfl⟩
    rw [hn] at hln Hlt
    have Hn := hid hn
    clear hsz hbw hbk hps hst hn
    go_wp2_with fail
    refine (lits_any (Ht.o.below Hbw.o)).mono ?_
    rintro r W1 ⟨⟨u, rfl, hu⟩, b1⟩
    rw [Hn.o] at hu
    obtain ⟨A', c', rfl, _⟩ := hu.form
    have Hu := hid hu.rd
    have B1 := hid b1
    have hs1 := b1.size
    have hncap : (n : Int) ≤ (c' : Int) := by
     obtain ⟨_, A2, c2, hv2, h2, _⟩ := hu.rd
     injection hv2 with _ _ h3
     omega
    clear hu b1
    go_wp2_with fail
    go_loopw [22] (fun jv X => ∃ j : Nat, j ≤ n ∧ jv = .int .i64 j ∧ Hid (PosTo X w.heap.size j T) ∧ Hid (Mod (fun g => g = w.heap.size) W1 X)) (fun jv _ => n - (intOf jv).toNat)
    case atStart => exact ⟨0, by omega, rfl, Hps.o.of_block (B1.o.block _ Hps.o.lt), Mod.refl _ _⟩
    case round =>
     obtain ⟨j, hj, rfl, P1, M1⟩ := hrel
     have hsz := M1.o.size
     have hblk := (M1.o.block (w.heap.size + 1 + 1) (by have := Hsz.o; omega) (by omega)).trans ((B1.o.block _ (by have := Hsz.o; omega)).trans Hbk.o)
     obtain ⟨c0, _⟩ := box6 hblk
     have Hblk := hid hblk
     clear hblk
     by_cases hlt : j < n
     ·have x1 : (j : Int) < (n : Int) := by omega
      obtain ⟨m, hm⟩ : ∃ m, nth T.lits j = m := ⟨_, rfl⟩
      have hmem : T.lits[j]? = some m := by
       have := Hlt.o
       rw [← hm, nth_eq (by omega)]
       exact List.getElem?_eq_getElem (by omega)
      obtain ⟨hb1, hb2⟩ := lits_small Hwf.o (List.mem_of_getElem? hmem)
      obtain ⟨g, o, rfl, hg, _, e0⟩ := (Hu.o.mod M1.o fun g _ hg hf => by have := Hsz.o; omega).cell.2 j hlt
      rw [hm] at e0
      obtain ⟨v, hv⟩ : ∃ v, m.natAbs = v := ⟨_, rfl⟩
      have hmx : (if m < -m then -m else m) = (v : Int) := by split <;> omega
      have hwn : IntKind.i64.wrap (-m) = -m := liw' (by omega) (by omega)
      obtain ⟨D, hown, hD⟩ := P1.o
      have hkey : keyOf Tryz.prog 3 (.int .i64 v) = some (.int .i64 v) := lkey_num (by unfold I64; omega)
      have hpe : plainElem (H := Unit) Tryz.prog 3 (.int .i64 j) = some (.lit (.int .i64 j), []) := plainElem_int Tryz.underlying3 (li64_wf (by unfold I64; omega))
      have HD := hid hD
      have Hown := hid hown
      have Hmem := hid hmem
      have Hv := hid hv
      clear hD hown hmem hm hv
      go_wp2_with (at_mapUpdate; refine wpList_mapUpdate_own _ rfl _ _ _ 28 rfl 3 3 lkeyed_int Tryz.underlying28 (plainElem (H := Unit) Tryz.prog 3) w.heap.size _ D rfl Hown.o (by unfold maxLen; omega) _ _ _ rfl rfl hkey _ [] hpe ?_; intro w3 hown3 hgrow3)
      have hput := PosTo.put Hwf.o Hown.o HD.o Hmem.o (by rw [Hv.o]; exact hown3)
      go_roundw
      case rel => exact ⟨j + 1, by omega, by go_num, hput, M1.o.trans ((grown_mod hgrow3).mono fun g _ hg => .inl hg)⟩
      case measure => simp [intOf]; omega
     ·have x1 : ((j : Int) < (n : Int)) = False := by simp; omega
      go_wp2_with fail
      go_ret
      refine ⟨⟨_, w.heap.size, (w.heap.size + 1), n, rfl, ⟨Hblk.o, ?_, ?_, by omega⟩, by omega, by omega, by omega⟩, ?_⟩
      ·have := P1.o.all Hwf.o (by have := Hlt.o; omega)
       rwa [show j = n by omega] at this
      ·exact Hst.o.of_block ((M1.o.block _ (by have := Hsz.o; omega) (by omega)).trans (B1.o.block _ Hst.o.lt))
      ·exact lbelow_mod (Hbw.o.trans (B1.o.mono (by have := Hsz.o; omega))) (by have := Hsz.o; omega) M1.o fun g hg => by omega
   exact AllReadyH.nil
  exact AllReadyH.nil
 refine AllReadyH.cons (o := ⟨_, _, _, _, _, _⟩) rfl (fun K hK => ?_) ?_
 ·go_simp
  refine (depth_any (F := Ft) (T := T) (Ht.o.below (by with_reducible (repeat first | exact Below.refl _ _ | apply Bl.ldrew | apply Bl.lalloc)))).mono ?_
  rintro r w' ⟨rfl, rfl⟩
  go_simp
  refine hK.out _ _ trivial (fun hHeld => ?_)
  clear hK K
  refine wpAnyH_ready (rs := [0, 10]) (by kernel_rfl) (by simp) ?_
  refine AllReadyH.cons (o := ⟨_, _, _, _, _, _⟩) rfl (fun K hK => ?_) ?_
  ·go_simp
   refine hK.out _ _ trivial (fun hHeld => ?_)
   clear hK K
   refine tk 1 ?_ (hS := trivial)
   refine wpAnyH_ready (rs := [10]) (by kernel_rfl) (by simp) ?_
   refine AllReadyH.cons (o := ⟨_, _, _, _, _, _⟩) rfl (fun K hK => ?_) ?_
   ·go_simp
    refine hK.out _ _ trivial (fun hHeld => ?_)
    clear hK K
    refine tk 11 ?_ (hS := trivial)
    refine rd0 12 fun K hK => ?_
    go_simp
    refine hK.out _ _ trivial (fun hHeld => ?_)
    clear hK K
    refine tk 13 ?_ (hS := trivial)
    refine wpAnyH_done (by kernel_rfl) ?_ _
    obtain ⟨W, hW, hsz, hbw, hbk, hps, hst⟩ := begin_start w tb T w.heap.size (w.heap.size + 1) (by omega)
    rw [← hW]
    clear hW hHeld
    have Hsz := hid hsz
    have Hbw := hid hbw
    have Hbk := hid hbk
    have Hps := hid hps
    have Hst := hid hst
    have Hwf := hid Ht.o.wf
    have Hlt := hid (show T.lits.length = T.L.length by simp [Tr.lits])
    have hln := Hwf.o.len
    have hvs := Hwf.o.vars
    obtain ⟨n, hn⟩ : ∃ n, T.L.length = n := ⟨_, rfl⟩
    rw [hn] at hln Hlt
    have Hn := hid hn
    clear hsz hbw hbk hps hst hn
    go_wp2_with fail
    refine (lits_any (Ht.o.below Hbw.o)).mono ?_
    rintro r W1 ⟨⟨u, rfl, hu⟩, b1⟩
    rw [Hn.o] at hu
    obtain ⟨A', c', rfl, _⟩ := hu.form
    have Hu := hid hu.rd
    have B1 := hid b1
    have hs1 := b1.size
    have hncap : (n : Int) ≤ (c' : Int) := by
     obtain ⟨_, A2, c2, hv2, h2, _⟩ := hu.rd
     injection hv2 with _ _ h3
     omega
    clear hu b1
    go_wp2_with fail
    go_loopw [22] (fun jv X => ∃ j : Nat, j ≤ n ∧ jv = .int .i64 j ∧ Hid (PosTo X w.heap.size j T) ∧ Hid (Mod (fun g => g = w.heap.size) W1 X)) (fun jv _ => n - (intOf jv).toNat)
    case atStart => exact ⟨0, by omega, rfl, Hps.o.of_block (B1.o.block _ Hps.o.lt), Mod.refl _ _⟩
    case round =>
     obtain ⟨j, hj, rfl, P1, M1⟩ := hrel
     have hsz := M1.o.size
     have hblk := (M1.o.block (w.heap.size + 1 + 1) (by have := Hsz.o; omega) (by omega)).trans ((B1.o.block _ (by have := Hsz.o; omega)).trans Hbk.o)
     obtain ⟨c0, _⟩ := box6 hblk
     have Hblk := hid hblk
     clear hblk
     by_cases hlt : j < n
     ·have x1 : (j : Int) < (n : Int) := by omega
      obtain ⟨m, hm⟩ : ∃ m, nth T.lits j = m := ⟨_, rfl⟩
      have hmem : T.lits[j]? = some m := by
       have := Hlt.o
       rw [← hm, nth_eq (by omega)]
       exact List.getElem?_eq_getElem (by omega)
      obtain ⟨hb1, hb2⟩ := lits_small Hwf.o (List.mem_of_getElem? hmem)
      obtain ⟨g, o, rfl, hg, _, e0⟩ := (Hu.o.mod M1.o fun g _ hg hf => by have := Hsz.o; omega).cell.2 j hlt
      rw [hm] at e0
      obtain ⟨v, hv⟩ : ∃ v, m.natAbs = v := ⟨_, rfl⟩
      have hmx : (if m < -m then -m else m) = (v : Int) := by split <;> omega
      have hwn : IntKind.i64.wrap (-m) = -m := liw' (by omega) (by omega)
      obtain ⟨D, hown, hD⟩ := P1.o
      have hkey : keyOf Tryz.prog 3 (.int .i64 v) = some (.int .i64 v) := lkey_num (by unfold I64; omega)
      have hpe : plainElem (H := Unit) Tryz.prog 3 (.int .i64 j) = some (.lit (.int .i64 j), []) := plainElem_int Tryz.underlying3 (li64_wf (by unfold I64; omega))
      have HD := hid hD
      have Hown := hid hown
      have Hmem := hid hmem
      have Hv := hid hv
      clear hD hown hmem hm hv
      go_wp2_with (at_mapUpdate; refine wpList_mapUpdate_own _ rfl _ _ _ 28 rfl 3 3 lkeyed_int Tryz.underlying28 (plainElem (H := Unit) Tryz.prog 3) w.heap.size _ D rfl Hown.o (by unfold maxLen; omega) _ _ _ rfl rfl hkey _ [] hpe ?_; intro w3 hown3 hgrow3)
      have hput := PosTo.put Hwf.o Hown.o HD.o Hmem.o (by rw [Hv.o]; exact hown3)
      go_roundw
      case rel => exact ⟨j + 1, by omega, by go_num, hput, M1.o.trans ((grown_mod hgrow3).mono fun g _ hg => .inl hg)⟩
      case measure => simp [intOf]; omega
     ·have x1 : ((j : Int) < (n : Int)) = False := by simp; omega
      go_wp2_with fail
      go_ret
      refine ⟨⟨_, w.heap.size, (w.heap.size + 1), n, rfl, ⟨Hblk.o, ?_, ?_, by omega⟩, by omega, by omega, by omega⟩, ?_⟩
      ·have := P1.o.all Hwf.o (by have := Hlt.o; omega)
       rwa [show j = n by omega] at this
      ·exact Hst.o.of_block ((M1.o.block _ (by have := Hsz.o; omega) (by omega)).trans (B1.o.block _ Hst.o.lt))
      ·exact lbelow_mod (Hbw.o.trans (B1.o.mono (by have := Hsz.o; omega))) (by have := Hsz.o; omega) M1.o fun g hg => by omega
   exact AllReadyH.nil
  refine AllReadyH.cons (o := ⟨_, _, _, _, _, _⟩) rfl (fun K hK => ?_) ?_
  ·go_simp
   refine hK.out _ _ trivial (fun hHeld => ?_)
   clear hK K
   refine wpAnyH_ready (rs := [0]) (by kernel_rfl) (by simp) ?_
   refine AllReadyH.cons (o := ⟨_, _, _, _, _, _⟩) rfl (fun K hK => ?_) ?_
   ·go_simp
    refine hK.out _ _ trivial (fun hHeld => ?_)
    clear hK K
    refine tk 1 ?_ (hS := trivial)
    refine tk 11 ?_ (hS := trivial)
    refine rd0 12 fun K hK => ?_
    go_simp
    refine hK.out _ _ trivial (fun hHeld => ?_)
    clear hK K
    refine tk 13 ?_ (hS := trivial)
    refine wpAnyH_done (by kernel_rfl) ?_ _
    obtain ⟨W, hW, hsz, hbw, hbk, hps, hst⟩ := begin_start w tb T (w.heap.size + 1) w.heap.size (by omega)
    rw [← hW]
    clear hW hHeld
    have Hsz := hid hsz
    have Hbw := hid hbw
    have Hbk := hid hbk
    have Hps := hid hps
    have Hst := hid hst
    have Hwf := hid Ht.o.wf
    have Hlt := hid (show T.lits.length = T.L.length by simp [Tr.lits])
    have hln := Hwf.o.len
    have hvs := Hwf.o.vars
    obtain ⟨n, hn⟩ : ∃ n, T.L.length = n := ⟨_, rfl⟩
    rw [hn] at hln Hlt
    have Hn := hid hn
    clear hsz hbw hbk hps hst hn
    go_wp2_with fail
    refine (lits_any (Ht.o.below Hbw.o)).mono ?_
    rintro r W1 ⟨⟨u, rfl, hu⟩, b1⟩
    rw [Hn.o] at hu
    obtain ⟨A', c', rfl, _⟩ := hu.form
    have Hu := hid hu.rd
    have B1 := hid b1
    have hs1 := b1.size
    have hncap : (n : Int) ≤ (c' : Int) := by
     obtain ⟨_, A2, c2, hv2, h2, _⟩ := hu.rd
     injection hv2 with _ _ h3
     omega
    clear hu b1
    go_wp2_with fail
    go_loopw [22] (fun jv X => ∃ j : Nat, j ≤ n ∧ jv = .int .i64 j ∧ Hid (PosTo X (w.heap.size + 1) j T) ∧ Hid (Mod (fun g => g = (w.heap.size + 1)) W1 X)) (fun jv _ => n - (intOf jv).toNat)
    case atStart => exact ⟨0, by omega, rfl, Hps.o.of_block (B1.o.block _ Hps.o.lt), Mod.refl _ _⟩
    case round =>
     obtain ⟨j, hj, rfl, P1, M1⟩ := hrel
     have hsz := M1.o.size
     have hblk := (M1.o.block (w.heap.size + 1 + 1) (by have := Hsz.o; omega) (by omega)).trans ((B1.o.block _ (by have := Hsz.o; omega)).trans Hbk.o)
     obtain ⟨c0, _⟩ := box6 hblk
     have Hblk := hid hblk
     clear hblk
     by_cases hlt : j < n
     ·have x1 : (j : Int) < (n : Int) := by omega
      obtain ⟨m, hm⟩ : ∃ m, nth T.lits j = m := ⟨_, rfl⟩
      have hmem : T.lits[j]? = some m := by
       have := Hlt.o
       rw [← hm, nth_eq (by omega)]
       exact List.getElem?_eq_getElem (by omega)
      obtain ⟨hb1, hb2⟩ := lits_small Hwf.o (List.mem_of_getElem? hmem)
      obtain ⟨g, o, rfl, hg, _, e0⟩ := (Hu.o.mod M1.o fun g _ hg hf => by have := Hsz.o; omega).cell.2 j hlt
      rw [hm] at e0
      obtain ⟨v, hv⟩ : ∃ v, m.natAbs = v := ⟨_, rfl⟩
      have hmx : (if m < -m then -m else m) = (v : Int) := by split <;> omega
      have hwn : IntKind.i64.wrap (-m) = -m := liw' (by omega) (by omega)
      obtain ⟨D, hown, hD⟩ := P1.o
      have hkey : keyOf Tryz.prog 3 (.int .i64 v) = some (.int .i64 v) := lkey_num (by unfold I64; omega)
      have hpe : plainElem (H := Unit) Tryz.prog 3 (.int .i64 j) = some (.lit (.int .i64 j), []) := plainElem_int Tryz.underlying3 (li64_wf (by unfold I64; omega))
      have HD := hid hD
      have Hown := hid hown
      have Hmem := hid hmem
      have Hv := hid hv
      clear hD hown hmem hm hv
      go_wp2_with (at_mapUpdate; refine wpList_mapUpdate_own _ rfl _ _ _ 28 rfl 3 3 lkeyed_int Tryz.underlying28 (plainElem (H := Unit) Tryz.prog 3) (w.heap.size + 1) _ D rfl Hown.o (by unfold maxLen; omega) _ _ _ rfl rfl hkey _ [] hpe ?_; intro w3 hown3 hgrow3)
      have hput := PosTo.put Hwf.o Hown.o HD.o Hmem.o (by rw [Hv.o]; exact hown3)
      go_roundw
      case rel => exact ⟨j + 1, by omega, by go_num, hput, M1.o.trans ((grown_mod hgrow3).mono fun g _ hg => .inl hg)⟩
      case measure => simp [intOf]; omega
     ·have x1 : ((j : Int) < (n : Int)) = False := by simp; omega
      go_wp2_with fail
      go_ret
      refine ⟨⟨_, (w.heap.size + 1), w.heap.size, n, rfl, ⟨Hblk.o, ?_, ?_, by omega⟩, by omega, by omega, by omega⟩, ?_⟩
      ·have := P1.o.all Hwf.o (by have := Hlt.o; omega)
       rwa [show j = n by omega] at this
      ·exact Hst.o.of_block ((M1.o.block _ (by have := Hsz.o; omega) (by omega)).trans (B1.o.block _ Hst.o.lt))
      ·exact lbelow_mod (Hbw.o.trans (B1.o.mono (by have := Hsz.o; omega))) (by have := Hsz.o; omega) M1.o fun g hg => by omega
   exact AllReadyH.nil
  exact AllReadyH.nil
 refine AllReadyH.cons (o := ⟨_, _, _, _, _, _⟩) rfl (fun K hK => ?_) ?_
 ·go_simp
  refine hK.out _ _ trivial (fun hHeld => ?_)
  clear hK K
  refine wpAnyH_ready (rs := [0, 9]) (by kernel_rfl) (by simp) ?_
  refine AllReadyH.cons (o := ⟨_, _, _, _, _, _⟩) rfl (fun K hK => ?_) ?_
  ·go_simp
   refine hK.out _ _ trivial (fun hHeld => ?_)
   clear hK K
   refine tk 1 ?_ (hS := trivial)
   refine wpAnyH_ready (rs := [9]) (by kernel_rfl) (by simp) ?_
   refine AllReadyH.cons (o := ⟨_, _, _, _, _, _⟩) rfl (fun K hK => ?_) ?_
   ·go_simp
    refine (depth_any (F := Ft) (T := T) (Ht.o.below (by with_reducible (repeat first | exact Below.refl _ _ | apply Bl.ldrew | apply Bl.lalloc)))).mono ?_
    rintro r w' ⟨rfl, rfl⟩
    go_simp
    refine hK.out _ _ trivial (fun hHeld => ?_)
    clear hK K
    refine tk 11 ?_ (hS := trivial)
    refine rd0 12 fun K hK => ?_
    go_simp
    refine hK.out _ _ trivial (fun hHeld => ?_)
    clear hK K
    refine tk 13 ?_ (hS := trivial)
    refine wpAnyH_done (by kernel_rfl) ?_ _
    obtain ⟨W, hW, hsz, hbw, hbk, hps, hst⟩ := begin_start w tb T (w.heap.size + 1) w.heap.size (by omega)
    rw [← hW]
    clear hW hHeld
    have Hsz := hid hsz
    have Hbw := hid hbw
    have Hbk := hid hbk
    have Hps := hid hps
    have Hst := hid hst
    have Hwf := hid Ht.o.wf
    have Hlt := hid (show T.lits.length = T.L.length by simp [Tr.lits])
    have hln := Hwf.o.len
    have hvs := Hwf.o.vars
    obtain ⟨n, hn⟩ : ∃ n, T.L.length = n := ⟨_, rfl⟩
    rw [hn] at hln Hlt
    have Hn := hid hn
    clear hsz hbw hbk hps hst hn
    go_wp2_with fail
    refine (lits_any (Ht.o.below Hbw.o)).mono ?_
    rintro r W1 ⟨⟨u, rfl, hu⟩, b1⟩
    rw [Hn.o] at hu
    obtain ⟨A', c', rfl, _⟩ := hu.form
    have Hu := hid hu.rd
    have B1 := hid b1
    have hs1 := b1.size
    have hncap : (n : Int) ≤ (c' : Int) := by
     obtain ⟨_, A2, c2, hv2, h2, _⟩ := hu.rd
     injection hv2 with _ _ h3
     omega
    clear hu b1
    go_wp2_with fail
    go_loopw [22] (fun jv X => ∃ j : Nat, j ≤ n ∧ jv = .int .i64 j ∧ Hid (PosTo X (w.heap.size + 1) j T) ∧ Hid (Mod (fun g => g = (w.heap.size + 1)) W1 X)) (fun jv _ => n - (intOf jv).toNat)
    case atStart => exact ⟨0, by omega, rfl, Hps.o.of_block (B1.o.block _ Hps.o.lt), Mod.refl _ _⟩
    case round =>
     obtain ⟨j, hj, rfl, P1, M1⟩ := hrel
     have hsz := M1.o.size
     have hblk := (M1.o.block (w.heap.size + 1 + 1) (by have := Hsz.o; omega) (by omega)).trans ((B1.o.block _ (by have := Hsz.o; omega)).trans Hbk.o)
     obtain ⟨c0, _⟩ := box6 hblk
     have Hblk := hid hblk
     clear hblk
     by_cases hlt : j < n
     ·have x1 : (j : Int) < (n : Int) := by omega
      obtain ⟨m, hm⟩ : ∃ m, nth T.lits j = m := ⟨_, rfl⟩
      have hmem : T.lits[j]? = some m := by
       have := Hlt.o
       rw [← hm, nth_eq (by omega)]
       exact List.getElem?_eq_getElem (by omega)
      obtain ⟨hb1, hb2⟩ := lits_small Hwf.o (List.mem_of_getElem? hmem)
      obtain ⟨g, o, rfl, hg, _, e0⟩ := (Hu.o.mod M1.o fun g _ hg hf => by have := Hsz.o; omega).cell.2 j hlt
      rw [hm] at e0
      obtain ⟨v, hv⟩ : ∃ v, m.natAbs = v := ⟨_, rfl⟩
      have hmx : (if m < -m then -m else m) = (v : Int) := by split <;> omega
      have hwn : IntKind.i64.wrap (-m) = -m := liw' (by omega) (by omega)
      obtain ⟨D, hown, hD⟩ := P1.o
      have hkey : keyOf Tryz.prog 3 (.int .i64 v) = some (.int .i64 v) := lkey_num (by unfold I64; omega)
      have hpe : plainElem (H := Unit) Tryz.prog 3 (.int .i64 j) = some (.lit (.int .i64 j), []) := plainElem_int Tryz.underlying3 (li64_wf (by unfold I64; omega))
      have HD := hid hD
      have Hown := hid hown
      have Hmem := hid hmem
      have Hv := hid hv
      clear hD hown hmem hm hv
      go_wp2_with (at_mapUpdate; refine wpList_mapUpdate_own _ rfl _ _ _ 28 rfl 3 3 lkeyed_int Tryz.underlying28 (plainElem (H := Unit) Tryz.prog 3) (w.heap.size + 1) _ D rfl Hown.o (by unfold maxLen; omega) _ _ _ rfl rfl hkey _ [] hpe ?_; intro w3 hown3 hgrow3)
      have hput := PosTo.put Hwf.o Hown.o HD.o Hmem.o (by rw [Hv.o]; exact hown3)
      go_roundw
      case rel => exact ⟨j + 1, by omega, by go_num, hput, M1.o.trans ((grown_mod hgrow3).mono fun g _ hg => .inl hg)⟩
      case measure => simp [intOf]; omega
     ·have x1 : ((j : Int) < (n : Int)) = False := by simp; omega
      go_wp2_with fail
      go_ret
      refine ⟨⟨_, (w.heap.size + 1), w.heap.size, n, rfl, ⟨Hblk.o, ?_, ?_, by omega⟩, by omega, by omega, by omega⟩, ?_⟩
      ·have := P1.o.all Hwf.o (by have := Hlt.o; omega)
       rwa [show j = n by omega] at this
      ·exact Hst.o.of_block ((M1.o.block _ (by have := Hsz.o; omega) (by omega)).trans (B1.o.block _ Hst.o.lt))
      ·exact lbelow_mod (Hbw.o.trans (B1.o.mono (by have := Hsz.o; omega))) (by have := Hsz.o; omega) M1.o fun g hg => by omega
   exact AllReadyH.nil
  refine AllReadyH.cons (o := ⟨_, _, _, _, _, _⟩) rfl (fun K hK => ?_) ?_
  ·go_simp
   refine (depth_any (F := Ft) (T := T) (Ht.o.below (by with_reducible (repeat first | exact Below.refl _ _ | apply Bl.ldrew | apply Bl.lalloc)))).mono ?_
   rintro r w' ⟨rfl, rfl⟩
   go_simp
   refine hK.out _ _ trivial (fun hHeld => ?_)
   clear hK K
   refine wpAnyH_ready (rs := [0]) (by kernel_rfl) (by simp) ?_
   refine AllReadyH.cons (o := ⟨_, _, _, _, _, _⟩) rfl (fun K hK => ?_) ?_
   ·go_simp
    refine hK.out _ _ trivial (fun hHeld => ?_)
    clear hK K
    refine tk 1 ?_ (hS := trivial)
    refine tk 11 ?_ (hS := trivial)
    refine rd0 12 fun K hK => ?_
    go_simp
    refine hK.out _ _ trivial (fun hHeld => ?_)
    clear hK K
    refine tk 13 ?_ (hS := trivial)
    refine wpAnyH_done (by kernel_rfl) ?_ _
    obtain ⟨W, hW, hsz, hbw, hbk, hps, hst⟩ := begin_start w tb T (w.heap.size + 1) w.heap.size (by omega)
    rw [← hW]
    clear hW hHeld
    have Hsz := hid hsz
    have Hbw := hid hbw
    have Hbk := hid hbk
    have Hps := hid hps
    have Hst := hid hst
    have Hwf := hid Ht.o.wf
    have Hlt := hid (show T.lits.length = T.L.length by simp [Tr.lits])
    have hln := Hwf.o.len
    have hvs := Hwf.o.vars
    obtain ⟨n, hn⟩ : ∃ n, T.L.length = n := ⟨_, rfl⟩
    rw [hn] at hln Hlt
    have Hn := hid hn
    clear hsz hbw hbk hps hst hn
    go_wp2_with fail
    refine (lits_any (Ht.o.below Hbw.o)).mono ?_
    rintro r W1 ⟨⟨u, rfl, hu⟩, b1⟩
    rw [Hn.o] at hu
    obtain ⟨A', c', rfl, _⟩ := hu.form
    have Hu := hid hu.rd
    have B1 := hid b1
    have hs1 := b1.size
    have hncap : (n : Int) ≤ (c' : Int) := by
     obtain ⟨_, A2, c2, hv2, h2, _⟩ := hu.rd
     injection hv2 with _ _ h3
     omega
    clear hu b1
    go_wp2_with fail
    go_loopw [22] (fun jv X => ∃ j : Nat, j ≤ n ∧ jv = .int .i64 j ∧ Hid (PosTo X (w.heap.size + 1) j T) ∧ Hid (Mod (fun g => g = (w.heap.size + 1)) W1 X)) (fun jv _ => n - (intOf jv).toNat)
    case atStart => exact ⟨0, by omega, rfl, Hps.o.of_block (B1.o.block _ Hps.o.lt), Mod.refl _ _⟩
    case round =>
     obtain ⟨j, hj, rfl, P1, M1⟩ := hrel
     have hsz := M1.o.size
     have hblk := (M1.o.block (w.heap.size + 1 + 1) (by have := Hsz.o; omega) (by omega)).trans ((B1.o.block _ (by have := Hsz.o; omega)).trans Hbk.o)
     obtain ⟨c0, _⟩ := box6 hblk
     have Hblk := hid hblk
     clear hblk
     by_cases hlt : j < n
     ·have x1 : (j : Int) < (n : Int) := by omega
      obtain ⟨m, hm⟩ : ∃ m, nth T.lits j = m := ⟨_, rfl⟩
      have hmem : T.lits[j]? = some m := by
       have := Hlt.o
       rw [← hm, nth_eq (by omega)]
       exact List.getElem?_eq_getElem (by omega)
      obtain ⟨hb1, hb2⟩ := lits_small Hwf.o (List.mem_of_getElem? hmem)
      obtain ⟨g, o, rfl, hg, _, e0⟩ := (Hu.o.mod M1.o fun g _ hg hf => by have := Hsz.o; omega).cell.2 j hlt
      rw [hm] at e0
      obtain ⟨v, hv⟩ : ∃ v, m.natAbs = v := ⟨_, rfl⟩
      have hmx : (if m < -m then -m else m) = (v : Int) := by split <;> omega
      have hwn : IntKind.i64.wrap (-m) = -m := liw' (by omega) (by omega)
      obtain ⟨D, hown, hD⟩ := P1.o
      have hkey : keyOf Tryz.prog 3 (.int .i64 v) = some (.int .i64 v) := lkey_num (by unfold I64; omega)
      have hpe : plainElem (H := Unit) Tryz.prog 3 (.int .i64 j) = some (.lit (.int .i64 j), []) := plainElem_int Tryz.underlying3 (li64_wf (by unfold I64; omega))
      have HD := hid hD
      have Hown := hid hown
      have Hmem := hid hmem
      have Hv := hid hv
      clear hD hown hmem hm hv
      go_wp2_with (at_mapUpdate; refine wpList_mapUpdate_own _ rfl _ _ _ 28 rfl 3 3 lkeyed_int Tryz.underlying28 (plainElem (H := Unit) Tryz.prog 3) (w.heap.size + 1) _ D rfl Hown.o (by unfold maxLen; omega) _ _ _ rfl rfl hkey _ [] hpe ?_; intro w3 hown3 hgrow3)
      have hput := PosTo.put Hwf.o Hown.o HD.o Hmem.o (by rw [Hv.o]; exact hown3)
      go_roundw
      case rel => exact ⟨j + 1, by omega, by go_num, hput, M1.o.trans ((grown_mod hgrow3).mono fun g _ hg => .inl hg)⟩
      case measure => simp [intOf]; omega
     ·have x1 : ((j : Int) < (n : Int)) = False := by simp; omega
      go_wp2_with fail
      go_ret
      refine ⟨⟨_, (w.heap.size + 1), w.heap.size, n, rfl, ⟨Hblk.o, ?_, ?_, by omega⟩, by omega, by omega, by omega⟩, ?_⟩
      ·have := P1.o.all Hwf.o (by have := Hlt.o; omega)
       rwa [show j = n by omega] at this
      ·exact Hst.o.of_block ((M1.o.block _ (by have := Hsz.o; omega) (by omega)).trans (B1.o.block _ Hst.o.lt))
      ·exact lbelow_mod (Hbw.o.trans (B1.o.mono (by have := Hsz.o; omega))) (by have := Hsz.o; omega) M1.o fun g hg => by omega
   exact AllReadyH.nil
  exact AllReadyH.nil
 exact AllReadyH.nil
end
end Go.Proofs.YtcjmpobccbnpkaaGreat
