/-
  The analysis: sorted.
-/
import Derived.Test.YtanhacdadgbjdaaLnG
import Derived.Test.YtanhacdadgbjdaaLnH
namespace Go.Proofs.Ytanhacdadgbjdaa
open Go.RowKit Go.Maps

/-- A false literal. -/
def Fls (T : Tr) : Type := { x : Int // -x ∈ T.lits }
def fenc (T : Tr) (x : Fls T) : Value := .int .i64 x.1
def fcmp (T : Tr) (x y : Fls T) : Int := T.pos y.1 - T.pos x.1
theorem fcmp_swo (T : Tr) : Go.Sort.SWO (ltOf (fcmp T)) where
  irrefl x := by unfold ltOf fcmp; rw [decide_eq_false_iff_not]; omega
  trans x y z h1 h2 := by
    unfold ltOf fcmp at *
    rw [decide_eq_true_eq] at *
    omega
  ntrans x y z h1 h2 := by
    unfold ltOf fcmp at *
    rw [decide_eq_false_iff_not] at *
    omega
theorem sort_mod {α : Type} [Inhabited α] (enc : α → Value) (w : World) (blk off n : Nat) (d : Array α) (os : Array Obj) : Mod (fun g => g = blk) w (sortWorld enc w blk off n d os) := by
  refine ⟨rfl, rfl, rfl, ?_, fun k hk hne => ?_⟩
  · unfold sortWorld
    rw [Go.Sort.size_grow]
    simp [Go.Sort.putRow, Go.Sort.mapBlock, Go.Sort.ahead]
  · unfold sortWorld
    rw [Go.Sort.heap_grow_old _ _ (by simp [Go.Sort.putRow, Go.Sort.mapBlock, Go.Sort.ahead]; omega)]
    unfold Go.Sort.putRow Go.Sort.mapBlock Go.Sort.ahead
    simp only
    rw [Array.getElem?_modify, if_neg (fun e => hne e.symm)]
theorem ranges_of {w w' : World} {b r n cnt : Nat} {D : DataW Unit} {left : Lit → Bool} (h : w.ranges Try.prog 3 unitElem b r n D left cnt) (h1 : w'.heap[b]? = w.heap[b]?) (h2 : w'.heap[r]? = w.heap[r]?) : w'.ranges Try.prog 3 unitElem b r n D left cnt := by
  obtain ⟨es, clock, since, seen, c0, hb, F, hs, hD, hr, rest⟩ := h
  exact ⟨es, clock, since, seen, c0, h1.trans hb, F, hs, hD, h2.trans hr, rest⟩
theorem ranges_le {w : World} {b r n cnt : Nat} {D : DataW Unit} {left : Lit → Bool} (h : w.ranges Try.prog 3 unitElem b r n D left cnt) : cnt ≤ n := by
  obtain ⟨es, clock, since, seen, c0, hb, F, hs, hD, hr, h1, h2, _⟩ := h
  rw [← h2]
  unfold leftOf
  exact Nat.le_trans Array.size_filter_le hs

theorem inv_key (key : Value) (kl : Lit) (h : keyOf Try.prog 3 key = some kl) : ∃ x, key = Value.int .i64 x := by
  obtain ⟨x, hx, _⟩ := Maps.keyOf_int_inv Try.underlying3 h
  exact ⟨x, hx⟩
theorem key_inv {x : Int} {kl : Lit} (h : keyOf Try.prog 3 (.int .i64 x) = some kl) : kl = .int .i64 x ∧ I64 x := by
  obtain ⟨y, hy, hk, hw⟩ := Maps.keyOf_int_inv Try.underlying3 h
  injection hy with _ hy
  subst hy
  refine ⟨hk, ?_⟩
  unfold I64
  simp [Lit.wf, IntKind.min, IntKind.max, IntKind.signed, IntKind.bits] at hw
  omega
theorem inv_unit (v : Value) (y : DataW Unit × List MemPlace) (h : unitElem v = some y) : ∃ c : Unit, v = (fun _ => Value.agg #[]) c := by
  obtain ⟨hv, _⟩ := unitElem_inv h
  exact ⟨(), hv⟩
theorem same_int (x y : Int) : (Lit.int .i64 x).sameKey (.int .i64 y) = decide (x = y) := by
  by_cases e : x = y
  · subst e
    cases hs : (Lit.int IntKind.i64 x).sameKey (.int .i64 x)
    · simp [Lit.sameKey] at hs
    · simp
  · rw [sameKey_ne (num_ne e)]
    simp [e]

theorem fls_of {T : Tr} : ∀ xs : List Int, (∀ x ∈ xs, -x ∈ T.lits) → ∃ d : Array (Fls T), d.toList.map (·.1) = xs
  | [], _ => ⟨#[], rfl⟩
  | x :: xs, h => by
    obtain ⟨d, hd⟩ := fls_of xs fun y hy => h y (List.mem_cons_of_mem _ hy)
    exact ⟨(⟨x, h x List.mem_cons_self⟩ :: d.toList).toArray, by show x :: d.toList.map _ = _; rw [hd]⟩
theorem get_bang {α : Type} [Inhabited α] (d : Array α) {j : Nat} (h : j < d.size) : d.toList[j]? = some d[j]! := by
  rw [getElem!_pos d j h, List.getElem?_eq_getElem (by simpa using h)]
  simp
theorem holds_own {T : Tr} [Inhabited (Fls T)] {w : World} {F : Nat → Prop} {n cap g : Nat} {xs : List Int} {d : Array (Fls T)} {e : TypeId} (h : Own w F e 1 (.slice (some ⟨g, 0, none⟩) n cap) n (ints xs)) (hd : d.toList.map (·.1) = xs) : Go.Sort.Holds (fenc T) w g 0 d := by
  intro j hj
  have hl : xs.length = n := by have := h.1; simpa [ints_length] using this
  have hs : d.size = n := by rw [← hl, ← hd]; simp
  obtain ⟨g', e1, _, _, hc, hf⟩ := h.cell (j := j) (by omega)
  injection e1 with e1
  injection e1 with e1
  subst e1
  rw [Nat.zero_add]
  refine ⟨?_, hf⟩
  rw [hc, ints_get, ← hd, List.getElem?_map, get_bang d hj]
  rfl
theorem rd_holds {T : Tr} [Inhabited (Fls T)] {w : World} {F : Nat → Prop} {n cap g : Nat} {d : Array (Fls T)} (h : Go.Sort.Holds (fenc T) w g 0 d) (hs : d.size = n) (h1 : n ≤ cap) (h2 : cap ≤ maxLen) (hF : F g) (hg : g < w.heap.size) : Rd w F 1 (.slice (some ⟨g, 0, none⟩) n cap) n (ints (d.toList.map (·.1))) := by
  refine ⟨by rw [ints_length]; simp [hs], _, cap, rfl, h1, h2, fun _ => ⟨g, 0, rfl, hF, hg, fun j u hu => ?_⟩⟩
  have hj : j < d.size := by
    have := (List.getElem?_eq_some_iff.1 hu).1
    simpa [ints_length] using this
  rw [ints_get, List.getElem?_map, get_bang d hj] at hu
  injection hu with hu
  rw [(h j hj).1, ← hu]
  rfl
theorem sorted_out {T : Tr} (hw : T.WF) {S : Int → Bool} (hS : ∀ x, S x = true → -x ∈ T.lits) [Inhabited (Fls T)] {d d' : Array (Fls T)} (hn : (d.toList.map (·.1)).Nodup) (hm : ∀ x, x ∈ d.toList.map (·.1) ↔ S x = true)
    (hp : Go.Sort.PermIn 0 d.size d d') (hs : Go.Sort.SortedIn (ltOf (fcmp T)) 0 d.size d') : d'.toList.map (·.1) = T.sorted S := by
  obtain ⟨h1, _, h2⟩ := hp
  have h3 : d'.toList.Perm d.toList := by
    have e1 : d'.extract 0 d.size = d' := by rw [← h1]; exact Array.extract_size
    have e2 : d.extract 0 d.size = d := Array.extract_size
    rwa [e1, e2] at h2
  have h4 : (d'.toList.map (·.1)).Perm (d.toList.map (·.1)) := h3.map _
  refine sorted_unique hw hS (h4.nodup_iff.2 hn) (fun x => h4.mem_iff.trans (hm x)) ?_
  rw [List.pairwise_iff_getElem]
  intro i j hi hj hij
  have hi' : i < d'.size := by simpa using hi
  have hj' : j < d'.size := by simpa using hj
  have := hs i j (Nat.zero_le _) hij (by omega)
  unfold ltOf fcmp at this
  rw [decide_eq_false_iff_not, getElem!_pos d' i hi', getElem!_pos d' j hj'] at this
  simp only [List.getElem_map, Array.getElem_toList]
  omega

set_option maxRecDepth 100000 in
set_option maxHeartbeats 4000000 in
theorem sorted_any {w : World} {a ma ms tb nm ns : Nat} {T : Tr} {A : An} (e : AnAt w a ma ms tb nm ns T A) (hw : T.WF) (hS : ∀ x, A.set x = true → -x ∈ T.lits) (hne : T.sorted A.set ≠ []) (hns : ns ≤ 1000000) :
    Calls Try.prog 28 #[.pointer (some ⟨a, 0, none⟩)] w fun r w' => (∃ R c, r = .returned (.slice R (T.sorted A.set).length c) ∧ Rd w' (fun k => w.heap.size ≤ k) 1 (.slice R (T.sorted A.set).length c) (T.sorted A.set).length (ints (T.sorted A.set))) ∧ Below w.heap.size w w' := by
  have b1 : Below w.heap.size w (w.alloc (.cells #[.pointer (some ⟨a, 0, none⟩)] 54)) := (Below.refl _ _).alloc (Nat.le_refl _) _
  have E1 := e.below b1
  have cb : (w.alloc (.cells #[.pointer (some ⟨a, 0, none⟩)] 54)).heap[w.heap.size]? = some (.cells #[.pointer (some ⟨a, 0, none⟩)] 54 (0, 0)) := heap_alloc_new w _
  obtain ⟨D, hown, hD⟩ := E1.set
  have hal := lt_of_block e.blk
  have hml := e.set.lt
  have hpl := e.pos.lt
  obtain ⟨c0, c1, c2, c3, c4, c5, _⟩ := box6 E1.blk
  have B1 := hid b1
  have HE := hid E1
  have Cb := hid cb
  have HS := hid hS
  have Hne := hid hne
  have HD := hid hD
  have Hw := hid hw
  clear e hw hS hne hD b1 cb E1
  go_enter Try.func28, Try.ntmps28
  go_wp2_with (at_range; refine wpList_range_own _ rfl _ 72 rfl 3 75 keyed_int Try.underlying72 _ ms ns D rfl hown ?_; intro w0 hrg0 hg0 hs0)
  go_frame
  simp only [World.size_alloc]
  have Hrg0 := hid hrg0
  have M0 := hid (Mod.of_grown hg0)
  have hcn0 := ranges_le hrg0
  simp only [World.size_alloc] at hs0
  clear hrg0 hg0 c0 c1 c2 c3 c4 c5 hown
  go_loopw [3] (fun xv W => ∃ (left : Lit → Bool) (cnt : Nat) (xs : List Int) (R : Option Addr) (c : Nat), xv = .slice R xs.length c ∧ Hid (W.ranges Try.prog 3 unitElem ms (w.heap.size + 1) ns D left cnt) ∧ xs.length + cnt ≤ ns ∧ Hid (Own W (fun g => w.heap.size + 2 ≤ g) 3 1 (.slice R xs.length c) xs.length (ints xs)) ∧ Hid xs.Nodup ∧ Hid (∀ x, left (.int .i64 x) = true → Maps.has D (.int .i64 x) = true) ∧ Hid (∀ x, x ∈ xs → I64 x) ∧ Hid (∀ x, I64 x → (x ∈ xs ↔ Maps.has D (.int .i64 x) = true ∧ left (.int .i64 x) = false)) ∧ Hid (Mod (fun g => w.heap.size < g) w0 W)) (fun _ W => W.rangeLeft ms (w.heap.size + 1))
  case atStart =>
    refine ⟨_, _, [], none, 0, rfl, ?_, by simpa using hcn0, Own.nil _ _ _ _, List.nodup_nil, fun x hx => hx, fun x hx => by simp at hx, fun x _ => ?_, Mod.refl _ _⟩
    · have := Hrg0.out
      simp only [World.size_alloc] at this
      exact this
    · simp
  case round =>
    obtain ⟨left, cnt, xs, R, c, rfl, Hrg, hcnt, Ho, Hnd, Hld, Hi, Hmem, M1⟩ := hrel
    have hsz := M1.out.size
    go_wp2_with (at_next; refine wpList_next_ranges _ rfl _ rfl 3 keyed_int unitElem (Value.int .i64) (fun _ : Unit => .agg #[]) inv_key inv_unit ms (w.heap.size + 1) ns D left cnt rfl Hrg.out ?_ ?_)
    · intro hc0 hl0
      have hmS : ∀ x, x ∈ xs ↔ A.set x = true := fun x => by
        constructor
        · intro hx
          have hI := Hi.out x hx
          rw [← HD.out x hI]
          exact ((Hmem.out x hI).1 hx).1
        · intro hx
          have hb := lits_small Hw.out (HS.out x hx)
          have hI : I64 x := by unfold I64; omega
          exact (Hmem.out x hI).2 ⟨(HD.out x hI).trans hx, hl0 _⟩
      obtain ⟨x0, hx0⟩ := List.exists_mem_of_ne_nil _ Hne.out
      have hS0 := (mem_sorted_iff HS.out x0).1 hx0
      have hpos : 0 < xs.length := List.length_pos_of_mem ((hmS x0).2 hS0)
      haveI hinh : Inhabited (Fls T) := ⟨⟨x0, HS.out x0 hS0⟩⟩
      obtain ⟨d, hd⟩ := fls_of xs fun x hx => HS.out x ((hmS x).1 hx)
      have hds : d.size = xs.length := by rw [← hd]; simp
      obtain ⟨R', c', hv, hle, hmx, hg⟩ := Ho.out.form
      injection hv with hv1 _ hv3
      subst hv1 hv3
      obtain ⟨g, rfl, hgF, hgl⟩ := hg (by omega)
      have HmS := hid hmS
      have Hd := hid hd
      have Hds := hid hds
      have hk : ∀ k, k ≤ w.heap.size → wr.heap[k]? = (w.alloc (.cells #[.pointer (some ⟨a, 0, none⟩)] 54)).heap[k]? := fun k hk => (M1.out.block k (by omega) (by omega)).trans (M0.out.block k (by simp; omega) (by simp))
      have Hblk := hid ((hk a (by omega)).trans HE.out.blk)
      have Hpos := hid (HE.out.pos.of_block (hk ma (by omega)))
      have Hbox := hid ((hk w.heap.size (by omega)).trans Cb.out)
      have hsf := sort_func (fenc T) (fun x => rfl) (fcmp T) (fcmp_swo T) 40 #[.pointer (some ⟨w.heap.size, 0, none⟩)] g 0 c d wr (by intro args w; kernel_rfl) (CmpReads.lays (fun m os dk hs x y => by
        have hm := sort_mod (fenc T) wr g 0 m dk os
        have hb := (hm.block w.heap.size (by omega) (by omega)).trans Hbox.out
        have ha := (hm.block a (by omega) (by omega)).trans Hblk.out
        have hp := Hpos.out.of_block (hm.block ma (by omega) (by omega))
        exact sorted_closure ((cell_of_row _ _ 0 _ _ _ hb).trans rfl) (box6 ha).1 hp Hw.out x.2 y.2)) (holds_own Ho.out hd) hgl (by omega)
      rw [hds] at hsf
      have Hsf := hid hsf
      clear hmS hd hds hk hsf hcnt
      go_wp2_with fail
      refine Hsf.out.mono ?_
      rintro r w' ⟨rfl, d', n, os, hp, hs, rfl⟩
      go_wp2_with fail
      go_ret
      have hout := sorted_out Hw.out HS.out (by rw [Hd.out]; exact Hnd.out) (by rw [Hd.out]; exact HmS.out) (by rw [Hds.out]; exact hp) (by rw [Hds.out]; exact hs)
      have hds' : d'.size = xs.length := by have := hp.1; rw [this, Hds.out]
      have hlen : (T.sorted A.set).length = xs.length := by rw [← hout]; simp [hds']
      refine ⟨⟨some ⟨g, 0, none⟩, c, by rw [hlen]; rfl, ?_⟩, ?_⟩
      · rw [hlen, ← hout]
        exact rd_holds (holds_sortWorld (fenc T) wr g 0 n d d' os hgl (holds_own Ho.out Hd.out) (by rw [hds', Hds.out])) hds' hle hmx (by omega) (by have := (sort_mod (fenc T) wr g 0 n d' os).size; omega)
      · have B0 : Below w.heap.size w w0 := B1.out.trans ((Mod.below (M0.out.mono fun k _ hk => by cases hk)).mono (by simp))
        exact below_mod (below_mod B0 (by omega) M1.out fun g hg => by omega) (by omega) (sort_mod (fenc T) wr g 0 n d' os) fun k hk => by omega
    · intro x uc kl y w1 cnt1 hkey hlk hRv hat hrg1 hlt hg1 hs1 hen
      obtain ⟨rfl, hIx⟩ := key_inv hkey
      have M2 : Hid (Mod (fun g => w.heap.size < g) w0 w1) := M1.out.trans ((Mod.of_grown hg1).mono fun k _ hk => .inl (by injection hk with hk; omega))
      have Ho1 := hid (Ho.out.mod (Mod.of_grown hg1) fun g _ _ hf hk => by injection hk with hk; omega)
      have Hrg1 := hid hrg1
      have hin := hid ((show ¬ x ∈ xs from fun hx => by have := ((Hmem.out x hIx).1 hx).2; rw [hlk] at this; cases this))
      have hhas := hid (Hld.out x hlk)
      have HIx := hid hIx
      have Hs1 := hid hs1
      clear hg1 hrg1 hRv hat hkey hIx hs1
      go_wp2_with (at_builtin; refine wpList_append_ints rfl _ _ rfl (Ho1.out.below ((Below.refl _ _).alloc (Nat.le_refl _) _)) (own_one w1 (.int .i64 x)).rd rfl rfl (by simp [Value.oneCell']) (by omega) ?_; intro Av cv w3 ho3 hm3 hr3)
      have hrow : ∀ g, row (.slice R xs.length c) g → w.heap.size + 2 ≤ g := fun g hg => (Ho1.out.row hg).1
      have hs3 := hm3.size
      have hs1 := Hs1.out
      simp only [World.size_alloc] at hs3
      have hk : ∀ k, k < w.heap.size + 2 → w3.heap[k]? = w1.heap[k]? := fun k hk => (hm3.block k (by simp; omega) (fun hr => by have := hrow k hr; omega)).trans (World.heap_alloc_ne _ _ _ (by omega))
      have Hrg3 := ranges_of Hrg1.out (hk _ (by omega)) (hk _ (by omega))
      go_roundw
      case rel =>
        refine ⟨_, cnt1, xs ++ [x], Av, cv, by simp, Hrg3, by simp; omega, ?_, ?_, ?_, ?_, ?_, ?_⟩
        · rw [ints_append, List.length_append]
          exact ho3.mono fun g _ _ hg => hg.elim id fun hg => by simp at hg; omega
        · exact List.nodup_append.2 ⟨Hnd.out, by simp, by simp; exact fun z hz e => hin.out (e ▸ hz)⟩
        · intro z hz
          exact Hld.out z (by simp only [Bool.and_eq_true] at hz; exact hz.1)
        · intro z hz
          rcases List.mem_append.1 hz with hz | hz
          · exact Hi.out z hz
          · rw [List.mem_singleton.1 hz]; exact HIx.out
        · intro z hz
          rw [List.mem_append, List.mem_singleton, Hmem.out z hz, same_int]
          by_cases e : z = x
          · subst e
            simp [hhas.out]
          · simp [e]
        · exact (M2.out.alloc _).trans (hm3.mono fun k _ hk => .inl (by have := hrow k hk; omega))
      case measure => rw [Hrg3.left_eq, Hrg.out.left_eq]; exact hlt
end Go.Proofs.Ytanhacdadgbjdaa
