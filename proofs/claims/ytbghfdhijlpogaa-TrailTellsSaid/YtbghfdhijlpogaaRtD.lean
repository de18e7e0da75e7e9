/-
  The reference of layer 28: Undo.
-/
import Derived.Test.YtbghfdhijlpogaaRtC
namespace Go.Proofs.Ytbghfdhijlpogaa
open Go.RowKit

/-- What Undo holds after j entries: kept (m of them), gone (n of them), newest first. -/
def UnAt (T : Tr) (ts : List (Ent × Value)) (s B b : Nat) (A : Option Addr) (c : Nat) (dq : Int) (w : World) (j : Nat) (Ak Ag : Option Addr) (ck cg m n : Nat) (W : World) : Prop :=
  W.heap[b]? = some (.cells #[.int .i64 T.vars, .int .i64 dq, .slice A T.L.length c] 48) ∧ W.heap[b + 1]? = some (.cells #[.int .i64 0, .int .i64 0, .slice none 0 0] 48) ∧ Below w.heap.size w W ∧ B ≤ W.heap.size ∧
    Own W (fun g => B ≤ g) 74 3 (.slice Ak m ck) m (flat (ts.take (min j s))) ∧ Own W (fun g => B ≤ g) 3 1 (.slice Ag n cg) n (ints ((T.lits.take j).drop s).reverse) ∧ (j ≤ s → Ag = none ∧ cg = 0) ∧ m = min j s ∧ n = j - s

theorem UnAt.kept {T : Tr} {ts : List (Ent × Value)} {s B b c : Nat} {A : Option Addr} {dq : Int} {w : World} {j : Nat} {Ak Ag : Option Addr} {ck cg n : Nat} {W W3 : World} {ob : Obj} (I : UnAt T ts s B b A c dq w j Ak Ag ck cg j n W) (hb : b + 1 < B) (hwb : w.heap.size = b) (hjs : j < s) {p : Ent × Value} (hp : ts[j]? = some p)
    {A3 : Option Addr} {c3 : Nat} (ho : Own W3 (fun g => B ≤ g ∨ (W.alloc ob).heap.size ≤ g) 74 3 (.slice A3 (j + 1) c3) (j + 1) (flat (ts.take j) ++ [.int .i64 p.1.lit, .int .i64 p.1.level, p.2])) (hm : Mod (row (.slice Ak j ck)) (W.alloc ob) W3) :
    UnAt T ts s B b A c dq w (j + 1) A3 none c3 0 (j + 1) 0 W3 := by
  obtain ⟨h1, h2, h3, h4, h5, h6, h7, h8, h9⟩ := I
  have ha : Below W.heap.size W (W.alloc ob) := (Below.refl _ _).alloc (Nat.le_refl _) ob
  have hrow : ∀ g, row (.slice Ak j ck) g → B ≤ g := fun g hg => (h5.row hg).1
  have hs : W.heap.size ≤ (W.alloc ob).heap.size := ha.size
  have kb : ∀ {g : Nat} {q : Obj}, g < B → W.heap[g]? = some q → W3.heap[g]? = some q := fun {g q} hg hq =>
    (hm.block g (by omega) (fun hr => by have := hrow g hr; omega)).trans (keep_blk hq ha)
  have e1 : min (j + 1) s = j + 1 := by omega
  have htk : ts.take (j + 1) = ts.take j ++ [p] := by
    obtain ⟨hlt, rfl⟩ := List.getElem?_eq_some_iff.1 hp
    exact List.take_succ_eq_append_getElem hlt
  refine ⟨kb (by omega) h1, kb hb h2, below_mod (h3.trans (ha.mono h3.size)) (Nat.le_trans h3.size hs) hm (fun g hg => by have := hrow g hg; omega), Nat.le_trans (Nat.le_trans h4 hs) hm.size, ?_, ?_, fun _ => ⟨rfl, rfl⟩, e1.symm, by omega⟩
  · rw [e1, htk, flat_append]
    refine ho.mono fun g _ _ hg => ?_
    rcases hg with hg | hg
    · exact hg
    · omega
  · have : (T.lits.take (j + 1)).drop s = [] := List.drop_eq_nil_of_le (by simp; omega)
    rw [this]
    exact Own.none_ _ _ _ _ _
theorem UnAt.gone {T : Tr} {ts : List (Ent × Value)} {s B b c : Nat} {A : Option Addr} {dq : Int} {w : World} {j : Nat} {Ak Ag : Option Addr} {ck cg m n : Nat} {W W3 : World} {ob : Obj} (I : UnAt T ts s B b A c dq w j Ak Ag ck cg m n W) (hjs : ¬ j < s) {l : Int} (hl : T.lits[j]? = some l)
    {A3 : Option Addr} {c3 : Nat} (ho : Own W3 (fun g => g = W.heap.size ∨ (W.alloc ob).heap.size ≤ g) 3 1 (.slice A3 (1 + n) c3) (1 + n) ([.int .i64 l] ++ ints ((T.lits.take j).drop s).reverse)) (hm : Mod (row (.slice (some ⟨W.heap.size, 0, none⟩) 1 1)) (W.alloc ob) W3) :
    UnAt T ts s B b A c dq w (j + 1) Ak A3 ck c3 m (n + 1) W3 := by
  obtain ⟨h1, h2, h3, h4, h5, h6, h7, h8, h9⟩ := I
  have ha : Below W.heap.size W (W.alloc ob) := (Below.refl _ _).alloc (Nat.le_refl _) ob
  have hrow : ∀ g, row (.slice (some ⟨W.heap.size, 0, none⟩) 1 1) g → W.heap.size ≤ g := fun g hg => Nat.le_of_eq hg.2
  have hs : W.heap.size ≤ (W.alloc ob).heap.size := ha.size
  have hB : Below W.heap.size W W3 := below_mod ha hs hm hrow
  have e1 : min (j + 1) s = min j s := by omega
  have hdr : (T.lits.take (j + 1)).drop s = (T.lits.take j).drop s ++ [l] := by
    obtain ⟨hlt, rfl⟩ := List.getElem?_eq_some_iff.1 hl
    rw [List.take_succ_eq_append_getElem hlt, List.drop_append_of_le_length (by simp; omega)]
  refine ⟨keep_blk h1 hB, keep_blk h2 hB, h3.trans (hB.mono h3.size), Nat.le_trans h4 hB.size, ?_, ?_, fun h => by omega, by omega, by omega⟩
  · rw [e1]
    exact h5.below hB
  · rw [hdr, List.reverse_append, Nat.add_comm n 1]
    refine ho.mono fun g _ _ hg => ?_
    rcases hg with hg | hg <;> omega

/-- What the loop leaves is what Undo returns. -/
theorem UnAt.ends {T : Tr} {ts : List (Ent × Value)} {s B b c : Nat} {A : Option Addr} {dq : Int} {w : World} {Ak Ag : Option Addr} {ck cg m n : Nat} {W W3 : World} (I : UnAt T ts s B b A c dq w T.L.length Ak Ag ck cg m n W) (hb : b + 1 < B) (hwb : w.heap.size = b) {K : Nat} (hK : K < T.starts.length) (hs : T.starts[K] = s) (hL : T.L = ts.map Prod.fst) {P : Nat → Prop} (he : EntsRd P w A T.L.length c ts)
    {x : Int} (hx : x = K) (hm : min T.L.length s = m) (hn : T.L.length - s = n) (hbW : Below w.heap.size w W3) (hmW : Mod (fun g => g ≤ b + 1) W W3) :
    ∃ u g, Ending.returned (.tuple #[.agg #[.int .i64 T.vars, .int .i64 x, .slice Ak m ck], .slice Ag n cg]) = Ending.returned (.tuple #[u, g]) ∧ RefRd (fun g => P g ∨ w.heap.size ≤ g) W3 u (T.undo K) ∧ Rd W3 (fun g => P g ∨ w.heap.size ≤ g) 1 g (T.lits.drop s).reverse.length (ints (T.lits.drop s).reverse) := by
  obtain ⟨h1, h2, h3, h4, h5, h6, h7, h8, h9⟩ := I
  subst hx
  have hll : T.lits.length = T.L.length := List.length_map ..
  have htk : T.lits.take T.L.length = T.lits := List.take_of_length_le (by omega)
  rw [htk] at h6
  have hl : (T.lits.drop s).reverse.length = n := by
    rw [List.length_reverse, List.length_drop, hll, hn]
  refine ⟨_, _, rfl, ?_, ?_⟩
  · refine ⟨Ak, ck, ts.take s, ?_, ?_, ?_, ?_, ?_⟩
    · rw [Tr.undo_at hK]
      simp only [Tr.depth, List.length_take, hs]
      rw [show min s T.L.length = m by omega, show min K T.starts.length = K by omega]
    · rw [Tr.undo_at hK, hL, hs, List.map_take]
    · rw [Tr.undo_at hK, hL, hs]
      simp
    · rw [Tr.undo_at hK, hs]
      have hlm : (T.L.take s).length = m := by
        rw [List.length_take]
        omega
      have hts : ts.take s = ts.take (min T.L.length s) := by
        rw [hL, List.length_map]
        rcases Nat.le_total ts.length s with h | h
        · rw [Nat.min_eq_left h, List.take_of_length_le h, List.take_length]
        · rw [Nat.min_eq_right h]
      show Rd W3 _ 3 (.slice Ak (T.L.take s).length ck) (T.L.take s).length _
      rw [hlm, hts]
      exact (h5.mod hmW fun g _ _ hg => by omega).rd.mono fun g _ h => .inr (by
        have h : B ≤ g := h
        omega)
    · intro p hp
      exact ((he.2.2 p (List.mem_of_mem_take hp)).below hbW).mono fun _ _ h => .inl h
  · rw [hl]
    exact (h6.mod hmW fun g _ _ hg => by omega).rd.mono fun g _ h => .inr (by
        have h : B ≤ g := h
        omega)

set_option maxRecDepth 100000 in
set_option maxHeartbeats 4000000 in
/-- Undo of a level that is reached by now (K is the level, or 0 where it is below 0). -/
theorem rundo_any {P : Nat → Prop} {w : World} {v : Value} {T : Tr} (hv : RefRd P w v T) (hw : T.WF) {k : Int} (hk : I64 k) :
    Calls Try.prog 27 #[v, .int .i64 k] w fun r' w' => (∃ u g, r' = .returned (.tuple #[u, g]) ∧ RefRd (fun g => P g ∨ w.heap.size ≤ g) w' u (T.back (lvl k)) ∧ Rd w' (fun g => P g ∨ w.heap.size ≤ g) 1 g (T.gone (lvl k)).length (ints (T.gone (lvl k)))) ∧ Below w.heap.size w w' := by
  have h1 := hw.len
  have h2 := hw.vars
  have h3 := hw.len'
  have hdl : T.depth ≤ 65536 := by unfold Tr.depth; omega
  have Hw := hid hw
  have Hk := hid hk
  have Hv := hid hv
  obtain ⟨A, c, ts, rfl, hL, he⟩ := hv
  obtain ⟨X0, hX0, bX0, kX0, sX0⟩ := alloc_step w (.cells #[.int .i64 T.vars, .int .i64 T.depth, .slice A T.L.length c] 48)
  obtain ⟨X1, hX1, bX1, kX1, sX1⟩ := alloc_step X0 (.cells #[.int .i64 0, .int .i64 0, .slice none 0 0] 48)
  obtain ⟨b, hb⟩ : ∃ z, w.heap.size = z := ⟨_, rfl⟩
  rw [hb] at kX0 sX0
  rw [sX0] at kX1 sX1
  have HX0 := hid hX0
  have HX1 := hid hX1
  have KN := hid (keep_blk kX0 bX1)
  have K1 := hid kX1
  have BW := hid (bX0.trans (bX1.mono bX0.size))
  have Hb := hid hb
  obtain ⟨c0, c1, c2'⟩ := box3 KN.out
  obtain ⟨e0, e1, e2⟩ := box3 K1.out
  obtain ⟨f0, f1, f2⟩ := froz3 K1.out
  obtain ⟨g0, g1, g2⟩ := froz3 KN.out
  obtain ⟨K, hK⟩ : ∃ z, lvl k = z := ⟨_, rfl⟩
  rw [hK]
  have Kk : Hid ((k < 0 ∧ K = 0) ∨ (0 ≤ k ∧ k = (K : Int))) := hid (by unfold lvl at hK; split at hK <;> omega)
  clear hw hk he hL bX0 bX1 kX0 kX1 hX0 hX1 sX0 sX1 hb hK
  obtain ⟨dq, hdq⟩ : ∃ z : Int, (T.depth : Int) = z := ⟨_, rfl⟩
  have Hdq := hid hdq
  rw [hdq] at KN HX0 Hv c1
  clear hdq hdl
  by_cases hd : dq ≤ (K : Int)
  · have hnd : ¬ K < T.starts.length := by
      have := Hdq.out
      unfold Tr.depth at this
      omega
    have hB : Hid (T.back K = T) := hid (by simp [Tr.back, hnd])
    have hG : Hid (T.gone K = []) := hid (by simp [Tr.gone, hnd])
    rw [hB.out, hG.out]
    clear hnd hB hG
    by_cases hneg : k < 0
    · have hd0 : dq ≤ 0 := by
        rcases Kk.out with ⟨_, h⟩ | ⟨h, _⟩ <;> omega
      clear hd
      go_enter Try.func27, Try.ntmps27
      rw [Hdq.out]
      go_wp2_with fail
      have hbw : Below w.heap.size w _ := ((Below.refl w.heap.size w).alloc (Nat.le_refl _) (.cells #[.int .i64 T.vars, .int .i64 dq, .slice A T.L.length c] 48)).alloc (by simp) (.cells #[.int .i64 T.vars, .int .i64 dq, .slice A T.L.length c] 48)
      refine bodyPost_ret (v := .tuple #[.agg #[.int .i64 T.vars, .int .i64 dq, .slice A T.L.length c], .slice none 0 0]) (by simp [results, Try.f27, go_sem]) rfl ?_
      exact ⟨⟨_, _, rfl, (Hv.out.below hbw).mono fun _ _ h => .inl h, (Own.none_ _ (fun g => P g ∨ w.heap.size ≤ g) 3 1 none).rd⟩, hbw⟩
    · have hd0 : dq ≤ k := by
        rcases Kk.out with ⟨h, _⟩ | ⟨_, h⟩ <;> omega
      clear hd
      go_enter Try.func27, Try.ntmps27
      rw [Hdq.out]
      go_wp2_with fail
      have hbw : Below w.heap.size w _ := ((Below.refl w.heap.size w).alloc (Nat.le_refl _) (.cells #[.int .i64 T.vars, .int .i64 dq, .slice A T.L.length c] 48)).alloc (by simp) (.cells #[.int .i64 T.vars, .int .i64 dq, .slice A T.L.length c] 48)
      refine bodyPost_ret (v := .tuple #[.agg #[.int .i64 T.vars, .int .i64 dq, .slice A T.L.length c], .slice none 0 0]) (by simp [results, Try.f27, go_sem]) rfl ?_
      exact ⟨⟨_, _, rfl, (Hv.out.below hbw).mono fun _ _ h => .inl h, (Own.none_ _ (fun g => P g ∨ w.heap.size ≤ g) 3 1 none).rd⟩, hbw⟩
  · have hKs : K < T.starts.length := by
      have := Hdq.out
      unfold Tr.depth at this
      omega
    obtain ⟨s, hs⟩ : ∃ z, T.starts[K] = z := ⟨_, rfl⟩
    have hB : Hid (T.back K = T.undo K) := hid (by simp [Tr.back, hKs])
    have hG : Hid (T.gone K = (T.lits.drop s).reverse) := hid (by simp [Tr.gone, hKs, hs])
    have Hlt : Hid (∀ (i : Nat) (e : Ent), T.L[i]? = some e → (e.level ≤ K ↔ i < s)) := hid fun i e he => hs ▸ level_lt Hw.out he hKs
    have Hs := hid hs
    have HKs := hid hKs
    obtain ⟨A', c', ts', hve, hL', he'⟩ := Hv.out
    obtain ⟨hqq, rfl, rfl⟩ : _ ∧ A = A' ∧ c = c' := by simpa using hve
    obtain ⟨B, hBs⟩ : ∃ z, X1.heap.size = z := ⟨_, rfl⟩
    have hBb : b + 1 < B := hBs ▸ lt_of_block K1.out
    have I0 : Hid (UnAt T ts' s B b A c dq w 0 none none 0 0 0 0 X1) := hid ⟨KN.out, K1.out, BW.out, Nat.le_of_eq hBs.symm, by simpa [flat] using Own.none_ _ _ 74 3 none, by simpa [ints] using Own.none_ _ _ 3 1 none, fun _ => ⟨rfl, rfl⟩, by simp, by simp⟩
    have HL' := hid hL'
    have HeW := hid he'
    clear hs hve hL' he' hBs hqq
    by_cases hneg : k < 0
    · have hd0 : (dq ≤ 0) = False := by
        rcases Kk.out with ⟨_, h⟩ | ⟨h, _⟩ <;> simp <;> omega
      clear hd
      go_enter Try.func27, Try.ntmps27
      rw [Hdq.out]
      go_wp2_with fail
      rw [HX0.out, HX1.out, Hb.out]
      clear HX0 HX1
      go_loopw [6, 7, 8] (fun kv gv jv W => ∃ (j : Nat) (Ak Ag : Option Addr) (ck cg m n : Nat), j ≤ T.L.length ∧ jv = .int .i64 j ∧ kv = .slice Ak m ck ∧ gv = .slice Ag n cg ∧ Hid (UnAt T ts' s B b A c dq w j Ak Ag ck cg m n W)) (fun _ _ jv _ => T.L.length - (intOf jv).toNat)
      case atStart => exact ⟨0, none, none, 0, 0, 0, 0, Nat.zero_le _, rfl, rfl, rfl, I0⟩
      case round =>
        obtain ⟨j, Ak, Ag, ck, cg, m, n, hj, rfl, rfl, rfl, hI⟩ := hrel
        obtain ⟨kN, k1, bW, hBs, oK, oG, hnil, rfl, rfl⟩ := hI.out
        obtain ⟨c0, c1, c2'⟩ := box3 kN
        obtain ⟨e0, e1, e2⟩ := box3 k1
        obtain ⟨f0, f1, f2⟩ := froz3 k1
        obtain ⟨g0, g1, g2⟩ := froz3 kN
        have KN := hid kN
        have K1 := hid k1
        have BW := hid bW
        have OK := hid oK
        have OG := hid oG
        have Hnil := hid hnil
        clear kN k1 bW oK oG hnil
        by_cases hlt : j < T.L.length
        · have HeR := hid (HeW.out.below BW.out)
          obtain ⟨g, o, p, hA, hg, hp, d0, d1, d2, hrd⟩ := HeR.out.cells hlt
          rw [hA] at c2'
          have HA := hid hA
          have Hp := hid hp
          have Hone : Hid (∀ u ∈ [Value.int .i64 p.1.lit, .int .i64 p.1.level, p.2], u.oneCell' = true) := hid (by
            obtain ⟨R, nr, cr, hs, _⟩ := hrd
            intro u hu
            simp only [List.mem_cons, List.not_mem_nil, or_false] at hu
            rcases hu with rfl | rfl | rfl
            · rfl
            · rfl
            · rw [hs]; rfl)
          have hpe : T.L[j]? = some p.1 := by rw [HL'.out, List.getElem?_map, hp]; rfl
          have hlv := Hlt.out j p.1 hpe
          have Hlj : Hid (T.lits[j]? = some p.1.lit) := hid (by rw [show T.lits = T.L.map Ent.lit from rfl, List.getElem?_map, hpe]; rfl)
          clear hA hp hrd hpe
          obtain ⟨q, hq⟩ : ∃ z : Int, (p.1.level : Int) = z := ⟨_, rfl⟩
          rw [hq] at d1 Hone
          have Hq := hid hq
          by_cases hjs : j < s
          · have hle := hlv.2 hjs
            have hlk : q ≤ 0 := by rcases Kk.out with ⟨h, h'⟩ | ⟨h, h'⟩ <;> omega
            obtain ⟨n0, m0⟩ : j - s = 0 ∧ min j s = j := by omega
            rw [n0, m0] at hI ⊢
            rw [n0] at OG
            rw [m0] at OK
            obtain ⟨rfl, rfl⟩ := Hnil.out (by omega)
            clear hlv hle n0 m0 Hnil hq
            go_wp2_with (at_builtin; refine wpList_append_ents rfl _ _ rfl (v := .slice Ak j ck) (u := .slice (some ⟨wr.heap.size, 0, none⟩) 1 1) (OK.out.below ((Below.refl _ _).alloc (Nat.le_refl _) _)) (rd_ent (heap_alloc_new _ _)) rfl rfl Hone.out (by omega) fun A3 c3 W3 ho hm hr => ?_)
            rw [← Hq.out] at ho hm
            have I1 := hid (hI.out.kept hBb Hb.out hjs Hp.out ho hm)
            clear ho hm hr hI OK OG
            go_roundw
            case rel => exact ⟨j + 1, A3, none, c3, 0, j + 1, 0, by omega, by go_num, rfl, rfl, I1⟩
            case measure => simp [intOf]; omega
          · have hle : ¬ p.1.level ≤ K := fun h => hjs (hlv.1 h)
            have hlk : (q ≤ 0) = False := by rcases Kk.out with ⟨h, h'⟩ | ⟨h, h'⟩ <;> simp <;> omega
            obtain ⟨n, hn⟩ : ∃ z, j - s = z := ⟨_, rfl⟩
            obtain ⟨m, hm⟩ : ∃ z, min j s = z := ⟨_, rfl⟩
            have hnj : n ≤ j := by omega
            rw [hn, hm] at hI ⊢
            rw [hn] at OG
            rw [hm] at OK
            have Hn := hid hn
            have Hm := hid hm
            clear hlv hle hn hm hq
            go_wp2_with (at_builtin; refine wpList_append_ints rfl _ _ rfl (v := .slice (some ⟨wr.heap.size, 0, none⟩) 1 1) (u := .slice Ag n cg) (own_one wr (.int .i64 p.1.lit)) (OG.out.rd.below ((Below.refl _ _).alloc (Nat.le_refl _) _)) rfl rfl (ints_one _) (by omega) fun A3 c3 W3 ho hm hr => ?_)
            have I1 := hid (hI.out.gone hjs Hlj.out ho hm)
            clear ho hm hr hI OK OG
            go_roundw
            case rel => exact ⟨j + 1, Ak, A3, ck, c3, m, n + 1, by omega, by go_num, rfl, by rw [Nat.add_comm], I1⟩
            case measure => simp [intOf]; omega
        · obtain rfl : j = T.L.length := by omega
          obtain ⟨m, hm⟩ : ∃ z, min T.L.length s = z := ⟨_, rfl⟩
          obtain ⟨n, hn⟩ : ∃ z, T.L.length - s = z := ⟨_, rfl⟩
          rw [hn, hm] at hI ⊢
          have Hn := hid hn
          have Hm := hid hm
          clear hn hm OK OG Hnil hj hlt
          go_wp2_with fail
          obtain ⟨o0, o1, o2⟩ := box3 KN.out
          obtain ⟨WE, hWE⟩ : ∃ Y, (wr.setCell ⟨b, 2, none⟩ (.slice Ak m ck)).setCell ⟨b, 1, none⟩ (.int .i64 0) = Y := ⟨_, rfl⟩
          have bWE : Below w.heap.size w WE := by
            rw [← hWE]
            exact (BW.out.setCell (p := ⟨b, 2, none⟩) (Nat.le_of_eq Hb.out) _).setCell (p := ⟨b, 1, none⟩) (Nat.le_of_eq Hb.out) _
          have mWE : Mod (fun g => g = b) wr WE := by
            rw [← hWE]
            exact ((Mod.refl (fun g => g = b) wr).setCell (p := ⟨b, 2, none⟩) (.inl rfl) _).setCell (p := ⟨b, 1, none⟩) (.inl rfl) _
          have k1E := (mWE.block (b + 1) (lt_of_block K1.out) (by simp)).trans K1.out
          rw [hWE]
          obtain ⟨e0, e1, e2⟩ := box3 k1E
          obtain ⟨u0, u1, u2, m9⟩ := set3 e0 e1 e2 (.int .i64 T.vars) (.int .i64 0) (.slice Ak m ck)
          refine bodyPost_ret (v := .tuple #[.agg #[.int .i64 T.vars, .int .i64 0, .slice Ak m ck], .slice Ag n cg]) (by simp [results, Try.f27, go_sem, u0, u1, u2]) rfl ?_
          obtain ⟨WF, hWF⟩ : ∃ Y, ((WE.setCell ⟨b + 1, 0, none⟩ (.int .i64 T.vars)).setCell ⟨b + 1, 1, none⟩ (.int .i64 0)).setCell ⟨b + 1, 2, none⟩ (.slice Ak m ck) = Y := ⟨_, rfl⟩
          rw [hWF] at m9 ⊢
          have hwb := Hb.out
          have bWF : Below w.heap.size w WF := below_mod bWE bWE.size m9 fun g hg => by
            rw [hg]
            omega
          have mWF : Mod (fun g => g ≤ b + 1) wr WF := (mWE.mono fun g _ hg => by omega).trans (m9.mono fun g _ hg => by omega)
          rw [hB.out, hG.out]
          exact ⟨hI.out.ends hBb hwb hKs Hs.out HL'.out HeW.out (by rcases Kk.out with ⟨h, h'⟩ | ⟨h, h'⟩ <;> omega) Hm.out Hn.out bWF mWF, bWF⟩
    · have hd0 : (dq ≤ k) = False := by
        rcases Kk.out with ⟨h, _⟩ | ⟨_, h⟩ <;> simp <;> omega
      clear hd
      go_enter Try.func27, Try.ntmps27
      rw [Hdq.out]
      go_wp2_with fail
      rw [HX0.out, HX1.out, Hb.out]
      clear HX0 HX1
      go_loopw [6, 7, 8] (fun kv gv jv W => ∃ (j : Nat) (Ak Ag : Option Addr) (ck cg m n : Nat), j ≤ T.L.length ∧ jv = .int .i64 j ∧ kv = .slice Ak m ck ∧ gv = .slice Ag n cg ∧ Hid (UnAt T ts' s B b A c dq w j Ak Ag ck cg m n W)) (fun _ _ jv _ => T.L.length - (intOf jv).toNat)
      case atStart => exact ⟨0, none, none, 0, 0, 0, 0, Nat.zero_le _, rfl, rfl, rfl, I0⟩
      case round =>
        obtain ⟨j, Ak, Ag, ck, cg, m, n, hj, rfl, rfl, rfl, hI⟩ := hrel
        obtain ⟨kN, k1, bW, hBs, oK, oG, hnil, rfl, rfl⟩ := hI.out
        obtain ⟨c0, c1, c2'⟩ := box3 kN
        obtain ⟨e0, e1, e2⟩ := box3 k1
        obtain ⟨f0, f1, f2⟩ := froz3 k1
        obtain ⟨g0, g1, g2⟩ := froz3 kN
        have KN := hid kN
        have K1 := hid k1
        have BW := hid bW
        have OK := hid oK
        have OG := hid oG
        have Hnil := hid hnil
        clear kN k1 bW oK oG hnil
        by_cases hlt : j < T.L.length
        · have HeR := hid (HeW.out.below BW.out)
          obtain ⟨g, o, p, hA, hg, hp, d0, d1, d2, hrd⟩ := HeR.out.cells hlt
          rw [hA] at c2'
          have HA := hid hA
          have Hp := hid hp
          have Hone : Hid (∀ u ∈ [Value.int .i64 p.1.lit, .int .i64 p.1.level, p.2], u.oneCell' = true) := hid (by
            obtain ⟨R, nr, cr, hs, _⟩ := hrd
            intro u hu
            simp only [List.mem_cons, List.not_mem_nil, or_false] at hu
            rcases hu with rfl | rfl | rfl
            · rfl
            · rfl
            · rw [hs]; rfl)
          have hpe : T.L[j]? = some p.1 := by rw [HL'.out, List.getElem?_map, hp]; rfl
          have hlv := Hlt.out j p.1 hpe
          have Hlj : Hid (T.lits[j]? = some p.1.lit) := hid (by rw [show T.lits = T.L.map Ent.lit from rfl, List.getElem?_map, hpe]; rfl)
          clear hA hp hrd hpe
          obtain ⟨q, hq⟩ : ∃ z : Int, (p.1.level : Int) = z := ⟨_, rfl⟩
          rw [hq] at d1 Hone
          have Hq := hid hq
          by_cases hjs : j < s
          · have hle := hlv.2 hjs
            have hlk : q ≤ k := by rcases Kk.out with ⟨h, h'⟩ | ⟨h, h'⟩ <;> omega
            obtain ⟨n0, m0⟩ : j - s = 0 ∧ min j s = j := by omega
            rw [n0, m0] at hI ⊢
            rw [n0] at OG
            rw [m0] at OK
            obtain ⟨rfl, rfl⟩ := Hnil.out (by omega)
            clear hlv hle n0 m0 Hnil hq
            go_wp2_with (at_builtin; refine wpList_append_ents rfl _ _ rfl (v := .slice Ak j ck) (u := .slice (some ⟨wr.heap.size, 0, none⟩) 1 1) (OK.out.below ((Below.refl _ _).alloc (Nat.le_refl _) _)) (rd_ent (heap_alloc_new _ _)) rfl rfl Hone.out (by omega) fun A3 c3 W3 ho hm hr => ?_)
            rw [← Hq.out] at ho hm
            have I1 := hid (hI.out.kept hBb Hb.out hjs Hp.out ho hm)
            clear ho hm hr hI OK OG
            go_roundw
            case rel => exact ⟨j + 1, A3, none, c3, 0, j + 1, 0, by omega, by go_num, rfl, rfl, I1⟩
            case measure => simp [intOf]; omega
          · have hle : ¬ p.1.level ≤ K := fun h => hjs (hlv.1 h)
            have hlk : (q ≤ k) = False := by rcases Kk.out with ⟨h, h'⟩ | ⟨h, h'⟩ <;> simp <;> omega
            obtain ⟨n, hn⟩ : ∃ z, j - s = z := ⟨_, rfl⟩
            obtain ⟨m, hm⟩ : ∃ z, min j s = z := ⟨_, rfl⟩
            have hnj : n ≤ j := by omega
            rw [hn, hm] at hI ⊢
            rw [hn] at OG
            rw [hm] at OK
            have Hn := hid hn
            have Hm := hid hm
            clear hlv hle hn hm hq
            go_wp2_with (at_builtin; refine wpList_append_ints rfl _ _ rfl (v := .slice (some ⟨wr.heap.size, 0, none⟩) 1 1) (u := .slice Ag n cg) (own_one wr (.int .i64 p.1.lit)) (OG.out.rd.below ((Below.refl _ _).alloc (Nat.le_refl _) _)) rfl rfl (ints_one _) (by omega) fun A3 c3 W3 ho hm hr => ?_)
            have I1 := hid (hI.out.gone hjs Hlj.out ho hm)
            clear ho hm hr hI OK OG
            go_roundw
            case rel => exact ⟨j + 1, Ak, A3, ck, c3, m, n + 1, by omega, by go_num, rfl, by rw [Nat.add_comm], I1⟩
            case measure => simp [intOf]; omega
        · obtain rfl : j = T.L.length := by omega
          obtain ⟨m, hm⟩ : ∃ z, min T.L.length s = z := ⟨_, rfl⟩
          obtain ⟨n, hn⟩ : ∃ z, T.L.length - s = z := ⟨_, rfl⟩
          rw [hn, hm] at hI ⊢
          have Hn := hid hn
          have Hm := hid hm
          clear hn hm OK OG Hnil hj hlt
          go_wp2_with fail
          obtain ⟨o0, o1, o2⟩ := box3 KN.out
          obtain ⟨WE, hWE⟩ : ∃ Y, (wr.setCell ⟨b, 2, none⟩ (.slice Ak m ck)).setCell ⟨b, 1, none⟩ (.int .i64 k) = Y := ⟨_, rfl⟩
          have bWE : Below w.heap.size w WE := by
            rw [← hWE]
            exact (BW.out.setCell (p := ⟨b, 2, none⟩) (Nat.le_of_eq Hb.out) _).setCell (p := ⟨b, 1, none⟩) (Nat.le_of_eq Hb.out) _
          have mWE : Mod (fun g => g = b) wr WE := by
            rw [← hWE]
            exact ((Mod.refl (fun g => g = b) wr).setCell (p := ⟨b, 2, none⟩) (.inl rfl) _).setCell (p := ⟨b, 1, none⟩) (.inl rfl) _
          have k1E := (mWE.block (b + 1) (lt_of_block K1.out) (by simp)).trans K1.out
          rw [hWE]
          obtain ⟨e0, e1, e2⟩ := box3 k1E
          obtain ⟨u0, u1, u2, m9⟩ := set3 e0 e1 e2 (.int .i64 T.vars) (.int .i64 k) (.slice Ak m ck)
          refine bodyPost_ret (v := .tuple #[.agg #[.int .i64 T.vars, .int .i64 k, .slice Ak m ck], .slice Ag n cg]) (by simp [results, Try.f27, go_sem, u0, u1, u2]) rfl ?_
          obtain ⟨WF, hWF⟩ : ∃ Y, ((WE.setCell ⟨b + 1, 0, none⟩ (.int .i64 T.vars)).setCell ⟨b + 1, 1, none⟩ (.int .i64 k)).setCell ⟨b + 1, 2, none⟩ (.slice Ak m ck) = Y := ⟨_, rfl⟩
          rw [hWF] at m9 ⊢
          have hwb := Hb.out
          have bWF : Below w.heap.size w WF := below_mod bWE bWE.size m9 fun g hg => by
            rw [hg]
            omega
          have mWF : Mod (fun g => g ≤ b + 1) wr WF := (mWE.mono fun g _ hg => by omega).trans (m9.mono fun g _ hg => by omega)
          rw [hB.out, hG.out]
          exact ⟨hI.out.ends hBb hwb hKs Hs.out HL'.out HeW.out (by rcases Kk.out with ⟨h, h'⟩ | ⟨h, h'⟩ <;> omega) Hm.out Hn.out bWF mWF, bWF⟩
end Go.Proofs.Ytbghfdhijlpogaa
