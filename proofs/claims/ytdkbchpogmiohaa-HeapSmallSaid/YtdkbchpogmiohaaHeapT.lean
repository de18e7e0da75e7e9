/-
  The laws' arguments, opened; the laws' helper played.
-/
import Derived.Test.YtdkbchpogmiohaaHeapM
import Derived.Deep.Strs
import Derived.ChangeSame
import Derived.ProofKit
namespace Go.Proofs.Ytdkbchpogmiohaa
open Go.RowKit Go.ChangeShapes Go.WideShapes

/-- An operation of a law's list, as plain data. -/
structure Dd where
  kind : Int
  n : Int
  deriving Inhabited
def Dd.ok (x : Dd) : Prop := (0 ≤ x.kind ∧ x.kind ≤ 255) ∧ I64 x.n
/-- The slice reads as these operations. -/
def DsRd (w : World) (v : Value) (os : List Dd) : Prop :=
  ∃ A cap, v = .slice A os.length cap ∧ os.length ≤ cap ∧ cap ≤ maxLen ∧ ∀ i (x : Dd), os[i]? = some x → ∃ g o, A = some ⟨g, o, none⟩ ∧ g < w.heap.size ∧
    w.cell? ⟨g, o + i * 2, none⟩ = some (.int .u8 x.kind) ∧ w.cell? ⟨g, o + i * 2 + 1, none⟩ = some (.int .i64 x.n) ∧ x.ok
theorem DsRd.below {w w' : World} {v : Value} {os : List Dd} (h : DsRd w v os) (hb : Below w.heap.size w w') : DsRd w' v os := by
  obtain ⟨A, cap, rfl, h1, h2, h3⟩ := h
  refine ⟨A, cap, rfl, h1, h2, fun i x hx => ?_⟩
  obtain ⟨g, o, rfl, hg, c0, c1, hok⟩ := h3 i x hx
  have hs := hb.size
  exact ⟨g, o, rfl, by omega, (hb.cell (p := ⟨g, o + i * 2, none⟩) hg).trans c0, (hb.cell (p := ⟨g, o + i * 2 + 1, none⟩) hg).trans c1, hok⟩

section
variable {H : Type} {enc : TypeId × Value → H} {w : World}
theorem dwf_i64 {n : Int} (h : (Lit.int .i64 n).wf = true) : I64 n := by
  unfold I64
  simp [Lit.wf, IntKind.min, IntKind.max, IntKind.signed, IntKind.bits] at h
  omega
theorem open_deed {fuel : Nat} {cs : List Value} {y : DataW H × List MemPlace} (h : DataW.trod enc Try.prog w 0 (fun _ => true) true fuel 57 cs = some y) :
    ∃ (x : Dd), cs = [.int .u8 x.kind, .int .i64 x.n] ∧ x.ok := by
  obtain ⟨y0, y1, m, _, hl, h0, h1⟩ := trod_struct2 Try.underlying57 h
  have hl' : cs.length = 2 := hl.trans (by kernel_rfl)
  match cs, hl' with
  | [c0, c1], _ =>
    obtain ⟨k, e0, _, wk⟩ := DataW.trod_int Try.underlying5 h0
    obtain ⟨n, e1, _, wn⟩ := DataW.trod_int Try.underlying3 h1
    have e0' : c0 = .int .u8 k := by simpa [show Try.prog.cellsOf 5 = 1 by kernel_rfl] using e0
    have e1' : c1 = .int .i64 n := by simpa [show Try.prog.cellsOf 3 = 1 by kernel_rfl] using e1
    subst e0' e1'
    refine ⟨⟨k, n⟩, rfl, ⟨?_, dwf_i64 wn⟩⟩
    simp [Lit.wf, IntKind.min, IntKind.max, IntKind.signed, IntKind.bits] at wk
    exact ⟨wk.1, by have := wk.2; omega⟩
theorem cells_two {a : Addr} {cs : List Value} (h : w.cells? 0 a 2 = some cs) : ∃ u0 u1, cs = [u0, u1] ∧ w.cell? (a.add 0) = some u0 ∧ w.cell? (a.add 1) = some u1 := by
  unfold World.cells? at h
  rw [if_pos (Nat.zero_le _), show List.range 2 = [0, 1] from rfl] at h
  simp only [List.mapM_cons, List.mapM_nil] at h
  cases e0 : w.cell? (a.add 0) with
  | none => rw [e0] at h; cases h
  | some u0 =>
    cases e1 : w.cell? (a.add 1) with
    | none => rw [e0, e1] at h; cases h
    | some u1 =>
      rw [e0, e1] at h
      exact ⟨u0, u1, (Option.some.inj h).symm, rfl, rfl⟩
theorem open_deeds {v : Value} {d : DataW H} {ps : List MemPlace} (h : DataW.Trod enc Try.prog w 0 (fun _ => true) true 45 v d ps) {A : Option Addr} {n c : Nat} (hv : v = .slice A n c) : ∃ os, DsRd w v os := by
  subst hv
  obtain ⟨fuel, hf⟩ := h
  rcases Deep.open_slice Try.underlying45 hf with ⟨hcs, _⟩ | ⟨a, len, cap, m, n', D, Pl, hcs, _, hl, hm, hmm, _, hel⟩
  · simp only [Value.cells, List.cons.injEq, Value.slice.injEq, and_true] at hcs
    obtain ⟨rfl, rfl, rfl⟩ := hcs
    exact ⟨[], none, 0, rfl, by simp, by simp, by simp⟩
  · simp only [Value.cells, List.cons.injEq, Value.slice.injEq, and_true] at hcs
    obtain ⟨rfl, rfl, rfl⟩ := hcs
    simp only [if_true] at hmm
    subst hmm
    have hc2 : Try.prog.cellsOf 57 = 2 := by kernel_rfl
    have key : ∀ i, i < n → ∃ x : Dd, ∃ g o, a = ⟨g, o, none⟩ ∧ g < w.heap.size ∧ w.cell? ⟨g, o + i * 2, none⟩ = some (.int .u8 x.kind) ∧ w.cell? ⟨g, o + i * 2 + 1, none⟩ = some (.int .i64 x.n) ∧ x.ok := by
      intro i hi
      obtain ⟨cs', hcs', htr⟩ := hel i (by omega)
      obtain ⟨x, rfl, hok⟩ := open_deed htr
      rw [hc2] at hcs'
      obtain ⟨u0, u1, hu, e0, e1⟩ := cells_two hcs'
      simp only [List.cons.injEq, and_true] at hu
      obtain ⟨rfl, rfl⟩ := hu
      rw [Deep.add_add] at e0 e1
      obtain ⟨g, o, s⟩ := a
      obtain rfl : s = none := by
        rcases Nat.eq_zero_or_pos i with h0 | h0
        · subst h0; simpa [Addr.add] using World.cell?_spot e0
        · obtain ⟨cs', hcs', _⟩ := hel 0 (by omega)
          rw [hc2] at hcs'
          obtain ⟨u0, u1, _, f0, _⟩ := cells_two hcs'
          simpa [Addr.add] using World.cell?_spot f0
      rw [addr_add] at e0 e1
      rw [Nat.add_zero] at e0
      rw [← Nat.add_assoc] at e1
      exact ⟨x, g, o, rfl, World.block_lt_of_cell? w _ e0, e0, e1, hok⟩
    obtain ⟨f, hf⟩ := Deep.choose_lt key
    refine ⟨(List.range n).map f, some a, m, by simp, by simpa using hl, hm, fun i x hx => ?_⟩
    simp only [List.getElem?_map] at hx
    by_cases hi : i < n
    · rw [List.getElem?_range hi] at hx
      simp only [Option.map_some, Option.some.injEq] at hx
      subst hx
      obtain ⟨g, o, rfl, r⟩ := hf i hi
      exact ⟨g, o, rfl, r⟩
    · rw [List.getElem?_eq_none (by simp; omega)] at hx
      cases hx
end

/-! ### played -/
theorem Two.mono {w : World} {B B1 b n tb : Nat} {o : Om} {T : Tr} (e : Two w B1 b n o tb T) (h : B ≤ B1) : Two w B b n o tb T := by
  obtain ⟨Fo, Ft, h1, h2, h3, h4, h5⟩ := e
  exact ⟨Fo, Ft, h1, h2, fun g hg => ⟨by have := (h3 g hg).1; omega, (h3 g hg).2⟩, fun g hg => ⟨by have := (h4 g hg).1; omega, (h4 g hg).2⟩, h5⟩
def Om.decays (o : Om) : Nat → Om
  | 0 => o
  | k + 1 => (o.decays k).decay
/-- One operation. -/
def deedO (n : Nat) (o : Om) (x : Dd) : Om := if x.kind % 5 = 0 then o.decays (x.n % 60).toNat else if x.kind % 5 = 1 ∨ x.kind % 5 = 2 then o.bumpI n x.n else o
def deedT (T : Tr) (x : Dd) : Tr := if x.kind % 5 = 3 then T.dec x.n else if x.kind % 5 = 4 then T.back (lvl x.n) else T
def playO (n : Nat) (os : List Dd) : Om := os.foldl (deedO n) (Om.new n)
def playT (n : Nat) (os : List Dd) : Tr := os.foldl deedT ⟨n, [], []⟩
theorem deedT_vars (T : Tr) (x : Dd) : (deedT T x).vars = T.vars := by
  unfold deedT
  split
  · exact T.dec_vars _
  · split
    · exact T.back_vars _
    · rfl
theorem playT_vars (n : Nat) (os : List Dd) : (playT n os).vars = n := by
  have : ∀ T : Tr, (os.foldl deedT T).vars = T.vars := by
    induction os with
    | nil => intro T; rfl
    | cons x os ih => intro T; exact (ih (deedT T x)).trans (deedT_vars T x)
  exact this _
theorem playO_snoc (n : Nat) (os : List Dd) (x : Dd) : playO n (os ++ [x]) = deedO n (playO n os) x := by simp [playO, List.foldl_append]
theorem playT_snoc (n : Nat) (os : List Dd) (x : Dd) : playT n (os ++ [x]) = deedT (playT n os) x := by simp [playT, List.foldl_append]

set_option maxRecDepth 100000 in
set_option maxHeartbeats 4000000 in
theorem pick60 {w : World} {x : Int} (_hx : I64 x) :
    Calls Try.prog 37 #[.int .i64 x, .int .i64 60] w fun r w' => r = .returned (.int .i64 ((x % 60).toNat : Nat)) ∧ w' = w := by
  have h1 : x = 60 * x.tdiv 60 + x.tmod 60 := (Int.mul_tdiv_add_tmod x 60).symm
  have h2 := Int.tmod_lt_of_pos x (b := 60) (by omega)
  have h3 := Int.lt_tmod_of_pos x (b := 60) (by omega)
  obtain ⟨m, hm⟩ : ∃ m, x.tmod 60 = m := ⟨_, rfl⟩
  rw [hm] at h1 h2 h3
  obtain ⟨q, hq⟩ : ∃ q, x.tdiv 60 = q := ⟨_, rfl⟩
  rw [hq] at h1
  have e1 : IntKind.i64.wrap m = m := iw (by omega) (by omega)
  have e2 : IntKind.i64.wrap (m + 60) = m + 60 := iw (by omega) (by omega)
  have H1 := hid h1
  clear hq h1
  by_cases h : m < 0
  · have e3 : Hid (((x % 60).toNat : Int) = m + 60) := by have := H1.out; refine hid ?_; omega
    rw [e3.out]
    go_enter Try.func37, Try.ntmps37
    go_wp2_with fail
    go_ret
    exact ⟨rfl, rfl⟩
  · have h : 0 ≤ m := by omega
    have e3 : Hid (((x % 60).toNat : Int) = m) := by have := H1.out; refine hid ?_; omega
    rw [e3.out]
    go_enter Try.func37, Try.ntmps37
    go_wp2_with fail
    go_ret
    exact ⟨rfl, rfl⟩

theorem deed_kinds (k : Int) : (k % 5 = 0 ∨ k % 5 = 1 ∨ k % 5 = 2 ∨ k % 5 = 3 ∨ k % 5 = 4) := by omega

set_option maxRecDepth 100000 in
set_option maxHeartbeats 4000000 in
theorem played_any {w : World} {v : Value} {os : List Dd} {n : Nat} (hv : DsRd w v os) (hn : n ≤ 200) (hl : os.length ≤ 200) :
    Calls Try.prog 21 #[.int .i64 n, v] w fun r w' => ∃ b tb, r = .returned (.tuple #[.pointer (some ⟨b, 0, none⟩), .pointer (some ⟨tb, 0, none⟩), .bool true]) ∧ Two w' w.heap.size b n (playO n os) tb (playT n os) ∧ Below w.heap.size w w' := by
  obtain ⟨m, hm⟩ : ∃ m, os.length = m := ⟨_, rfl⟩
  obtain ⟨A, cap, rfl, hc, hcm, hel⟩ := id hv
  rw [hm] at hl hc ⊢
  obtain ⟨B, hB⟩ : ∃ B, w.heap.size = B := ⟨_, rfl⟩
  rw [hB]
  have x0 : (m : Int) ≤ 200 := by omega
  have x1 : (n : Int) ≤ 200 := by omega
  have hncap : (m : Int) ≤ (cap : Int) := by omega
  have Hm := hid hm
  have Hel := hid hel
  have Hcm := hid hcm
  clear hv hm hel hcm
  go_enter Try.func21, Try.ntmps21
  go_wp2_with fail
  refine (onew_any (n := n) (by omega)).mono ?_
  rintro r w2 ⟨b, rfl, o2, b2⟩
  rw [hB] at b2 o2
  have s2 := b2.size
  go_wp2_with fail
  refine (new_ok (vars := n) (by omega)).mono ?_
  rintro r w3 ⟨⟨tb, rfl, t3⟩, b3⟩
  have W3 : Hid (Two w3 B b n (Om.new n) tb ⟨n, [], []⟩) := Two.make (B1 := w2.heap.size) o2 rfl t3 b3 (by omega)
  have B3 : Hid (Below B w w3) := b2.trans (b3.mono (by omega))
  have s3 := B3.out.size
  clear b2 b3 o2 t3
  go_wp2_with fail
  go_loopw [11] (fun iv W => ∃ k : Nat, k ≤ m ∧ iv = .int .i64 k ∧ Hid (Two W B b n (playO n (os.take k)) tb (playT n (os.take k))) ∧ Hid (Below B w W)) (fun iv _ => m - (intOf iv).toNat)
  case atStart => exact ⟨0, by omega, rfl, W3, B3⟩
  case round =>
    obtain ⟨k, hk, rfl, W4, B4⟩ := hrel
    have s4 := B4.out.size
    by_cases hlt : k < m
    · have x2 : (k : Int) < (m : Int) := by omega
      obtain ⟨x, hx⟩ : ∃ x, os[k]? = some x := ⟨os[k]'(by have := Hm.out; omega), List.getElem?_eq_getElem _⟩
      obtain ⟨g, o, rfl, hg, c0, c1, hok⟩ := Hel.out k x hx
      have hg : g < B := by omega
      have d0 := (B4.out.cell (p := ⟨g, o + k * 2, none⟩) hg).trans c0
      have d1 := (B4.out.cell (p := ⟨g, o + k * 2 + 1, none⟩) hg).trans c1
      have Htk : Hid (os.take (k + 1) = os.take k ++ [x]) := by
        rw [List.take_succ_eq_append_getElem (by have := Hm.out; omega)]
        have : os[k]'(by have := Hm.out; omega) = x := by rw [List.getElem?_eq_getElem (by have := Hm.out; omega)] at hx; exact Option.some.inj hx
        rw [this]
        exact hid rfl
      have HO : Hid (playO n (os.take (k + 1)) = deedO n (playO n (os.take k)) x) := by rw [Htk.out, playO_snoc]; exact hid rfl
      have HT : Hid (playT n (os.take (k + 1)) = deedT (playT n (os.take k)) x) := by rw [Htk.out, playT_snoc]; exact hid rfl
      generalize playO n (os.take k) = O at W4 HO
      generalize playT n (os.take k) = T at W4 HT
      clear c0 c1 hx Htk
      obtain ⟨kd, xn⟩ := x
      have hI : I64 xn := hok.2
      have hkd : 0 ≤ kd ∧ kd ≤ 255 := hok.1
      clear hok
      have hq := deed_kinds kd
      obtain ⟨q, hqe⟩ : ∃ q, kd % 5 = q := ⟨_, rfl⟩
      rw [hqe] at hq
      have z1 : kd.tmod 5 = q := by rw [Int.tmod_eq_emod_of_nonneg (by omega)]; exact hqe
      have Hq := hid hqe
      have HI := hid hI
      have B4x : Hid (Below B w wr) := B4
      dsimp only at d0 d1
      clear hqe hI hkd
      rcases hq with rfl | rfl | rfl | rfl | rfl
      · have hO : Hid (deedO n O ⟨kd, xn⟩ = O.decays (xn % 60).toNat) := by unfold deedO; rw [if_pos Hq.out]; exact hid rfl
        have hT : Hid (deedT T ⟨kd, xn⟩ = T) := by have := Hq.out; unfold deedT; rw [if_neg (by dsimp only; omega), if_neg (by dsimp only; omega)]; exact hid rfl
        obtain ⟨P, hP⟩ : ∃ P, (xn % 60).toNat = P := ⟨_, rfl⟩
        rw [hP] at hO
        have hP60 : P < 60 := by omega
        have HP := hid hP
        clear hP
        go_wp2_with fail
        go_loopw [12] (fun jv W => ∃ j : Nat, j ≤ P ∧ jv = .int .i64 j ∧ Hid (Two W B b n (O.decays j) tb T) ∧ Hid (Below B w W)) (fun jv _ => P - (intOf jv).toNat)
        case atStart => exact ⟨0, by omega, rfl, W4, B4x⟩
        case round =>
          obtain ⟨j, hj, rfl, W5, B5⟩ := hrel
          have s5 := B5.out.size
          have e1 := (B5.out.cell (p := ⟨g, o + k * 2 + 1, none⟩) hg).trans ((B4.out.cell (p := ⟨g, o + k * 2 + 1, none⟩) hg).symm.trans d1)
          by_cases hjP : j < P
          · have x3 : (j : Int) < (P : Int) := by omega
            go_wp2_with fail
            refine (pick60 HI.out).mono ?_
            rw [HP.out]
            rintro r w' ⟨rfl, rfl⟩
            go_wp2_with fail
            refine (two_decay W5.out (by omega)).mono ?_
            rintro r w6 ⟨rfl, W6, b6⟩
            go_wp2_with fail
            go_roundw
            case rel => exact ⟨j + 1, by omega, by go_num, W6, B5.out.trans b6⟩
            case measure => simp [intOf]; omega
          · obtain rfl : j = P := by omega
            go_wp2_with fail
            refine (pick60 HI.out).mono ?_
            rw [HP.out]
            rintro r w' ⟨rfl, rfl⟩
            go_wp2_with fail
            go_roundw
            case rel => exact ⟨k + 1, by omega, by go_num, by rw [HO.out, HT.out, hO.out, hT.out]; exact W5, B5⟩
            case measure => simp [intOf]; omega
      · have hO : Hid (deedO n O ⟨kd, xn⟩ = O.bumpI n xn) := by have := Hq.out; unfold deedO; rw [if_neg (by dsimp only; omega), if_pos (by dsimp only; omega)]; exact hid rfl
        have hT : Hid (deedT T ⟨kd, xn⟩ = T) := by have := Hq.out; unfold deedT; rw [if_neg (by dsimp only; omega), if_neg (by dsimp only; omega)]; exact hid rfl
        go_wp2_with fail
        refine (two_bump W4.out (by omega) xn).mono ?_
        rintro r w6 ⟨rfl, W6, b6⟩
        go_wp2_with fail
        go_roundw
        case rel => exact ⟨k + 1, by omega, by go_num, by rw [HO.out, HT.out, hO.out, hT.out]; exact W6, B4.out.trans b6⟩
        case measure => simp [intOf]; omega
      · have hO : Hid (deedO n O ⟨kd, xn⟩ = O.bumpI n xn) := by have := Hq.out; unfold deedO; rw [if_neg (by dsimp only; omega), if_pos (by dsimp only; omega)]; exact hid rfl
        have hT : Hid (deedT T ⟨kd, xn⟩ = T) := by have := Hq.out; unfold deedT; rw [if_neg (by dsimp only; omega), if_neg (by dsimp only; omega)]; exact hid rfl
        go_wp2_with fail
        refine (two_bump W4.out (by omega) xn).mono ?_
        rintro r w6 ⟨rfl, W6, b6⟩
        go_wp2_with fail
        go_roundw
        case rel => exact ⟨k + 1, by omega, by go_num, by rw [HO.out, HT.out, hO.out, hT.out]; exact W6, B4.out.trans b6⟩
        case measure => simp [intOf]; omega
      · have hO : Hid (deedO n O ⟨kd, xn⟩ = O) := by have := Hq.out; unfold deedO; rw [if_neg (by dsimp only; omega), if_neg (by dsimp only; omega)]; exact hid rfl
        have hT : Hid (deedT T ⟨kd, xn⟩ = T.dec xn) := by have := Hq.out; unfold deedT; rw [if_pos (by dsimp only; omega)]; exact hid rfl
        go_wp2_with fail
        refine (two_decide W4.out (by omega) HI.out).mono ?_
        rintro r w6 ⟨rfl, W6, b6⟩
        go_wp2_with fail
        go_roundw
        case rel => exact ⟨k + 1, by omega, by go_num, by rw [HO.out, HT.out, hO.out, hT.out]; exact W6, B4.out.trans b6⟩
        case measure => simp [intOf]; omega
      · have hO : Hid (deedO n O ⟨kd, xn⟩ = O) := by have := Hq.out; unfold deedO; rw [if_neg (by dsimp only; omega), if_neg (by dsimp only; omega)]; exact hid rfl
        have hT : Hid (deedT T ⟨kd, xn⟩ = T.back (lvl xn)) := by have := Hq.out; unfold deedT; rw [if_neg (by dsimp only; omega), if_pos (by dsimp only; omega)]; exact hid rfl
        go_wp2_with fail
        refine (two_undo W4.out (by omega) xn).mono ?_
        rintro r w6 ⟨⟨u6, rfl⟩, W6, b6⟩
        go_wp2_with fail
        go_roundw
        case rel => exact ⟨k + 1, by omega, by go_num, by rw [HO.out, HT.out, hO.out, hT.out]; exact W6, B4.out.trans b6⟩
        case measure => simp [intOf]; omega
    · obtain rfl : k = m := by omega
      have e : Hid (os.take k = os) := by have := Hm.out; exact hid (List.take_of_length_le (by omega))
      rw [e.out] at W4
      go_wp2_with fail
      go_ret3
      exact ⟨b, tb, rfl, W4.out, B4.out⟩

set_option maxRecDepth 100000 in
set_option maxHeartbeats 4000000 in
theorem played_none {w : World} {A : Option Addr} {m c : Nat} {x : Int} (hbad : (x < 0 ∨ 200 < x) ∨ 200 < m) :
    Calls Try.prog 21 #[.int .i64 x, .slice A m c] w fun r w' => r = .returned (.tuple #[.pointer none, .pointer none, .bool false]) ∧ Below w.heap.size w w' := by
  by_cases hx : x < 0 ∨ 65536 < x
  · go_enter Try.func21, Try.ntmps21
    go_wp2_with fail
    refine (onew_bad hx).mono ?_
    rintro r w' ⟨rfl, rfl⟩
    go_wp2_with fail
    refine (new_bad hx).mono ?_
    rintro r w'' ⟨rfl, rfl⟩
    go_wp2_with fail
    go_ret3
    exact ⟨rfl, Below.refl _ _⟩
  · obtain ⟨n, rfl⟩ : ∃ n : Nat, x = n := ⟨x.toNat, by omega⟩
    obtain ⟨B, hB⟩ : ∃ B, w.heap.size = B := ⟨_, rfl⟩
    have hn : n ≤ 65536 := by omega
    by_cases hm : 200 < m
    · have hm2 : (200 : Int) < (m : Int) := by omega
      clear hbad hx
      go_enter Try.func21, Try.ntmps21
      go_wp2_with fail
      refine (onew_any hn).mono ?_
      rintro r w2 ⟨b, rfl, o2, b2⟩
      have s2 := b2.size
      clear o2
      go_wp2_with fail
      refine (new_ok hn).mono ?_
      rintro r w3 ⟨⟨tb, rfl, t3⟩, b3⟩
      clear t3
      go_wp2_with fail
      go_ret3
      exact ⟨rfl, b2.trans (b3.mono (by omega))⟩
    · have hm2 : ((200 : Int) < (m : Int)) = False := by simp; omega
      have hn2 : (200 : Int) < (n : Int) := by omega
      clear hbad hx
      go_enter Try.func21, Try.ntmps21
      go_wp2_with fail
      refine (onew_any hn).mono ?_
      rintro r w2 ⟨b, rfl, o2, b2⟩
      have s2 := b2.size
      clear o2
      go_wp2_with fail
      refine (new_ok hn).mono ?_
      rintro r w3 ⟨⟨tb, rfl, t3⟩, b3⟩
      clear t3
      go_wp2_with fail
      go_ret3
      exact ⟨rfl, b2.trans (b3.mono (by omega))⟩
end Go.Proofs.Ytdkbchpogmiohaa
