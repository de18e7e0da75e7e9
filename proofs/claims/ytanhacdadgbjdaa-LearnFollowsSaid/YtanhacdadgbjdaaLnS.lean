/-
  LearnFollows: refuted.
-/
import Derived.Test.YtanhacdadgbjdaaLnR
namespace Go.Proofs.Ytanhacdadgbjdaa
open Go.RowKit

/-- How many cells of a block hold 0. -/
def isNought : Option Value → Bool | some (.int _ k) => decide (k = 0) | _ => false
def zeros (W : World) (g n : Nat) : Nat := (List.range n).countP fun j => isNought (W.cell? ⟨g, j, none⟩)
def boolOf : Value → Bool | .bool b => b | _ => false
theorem range_nth (xs : List Int) : xs = (List.range xs.length).map (nth xs) := by
  refine List.ext_getElem (by simp) fun i h1 h2 => ?_
  simp [nth_eq h1]
theorem zeros_own {W : World} {F : Nat → Prop} {g n c : Nat} {xs : List Int} (ho : Own W F 3 1 (.slice (some ⟨g, 0, none⟩) n c) n (ints xs)) : zeros W g n = unk xs := by
  have hln : xs.length = n := by have := ho.1; simpa [ints_length] using this
  unfold zeros unk
  conv => rhs; rw [range_nth xs]
  rw [List.countP_map, hln]
  refine List.countP_congr fun j hj => ?_
  have hjn : j < n := List.mem_range.1 hj
  obtain ⟨_, he, _, _, e1, _⟩ := ho.cell (j := j) (by omega)
  injection he with he; injection he with he _ _; subst he
  rw [e1, ints_nth (by omega)]
  simp [isNought]
/-- A clause that is neither false nor a unit. -/
def CalmAt (V : Int → Int) (cl : List Int) : Prop := (∃ x ∈ cl, V x = 1) ∨ ∃ x ∈ cl, ∃ y ∈ cl, x ≠ y ∧ V x = 0 ∧ V y = 0
theorem calm_all {V : Int → Int} {cls : List (List Int)} (h : ∀ (i : Nat) (cl : List Int), i < cls.length → cls[i]? = some cl → CalmAt V cl) : Calm V cls := by
  intro cl hcl
  obtain ⟨i, hi, e⟩ := List.mem_iff_getElem.1 hcl
  exact h i cl hi (by rw [List.getElem?_eq_getElem hi, e])

theorem clause_step {V : Int → Int} {cl : List Int} {k : Nat} {S : Int × Int × Bool} (hk : k < cl.length) (hS : cnt V (cl.take k) = S) : cnt V (cl.take (k + 1)) = cntStep V S (nth cl k) := by
  rw [take_nth hk, cnt_snoc, hS]

set_option maxRecDepth 100000 in
set_option maxHeartbeats 4000000 in
theorem refuted_any {w : World} {F Fd Gd : Nat → Prop} {g n c m d : Nat} {R : Option Addr} {xs : List Int} {cls : List (List Int)}
    (ho : Own w F 3 1 (.slice (some ⟨g, 0, none⟩) n c) n (ints xs)) (h3 : Tri xs) (hn : n ≤ 1000) (hd : DbOwn w Fd Gd (.slice R m d) cls) (hF : ¬ Fd g) (hG : ¬ Gd g) (hm : m ≤ 1000)
    (hcl : ∀ cl ∈ cls, cl.length ≤ 1000 ∧ ∀ x ∈ cl, x ≠ 0 ∧ x.natAbs < n)
    (hno : ∀ ys : List Int, ys.length = n → Tri ys → (∀ x : Int, x ≠ 0 → x.natAbs < n → gv xs x = 1 → gv ys x = 1) → ¬ Calm (gv ys) cls) :
    Calls Try.prog 15 #[.slice (some ⟨g, 0, none⟩) n c, .slice R m d] w fun r w' => r = .returned (.bool true) ∧ Mod (fun b => b = g) w w' := by
  have hln : xs.length = n := by have := ho.1; simpa [ints_length] using this
  obtain ⟨hlm, hmd⟩ := hd.len
  have hcap : (n : Int) ≤ (c : Int) := by
    obtain ⟨_, A2, c2, hv2, h2, _⟩ := ho.rd
    injection hv2 with _ _ h3
    omega
  have Ho := hid ho
  have H3 := hid h3
  have Hd := hid hd
  have Hcl := hid hcl
  have Hno := hid hno
  have Hln := hid hln
  have Hlm := hid hlm
  clear ho h3 hd hcl hno hln hlm
  go_enter Try.func15, Try.ntmps15
  go_wp2_with fail
  go_loopw [5] (fun chv W => ∃ (ch : Bool) (ys : List Int), chv = .bool ch ∧ Hid (ys.length = n) ∧ Hid (Tri ys) ∧ Hid (∀ x : Int, x ≠ 0 → x.natAbs < n → gv xs x = 1 → gv ys x = 1) ∧ Hid (Own W F 3 1 (.slice (some ⟨g, 0, none⟩) n c) n (ints ys)) ∧ Hid (Mod (fun b => b = g) w W) ∧ Hid (ch = false → Calm (gv ys) cls)) (fun chv W => 2 * zeros W g n + (if boolOf chv = true then 1 else 0))
  case atStart => exact ⟨true, xs, rfl, Hln, H3, fun _ _ _ hx => hx, Ho, Mod.refl _ _, fun hx => by cases hx⟩
  case round =>
    obtain ⟨ch, ys, rfl, Hyl, Hy3, Hye, Hy, My, Hyc⟩ := hrel
    cases ch with
    | false => exact absurd (Hyc.out rfl) (Hno.out ys Hyl.out Hy3.out Hye.out)
    | true =>
      obtain ⟨W0, hW0⟩ : ∃ W0, wr = W0 := ⟨_, rfl⟩
      have hz0 := zeros_own Hy.out
      have Hz0 := hid hz0
      clear hz0 Hyc
      go_wp2_with fail
      go_loopw [5, 6] (fun chv iv W => ∃ (ch : Bool) (i : Nat) (zs : List Int), i ≤ m ∧ chv = .bool ch ∧ iv = .int .i64 i ∧ Hid (zs.length = n) ∧ Hid (Tri zs) ∧ Hid (∀ x : Int, x ≠ 0 → x.natAbs < n → gv xs x = 1 → gv zs x = 1) ∧ Hid (Own W F 3 1 (.slice (some ⟨g, 0, none⟩) n c) n (ints zs)) ∧ Hid (Mod (fun b => b = g) w W) ∧
        Hid ((ch = true ∧ unk zs < unk ys) ∨ (ch = false ∧ zs = ys ∧ ∀ (q : Nat) (cl : List Int), q < i → cls[q]? = some cl → CalmAt (gv ys) cl))) (fun _ iv _ => m - (intOf iv).toNat)
      case atStart => exact ⟨false, 0, ys, by omega, rfl, rfl, Hyl, Hy3, Hye, Hy, My, .inr ⟨rfl, rfl, fun q cl hq => by omega⟩⟩
      case round =>
        obtain ⟨ch, i, zs, hi, rfl, rfl, Hzl, Hz3, Hze, Hz, Mz, Hzc⟩ := hrel
        by_cases hlt : i < m
        · have y1 : (i : Int) < (m : Int) := by omega
          obtain ⟨cl, hcl⟩ : ∃ cl, cls[i]? = some cl := ⟨_, List.getElem?_eq_getElem (by have := Hlm.out; omega)⟩
          obtain ⟨hcl1, hcl2⟩ := Hcl.out cl (List.mem_of_getElem? hcl)
          have Dz := hid (Hd.out.mod Mz.out (fun b _ a e => by subst e; exact hF a) (fun b _ a e => by subst e; exact hG a))
          obtain ⟨gd, R2, d2, rfl, _, hgd, ed, hrd⟩ := Dz.out.at hcl
          obtain ⟨L, hL⟩ : ∃ L, cl.length = L := ⟨_, rfl⟩
          rw [hL] at ed hrd hcl1
          have hld : (L : Int) ≤ (d2 : Int) := by
            obtain ⟨_, A2, c2, hv2, h2, _⟩ := hrd
            injection hv2 with _ _ h3
            omega
          have Hrd := hid hrd
          have Hc2 := hid hcl2
          have HLL := hid hL
          have Hcl0 := hid hcl
          clear hrd hcl2 hL hcl
          go_wp2_with fail
          go_loopw [7, 8, 9, 10] (fun ov lv hv kv W => ∃ (o : Nat) (la : Int) (ho : Bool) (k : Nat), k ≤ L ∧ ov = .int .i64 o ∧ lv = .int .i64 la ∧ hv = .bool ho ∧ kv = .int .i64 k ∧ o ≤ k ∧ Hid (cnt (gv zs) (cl.take k) = ((o : Int), la, ho)) ∧ Hid (W = wr)) (fun _ _ _ kv _ => L - (intOf kv).toNat)
          case atStart => exact ⟨0, 0, false, 0, by omega, rfl, rfl, rfl, rfl, by omega, by rw [List.take_zero]; rfl, hid rfl⟩
          case round =>
            obtain ⟨o, la, ho, k, hk, rfl, rfl, rfl, rfl, hok, Hcnt, HW⟩ := hrel
            obtain rfl := HW.out
            clear HW
            by_cases hlk : k < L
            · have z1 : (k : Int) < (L : Int) := by omega
              obtain ⟨gk, ok, rfl, _, hgk, ek⟩ := Hrd.out.cell.2 k hlk
              obtain ⟨l, hl⟩ : ∃ l, nth cl k = l := ⟨_, rfl⟩
              rw [hl] at ek
              obtain ⟨hl0, hl1⟩ := Hc2.out l (by rw [← hl]; exact nth_mem (by have := HLL.out; omega))
              have hstep := clause_step (by have := HLL.out; omega) Hcnt.out
              rw [hl] at hstep
              have Hstep := hid hstep
              obtain ⟨x, hx⟩ : ∃ x, gv zs l = x := ⟨_, rfl⟩
              have Hx := hid hx
              have hx3 := Hz3.out.gv (x := l) (by have := Hzl.out; omega)
              rw [hx] at hx3

              clear hl hstep Hcnt hx
              go_wp2_with fail
              refine (get_any Hz.out Hz3.out hl1 hn).mono ?_
              rw [Hx.out]
              rintro r w4 ⟨rfl, rfl⟩
              by_cases x1 : x = 1
              · subst x1
                cases ho with
                | false =>
                  go_wp2_with fail
                  go_roundw
                  case rel => exact ⟨o, la, true, k + 1, by omega, rfl, rfl, rfl, by go_num, by omega, hid (by rw [Hstep.out]; unfold cntStep; rw [Hx.out]; simp), hid trivial⟩
                  case measure => simp [intOf]; omega
                | true =>
                  go_wp2_with fail
                  go_roundw
                  case rel => exact ⟨o, la, true, k + 1, by omega, rfl, rfl, rfl, by go_num, by omega, hid (by rw [Hstep.out]; unfold cntStep; rw [Hx.out]; simp), hid trivial⟩
                  case measure => simp [intOf]; omega
              · have q1 : (x = 1) = False := by simpa using x1
                have q2 : (x == 1) = false := by simpa using x1
                have q3 : decide (x = 1) = false := by simpa using x1
                by_cases x0 : x = 0
                · subst x0
                  by_cases hla : l = la
                  · have p1 : (l != la) = false := by simpa using hla
                    have p2 : Hid (l = la) := hid hla
                    have p3 : decide (l = la) = true := by simpa using hla
                    clear hla
                    cases ho with
                    | false =>
                      go_wp2_with fail
                      go_roundw
                      case rel => exact ⟨o, la, false, k + 1, by omega, rfl, rfl, rfl, by go_num, by omega, hid (by rw [Hstep.out]; unfold cntStep; rw [Hx.out, p2.out]; simp), hid trivial⟩
                      case measure => simp [intOf]; omega
                    | true =>
                      go_wp2_with fail
                      go_roundw
                      case rel => exact ⟨o, la, true, k + 1, by omega, rfl, rfl, rfl, by go_num, by omega, hid (by rw [Hstep.out]; unfold cntStep; rw [Hx.out, p2.out]; simp), hid trivial⟩
                      case measure => simp [intOf]; omega
                  · have p1 : (l != la) = true := by simpa using hla
                    have p2 : (l = la) = False := by simpa using hla
                    have p3 : decide (l = la) = false := by simpa using hla
                    cases ho with
                    | false =>
                      go_wp2_with fail
                      go_roundw
                      case rel => exact ⟨o + 1, l, false, k + 1, by omega, by go_num, rfl, rfl, by go_num, by omega, hid (by rw [Hstep.out]; unfold cntStep; rw [Hx.out]; simp [hla]), hid trivial⟩
                      case measure => simp [intOf]; omega
                    | true =>
                      go_wp2_with fail
                      go_roundw
                      case rel => exact ⟨o + 1, l, true, k + 1, by omega, by go_num, rfl, rfl, by go_num, by omega, hid (by rw [Hstep.out]; unfold cntStep; rw [Hx.out]; simp [hla]), hid trivial⟩
                      case measure => simp [intOf]; omega
                · have p1 : (x = 0) = False := by simpa using x0
                  have p2 : (x == 0) = false := by simpa using x0
                  cases ho with
                  | false =>
                    go_wp2_with fail
                    go_roundw
                    case rel => exact ⟨o, la, false, k + 1, by omega, rfl, rfl, rfl, by go_num, by omega, hid (by rw [Hstep.out]; unfold cntStep; rw [Hx.out]; simp [x0, x1]), hid trivial⟩
                    case measure => simp [intOf]; omega
                  | true =>
                    go_wp2_with fail
                    go_roundw
                    case rel => exact ⟨o, la, true, k + 1, by omega, rfl, rfl, rfl, by go_num, by omega, hid (by rw [Hstep.out]; unfold cntStep; rw [Hx.out]; simp [x0, x1]), hid trivial⟩
                    case measure => simp [intOf]; omega
            · have z1 : ((k : Int) < (L : Int)) = False := by simp; omega
              have hcn := Hcnt.out
              rw [List.take_of_length_le (by have := HLL.out; omega)] at hcn
              obtain ⟨h1, _, h2, h4, h5, h6⟩ := cnt_says (gv zs) cl (fun y hy => (Hc2.out y hy).1)
              rw [hcn] at h1 h2 h4 h5 h6
              simp only [] at h1 h2 h4 h5 h6
              have Hh2 := hid h2
              have Hh5 := hid h5
              have Hh6 := hid h6
              clear h1 h2 h4 h5 h6 hcn Hcnt
              have hcalm : CalmAt (gv zs) cl → Hid ((ch = true ∧ unk zs < unk ys) ∨ (ch = false ∧ zs = ys ∧ ∀ (q : Nat) (cl : List Int), q < i + 1 → cls[q]? = some cl → CalmAt (gv ys) cl)) := fun hc => hid (by
                rcases Hzc.out with e | ⟨e1, e2, e3⟩
                · exact .inl e
                · refine .inr ⟨e1, e2, fun q cl' hq hcq => ?_⟩
                  by_cases hqi : q = i
                  · subst hqi
                    rw [Hcl0.out] at hcq
                    injection hcq with hcq
                    rw [← hcq, ← e2]
                    exact hc
                  · exact e3 q cl' (by omega) hcq)
              have Hcalm := hid hcalm
              clear hcalm
              cases ho with
              | true =>
                go_wp2_with fail
                go_roundw
                case rel => exact ⟨ch, i + 1, zs, by omega, rfl, by go_num, Hzl, Hz3, Hze, Hz, Mz, Hcalm.out (.inl (Hh2.out.1 rfl))⟩
                case measure => simp [intOf]; omega
              | false =>
                by_cases o0 : o = 0
                · subst o0
                  go_wp2_with fail
                  go_ret
                  exact ⟨rfl, Mz.out⟩
                · have p1 : ((o : Int) = 0) = False := by simpa using o0
                  have p2 : ((o : Int) == 0) = false := by simpa using o0
                  by_cases o1 : o = 1
                  · subst o1
                    obtain ⟨la1, la2⟩ := Hh5.out (by omega)
                    obtain ⟨la3, la4⟩ := Hc2.out la la1
                    have Hla := hid la2
                    have hu := unk_sv (xs := zs) (x := la) (by have := Hzl.out; omega) la2
                    have Hu := hid hu
                    clear la1 la2 hu
                    go_wp2_with fail
                    refine (set_any Hz.out la3 la4 hn).mono ?_
                    rintro r w5 ⟨rfl, ho5, hm5⟩
                    have Ho5 := hid ho5
                    have M5 := hid (Mz.out.trans (hm5.mono fun k _ e => .inl e))
                    clear ho5 hm5
                    go_wp2_with fail
                    go_roundw
                    case rel =>
                      refine ⟨true, i + 1, sv zs la, by omega, rfl, by go_num, hid (by rw [sv_length]; exact Hzl.out), hid (Hz3.out.sv la), hid fun x hx hxn h1 => ?_, Ho5, M5, hid (.inl ⟨rfl, ?_⟩)⟩
                      · have hz1 := Hze.out x hx hxn h1
                        rw [gv_sv zs la3 (by have := Hzl.out; omega) hx (by have := Hzl.out; omega)]
                        by_cases e1 : x = la
                        · rw [if_pos e1]
                        · rw [if_neg e1]
                          by_cases e2 : x = -la
                          · exfalso
                            rw [e2, gv_neg zs la3, Hla.out] at hz1
                            omega
                          · rw [if_neg e2]; exact hz1
                      · have := Hu.out
                        rcases Hzc.out with e | ⟨_, e2, _⟩
                        · omega
                        · rw [e2] at this ⊢; omega
                    case measure => simp [intOf]; omega
                  · have p3 : ((o : Int) = 1) = False := by simp; omega
                    have p4 : ((o : Int) == 1) = false := by simp; omega
                    go_wp2_with fail
                    go_roundw
                    case rel => exact ⟨ch, i + 1, zs, by omega, rfl, by go_num, Hzl, Hz3, Hze, Hz, Mz, Hcalm.out (.inr (Hh6.out (by omega)))⟩
                    case measure => simp [intOf]; omega
        · have y1 : ((i : Int) < (m : Int)) = False := by simp; omega
          have hz := zeros_own Hz.out
          have Hzz := hid hz
          clear hz
          go_wp2_with fail
          go_roundw
          case rel =>
            refine ⟨ch, zs, rfl, Hzl, Hz3, Hze, Hz, Mz, hid fun e => ?_⟩
            rcases Hzc.out with ⟨e1, _⟩ | ⟨_, e2, e3⟩
            · rw [e] at e1; cases e1
            · rw [e2]
              exact calm_all fun q cl hq hcq => e3 q cl (by have := Hlm.out; omega) hcq
          case measure =>
            have h1 := Hz0.out
            have h2 := Hzz.out
            rcases Hzc.out with ⟨rfl, e⟩ | ⟨rfl, rfl, _⟩
            · simp [boolOf]; omega
            · simp [boolOf]; omega
end Go.Proofs.Ytanhacdadgbjdaa
