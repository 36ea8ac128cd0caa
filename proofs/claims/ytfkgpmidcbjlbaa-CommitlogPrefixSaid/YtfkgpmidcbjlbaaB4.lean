/- Part 4 of a proof; each section was a text of its own. -/
import Derived.Test.YtfkgpmidcbjlbaaB1
import Derived.Test.YtfkgpmidcbjlbaaB2
import Derived.Test.YtfkgpmidcbjlbaaB3
import Derived.IntWalk
section
set_option linter.unusedVariables false
set_option linter.unusedSimpArgs false
-- Written by a program of this session (a printer of walks).
namespace Go.Proofs.Ytfkgpmidcbjlbaa.P
open Go.RowKit Go.Proofs.YtfkgpmidcbjlbaaW.PrintWords Go.Proofs.YtfkgpmidcbjlbaaW.PrintLast Go.Proofs.YtfkgpmidcbjlbaaW.PrintMore
attribute [local go_sem] max2_int min2_int max_two min_two max_three min_three max_four min_four   -- for this text's walks alone
set_option linter.unusedVariables false
set_option linter.unusedSimpArgs false

/-! ### laminaref24_fields: function 62 -/
def laminaref24_fields.l0 : Nat → List Int → List Int → Int → Int → Option (List Int × Int × Int)
  | 0, _, _, _, _ => none
  | k + 1, x0, x5, x6, x7 => if x7 < 6 then ((laminaref01_Decode.f k x0 x6).bind fun bt262 => (if bt262.2.2 = 0 then (if bt262.1 > 9223372036854775807 then (some (([] : List Int), 0, 6)) else (if x5.length < 17592186044416 then (laminaref24_fields.l0 k x0 (x5 ++ [wrap64 (bt262.1)]) bt262.2.1 (wrap64 (x7 + 1))) else (none))) else (some (([] : List Int), 0, bt262.2.2)))) else (some (x5, x6, 0))
def laminaref24_fields.f (k : Nat) (l0 : List Int) : Option (List Int × Int × Int) := laminaref24_fields.l0 k l0 ([] : List Int) 0 0
theorem laminaref24_fields.mono_l : ∀ k, (∀ y0 y1 y2 y3, LeO (laminaref24_fields.l0 k y0 y1 y2 y3) (laminaref24_fields.l0 (k + 1) y0 y1 y2 y3))
  | 0 => fun _ _ _ _ r h => by simp [laminaref24_fields.l0] at h
  | k + 1 => by
    have ih0 := laminaref24_fields.mono_l k
    · intro y0 y1 y2 y3
      unfold laminaref24_fields.l0
      repeat' first
      | (with_reducible exact ih0 _ _ _ _)
      | (with_reducible exact laminaref01_Decode.mono _ _ _)
      | (with_reducible exact LeO.refl _)
      | (with_reducible exact LeO.none _)
      | (with_reducible refine LeO.ite ?_ ?_)
      | (with_reducible refine LeO.bind ?_ (fun _ => ?_))
      | exact ih0 _ _ _ _
      | exact laminaref01_Decode.mono _ _ _
      | exact LeO.none _
      | refine LeO.ite ?_ ?_
      | refine LeO.bind ?_ (fun _ => ?_)
theorem laminaref24_fields.mono : ∀ a0 k, LeO (laminaref24_fields.f k a0) (laminaref24_fields.f (k + 1) a0) := by
  intro a0 k
  have ih0 := laminaref24_fields.mono_l k
  unfold laminaref24_fields.f
  repeat' first
      | (with_reducible exact ih0 _ _ _ _)
      | (with_reducible exact laminaref01_Decode.mono _ _ _)
      | (with_reducible exact LeO.refl _)
      | (with_reducible exact LeO.none _)
      | (with_reducible refine LeO.ite ?_ ?_)
      | (with_reducible refine LeO.bind ?_ (fun _ => ?_))
      | exact ih0 _ _ _ _
      | exact laminaref01_Decode.mono _ _ _
      | exact LeO.none _
      | refine LeO.ite ?_ ?_
      | refine LeO.bind ?_ (fun _ => ?_)
set_option maxHeartbeats 8000000 in
set_option maxRecDepth 100000 in
theorem laminaref24_fields.calls (k : Nat) (A0 : Option Addr) (c0 : Nat) (l0 : List Int) (r1 : List Int) (r2 : Int) (r3 : Int) (w : World) (hr0 : Kd.C (Kd.int .u8) w A0 l0.length l0) (hc0 : l0.length ≤ c0) (h : laminaref24_fields.f k l0 = some (r1, r2, r3)) :
    Calls Try.prog 62 #[.slice A0 l0.length c0] w fun e w' => ∃ v0_ : Value, e = .returned (.tuple #[v0_, .int .i64 r2, .int .i64 r3]) ∧ Kd.R (Kd.int .i64) 2 w' w.heap.size (fun _ => True) v0_ r1 ∧ Below w.heap.size w w' := by
  have HR0 := Aside0.mk hr0
  have HC0 := Aside0.mk hc0
  clear hr0 hc0
  have HB := Aside0.mk (Below.refl w.heap.size w)
  have H : (laminaref24_fields.l0 k l0 ([] : List Int) 0 0) = some (r1, r2, r3) := h
  clear h
  have H' := Aside0.mk H
  clear H
  go_enter Try.func62, Try.ntmps62
  go_wp2
  go_loopg [5, 6, 7] k (fun kq v5 v6 v7 w' => ∃ (x5_1 : List Int) (x6_1 : Int) (x7_1 : Int), v6 = .int .i64 x6_1 ∧ v7 = .int .i64 x7_1 ∧ Aside0 (laminaref24_fields.l0 kq l0 x5_1 x6_1 x7_1 = some (r1, r2, r3)) ∧ Aside0 (kq ≤ k) ∧ Aside0 (Kd.R (Kd.int .i64) 2 w' w.heap.size (fun _ => True) v5 x5_1) ∧ Aside0 (Below w.heap.size w w'))
  case atStart => exact ⟨(([] : List Int)), (0), (0), (by first | rfl | (simp; done) | (simp [*]; done)), (by first | rfl | (simp; done) | (simp [*]; done)), H', ⟨Nat.le_refl _⟩, ⟨by first | exact Kd.R_nil _ _ _ _ _ | exact Kd.N_nil _ _ _ _ _ | exact Kd.V_nil _ _ _ _ _ | exact Kd.Q_nil _ _ _ _ _ | exact Kd.S_nil _ _ _ _ _⟩, ⟨by repeat (first | (with_reducible first | exact HB.out | apply below_alloc | apply pw_below_drewN | apply below_drew1) | exact HB.out)⟩⟩
  case round =>
    clear H'
    obtain ⟨x5_1, x6_1, x7_1, rfl, rfl, HA, HK1, HO_5, HB⟩ := hrel
    cases gk with
    | zero => exact absurd HA.out (by simp [laminaref24_fields.l0])
    | succ k1 =>
      have H := HA.out
      clear HA
      simp only [laminaref24_fields.l0] at H
      by_cases c2 : x7_1 < 6
      · rw [if_pos c2] at H
        have c2b0 : decide (x7_1 < 6) = true := decide_eq_true c2
        clear c2
        replace H := Option.bind_eq_some_iff.mp H
        obtain ⟨⟨t262, t263, t264⟩, A30, H⟩ := H
        replace H : (if t264 = 0 then (if t262 > 9223372036854775807 then (some (([] : List Int), 0, 6)) else (if x5_1.length < 17592186044416 then (laminaref24_fields.l0 k1 l0 (x5_1 ++ [wrap64 (t262)]) t263 (wrap64 (x7_1 + 1))) else (none))) else (some (([] : List Int), 0, t264))) = some (r1, r2, r3) := H
        have A3 := Aside0.mk A30
        clear A30
        by_cases c4 : t264 = 0
        · rw [if_pos c4] at H
          have c4b0 : (t264 == 0) = true := beq_iff_eq.mpr c4
          have c4b1 : (t264 != 0) = false := bne_eq_false_iff_eq.mpr c4
          clear c4
          by_cases c5 : t262 > 9223372036854775807
          · rw [if_pos c5] at H
            have c5b0 : decide (9223372036854775807 < t262) = true := decide_eq_true c5
            clear c5
            simp only [Option.some.injEq, Prod.mk.injEq] at H
            obtain ⟨rfl, rfl, rfl⟩ := H
            go_wp2_with (first | ((with_reducible refine gate_callee (f := 35) rfl ?_); refine goesL_ (some 18) rfl rfl Try.func35 (by kernel_rfl) rfl #[.slice A0 l0.length c0, .int .i64 x6_1] rfl (by (try simp only [List.map_toArray, List.map_cons, List.map_nil]); first | done | rfl | (simp only [List.length_drop, List.length_take]; rfl)) ?_; (with_reducible refine (laminaref01_Decode.calls k1 _ _ l0 x6_1 t262 t263 t264 _ ?side1 ?side2 A3.out).mono ?_); (case side1 => repeat (first | exact (Kd.C_below HR0.out HB.out) | (with_reducible refine Kd.C_alloc ?_ _) | (with_reducible refine Kd.C_drewN ?_ _) | (with_reducible refine Kd.C_drew ?_))); (case side2 => exact HC0.out); rintro e w' ⟨rfl, ⟨nd, rfl⟩⟩; refine ⟨_, rfl, ?_⟩))
            go_ret3
            exact ⟨_, by first | rfl | (simp [errW_none, errW_some] <;> rfl) | (simp [*, errW_none, errW_some] <;> rfl), by first | exact Kd.R_nil _ _ _ _ _ | exact Kd.N_nil _ _ _ _ _ | exact Kd.V_nil _ _ _ _ _ | exact Kd.Q_nil _ _ _ _ _ | exact Kd.S_nil _ _ _ _ _, by repeat (first | (with_reducible first | exact HB.out | apply below_alloc | apply pw_below_drewN | apply below_drew1) | exact HB.out)⟩
          · rw [if_neg c5] at H
            have c5b0 : decide (9223372036854775807 < t262) = false := decide_eq_false c5
            clear c5
            by_cases c6 : x5_1.length < 17592186044416
            · rw [if_pos c6] at H
              have LMc6 := Aside0.mk c6
              clear c6
              obtain ⟨y265, hy265⟩ : ∃ y_ : List Int, y_ = (x5_1 ++ [wrap64 (t262)]) := ⟨_, rfl⟩
              replace H : (laminaref24_fields.l0 k1 l0 y265 t263 (wrap64 (x7_1 + 1))) = some (r1, r2, r3) := by first | (rw [hy265]; with_reducible exact H) | (have H2_ := (Option.bind_some _ _).symm.trans H; rw [hy265]; with_reducible exact H2_) | (have H2_ := (Option.bind_some _ _).symm.trans H; with_reducible exact H2_) | with_reducible exact H | (rw [hy265]; exact H) | exact H
              have Ny265 := Aside0.mk hy265
              clear hy265
              have H' := Aside0.mk H
              clear H
              go_wp2_with (first | ((with_reducible refine gate_callee (f := 35) rfl ?_); refine goesL_ (some 18) rfl rfl Try.func35 (by kernel_rfl) rfl #[.slice A0 l0.length c0, .int .i64 x6_1] rfl (by (try simp only [List.map_toArray, List.map_cons, List.map_nil]); first | done | rfl | (simp only [List.length_drop, List.length_take]; rfl)) ?_; (with_reducible refine (laminaref01_Decode.calls k1 _ _ l0 x6_1 t262 t263 t264 _ ?side1 ?side2 A3.out).mono ?_); (case side1 => repeat (first | exact (Kd.C_below HR0.out HB.out) | (with_reducible refine Kd.C_alloc ?_ _) | (with_reducible refine Kd.C_drewN ?_ _) | (with_reducible refine Kd.C_drew ?_))); (case side2 => exact HC0.out); rintro e w' ⟨rfl, ⟨nd, rfl⟩⟩; refine ⟨_, rfl, ?_⟩) | ((with_reducible refine gate_builtin (b := .append) (xs := #[.tmp 27, .tmp 30]) rfl ?_); at_builtin; refine Kd.R_append (Kd.int .i64) (w0 := w) w.heap.size rfl (.tmp 27) (.tmp 30) 55 2 (.int .i64 0) 8 rfl Try.underlying55 info2 rfl (by decide) (by omega) u5 x5_1 (wrap64 (t262)) [.int .i64 (wrap64 (t262))] (fun _ => True) (fun _ => False) rfl rfl ?aP (fun _ hk => hk.elim) ?aF ?aO ?aB ?aS ?aL ?_; (case aP => exact rfl); (case aB => exact (by repeat (first | (with_reducible first | exact HB.out | apply below_alloc | apply pw_below_drewN | apply below_drew1) | exact HB.out))); (case aF => exact (fun _ _ => trivial)); (case aO => exact (by (with_reducible repeat (first | apply Kd.R_alloc | apply Kd.R_drewN | apply Kd.R_drew)); exact HO_5.out)); (case aS => exact (below_size (by repeat (first | (with_reducible first | exact HB.out | apply below_alloc | apply pw_below_drewN | apply below_drew1) | exact HB.out)))); (case aL => have := LMc6.out; omega); intro v266 w7 ho hb hg hat; rw [← Ny265.out] at ho; have n0_ := Aside0.mk (hb); have n1_ := Aside0.mk (ho); clear HB; clear HO_5; have HB := n0_; have HO267 := n1_; clear n0_ n1_; clear ho hb hg hat))
              go_roundg k1
              case measure => have := HK1.out; omega
              case rel => exact ⟨(y265), (t263), (wrap64 (x7_1 + 1)), (by first | rfl | (simp; done) | (simp [*]; done)), (by first | rfl | (simp; done) | (simp [*]; done)), H', ⟨by have := HK1.out; omega⟩, ⟨by (with_reducible repeat (first | apply Kd.R_alloc | apply Kd.R_drewN | apply Kd.R_drew)); exact HO267.out⟩, ⟨by repeat (first | (with_reducible first | exact HB.out | apply below_alloc | apply pw_below_drewN | apply below_drew1) | exact HB.out)⟩⟩
            · rw [if_neg c6] at H
              exact absurd H (by simp)
        · rw [if_neg c4] at H
          have c4b0 : (t264 == 0) = false := beq_eq_false_iff_ne.mpr c4
          have c4b1 : (t264 != 0) = true := bne_iff_ne.mpr c4
          simp only [Option.some.injEq, Prod.mk.injEq] at H
          obtain ⟨rfl, rfl, rfl⟩ := H
          go_wp2_with (first | ((with_reducible refine gate_callee (f := 35) rfl ?_); refine goesL_ (some 18) rfl rfl Try.func35 (by kernel_rfl) rfl #[.slice A0 l0.length c0, .int .i64 x6_1] rfl (by (try simp only [List.map_toArray, List.map_cons, List.map_nil]); first | done | rfl | (simp only [List.length_drop, List.length_take]; rfl)) ?_; (with_reducible refine (laminaref01_Decode.calls k1 _ _ l0 x6_1 t262 t263 t264 _ ?side1 ?side2 A3.out).mono ?_); (case side1 => repeat (first | exact (Kd.C_below HR0.out HB.out) | (with_reducible refine Kd.C_alloc ?_ _) | (with_reducible refine Kd.C_drewN ?_ _) | (with_reducible refine Kd.C_drew ?_))); (case side2 => exact HC0.out); rintro e w' ⟨rfl, ⟨nd, rfl⟩⟩; refine ⟨_, rfl, ?_⟩))
          go_ret3
          exact ⟨_, by first | rfl | (simp [errW_none, errW_some] <;> rfl) | (simp [*, errW_none, errW_some] <;> rfl), by first | exact Kd.R_nil _ _ _ _ _ | exact Kd.N_nil _ _ _ _ _ | exact Kd.V_nil _ _ _ _ _ | exact Kd.Q_nil _ _ _ _ _ | exact Kd.S_nil _ _ _ _ _, by repeat (first | (with_reducible first | exact HB.out | apply below_alloc | apply pw_below_drewN | apply below_drew1) | exact HB.out)⟩
      · rw [if_neg c2] at H
        have c2b0 : decide (x7_1 < 6) = false := decide_eq_false c2
        clear c2
        simp only [Option.some.injEq, Prod.mk.injEq] at H
        obtain ⟨rfl, rfl, rfl⟩ := H
        go_wp2
        go_ret3
        exact ⟨_, by first | rfl | (simp [errW_none, errW_some] <;> rfl) | (simp [*, errW_none, errW_some] <;> rfl), by (with_reducible repeat (first | apply Kd.R_alloc | apply Kd.R_drewN | apply Kd.R_drew)); exact HO_5.out, by repeat (first | (with_reducible first | exact HB.out | apply below_alloc | apply pw_below_drewN | apply below_drew1) | exact HB.out)⟩

end Go.Proofs.Ytfkgpmidcbjlbaa.P
end
section
set_option linter.unusedVariables false
set_option linter.unusedSimpArgs false
/- laminaref24.entry. -/
namespace Go.Proofs.Ytfkgpmidcbjlbaa.P
open Go.RowKit Go.Proofs.Ytfkgpmidcbjlbaa.H Go.Proofs.YtfkgpmidcbjlbaaW.PrintWords
def laminaref24_entry.e (k : Nat) (l : List Int) (at_ : Int) (a0 a1 a2 a3 a4 a5 : Int) : Option FR :=
  if 0 ≤ at_ ∧ at_ ≤ (l.length : Int) then
    if (l.length : Int) - at_ < a5 then some (zFR 2)
    else if a5 < (l.length : Int) - at_ then some (zFR 3)
    else if 100 < a0 then some (zFR 4)
    else (laminaref24_Valid.f k a0 a1 a2 a3 a4 (strOfNums (l.drop at_.toNat))).bind fun v => if v = true then some (a0, a1, a2, a3, a4, strOfNums (l.drop at_.toNat), 0) else some (zFR 4)
  else none
def laminaref24_entry.f (k : Nat) (l : List Int) : Option FR :=
  (laminaref24_fields.f k l).bind fun b => if b.2.2 = 0 then (if b.1.length = 6 then laminaref24_entry.e k l b.2.1 (rd b.1 0) (rd b.1 1) (rd b.1 2) (rd b.1 3) (rd b.1 4) (rd b.1 5) else none) else some (zFR b.2.2)
theorem laminaref24_entry.mono_e (k : Nat) (l : List Int) (at_ a0 a1 a2 a3 a4 a5 : Int) : LeO (laminaref24_entry.e k l at_ a0 a1 a2 a3 a4 a5) (laminaref24_entry.e (k + 1) l at_ a0 a1 a2 a3 a4 a5) := by
  unfold laminaref24_entry.e
  exact LeO.ite (LeO.ite (LeO.refl _) (LeO.ite (LeO.refl _) (LeO.ite (LeO.refl _) (LeO.bind (laminaref24_Valid.mono _ _ _ _ _ _ _) (fun _ => LeO.refl _))))) (LeO.refl _)
theorem laminaref24_entry.mono : ∀ a0 k, LeO (laminaref24_entry.f k a0) (laminaref24_entry.f (k + 1) a0) := by
  intro a0 k
  unfold laminaref24_entry.f
  exact LeO.bind (laminaref24_fields.mono _ _) (fun _ => LeO.ite (LeO.ite (laminaref24_entry.mono_e _ _ _ _ _ _ _ _ _) (LeO.refl _)) (LeO.refl _))
end Go.Proofs.Ytfkgpmidcbjlbaa.P
namespace Go.Proofs.Ytfkgpmidcbjlbaa.H
open Go.RowKit Go.Proofs.YtfkgpmidcbjlbaaW.PrintWords Go.Proofs.Ytfkgpmidcbjlbaa.P

set_option maxRecDepth 100000 in
set_option maxHeartbeats 4000000 in
theorem entry_calls (k : Nat) (A0 : Option Addr) (c0 : Nat) (l0 : List Int) (R : FR) (w : World) (hr0 : Kd.C (Kd.int .u8) w A0 l0.length l0) (hc0 : l0.length ≤ c0) (h : laminaref24_entry.f k l0 = some R) :
    Calls Try.prog 36 #[.slice A0 l0.length c0] w fun e w' => e = .returned (.tuple #[.agg #[.int .i64 R.1, .int .i64 R.2.1, .int .i64 R.2.2.1, .int .i64 R.2.2.2.1, .int .i64 R.2.2.2.2.1, .string R.2.2.2.2.2.1], .int .i64 R.2.2.2.2.2.2]) ∧ Below w.heap.size w w' := by
  unfold laminaref24_entry.f at h
  rw [Option.bind_eq_some_iff] at h
  obtain ⟨⟨nums, at_, er⟩, hf, hg⟩ := h
  have HR := hid hr0
  have HC := hid hc0
  have HF := hid hf
  have HBZ : Hid (∀ w2, Below (w.alloc (.cells #[.int .i64 0, .int .i64 0, .int .i64 0, .int .i64 0, .int .i64 0, .string ⟨#[]⟩] 23)).heap.size (w.alloc (.cells #[.int .i64 0, .int .i64 0, .int .i64 0, .int .i64 0, .int .i64 0, .string ⟨#[]⟩] 23)) w2 →
      Below w.heap.size w w2 ∧ w.heap.size < w2.heap.size ∧ w2.heap[w.heap.size]? = some (.cells Z6 23 (0, 0))) := hid (fun w2 hb => ⟨((Below.refl _ _).alloc (Nat.le_refl _) _).trans (hb.mono (by simp)), by have := hb.size; simp at this; omega, (hb.block _ (by simp)).trans (Go.heap_alloc_new _ _)⟩)
  clear hr0 hc0 hf
  dsimp only at hg
  have hl0 : l0.length ≤ 9223372036854775807 := Kd.C_max HR.out
  by_cases h3 : er = 0
  · subst h3
    rw [if_pos rfl] at hg
    by_cases hn6 : nums.length = 6
    · rw [if_pos hn6] at hg
      have HN6 := hid hn6
      clear hn6
      obtain ⟨a0, ha0⟩ : ∃ a, a = rd nums 0 := ⟨_, rfl⟩
      obtain ⟨a1, ha1⟩ : ∃ a, a = rd nums 1 := ⟨_, rfl⟩
      obtain ⟨a2, ha2⟩ : ∃ a, a = rd nums 2 := ⟨_, rfl⟩
      obtain ⟨a3, ha3⟩ : ∃ a, a = rd nums 3 := ⟨_, rfl⟩
      obtain ⟨a4, ha4⟩ : ∃ a, a = rd nums 4 := ⟨_, rfl⟩
      obtain ⟨a5, ha5⟩ : ∃ a, a = rd nums 5 := ⟨_, rfl⟩
      rw [← ha0, ← ha1, ← ha2, ← ha3, ← ha4, ← ha5] at hg
      have HA := hid (⟨ha0, ha1, ha2, ha3, ha4, ha5⟩ : a0 = rd nums 0 ∧ a1 = rd nums 1 ∧ a2 = rd nums 2 ∧ a3 = rd nums 3 ∧ a4 = rd nums 4 ∧ a5 = rd nums 5)
      clear ha0 ha1 ha2 ha3 ha4 ha5
      unfold laminaref24_entry.e at hg
      by_cases hat : 0 ≤ at_ ∧ at_ ≤ (l0.length : Int)
      · rw [if_pos hat] at hg
        obtain ⟨hat0, hat1⟩ := hat
        have HG := hid hg
        clear hg
        go_enter Try.func36, Try.ntmps36
        go_wp2_with fail
        refine (laminaref24_fields.calls k A0 c0 l0 nums at_ 0 _ (Kd.C_alloc HR.out _) HC.out HF.out).mono ?_
        rintro e w1 ⟨v0, rfl, hv, hb⟩
        obtain ⟨g, cap, rfl, _, _⟩ := Kd.R_form hv (by rw [HN6.out]; omega)
        have HCE : ∀ j : Nat, j < 6 → w1.cell? ⟨g, j, none⟩ = some (.int .i64 (rd nums j)) := fun j hj => by
          have := (Kd.R_cell (0 : Int) hv (j : Int) (by omega) (by rw [HN6.out]; omega)).1
          simpa [rdOf, rd] using this
        have q0 : w1.cell? ⟨g, 0, none⟩ = some (.int .i64 a0) := by rw [HA.out.1]; exact HCE 0 (by omega)
        have q1 : w1.cell? ⟨g, 1, none⟩ = some (.int .i64 a1) := by rw [HA.out.2.1]; exact HCE 1 (by omega)
        have q2 : w1.cell? ⟨g, 2, none⟩ = some (.int .i64 a2) := by rw [HA.out.2.2.1]; exact HCE 2 (by omega)
        have q3 : w1.cell? ⟨g, 3, none⟩ = some (.int .i64 a3) := by rw [HA.out.2.2.2.1]; exact HCE 3 (by omega)
        have q4 : w1.cell? ⟨g, 4, none⟩ = some (.int .i64 a4) := by rw [HA.out.2.2.2.2.1]; exact HCE 4 (by omega)
        have q5 : w1.cell? ⟨g, 5, none⟩ = some (.int .i64 a5) := by rw [HA.out.2.2.2.2.2]; exact HCE 5 (by omega)
        have HB := hid (HBZ.out w1 hb)
        rw [HN6.out]
        clear hv HCE hb
        have hg := HG.out
        clear HG
        by_cases h2 : (l0.length : Int) - at_ < a5
        · rw [if_pos h2] at hg
          have HE := hid hg
          clear hg
          go_wp2_with (first | (refine wpList_store_row rfl 23 (.tmp 2) _ rfl w.heap.size Z6 rfl rfl 23 _ HB.out.2.2 (by kernel_rfl) rfl (by kernel_rfl) ?_))
          obtain rfl := Option.some.inj HE.out
          refine bodyPost_ret (results_ct rfl _ _ w.heap.size 23 Z6 (0, 0) _ rfl (setRow_heap _ _ _ _ _ _ HB.out.2.2) Try.underlying23 rfl (by kernel_rfl)) rfl ⟨rfl, below_setRow HB.out.1 (Nat.le_refl _) _⟩
        rw [if_neg h2] at hg
        by_cases h3 : a5 < (l0.length : Int) - at_
        · rw [if_pos h3] at hg
          have HE := hid hg
          clear hg
          go_wp2_with (first | (refine wpList_store_row rfl 23 (.tmp 2) _ rfl w.heap.size Z6 rfl rfl 23 _ HB.out.2.2 (by kernel_rfl) rfl (by kernel_rfl) ?_))
          obtain rfl := Option.some.inj HE.out
          refine bodyPost_ret (results_ct rfl _ _ w.heap.size 23 Z6 (0, 0) _ rfl (setRow_heap _ _ _ _ _ _ HB.out.2.2) Try.underlying23 rfl (by kernel_rfl)) rfl ⟨rfl, below_setRow HB.out.1 (Nat.le_refl _) _⟩
        rw [if_neg h3] at hg
        by_cases h7 : 100 < a0
        · rw [if_pos h7] at hg
          have HE := hid hg
          clear hg
          go_wp2_with (first | (refine wpList_store_row rfl 23 (.tmp 2) _ rfl w.heap.size Z6 rfl rfl 23 _ HB.out.2.2 (by kernel_rfl) rfl (by kernel_rfl) ?_))
          obtain rfl := Option.some.inj HE.out
          refine bodyPost_ret (results_ct rfl _ _ w.heap.size 23 Z6 (0, 0) _ rfl (setRow_heap _ _ _ _ _ _ HB.out.2.2) Try.underlying23 rfl (by kernel_rfl)) rfl ⟨rfl, below_setRow HB.out.1 (Nat.le_refl _) _⟩
        rw [if_neg h7, Option.bind_eq_some_iff] at hg
        obtain ⟨bv, hval, hg⟩ := hg
        obtain ⟨i5, hi5, hz5a, hz5b, hz5c⟩ := info_parts infoU8
        have hsl := cut_from (P := Try.prog) 24 5 .i64 Try.underlying24 hi5 1 hz5b A0 l0.length c0 at_ hat0 (by omega)
        have hro := Kd.C_drop (Kd.C_below HR.out HB.out.1) (m := at_.toNat) (by omega) HC.out
        simp only [show (Kd.int IntKind.u8).sz = 1 from rfl] at hro
        rw [List.length_drop] at hro
        generalize (if c0 = at_.toNat then A0 else A0.map (·.add (at_.toNat * 1))) = A1 at hsl hro
        have HRO := hid hro
        clear hro
        have hcv2 : ∀ (o : Obj) , (convert 24 9 (.slice A1 (l0.length - at_.toNat) (c0 - at_.toNat))).run Try.prog (w1.alloc o).drew = .ok (.string (strOfNums (l0.drop at_.toNat))) (w1.alloc o).drew := fun o => by
          have h := Kd.C_below HRO.out ((below_alloc (Below.refl _ _) o).drew)
          rw [← List.length_drop] at h
          have := Kd.C_string (src := 24) (dst := 9) (c := c0 - at_.toNat) Try.underlying24 Try.underlying5 Try.underlying9 h
          rwa [List.length_drop] at this
        have hcv3 : (convert 24 9 (.slice A1 (l0.length - at_.toNat) (c0 - at_.toNat))).run Try.prog w1.drew = .ok (.string (strOfNums (l0.drop at_.toNat))) w1.drew := by
          have h := Kd.C_below HRO.out ((Below.refl w1.heap.size w1).drew)
          rw [← List.length_drop] at h
          have := Kd.C_string (src := 24) (dst := 9) (c := c0 - at_.toNat) Try.underlying24 Try.underlying5 Try.underlying9 h
          rwa [List.length_drop] at this
        generalize strOfNums (l0.drop at_.toNat) = nm at hval hg hcv2 hcv3
        have HVAL := hid hval
        have HG := hid hg
        clear hval hg
        go_wp2_with fail
        go_region_held3 (fun wq => wq.cell? ⟨g, 0, none⟩ = some (.int .i64 a0) ∧ wq.cell? ⟨g, 1, none⟩ = some (.int .i64 a1) ∧ wq.cell? ⟨g, 2, none⟩ = some (.int .i64 a2) ∧ wq.cell? ⟨g, 3, none⟩ = some (.int .i64 a3) ∧ wq.cell? ⟨g, 4, none⟩ = some (.int .i64 a4) ∧ (convert 24 9 (.slice A1 (l0.length - at_.toNat) (c0 - at_.toNat))).run Try.prog wq = .ok (.string nm) wq) (first | go_keep) ((fail))
        have HN1 : Hid (∀ w3, Below ((w1.alloc (.cells #[.int .i64 a0, .int .i64 a1, .int .i64 a2, .int .i64 a3, .int .i64 a4, .string nm] 23)).drew).heap.size ((w1.alloc (.cells #[.int .i64 a0, .int .i64 a1, .int .i64 a2, .int .i64 a3, .int .i64 a4, .string nm] 23)).drew) w3 →
              w3.heap[w.heap.size]? = some (.cells Z6 23 (0, 0)) ∧ w3.heap[w1.heap.size]? = some (.cells #[.int .i64 a0, .int .i64 a1, .int .i64 a2, .int .i64 a3, .int .i64 a4, .string nm] 23 (0, 0)) ∧ Below w.heap.size w w3) := hid (fun w3 hb => by
            have hs := HB.out.2.1
            refine ⟨?_, ?_, ?_⟩
            · rw [hb.block _ (by simp; omega)]
              exact heap_drew_alloc_old HB.out.2.2 _ (by omega)
            · rw [hb.block _ (by simp)]
              exact Go.heap_alloc_new _ _
            · exact ((HB.out.1.alloc HB.out.1.size _).drew).trans (hb.mono (by simp; omega)))
        cases bv with
        | true =>
            have hg := HG.out
            rw [if_pos rfl] at hg
            obtain rfl := Option.some.inj hg
            clear hg
            go_wp2_with (first
              | (go_at_call 16; refine (laminaref24_Valid.calls k a0 a1 a2 a3 a4 nm true _ HVAL.out).mono ?_; rintro e w3 ⟨rfl, hb3⟩; have HB3 := hid (HN1.out w3 hb3); clear hb3)
              | (refine wpList_load_row rfl 23 (.tmp 7) rfl w1.heap.size rfl 23 _ (0, 0) _ HB3.out.2.1 Try.underlying23 rfl (by kernel_rfl) ?_)
              | (refine wpList_store_row rfl 23 (.tmp 2) (.tmp 65) rfl w.heap.size #[.int .i64 a0, .int .i64 a1, .int .i64 a2, .int .i64 a3, .int .i64 a4, .string nm] rfl rfl 23 _ HB3.out.1 (by kernel_rfl) rfl (by simp [Value.oneCell']) ?_))
            refine bodyPost_ret (results_ct rfl _ _ w.heap.size 23 #[.int .i64 a0, .int .i64 a1, .int .i64 a2, .int .i64 a3, .int .i64 a4, .string nm] (0, 0) _ rfl (setRow_heap _ _ _ _ _ _ HB3.out.1) Try.underlying23 rfl (by kernel_rfl)) rfl ⟨rfl, below_setRow HB3.out.2.2 (Nat.le_refl _) _⟩
        | false =>
            have hg := HG.out
            rw [if_neg (by simp)] at hg
            obtain rfl := Option.some.inj hg
            clear hg
            go_wp2_with (first
              | (go_at_call 16; refine (laminaref24_Valid.calls k a0 a1 a2 a3 a4 nm false _ HVAL.out).mono ?_; rintro e w3 ⟨rfl, hb3⟩; have HB3 := hid (HN1.out w3 hb3); clear hb3)
              | (refine wpList_store_row rfl 23 (.tmp 2) (.tmp 64) rfl w.heap.size Z6 rfl rfl 23 _ HB3.out.1 (by kernel_rfl) rfl (by kernel_rfl) ?_))
            refine bodyPost_ret (results_ct rfl _ _ w.heap.size 23 Z6 (0, 0) _ rfl (setRow_heap _ _ _ _ _ _ HB3.out.1) Try.underlying23 rfl (by kernel_rfl)) rfl ⟨rfl, below_setRow HB3.out.2.2 (Nat.le_refl _) _⟩
      · rw [if_neg hat] at hg
        exact absurd hg (by simp)
    · rw [if_neg hn6] at hg
      exact absurd hg (by simp)
  · rw [if_neg h3] at hg
    obtain rfl := Option.some.inj hg
    have hb3 : (er != 0) = true := by simpa using h3
    clear hg h3
    go_enter Try.func36, Try.ntmps36
    go_wp2_with (first
      | (go_at_call 62; refine (laminaref24_fields.calls k A0 c0 l0 nums at_ er _ (Kd.C_alloc HR.out _) HC.out HF.out).mono ?_; rintro e w1 ⟨v0, rfl, hv, hb⟩; have HB := hid (HBZ.out w1 hb); clear hv hb)
      | (refine wpList_store_row rfl 23 (.tmp 2) _ rfl w.heap.size Z6 rfl rfl 23 _ HB.out.2.2 (by kernel_rfl) rfl (by kernel_rfl) ?_))
    refine bodyPost_ret (results_ct rfl _ _ w.heap.size 23 Z6 (0, 0) _ rfl (setRow_heap _ _ _ _ _ _ HB.out.2.2) Try.underlying23 rfl (by kernel_rfl)) rfl ⟨rfl, below_setRow HB.out.1 (Nat.le_refl _) _⟩
end Go.Proofs.Ytfkgpmidcbjlbaa.H
namespace Go.Proofs.Ytfkgpmidcbjlbaa.P
open Go.RowKit Go.Proofs.Ytfkgpmidcbjlbaa.H Go.Proofs.YtfkgpmidcbjlbaaW.PrintWords
theorem laminaref24_entry.calls (k : Nat) (A0 : Option Addr) (c0 : Nat) (l0 : List Int) (r1 r2 r3 r4 r5 : Int) (r6 : ByteArray) (r7 : Int) (w : World) (hr0 : Kd.C (Kd.int .u8) w A0 l0.length l0) (hc0 : l0.length ≤ c0) (h : laminaref24_entry.f k l0 = some (r1, r2, r3, r4, r5, r6, r7)) :
    Calls Try.prog 36 #[.slice A0 l0.length c0] w fun e w' => e = .returned (.tuple #[.agg #[.int .i64 r1, .int .i64 r2, .int .i64 r3, .int .i64 r4, .int .i64 r5, .string r6], .int .i64 r7]) ∧ Below w.heap.size w w' :=
  entry_calls k A0 c0 l0 (r1, r2, r3, r4, r5, r6, r7) w hr0 hc0 h
end Go.Proofs.Ytfkgpmidcbjlbaa.P
end
section
set_option linter.unusedVariables false
set_option linter.unusedSimpArgs false
-- Written by a program of this session (a printer of walks).
namespace Go.Proofs.Ytfkgpmidcbjlbaa.P
open Go.RowKit Go.Proofs.YtfkgpmidcbjlbaaW.PrintWords Go.Proofs.YtfkgpmidcbjlbaaW.PrintLast Go.Proofs.YtfkgpmidcbjlbaaW.PrintMore
attribute [local go_sem] max2_int min2_int max_two min_two max_three min_three max_four min_four   -- for this text's walks alone
set_option linter.unusedVariables false
set_option linter.unusedSimpArgs false

/-! ### laminaref24_sum: function 31 -/
def laminaref24_sum.f (k : Nat) (l0 : List Int) : Option (List Int) := (laminaref02_CRC.f k (([l0] : List (List Int)))).bind fun t252 => ((laminaref01_Fixed.f k (IntKind.u64.wrap (t252)) 4).bind fun t253 => (some t253))
theorem laminaref24_sum.mono : ∀ a0 k, LeO (laminaref24_sum.f k a0) (laminaref24_sum.f (k + 1) a0) := by
  intro a0 k
  unfold laminaref24_sum.f
  repeat' first
      | (with_reducible exact laminaref01_Fixed.mono _ _ _)
      | (with_reducible exact laminaref02_CRC.mono _ _)
      | (with_reducible exact LeO.refl _)
      | (with_reducible exact LeO.none _)
      | (with_reducible refine LeO.ite ?_ ?_)
      | (with_reducible refine LeO.bind ?_ (fun _ => ?_))
      | exact laminaref01_Fixed.mono _ _ _
      | exact laminaref02_CRC.mono _ _
      | exact LeO.none _
      | refine LeO.ite ?_ ?_
      | refine LeO.bind ?_ (fun _ => ?_)
set_option maxHeartbeats 8000000 in
set_option maxRecDepth 100000 in
theorem laminaref24_sum.calls (k : Nat) (P0_ : Nat → Prop) (A0 : Option Addr) (c0 : Nat) (l0 : List Int) (r : List Int) (w : World) (hs0 : Kd.V (Kd.int .u8) 5 w w.heap.size (fun k_ => P0_ k_) (.slice A0 l0.length c0) l0) (h : laminaref24_sum.f k l0 = some r) :
    Calls Try.prog 31 #[.slice A0 l0.length c0] w fun e w' => ∃ v0_ : Value, e = .returned (v0_) ∧ Kd.R (Kd.int .u8) 5 w' w.heap.size (fun k_ => (w.heap.size ≤ k_)) v0_ r ∧ Below w.heap.size w w' := by
  have HO0 := Aside0.mk (show Kd.V (Kd.int .u8) 5 w w.heap.size (fun k_ => (P0_ k_ ∨ w.heap.size ≤ k_)) (.slice A0 l0.length c0) l0 from Kd.V_mono hs0 (fun k_ hk => .inl hk))
  have HB := Aside0.mk (Below.refl w.heap.size w)
  have H : ((laminaref02_CRC.f k (([l0] : List (List Int)))).bind fun t252 => ((laminaref01_Fixed.f k (IntKind.u64.wrap (t252)) 4).bind fun t253 => (some t253))) = some r := h
  clear h
  obtain ⟨y249, hy249⟩ : ∃ y_ : List (List Int), y_ = (([l0] : List (List Int))) := ⟨_, rfl⟩
  replace H : ((laminaref02_CRC.f k y249).bind fun t252 => ((laminaref01_Fixed.f k (IntKind.u64.wrap (t252)) 4).bind fun t253 => (some t253))) = some r := by first | (rw [hy249]; with_reducible exact H) | (have H2_ := (Option.bind_some _ _).symm.trans H; rw [hy249]; with_reducible exact H2_) | (have H2_ := (Option.bind_some _ _).symm.trans H; with_reducible exact H2_) | with_reducible exact H | (rw [hy249]; exact H) | exact H
  have Ny249 := Aside0.mk hy249
  clear hy249
  replace H := Option.bind_eq_some_iff.mp H
  obtain ⟨t252, A20, H⟩ := H
  replace H : ((laminaref01_Fixed.f k (IntKind.u64.wrap (t252)) 4).bind fun t253 => (some t253)) = some r := H
  have A2 := Aside0.mk A20
  clear A20
  replace H := Option.bind_eq_some_iff.mp H
  obtain ⟨t253, A30, H⟩ := H
  replace H : (some t253) = some r := H
  have A3 := Aside0.mk A30
  clear A30
  obtain rfl := Option.some.inj H
  go_enter Try.func31, Try.ntmps31
  go_wp2_with (first | ((with_reducible refine gate_dst (N := 4) rfl ?_); refine Kd.N_lit (Kd.slice 5 (Kd.int .u8)) _ 24 ?hg (N' := 4) ?hd (xs := ([l0] : List (List Int))) (inner := [.slice A0 l0.length c0]) (ok := (fun k_ => (P0_ k_ ∨ w.heap.size ≤ k_))) (okp := (fun k_ => (P0_ k_ ∨ w.heap.size ≤ k_))) ?hr ?hp (fun _ hk => hk) ((show ∀ k_, w.heap.size ≤ k_ → (fun k_ => (P0_ k_ ∨ w.heap.size ≤ k_)) k_ from fun k_ hk => (.inr (Nat.le_trans (below_size (by repeat (first | (with_reducible first | exact HB.out | apply below_alloc | apply pw_below_drewN | apply below_drew1) | exact HB.out))) hk))) _ (Nat.le_refl _)) (Below.refl _ _) (Nat.le_refl _) (by simp) ?_; (case hd => rfl); (case hg => rfl); (case hr => first | (go_simp; done) | (go_simp; rfl)); (case hp => exact (Reps.one (show Kd.FK (Kd.slice 5 (Kd.int .u8)) _ _ l0 [.slice A0 l0.length c0] from (Kd.FK_slice_mk (Kd.V_reads' (Kd.V_mono (ok' := (fun k_ => (P0_ k_ ∨ w.heap.size ≤ k_))) (HO0.out) (fun k_ hk => hk))).2.1 (Kd.V_F (Kd.V_mono (ok' := (fun k_ => (P0_ k_ ∨ w.heap.size ≤ k_))) (HO0.out) (fun k_ hk => hk))))) (Reps.none _ _))); intro v250 w4 ho5 hb hg_ hnew_; clear hg_ hnew_; (first | rw [← Ny249.out] at ho5 | (simp only [Int.reduceToNat] at ho5; rw [← Ny249.out] at ho5)); have n0_ := Aside0.mk (Kd.V_elder' (by (with_reducible repeat (first | apply Kd.V_alloc | apply Kd.V_drewN | apply Kd.V_drew)); exact HO0.out) (Kd.N_base ho5) hb); have n1_ := Aside0.mk (Kd.N_lower ho5 (below_size (by repeat (first | (with_reducible first | exact HB.out | apply below_alloc | apply pw_below_drewN | apply below_drew1) | exact HB.out)))); have n2_ := Aside0.mk (below_step (by repeat (first | (with_reducible first | exact HB.out | apply below_alloc | apply pw_below_drewN | apply below_drew1) | exact HB.out)) hb); clear HO0; clear HB; have HO0 := n0_; have HO251 := n1_; have HB := n2_; clear n0_ n1_ n2_; clear hb ho5; obtain ⟨Ao6, co6, eo6⟩ := Kd.N_slice HO251.out; subst eo6) | ((with_reducible refine gate_callee (f := 61) rfl ?_); refine goesL_ (some 5) rfl rfl Try.func61 (by kernel_rfl) rfl #[.slice Ao6 y249.length co6] rfl (by (try simp only [List.map_toArray, List.map_cons, List.map_nil]); first | done | rfl | (simp only [List.length_drop, List.length_take]; rfl)) ?_; (with_reducible refine (laminaref02_CRC.calls k _ _ y249 t252 _ ?side1 ?side2 A2.out).mono ?_); (case side1 => repeat (first | exact (Kd.N_reads' HO251.out).2.2 | (with_reducible refine Kd.C_alloc ?_ _) | (with_reducible refine Kd.C_drewN ?_ _) | (with_reducible refine Kd.C_drew ?_))); (case side2 => exact (Kd.N_reads' HO251.out).2.1); rintro e w' ⟨rfl, ⟨nd, rfl⟩⟩; refine ⟨_, rfl, ?_⟩) | ((with_reducible refine gate_callee (f := 60) rfl ?_); refine goesL_ (some 7) rfl rfl Try.func60 (by kernel_rfl) rfl #[.int .u64 (IntKind.u64.wrap (t252)), .int .i64 4] rfl (by (try simp only [List.map_toArray, List.map_cons, List.map_nil]); first | done | rfl | (simp only [List.length_drop, List.length_take]; rfl)) ?_; (with_reducible refine (laminaref01_Fixed.calls k (IntKind.u64.wrap (t252)) 4 t253 _ A3.out).mono ?_); rintro e w7 ⟨v254, rfl, ho0, hb⟩; refine ⟨_, rfl, ?_⟩; have n0_ := Aside0.mk (Kd.V_elder' (by (with_reducible repeat (first | apply Kd.V_alloc | apply Kd.V_drewN | apply Kd.V_drew)); exact HO0.out) (Kd.R_base ho0) hb); have n1_ := Aside0.mk (Kd.N_elder' (by (with_reducible repeat (first | apply Kd.N_alloc | apply Kd.N_drewN | apply Kd.N_drew)); exact HO251.out) (Kd.R_base ho0) hb); have n2_ := Aside0.mk (Kd.R_lower (Kd.R_newM (M := fun k_ => (w.heap.size ≤ k_)) ho0 (below_size (by repeat (first | (with_reducible first | exact HB.out | apply below_alloc | apply pw_below_drewN | apply below_drew1) | exact HB.out))) (fun k_ h_ => h_)) (below_size (by repeat (first | (with_reducible first | exact HB.out | apply below_alloc | apply pw_below_drewN | apply below_drew1) | exact HB.out)))); have n3_ := Aside0.mk (below_step (by repeat (first | (with_reducible first | exact HB.out | apply below_alloc | apply pw_below_drewN | apply below_drew1) | exact HB.out)) hb); clear HO0; clear HO251; clear HB; have HO0 := n0_; have HO251 := n1_; have HO255 := n2_; have HB := n3_; clear n0_ n1_ n2_ n3_; (try clear hb); (try clear hb2); (try clear hk); (try clear hi); (try clear ho0)))
  go_ret
  exact ⟨_, by first | rfl | (simp [errW_none, errW_some] <;> rfl) | (simp [*, errW_none, errW_some] <;> rfl), by (with_reducible repeat (first | apply Kd.R_alloc | apply Kd.R_drewN | apply Kd.R_drew)); exact Kd.R_mono HO255.out (fun _ hk => hk.1), by repeat (first | (with_reducible first | exact HB.out | apply below_alloc | apply pw_below_drewN | apply below_drew1) | exact HB.out)⟩

end Go.Proofs.Ytfkgpmidcbjlbaa.P
end
section
set_option linter.unusedVariables false
set_option linter.unusedSimpArgs false
/- laminaref24.sum and laminaref24.Decode. -/
namespace Go.Proofs.Ytfkgpmidcbjlbaa.P
open Go.RowKit Go.Proofs.Ytfkgpmidcbjlbaa.H Go.Proofs.YtfkgpmidcbjlbaaW.PrintWords
def laminaref24_Decode.e (k : Nat) (l : List Int) (n at_ : Int) : Option DR :=
  if (l.length : Int) - at_ < n + 4 then some (zDR 2) else
  (laminaref24_sum.f k (segOf l at_ (at_ + n))).bind fun s => if ((strOfNums s).toList == (strOfNums (segOf l (at_ + n) (at_ + n + 4))).toList) = true then
    (laminaref24_entry.f k (segOf l at_ (at_ + n))).bind fun x => if x.2.2.2.2.2.2 = 0 then some (x.1, x.2.1, x.2.2.1, x.2.2.2.1, x.2.2.2.2.1, x.2.2.2.2.2.1, at_ + n + 4, 0) else some (zDR x.2.2.2.2.2.2)
    else some (zDR 5)
def laminaref24_Decode.f (k : Nat) (l : List Int) (off : Int) : Option DR :=
  (laminaref01_Decode.f k l off).bind fun b => if b.2.2 = 0 then (if 256 < b.1 then some (zDR 3) else if 0 ≤ b.1 ∧ 0 ≤ b.2.1 ∧ b.2.1 ≤ (l.length : Int) then laminaref24_Decode.e k l b.1 b.2.1 else none) else some (zDR b.2.2)
theorem laminaref24_Decode.mono_e (k : Nat) (l : List Int) (n at_ : Int) : LeO (laminaref24_Decode.e k l n at_) (laminaref24_Decode.e (k + 1) l n at_) := by
  unfold laminaref24_Decode.e
  exact LeO.ite (LeO.refl _) (LeO.bind (laminaref24_sum.mono _ _) (fun _ => LeO.ite (LeO.bind (laminaref24_entry.mono _ _) (fun _ => LeO.refl _)) (LeO.refl _)))
theorem laminaref24_Decode.mono : ∀ a0 a1 k, LeO (laminaref24_Decode.f k a0 a1) (laminaref24_Decode.f (k + 1) a0 a1) := by
  intro a0 a1 k
  unfold laminaref24_Decode.f
  exact LeO.bind (laminaref01_Decode.mono _ _ _) (fun _ => LeO.ite (LeO.ite (LeO.refl _) (LeO.ite (laminaref24_Decode.mono_e _ _ _ _) (LeO.refl _))) (LeO.refl _))
end Go.Proofs.Ytfkgpmidcbjlbaa.P
namespace Go.Proofs.Ytfkgpmidcbjlbaa.H
open Go.RowKit Go.Proofs.YtfkgpmidcbjlbaaW.PrintWords Go.Proofs.Ytfkgpmidcbjlbaa.P

set_option maxRecDepth 100000 in
set_option maxHeartbeats 4000000 in
theorem sum_calls (k : Nat) (A : Option Addr) (c : Nat) (l r : List Int) (w : World) (hr : Kd.C (Kd.int .u8) w A l.length l) (hc : l.length ≤ c) (h : laminaref24_sum.f k l = some r) :
    Calls Try.prog 31 #[.slice A l.length c] w fun e w' => ∃ v : Value, e = .returned v ∧ Kd.R (Kd.int .u8) 5 w' w.heap.size (fun _ => True) v r ∧ Below w.heap.size w w' := by
  unfold laminaref24_sum.f at h
  rw [Option.bind_eq_some_iff] at h
  obtain ⟨cr, h1, h⟩ := h
  rw [Option.bind_eq_some_iff] at h
  obtain ⟨r', h2, h⟩ := h
  obtain rfl := Option.some.inj h
  have HR := hid hr
  have HC := hid hc
  have H1 := hid h1
  have H2 := hid h2
  clear h hr hc h1 h2
  go_enter Try.func31, Try.ntmps31
  go_wp2_with fail
  refine (laminaref02_CRC.calls k (some ⟨w.heap.size, 0, none⟩) 1 [l] cr _ (C_one l (by rw [cell_of_row _ _ _ _ _ _ (Go.heap_alloc_new _ _)]; rfl) HC.out (Kd.C_alloc HR.out _)) (Nat.le_refl 1) H1.out).mono ?_
  rintro e w1 ⟨rfl, hb1⟩
  have HB1 : Hid (Below w.heap.size w w1) := hid (((Below.refl w.heap.size w).alloc (Nat.le_refl _) _).trans (hb1.below.mono (by simp)))
  clear hb1
  go_wp2_with fail
  refine (laminaref01_Fixed.calls k (IntKind.u64.wrap cr) 4 r' _ H2.out).mono ?_
  rintro e w2 ⟨v, rfl, hv, hb2⟩
  have HB2 : Hid (Below w.heap.size w w2) := hid (HB1.out.trans (hb2.mono HB1.out.size))
  have HV := hid (Kd.R_lower hv HB1.out.size)
  clear hv hb2
  go_wp2_with fail
  go_ret
  exact ⟨v, rfl, HV.out, HB2.out⟩

set_option maxRecDepth 100000 in
set_option maxHeartbeats 4000000 in
theorem rdecode_calls (k : Nat) (A0 : Option Addr) (c0 : Nat) (l0 : List Int) (off : Int) (R : DR) (w : World) (hr0 : Kd.C (Kd.int .u8) w A0 l0.length l0) (hc0 : l0.length ≤ c0) (h : laminaref24_Decode.f k l0 off = some R) :
    Calls Try.prog 12 #[.slice A0 l0.length c0, .int .i64 off] w fun e w' => e = .returned (.tuple #[.agg #[.int .i64 R.1, .int .i64 R.2.1, .int .i64 R.2.2.1, .int .i64 R.2.2.2.1, .int .i64 R.2.2.2.2.1, .string R.2.2.2.2.2.1], .int .i64 R.2.2.2.2.2.2.1, .int .i64 R.2.2.2.2.2.2.2]) ∧ Below w.heap.size w w' := by
  unfold laminaref24_Decode.f at h
  rw [Option.bind_eq_some_iff] at h
  obtain ⟨⟨n, at_, er⟩, hf, hg⟩ := h
  have HR := hid hr0
  have HC := hid hc0
  have HF := hid hf
  have HBZ : Hid (∀ w2, Below (w.alloc (.cells #[.int .i64 0, .int .i64 0, .int .i64 0, .int .i64 0, .int .i64 0, .string ⟨#[]⟩] 23)).heap.size (w.alloc (.cells #[.int .i64 0, .int .i64 0, .int .i64 0, .int .i64 0, .int .i64 0, .string ⟨#[]⟩] 23)) w2 →
      Below w.heap.size w w2 ∧ w.heap.size < w2.heap.size ∧ w2.heap[w.heap.size]? = some (.cells Z6 23 (0, 0))) := hid (fun w2 hb => ⟨((Below.refl _ _).alloc (Nat.le_refl _) _).trans (hb.mono (by simp)), by have := hb.size; simp at this; omega, (hb.block _ (by simp)).trans (Go.heap_alloc_new _ _)⟩)
  clear hr0 hc0 hf
  dsimp only at hg
  have hl0 : l0.length ≤ 9223372036854775807 := Kd.C_max HR.out
  by_cases h3 : er = 0
  · subst h3
    rw [if_pos rfl] at hg
    by_cases hn : 256 < n
    · rw [if_pos hn] at hg
      obtain rfl := Option.some.inj hg
      clear hg
      go_enter Try.func12, Try.ntmps12
      go_wp2_with (first
        | (go_at_call 35; refine (laminaref01_Decode.calls k A0 c0 l0 off n at_ 0 _ (Kd.C_alloc HR.out _) HC.out HF.out).mono ?_; rintro e w1 ⟨rfl, hb⟩; have HB := hid (HBZ.out w1 hb.below); clear hb)
        | (refine wpList_store_row rfl 23 (.tmp 4) _ rfl w.heap.size Z6 rfl rfl 23 _ HB.out.2.2 (by kernel_rfl) rfl (by kernel_rfl) ?_))
      refine bodyPost_ret (results_ctt rfl _ _ w.heap.size 23 Z6 (0, 0) _ rfl (setRow_heap _ _ _ _ _ _ HB.out.2.2) Try.underlying23 rfl (by kernel_rfl)) rfl ⟨rfl, below_setRow HB.out.1 (Nat.le_refl _) _⟩
    rw [if_neg hn] at hg
    by_cases hat : 0 ≤ n ∧ 0 ≤ at_ ∧ at_ ≤ (l0.length : Int)
    · rw [if_pos hat] at hg
      obtain ⟨hn0, hat0, hat1⟩ := hat
      unfold laminaref24_Decode.e at hg
      by_cases hsh : (l0.length : Int) - at_ < n + 4
      · rw [if_pos hsh] at hg
        obtain rfl := Option.some.inj hg
        clear hg
        go_enter Try.func12, Try.ntmps12
        go_wp2_with (first
          | (go_at_call 35; refine (laminaref01_Decode.calls k A0 c0 l0 off n at_ 0 _ (Kd.C_alloc HR.out _) HC.out HF.out).mono ?_; rintro e w1 ⟨rfl, hb⟩; have HB := hid (HBZ.out w1 hb.below); clear hb)
          | (refine wpList_store_row rfl 23 (.tmp 4) _ rfl w.heap.size Z6 rfl rfl 23 _ HB.out.2.2 (by kernel_rfl) rfl (by kernel_rfl) ?_))
        refine bodyPost_ret (results_ctt rfl _ _ w.heap.size 23 Z6 (0, 0) _ rfl (setRow_heap _ _ _ _ _ _ HB.out.2.2) Try.underlying23 rfl (by kernel_rfl)) rfl ⟨rfl, below_setRow HB.out.1 (Nat.le_refl _) _⟩
      rw [if_neg hsh, Option.bind_eq_some_iff] at hg
      obtain ⟨sm, hsm, hg⟩ := hg
      obtain ⟨sg, hsg⟩ : ∃ sg, sg = segOf l0 at_ (at_ + n) := ⟨_, rfl⟩
      obtain ⟨sg2, hsg2⟩ : ∃ sg, sg = segOf l0 (at_ + n) (at_ + n + 4) := ⟨_, rfl⟩
      rw [← hsg, ← hsg2] at hg
      rw [← hsg] at hsm
      have HSM := hid hsm
      obtain ⟨A1, c1, hsl, hsc, hsC⟩ := seg_reads HR.out HC.out at_ (at_ + n) hat0 (by omega) (by omega)
      obtain ⟨A2, c2, hsl2, hsc2, hsC2⟩ := seg_reads HR.out HC.out (at_ + n) (at_ + n + 4) (by omega) (by omega) (by omega)
      rw [← hsg] at hsl hsc hsC
      rw [← hsg2] at hsl2 hsc2 hsC2
      have HSC := hid hsc
      have HSCC := hid hsC
      have HSCC2 := hid hsC2
      have HG := hid hg
      have HCV : Hid (∀ w2, Below w.heap.size w w2 → (convert 24 9 (.slice A2 sg2.length c2)).run Try.prog w2 = .ok (.string (strOfNums sg2)) w2) := hid (fun w2 hb => Kd.C_string Try.underlying24 Try.underlying5 Try.underlying9 (Kd.C_below HSCC2.out hb))
      clear hsm hsg hsg2 hsc hsC hsc2 hsC2 hg
      generalize strOfNums sg2 = st2 at HG HCV
      go_enter Try.func12, Try.ntmps12
      go_wp2_with (first
        | (go_at_call 35; refine (laminaref01_Decode.calls k A0 c0 l0 off n at_ 0 _ (Kd.C_alloc HR.out _) HC.out HF.out).mono ?_; rintro e w1 ⟨rfl, hb⟩; have HB := hid (HBZ.out w1 hb.below); clear hb))
      have s1 : IntKind.i64.wrap n = n := IntWalk.i64_in _ (by omega)
      have s2 : IntKind.i64.wrap (at_ + n) = at_ + n := IntWalk.i64_in _ (by omega)
      have s3 : IntKind.i64.wrap (at_ + n + 4) = at_ + n + 4 := IntWalk.i64_in _ (by omega)
      have HW1 : Hid (Below w.heap.size w w1.drew) := hid HB.out.1.drew
      have hcv := HCV.out _ HW1.out
      have hcvA := fun w2 (hb : Below w.heap.size w w2) => HCV.out w2 hb
      obtain ⟨st1, hst1⟩ : ∃ s, s = strOfNums sm := ⟨_, rfl⟩
      rw [← hst1] at HG
      have HS1 := hid hst1.symm
      clear hst1
      have hg := HG.out
      clear HG
      have HZ1 : Hid (∀ w4, Below w1.drew.heap.size w1.drew w4 → w4.heap[w.heap.size]? = some (.cells Z6 23 (0, 0)) ∧ w.heap.size < w4.heap.size) := hid (fun w4 hb => ⟨(hb.block _ HB.out.2.1).trans HB.out.2.2, Nat.lt_of_lt_of_le HB.out.2.1 hb.size⟩)
      cases heq : (st1.toList == st2.toList) with
      | false =>
        rw [if_neg (by rw [heq]; simp)] at hg
        obtain rfl := Option.some.inj hg
        clear hg
        go_region_with (first | (go_at_call 31; refine (sum_calls k A1 c1 sg sm _ (Kd.C_below HSCC.out HW1.out) HSC.out HSM.out).mono ?_; rintro e w4 ⟨v4, rfl, ho4, hb4⟩; obtain ⟨A4, c4, rfl⟩ := Kd.R_slice ho4; have HB4 := hid (HW1.out.trans (hb4.mono HW1.out.size)); have HB14 := hid hb4; have hcv4 := Kd.C_string (src := 24) (dst := 9) (c := c4) Try.underlying24 Try.underlying5 Try.underlying9 (Kd.R_reads' ho4).2.2; rw [HS1.out] at hcv4; have hcv5 := HCV.out _ HB4.out; clear ho4 hb4))
        all_goals
          clear hcv4 hcv5 hcvA s1 s2 s3
          obtain ⟨hz4, hl4⟩ := HZ1.out _ HB14.out
          have HZ4 := hid hz4
          clear hz4
          go_wp2_with (first
            | (refine wpList_store_row rfl 23 (.tmp 4) _ rfl w.heap.size Z6 rfl rfl 23 _ HZ4.out (by kernel_rfl) rfl (by kernel_rfl) ?_))
          refine bodyPost_ret (results_ctt rfl _ _ w.heap.size 23 Z6 (0, 0) _ rfl (setRow_heap _ _ _ _ _ _ HZ4.out) Try.underlying23 rfl (by kernel_rfl)) rfl ⟨rfl, below_setRow HB4.out (Nat.le_refl _) _⟩
      | true =>
        rw [if_pos heq, Option.bind_eq_some_iff] at hg
        obtain ⟨⟨r1, r2, r3, r4, r5, r6, r7⟩, hfl, hg⟩ := hg
        have HFL := hid hfl
        clear hfl
        dsimp only at hg
        by_cases h7 : r7 = 0
        · subst h7
          rw [if_pos rfl] at hg
          obtain rfl := Option.some.inj hg
          clear hg
          go_region_with (first | (go_at_call 31; refine (sum_calls k A1 c1 sg sm _ (Kd.C_below HSCC.out HW1.out) HSC.out HSM.out).mono ?_; rintro e w4 ⟨v4, rfl, ho4, hb4⟩; obtain ⟨A4, c4, rfl⟩ := Kd.R_slice ho4; have HB4 := hid (HW1.out.trans (hb4.mono HW1.out.size)); have HB14 := hid hb4; have hcv4 := Kd.C_string (src := 24) (dst := 9) (c := c4) Try.underlying24 Try.underlying5 Try.underlying9 (Kd.R_reads' ho4).2.2; rw [HS1.out] at hcv4; have hcv5 := HCV.out _ HB4.out; clear ho4 hb4))
          all_goals
            clear hcv4 hcv5 hcvA
            obtain ⟨hz4, hl4⟩ := HZ1.out _ HB14.out
            have HZ4 := hid hz4
            clear hz4 s1 s2 s3
            go_wp2_with fail
            refine (laminaref24_entry.calls k A1 c1 sg r1 r2 r3 r4 r5 r6 0 _ (Kd.C_below HSCC.out HB4.out) HSC.out HFL.out).mono ?_
            rintro e w5 ⟨rfl, hb5⟩
            have HZ5 : Hid (∀ o, (w5.alloc o).heap[w.heap.size]? = some (.cells Z6 23 (0, 0)) ∧ Below w.heap.size w (w5.alloc o)) := hid (fun o => ⟨(((Below.refl w5.heap.size w5).alloc (Nat.le_refl _) o).block _ (Nat.lt_of_lt_of_le hl4 hb5.size)).trans ((hb5.block _ hl4).trans HZ4.out), (HB4.out.trans (hb5.mono HB4.out.size)).alloc (Nat.le_trans (Nat.le_of_lt hl4) hb5.size) o⟩)
            clear hb5
            go_wp2_with (first
              | (refine wpList_load_row rfl 23 (.tmp 11) rfl w5.heap.size rfl 23 #[.int .i64 r1, .int .i64 r2, .int .i64 r3, .int .i64 r4, .int .i64 r5, .string r6] (0, 0) _ (Go.heap_alloc_new _ _) Try.underlying23 rfl (by kernel_rfl) ?_)
              | (refine wpList_store_row rfl 23 (.tmp 4) (.tmp 68) rfl w.heap.size #[.int .i64 r1, .int .i64 r2, .int .i64 r3, .int .i64 r4, .int .i64 r5, .string r6] rfl rfl 23 _ (HZ5.out _).1 (by kernel_rfl) rfl (by simp [Value.oneCell']) ?_))
            refine bodyPost_ret (results_ctt rfl _ _ w.heap.size 23 #[.int .i64 r1, .int .i64 r2, .int .i64 r3, .int .i64 r4, .int .i64 r5, .string r6] (0, 0) _ rfl (setRow_heap _ _ _ _ _ _ (HZ5.out _).1) Try.underlying23 rfl (by kernel_rfl)) rfl ⟨rfl, below_setRow (HZ5.out _).2 (Nat.le_refl _) _⟩
        · rw [if_neg h7] at hg
          obtain rfl := Option.some.inj hg
          have hb7 : (r7 != 0) = true := by simpa using h7
          clear hg h7
          go_region_with (first | (go_at_call 31; refine (sum_calls k A1 c1 sg sm _ (Kd.C_below HSCC.out HW1.out) HSC.out HSM.out).mono ?_; rintro e w4 ⟨v4, rfl, ho4, hb4⟩; obtain ⟨A4, c4, rfl⟩ := Kd.R_slice ho4; have HB4 := hid (HW1.out.trans (hb4.mono HW1.out.size)); have HB14 := hid hb4; have hcv4 := Kd.C_string (src := 24) (dst := 9) (c := c4) Try.underlying24 Try.underlying5 Try.underlying9 (Kd.R_reads' ho4).2.2; rw [HS1.out] at hcv4; have hcv5 := HCV.out _ HB4.out; clear ho4 hb4))
          all_goals
            clear hcv4 hcv5 hcvA
            obtain ⟨hz4, hl4⟩ := HZ1.out _ HB14.out
            have HZ4 := hid hz4
            clear hz4 s1 s2 s3
            go_wp2_with fail
            refine (laminaref24_entry.calls k A1 c1 sg r1 r2 r3 r4 r5 r6 r7 _ (Kd.C_below HSCC.out HB4.out) HSC.out HFL.out).mono ?_
            rintro e w5 ⟨rfl, hb5⟩
            have HZ5 : Hid (∀ o, (w5.alloc o).heap[w.heap.size]? = some (.cells Z6 23 (0, 0)) ∧ Below w.heap.size w (w5.alloc o)) := hid (fun o => ⟨(((Below.refl w5.heap.size w5).alloc (Nat.le_refl _) o).block _ (Nat.lt_of_lt_of_le hl4 hb5.size)).trans ((hb5.block _ hl4).trans HZ4.out), (HB4.out.trans (hb5.mono HB4.out.size)).alloc (Nat.le_trans (Nat.le_of_lt hl4) hb5.size) o⟩)
            clear hb5
            go_wp2_with (first
              | (refine wpList_store_row rfl 23 (.tmp 4) (.tmp 66) rfl w.heap.size Z6 rfl rfl 23 _ (HZ5.out _).1 (by kernel_rfl) rfl (by kernel_rfl) ?_))
            refine bodyPost_ret (results_ctt rfl _ _ w.heap.size 23 Z6 (0, 0) _ rfl (setRow_heap _ _ _ _ _ _ (HZ5.out _).1) Try.underlying23 rfl (by kernel_rfl)) rfl ⟨rfl, below_setRow (HZ5.out _).2 (Nat.le_refl _) _⟩
    · rw [if_neg hat] at hg
      exact absurd hg (by simp)
  · rw [if_neg h3] at hg
    obtain rfl := Option.some.inj hg
    have hb3 : (er != 0) = true := by simpa using h3
    clear hg h3
    go_enter Try.func12, Try.ntmps12
    go_wp2_with (first
      | (go_at_call 35; refine (laminaref01_Decode.calls k A0 c0 l0 off n at_ er _ (Kd.C_alloc HR.out _) HC.out HF.out).mono ?_; rintro e w1 ⟨rfl, hb⟩; have HB := hid (HBZ.out w1 hb.below); clear hb)
      | (refine wpList_store_row rfl 23 (.tmp 4) _ rfl w.heap.size Z6 rfl rfl 23 _ HB.out.2.2 (by kernel_rfl) rfl (by kernel_rfl) ?_))
    refine bodyPost_ret (results_ctt rfl _ _ w.heap.size 23 Z6 (0, 0) _ rfl (setRow_heap _ _ _ _ _ _ HB.out.2.2) Try.underlying23 rfl (by kernel_rfl)) rfl ⟨rfl, below_setRow HB.out.1 (Nat.le_refl _) _⟩
end Go.Proofs.Ytfkgpmidcbjlbaa.H
namespace Go.Proofs.Ytfkgpmidcbjlbaa.P
open Go.RowKit Go.Proofs.Ytfkgpmidcbjlbaa.H Go.Proofs.YtfkgpmidcbjlbaaW.PrintWords
theorem laminaref24_Decode.calls (k : Nat) (A0 : Option Addr) (c0 : Nat) (l0 : List Int) (a1 : Int) (r1 r2 r3 r4 r5 : Int) (r6 : ByteArray) (r7 r8 : Int) (w : World) (hr0 : Kd.C (Kd.int .u8) w A0 l0.length l0) (hc0 : l0.length ≤ c0) (h : laminaref24_Decode.f k l0 a1 = some (r1, r2, r3, r4, r5, r6, r7, r8)) :
    Calls Try.prog 12 #[.slice A0 l0.length c0, .int .i64 a1] w fun e w' => e = .returned (.tuple #[.agg #[.int .i64 r1, .int .i64 r2, .int .i64 r3, .int .i64 r4, .int .i64 r5, .string r6], .int .i64 r7, .int .i64 r8]) ∧ Below w.heap.size w w' :=
  rdecode_calls k A0 c0 l0 a1 (r1, r2, r3, r4, r5, r6, r7, r8) w hr0 hc0 h
end Go.Proofs.Ytfkgpmidcbjlbaa.P
end
section
set_option linter.unusedVariables false
set_option linter.unusedSimpArgs false
-- Written by a program of this session (a printer of walks).
namespace Go.Proofs.Ytfkgpmidcbjlbaa.P
open Go.RowKit Go.Proofs.YtfkgpmidcbjlbaaW.PrintWords Go.Proofs.YtfkgpmidcbjlbaaW.PrintLast Go.Proofs.YtfkgpmidcbjlbaaW.PrintMore
attribute [local go_sem] max2_int min2_int max_two min_two max_three min_three max_four min_four   -- for this text's walks alone
set_option linter.unusedVariables false
set_option linter.unusedSimpArgs false

/-! ### laminaref24_body: function 29 -/
def laminaref24_body.l0 : Nat → List Int → List Int → Int → Int → Int → Int → Int → Int → ByteArray → Option (List Int)
  | 0, _, _, _, _, _, _, _, _, _ => none
  | k + 1, x3, x4, x5, x358000, x358001, x358002, x358003, x358004, x358005 => if x5 < (x3.length : Int) then (if 0 ≤ x5 then ((laminaref01_Encode.f k (rd x3 x5)).bind fun t362 => (if x4.length + t362.length < 140737488355328 then (laminaref24_body.l0 k x3 (x4 ++ t362) (wrap64 (x5 + 1)) x358000 x358001 x358002 x358003 x358004 x358005) else (none))) else (none)) else (if x4.length + x358005.size < 140737488355328 then (some (x4 ++ bytesOf x358005)) else (none))
def laminaref24_body.f (k : Nat) (a0_0 : Int) (a0_1 : Int) (a0_2 : Int) (a0_3 : Int) (a0_4 : Int) (a0_5 : ByteArray) : Option (List Int) := laminaref24_body.l0 k (([IntKind.u64.wrap (a0_0), IntKind.u64.wrap (a0_1), IntKind.u64.wrap (a0_2), IntKind.u64.wrap (a0_3), IntKind.u64.wrap (a0_4), IntKind.u64.wrap ((a0_5.size : Int))] : List Int)) ([] : List Int) 0 a0_0 a0_1 a0_2 a0_3 a0_4 a0_5
theorem laminaref24_body.mono_l : ∀ k, (∀ y0 y1 y2 y3 y4 y5 y6 y7 y8, LeO (laminaref24_body.l0 k y0 y1 y2 y3 y4 y5 y6 y7 y8) (laminaref24_body.l0 (k + 1) y0 y1 y2 y3 y4 y5 y6 y7 y8))
  | 0 => fun _ _ _ _ _ _ _ _ _ r h => by simp [laminaref24_body.l0] at h
  | k + 1 => by
    have ih0 := laminaref24_body.mono_l k
    · intro y0 y1 y2 y3 y4 y5 y6 y7 y8
      unfold laminaref24_body.l0
      repeat' first
      | (with_reducible exact ih0 _ _ _ _ _ _ _ _ _)
      | (with_reducible exact laminaref01_Encode.mono _ _)
      | (with_reducible exact LeO.refl _)
      | (with_reducible exact LeO.none _)
      | (with_reducible refine LeO.ite ?_ ?_)
      | (with_reducible refine LeO.bind ?_ (fun _ => ?_))
      | exact ih0 _ _ _ _ _ _ _ _ _
      | exact laminaref01_Encode.mono _ _
      | exact LeO.none _
      | refine LeO.ite ?_ ?_
      | refine LeO.bind ?_ (fun _ => ?_)
theorem laminaref24_body.mono : ∀ a0 a1 a2 a3 a4 a5 k, LeO (laminaref24_body.f k a0 a1 a2 a3 a4 a5) (laminaref24_body.f (k + 1) a0 a1 a2 a3 a4 a5) := by
  intro a0 a1 a2 a3 a4 a5 k
  have ih0 := laminaref24_body.mono_l k
  unfold laminaref24_body.f
  repeat' first
      | (with_reducible exact ih0 _ _ _ _ _ _ _ _ _)
      | (with_reducible exact laminaref01_Encode.mono _ _)
      | (with_reducible exact LeO.refl _)
      | (with_reducible exact LeO.none _)
      | (with_reducible refine LeO.ite ?_ ?_)
      | (with_reducible refine LeO.bind ?_ (fun _ => ?_))
      | exact ih0 _ _ _ _ _ _ _ _ _
      | exact laminaref01_Encode.mono _ _
      | exact LeO.none _
      | refine LeO.ite ?_ ?_
      | refine LeO.bind ?_ (fun _ => ?_)
set_option maxHeartbeats 8000000 in
set_option maxRecDepth 100000 in
theorem laminaref24_body.calls (k : Nat) (a0_0 : Int) (a0_1 : Int) (a0_2 : Int) (a0_3 : Int) (a0_4 : Int) (a0_5 : ByteArray) (r : List Int) (w : World) (h : laminaref24_body.f k a0_0 a0_1 a0_2 a0_3 a0_4 a0_5 = some r) :
    Calls Try.prog 29 #[.agg #[.int .i64 a0_0, .int .i64 a0_1, .int .i64 a0_2, .int .i64 a0_3, .int .i64 a0_4, .string a0_5]] w fun e w' => ∃ v0_ : Value, e = .returned (v0_) ∧ Kd.R (Kd.int .u8) 5 w' w.heap.size (fun _ => True) v0_ r ∧ Below w.heap.size w w' := by
  have hu23 := Try.underlying23
  have HB := Aside0.mk (Below.refl w.heap.size w)
  have H : (laminaref24_body.l0 k (([IntKind.u64.wrap (a0_0), IntKind.u64.wrap (a0_1), IntKind.u64.wrap (a0_2), IntKind.u64.wrap (a0_3), IntKind.u64.wrap (a0_4), IntKind.u64.wrap ((a0_5.size : Int))] : List Int)) ([] : List Int) 0 a0_0 a0_1 a0_2 a0_3 a0_4 a0_5) = some r := h
  clear h
  obtain ⟨y358, hy358⟩ : ∃ y_ : List Int, y_ = (([IntKind.u64.wrap (a0_0), IntKind.u64.wrap (a0_1), IntKind.u64.wrap (a0_2), IntKind.u64.wrap (a0_3), IntKind.u64.wrap (a0_4), IntKind.u64.wrap ((a0_5.size : Int))] : List Int)) := ⟨_, rfl⟩
  replace H : (laminaref24_body.l0 k y358 ([] : List Int) 0 a0_0 a0_1 a0_2 a0_3 a0_4 a0_5) = some r := by first | (rw [hy358]; with_reducible exact H) | (have H2_ := (Option.bind_some _ _).symm.trans H; rw [hy358]; with_reducible exact H2_) | (have H2_ := (Option.bind_some _ _).symm.trans H; with_reducible exact H2_) | with_reducible exact H | (rw [hy358]; exact H) | exact H
  have Ny358 := Aside0.mk hy358
  clear hy358
  have H' := Aside0.mk H
  clear H
  go_enter Try.func29, Try.ntmps29
  go_wp2_with (first | ((with_reducible refine gate_dst (N := 1) rfl ?_); refine box_event ?hg (N := 1) ?hd (cs := #[.int .i64 a0_0, .int .i64 a0_1, .int .i64 a0_2, .int .i64 a0_3, .int .i64 a0_4, .string a0_5]) (t := 23) ?hr ?_; (case hd => rfl); (case hg => rfl); (case hr => first | (go_simp; done) | (go_simp; rfl)); intro gb357 hg w2 hbox hb; have n0_ := Aside0.mk (below_step (by repeat (first | (with_reducible first | exact HB.out | apply below_alloc | apply pw_below_drewN | apply below_drew1) | exact HB.out)) hb); have n1_ := Aside0.mk (hbox); have n2_ := Aside0.mk ((by rw [hg]; exact (below_size (by repeat (first | (with_reducible first | exact HB.out | apply below_alloc | apply pw_below_drewN | apply below_drew1) | exact HB.out))) : w.heap.size ≤ gb357)); have n3_ := Aside0.mk ((by rw [hg]; exact (below_size (by repeat (first | (with_reducible first | exact HB.out | apply below_alloc | apply pw_below_drewN | apply below_drew1) | exact HB.out))) : w.heap.size ≤ gb357)); clear HB; have HB := n0_; have BK357 := n1_; have GW357 := n2_; have GE357 := n3_; clear n0_ n1_ n2_ n3_; clear hb hbox hg; have hcz3_0 : w2.cell? ⟨gb357, 0, none⟩ = some (.int .i64 a0_0) := (blk_cell BK357.out 0).trans rfl; have hcz3_1 : w2.cell? ⟨gb357, 1, none⟩ = some (.int .i64 a0_1) := (blk_cell BK357.out 1).trans rfl; have hcz3_2 : w2.cell? ⟨gb357, 2, none⟩ = some (.int .i64 a0_2) := (blk_cell BK357.out 2).trans rfl; have hcz3_3 : w2.cell? ⟨gb357, 3, none⟩ = some (.int .i64 a0_3) := (blk_cell BK357.out 3).trans rfl; have hcz3_4 : w2.cell? ⟨gb357, 4, none⟩ = some (.int .i64 a0_4) := (blk_cell BK357.out 4).trans rfl; have hcz3_5 : w2.cell? ⟨gb357, 5, none⟩ = some (.string a0_5) := (blk_cell BK357.out 5).trans rfl; have hfz3_0 := blk_frozen BK357.out 0; have hfz3_1 := blk_frozen BK357.out 1; have hfz3_2 := blk_frozen BK357.out 2; have hfz3_3 := blk_frozen BK357.out 3; have hfz3_4 := blk_frozen BK357.out 4; have hfz3_5 := blk_frozen BK357.out 5) | ((with_reducible refine gate_dst (N := 25) rfl ?_); refine Kd.R_lit (Kd.int .u64) _ 57 ?hg (N := 25) ?hd (xs := ([IntKind.u64.wrap (a0_0), IntKind.u64.wrap (a0_1), IntKind.u64.wrap (a0_2), IntKind.u64.wrap (a0_3), IntKind.u64.wrap (a0_4), IntKind.u64.wrap ((a0_5.size : Int))] : List Int)) (inner := [.int .u64 (IntKind.u64.wrap (a0_0)), .int .u64 (IntKind.u64.wrap (a0_1)), .int .u64 (IntKind.u64.wrap (a0_2)), .int .u64 (IntKind.u64.wrap (a0_3)), .int .u64 (IntKind.u64.wrap (a0_4)), .int .u64 (IntKind.u64.wrap ((a0_5.size : Int)))]) (ok := fun _ => True) (okp := fun _ => True) ?hr ?hp (fun _ hk => hk) trivial (Below.refl _ _) (Nat.le_refl _) (by simp) ?_; (case hd => rfl); (case hg => rfl); (case hr => first | (go_simp; done) | (go_simp; rfl)); (case hp => exact (Reps.one (show Kd.M (Kd.int .u64) _ _ _ (IntKind.u64.wrap (a0_0)) [.int .u64 (IntKind.u64.wrap (a0_0))] from rfl) (Reps.one (show Kd.M (Kd.int .u64) _ _ _ (IntKind.u64.wrap (a0_1)) [.int .u64 (IntKind.u64.wrap (a0_1))] from rfl) (Reps.one (show Kd.M (Kd.int .u64) _ _ _ (IntKind.u64.wrap (a0_2)) [.int .u64 (IntKind.u64.wrap (a0_2))] from rfl) (Reps.one (show Kd.M (Kd.int .u64) _ _ _ (IntKind.u64.wrap (a0_3)) [.int .u64 (IntKind.u64.wrap (a0_3))] from rfl) (Reps.one (show Kd.M (Kd.int .u64) _ _ _ (IntKind.u64.wrap (a0_4)) [.int .u64 (IntKind.u64.wrap (a0_4))] from rfl) (Reps.one (show Kd.M (Kd.int .u64) _ _ _ (IntKind.u64.wrap ((a0_5.size : Int))) [.int .u64 (IntKind.u64.wrap ((a0_5.size : Int)))] from rfl) (Reps.none _ _)))))))); intro v359 w4 ho5 hb hg_ hnew_; clear hg_ hnew_; (first | rw [← Ny358.out] at ho5 | (simp only [Int.reduceToNat] at ho5; rw [← Ny358.out] at ho5)); have n0_ := Aside0.mk (Kd.R_lower ho5 (below_size (by repeat (first | (with_reducible first | exact HB.out | apply below_alloc | apply pw_below_drewN | apply below_drew1 | refine below_set ?_ GE357.out) | exact HB.out)))); have n1_ := Aside0.mk (blk_below (g := gb357) (o := .cells #[.int .i64 a0_0, .int .i64 a0_1, .int .i64 a0_2, .int .i64 a0_3, .int .i64 a0_4, .string a0_5] 23 (0, 0)) (by (with_reducible repeat (first | refine blk_drewN ?_ _ | refine blk_drew ?_ | refine blk_alloc ?_ _)); exact BK357.out) hb); have n2_ := Aside0.mk (below_step (by repeat (first | (with_reducible first | exact HB.out | apply below_alloc | apply pw_below_drewN | apply below_drew1 | refine below_set ?_ GE357.out) | exact HB.out)) hb); clear BK357; clear HB; have HO360 := n0_; have BK357 := n1_; have HB := n2_; clear n0_ n1_ n2_; clear hb ho5))
  go_loopg [4, 5] k (fun kq v4 v5 w' => ∃ (x4_1 : List Int) (x5_1 : Int), v5 = .int .i64 x5_1 ∧ Aside0 (laminaref24_body.l0 kq y358 x4_1 x5_1 a0_0 a0_1 a0_2 a0_3 a0_4 a0_5 = some r) ∧ Aside0 (kq ≤ k) ∧ Aside0 (Kd.R (Kd.int .u64) 57 w' w.heap.size (fun _ => True) v359 y358) ∧ Aside0 (Kd.R (Kd.int .u8) 5 w' w.heap.size (fun _ => True) v4 x4_1) ∧ Aside0 (w'.heap[gb357]? = some (.cells #[.int .i64 a0_0, .int .i64 a0_1, .int .i64 a0_2, .int .i64 a0_3, .int .i64 a0_4, .string a0_5] 23 (0, 0))) ∧ Aside0 (Below w.heap.size w w'))
  case atStart => exact ⟨(([] : List Int)), (0), (by first | rfl | (simp; done) | (simp [*]; done)), H', ⟨Nat.le_refl _⟩, ⟨by (with_reducible repeat (first | apply Kd.R_alloc | apply Kd.R_drewN | apply Kd.R_drew)); exact HO360.out⟩, ⟨by first | exact Kd.R_nil _ _ _ _ _ | exact Kd.N_nil _ _ _ _ _ | exact Kd.V_nil _ _ _ _ _ | exact Kd.Q_nil _ _ _ _ _ | exact Kd.S_nil _ _ _ _ _⟩, ⟨by (with_reducible repeat (first | refine blk_drewN ?_ _ | refine blk_drew ?_ | refine blk_alloc ?_ _)); exact BK357.out⟩, ⟨by repeat (first | (with_reducible first | exact HB.out | apply below_alloc | apply pw_below_drewN | apply below_drew1 | refine below_set ?_ GE357.out) | exact HB.out)⟩⟩
  case round =>
    clear H'
    try clear c2
    try clear p2
    try clear hcz3_0
    try clear hcz3_1
    try clear hcz3_2
    try clear hcz3_3
    try clear hcz3_4
    try clear hcz3_5
    try clear hfz3_0
    try clear hfz3_1
    try clear hfz3_2
    try clear hfz3_3
    try clear hfz3_4
    try clear hfz3_5
    obtain ⟨x4_1, x5_1, rfl, HA, HK1, HO_3, HO_4, BK357, HB⟩ := hrel
    cases gk with
    | zero => exact absurd HA.out (by simp [laminaref24_body.l0])
    | succ k1 =>
      have H := HA.out
      clear HA
      simp only [laminaref24_body.l0] at H
      by_cases c6 : x5_1 < (y358.length : Int)
      · rw [if_pos c6] at H
        have c6b0 : decide (x5_1 < (y358.length : Int)) = true := decide_eq_true c6
        clear c6
        by_cases c7 : 0 ≤ x5_1
        · rw [if_pos c7] at H
          have c7b0 : decide (0 ≤ x5_1) = true := decide_eq_true c7
          clear c7
          replace H := Option.bind_eq_some_iff.mp H
          obtain ⟨t362, A80, H⟩ := H
          replace H : (if x4_1.length + t362.length < 140737488355328 then (laminaref24_body.l0 k1 y358 (x4_1 ++ t362) (wrap64 (x5_1 + 1)) a0_0 a0_1 a0_2 a0_3 a0_4 a0_5) else (none)) = some r := H
          have A8 := Aside0.mk A80
          clear A80
          by_cases c9 : x4_1.length + t362.length < 140737488355328
          · rw [if_pos c9] at H
            have LMc9 := Aside0.mk c9
            clear c9
            obtain ⟨y365, hy365⟩ : ∃ y_ : List Int, y_ = (x4_1 ++ t362) := ⟨_, rfl⟩
            replace H : (laminaref24_body.l0 k1 y358 y365 (wrap64 (x5_1 + 1)) a0_0 a0_1 a0_2 a0_3 a0_4 a0_5) = some r := by first | (rw [hy365]; with_reducible exact H) | (have H2_ := (Option.bind_some _ _).symm.trans H; rw [hy365]; with_reducible exact H2_) | (have H2_ := (Option.bind_some _ _).symm.trans H; with_reducible exact H2_) | with_reducible exact H | (rw [hy365]; exact H) | exact H
            have Ny365 := Aside0.mk hy365
            clear hy365
            have H' := Aside0.mk H
            clear H
            obtain ⟨Ao10, co10, eo10⟩ := Kd.R_slice HO_3.out
            subst eo10
            have p361 : 0 ≤ (x5_1 : Int) := of_decide_eq_true (by first | (with_reducible assumption) | assumption)
            have q361 : x5_1 < (y358.length : Int) := of_decide_eq_true (by first | (with_reducible assumption) | assumption)
            obtain ⟨ad361, e361, hx361_0⟩ := Kd.at_int (Kd.R_reads' HO_3.out).2.2 x5_1 p361 q361
            cases e361
            replace p361 := eq_true p361
            replace q361 := eq_true q361
            go_wp2_with (first | ((with_reducible refine gate_callee (f := 30) rfl ?_); refine goesL_ (some 37) rfl rfl Try.func30 (by kernel_rfl) rfl #[.int .u64 (rd y358 x5_1)] rfl (by (try simp only [List.map_toArray, List.map_cons, List.map_nil]); first | done | rfl | (simp only [List.length_drop, List.length_take]; rfl)) ?_; (with_reducible refine (laminaref01_Encode.calls k1 (rd y358 x5_1) t362 _ A8.out).mono ?_); rintro e w11 ⟨v363, rfl, ho0, hb⟩; refine ⟨_, rfl, ?_⟩; have n0_ := Aside0.mk (Kd.R_below (by (with_reducible repeat (first | apply Kd.R_alloc | apply Kd.R_drewN | apply Kd.R_drew)); exact HO_3.out) hb); have n1_ := Aside0.mk (Kd.R_elder' (by (with_reducible repeat (first | apply Kd.R_alloc | apply Kd.R_drewN | apply Kd.R_drew)); exact HO_4.out) (Kd.R_base ho0) hb); have n2_ := Aside0.mk (Kd.R_lower (Kd.R_new' ho0 (Kd.R_lt (by (with_reducible repeat (first | apply Kd.R_alloc | apply Kd.R_drewN | apply Kd.R_drew)); exact HO_4.out))) (below_size (by repeat (first | (with_reducible first | exact HB.out | apply below_alloc | apply pw_below_drewN | apply below_drew1 | refine below_set ?_ GE357.out) | exact HB.out)))); have n3_ := Aside0.mk (blk_below (g := gb357) (o := .cells #[.int .i64 a0_0, .int .i64 a0_1, .int .i64 a0_2, .int .i64 a0_3, .int .i64 a0_4, .string a0_5] 23 (0, 0)) (by (with_reducible repeat (first | refine blk_drewN ?_ _ | refine blk_drew ?_ | refine blk_alloc ?_ _)); exact BK357.out) hb); have n4_ := Aside0.mk (below_step (by repeat (first | (with_reducible first | exact HB.out | apply below_alloc | apply pw_below_drewN | apply below_drew1 | refine below_set ?_ GE357.out) | exact HB.out)) hb); clear HO_3; clear HO_4; clear BK357; clear HB; have HO_3 := n0_; have HO_4 := n1_; have HO364 := n2_; have BK357 := n3_; have HB := n4_; clear n0_ n1_ n2_ n3_ n4_; (try clear hb); (try clear hb2); (try clear hk); (try clear hi); (try clear ho0); obtain ⟨Ao13, co13, eo13⟩ := Kd.R_slice HO364.out; subst eo13) | ((with_reducible refine gate_builtin (b := .append) (xs := #[.tmp 32, .tmp 37]) rfl ?_); at_builtin; refine Kd.R_append_rows (Kd.int .u8) (w0 := w) w.heap.size rfl (.tmp 32) (.tmp 37) 24 5 (.int .u8 0) 1 rfl Try.underlying24 info5 rfl (by decide) (by omega) u4 x4_1 t362 _ _ _ (fun k_ => some k_ ≠ (.slice Ao13 t362.length co13 : Value).ownBlock) (fun _ => False) rfl rfl ?aO ?aR (fun _ _ h => h) (fun _ h => h.elim) ?aF ?aB ?aS ?aL ?_; (case aR => repeat (first | exact (Kd.R_reads' HO364.out).2.2 | (with_reducible refine Kd.C_alloc ?_ _) | (with_reducible refine Kd.C_drewN ?_ _) | (with_reducible refine Kd.C_drew ?_))); (case aB => exact (by repeat (first | (with_reducible first | exact HB.out | apply below_alloc | apply pw_below_drewN | apply below_drew1 | refine below_set ?_ GE357.out) | exact HB.out))); (case aF => exact (fun k_ hk => Kd.fresh' (Kd.R_lt (by (with_reducible repeat (first | apply Kd.R_alloc | apply Kd.R_drewN | apply Kd.R_drew)); exact HO364.out)) k_ hk)); (case aO => exact (by (with_reducible repeat (first | apply Kd.R_alloc | apply Kd.R_drewN | apply Kd.R_drew)); exact Kd.R_mono HO_4.out (fun _ hk => hk.2))); (case aS => exact (below_size (by repeat (first | (with_reducible first | exact HB.out | apply below_alloc | apply pw_below_drewN | apply below_drew1 | refine below_set ?_ GE357.out) | exact HB.out)))); (case aL => have := LMc9.out; omega); intro v366 w12 ho hb hg hat; rw [← Ny365.out] at ho; have n0_ := Aside0.mk (Kd.R_over' (by (with_reducible repeat (first | apply Kd.R_alloc | apply Kd.R_drewN | apply Kd.R_drew)); exact HO_3.out) (Kd.R_typed (by (with_reducible repeat (first | apply Kd.R_alloc | apply Kd.R_drewN | apply Kd.R_drew)); exact HO_4.out)) (by decide) hg); have n1_ := Aside0.mk (blk_grown (g := gb357) (o := .cells #[.int .i64 a0_0, .int .i64 a0_1, .int .i64 a0_2, .int .i64 a0_3, .int .i64 a0_4, .string a0_5] 23 (0, 0)) (by (with_reducible repeat (first | refine blk_drewN ?_ _ | refine blk_drew ?_ | refine blk_alloc ?_ _)); exact BK357.out) hg (Kd.R_ne HO_4.out BK357.out (by decide))); have n2_ := Aside0.mk (Kd.R_after (ok := (fun _ => True)) (by (with_reducible repeat (first | apply Kd.R_alloc | apply Kd.R_drewN | apply Kd.R_drew)); exact HO364.out) hg hat); have n3_ := Aside0.mk (hb); have n4_ := Aside0.mk (ho); clear HO_3; clear BK357; clear HO364; clear HB; clear HO_4; have HO_3 := n0_; have BK357 := n1_; have HO364 := n2_; have HB := n3_; have HO367 := n4_; clear n0_ n1_ n2_ n3_ n4_; clear ho hb hg hat))
            go_roundg k1
            case measure => have := HK1.out; omega
            case rel => exact ⟨(y365), (wrap64 (x5_1 + 1)), (by first | rfl | (simp; done) | (simp [*]; done)), H', ⟨by have := HK1.out; omega⟩, ⟨by (with_reducible repeat (first | apply Kd.R_alloc | apply Kd.R_drewN | apply Kd.R_drew)); exact HO_3.out⟩, ⟨by (with_reducible repeat (first | apply Kd.R_alloc | apply Kd.R_drewN | apply Kd.R_drew)); exact Kd.R_mono HO367.out (fun _ hk => trivial)⟩, ⟨by (with_reducible repeat (first | refine blk_drewN ?_ _ | refine blk_drew ?_ | refine blk_alloc ?_ _)); exact BK357.out⟩, ⟨by repeat (first | (with_reducible first | exact HB.out | apply below_alloc | apply pw_below_drewN | apply below_drew1 | refine below_set ?_ GE357.out) | exact HB.out)⟩⟩
          · rw [if_neg c9] at H
            exact absurd H (by simp)
        · rw [if_neg c7] at H
          exact absurd H (by simp)
      · rw [if_neg c6] at H
        have c6b0 : decide (x5_1 < (y358.length : Int)) = false := decide_eq_false c6
        clear c6
        by_cases c14 : x4_1.length + a0_5.size < 140737488355328
        · rw [if_pos c14] at H
          have LMc14 := Aside0.mk c14
          clear c14
          obtain ⟨y368, hy368⟩ : ∃ y_ : List Int, y_ = (x4_1 ++ bytesOf a0_5) := ⟨_, rfl⟩
          replace H : (some y368) = some r := by first | (rw [hy368]; with_reducible exact H) | (have H2_ := (Option.bind_some _ _).symm.trans H; rw [hy368]; with_reducible exact H2_) | (have H2_ := (Option.bind_some _ _).symm.trans H; with_reducible exact H2_) | with_reducible exact H | (rw [hy368]; exact H) | exact H
          have Ny368 := Aside0.mk hy368
          clear hy368
          obtain rfl := Option.some.inj H
          obtain ⟨Ao15, co15, eo15⟩ := Kd.R_slice HO_3.out
          subst eo15
          have hcz16_0 : wr.cell? ⟨gb357, 0, none⟩ = some (.int .i64 a0_0) := (blk_cell BK357.out 0).trans rfl
          have hcz16_1 : wr.cell? ⟨gb357, 1, none⟩ = some (.int .i64 a0_1) := (blk_cell BK357.out 1).trans rfl
          have hcz16_2 : wr.cell? ⟨gb357, 2, none⟩ = some (.int .i64 a0_2) := (blk_cell BK357.out 2).trans rfl
          have hcz16_3 : wr.cell? ⟨gb357, 3, none⟩ = some (.int .i64 a0_3) := (blk_cell BK357.out 3).trans rfl
          have hcz16_4 : wr.cell? ⟨gb357, 4, none⟩ = some (.int .i64 a0_4) := (blk_cell BK357.out 4).trans rfl
          have hcz16_5 : wr.cell? ⟨gb357, 5, none⟩ = some (.string a0_5) := (blk_cell BK357.out 5).trans rfl
          have hfz16_0 := blk_frozen BK357.out 0
          have hfz16_1 := blk_frozen BK357.out 1
          have hfz16_2 := blk_frozen BK357.out 2
          have hfz16_3 := blk_frozen BK357.out 3
          have hfz16_4 := blk_frozen BK357.out 4
          have hfz16_5 := blk_frozen BK357.out 5
          go_wp2_with (first | (at_builtin; refine print_append_str (w0 := w) w.heap.size rfl (.tmp 39) _ 24 9 5 rfl Try.underlying24 Try.underlying9 info5 u4 x4_1 a0_5 rfl rfl ?aO ?aB ?aS ?aL ?_; (case aB => exact (by repeat (first | (with_reducible first | exact HB.out | apply below_alloc | apply pw_below_drewN | apply below_drew1 | refine below_set ?_ GE357.out) | exact HB.out))); (case aO => exact (Kd.own_of_R (by (with_reducible repeat (first | apply Kd.R_alloc | apply Kd.R_drewN | apply Kd.R_drew)); exact HO_4.out))); (case aS => exact (below_size (by repeat (first | (with_reducible first | exact HB.out | apply below_alloc | apply pw_below_drewN | apply below_drew1 | refine below_set ?_ GE357.out) | exact HB.out)))); (case aL => have := LMc14.out; omega); intro v369 w17 ho0 hb hg; have ho := Kd.R_of_own (h1 := fun _ => rfl) (ok := fun _ => True) ho0 (fun _ _ => trivial); clear ho0; have hat := True.intro; rw [← Ny368.out] at ho; change Kd.R (Kd.int .u8) 5 w17 w.heap.size (fun _ => True) v369 y368 at ho; have n0_ := Aside0.mk (Kd.R_over' (by (with_reducible repeat (first | apply Kd.R_alloc | apply Kd.R_drewN | apply Kd.R_drew)); exact HO_3.out) (Kd.R_typed (by (with_reducible repeat (first | apply Kd.R_alloc | apply Kd.R_drewN | apply Kd.R_drew)); exact HO_4.out)) (by decide) hg); have n1_ := Aside0.mk (blk_grown (g := gb357) (o := .cells #[.int .i64 a0_0, .int .i64 a0_1, .int .i64 a0_2, .int .i64 a0_3, .int .i64 a0_4, .string a0_5] 23 (0, 0)) (by (with_reducible repeat (first | refine blk_drewN ?_ _ | refine blk_drew ?_ | refine blk_alloc ?_ _)); exact BK357.out) hg (Kd.R_ne HO_4.out BK357.out (by decide))); have n2_ := Aside0.mk (hb); have n3_ := Aside0.mk (ho); clear HO_3; clear BK357; clear HB; clear HO_4; have HO_3 := n0_; have BK357 := n1_; have HB := n2_; have HO370 := n3_; clear n0_ n1_ n2_ n3_; clear ho hb hg hat))
          go_ret
          exact ⟨_, by first | rfl | (simp [errW_none, errW_some] <;> rfl) | (simp [*, errW_none, errW_some] <;> rfl), by (with_reducible repeat (first | apply Kd.R_alloc | apply Kd.R_drewN | apply Kd.R_drew)); exact HO370.out, by repeat (first | (with_reducible first | exact HB.out | apply below_alloc | apply pw_below_drewN | apply below_drew1 | refine below_set ?_ GE357.out) | exact HB.out)⟩
        · rw [if_neg c14] at H
          exact absurd H (by simp)

end Go.Proofs.Ytfkgpmidcbjlbaa.P
end
section
set_option linter.unusedVariables false
set_option linter.unusedSimpArgs false
-- Written by a program of this session (a printer of walks).
namespace Go.Proofs.Ytfkgpmidcbjlbaa.P
open Go.RowKit Go.Proofs.YtfkgpmidcbjlbaaW.PrintWords Go.Proofs.YtfkgpmidcbjlbaaW.PrintLast Go.Proofs.YtfkgpmidcbjlbaaW.PrintMore
attribute [local go_sem] max2_int min2_int max_two min_two max_three min_three max_four min_four   -- for this text's walks alone
set_option linter.unusedVariables false
set_option linter.unusedSimpArgs false

/-! ### laminaref24_Encode: function 10 -/
def laminaref24_Encode.f (k : Nat) (a0_0 : Int) (a0_1 : Int) (a0_2 : Int) (a0_3 : Int) (a0_4 : Int) (a0_5 : ByteArray) : Option (List Int × Int) := (laminaref24_Valid.f k a0_0 a0_1 a0_2 a0_3 a0_4 a0_5).bind fun t372 => (if t372 = true then ((laminaref24_body.f k a0_0 a0_1 a0_2 a0_3 a0_4 a0_5).bind fun t373 => ((laminaref01_Encode.f k (IntKind.u64.wrap ((t373.length : Int)))).bind fun t376 => (if t376.length + t373.length < 140737488355328 then ((some (t376 ++ t373 : List Int)).bind fun y379 => ((laminaref24_sum.f k t373).bind fun t382 => (if y379.length + t382.length < 140737488355328 then (some ((y379 ++ t382), 0)) else (none)))) else (none)))) else (some (([] : List Int), 1)))
theorem laminaref24_Encode.mono : ∀ a0 a1 a2 a3 a4 a5 k, LeO (laminaref24_Encode.f k a0 a1 a2 a3 a4 a5) (laminaref24_Encode.f (k + 1) a0 a1 a2 a3 a4 a5) := by
  intro a0 a1 a2 a3 a4 a5 k
  unfold laminaref24_Encode.f
  repeat' first
      | (with_reducible exact laminaref01_Encode.mono _ _)
      | (with_reducible exact laminaref24_Valid.mono _ _ _ _ _ _ _)
      | (with_reducible exact laminaref24_body.mono _ _ _ _ _ _ _)
      | (with_reducible exact laminaref24_sum.mono _ _)
      | (with_reducible exact LeO.refl _)
      | (with_reducible exact LeO.none _)
      | (with_reducible refine LeO.ite ?_ ?_)
      | (with_reducible refine LeO.bind ?_ (fun _ => ?_))
      | exact laminaref01_Encode.mono _ _
      | exact laminaref24_Valid.mono _ _ _ _ _ _ _
      | exact laminaref24_body.mono _ _ _ _ _ _ _
      | exact laminaref24_sum.mono _ _
      | exact LeO.none _
      | refine LeO.ite ?_ ?_
      | refine LeO.bind ?_ (fun _ => ?_)
set_option maxHeartbeats 8000000 in
set_option maxRecDepth 100000 in
theorem laminaref24_Encode.calls (k : Nat) (a0_0 : Int) (a0_1 : Int) (a0_2 : Int) (a0_3 : Int) (a0_4 : Int) (a0_5 : ByteArray) (r1 : List Int) (r2 : Int) (w : World) (h : laminaref24_Encode.f k a0_0 a0_1 a0_2 a0_3 a0_4 a0_5 = some (r1, r2)) :
    Calls Try.prog 10 #[.agg #[.int .i64 a0_0, .int .i64 a0_1, .int .i64 a0_2, .int .i64 a0_3, .int .i64 a0_4, .string a0_5]] w fun e w' => ∃ v0_ : Value, e = .returned (.tuple #[v0_, .int .i64 r2]) ∧ Kd.R (Kd.int .u8) 5 w' w.heap.size (fun _ => True) v0_ r1 ∧ Below w.heap.size w w' := by
  have hu23 := Try.underlying23
  have HB := Aside0.mk (Below.refl w.heap.size w)
  have H : ((laminaref24_Valid.f k a0_0 a0_1 a0_2 a0_3 a0_4 a0_5).bind fun t372 => (if t372 = true then ((laminaref24_body.f k a0_0 a0_1 a0_2 a0_3 a0_4 a0_5).bind fun t373 => ((laminaref01_Encode.f k (IntKind.u64.wrap ((t373.length : Int)))).bind fun t376 => (if t376.length + t373.length < 140737488355328 then ((some (t376 ++ t373 : List Int)).bind fun y379 => ((laminaref24_sum.f k t373).bind fun t382 => (if y379.length + t382.length < 140737488355328 then (some ((y379 ++ t382), 0)) else (none)))) else (none)))) else (some (([] : List Int), 1)))) = some (r1, r2) := h
  clear h
  replace H := Option.bind_eq_some_iff.mp H
  obtain ⟨t372, A20, H⟩ := H
  replace H : (if t372 = true then ((laminaref24_body.f k a0_0 a0_1 a0_2 a0_3 a0_4 a0_5).bind fun t373 => ((laminaref01_Encode.f k (IntKind.u64.wrap ((t373.length : Int)))).bind fun t376 => (if t376.length + t373.length < 140737488355328 then ((some (t376 ++ t373 : List Int)).bind fun y379 => ((laminaref24_sum.f k t373).bind fun t382 => (if y379.length + t382.length < 140737488355328 then (some ((y379 ++ t382), 0)) else (none)))) else (none)))) else (some (([] : List Int), 1))) = some (r1, r2) := H
  have A2 := Aside0.mk A20
  clear A20
  by_cases c3 : t372 = true
  · subst c3
    have H1 : ((laminaref24_body.f k a0_0 a0_1 a0_2 a0_3 a0_4 a0_5).bind fun t373 => ((laminaref01_Encode.f k (IntKind.u64.wrap ((t373.length : Int)))).bind fun t376 => (if t376.length + t373.length < 140737488355328 then ((some (t376 ++ t373 : List Int)).bind fun y379 => ((laminaref24_sum.f k t373).bind fun t382 => (if y379.length + t382.length < 140737488355328 then (some ((y379 ++ t382), 0)) else (none)))) else (none)))) = some (r1, r2) := by rw [if_pos rfl] at H; exact H
    clear H
    have H := H1
    clear H1
    replace H := Option.bind_eq_some_iff.mp H
    obtain ⟨t373, A40, H⟩ := H
    replace H : ((laminaref01_Encode.f k (IntKind.u64.wrap ((t373.length : Int)))).bind fun t376 => (if t376.length + t373.length < 140737488355328 then ((some (t376 ++ t373 : List Int)).bind fun y379 => ((laminaref24_sum.f k t373).bind fun t382 => (if y379.length + t382.length < 140737488355328 then (some ((y379 ++ t382), 0)) else (none)))) else (none))) = some (r1, r2) := H
    have A4 := Aside0.mk A40
    clear A40
    replace H := Option.bind_eq_some_iff.mp H
    obtain ⟨t376, A50, H⟩ := H
    replace H : (if t376.length + t373.length < 140737488355328 then ((some (t376 ++ t373 : List Int)).bind fun y379 => ((laminaref24_sum.f k t373).bind fun t382 => (if y379.length + t382.length < 140737488355328 then (some ((y379 ++ t382), 0)) else (none)))) else (none)) = some (r1, r2) := H
    have A5 := Aside0.mk A50
    clear A50
    by_cases c6 : t376.length + t373.length < 140737488355328
    · rw [if_pos c6] at H
      have LMc6 := Aside0.mk c6
      clear c6
      obtain ⟨y379, hy379⟩ : ∃ y_ : List Int, y_ = (t376 ++ t373) := ⟨_, rfl⟩
      replace H : ((laminaref24_sum.f k t373).bind fun t382 => (if y379.length + t382.length < 140737488355328 then (some ((y379 ++ t382), 0)) else (none))) = some (r1, r2) := by first | (rw [hy379]; with_reducible exact H) | (have H2_ := (Option.bind_some _ _).symm.trans H; rw [hy379]; with_reducible exact H2_) | (have H2_ := (Option.bind_some _ _).symm.trans H; with_reducible exact H2_) | with_reducible exact H | (rw [hy379]; exact H) | exact H
      have Ny379 := Aside0.mk hy379
      clear hy379
      replace H := Option.bind_eq_some_iff.mp H
      obtain ⟨t382, A70, H⟩ := H
      replace H : (if y379.length + t382.length < 140737488355328 then (some ((y379 ++ t382), 0)) else (none)) = some (r1, r2) := H
      have A7 := Aside0.mk A70
      clear A70
      by_cases c8 : y379.length + t382.length < 140737488355328
      · rw [if_pos c8] at H
        have LMc8 := Aside0.mk c8
        clear c8
        obtain ⟨y385, hy385⟩ : ∃ y_ : List Int, y_ = (y379 ++ t382) := ⟨_, rfl⟩
        replace H : (some (y385, 0)) = some (r1, r2) := by first | (rw [hy385]; with_reducible exact H) | (have H2_ := (Option.bind_some _ _).symm.trans H; rw [hy385]; with_reducible exact H2_) | (have H2_ := (Option.bind_some _ _).symm.trans H; with_reducible exact H2_) | with_reducible exact H | (rw [hy385]; exact H) | exact H
        have Ny385 := Aside0.mk hy385
        clear hy385
        simp only [Option.some.injEq, Prod.mk.injEq] at H
        obtain ⟨rfl, rfl⟩ := H
        go_enter Try.func10, Try.ntmps10
        go_wp2_with (first | ((with_reducible refine gate_dst (N := 1) rfl ?_); refine box_event ?hg (N := 1) ?hd (cs := #[.int .i64 a0_0, .int .i64 a0_1, .int .i64 a0_2, .int .i64 a0_3, .int .i64 a0_4, .string a0_5]) (t := 23) ?hr ?_; (case hd => rfl); (case hg => rfl); (case hr => first | (go_simp; done) | (go_simp; rfl)); intro gb371 hg w9 hbox hb; have n0_ := Aside0.mk (below_step (by repeat (first | (with_reducible first | exact HB.out | apply below_alloc | apply pw_below_drewN | apply below_drew1) | exact HB.out)) hb); have n1_ := Aside0.mk (hbox); have n2_ := Aside0.mk ((by rw [hg]; exact (below_size (by repeat (first | (with_reducible first | exact HB.out | apply below_alloc | apply pw_below_drewN | apply below_drew1) | exact HB.out))) : w.heap.size ≤ gb371)); have n3_ := Aside0.mk ((by rw [hg]; exact (below_size (by repeat (first | (with_reducible first | exact HB.out | apply below_alloc | apply pw_below_drewN | apply below_drew1) | exact HB.out))) : w.heap.size ≤ gb371)); clear HB; have HB := n0_; have BK371 := n1_; have GW371 := n2_; have GE371 := n3_; clear n0_ n1_ n2_ n3_; clear hb hbox hg; have hcz10_0 : w9.cell? ⟨gb371, 0, none⟩ = some (.int .i64 a0_0) := (blk_cell BK371.out 0).trans rfl; have hcz10_1 : w9.cell? ⟨gb371, 1, none⟩ = some (.int .i64 a0_1) := (blk_cell BK371.out 1).trans rfl; have hcz10_2 : w9.cell? ⟨gb371, 2, none⟩ = some (.int .i64 a0_2) := (blk_cell BK371.out 2).trans rfl; have hcz10_3 : w9.cell? ⟨gb371, 3, none⟩ = some (.int .i64 a0_3) := (blk_cell BK371.out 3).trans rfl; have hcz10_4 : w9.cell? ⟨gb371, 4, none⟩ = some (.int .i64 a0_4) := (blk_cell BK371.out 4).trans rfl; have hcz10_5 : w9.cell? ⟨gb371, 5, none⟩ = some (.string a0_5) := (blk_cell BK371.out 5).trans rfl; have hfz10_0 := blk_frozen BK371.out 0; have hfz10_1 := blk_frozen BK371.out 1; have hfz10_2 := blk_frozen BK371.out 2; have hfz10_3 := blk_frozen BK371.out 3; have hfz10_4 := blk_frozen BK371.out 4; have hfz10_5 := blk_frozen BK371.out 5) | ((with_reducible refine gate_callee (f := 16) rfl ?_); refine goesL_ (some 7) rfl rfl Try.func16 (by kernel_rfl) rfl #[.agg #[.int .i64 a0_0, .int .i64 a0_1, .int .i64 a0_2, .int .i64 a0_3, .int .i64 a0_4, .string a0_5]] rfl (by (try simp only [List.map_toArray, List.map_cons, List.map_nil]); first | done | rfl | (simp only [List.length_drop, List.length_take]; rfl)) ?_; (with_reducible refine (laminaref24_Valid.calls k a0_0 a0_1 a0_2 a0_3 a0_4 a0_5 true _ A2.out).mono ?_); rintro e w11 ⟨rfl, hb⟩; refine ⟨_, rfl, ?_⟩; have n0_ := Aside0.mk (blk_below (g := gb371) (o := .cells #[.int .i64 a0_0, .int .i64 a0_1, .int .i64 a0_2, .int .i64 a0_3, .int .i64 a0_4, .string a0_5] 23 (0, 0)) (by (with_reducible repeat (first | refine blk_drewN ?_ _ | refine blk_drew ?_ | refine blk_alloc ?_ _)); exact BK371.out) hb); have n1_ := Aside0.mk (below_step (by repeat (first | (with_reducible first | exact HB.out | apply below_alloc | apply pw_below_drewN | apply below_drew1 | refine below_set ?_ GE371.out) | exact HB.out)) hb); clear BK371; clear HB; have BK371 := n0_; have HB := n1_; clear n0_ n1_; (try clear hb); (try clear hb2); (try clear hk); (try clear hi); have hcz12_0 : w11.cell? ⟨gb371, 0, none⟩ = some (.int .i64 a0_0) := (blk_cell BK371.out 0).trans rfl; have hcz12_1 : w11.cell? ⟨gb371, 1, none⟩ = some (.int .i64 a0_1) := (blk_cell BK371.out 1).trans rfl; have hcz12_2 : w11.cell? ⟨gb371, 2, none⟩ = some (.int .i64 a0_2) := (blk_cell BK371.out 2).trans rfl; have hcz12_3 : w11.cell? ⟨gb371, 3, none⟩ = some (.int .i64 a0_3) := (blk_cell BK371.out 3).trans rfl; have hcz12_4 : w11.cell? ⟨gb371, 4, none⟩ = some (.int .i64 a0_4) := (blk_cell BK371.out 4).trans rfl; have hcz12_5 : w11.cell? ⟨gb371, 5, none⟩ = some (.string a0_5) := (blk_cell BK371.out 5).trans rfl; have hfz12_0 := blk_frozen BK371.out 0; have hfz12_1 := blk_frozen BK371.out 1; have hfz12_2 := blk_frozen BK371.out 2; have hfz12_3 := blk_frozen BK371.out 3; have hfz12_4 := blk_frozen BK371.out 4; have hfz12_5 := blk_frozen BK371.out 5) | ((with_reducible refine gate_callee (f := 29) rfl ?_); refine goesL_ (some 10) rfl rfl Try.func29 (by kernel_rfl) rfl #[.agg #[.int .i64 a0_0, .int .i64 a0_1, .int .i64 a0_2, .int .i64 a0_3, .int .i64 a0_4, .string a0_5]] rfl (by (try simp only [List.map_toArray, List.map_cons, List.map_nil]); first | done | rfl | (simp only [List.length_drop, List.length_take]; rfl)) ?_; (with_reducible refine (laminaref24_body.calls k a0_0 a0_1 a0_2 a0_3 a0_4 a0_5 t373 _ A4.out).mono ?_); rintro e w13 ⟨v374, rfl, ho0, hb⟩; refine ⟨_, rfl, ?_⟩; have n0_ := Aside0.mk (Kd.R_lower ho0 (below_size (by repeat (first | (with_reducible first | exact HB.out | apply below_alloc | apply pw_below_drewN | apply below_drew1 | refine below_set ?_ GE371.out) | exact HB.out)))); have n1_ := Aside0.mk (blk_below (g := gb371) (o := .cells #[.int .i64 a0_0, .int .i64 a0_1, .int .i64 a0_2, .int .i64 a0_3, .int .i64 a0_4, .string a0_5] 23 (0, 0)) (by (with_reducible repeat (first | refine blk_drewN ?_ _ | refine blk_drew ?_ | refine blk_alloc ?_ _)); exact BK371.out) hb); have n2_ := Aside0.mk (below_step (by repeat (first | (with_reducible first | exact HB.out | apply below_alloc | apply pw_below_drewN | apply below_drew1 | refine below_set ?_ GE371.out) | exact HB.out)) hb); clear BK371; clear HB; have HO375 := n0_; have BK371 := n1_; have HB := n2_; clear n0_ n1_ n2_; (try clear hb); (try clear hb2); (try clear hk); (try clear hi); (try clear ho0); obtain ⟨Ao14, co14, eo14⟩ := Kd.R_slice HO375.out; subst eo14) | ((with_reducible refine gate_callee (f := 30) rfl ?_); refine goesL_ (some 14) rfl rfl Try.func30 (by kernel_rfl) rfl #[.int .u64 (IntKind.u64.wrap ((t373.length : Int)))] rfl (by (try simp only [List.map_toArray, List.map_cons, List.map_nil]); first | done | rfl | (simp only [List.length_drop, List.length_take]; rfl)) ?_; (with_reducible refine (laminaref01_Encode.calls k (IntKind.u64.wrap ((t373.length : Int))) t376 _ A5.out).mono ?_); rintro e w15 ⟨v377, rfl, ho0, hb⟩; refine ⟨_, rfl, ?_⟩; have n0_ := Aside0.mk (Kd.R_elder' (by (with_reducible repeat (first | apply Kd.R_alloc | apply Kd.R_drewN | apply Kd.R_drew)); exact HO375.out) (Kd.R_base ho0) hb); have n1_ := Aside0.mk (Kd.R_lower (Kd.R_new' ho0 (Kd.R_lt (by (with_reducible repeat (first | apply Kd.R_alloc | apply Kd.R_drewN | apply Kd.R_drew)); exact HO375.out))) (below_size (by repeat (first | (with_reducible first | exact HB.out | apply below_alloc | apply pw_below_drewN | apply below_drew1 | refine below_set ?_ GE371.out) | exact HB.out)))); have n2_ := Aside0.mk (blk_below (g := gb371) (o := .cells #[.int .i64 a0_0, .int .i64 a0_1, .int .i64 a0_2, .int .i64 a0_3, .int .i64 a0_4, .string a0_5] 23 (0, 0)) (by (with_reducible repeat (first | refine blk_drewN ?_ _ | refine blk_drew ?_ | refine blk_alloc ?_ _)); exact BK371.out) hb); have n3_ := Aside0.mk (below_step (by repeat (first | (with_reducible first | exact HB.out | apply below_alloc | apply pw_below_drewN | apply below_drew1 | refine below_set ?_ GE371.out) | exact HB.out)) hb); clear HO375; clear BK371; clear HB; have HO375 := n0_; have HO378 := n1_; have BK371 := n2_; have HB := n3_; clear n0_ n1_ n2_ n3_; (try clear hb); (try clear hb2); (try clear hk); (try clear hi); (try clear ho0)) | ((with_reducible refine gate_builtin (b := .append) (xs := #[.tmp 14, .tmp 15]) rfl ?_); at_builtin; refine Kd.R_append_rows (Kd.int .u8) (w0 := w) w.heap.size rfl (.tmp 14) (.tmp 15) 24 5 (.int .u8 0) 1 rfl Try.underlying24 info5 rfl (by decide) (by omega) v377 t376 t373 _ _ _ (fun k_ => some k_ ≠ (.slice Ao14 t373.length co14 : Value).ownBlock) (fun _ => False) rfl rfl ?aO ?aR (fun _ _ h => h) (fun _ h => h.elim) ?aF ?aB ?aS ?aL ?_; (case aR => repeat (first | exact (Kd.R_reads' HO375.out).2.2 | (with_reducible refine Kd.C_alloc ?_ _) | (with_reducible refine Kd.C_drewN ?_ _) | (with_reducible refine Kd.C_drew ?_))); (case aB => exact (by repeat (first | (with_reducible first | exact HB.out | apply below_alloc | apply pw_below_drewN | apply below_drew1 | refine below_set ?_ GE371.out) | exact HB.out))); (case aF => exact (fun k_ hk => Kd.fresh' (Kd.R_lt (by (with_reducible repeat (first | apply Kd.R_alloc | apply Kd.R_drewN | apply Kd.R_drew)); exact HO375.out)) k_ hk)); (case aO => exact (by (with_reducible repeat (first | apply Kd.R_alloc | apply Kd.R_drewN | apply Kd.R_drew)); exact Kd.R_mono HO378.out (fun _ hk => hk.2))); (case aS => exact (below_size (by repeat (first | (with_reducible first | exact HB.out | apply below_alloc | apply pw_below_drewN | apply below_drew1 | refine below_set ?_ GE371.out) | exact HB.out)))); (case aL => have := LMc6.out; omega); intro v380 w16 ho hb hg hat; rw [← Ny379.out] at ho; have n0_ := Aside0.mk (blk_grown (g := gb371) (o := .cells #[.int .i64 a0_0, .int .i64 a0_1, .int .i64 a0_2, .int .i64 a0_3, .int .i64 a0_4, .string a0_5] 23 (0, 0)) (by (with_reducible repeat (first | refine blk_drewN ?_ _ | refine blk_drew ?_ | refine blk_alloc ?_ _)); exact BK371.out) hg (Kd.R_ne HO378.out BK371.out (by decide))); have n1_ := Aside0.mk (Kd.R_after (ok := (fun _ => True)) (by (with_reducible repeat (first | apply Kd.R_alloc | apply Kd.R_drewN | apply Kd.R_drew)); exact HO375.out) hg hat); have n2_ := Aside0.mk (hb); have n3_ := Aside0.mk (ho); clear BK371; clear HO375; clear HB; clear HO378; have BK371 := n0_; have HO375 := n1_; have HB := n2_; have HO381 := n3_; clear n0_ n1_ n2_ n3_; clear ho hb hg hat) | ((with_reducible refine gate_callee (f := 31) rfl ?_); refine goesL_ (some 19) rfl rfl Try.func31 (by kernel_rfl) rfl #[.slice Ao14 t373.length co14] rfl (by (try simp only [List.map_toArray, List.map_cons, List.map_nil]); first | done | rfl | (simp only [List.length_drop, List.length_take]; rfl)) ?_; (with_reducible refine (laminaref24_sum.calls k (fun k_ => some k_ = (.slice Ao14 t373.length co14 : Value).ownBlock) _ _ t373 t382 _ ?side1 A7.out).mono ?_); (case side1 => exact Kd.R_V (Kd.R_tight rfl (Kd.R_types (HO375.out) BK371.out (by decide)))); rintro e w17 ⟨v383, rfl, ho0, hb⟩; refine ⟨_, rfl, ?_⟩; have n0_ := Aside0.mk (Kd.R_elder' (by (with_reducible repeat (first | apply Kd.R_alloc | apply Kd.R_drewN | apply Kd.R_drew)); exact HO375.out) (Kd.R_base ho0) hb); have n1_ := Aside0.mk (Kd.R_elder' (by (with_reducible repeat (first | apply Kd.R_alloc | apply Kd.R_drewN | apply Kd.R_drew)); exact HO381.out) (Kd.R_base ho0) hb); have n2_ := Aside0.mk (Kd.R_lower (Kd.R_new' (Kd.R_new' (Kd.R_mono (ok' := fun k_ => True) ho0 (fun _ hk_ => trivial)) (Kd.R_lt (by (with_reducible repeat (first | apply Kd.R_alloc | apply Kd.R_drewN | apply Kd.R_drew)); exact HO375.out))) (Kd.R_lt (by (with_reducible repeat (first | apply Kd.R_alloc | apply Kd.R_drewN | apply Kd.R_drew)); exact HO381.out))) (below_size (by repeat (first | (with_reducible first | exact HB.out | apply below_alloc | apply pw_below_drewN | apply below_drew1 | refine below_set ?_ GE371.out) | exact HB.out)))); have n3_ := Aside0.mk (blk_below (g := gb371) (o := .cells #[.int .i64 a0_0, .int .i64 a0_1, .int .i64 a0_2, .int .i64 a0_3, .int .i64 a0_4, .string a0_5] 23 (0, 0)) (by (with_reducible repeat (first | refine blk_drewN ?_ _ | refine blk_drew ?_ | refine blk_alloc ?_ _)); exact BK371.out) hb); have n4_ := Aside0.mk (below_step (by repeat (first | (with_reducible first | exact HB.out | apply below_alloc | apply pw_below_drewN | apply below_drew1 | refine below_set ?_ GE371.out) | exact HB.out)) hb); clear HO375; clear HO381; clear BK371; clear HB; have HO375 := n0_; have HO381 := n1_; have HO384 := n2_; have BK371 := n3_; have HB := n4_; clear n0_ n1_ n2_ n3_ n4_; (try clear hb); (try clear hb2); (try clear hk); (try clear hi); (try clear ho0); obtain ⟨Ao19, co19, eo19⟩ := Kd.R_slice HO384.out; subst eo19) | ((with_reducible refine gate_builtin (b := .append) (xs := #[.tmp 17, .tmp 19]) rfl ?_); at_builtin; refine Kd.R_append_rows (Kd.int .u8) (w0 := w) w.heap.size rfl (.tmp 17) (.tmp 19) 24 5 (.int .u8 0) 1 rfl Try.underlying24 info5 rfl (by decide) (by omega) v380 y379 t382 _ _ _ (fun k_ => some k_ ≠ (.slice Ao14 t373.length co14 : Value).ownBlock ∧ some k_ ≠ (.slice Ao19 t382.length co19 : Value).ownBlock) (fun _ => False) rfl rfl ?aO ?aR (fun _ _ h => h) (fun _ h => h.elim) ?aF ?aB ?aS ?aL ?_; (case aR => repeat (first | exact (Kd.R_reads' HO384.out).2.2 | (with_reducible refine Kd.C_alloc ?_ _) | (with_reducible refine Kd.C_drewN ?_ _) | (with_reducible refine Kd.C_drew ?_))); (case aB => exact (by repeat (first | (with_reducible first | exact HB.out | apply below_alloc | apply pw_below_drewN | apply below_drew1 | refine below_set ?_ GE371.out) | exact HB.out))); (case aF => exact (fun k_ hk => ⟨Kd.fresh' (Kd.R_lt (by (with_reducible repeat (first | apply Kd.R_alloc | apply Kd.R_drewN | apply Kd.R_drew)); exact HO375.out)) k_ hk, Kd.fresh' (Kd.R_lt (by (with_reducible repeat (first | apply Kd.R_alloc | apply Kd.R_drewN | apply Kd.R_drew)); exact HO384.out)) k_ hk⟩)); (case aO => exact (by (with_reducible repeat (first | apply Kd.R_alloc | apply Kd.R_drewN | apply Kd.R_drew)); exact HO381.out)); (case aS => exact (below_size (by repeat (first | (with_reducible first | exact HB.out | apply below_alloc | apply pw_below_drewN | apply below_drew1 | refine below_set ?_ GE371.out) | exact HB.out)))); (case aL => have := LMc8.out; omega); intro v386 w18 ho hb hg hat; rw [← Ny385.out] at ho; have n0_ := Aside0.mk (blk_grown (g := gb371) (o := .cells #[.int .i64 a0_0, .int .i64 a0_1, .int .i64 a0_2, .int .i64 a0_3, .int .i64 a0_4, .string a0_5] 23 (0, 0)) (by (with_reducible repeat (first | refine blk_drewN ?_ _ | refine blk_drew ?_ | refine blk_alloc ?_ _)); exact BK371.out) hg (Kd.R_ne HO381.out BK371.out (by decide))); have n1_ := Aside0.mk (Kd.R_after (ok := (fun k_ => some k_ ≠ (.slice Ao19 t382.length co19 : Value).ownBlock)) (by (with_reducible repeat (first | apply Kd.R_alloc | apply Kd.R_drewN | apply Kd.R_drew)); exact Kd.R_mono HO375.out (fun _ hk => ⟨hk.2, hk.1.2⟩)) hg hat); have n2_ := Aside0.mk (Kd.R_after (ok := (fun k_ => some k_ ≠ (.slice Ao14 t373.length co14 : Value).ownBlock)) (by (with_reducible repeat (first | apply Kd.R_alloc | apply Kd.R_drewN | apply Kd.R_drew)); exact Kd.R_mono HO384.out (fun _ hk => ⟨hk.1.2, hk.2⟩)) hg hat); have n3_ := Aside0.mk (hb); have n4_ := Aside0.mk (ho); clear BK371; clear HO375; clear HO384; clear HB; clear HO381; have BK371 := n0_; have HO375 := n1_; have HO384 := n2_; have HB := n3_; have HO387 := n4_; clear n0_ n1_ n2_ n3_ n4_; clear ho hb hg hat))
        go_ret2
        exact ⟨_, by first | rfl | (simp [errW_none, errW_some] <;> rfl) | (simp [*, errW_none, errW_some] <;> rfl), by (with_reducible repeat (first | apply Kd.R_alloc | apply Kd.R_drewN | apply Kd.R_drew)); exact Kd.R_mono HO387.out (fun _ hk => trivial), by repeat (first | (with_reducible first | exact HB.out | apply below_alloc | apply pw_below_drewN | apply below_drew1 | refine below_set ?_ GE371.out) | exact HB.out)⟩
      · rw [if_neg c8] at H
        exact absurd H (by simp)
    · rw [if_neg c6] at H
      exact absurd H (by simp)
  · replace c3 := Bool.eq_false_iff.mpr c3
    subst c3
    have H1 : (some (([] : List Int), 1)) = some (r1, r2) := by rw [if_neg (show ¬ (false = true) by decide)] at H; exact H
    clear H
    have H := H1
    clear H1
    simp only [Option.some.injEq, Prod.mk.injEq] at H
    obtain ⟨rfl, rfl⟩ := H
    go_enter Try.func10, Try.ntmps10
    go_wp2_with (first | ((with_reducible refine gate_dst (N := 1) rfl ?_); refine box_event ?hg (N := 1) ?hd (cs := #[.int .i64 a0_0, .int .i64 a0_1, .int .i64 a0_2, .int .i64 a0_3, .int .i64 a0_4, .string a0_5]) (t := 23) ?hr ?_; (case hd => rfl); (case hg => rfl); (case hr => first | (go_simp; done) | (go_simp; rfl)); intro gb371 hg w20 hbox hb; have n0_ := Aside0.mk (below_step (by repeat (first | (with_reducible first | exact HB.out | apply below_alloc | apply pw_below_drewN | apply below_drew1) | exact HB.out)) hb); have n1_ := Aside0.mk (hbox); have n2_ := Aside0.mk ((by rw [hg]; exact (below_size (by repeat (first | (with_reducible first | exact HB.out | apply below_alloc | apply pw_below_drewN | apply below_drew1) | exact HB.out))) : w.heap.size ≤ gb371)); have n3_ := Aside0.mk ((by rw [hg]; exact (below_size (by repeat (first | (with_reducible first | exact HB.out | apply below_alloc | apply pw_below_drewN | apply below_drew1) | exact HB.out))) : w.heap.size ≤ gb371)); clear HB; have HB := n0_; have BK371 := n1_; have GW371 := n2_; have GE371 := n3_; clear n0_ n1_ n2_ n3_; clear hb hbox hg; have hcz21_0 : w20.cell? ⟨gb371, 0, none⟩ = some (.int .i64 a0_0) := (blk_cell BK371.out 0).trans rfl; have hcz21_1 : w20.cell? ⟨gb371, 1, none⟩ = some (.int .i64 a0_1) := (blk_cell BK371.out 1).trans rfl; have hcz21_2 : w20.cell? ⟨gb371, 2, none⟩ = some (.int .i64 a0_2) := (blk_cell BK371.out 2).trans rfl; have hcz21_3 : w20.cell? ⟨gb371, 3, none⟩ = some (.int .i64 a0_3) := (blk_cell BK371.out 3).trans rfl; have hcz21_4 : w20.cell? ⟨gb371, 4, none⟩ = some (.int .i64 a0_4) := (blk_cell BK371.out 4).trans rfl; have hcz21_5 : w20.cell? ⟨gb371, 5, none⟩ = some (.string a0_5) := (blk_cell BK371.out 5).trans rfl; have hfz21_0 := blk_frozen BK371.out 0; have hfz21_1 := blk_frozen BK371.out 1; have hfz21_2 := blk_frozen BK371.out 2; have hfz21_3 := blk_frozen BK371.out 3; have hfz21_4 := blk_frozen BK371.out 4; have hfz21_5 := blk_frozen BK371.out 5) | ((with_reducible refine gate_callee (f := 16) rfl ?_); refine goesL_ (some 7) rfl rfl Try.func16 (by kernel_rfl) rfl #[.agg #[.int .i64 a0_0, .int .i64 a0_1, .int .i64 a0_2, .int .i64 a0_3, .int .i64 a0_4, .string a0_5]] rfl (by (try simp only [List.map_toArray, List.map_cons, List.map_nil]); first | done | rfl | (simp only [List.length_drop, List.length_take]; rfl)) ?_; (with_reducible refine (laminaref24_Valid.calls k a0_0 a0_1 a0_2 a0_3 a0_4 a0_5 false _ A2.out).mono ?_); rintro e w22 ⟨rfl, hb⟩; refine ⟨_, rfl, ?_⟩; have n0_ := Aside0.mk (blk_below (g := gb371) (o := .cells #[.int .i64 a0_0, .int .i64 a0_1, .int .i64 a0_2, .int .i64 a0_3, .int .i64 a0_4, .string a0_5] 23 (0, 0)) (by (with_reducible repeat (first | refine blk_drewN ?_ _ | refine blk_drew ?_ | refine blk_alloc ?_ _)); exact BK371.out) hb); have n1_ := Aside0.mk (below_step (by repeat (first | (with_reducible first | exact HB.out | apply below_alloc | apply pw_below_drewN | apply below_drew1 | refine below_set ?_ GE371.out) | exact HB.out)) hb); clear BK371; clear HB; have BK371 := n0_; have HB := n1_; clear n0_ n1_; (try clear hb); (try clear hb2); (try clear hk); (try clear hi)))
    go_ret2
    exact ⟨_, by first | rfl | (simp [errW_none, errW_some] <;> rfl) | (simp [*, errW_none, errW_some] <;> rfl), by first | exact Kd.R_nil _ _ _ _ _ | exact Kd.N_nil _ _ _ _ _ | exact Kd.V_nil _ _ _ _ _ | exact Kd.Q_nil _ _ _ _ _ | exact Kd.S_nil _ _ _ _ _, by repeat (first | (with_reducible first | exact HB.out | apply below_alloc | apply pw_below_drewN | apply below_drew1 | refine below_set ?_ GE371.out) | exact HB.out)⟩

end Go.Proofs.Ytfkgpmidcbjlbaa.P
end
section
set_option linter.unusedVariables false
set_option linter.unusedSimpArgs false
/- Plain: a record, the program's and the reference's; what is decoded encodes to the same bytes. -/
namespace Go.Proofs.Ytfkgpmidcbjlbaa.U
open Go.RowKit Go.Proofs.Ytfkgpmidcbjlbaa.P Go.Proofs.Ytfkgpmidcbjlbaa.H Go.Proofs.YtfkgpmidcbjlbaaW.PrintWords Go.Proofs.YtfkgpmidcbjlbaaW.PrintMore

theorem bytesOf_bytes (n : ByteArray) : Bytes (bytesOf n) := by
  intro x hx
  unfold bytesOf at hx
  obtain ⟨b, _, rfl⟩ := List.mem_map.1 hx
  have := b.toNat_lt
  omega
theorem strOf_bytesOf (n : ByteArray) : strOfNums (bytesOf n) = n := by
  unfold strOfNums bytesOf
  congr 1
  rw [List.map_map]
  have : (n.data.toList.map ((fun n : Int => UInt8.ofNat n.toNat) ∘ fun b : UInt8 => (b.toNat : Int))) = n.data.toList := by
    conv => rhs; rw [← List.map_id n.data.toList]
    refine List.map_congr_left fun b _ => ?_
    simp
  rw [this]
theorem bytesOf_strOf (l : List Int) (hb : Bytes l) : bytesOf (strOfNums l) = l := by
  unfold bytesOf
  rw [strOfNums_data, List.map_map]
  conv => rhs; rw [← List.map_id l]
  refine List.map_congr_left fun x hx => ?_
  have := hb x hx
  show ((UInt8.ofNat x.toNat).toNat : Int) = x
  rw [UInt8.toNat_ofNat']
  omega

/-- numbers, one behind the other -/
def encL : List Int → List Int
  | [] => []
  | n :: ns => encS n.toNat ++ encL ns
theorem encL_app (a b : List Int) : encL (a ++ b) = encL a ++ encL b := by
  induction a with
  | nil => rfl
  | cons x xs ih => rw [List.cons_append, encL, encL, ih, List.append_assoc]
theorem encL_bytes (l : List Int) : Bytes (encL l) := by
  induction l with
  | nil => exact Bytes.nil
  | cons x xs ih => exact (encS_bytes _).app ih
/-- a number of an entry -/
def Num (x : Int) : Prop := 0 ≤ x ∧ x < 9223372036854775808
theorem encL_len (l : List Int) (h : ∀ x ∈ l, Num x) : (encL l).length ≤ 10 * l.length := by
  induction l with
  | nil => simp [encL]
  | cons x xs ih =>
    have h1 := ih (fun y hy => h y (by simp [hy]))
    have hx := h x (by simp)
    have h2 := encS_len10 x.toNat (by unfold Num at hx; omega)
    simp only [encL, List.length_append, List.length_cons]
    omega
def bodyS (k i p m t : Int) (n : ByteArray) : List Int := encL [k, i, p, m, t, (n.size : Int)] ++ bytesOf n
theorem bodyS_bytes (k i p m t : Int) (n : ByteArray) : Bytes (bodyS k i p m t n) := (encL_bytes _).app (bytesOf_bytes n)
/-- the record of a body -/
def recOf (body : List Int) : List Int := encS body.length ++ body ++ leS (crcS body) 4
def recS (k i p m t : Int) (n : ByteArray) : List Int := recOf (bodyS k i p m t n)
theorem recOf_bytes (b : List Int) (hb : Bytes b) : Bytes (recOf b) := ((encS_bytes _).app hb).app (leS_bytes _ _)
/-- all that is asked of an entry -/
structure Good (k i p m t : Int) (n : ByteArray) : Prop where
  v : validB k i p m t n = true
  i : i < 9223372036854775808
  p : p < 9223372036854775808
  m : m < 9223372036854775808
  t : t < 9223372036854775808
theorem Good.nums {k i p m t : Int} {n : ByteArray} (h : Good k i p m t n) : ∀ x ∈ [k, i, p, m, t, (n.size : Int)], Num x := by
  obtain ⟨h1, h2, h3, h4, h5, h6, h7⟩ := validB_parts k i p m t n h.v
  have := h.i; have := h.p; have := h.m; have := h.t
  intro x hx
  simp only [List.mem_cons, List.not_mem_nil, or_false] at hx
  unfold Num
  rcases hx with rfl | rfl | rfl | rfl | rfl | rfl <;> omega
theorem Good.len {k i p m t : Int} {n : ByteArray} (h : Good k i p m t n) : (bodyS k i p m t n).length ≤ 92 := by
  have h1 := encL_len _ h.nums
  obtain ⟨_, _, _, _, _, _, h7⟩ := validB_parts k i p m t n h.v
  unfold bodyS
  rw [List.length_append, bytesOf_length]
  simp only [List.length_cons, List.length_nil] at h1
  omega
theorem Good.pos {k i p m t : Int} {n : ByteArray} (_ : Good k i p m t n) : 1 ≤ (bodyS k i p m t n).length := by
  have := encS_pos k.toNat
  unfold bodyS
  simp only [encL, List.length_append]
  omega
theorem recOf_len (b : List Int) (h : b.length < 128) : (recOf b).length = b.length + 5 := by
  unfold recOf
  rw [encS_low _ h]
  simp [leS_len]

/-! the program's record -/
theorem enc_l (ns : List Int) (h : ∀ x ∈ ns, Num x) : ∀ acc : List Int, acc.length + 10 * ns.length < 140737488355328 → Ev (fun k => commitlog_Encode.l k ns acc) (acc ++ encL ns) := by
  induction ns with
  | nil => intro acc _; rw [encL, List.append_nil]; exact Ev.pure _
  | cons x xs ih =>
    intro acc hl
    have hx := h x (by simp)
    unfold Num at hx
    have hlen := encS_len10 x.toNat (by omega)
    simp only [List.length_cons] at hl
    have he : Ev (fun k => varint_Encode.f k (IntKind.u64.wrap x)) (encS x.toNat) := by
      rw [wu64 x (by omega) (by omega), show x = ((x.toNat : Nat) : Int) from by omega, Int.toNat_natCast]
      exact enc_impl x.toNat (by omega)
    refine Ev.bind he (Ev.pos (by omega) ?_)
    have := ih (fun y hy => h y (by simp [hy])) (acc ++ encS x.toNat) (by rw [List.length_append]; omega)
    rw [List.append_assoc] at this
    exact this
theorem concat_l (ls : List (List Int)) (hn : ls.length ≤ 3) : ∀ f i : Nat, ∀ acc : List Int, i + f = ls.length → acc.length + ((ls.drop i).flatten).length < 140737488355328 → Ev (fun k => varint_Concat.l0 k acc ls (ls.length : Int) (i : Int)) (acc ++ (ls.drop i).flatten)
  | 0, i, acc, hi, hl => by
    refine Ev.step (fun k => rfl) (Ev.neg (by omega) (Ev.of fun k => ?_))
    rw [List.drop_eq_nil_of_le (by omega), List.flatten_nil, List.append_nil]
  | f + 1, i, acc, hi, hl => by
    have hlt : i < ls.length := by omega
    have hr : rd_L4 ls (i : Int) = ls[i] := by simp [rd_L4, List.getD_eq_getElem?_getD, List.getElem?_eq_getElem hlt]
    rw [List.drop_eq_getElem_cons hlt, List.flatten_cons, List.length_append] at hl
    refine Ev.step (fun k => rfl) (Ev.pos (by omega) (Ev.pos (by omega) (Ev.pos (by omega) (Ev.pos (by rw [hr]; omega) ?_))))
    rw [hr, show wrap64 ((i : Int) + 1) = ((i + 1 : Nat) : Int) from by rw [w64 _ (by omega) (by omega)]; omega, List.drop_eq_getElem_cons hlt, List.flatten_cons, ← List.append_assoc]
    exact concat_l ls hn f (i + 1) (acc ++ ls[i]) (by omega) (by rw [List.length_append]; omega)
theorem concat3 (a b c : List Int) (h : a.length + b.length + c.length < 140737488355328) : Ev (fun k => varint_Concat.f k [a, b, c]) (a ++ b ++ c) := by
  have := concat_l [a, b, c] (by simp) 3 0 [] rfl (by simp; omega)
  simp only [List.drop_zero, List.flatten_cons, List.flatten_nil, List.append_nil, List.nil_append, ← List.append_assoc] at this
  exact this
theorem rec_impl (k i p m t : Int) (n : ByteArray) (h : Good k i p m t n) : Ev (fun q => commitlog_Encode.f q k i p m t n) (recS k i p m t n, 0) := by
  have hl := h.len
  obtain ⟨_, _, _, _, _, _, h7⟩ := validB_parts k i p m t n h.v
  have hlen := encL_len _ h.nums
  simp only [List.length_cons, List.length_nil] at hlen
  have hb := bodyS_bytes k i p m t n
  have h1 := enc_l [k, i, p, m, t, (n.size : Int)] h.nums [] (by simp)
  rw [List.nil_append] at h1
  refine Ev.pos h.v (Ev.bind h1 (Ev.pos (by omega) ?_))
  show Ev (fun q => commitlog_Encode.e q (bodyS k i p m t n)) (recOf (bodyS k i p m t n), 0)
  generalize bodyS k i p m t n = b at hl hb
  have hp := encS_len10 b.length (by omega)
  refine Ev.bind (enc_impl b.length (by omega)) (Ev.bind ?_ (Ev.bind (concat3 (encS b.length) b (leS (crcS b) 4) (by rw [leS_len]; omega)) (Ev.pure _)))
  rw [crc_impl b hb]
  exact fixed_impl (crcS b)
theorem rec_impl_no (k i p m t : Int) (n : ByteArray) (h : validB k i p m t n = false) : Ev (fun q => commitlog_Encode.f q k i p m t n) ([], 1) :=
  Ev.neg (by rw [h]; decide) (Ev.pure _)

/-! the reference's -/
theorem body_ref_l (xs : List Int) (h : ∀ x ∈ xs, Num x) (hx : xs.length = 6) (k0 i0 p0 m0 t0 : Int) (n : ByteArray) (hn : n.size ≤ 32) : ∀ f i : Nat, i + f = 6 →
    Ev (fun q => laminaref24_body.l0 q xs (encL (xs.take i)) (i : Int) k0 i0 p0 m0 t0 n) (encL xs ++ bytesOf n)
  | 0, i, hi => by
    obtain rfl : i = 6 := by omega
    rw [show xs.take 6 = xs from List.take_of_length_le (by omega)]
    have := encL_len xs h
    exact Ev.step (fun k => rfl) (Ev.neg (by omega) (Ev.pos (by omega) (Ev.pure _)))
  | f + 1, i, hi => by
    have hlt : i < xs.length := by omega
    have hnum := h xs[i] (List.getElem_mem hlt)
    unfold Num at hnum
    have hrd : rd xs (i : Int) = xs[i] := by
      unfold rd
      simp [List.getD_eq_getElem?_getD, List.getElem?_eq_getElem hlt]
    have hlen := encS_len10 xs[i].toNat (by omega)
    have hlen2 := encL_len (xs.take i) (fun x hx => h x (List.mem_of_mem_take hx))
    rw [List.length_take] at hlen2
    have he : Ev (fun k => laminaref01_Encode.f k (rd xs (i : Int))) (encS xs[i].toNat) := by
      have h1 := enc_ref xs[i].toNat (by omega)
      refine h1.congr fun k => ?_
      rw [hrd, show xs[i] = ((xs[i].toNat : Nat) : Int) from by omega, Int.toNat_natCast]
    refine Ev.step (fun k => rfl) (Ev.pos (by omega) (Ev.pos (by omega) (Ev.bind he (Ev.pos (by omega) ?_))))
    have ih := body_ref_l xs h hx k0 i0 p0 m0 t0 n hn f (i + 1) (by omega)
    rw [show wrap64 ((i : Int) + 1) = ((i + 1 : Nat) : Int) from by rw [w64 _ (by omega) (by omega)]; omega]
    rw [List.take_succ_eq_append_getElem hlt, encL_app] at ih
    rw [show encS xs[i].toNat = encL [xs[i]] from by simp [encL]]
    exact ih
theorem body_ref (k i p m t : Int) (n : ByteArray) (h : Good k i p m t n) : Ev (fun q => laminaref24_body.f q k i p m t n) (bodyS k i p m t n) := by
  obtain ⟨h1, h2, h3, h4, h5, h6, h7⟩ := validB_parts k i p m t n h.v
  have hi := h.i; have hp := h.p; have hm := h.m; have ht := h.t
  have := body_ref_l [k, i, p, m, t, (n.size : Int)] h.nums rfl k i p m t n h7 6 0 rfl
  refine this.congr fun q => ?_
  show laminaref24_body.l0 q _ _ _ _ _ _ _ _ _ = _
  rw [wu64 k (by omega) (by omega), wu64 i (by omega) (by omega), wu64 p (by omega) (by omega), wu64 m (by omega) (by omega), wu64 t (by omega) (by omega), wu64 (n.size : Int) (by omega) (by omega)]
  rfl
theorem sum_ref (l : List Int) (hb : Bytes l) (hl : l.length ≤ 4611686018427387904) : Ev (fun k => laminaref24_sum.f k l) (leS (crcS l) 4) := by
  have hc := crcS_lt l hb
  refine Ev.bind (crc_ref l hb hl) (Ev.bind ?_ (Ev.pure _))
  rw [wu64 _ (by omega) (by omega)]
  exact fixed_ref (crcS l) (by omega)
theorem rec_ref (k i p m t : Int) (n : ByteArray) (h : Good k i p m t n) : Ev (fun q => laminaref24_Encode.f q k i p m t n) (recS k i p m t n, 0) := by
  have hv : Ev (fun q => laminaref24_Valid.f q k i p m t n) true := by have := valid_ref k i p m t n; rw [h.v] at this; exact this
  have hl := h.len
  have hb := bodyS_bytes k i p m t n
  refine Ev.bind hv (Ev.pos rfl (Ev.bind (body_ref k i p m t n h) ?_))
  show Ev _ (recOf (bodyS k i p m t n), 0)
  generalize bodyS k i p m t n = b at hl hb
  have hp := encS_len10 b.length (by omega)
  rw [wu64 (b.length : Int) (by omega) (by omega)]
  refine Ev.bind (enc_ref b.length (by omega)) (Ev.pos (by omega) (Ev.bind (Ev.pure _) (Ev.bind (sum_ref b hb (by omega)) (Ev.pos ?_ (Ev.pure _)))))
  rw [leS_len, List.length_append]; omega
theorem rec_ref_no (k i p m t : Int) (n : ByteArray) (h : validB k i p m t n = false) : Ev (fun q => laminaref24_Encode.f q k i p m t n) ([], 1) := by
  have hv := valid_ref k i p m t n
  rw [h] at hv
  exact Ev.bind hv (Ev.neg (by decide) (Ev.pure _))
end Go.Proofs.Ytfkgpmidcbjlbaa.U
end
section
set_option linter.unusedVariables false
set_option linter.unusedSimpArgs false
/- Plain: a record read back, the program's and the reference's. -/
namespace Go.Proofs.Ytfkgpmidcbjlbaa.U
open Go.RowKit Go.Proofs.Ytfkgpmidcbjlbaa.P Go.Proofs.Ytfkgpmidcbjlbaa.H Go.Proofs.YtfkgpmidcbjlbaaW.PrintWords Go.Proofs.YtfkgpmidcbjlbaaW.PrintMore

/-- behind the six numbers -/
def entS (l : List Int) (at_ : Int) (a : List Int) : FR :=
  if (l.length : Int) - at_ < a.getD 5 0 then zFR 2
  else if a.getD 5 0 < (l.length : Int) - at_ then zFR 3
  else if 7 < a.getD 0 0 then zFR 4
  else if validB (a.getD 0 0) (a.getD 1 0) (a.getD 2 0) (a.getD 3 0) (a.getD 4 0) (strOfNums (l.drop at_.toNat)) = true then (a.getD 0 0, a.getD 1 0, a.getD 2 0, a.getD 3 0, a.getD 4 0, strOfNums (l.drop at_.toNat), 0)
  else zFR 4
def fieldsS (l : List Int) : Nat → Int → List Int → FR
  | 0, at_, acc => entS l at_ acc
  | n + 1, at_, acc => if (decS l at_).2.2 = 0 then (if 9223372036854775807 < (decS l at_).1 then zFR 6 else fieldsS l n (decS l at_).2.1 (acc ++ [(decS l at_).1])) else zFR (decS l at_).2.2
theorem fields_impl (l : List Int) (hb : Bytes l) (hl : l.length ≤ 4611686018427387904) : ∀ (n : Nat) (at_ : Int) (acc : List Int), 0 ≤ at_ → at_ ≤ (l.length : Int) → Ev (fun k => commitlog_fields.g k l n at_ acc) (fieldsS l n at_ acc)
  | 0, at_, acc, h0, h1 => by
    refine Ev.of fun k => ?_
    unfold commitlog_fields.g commitlog_fields.e fieldsS entS
    rw [if_pos ⟨h0, h1⟩]
    repeat' split
    all_goals rfl
  | n + 1, at_, acc, h0, h1 => by
    refine Ev.bind (dec_impl l at_ hb hl) ?_
    unfold fieldsS
    by_cases he : (decS l at_).2.2 = 0
    · obtain ⟨p, m, e, rfl, hd, hm, hpe, hel, _⟩ := decS_ok l at_ hb he
      rw [hd]
      dsimp only
      by_cases hr : 9223372036854775807 < (m : Int)
      · rw [if_pos rfl, if_pos hr]
        exact Ev.pos rfl (Ev.pos hr (Ev.pure _))
      · rw [if_pos rfl, if_neg hr, w64 (m : Int) (by omega) (by omega)]
        exact Ev.pos rfl (Ev.neg hr (fields_impl l hb hl n (e : Int) (acc ++ [(m : Int)]) (by omega) (by omega)))
    · rw [if_neg he]
      exact Ev.neg he (Ev.pure _)
theorem getD_rd (l : List Int) (i : Nat) : rd l (i : Int) = l.getD i 0 := by simp [rd]
theorem ent_ref (l : List Int) (at_ : Int) (a : List Int) (h0 : 0 ≤ at_) (h1 : at_ ≤ (l.length : Int)) : Ev (fun k => laminaref24_entry.e k l at_ (rd a 0) (rd a 1) (rd a 2) (rd a 3) (rd a 4) (rd a 5)) (entS l at_ a) := by
  have e0 := getD_rd a 0; have e1 := getD_rd a 1; have e2 := getD_rd a 2; have e3 := getD_rd a 3; have e4 := getD_rd a 4; have e5 := getD_rd a 5
  simp only [Int.natCast_zero, Int.cast_ofNat_Int, Int.natCast_one] at e0 e1 e2 e3 e4 e5
  rw [e0, e1, e2, e3, e4, e5]
  unfold entS
  refine Ev.pos ⟨h0, h1⟩ ?_
  by_cases c1 : (l.length : Int) - at_ < a.getD 5 0
  · rw [if_pos c1]; exact Ev.pos c1 (Ev.pure _)
  rw [if_neg c1]
  refine Ev.neg c1 ?_
  by_cases c2 : a.getD 5 0 < (l.length : Int) - at_
  · rw [if_pos c2]; exact Ev.pos c2 (Ev.pure _)
  rw [if_neg c2]
  refine Ev.neg c2 ?_
  have hv := valid_ref (a.getD 0 0) (a.getD 1 0) (a.getD 2 0) (a.getD 3 0) (a.getD 4 0) (strOfNums (l.drop at_.toNat))
  by_cases c3 : 7 < a.getD 0 0
  · rw [if_pos c3]
    refine Ev.ite (fun c => Ev.pure _) (fun c => Ev.bind hv (Ev.neg ?_ (Ev.pure _)))
    intro hv
    have := (validB_parts _ _ _ _ _ _ hv).2.1
    omega
  · rw [if_neg c3]
    refine Ev.neg (by omega) (Ev.bind hv ?_)
    by_cases c4 : validB (a.getD 0 0) (a.getD 1 0) (a.getD 2 0) (a.getD 3 0) (a.getD 4 0) (strOfNums (l.drop at_.toNat)) = true
    · refine Ev.pos c4 ?_; rw [if_pos c4]; exact Ev.pure _
    · refine Ev.neg c4 ?_; rw [if_neg c4]; exact Ev.pure _
theorem fields_ref_l (l : List Int) (hb : Bytes l) (hl : l.length ≤ 4611686018427387904) : ∀ (n i : Nat) (at_ : Int) (acc : List Int), i + n = 6 → acc.length = i → 0 ≤ at_ → at_ ≤ (l.length : Int) →
    ∃ r : List Int × Int × Int, Ev (fun k => laminaref24_fields.l0 k l acc at_ (i : Int)) r ∧ (r.2.2 = 0 → r.1.length = 6 ∧ 0 ≤ r.2.1 ∧ r.2.1 ≤ (l.length : Int) ∧ entS l r.2.1 r.1 = fieldsS l n at_ acc) ∧ (r.2.2 ≠ 0 → zFR r.2.2 = fieldsS l n at_ acc)
  | 0, i, at_, acc, hi, ha, h0, h1 => by
    obtain rfl : i = 6 := by omega
    exact ⟨(acc, at_, 0), Ev.step (fun k => rfl) (Ev.neg (by decide) (Ev.pure _)), fun _ => ⟨ha, h0, h1, rfl⟩, fun h => absurd rfl h⟩
  | n + 1, i, at_, acc, hi, ha, h0, h1 => by
    unfold fieldsS
    have hd0 := dec_ref l at_ hb hl
    by_cases he : (decS l at_).2.2 = 0
    · obtain ⟨p, m, e, rfl, hd, hm, hpe, hel, _⟩ := decS_ok l at_ hb he
      rw [hd] at hd0 ⊢
      dsimp only
      by_cases hr : 9223372036854775807 < (m : Int)
      · rw [if_pos rfl, if_pos hr]
        exact ⟨([], 0, 6), Ev.step (fun k => rfl) (Ev.pos (by omega) (Ev.bind hd0 (Ev.pos rfl (Ev.pos hr (Ev.pure _))))), fun h => absurd h (by decide), fun _ => rfl⟩
      · rw [if_pos rfl, if_neg hr]
        obtain ⟨r, hE, hr1, hr2⟩ := fields_ref_l l hb hl n (i + 1) (e : Int) (acc ++ [(m : Int)]) (by omega) (by simp [ha]) (by omega) (by omega)
        refine ⟨r, Ev.step (fun k => rfl) (Ev.pos (by omega) (Ev.bind hd0 (Ev.pos rfl (Ev.neg hr (Ev.pos (by omega) ?_))))), hr1, hr2⟩
        rw [w64 (m : Int) (by omega) (by omega), show wrap64 ((i : Int) + 1) = ((i + 1 : Nat) : Int) from by rw [w64 _ (by omega) (by omega)]; omega]
        exact hE
    · rw [if_neg he]
      exact ⟨([], 0, (decS l at_).2.2), Ev.step (fun k => rfl) (Ev.pos (by omega) (Ev.bind hd0 (Ev.neg he (Ev.pure _)))), fun h => absurd h he, fun _ => rfl⟩
theorem entry_ref (l : List Int) (hb : Bytes l) (hl : l.length ≤ 4611686018427387904) : Ev (fun k => laminaref24_entry.f k l) (fieldsS l 6 0 []) := by
  obtain ⟨r, hE, hr1, hr2⟩ := fields_ref_l l hb hl 6 0 0 [] rfl rfl (by omega) (by omega)
  refine Ev.bind hE ?_
  by_cases h : r.2.2 = 0
  · obtain ⟨h6, h0, h1, heq⟩ := hr1 h
    rw [← heq]
    exact Ev.pos h (Ev.pos h6 (ent_ref l r.2.1 r.1 h0 h1))
  · rw [← hr2 h]
    exact Ev.neg h (Ev.pure _)

def decE (l : List Int) (n at_ : Int) : DR :=
  if (l.length : Int) - at_ < n + 4 then zDR 2
  else if ((crcS (segOf l at_ (at_ + n)) : Nat) : Int) = ((valS (segOf l (at_ + n) (at_ + n + 4)) : Nat) : Int) then
    (if (fieldsS (segOf l at_ (at_ + n)) 6 0 []).2.2.2.2.2.2 = 0 then
      ((fieldsS (segOf l at_ (at_ + n)) 6 0 []).1, (fieldsS (segOf l at_ (at_ + n)) 6 0 []).2.1, (fieldsS (segOf l at_ (at_ + n)) 6 0 []).2.2.1, (fieldsS (segOf l at_ (at_ + n)) 6 0 []).2.2.2.1, (fieldsS (segOf l at_ (at_ + n)) 6 0 []).2.2.2.2.1, (fieldsS (segOf l at_ (at_ + n)) 6 0 []).2.2.2.2.2.1, at_ + n + 4, 0)
    else zDR (fieldsS (segOf l at_ (at_ + n)) 6 0 []).2.2.2.2.2.2)
  else zDR 5
/-- what decoding answers -/
def decodeS (l : List Int) (off : Int) : DR :=
  if (decS l off).2.2 = 0 then (if 256 < (decS l off).1 then zDR 3 else decE l (decS l off).1 (decS l off).2.1) else zDR (decS l off).2.2
theorem Bytes.seg {l : List Int} (h : Bytes l) (a b : Int) : Bytes (segOf l a b) := (h.take _).drop _
theorem segOf_le (l : List Int) (a b : Int) : (segOf l a b).length ≤ l.length := by unfold segOf; simp; omega
theorem decode_impl (l : List Int) (off : Int) (hb : Bytes l) (hl : l.length ≤ 4611686018427387904) : Ev (fun k => commitlog_Decode.f k l off) (decodeS l off) := by
  refine Ev.bind (dec_impl l off hb hl) ?_
  unfold decodeS
  by_cases he : (decS l off).2.2 = 0
  · obtain ⟨p, m, e, rfl, hd, hm, hpe, hel, _⟩ := decS_ok l off hb he
    rw [hd]
    dsimp only
    rw [if_pos rfl]
    refine Ev.pos rfl ?_
    by_cases h256 : (256 : Int) < m
    · rw [if_pos h256]; exact Ev.pos h256 (Ev.pure _)
    rw [if_neg h256]
    refine Ev.neg h256 (Ev.pos ⟨by omega, by omega, by omega⟩ ?_)
    unfold decE
    by_cases hs : (l.length : Int) - (e : Int) < (m : Int) + 4
    · rw [if_pos hs]; exact Ev.pos hs (Ev.pure _)
    rw [if_neg hs]
    refine Ev.neg hs ?_
    have hrf := readFixed l (e + m) hb hl (by omega)
    rw [show ((e + m : Nat) : Int) = (e : Int) + (m : Int) from by omega] at hrf
    refine Ev.bind hrf ?_
    rw [crc_impl _ (hb.seg _ _), show ((l.take (e + m + 4)).drop (e + m)) = segOf l ((e : Int) + m) ((e : Int) + m + 4) from by unfold segOf; congr 1 <;> omega]
    have hf := fields_impl (segOf l (e : Int) ((e : Int) + m)) (hb.seg _ _) (Nat.le_trans (segOf_le _ _ _) hl) 6 0 [] (by omega) (by omega)
    generalize fieldsS (segOf l (e : Int) ((e : Int) + m)) 6 0 [] = R at hf
    by_cases hc : ((crcS (segOf l (e : Int) ((e : Int) + m)) : Nat) : Int) = ((valS (segOf l ((e : Int) + m) ((e : Int) + m + 4)) : Nat) : Int)
    · rw [if_pos hc]
      refine Ev.pos hc (Ev.bind hf ?_)
      by_cases hz : R.2.2.2.2.2.2 = 0
      · refine Ev.pos hz ?_; rw [if_pos hz]; exact Ev.pure _
      · refine Ev.neg hz ?_; rw [if_neg hz]; exact Ev.pure _
    · rw [if_neg hc]; exact Ev.neg hc (Ev.pure _)
  · rw [if_neg he]; exact Ev.neg he (Ev.pure _)
theorem sum_eq (c : Nat) (hc : c < 4294967296) (b : List Int) (hb : Bytes b) (h4 : b.length = 4) : ((strOfNums (leS c 4)).toList == (strOfNums b).toList) = decide (((c : Nat) : Int) = ((valS b : Nat) : Int)) := by
  have hbb := bytesOf_strOf b hb
  have hcc := bytesOf_strOf (leS c 4) (leS_bytes c 4)
  by_cases h : c = valS b
  · have e : leS c 4 = b := by rw [h, ← h4]; exact leS_val b hb
    rw [e, decide_eq_true (by omega)]
    simp
  · rw [decide_eq_false (by omega)]
    rw [beq_eq_false_iff_ne]
    intro he
    apply h
    rw [ByteArray.toList_eq, ByteArray.toList_eq] at he
    have e : leS c 4 = b := by
      rw [← hbb, ← hcc]
      unfold bytesOf
      rw [he]
    have hv := valS_le c 4
    rw [e] at hv
    omega
theorem decode_ref (l : List Int) (off : Int) (hb : Bytes l) (hl : l.length ≤ 4611686018427387904) : Ev (fun k => laminaref24_Decode.f k l off) (decodeS l off) := by
  refine Ev.bind (dec_ref l off hb hl) ?_
  unfold decodeS
  by_cases he : (decS l off).2.2 = 0
  · obtain ⟨p, m, e, rfl, hd, hm, hpe, hel, _⟩ := decS_ok l off hb he
    rw [hd]
    dsimp only
    rw [if_pos rfl]
    refine Ev.pos rfl ?_
    by_cases h256 : (256 : Int) < m
    · rw [if_pos h256]; exact Ev.pos h256 (Ev.pure _)
    rw [if_neg h256]
    refine Ev.neg h256 (Ev.pos ⟨by omega, by omega, by omega⟩ ?_)
    unfold decE
    by_cases hs : (l.length : Int) - (e : Int) < (m : Int) + 4
    · rw [if_pos hs]; exact Ev.pos hs (Ev.pure _)
    rw [if_neg hs]
    refine Ev.neg hs ?_
    have hseg := hb.seg (e : Int) ((e : Int) + m)
    have hsl := Nat.le_trans (segOf_le l (e : Int) ((e : Int) + m)) hl
    have hs4 := hb.seg ((e : Int) + m) ((e : Int) + m + 4)
    have h4 : (segOf l ((e : Int) + m) ((e : Int) + m + 4)).length = 4 := by rw [segOf_length _ _ _ (by omega) (by omega) (by omega)]; omega
    have hf := entry_ref (segOf l (e : Int) ((e : Int) + m)) hseg hsl
    refine Ev.bind (sum_ref _ hseg hsl) ?_
    have hcs := crcS_lt _ hseg
    rw [sum_eq _ hcs _ hs4 h4]
    generalize fieldsS (segOf l (e : Int) ((e : Int) + m)) 6 0 [] = R at hf
    by_cases hc : ((crcS (segOf l (e : Int) ((e : Int) + m)) : Nat) : Int) = ((valS (segOf l ((e : Int) + m) ((e : Int) + m + 4)) : Nat) : Int)
    · rw [if_pos hc]
      refine Ev.pos (decide_eq_true hc) (Ev.bind hf ?_)
      by_cases hz : R.2.2.2.2.2.2 = 0
      · refine Ev.pos hz ?_; rw [if_pos hz]; exact Ev.pure _
      · refine Ev.neg hz ?_; rw [if_neg hz]; exact Ev.pure _
    · rw [if_neg hc]; exact Ev.neg (by rw [decide_eq_false hc]; decide) (Ev.pure _)
  · rw [if_neg he]; exact Ev.neg he (Ev.pure _)

/-! what is decoded encodes to the same bytes -/
theorem fieldsS_ok (l : List Int) (hb : Bytes l) : ∀ (n : Nat) (e0 : Nat) (acc : List Int), e0 ≤ l.length → l.take e0 = encL acc → (∀ x ∈ acc, Num x) → (fieldsS l n e0 acc).2.2.2.2.2.2 = 0 →
    ∃ (a : List Int) (e : Nat), a.length = acc.length + n ∧ e ≤ l.length ∧ l.take e = encL a ∧ (∀ x ∈ a, Num x) ∧ fieldsS l n e0 acc = entS l e a
  | 0, e0, acc, he, ht, hn, _ => ⟨acc, e0, rfl, he, ht, hn, rfl⟩
  | n + 1, e0, acc, he, ht, hn, h => by
    unfold fieldsS at h ⊢
    by_cases hz : (decS l e0).2.2 = 0
    · obtain ⟨p, m, e, hp, hd, hm, hpe, hel, henc⟩ := decS_ok l e0 hb hz
      obtain rfl : e0 = p := by omega
      rw [hd] at h ⊢
      dsimp only at h ⊢
      rw [if_pos rfl] at h ⊢
      by_cases hr : 9223372036854775807 < (m : Int)
      · rw [if_pos hr] at h
        exact absurd h (by decide)
      · rw [if_neg hr] at h ⊢
        have htake : l.take e = encL (acc ++ [(m : Int)]) := by
          have : l.take e = l.take e0 ++ (l.take e).drop e0 := by
            conv => lhs; rw [← List.take_append_drop e0 (l.take e)]
            rw [List.take_take, Nat.min_eq_left (by omega)]
          rw [this, ht, henc, encL_app]
          simp [encL]
        obtain ⟨a, e', ha, he', ht', hn', heq⟩ := fieldsS_ok l hb n e (acc ++ [(m : Int)]) hel htake (fun x hx => by
          rcases List.mem_append.1 hx with hx | hx
          · exact hn x hx
          · obtain rfl := List.mem_singleton.1 hx
            unfold Num; omega) h
        exact ⟨a, e', by rw [ha]; simp; omega, he', ht', hn', heq⟩
    · rw [if_neg hz] at h
      exact absurd h hz
theorem body_ok (l : List Int) (hb : Bytes l) (h : (fieldsS l 6 0 []).2.2.2.2.2.2 = 0) : ∃ (k i p m t : Int) (n : ByteArray), fieldsS l 6 0 [] = (k, i, p, m, t, n, 0) ∧ Good k i p m t n ∧ l = bodyS k i p m t n := by
  obtain ⟨a, e, ha, he, ht, hn, heq⟩ := fieldsS_ok l hb 6 0 [] (by omega) rfl (fun x hx => by cases hx) h
  have heq : fieldsS l 6 0 [] = entS l e a := heq
  rw [heq] at h ⊢
  obtain ⟨a0, a1, a2, a3, a4, a5, rfl⟩ : ∃ a0 a1 a2 a3 a4 a5, a = [a0, a1, a2, a3, a4, a5] := by
    match a, ha with
    | [a0, a1, a2, a3, a4, a5], _ => exact ⟨_, _, _, _, _, _, rfl⟩
  have n1 := hn a1 (by simp); have n2 := hn a2 (by simp); have n3 := hn a3 (by simp); have n4 := hn a4 (by simp); have n5 := hn a5 (by simp)
  unfold Num at n1 n2 n3 n4 n5
  unfold entS at h ⊢
  simp only [List.getD_cons_zero, List.getD_cons_succ] at h ⊢
  by_cases c1 : (l.length : Int) - (e : Int) < a5
  · rw [if_pos c1] at h; exact absurd h (by decide)
  rw [if_neg c1] at h ⊢
  by_cases c2 : a5 < (l.length : Int) - (e : Int)
  · rw [if_pos c2] at h; exact absurd h (by decide)
  rw [if_neg c2] at h ⊢
  by_cases c3 : 7 < a0
  · rw [if_pos c3] at h; exact absurd h (by decide)
  rw [if_neg c3] at h ⊢
  by_cases c4 : validB a0 a1 a2 a3 a4 (strOfNums (l.drop (e : Int).toNat)) = true
  · rw [if_pos c4]
    refine ⟨a0, a1, a2, a3, a4, _, rfl, ⟨c4, n1.2, n2.2, n3.2, n4.2⟩, ?_⟩
    unfold bodyS
    rw [bytesOf_strOf _ (hb.drop _), strOfNums_size, Int.toNat_natCast, List.length_drop, show ((l.length - e : Nat) : Int) = a5 from by omega, ← ht, List.take_append_drop]
  · rw [if_neg c4] at h; exact absurd h (by decide)
theorem decodeS_ok (l : List Int) (off : Int) (hb : Bytes l) (h : (decodeS l off).2.2.2.2.2.2.2 = 0) :
    ∃ (k i p m t : Int) (n : ByteArray) (o e : Nat), off = (o : Int) ∧ decodeS l off = (k, i, p, m, t, n, (e : Int), 0) ∧ o < e ∧ e ≤ l.length ∧ Good k i p m t n ∧ (l.take e).drop o = recS k i p m t n := by
  unfold decodeS at h ⊢
  by_cases he : (decS l off).2.2 = 0
  · obtain ⟨o, b, e, rfl, hd, hm, hpe, hel, henc⟩ := decS_ok l off hb he
    rw [hd] at h ⊢
    dsimp only at h ⊢
    rw [if_pos rfl] at h ⊢
    by_cases h256 : (256 : Int) < b
    · rw [if_pos h256] at h; exact absurd h (by decide)
    rw [if_neg h256] at h ⊢
    unfold decE at h ⊢
    by_cases hs : (l.length : Int) - (e : Int) < (b : Int) + 4
    · rw [if_pos hs] at h; exact absurd h (by decide)
    rw [if_neg hs] at h ⊢
    have hs4 := hb.seg ((e : Int) + b) ((e : Int) + b + 4)
    have h4 : (segOf l ((e : Int) + b) ((e : Int) + b + 4)).length = 4 := by rw [segOf_length _ _ _ (by omega) (by omega) (by omega)]; omega
    by_cases hc : ((crcS (segOf l (e : Int) ((e : Int) + b)) : Nat) : Int) = ((valS (segOf l ((e : Int) + b) ((e : Int) + b + 4)) : Nat) : Int)
    · rw [if_pos hc] at h ⊢
      by_cases hz : (fieldsS (segOf l (e : Int) ((e : Int) + b)) 6 0 []).2.2.2.2.2.2 = 0
      · rw [if_pos hz]
        obtain ⟨k, i, p, m, t, n, hF, hG, hB⟩ := body_ok _ (hb.seg _ _) hz
        rw [hF]
        refine ⟨k, i, p, m, t, n, o, e + b + 4, rfl, by simp, by omega, by omega, hG, ?_⟩
        have hblen : (bodyS k i p m t n).length = b := by rw [← hB, segOf_length _ _ _ (by omega) (by omega) (by omega)]; omega
        have hsum : segOf l ((e : Int) + b) ((e : Int) + b + 4) = leS (crcS (bodyS k i p m t n)) 4 := by
          have := leS_val _ hs4
          rw [h4] at this
          rw [← this, ← hB, show valS (segOf l ((e : Int) + b) ((e : Int) + b + 4)) = crcS (segOf l (e : Int) ((e : Int) + b)) from by omega]
        unfold recS recOf
        rw [hblen, ← henc, ← hsum, ← hB]
        unfold segOf
        simp only [show ((e : Int) + b).toNat = e + b from by omega, show ((e : Int) + b + 4).toNat = e + b + 4 from by omega, Int.toNat_natCast]
        have c1 : (l.take e).drop o ++ (l.take (e + b)).drop e = (l.take (e + b)).drop o := by
          have : l.take (e + b) = l.take e ++ (l.take (e + b)).drop e := by
            conv => lhs; rw [← List.take_append_drop e (l.take (e + b))]
            rw [List.take_take, Nat.min_eq_left (by omega)]
          conv => rhs; rw [this]
          rw [List.drop_append_of_le_length (by simp; omega)]
        have c2 : (l.take (e + b)).drop o ++ (l.take (e + b + 4)).drop (e + b) = (l.take (e + b + 4)).drop o := by
          have : l.take (e + b + 4) = l.take (e + b) ++ (l.take (e + b + 4)).drop (e + b) := by
            conv => lhs; rw [← List.take_append_drop (e + b) (l.take (e + b + 4))]
            rw [List.take_take, Nat.min_eq_left (by omega)]
          conv => rhs; rw [this]
          rw [List.drop_append_of_le_length (by simp; omega)]
        rw [c1, c2]
      · rw [if_neg hz] at h
        exact absurd h hz
    · rw [if_neg hc] at h; exact absurd h (by decide)
  · rw [if_neg he] at h
    exact absurd h he
end Go.Proofs.Ytfkgpmidcbjlbaa.U
end
section
set_option linter.unusedVariables false
set_option linter.unusedSimpArgs false
/- commitlog.Scan. -/
namespace Go.Proofs.Ytfkgpmidcbjlbaa.P
open Go.RowKit Go.Proofs.Ytfkgpmidcbjlbaa.H Go.Proofs.YtfkgpmidcbjlbaaW.PrintWords
abbrev LE := S23
def leOf (d : DR) : LE := ⟨d.1, d.2.1, d.2.2.1, d.2.2.2.1, d.2.2.2.2.1, d.2.2.2.2.2.1⟩
def commitlog_Scan.l0 : Nat → List Int → List LE → Int → Option (List LE × Int)
  | 0, _, _, _ => none
  | k + 1, l, out, at_ =>
    if at_ < (l.length : Int) then
      (commitlog_Decode.f k l at_).bind fun d =>
        if d.2.2.2.2.2.2.2 = 0 then (if out.length = 65536 then some (out, at_) else if out.length < 65536 then commitlog_Scan.l0 k l (out ++ [leOf d]) d.2.2.2.2.2.2.1 else none) else some (out, at_)
    else some (out, at_)
def commitlog_Scan.f (k : Nat) (l : List Int) : Option (List LE × Int) := commitlog_Scan.l0 k l [] 0
theorem commitlog_Scan.mono_l : ∀ k, ∀ y0 y1 y2, LeO (commitlog_Scan.l0 k y0 y1 y2) (commitlog_Scan.l0 (k + 1) y0 y1 y2)
  | 0 => fun _ _ _ r h => by simp [commitlog_Scan.l0] at h
  | k + 1 => fun y0 y1 y2 => by
    have ih := commitlog_Scan.mono_l k
    rw [commitlog_Scan.l0, commitlog_Scan.l0]
    exact LeO.ite (LeO.bind (commitlog_Decode.mono _ _ _) (fun _ => LeO.ite (LeO.ite (LeO.refl _) (LeO.ite (ih _ _ _) (LeO.refl _))) (LeO.refl _))) (LeO.refl _)
theorem commitlog_Scan.mono : ∀ a0 k, LeO (commitlog_Scan.f k a0) (commitlog_Scan.f (k + 1) a0) := fun a0 k => commitlog_Scan.mono_l k _ _ _
end Go.Proofs.Ytfkgpmidcbjlbaa.P
namespace Go.Proofs.Ytfkgpmidcbjlbaa.H
open Go.RowKit Go.Proofs.YtfkgpmidcbjlbaaW.PrintWords Go.Proofs.Ytfkgpmidcbjlbaa.P

set_option maxRecDepth 100000 in
set_option maxHeartbeats 4000000 in
theorem scan_calls (k : Nat) (A0 : Option Addr) (c0 : Nat) (l0 : List Int) (r1 : List LE) (r2 : Int) (w : World) (hr0 : Kd.C (Kd.int .u8) w A0 l0.length l0) (hc0 : l0.length ≤ c0) (h : commitlog_Scan.f k l0 = some (r1, r2)) :
    Calls Try.prog 13 #[.slice A0 l0.length c0] w fun e w' => ∃ v0_ : Value, e = .returned (.tuple #[v0_, .int .i64 r2]) ∧ Kd.R k23 23 w' w.heap.size (fun _ => True) v0_ r1 ∧ Below w.heap.size w w' := by
  have HR := hid hr0
  have HC := hid hc0
  have HF := hid (show commitlog_Scan.l0 k l0 [] 0 = some (r1, r2) from h)
  clear hr0 hc0 h
  go_enter Try.func13, Try.ntmps13
  go_wp2
  go_step3
  go_wp2
  go_step3
  go_wp2
  go_loopg [4, 5] k (fun kq v u wr => ∃ (out : List LE) (at_ : Int), u = .int .i64 at_ ∧ Hid (kq ≤ k) ∧ Hid (commitlog_Scan.l0 kq l0 out at_ = some (r1, r2)) ∧ Hid (Kd.R k23 23 wr w.heap.size (fun _ => True) v out) ∧ Hid (Below w.heap.size w wr))
  case atStart => exact ⟨[], 0, rfl, Nat.le_refl _, HF, Kd.R_nil _ _ _ _ _, Below.refl _ _⟩
  case round =>
    obtain ⟨out, at_, rfl, HK, HG, HO, HB⟩ := hrel
    clear HF
    cases gk with
    | zero => exact absurd HG.out (by simp [commitlog_Scan.l0])
    | succ kq =>
      have hg := HG.out
      rw [commitlog_Scan.l0] at hg
      clear HG
      obtain ⟨Ao, co, rfl⟩ := Kd.R_slice HO.out
      by_cases hlt : at_ < (l0.length : Int)
      · rw [if_pos hlt, Option.bind_eq_some_iff] at hg
        obtain ⟨⟨d1, d2, d3, d4, d5, d6, d7, d8⟩, hd, hg⟩ := hg
        have HD := hid hd
        dsimp only at hg
        clear hd
        by_cases h8 : d8 = 0
        · subst h8
          rw [if_pos rfl] at hg
          by_cases h65 : out.length = 65536
          · rw [if_pos h65] at hg
            simp only [Option.some.injEq, Prod.mk.injEq] at hg
            obtain ⟨rfl, rfl⟩ := hg
            have hb65 : ((out.length : Int) == 65536) = true := by rw [h65]; rfl
            clear h65
            go_wp2_with (go_at_call 11; refine (commitlog_Decode.calls kq A0 c0 l0 at_ d1 d2 d3 d4 d5 d6 d7 0 _ (Kd.C_below HR.out HB.out) HC.out HD.out).mono ?_; rintro e w4 ⟨rfl, hb4⟩; have HO4 := hid (Kd.R_below HO.out hb4); have HB4 := hid (HB.out.trans (hb4.mono HB.out.size)); clear hb4)
            rw [Exit.noGoto_ret]
            go_ret2
            exact ⟨_, rfl, Kd.R_alloc HO4.out _, HB4.out.alloc HB4.out.size _⟩
          · rw [if_neg h65] at hg
            by_cases hl65 : out.length < 65536
            · rw [if_pos hl65] at hg
              have HG := hid hg
              have hb65 : ((out.length : Int) == 65536) = false := by simp; omega
              clear hg h65
              go_wp2_with (first
                | (go_at_call 11; refine (commitlog_Decode.calls kq A0 c0 l0 at_ d1 d2 d3 d4 d5 d6 d7 0 _ (Kd.C_below HR.out HB.out) HC.out HD.out).mono ?_; rintro e w4 ⟨rfl, hb4⟩; have HO4 := hid (Kd.R_below HO.out hb4); have HB4 := hid (HB.out.trans (hb4.mono HB.out.size)); clear hb4)
                | (at_builtin; refine Kd.R_append k23 (w0 := w) w.heap.size rfl (.tmp 26) (.tmp 28) 36 23 (.agg #[(.int .i64 0), (.int .i64 0), (.int .i64 0), (.int .i64 0), (.int .i64 0), (.string ⟨#[]⟩)]) 56 rfl Try.underlying36 info23 rfl (by decide) (by decide) _ out (⟨d1, d2, d3, d4, d5, d6⟩ : LE) [.int .i64 d1, .int .i64 d2, .int .i64 d3, .int .i64 d4, .int .i64 d5, .string d6] (fun _ => True) (fun _ => False) rfl (by first | (go_simp; done) | (go_simp; rfl)) (k23_mkM _ _ _ (⟨d1, d2, d3, d4, d5, d6⟩ : LE)) (fun _ hk => hk.elim) (fun _ _ => trivial) (Kd.R_alloc HO4.out _) (HB4.out.alloc HB4.out.size _) (HB4.out.alloc HB4.out.size _).size (by omega) ?_; intro v5 w5 ho5 hb5 _ _; have HO5 := hid ho5; have HB5 := hid hb5; clear ho5 hb5))
              go_roundg kq
              case measure => omega
              case rel => exact ⟨_, d7, rfl, hid (by have := HK.out; omega), HG, HO5, HB5⟩
            · rw [if_neg hl65] at hg
              exact absurd hg (by simp)
        · rw [if_neg h8] at hg
          simp only [Option.some.injEq, Prod.mk.injEq] at hg
          obtain ⟨rfl, rfl⟩ := hg
          have hb8 : (d8 != 0) = true := by simpa using h8
          clear h8
          go_wp2_with (go_at_call 11; refine (commitlog_Decode.calls kq A0 c0 l0 at_ d1 d2 d3 d4 d5 d6 d7 d8 _ (Kd.C_below HR.out HB.out) HC.out HD.out).mono ?_; rintro e w4 ⟨rfl, hb4⟩; have HO4 := hid (Kd.R_below HO.out hb4); have HB4 := hid (HB.out.trans (hb4.mono HB.out.size)); clear hb4)
          rw [Exit.noGoto_ret]
          go_ret2
          exact ⟨_, rfl, Kd.R_alloc HO4.out _, HB4.out.alloc HB4.out.size _⟩
      · rw [if_neg hlt] at hg
        simp only [Option.some.injEq, Prod.mk.injEq] at hg
        obtain ⟨rfl, rfl⟩ := hg
        go_wp2
        go_ret2
        exact ⟨_, rfl, HO.out, HB.out⟩
end Go.Proofs.Ytfkgpmidcbjlbaa.H
namespace Go.Proofs.Ytfkgpmidcbjlbaa.P
open Go.RowKit Go.Proofs.Ytfkgpmidcbjlbaa.H Go.Proofs.YtfkgpmidcbjlbaaW.PrintWords
theorem commitlog_Scan.calls (k : Nat) (A0 : Option Addr) (c0 : Nat) (l0 : List Int) (r1 : List (S23)) (r2 : Int) (w : World) (hr0 : Kd.C (Kd.int .u8) w A0 l0.length l0) (hc0 : l0.length ≤ c0) (h : commitlog_Scan.f k l0 = some (r1, r2)) :
    Calls Try.prog 13 #[.slice A0 l0.length c0] w fun e w' => ∃ v0_ : Value, e = .returned (.tuple #[v0_, .int .i64 r2]) ∧ Kd.R k23 23 w' w.heap.size (fun _ => True) v0_ r1 ∧ Below w.heap.size w w' :=
  scan_calls k A0 c0 l0 r1 r2 w hr0 hc0 h
end Go.Proofs.Ytfkgpmidcbjlbaa.P
end
