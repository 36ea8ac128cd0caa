/- Part 2 of a proof; each section was a text of its own. -/
import Derived.Test.YtfkgpmidcbjlbaaDu1
import Derived.Deep.RegionHeld3
import Derived.Laws.CopyOwn
section
set_option linter.unusedVariables false
set_option linter.unusedSimpArgs false
-- Written by a program of this session (a printer of walks).
namespace Go.Proofs.Ytfkgpmidcbjlbaa.P
open Go.RowKit Go.Proofs.YtfkgpmidcbjlbaaW.PrintWords Go.Proofs.YtfkgpmidcbjlbaaW.PrintLast Go.Proofs.YtfkgpmidcbjlbaaW.PrintMore
attribute [local go_sem] max2_int min2_int max_two min_two max_three min_three max_four min_four   -- for this text's walks alone
set_option linter.unusedVariables false
set_option linter.unusedSimpArgs false

/-! ### laminaref05_IsIdent: function 37 -/
mutual
def laminaref05_IsIdent.j0 : Nat → ByteArray → Bool → Option (Bool)
  | 0, _, _ => none
  | k + 1, x0, x17 => if x17 = true then (some false) else (laminaref05_IsIdent.l0 k x0 1)
def laminaref05_IsIdent.l0 : Nat → ByteArray → Int → Option (Bool)
  | 0, _, _ => none
  | k + 1, x0, x3 => if x3 < (x0.size : Int) then (if 0 ≤ x3 then ((laminaref05_letter.f (bt x0 x3)).bind fun t258 => (if t258 = true then (laminaref05_IsIdent.l0 k x0 (wrap64 (x3 + 1))) else ((laminaref05_digit.f (bt x0 x3)).bind fun t259 => (if t259 = true then (laminaref05_IsIdent.l0 k x0 (wrap64 (x3 + 1))) else (if (bt x0 x3) = 95 then (laminaref05_IsIdent.l0 k x0 (wrap64 (x3 + 1))) else (some false)))))) else (none)) else (some true)
end
def laminaref05_IsIdent.f (k : Nat) (a0 : ByteArray) : Option (Bool) := if (a0.size : Int) < 1 then (laminaref05_IsIdent.j0 k a0 true) else (if (a0.size : Int) > 32 then (laminaref05_IsIdent.j0 k a0 true) else (if 0 < (a0.size : Int) then ((laminaref05_letter.f (bt a0 0)).bind fun t257 => (laminaref05_IsIdent.j0 k a0 (!t257))) else (none)))
theorem laminaref05_IsIdent.mono_l : ∀ k, (∀ y0 y1, LeO (laminaref05_IsIdent.j0 k y0 y1) (laminaref05_IsIdent.j0 (k + 1) y0 y1)) ∧ (∀ y0 y1, LeO (laminaref05_IsIdent.l0 k y0 y1) (laminaref05_IsIdent.l0 (k + 1) y0 y1))
  | 0 => ⟨fun _ _ r h => by simp [laminaref05_IsIdent.j0] at h, fun _ _ r h => by simp [laminaref05_IsIdent.l0] at h⟩
  | k + 1 => by
    obtain ⟨ih0, ih1⟩ := laminaref05_IsIdent.mono_l k
    refine ⟨?_, ?_⟩
    · intro y0 y1
      unfold laminaref05_IsIdent.j0
      repeat' first
      | (with_reducible exact ih0 _ _)
      | (with_reducible exact ih1 _ _)
      | (with_reducible exact LeO.refl _)
      | (with_reducible exact LeO.none _)
      | (with_reducible refine LeO.ite ?_ ?_)
      | (with_reducible refine LeO.bind ?_ (fun _ => ?_))
      | exact ih0 _ _
      | exact ih1 _ _
      | exact LeO.none _
      | refine LeO.ite ?_ ?_
      | refine LeO.bind ?_ (fun _ => ?_)
    · intro y0 y1
      unfold laminaref05_IsIdent.l0
      repeat' first
      | (with_reducible exact ih0 _ _)
      | (with_reducible exact ih1 _ _)
      | (with_reducible exact LeO.refl _)
      | (with_reducible exact LeO.none _)
      | (with_reducible refine LeO.ite ?_ ?_)
      | (with_reducible refine LeO.bind ?_ (fun _ => ?_))
      | exact ih0 _ _
      | exact ih1 _ _
      | exact LeO.none _
      | refine LeO.ite ?_ ?_
      | refine LeO.bind ?_ (fun _ => ?_)
theorem laminaref05_IsIdent.mono : ∀ a0 k, LeO (laminaref05_IsIdent.f k a0) (laminaref05_IsIdent.f (k + 1) a0) := by
  intro a0 k
  obtain ⟨ih0, ih1⟩ := laminaref05_IsIdent.mono_l k
  unfold laminaref05_IsIdent.f
  repeat' first
      | (with_reducible exact ih0 _ _)
      | (with_reducible exact ih1 _ _)
      | (with_reducible exact LeO.refl _)
      | (with_reducible exact LeO.none _)
      | (with_reducible refine LeO.ite ?_ ?_)
      | (with_reducible refine LeO.bind ?_ (fun _ => ?_))
      | exact ih0 _ _
      | exact ih1 _ _
      | exact LeO.none _
      | refine LeO.ite ?_ ?_
      | refine LeO.bind ?_ (fun _ => ?_)
set_option maxHeartbeats 8000000 in
set_option maxRecDepth 100000 in
theorem laminaref05_IsIdent.calls (k : Nat) (a0 : ByteArray) (r : Bool) (w : World) (h : laminaref05_IsIdent.f k a0 = some r) :
    Calls Try.prog 37 #[.string a0] w fun e w' => e = .returned (.bool r) ∧ Drawn0 w w' := by
  have H : (if (a0.size : Int) < 1 then (laminaref05_IsIdent.j0 k a0 true) else (if (a0.size : Int) > 32 then (laminaref05_IsIdent.j0 k a0 true) else (if 0 < (a0.size : Int) then ((laminaref05_letter.f (bt a0 0)).bind fun t257 => (laminaref05_IsIdent.j0 k a0 (!t257))) else (none)))) = some r := h
  clear h
  have HC2 := Aside0.mk H
  clear H
  go_enter Try.func37, Try.ntmps37
  go_upto_region 1 with (fail)
  go_cut [17] (fun v17 wc => ∃ (kq : Nat) (x17_1 : Bool), v17 = .bool x17_1 ∧ Aside0 (laminaref05_IsIdent.j0 kq a0 x17_1 = some r) ∧ Aside0 (kq ≤ k) ∧ Drawn0 w wc)
  case first =>
    have H := HC2.out
    clear HC2
    by_cases c3 : (a0.size : Int) < 1
    · rw [if_pos c3] at H
      have c3b0 : decide ((a0.size : Int) < 1) = true := decide_eq_true c3
      have c3b1 : decide (a0.size < 1) = true := decide_eq_true (by omega)
      clear c3
      (first | rw [c3b0] | (simp only [i64_w, i32_w]; rw [c3b0]) | skip)
      have H' := Aside0.mk H
      clear H
      go_wp2
      go_meet
      case rel => exact ⟨_, (true), (by first | rfl | (simp; done) | (simp [*]; done)), H', ⟨by first | omega | exact Nat.le_refl _⟩, by repeat (first | exact Drawn0.refl _ | apply Drawn0.step)⟩
    · rw [if_neg c3] at H
      have c3b0 : decide ((a0.size : Int) < 1) = false := decide_eq_false c3
      have c3b1 : decide (a0.size < 1) = false := decide_eq_false (by omega)
      clear c3
      (first | rw [c3b0] | (simp only [i64_w, i32_w]; rw [c3b0]) | skip)
      by_cases c4 : (a0.size : Int) > 32
      · rw [if_pos c4] at H
        have c4b0 : decide (32 < (a0.size : Int)) = true := decide_eq_true c4
        have c4b1 : decide (32 < a0.size) = true := decide_eq_true (by omega)
        clear c4
        have H' := Aside0.mk H
        clear H
        go_wp2
        go_meet
        case rel => exact ⟨_, (true), (by first | rfl | (simp; done) | (simp [*]; done)), H', ⟨by first | omega | exact Nat.le_refl _⟩, by repeat (first | exact Drawn0.refl _ | apply Drawn0.step)⟩
      · rw [if_neg c4] at H
        have c4b0 : decide (32 < (a0.size : Int)) = false := decide_eq_false c4
        have c4b1 : decide (32 < a0.size) = false := decide_eq_false (by omega)
        clear c4
        by_cases c5 : 0 < (a0.size : Int)
        · rw [if_pos c5] at H
          have c5b0 : decide (0 < (a0.size : Int)) = true := decide_eq_true c5
          have c5b1 : decide (0 < a0.size) = true := decide_eq_true (by omega)
          clear c5
          replace H := Option.bind_eq_some_iff.mp H
          obtain ⟨t257, A70, H⟩ := H
          replace H : (laminaref05_IsIdent.j0 k a0 (!t257)) = some r := H
          have A7 := Aside0.mk A70
          clear A70
          have H' := Aside0.mk H
          clear H
          have p6 : 0 ≤ (0 : Int) := (by omega)
          have q6 : 0 < a0.size := (by have : (0 : Int) < (a0.size : Int) := of_decide_eq_true (by first | (with_reducible assumption) | assumption); omega)
          have hx6 : ∀ h : 0 < a0.size, ((a0[0]'h).toNat : Int) = bt a0 0 := bt_at a0 0
          clear p6
          have qi6 : (0 < (a0.size : Int)) = True := eq_true (of_decide_eq_true (by first | (with_reducible assumption) | assumption))
          replace q6 := eq_true q6
          go_wp2_with (first | (go_at_call 63; (with_reducible refine (laminaref05_letter.calls (bt a0 0) t257 _ A7.out).mono ?_); rintro e w' ⟨rfl, ⟨nd, rfl⟩⟩))
          go_meet
          case rel => exact ⟨_, (!t257), (by first | rfl | (simp; done) | (simp [*]; done)), H', ⟨by first | omega | exact Nat.le_refl _⟩, by repeat (first | exact Drawn0.refl _ | apply Drawn0.step)⟩
        · rw [if_neg c5] at H
          exact absurd H (by simp)
  case rest =>
    clear HC2
    try clear p2
    try clear c3
    try clear c3b0
    try clear c3b1
    try clear c4
    try clear c4b0
    try clear c4b1
    try clear c5
    try clear c5b0
    try clear c5b1
    try clear p6
    try clear q6
    try clear hx6
    try clear qi6
    try clear p6
    try clear q6
    obtain ⟨kq, x17_1, rfl, HA, HJ1, ⟨mc1, rfl⟩⟩ := hcut
    cases kq with
    | zero => exact absurd HA.out (by simp [laminaref05_IsIdent.j0])
    | succ kj1 =>
      have H := HA.out
      clear HA
      simp only [laminaref05_IsIdent.j0] at H
      by_cases c8 : x17_1 = true
      · subst c8
        have H1 : (some false) = some r := by rw [if_pos rfl] at H; exact H
        clear H
        have H := H1
        clear H1
        obtain rfl := Option.some.inj H
        go_wp2
        go_ret
        exact ⟨by first | rfl | (simp; done) | (simp [*]; done), by repeat (first | exact Drawn0.refl _ | apply Drawn0.step)⟩
      · replace c8 := Bool.eq_false_iff.mpr c8
        subst c8
        have H1 : (laminaref05_IsIdent.l0 kj1 a0 1) = some r := by rw [if_neg (show ¬ (false = true) by decide)] at H; exact H
        clear H
        have H := H1
        clear H1
        have H' := Aside0.mk H
        clear H
        go_wp2
        go_loopg [3] kj1 (fun kq v3 w' => ∃ (x3_2 : Int), v3 = .int .i64 x3_2 ∧ Aside0 (laminaref05_IsIdent.l0 kq a0 x3_2 = some r) ∧ Aside0 (kq ≤ kj1) ∧ Drawn0 w w')
        case atStart => exact ⟨(1), (by first | rfl | (simp; done) | (simp [*]; done)), H', ⟨Nat.le_refl _⟩, by repeat (first | exact Drawn0.refl _ | apply Drawn0.step)⟩
        case round =>
          clear H'
          try clear c1
          try clear p2
          try clear c3
          try clear c3b0
          try clear c3b1
          try clear c4
          try clear c4b0
          try clear c4b1
          try clear c5
          try clear c5b0
          try clear c5b1
          try clear p6
          try clear q6
          try clear hx6
          try clear qi6
          try clear c8
          try clear p2
          try clear p6
          try clear q6
          obtain ⟨x3_2, rfl, HA, HK2, ⟨m2, rfl⟩⟩ := hrel
          cases gk with
          | zero => exact absurd HA.out (by simp [laminaref05_IsIdent.l0])
          | succ k2 =>
            have H := HA.out
            clear HA
            simp only [laminaref05_IsIdent.l0] at H
            by_cases c9 : x3_2 < (a0.size : Int)
            · rw [if_pos c9] at H
              have c9b0 : decide (x3_2 < (a0.size : Int)) = true := decide_eq_true c9
              clear c9
              by_cases c10 : 0 ≤ x3_2
              · rw [if_pos c10] at H
                have c10b0 : decide (0 ≤ x3_2) = true := decide_eq_true c10
                clear c10
                replace H := Option.bind_eq_some_iff.mp H
                obtain ⟨t258, A120, H⟩ := H
                replace H : (if t258 = true then (laminaref05_IsIdent.l0 k2 a0 (wrap64 (x3_2 + 1))) else ((laminaref05_digit.f (bt a0 x3_2)).bind fun t259 => (if t259 = true then (laminaref05_IsIdent.l0 k2 a0 (wrap64 (x3_2 + 1))) else (if (bt a0 x3_2) = 95 then (laminaref05_IsIdent.l0 k2 a0 (wrap64 (x3_2 + 1))) else (some false))))) = some r := H
                have A12 := Aside0.mk A120
                clear A120
                by_cases c13 : t258 = true
                · subst c13
                  have H1 : (laminaref05_IsIdent.l0 k2 a0 (wrap64 (x3_2 + 1))) = some r := by rw [if_pos rfl] at H; exact H
                  clear H
                  have H := H1
                  clear H1
                  have H' := Aside0.mk H
                  clear H
                  have p11 : 0 ≤ (x3_2 : Int) := of_decide_eq_true (by first | (with_reducible assumption) | assumption)
                  have q11 : x3_2 < (a0.size : Int) := of_decide_eq_true (by first | (with_reducible assumption) | assumption)
                  have hx11 := bt_at a0 x3_2
                  replace p11 := eq_true p11
                  replace q11 := eq_true q11
                  go_wp2_with (first | ((with_reducible refine gate_callee (f := 63) rfl ?_); refine goesL_ (some 27) rfl rfl Try.func63 (by kernel_rfl) rfl #[.int .u8 (bt a0 x3_2)] rfl (by (try simp only [List.map_toArray, List.map_cons, List.map_nil]); first | done | rfl | (simp only [List.length_drop, List.length_take]; rfl)) ?_; (with_reducible refine (laminaref05_letter.calls (bt a0 x3_2) true _ A12.out).mono ?_); rintro e w' ⟨rfl, ⟨nd, rfl⟩⟩; refine ⟨_, rfl, ?_⟩))
                  go_roundg k2
                  case measure => have := HJ1.out; have := HK2.out; omega
                  case rel => exact ⟨(wrap64 (x3_2 + 1)), (by first | rfl | (simp; done) | (simp [*]; done)), H', ⟨by have := HJ1.out; have := HK2.out; omega⟩, by repeat (first | exact Drawn0.refl _ | apply Drawn0.step)⟩
                · replace c13 := Bool.eq_false_iff.mpr c13
                  subst c13
                  have H1 : ((laminaref05_digit.f (bt a0 x3_2)).bind fun t259 => (if t259 = true then (laminaref05_IsIdent.l0 k2 a0 (wrap64 (x3_2 + 1))) else (if (bt a0 x3_2) = 95 then (laminaref05_IsIdent.l0 k2 a0 (wrap64 (x3_2 + 1))) else (some false)))) = some r := by rw [if_neg (show ¬ (false = true) by decide)] at H; exact H
                  clear H
                  have H := H1
                  clear H1
                  replace H := Option.bind_eq_some_iff.mp H
                  obtain ⟨t259, A150, H⟩ := H
                  replace H : (if t259 = true then (laminaref05_IsIdent.l0 k2 a0 (wrap64 (x3_2 + 1))) else (if (bt a0 x3_2) = 95 then (laminaref05_IsIdent.l0 k2 a0 (wrap64 (x3_2 + 1))) else (some false))) = some r := H
                  have A15 := Aside0.mk A150
                  clear A150
                  by_cases c16 : t259 = true
                  · subst c16
                    have H1 : (laminaref05_IsIdent.l0 k2 a0 (wrap64 (x3_2 + 1))) = some r := by rw [if_pos rfl] at H; exact H
                    clear H
                    have H := H1
                    clear H1
                    have H' := Aside0.mk H
                    clear H
                    have p11 : 0 ≤ (x3_2 : Int) := of_decide_eq_true (by first | (with_reducible assumption) | assumption)
                    have q11 : x3_2 < (a0.size : Int) := of_decide_eq_true (by first | (with_reducible assumption) | assumption)
                    have hx11 := bt_at a0 x3_2
                    replace p11 := eq_true p11
                    replace q11 := eq_true q11
                    go_wp2_with (first | ((with_reducible refine gate_callee (f := 63) rfl ?_); refine goesL_ (some 27) rfl rfl Try.func63 (by kernel_rfl) rfl #[.int .u8 (bt a0 x3_2)] rfl (by (try simp only [List.map_toArray, List.map_cons, List.map_nil]); first | done | rfl | (simp only [List.length_drop, List.length_take]; rfl)) ?_; (with_reducible refine (laminaref05_letter.calls (bt a0 x3_2) false _ A12.out).mono ?_); rintro e w' ⟨rfl, ⟨nd, rfl⟩⟩; refine ⟨_, rfl, ?_⟩; have p14 : 0 ≤ (x3_2 : Int) := of_decide_eq_true (by first | (with_reducible assumption) | assumption); have q14 : x3_2 < (a0.size : Int) := of_decide_eq_true (by first | (with_reducible assumption) | assumption); have hx14 := bt_at a0 x3_2; replace p14 := eq_true p14; replace q14 := eq_true q14) | (go_at_call 64; (with_reducible refine (laminaref05_digit.calls (bt a0 x3_2) true _ A15.out).mono ?_); rintro e w' ⟨rfl, ⟨nd, rfl⟩⟩))
                    go_roundg k2
                    case measure => have := HJ1.out; have := HK2.out; omega
                    case rel => exact ⟨(wrap64 (x3_2 + 1)), (by first | rfl | (simp; done) | (simp [*]; done)), H', ⟨by have := HJ1.out; have := HK2.out; omega⟩, by repeat (first | exact Drawn0.refl _ | apply Drawn0.step)⟩
                  · replace c16 := Bool.eq_false_iff.mpr c16
                    subst c16
                    have H1 : (if (bt a0 x3_2) = 95 then (laminaref05_IsIdent.l0 k2 a0 (wrap64 (x3_2 + 1))) else (some false)) = some r := by rw [if_neg (show ¬ (false = true) by decide)] at H; exact H
                    clear H
                    have H := H1
                    clear H1
                    by_cases c18 : (bt a0 x3_2) = 95
                    · rw [if_pos c18] at H
                      have c18b0 : ((bt a0 x3_2) == 95) = true := beq_iff_eq.mpr c18
                      have c18b1 : ((bt a0 x3_2) != 95) = false := bne_eq_false_iff_eq.mpr c18
                      clear c18
                      have H' := Aside0.mk H
                      clear H
                      have p11 : 0 ≤ (x3_2 : Int) := of_decide_eq_true (by first | (with_reducible assumption) | assumption)
                      have q11 : x3_2 < (a0.size : Int) := of_decide_eq_true (by first | (with_reducible assumption) | assumption)
                      have hx11 := bt_at a0 x3_2
                      replace p11 := eq_true p11
                      replace q11 := eq_true q11
                      go_wp2_with (first | ((with_reducible refine gate_callee (f := 63) rfl ?_); refine goesL_ (some 27) rfl rfl Try.func63 (by kernel_rfl) rfl #[.int .u8 (bt a0 x3_2)] rfl (by (try simp only [List.map_toArray, List.map_cons, List.map_nil]); first | done | rfl | (simp only [List.length_drop, List.length_take]; rfl)) ?_; (with_reducible refine (laminaref05_letter.calls (bt a0 x3_2) false _ A12.out).mono ?_); rintro e w' ⟨rfl, ⟨nd, rfl⟩⟩; refine ⟨_, rfl, ?_⟩; have p14 : 0 ≤ (x3_2 : Int) := of_decide_eq_true (by first | (with_reducible assumption) | assumption); have q14 : x3_2 < (a0.size : Int) := of_decide_eq_true (by first | (with_reducible assumption) | assumption); have hx14 := bt_at a0 x3_2; replace p14 := eq_true p14; replace q14 := eq_true q14) | (go_at_call 64; (with_reducible refine (laminaref05_digit.calls (bt a0 x3_2) false _ A15.out).mono ?_); rintro e w' ⟨rfl, ⟨nd, rfl⟩⟩; have p17 : 0 ≤ (x3_2 : Int) := of_decide_eq_true (by first | (with_reducible assumption) | assumption); have q17 : x3_2 < (a0.size : Int) := of_decide_eq_true (by first | (with_reducible assumption) | assumption); have hx17 := bt_at a0 x3_2; replace p17 := eq_true p17; replace q17 := eq_true q17))
                      go_roundg k2
                      case measure => have := HJ1.out; have := HK2.out; omega
                      case rel => exact ⟨(wrap64 (x3_2 + 1)), (by first | rfl | (simp; done) | (simp [*]; done)), H', ⟨by have := HJ1.out; have := HK2.out; omega⟩, by repeat (first | exact Drawn0.refl _ | apply Drawn0.step)⟩
                    · rw [if_neg c18] at H
                      have c18b0 : ((bt a0 x3_2) == 95) = false := beq_eq_false_iff_ne.mpr c18
                      have c18b1 : ((bt a0 x3_2) != 95) = true := bne_iff_ne.mpr c18
                      obtain rfl := Option.some.inj H
                      have p11 : 0 ≤ (x3_2 : Int) := of_decide_eq_true (by first | (with_reducible assumption) | assumption)
                      have q11 : x3_2 < (a0.size : Int) := of_decide_eq_true (by first | (with_reducible assumption) | assumption)
                      have hx11 := bt_at a0 x3_2
                      replace p11 := eq_true p11
                      replace q11 := eq_true q11
                      go_wp2_with (first | ((with_reducible refine gate_callee (f := 63) rfl ?_); refine goesL_ (some 27) rfl rfl Try.func63 (by kernel_rfl) rfl #[.int .u8 (bt a0 x3_2)] rfl (by (try simp only [List.map_toArray, List.map_cons, List.map_nil]); first | done | rfl | (simp only [List.length_drop, List.length_take]; rfl)) ?_; (with_reducible refine (laminaref05_letter.calls (bt a0 x3_2) false _ A12.out).mono ?_); rintro e w' ⟨rfl, ⟨nd, rfl⟩⟩; refine ⟨_, rfl, ?_⟩; have p14 : 0 ≤ (x3_2 : Int) := of_decide_eq_true (by first | (with_reducible assumption) | assumption); have q14 : x3_2 < (a0.size : Int) := of_decide_eq_true (by first | (with_reducible assumption) | assumption); have hx14 := bt_at a0 x3_2; replace p14 := eq_true p14; replace q14 := eq_true q14) | (go_at_call 64; (with_reducible refine (laminaref05_digit.calls (bt a0 x3_2) false _ A15.out).mono ?_); rintro e w' ⟨rfl, ⟨nd, rfl⟩⟩; have p17 : 0 ≤ (x3_2 : Int) := of_decide_eq_true (by first | (with_reducible assumption) | assumption); have q17 : x3_2 < (a0.size : Int) := of_decide_eq_true (by first | (with_reducible assumption) | assumption); have hx17 := bt_at a0 x3_2; replace p17 := eq_true p17; replace q17 := eq_true q17))
                      go_ret
                      exact ⟨by first | rfl | (simp; done) | (simp [*]; done), by repeat (first | exact Drawn0.refl _ | apply Drawn0.step)⟩
              · rw [if_neg c10] at H
                exact absurd H (by simp)
            · rw [if_neg c9] at H
              have c9b0 : decide (x3_2 < (a0.size : Int)) = false := decide_eq_false c9
              clear c9
              obtain rfl := Option.some.inj H
              go_wp2
              go_ret
              exact ⟨by first | rfl | (simp; done) | (simp [*]; done), by repeat (first | exact Drawn0.refl _ | apply Drawn0.step)⟩

end Go.Proofs.Ytfkgpmidcbjlbaa.P
end
section
set_option linter.unusedVariables false
set_option linter.unusedSimpArgs false
-- Written by a program of this session (a printer of walks).
namespace Go.Proofs.Ytfkgpmidcbjlbaa.P
open Go.RowKit Go.Proofs.YtfkgpmidcbjlbaaW.PrintWords Go.Proofs.YtfkgpmidcbjlbaaW.PrintLast Go.Proofs.YtfkgpmidcbjlbaaW.PrintMore
attribute [local go_sem] max2_int min2_int max_two min_two max_three min_three max_four min_four   -- for this text's walks alone
set_option linter.unusedVariables false
set_option linter.unusedSimpArgs false

/-! ### laminaref24_Valid: function 16 -/
mutual
def laminaref24_Valid.j0 : Nat → Bool → Int → Int → Int → Int → Int → ByteArray → Option (Bool)
  | 0, _, _, _, _, _, _, _ => none
  | k + 1, x30, x261000, x261001, x261002, x261003, x261004, x261005 => if x30 = true then (some false) else (if x261000 = 6 then (laminaref24_Valid.j1 k true x261000 x261001 x261002 x261003 x261004 x261005) else (laminaref24_Valid.j1 k (x261000 == 7) x261000 x261001 x261002 x261003 x261004 x261005))
def laminaref24_Valid.j1 : Nat → Bool → Int → Int → Int → Int → Int → ByteArray → Option (Bool)
  | 0, _, _, _, _, _, _, _ => none
  | k + 1, x38, x261000, x261001, x261002, x261003, x261004, x261005 => if x38 = true then (if x261005.toList = ([] : List UInt8) then (if x261000 = 1 then (if x261000 = 4 then (some (x261001 == 0)) else (if x261000 = 5 then (some (x261001 == 0)) else (some true))) else (if x261002 = 0 then (if x261003 = 0 then (if x261004 = 0 then (if x261000 = 4 then (some (x261001 == 0)) else (if x261000 = 5 then (some (x261001 == 0)) else (some true))) else (some false)) else (some false)) else (some false))) else (some false)) else ((laminaref05_IsIdent.f k x261005).bind fun t261 => (if t261 = true then (if x261000 = 1 then (if x261000 = 4 then (some (x261001 == 0)) else (if x261000 = 5 then (some (x261001 == 0)) else (some true))) else (if x261002 = 0 then (if x261003 = 0 then (if x261004 = 0 then (if x261000 = 4 then (some (x261001 == 0)) else (if x261000 = 5 then (some (x261001 == 0)) else (some true))) else (some false)) else (some false)) else (some false))) else (some false)))
end
def laminaref24_Valid.f (k : Nat) (a0_0 : Int) (a0_1 : Int) (a0_2 : Int) (a0_3 : Int) (a0_4 : Int) (a0_5 : ByteArray) : Option (Bool) := if a0_0 < 1 then (laminaref24_Valid.j0 k true a0_0 a0_1 a0_2 a0_3 a0_4 a0_5) else (if a0_0 > 7 then (laminaref24_Valid.j0 k true a0_0 a0_1 a0_2 a0_3 a0_4 a0_5) else (if a0_1 < 0 then (laminaref24_Valid.j0 k true a0_0 a0_1 a0_2 a0_3 a0_4 a0_5) else (if a0_2 < 0 then (laminaref24_Valid.j0 k true a0_0 a0_1 a0_2 a0_3 a0_4 a0_5) else (if a0_3 < 0 then (laminaref24_Valid.j0 k true a0_0 a0_1 a0_2 a0_3 a0_4 a0_5) else (laminaref24_Valid.j0 k (decide (a0_4 < 0)) a0_0 a0_1 a0_2 a0_3 a0_4 a0_5)))))
theorem laminaref24_Valid.mono_l : ∀ k, (∀ y0 y1 y2 y3 y4 y5 y6, LeO (laminaref24_Valid.j0 k y0 y1 y2 y3 y4 y5 y6) (laminaref24_Valid.j0 (k + 1) y0 y1 y2 y3 y4 y5 y6)) ∧ (∀ y0 y1 y2 y3 y4 y5 y6, LeO (laminaref24_Valid.j1 k y0 y1 y2 y3 y4 y5 y6) (laminaref24_Valid.j1 (k + 1) y0 y1 y2 y3 y4 y5 y6))
  | 0 => ⟨fun _ _ _ _ _ _ _ r h => by simp [laminaref24_Valid.j0] at h, fun _ _ _ _ _ _ _ r h => by simp [laminaref24_Valid.j1] at h⟩
  | k + 1 => by
    obtain ⟨ih0, ih1⟩ := laminaref24_Valid.mono_l k
    refine ⟨?_, ?_⟩
    · intro y0 y1 y2 y3 y4 y5 y6
      unfold laminaref24_Valid.j0
      repeat' first
      | (with_reducible exact ih0 _ _ _ _ _ _ _)
      | (with_reducible exact ih1 _ _ _ _ _ _ _)
      | (with_reducible exact laminaref05_IsIdent.mono _ _)
      | (with_reducible exact LeO.refl _)
      | (with_reducible exact LeO.none _)
      | (with_reducible refine LeO.ite ?_ ?_)
      | (with_reducible refine LeO.bind ?_ (fun _ => ?_))
      | exact ih0 _ _ _ _ _ _ _
      | exact ih1 _ _ _ _ _ _ _
      | exact laminaref05_IsIdent.mono _ _
      | exact LeO.none _
      | refine LeO.ite ?_ ?_
      | refine LeO.bind ?_ (fun _ => ?_)
    · intro y0 y1 y2 y3 y4 y5 y6
      unfold laminaref24_Valid.j1
      repeat' first
      | (with_reducible exact ih0 _ _ _ _ _ _ _)
      | (with_reducible exact ih1 _ _ _ _ _ _ _)
      | (with_reducible exact laminaref05_IsIdent.mono _ _)
      | (with_reducible exact LeO.refl _)
      | (with_reducible exact LeO.none _)
      | (with_reducible refine LeO.ite ?_ ?_)
      | (with_reducible refine LeO.bind ?_ (fun _ => ?_))
      | exact ih0 _ _ _ _ _ _ _
      | exact ih1 _ _ _ _ _ _ _
      | exact laminaref05_IsIdent.mono _ _
      | exact LeO.none _
      | refine LeO.ite ?_ ?_
      | refine LeO.bind ?_ (fun _ => ?_)
theorem laminaref24_Valid.mono : ∀ a0 a1 a2 a3 a4 a5 k, LeO (laminaref24_Valid.f k a0 a1 a2 a3 a4 a5) (laminaref24_Valid.f (k + 1) a0 a1 a2 a3 a4 a5) := by
  intro a0 a1 a2 a3 a4 a5 k
  obtain ⟨ih0, ih1⟩ := laminaref24_Valid.mono_l k
  unfold laminaref24_Valid.f
  repeat' first
      | (with_reducible exact ih0 _ _ _ _ _ _ _)
      | (with_reducible exact ih1 _ _ _ _ _ _ _)
      | (with_reducible exact laminaref05_IsIdent.mono _ _)
      | (with_reducible exact LeO.refl _)
      | (with_reducible exact LeO.none _)
      | (with_reducible refine LeO.ite ?_ ?_)
      | (with_reducible refine LeO.bind ?_ (fun _ => ?_))
      | exact ih0 _ _ _ _ _ _ _
      | exact ih1 _ _ _ _ _ _ _
      | exact laminaref05_IsIdent.mono _ _
      | exact LeO.none _
      | refine LeO.ite ?_ ?_
      | refine LeO.bind ?_ (fun _ => ?_)
set_option maxHeartbeats 8000000 in
set_option maxRecDepth 100000 in
theorem laminaref24_Valid.calls (k : Nat) (a0_0 : Int) (a0_1 : Int) (a0_2 : Int) (a0_3 : Int) (a0_4 : Int) (a0_5 : ByteArray) (r : Bool) (w : World) (h : laminaref24_Valid.f k a0_0 a0_1 a0_2 a0_3 a0_4 a0_5 = some r) :
    Calls Try.prog 16 #[.agg #[.int .i64 a0_0, .int .i64 a0_1, .int .i64 a0_2, .int .i64 a0_3, .int .i64 a0_4, .string a0_5]] w fun e w' => e = .returned (.bool r) ∧ Below w.heap.size w w' := by
  have hu23 := Try.underlying23
  have HB := Aside0.mk (Below.refl w.heap.size w)
  have H : (if a0_0 < 1 then (laminaref24_Valid.j0 k true a0_0 a0_1 a0_2 a0_3 a0_4 a0_5) else (if a0_0 > 7 then (laminaref24_Valid.j0 k true a0_0 a0_1 a0_2 a0_3 a0_4 a0_5) else (if a0_1 < 0 then (laminaref24_Valid.j0 k true a0_0 a0_1 a0_2 a0_3 a0_4 a0_5) else (if a0_2 < 0 then (laminaref24_Valid.j0 k true a0_0 a0_1 a0_2 a0_3 a0_4 a0_5) else (if a0_3 < 0 then (laminaref24_Valid.j0 k true a0_0 a0_1 a0_2 a0_3 a0_4 a0_5) else (laminaref24_Valid.j0 k (decide (a0_4 < 0)) a0_0 a0_1 a0_2 a0_3 a0_4 a0_5)))))) = some r := h
  clear h
  have HC2 := Aside0.mk H
  clear H
  go_enter Try.func16, Try.ntmps16
  go_upto_region 1 with (first | ((with_reducible refine gate_dst (N := 1) rfl ?_); refine box_event ?hg (N := 1) ?hd (cs := #[.int .i64 a0_0, .int .i64 a0_1, .int .i64 a0_2, .int .i64 a0_3, .int .i64 a0_4, .string a0_5]) (t := 23) ?hr ?_; (case hd => rfl); (case hg => rfl); (case hr => first | (go_simp; done) | (go_simp; rfl)); intro gb260 hg w3 hbox hb; have n0_ := Aside0.mk (below_step (by repeat (first | (with_reducible first | exact HB.out | apply below_alloc | apply pw_below_drewN | apply below_drew1) | exact HB.out)) hb); have n1_ := Aside0.mk (hbox); have n2_ := Aside0.mk ((by rw [hg]; exact (below_size (by repeat (first | (with_reducible first | exact HB.out | apply below_alloc | apply pw_below_drewN | apply below_drew1) | exact HB.out))) : w.heap.size ≤ gb260)); have n3_ := Aside0.mk ((by rw [hg]; exact (below_size (by repeat (first | (with_reducible first | exact HB.out | apply below_alloc | apply pw_below_drewN | apply below_drew1) | exact HB.out))) : w.heap.size ≤ gb260)); clear HB; have HB := n0_; have BK260 := n1_; have GW260 := n2_; have GE260 := n3_; clear n0_ n1_ n2_ n3_; clear hb hbox hg))
  (try simp only [Act.put, List.setIfInBounds_toArray, List.set_cons_zero, List.set_cons_succ])
  go_cut [30] (fun v30 wc => ∃ (kq : Nat) (x30_1 : Bool), v30 = .bool x30_1 ∧ Aside0 (laminaref24_Valid.j0 kq x30_1 a0_0 a0_1 a0_2 a0_3 a0_4 a0_5 = some r) ∧ Aside0 (kq ≤ k) ∧ Aside0 (wc.heap[gb260]? = some (.cells #[.int .i64 a0_0, .int .i64 a0_1, .int .i64 a0_2, .int .i64 a0_3, .int .i64 a0_4, .string a0_5] 23 (0, 0))) ∧ Aside0 (Below w.heap.size w wc))
  case first =>
    have H := HC2.out
    clear HC2
    by_cases c4 : a0_0 < 1
    · rw [if_pos c4] at H
      have c4b0 : decide (a0_0 < 1) = true := decide_eq_true c4
      clear c4
      (first | rw [c4b0] | (simp only [i64_w, i32_w]; rw [c4b0]) | skip)
      have H' := Aside0.mk H
      clear H
      have hcz5_0 : w3.cell? ⟨gb260, 0, none⟩ = some (.int .i64 a0_0) := (blk_cell BK260.out 0).trans rfl
      have hcz5_1 : w3.cell? ⟨gb260, 1, none⟩ = some (.int .i64 a0_1) := (blk_cell BK260.out 1).trans rfl
      have hcz5_2 : w3.cell? ⟨gb260, 2, none⟩ = some (.int .i64 a0_2) := (blk_cell BK260.out 2).trans rfl
      have hcz5_3 : w3.cell? ⟨gb260, 3, none⟩ = some (.int .i64 a0_3) := (blk_cell BK260.out 3).trans rfl
      have hcz5_4 : w3.cell? ⟨gb260, 4, none⟩ = some (.int .i64 a0_4) := (blk_cell BK260.out 4).trans rfl
      have hcz5_5 : w3.cell? ⟨gb260, 5, none⟩ = some (.string a0_5) := (blk_cell BK260.out 5).trans rfl
      have hfz5_0 := blk_frozen BK260.out 0
      have hfz5_1 := blk_frozen BK260.out 1
      have hfz5_2 := blk_frozen BK260.out 2
      have hfz5_3 := blk_frozen BK260.out 3
      have hfz5_4 := blk_frozen BK260.out 4
      have hfz5_5 := blk_frozen BK260.out 5
      go_wp2
      go_meet
      case rel => exact ⟨_, (true), (by first | rfl | (simp; done) | (simp [*]; done)), H', ⟨by first | omega | exact Nat.le_refl _⟩, ⟨by (with_reducible repeat (first | refine blk_drewN ?_ _ | refine blk_drew ?_ | refine blk_alloc ?_ _)); exact BK260.out⟩, ⟨by repeat (first | (with_reducible first | exact HB.out | apply below_alloc | apply pw_below_drewN | apply below_drew1 | refine below_set ?_ GE260.out) | exact HB.out)⟩⟩
    · rw [if_neg c4] at H
      have c4b0 : decide (a0_0 < 1) = false := decide_eq_false c4
      clear c4
      (first | rw [c4b0] | (simp only [i64_w, i32_w]; rw [c4b0]) | skip)
      by_cases c6 : a0_0 > 7
      · rw [if_pos c6] at H
        have c6b0 : decide (7 < a0_0) = true := decide_eq_true c6
        clear c6
        have H' := Aside0.mk H
        clear H
        have hcz7_0 : w3.cell? ⟨gb260, 0, none⟩ = some (.int .i64 a0_0) := (blk_cell BK260.out 0).trans rfl
        have hcz7_1 : w3.cell? ⟨gb260, 1, none⟩ = some (.int .i64 a0_1) := (blk_cell BK260.out 1).trans rfl
        have hcz7_2 : w3.cell? ⟨gb260, 2, none⟩ = some (.int .i64 a0_2) := (blk_cell BK260.out 2).trans rfl
        have hcz7_3 : w3.cell? ⟨gb260, 3, none⟩ = some (.int .i64 a0_3) := (blk_cell BK260.out 3).trans rfl
        have hcz7_4 : w3.cell? ⟨gb260, 4, none⟩ = some (.int .i64 a0_4) := (blk_cell BK260.out 4).trans rfl
        have hcz7_5 : w3.cell? ⟨gb260, 5, none⟩ = some (.string a0_5) := (blk_cell BK260.out 5).trans rfl
        have hfz7_0 := blk_frozen BK260.out 0
        have hfz7_1 := blk_frozen BK260.out 1
        have hfz7_2 := blk_frozen BK260.out 2
        have hfz7_3 := blk_frozen BK260.out 3
        have hfz7_4 := blk_frozen BK260.out 4
        have hfz7_5 := blk_frozen BK260.out 5
        go_wp2
        go_meet
        case rel => exact ⟨_, (true), (by first | rfl | (simp; done) | (simp [*]; done)), H', ⟨by first | omega | exact Nat.le_refl _⟩, ⟨by (with_reducible repeat (first | refine blk_drewN ?_ _ | refine blk_drew ?_ | refine blk_alloc ?_ _)); exact BK260.out⟩, ⟨by repeat (first | (with_reducible first | exact HB.out | apply below_alloc | apply pw_below_drewN | apply below_drew1 | refine below_set ?_ GE260.out) | exact HB.out)⟩⟩
      · rw [if_neg c6] at H
        have c6b0 : decide (7 < a0_0) = false := decide_eq_false c6
        clear c6
        by_cases c8 : a0_1 < 0
        · rw [if_pos c8] at H
          have c8b0 : decide (a0_1 < 0) = true := decide_eq_true c8
          clear c8
          have H' := Aside0.mk H
          clear H
          have hcz9_0 : w3.cell? ⟨gb260, 0, none⟩ = some (.int .i64 a0_0) := (blk_cell BK260.out 0).trans rfl
          have hcz9_1 : w3.cell? ⟨gb260, 1, none⟩ = some (.int .i64 a0_1) := (blk_cell BK260.out 1).trans rfl
          have hcz9_2 : w3.cell? ⟨gb260, 2, none⟩ = some (.int .i64 a0_2) := (blk_cell BK260.out 2).trans rfl
          have hcz9_3 : w3.cell? ⟨gb260, 3, none⟩ = some (.int .i64 a0_3) := (blk_cell BK260.out 3).trans rfl
          have hcz9_4 : w3.cell? ⟨gb260, 4, none⟩ = some (.int .i64 a0_4) := (blk_cell BK260.out 4).trans rfl
          have hcz9_5 : w3.cell? ⟨gb260, 5, none⟩ = some (.string a0_5) := (blk_cell BK260.out 5).trans rfl
          have hfz9_0 := blk_frozen BK260.out 0
          have hfz9_1 := blk_frozen BK260.out 1
          have hfz9_2 := blk_frozen BK260.out 2
          have hfz9_3 := blk_frozen BK260.out 3
          have hfz9_4 := blk_frozen BK260.out 4
          have hfz9_5 := blk_frozen BK260.out 5
          go_wp2
          go_meet
          case rel => exact ⟨_, (true), (by first | rfl | (simp; done) | (simp [*]; done)), H', ⟨by first | omega | exact Nat.le_refl _⟩, ⟨by (with_reducible repeat (first | refine blk_drewN ?_ _ | refine blk_drew ?_ | refine blk_alloc ?_ _)); exact BK260.out⟩, ⟨by repeat (first | (with_reducible first | exact HB.out | apply below_alloc | apply pw_below_drewN | apply below_drew1 | refine below_set ?_ GE260.out) | exact HB.out)⟩⟩
        · rw [if_neg c8] at H
          have c8b0 : decide (a0_1 < 0) = false := decide_eq_false c8
          clear c8
          by_cases c10 : a0_2 < 0
          · rw [if_pos c10] at H
            have c10b0 : decide (a0_2 < 0) = true := decide_eq_true c10
            clear c10
            have H' := Aside0.mk H
            clear H
            have hcz11_0 : w3.cell? ⟨gb260, 0, none⟩ = some (.int .i64 a0_0) := (blk_cell BK260.out 0).trans rfl
            have hcz11_1 : w3.cell? ⟨gb260, 1, none⟩ = some (.int .i64 a0_1) := (blk_cell BK260.out 1).trans rfl
            have hcz11_2 : w3.cell? ⟨gb260, 2, none⟩ = some (.int .i64 a0_2) := (blk_cell BK260.out 2).trans rfl
            have hcz11_3 : w3.cell? ⟨gb260, 3, none⟩ = some (.int .i64 a0_3) := (blk_cell BK260.out 3).trans rfl
            have hcz11_4 : w3.cell? ⟨gb260, 4, none⟩ = some (.int .i64 a0_4) := (blk_cell BK260.out 4).trans rfl
            have hcz11_5 : w3.cell? ⟨gb260, 5, none⟩ = some (.string a0_5) := (blk_cell BK260.out 5).trans rfl
            have hfz11_0 := blk_frozen BK260.out 0
            have hfz11_1 := blk_frozen BK260.out 1
            have hfz11_2 := blk_frozen BK260.out 2
            have hfz11_3 := blk_frozen BK260.out 3
            have hfz11_4 := blk_frozen BK260.out 4
            have hfz11_5 := blk_frozen BK260.out 5
            go_wp2
            go_meet
            case rel => exact ⟨_, (true), (by first | rfl | (simp; done) | (simp [*]; done)), H', ⟨by first | omega | exact Nat.le_refl _⟩, ⟨by (with_reducible repeat (first | refine blk_drewN ?_ _ | refine blk_drew ?_ | refine blk_alloc ?_ _)); exact BK260.out⟩, ⟨by repeat (first | (with_reducible first | exact HB.out | apply below_alloc | apply pw_below_drewN | apply below_drew1 | refine below_set ?_ GE260.out) | exact HB.out)⟩⟩
          · rw [if_neg c10] at H
            have c10b0 : decide (a0_2 < 0) = false := decide_eq_false c10
            clear c10
            by_cases c12 : a0_3 < 0
            · rw [if_pos c12] at H
              have c12b0 : decide (a0_3 < 0) = true := decide_eq_true c12
              clear c12
              have H' := Aside0.mk H
              clear H
              have hcz13_0 : w3.cell? ⟨gb260, 0, none⟩ = some (.int .i64 a0_0) := (blk_cell BK260.out 0).trans rfl
              have hcz13_1 : w3.cell? ⟨gb260, 1, none⟩ = some (.int .i64 a0_1) := (blk_cell BK260.out 1).trans rfl
              have hcz13_2 : w3.cell? ⟨gb260, 2, none⟩ = some (.int .i64 a0_2) := (blk_cell BK260.out 2).trans rfl
              have hcz13_3 : w3.cell? ⟨gb260, 3, none⟩ = some (.int .i64 a0_3) := (blk_cell BK260.out 3).trans rfl
              have hcz13_4 : w3.cell? ⟨gb260, 4, none⟩ = some (.int .i64 a0_4) := (blk_cell BK260.out 4).trans rfl
              have hcz13_5 : w3.cell? ⟨gb260, 5, none⟩ = some (.string a0_5) := (blk_cell BK260.out 5).trans rfl
              have hfz13_0 := blk_frozen BK260.out 0
              have hfz13_1 := blk_frozen BK260.out 1
              have hfz13_2 := blk_frozen BK260.out 2
              have hfz13_3 := blk_frozen BK260.out 3
              have hfz13_4 := blk_frozen BK260.out 4
              have hfz13_5 := blk_frozen BK260.out 5
              go_wp2
              go_meet
              case rel => exact ⟨_, (true), (by first | rfl | (simp; done) | (simp [*]; done)), H', ⟨by first | omega | exact Nat.le_refl _⟩, ⟨by (with_reducible repeat (first | refine blk_drewN ?_ _ | refine blk_drew ?_ | refine blk_alloc ?_ _)); exact BK260.out⟩, ⟨by repeat (first | (with_reducible first | exact HB.out | apply below_alloc | apply pw_below_drewN | apply below_drew1 | refine below_set ?_ GE260.out) | exact HB.out)⟩⟩
            · rw [if_neg c12] at H
              have c12b0 : decide (a0_3 < 0) = false := decide_eq_false c12
              clear c12
              have H' := Aside0.mk H
              clear H
              have hcz14_0 : w3.cell? ⟨gb260, 0, none⟩ = some (.int .i64 a0_0) := (blk_cell BK260.out 0).trans rfl
              have hcz14_1 : w3.cell? ⟨gb260, 1, none⟩ = some (.int .i64 a0_1) := (blk_cell BK260.out 1).trans rfl
              have hcz14_2 : w3.cell? ⟨gb260, 2, none⟩ = some (.int .i64 a0_2) := (blk_cell BK260.out 2).trans rfl
              have hcz14_3 : w3.cell? ⟨gb260, 3, none⟩ = some (.int .i64 a0_3) := (blk_cell BK260.out 3).trans rfl
              have hcz14_4 : w3.cell? ⟨gb260, 4, none⟩ = some (.int .i64 a0_4) := (blk_cell BK260.out 4).trans rfl
              have hcz14_5 : w3.cell? ⟨gb260, 5, none⟩ = some (.string a0_5) := (blk_cell BK260.out 5).trans rfl
              have hfz14_0 := blk_frozen BK260.out 0
              have hfz14_1 := blk_frozen BK260.out 1
              have hfz14_2 := blk_frozen BK260.out 2
              have hfz14_3 := blk_frozen BK260.out 3
              have hfz14_4 := blk_frozen BK260.out 4
              have hfz14_5 := blk_frozen BK260.out 5
              go_wp2
              go_meet
              case rel => exact ⟨_, (decide (a0_4 < 0)), (by first | rfl | (simp; done) | (simp [*]; done)), H', ⟨by first | omega | exact Nat.le_refl _⟩, ⟨by (with_reducible repeat (first | refine blk_drewN ?_ _ | refine blk_drew ?_ | refine blk_alloc ?_ _)); exact BK260.out⟩, ⟨by repeat (first | (with_reducible first | exact HB.out | apply below_alloc | apply pw_below_drewN | apply below_drew1 | refine below_set ?_ GE260.out) | exact HB.out)⟩⟩
  case rest =>
    clear HC2
    try clear c1
    try clear p2
    try clear c4
    try clear c4b0
    try clear c6
    try clear c6b0
    try clear c8
    try clear c8b0
    try clear c10
    try clear c10b0
    try clear c12
    try clear c12b0
    try clear hcz11_0
    try clear hcz11_1
    try clear hcz11_2
    try clear hcz11_3
    try clear hcz11_4
    try clear hcz11_5
    try clear hcz13_0
    try clear hcz13_1
    try clear hcz13_2
    try clear hcz13_3
    try clear hcz13_4
    try clear hcz13_5
    try clear hcz14_0
    try clear hcz14_1
    try clear hcz14_2
    try clear hcz14_3
    try clear hcz14_4
    try clear hcz14_5
    try clear hcz5_0
    try clear hcz5_1
    try clear hcz5_2
    try clear hcz5_3
    try clear hcz5_4
    try clear hcz5_5
    try clear hcz7_0
    try clear hcz7_1
    try clear hcz7_2
    try clear hcz7_3
    try clear hcz7_4
    try clear hcz7_5
    try clear hcz9_0
    try clear hcz9_1
    try clear hcz9_2
    try clear hcz9_3
    try clear hcz9_4
    try clear hcz9_5
    try clear hfz11_0
    try clear hfz11_1
    try clear hfz11_2
    try clear hfz11_3
    try clear hfz11_4
    try clear hfz11_5
    try clear hfz13_0
    try clear hfz13_1
    try clear hfz13_2
    try clear hfz13_3
    try clear hfz13_4
    try clear hfz13_5
    try clear hfz14_0
    try clear hfz14_1
    try clear hfz14_2
    try clear hfz14_3
    try clear hfz14_4
    try clear hfz14_5
    try clear hfz5_0
    try clear hfz5_1
    try clear hfz5_2
    try clear hfz5_3
    try clear hfz5_4
    try clear hfz5_5
    try clear hfz7_0
    try clear hfz7_1
    try clear hfz7_2
    try clear hfz7_3
    try clear hfz7_4
    try clear hfz7_5
    try clear hfz9_0
    try clear hfz9_1
    try clear hfz9_2
    try clear hfz9_3
    try clear hfz9_4
    try clear hfz9_5
    obtain ⟨kq, x30_1, rfl, HA, HJ1, BK260, HB⟩ := hcut
    cases kq with
    | zero => exact absurd HA.out (by simp [laminaref24_Valid.j0])
    | succ kj1 =>
      have H := HA.out
      clear HA
      simp only [laminaref24_Valid.j0] at H
      by_cases c15 : x30_1 = true
      · subst c15
        have H1 : (some false) = some r := by rw [if_pos rfl] at H; exact H
        clear H
        have H := H1
        clear H1
        obtain rfl := Option.some.inj H
        go_wp2
        go_ret
        exact ⟨by first | rfl | (simp [errW_none, errW_some] <;> rfl) | (simp [*, errW_none, errW_some] <;> rfl), by repeat (first | (with_reducible first | exact HB.out | apply below_alloc | apply pw_below_drewN | apply below_drew1 | refine below_set ?_ GE260.out) | exact HB.out)⟩
      · replace c15 := Bool.eq_false_iff.mpr c15
        subst c15
        have H1 : (if a0_0 = 6 then (laminaref24_Valid.j1 kj1 true a0_0 a0_1 a0_2 a0_3 a0_4 a0_5) else (laminaref24_Valid.j1 kj1 (a0_0 == 7) a0_0 a0_1 a0_2 a0_3 a0_4 a0_5)) = some r := by rw [if_neg (show ¬ (false = true) by decide)] at H; exact H
        clear H
        have H := H1
        clear H1
        have HC16 := Aside0.mk H
        clear H
        go_upto_region 3 with (fail)
        go_cut [38] (fun v38 wc => ∃ (kq : Nat) (x38_15 : Bool), v38 = .bool x38_15 ∧ Aside0 (laminaref24_Valid.j1 kq x38_15 a0_0 a0_1 a0_2 a0_3 a0_4 a0_5 = some r) ∧ Aside0 (kq ≤ kj1) ∧ Aside0 (wc.heap[gb260]? = some (.cells #[.int .i64 a0_0, .int .i64 a0_1, .int .i64 a0_2, .int .i64 a0_3, .int .i64 a0_4, .string a0_5] 23 (0, 0))) ∧ Aside0 (Below w.heap.size w wc))
        case first =>
          have H := HC16.out
          clear HC16
          by_cases c17 : a0_0 = 6
          · rw [if_pos c17] at H
            have c17b0 : (a0_0 == 6) = true := beq_iff_eq.mpr c17
            have c17b1 : (a0_0 != 6) = false := bne_eq_false_iff_eq.mpr c17
            clear c17
            (first | rw [c17b0] | (simp only [i64_w, i32_w]; rw [c17b0]) | skip)
            have H' := Aside0.mk H
            clear H
            have hcz18_0 : wc.cell? ⟨gb260, 0, none⟩ = some (.int .i64 a0_0) := (blk_cell BK260.out 0).trans rfl
            have hcz18_1 : wc.cell? ⟨gb260, 1, none⟩ = some (.int .i64 a0_1) := (blk_cell BK260.out 1).trans rfl
            have hcz18_2 : wc.cell? ⟨gb260, 2, none⟩ = some (.int .i64 a0_2) := (blk_cell BK260.out 2).trans rfl
            have hcz18_3 : wc.cell? ⟨gb260, 3, none⟩ = some (.int .i64 a0_3) := (blk_cell BK260.out 3).trans rfl
            have hcz18_4 : wc.cell? ⟨gb260, 4, none⟩ = some (.int .i64 a0_4) := (blk_cell BK260.out 4).trans rfl
            have hcz18_5 : wc.cell? ⟨gb260, 5, none⟩ = some (.string a0_5) := (blk_cell BK260.out 5).trans rfl
            have hfz18_0 := blk_frozen BK260.out 0
            have hfz18_1 := blk_frozen BK260.out 1
            have hfz18_2 := blk_frozen BK260.out 2
            have hfz18_3 := blk_frozen BK260.out 3
            have hfz18_4 := blk_frozen BK260.out 4
            have hfz18_5 := blk_frozen BK260.out 5
            go_wp2
            go_meet
            case rel => exact ⟨_, (true), (by first | rfl | (simp; done) | (simp [*]; done)), H', ⟨by have := HJ1.out; first | omega | exact Nat.le_refl _⟩, ⟨by (with_reducible repeat (first | refine blk_drewN ?_ _ | refine blk_drew ?_ | refine blk_alloc ?_ _)); exact BK260.out⟩, ⟨by repeat (first | (with_reducible first | exact HB.out | apply below_alloc | apply pw_below_drewN | apply below_drew1 | refine below_set ?_ GE260.out) | exact HB.out)⟩⟩
          · rw [if_neg c17] at H
            have c17b0 : (a0_0 == 6) = false := beq_eq_false_iff_ne.mpr c17
            have c17b1 : (a0_0 != 6) = true := bne_iff_ne.mpr c17
            (first | rw [c17b0] | (simp only [i64_w, i32_w]; rw [c17b0]) | skip)
            have H' := Aside0.mk H
            clear H
            have hcz19_0 : wc.cell? ⟨gb260, 0, none⟩ = some (.int .i64 a0_0) := (blk_cell BK260.out 0).trans rfl
            have hcz19_1 : wc.cell? ⟨gb260, 1, none⟩ = some (.int .i64 a0_1) := (blk_cell BK260.out 1).trans rfl
            have hcz19_2 : wc.cell? ⟨gb260, 2, none⟩ = some (.int .i64 a0_2) := (blk_cell BK260.out 2).trans rfl
            have hcz19_3 : wc.cell? ⟨gb260, 3, none⟩ = some (.int .i64 a0_3) := (blk_cell BK260.out 3).trans rfl
            have hcz19_4 : wc.cell? ⟨gb260, 4, none⟩ = some (.int .i64 a0_4) := (blk_cell BK260.out 4).trans rfl
            have hcz19_5 : wc.cell? ⟨gb260, 5, none⟩ = some (.string a0_5) := (blk_cell BK260.out 5).trans rfl
            have hfz19_0 := blk_frozen BK260.out 0
            have hfz19_1 := blk_frozen BK260.out 1
            have hfz19_2 := blk_frozen BK260.out 2
            have hfz19_3 := blk_frozen BK260.out 3
            have hfz19_4 := blk_frozen BK260.out 4
            have hfz19_5 := blk_frozen BK260.out 5
            go_wp2
            go_meet
            case rel => exact ⟨_, ((a0_0 == 7)), (by first | rfl | (simp; done) | (simp [*]; done)), H', ⟨by have := HJ1.out; first | omega | exact Nat.le_refl _⟩, ⟨by (with_reducible repeat (first | refine blk_drewN ?_ _ | refine blk_drew ?_ | refine blk_alloc ?_ _)); exact BK260.out⟩, ⟨by repeat (first | (with_reducible first | exact HB.out | apply below_alloc | apply pw_below_drewN | apply below_drew1 | refine below_set ?_ GE260.out) | exact HB.out)⟩⟩
        case rest =>
          clear HC16
          try clear c1
          try clear p2
          try clear c4
          try clear c4b0
          try clear c6
          try clear c6b0
          try clear c8
          try clear c8b0
          try clear c10
          try clear c10b0
          try clear c12
          try clear c12b0
          try clear c15
          try clear c16
          try clear c17
          try clear c17b0
          try clear c17b1
          try clear hcz11_0
          try clear hcz11_1
          try clear hcz11_2
          try clear hcz11_3
          try clear hcz11_4
          try clear hcz11_5
          try clear hcz13_0
          try clear hcz13_1
          try clear hcz13_2
          try clear hcz13_3
          try clear hcz13_4
          try clear hcz13_5
          try clear hcz14_0
          try clear hcz14_1
          try clear hcz14_2
          try clear hcz14_3
          try clear hcz14_4
          try clear hcz14_5
          try clear hcz18_0
          try clear hcz18_1
          try clear hcz18_2
          try clear hcz18_3
          try clear hcz18_4
          try clear hcz18_5
          try clear hcz19_0
          try clear hcz19_1
          try clear hcz19_2
          try clear hcz19_3
          try clear hcz19_4
          try clear hcz19_5
          try clear hcz5_0
          try clear hcz5_1
          try clear hcz5_2
          try clear hcz5_3
          try clear hcz5_4
          try clear hcz5_5
          try clear hcz7_0
          try clear hcz7_1
          try clear hcz7_2
          try clear hcz7_3
          try clear hcz7_4
          try clear hcz7_5
          try clear hcz9_0
          try clear hcz9_1
          try clear hcz9_2
          try clear hcz9_3
          try clear hcz9_4
          try clear hcz9_5
          try clear hfz11_0
          try clear hfz11_1
          try clear hfz11_2
          try clear hfz11_3
          try clear hfz11_4
          try clear hfz11_5
          try clear hfz13_0
          try clear hfz13_1
          try clear hfz13_2
          try clear hfz13_3
          try clear hfz13_4
          try clear hfz13_5
          try clear hfz14_0
          try clear hfz14_1
          try clear hfz14_2
          try clear hfz14_3
          try clear hfz14_4
          try clear hfz14_5
          try clear hfz18_0
          try clear hfz18_1
          try clear hfz18_2
          try clear hfz18_3
          try clear hfz18_4
          try clear hfz18_5
          try clear hfz19_0
          try clear hfz19_1
          try clear hfz19_2
          try clear hfz19_3
          try clear hfz19_4
          try clear hfz19_5
          try clear hfz5_0
          try clear hfz5_1
          try clear hfz5_2
          try clear hfz5_3
          try clear hfz5_4
          try clear hfz5_5
          try clear hfz7_0
          try clear hfz7_1
          try clear hfz7_2
          try clear hfz7_3
          try clear hfz7_4
          try clear hfz7_5
          try clear hfz9_0
          try clear hfz9_1
          try clear hfz9_2
          try clear hfz9_3
          try clear hfz9_4
          try clear hfz9_5
          try clear p2
          obtain ⟨kq, x38_15, rfl, HA, HJ15, BK260, HB⟩ := hcut
          cases kq with
          | zero => exact absurd HA.out (by simp [laminaref24_Valid.j1])
          | succ kj15 =>
            have H := HA.out
            clear HA
            simp only [laminaref24_Valid.j1] at H
            by_cases c20 : x38_15 = true
            · subst c20
              have H1 : (if a0_5.toList = ([] : List UInt8) then (if a0_0 = 1 then (if a0_0 = 4 then (some (a0_1 == 0)) else (if a0_0 = 5 then (some (a0_1 == 0)) else (some true))) else (if a0_2 = 0 then (if a0_3 = 0 then (if a0_4 = 0 then (if a0_0 = 4 then (some (a0_1 == 0)) else (if a0_0 = 5 then (some (a0_1 == 0)) else (some true))) else (some false)) else (some false)) else (some false))) else (some false)) = some r := by rw [if_pos rfl] at H; exact H
              clear H
              have H := H1
              clear H1
              by_cases c21 : a0_5.toList = ([] : List UInt8)
              · rw [if_pos c21] at H
                have c21b0 : (a0_5.toList == ([] : List UInt8)) = true := beq_iff_eq.mpr c21
                have c21b1 : (a0_5.toList != ([] : List UInt8)) = false := bne_eq_false_iff_eq.mpr c21
                clear c21
                by_cases c22 : a0_0 = 1
                · rw [if_pos c22] at H
                  have c22b0 : (a0_0 == 1) = true := beq_iff_eq.mpr c22
                  have c22b1 : (a0_0 != 1) = false := bne_eq_false_iff_eq.mpr c22
                  clear c22
                  by_cases c23 : a0_0 = 4
                  · rw [if_pos c23] at H
                    have c23b0 : (a0_0 == 4) = true := beq_iff_eq.mpr c23
                    have c23b1 : (a0_0 != 4) = false := bne_eq_false_iff_eq.mpr c23
                    clear c23
                    obtain rfl := Option.some.inj H
                    have hcz24_0 : wc.cell? ⟨gb260, 0, none⟩ = some (.int .i64 a0_0) := (blk_cell BK260.out 0).trans rfl
                    have hcz24_1 : wc.cell? ⟨gb260, 1, none⟩ = some (.int .i64 a0_1) := (blk_cell BK260.out 1).trans rfl
                    have hcz24_2 : wc.cell? ⟨gb260, 2, none⟩ = some (.int .i64 a0_2) := (blk_cell BK260.out 2).trans rfl
                    have hcz24_3 : wc.cell? ⟨gb260, 3, none⟩ = some (.int .i64 a0_3) := (blk_cell BK260.out 3).trans rfl
                    have hcz24_4 : wc.cell? ⟨gb260, 4, none⟩ = some (.int .i64 a0_4) := (blk_cell BK260.out 4).trans rfl
                    have hcz24_5 : wc.cell? ⟨gb260, 5, none⟩ = some (.string a0_5) := (blk_cell BK260.out 5).trans rfl
                    have hfz24_0 := blk_frozen BK260.out 0
                    have hfz24_1 := blk_frozen BK260.out 1
                    have hfz24_2 := blk_frozen BK260.out 2
                    have hfz24_3 := blk_frozen BK260.out 3
                    have hfz24_4 := blk_frozen BK260.out 4
                    have hfz24_5 := blk_frozen BK260.out 5
                    go_wp2
                    go_ret
                    exact ⟨by first | rfl | (simp [errW_none, errW_some] <;> rfl) | (simp [*, errW_none, errW_some] <;> rfl), by repeat (first | (with_reducible first | exact HB.out | apply below_alloc | apply pw_below_drewN | apply below_drew1 | refine below_set ?_ GE260.out) | exact HB.out)⟩
                  · rw [if_neg c23] at H
                    have c23b0 : (a0_0 == 4) = false := beq_eq_false_iff_ne.mpr c23
                    have c23b1 : (a0_0 != 4) = true := bne_iff_ne.mpr c23
                    by_cases c25 : a0_0 = 5
                    · rw [if_pos c25] at H
                      have c25b0 : (a0_0 == 5) = true := beq_iff_eq.mpr c25
                      have c25b1 : (a0_0 != 5) = false := bne_eq_false_iff_eq.mpr c25
                      clear c25
                      obtain rfl := Option.some.inj H
                      have hcz26_0 : wc.cell? ⟨gb260, 0, none⟩ = some (.int .i64 a0_0) := (blk_cell BK260.out 0).trans rfl
                      have hcz26_1 : wc.cell? ⟨gb260, 1, none⟩ = some (.int .i64 a0_1) := (blk_cell BK260.out 1).trans rfl
                      have hcz26_2 : wc.cell? ⟨gb260, 2, none⟩ = some (.int .i64 a0_2) := (blk_cell BK260.out 2).trans rfl
                      have hcz26_3 : wc.cell? ⟨gb260, 3, none⟩ = some (.int .i64 a0_3) := (blk_cell BK260.out 3).trans rfl
                      have hcz26_4 : wc.cell? ⟨gb260, 4, none⟩ = some (.int .i64 a0_4) := (blk_cell BK260.out 4).trans rfl
                      have hcz26_5 : wc.cell? ⟨gb260, 5, none⟩ = some (.string a0_5) := (blk_cell BK260.out 5).trans rfl
                      have hfz26_0 := blk_frozen BK260.out 0
                      have hfz26_1 := blk_frozen BK260.out 1
                      have hfz26_2 := blk_frozen BK260.out 2
                      have hfz26_3 := blk_frozen BK260.out 3
                      have hfz26_4 := blk_frozen BK260.out 4
                      have hfz26_5 := blk_frozen BK260.out 5
                      go_wp2
                      go_ret
                      exact ⟨by first | rfl | (simp [errW_none, errW_some] <;> rfl) | (simp [*, errW_none, errW_some] <;> rfl), by repeat (first | (with_reducible first | exact HB.out | apply below_alloc | apply pw_below_drewN | apply below_drew1 | refine below_set ?_ GE260.out) | exact HB.out)⟩
                    · rw [if_neg c25] at H
                      have c25b0 : (a0_0 == 5) = false := beq_eq_false_iff_ne.mpr c25
                      have c25b1 : (a0_0 != 5) = true := bne_iff_ne.mpr c25
                      obtain rfl := Option.some.inj H
                      have hcz27_0 : wc.cell? ⟨gb260, 0, none⟩ = some (.int .i64 a0_0) := (blk_cell BK260.out 0).trans rfl
                      have hcz27_1 : wc.cell? ⟨gb260, 1, none⟩ = some (.int .i64 a0_1) := (blk_cell BK260.out 1).trans rfl
                      have hcz27_2 : wc.cell? ⟨gb260, 2, none⟩ = some (.int .i64 a0_2) := (blk_cell BK260.out 2).trans rfl
                      have hcz27_3 : wc.cell? ⟨gb260, 3, none⟩ = some (.int .i64 a0_3) := (blk_cell BK260.out 3).trans rfl
                      have hcz27_4 : wc.cell? ⟨gb260, 4, none⟩ = some (.int .i64 a0_4) := (blk_cell BK260.out 4).trans rfl
                      have hcz27_5 : wc.cell? ⟨gb260, 5, none⟩ = some (.string a0_5) := (blk_cell BK260.out 5).trans rfl
                      have hfz27_0 := blk_frozen BK260.out 0
                      have hfz27_1 := blk_frozen BK260.out 1
                      have hfz27_2 := blk_frozen BK260.out 2
                      have hfz27_3 := blk_frozen BK260.out 3
                      have hfz27_4 := blk_frozen BK260.out 4
                      have hfz27_5 := blk_frozen BK260.out 5
                      go_wp2
                      go_ret
                      exact ⟨by first | rfl | (simp [errW_none, errW_some] <;> rfl) | (simp [*, errW_none, errW_some] <;> rfl), by repeat (first | (with_reducible first | exact HB.out | apply below_alloc | apply pw_below_drewN | apply below_drew1 | refine below_set ?_ GE260.out) | exact HB.out)⟩
                · rw [if_neg c22] at H
                  have c22b0 : (a0_0 == 1) = false := beq_eq_false_iff_ne.mpr c22
                  have c22b1 : (a0_0 != 1) = true := bne_iff_ne.mpr c22
                  by_cases c28 : a0_2 = 0
                  · rw [if_pos c28] at H
                    have c28b0 : (a0_2 == 0) = true := beq_iff_eq.mpr c28
                    have c28b1 : (a0_2 != 0) = false := bne_eq_false_iff_eq.mpr c28
                    clear c28
                    by_cases c29 : a0_3 = 0
                    · rw [if_pos c29] at H
                      have c29b0 : (a0_3 == 0) = true := beq_iff_eq.mpr c29
                      have c29b1 : (a0_3 != 0) = false := bne_eq_false_iff_eq.mpr c29
                      clear c29
                      by_cases c30 : a0_4 = 0
                      · rw [if_pos c30] at H
                        have c30b0 : (a0_4 == 0) = true := beq_iff_eq.mpr c30
                        have c30b1 : (a0_4 != 0) = false := bne_eq_false_iff_eq.mpr c30
                        clear c30
                        by_cases c31 : a0_0 = 4
                        · rw [if_pos c31] at H
                          have c31b0 : (a0_0 == 4) = true := beq_iff_eq.mpr c31
                          have c31b1 : (a0_0 != 4) = false := bne_eq_false_iff_eq.mpr c31
                          clear c31
                          obtain rfl := Option.some.inj H
                          have hcz32_0 : wc.cell? ⟨gb260, 0, none⟩ = some (.int .i64 a0_0) := (blk_cell BK260.out 0).trans rfl
                          have hcz32_1 : wc.cell? ⟨gb260, 1, none⟩ = some (.int .i64 a0_1) := (blk_cell BK260.out 1).trans rfl
                          have hcz32_2 : wc.cell? ⟨gb260, 2, none⟩ = some (.int .i64 a0_2) := (blk_cell BK260.out 2).trans rfl
                          have hcz32_3 : wc.cell? ⟨gb260, 3, none⟩ = some (.int .i64 a0_3) := (blk_cell BK260.out 3).trans rfl
                          have hcz32_4 : wc.cell? ⟨gb260, 4, none⟩ = some (.int .i64 a0_4) := (blk_cell BK260.out 4).trans rfl
                          have hcz32_5 : wc.cell? ⟨gb260, 5, none⟩ = some (.string a0_5) := (blk_cell BK260.out 5).trans rfl
                          have hfz32_0 := blk_frozen BK260.out 0
                          have hfz32_1 := blk_frozen BK260.out 1
                          have hfz32_2 := blk_frozen BK260.out 2
                          have hfz32_3 := blk_frozen BK260.out 3
                          have hfz32_4 := blk_frozen BK260.out 4
                          have hfz32_5 := blk_frozen BK260.out 5
                          go_wp2
                          go_ret
                          exact ⟨by first | rfl | (simp [errW_none, errW_some] <;> rfl) | (simp [*, errW_none, errW_some] <;> rfl), by repeat (first | (with_reducible first | exact HB.out | apply below_alloc | apply pw_below_drewN | apply below_drew1 | refine below_set ?_ GE260.out) | exact HB.out)⟩
                        · rw [if_neg c31] at H
                          have c31b0 : (a0_0 == 4) = false := beq_eq_false_iff_ne.mpr c31
                          have c31b1 : (a0_0 != 4) = true := bne_iff_ne.mpr c31
                          by_cases c33 : a0_0 = 5
                          · rw [if_pos c33] at H
                            have c33b0 : (a0_0 == 5) = true := beq_iff_eq.mpr c33
                            have c33b1 : (a0_0 != 5) = false := bne_eq_false_iff_eq.mpr c33
                            clear c33
                            obtain rfl := Option.some.inj H
                            have hcz34_0 : wc.cell? ⟨gb260, 0, none⟩ = some (.int .i64 a0_0) := (blk_cell BK260.out 0).trans rfl
                            have hcz34_1 : wc.cell? ⟨gb260, 1, none⟩ = some (.int .i64 a0_1) := (blk_cell BK260.out 1).trans rfl
                            have hcz34_2 : wc.cell? ⟨gb260, 2, none⟩ = some (.int .i64 a0_2) := (blk_cell BK260.out 2).trans rfl
                            have hcz34_3 : wc.cell? ⟨gb260, 3, none⟩ = some (.int .i64 a0_3) := (blk_cell BK260.out 3).trans rfl
                            have hcz34_4 : wc.cell? ⟨gb260, 4, none⟩ = some (.int .i64 a0_4) := (blk_cell BK260.out 4).trans rfl
                            have hcz34_5 : wc.cell? ⟨gb260, 5, none⟩ = some (.string a0_5) := (blk_cell BK260.out 5).trans rfl
                            have hfz34_0 := blk_frozen BK260.out 0
                            have hfz34_1 := blk_frozen BK260.out 1
                            have hfz34_2 := blk_frozen BK260.out 2
                            have hfz34_3 := blk_frozen BK260.out 3
                            have hfz34_4 := blk_frozen BK260.out 4
                            have hfz34_5 := blk_frozen BK260.out 5
                            go_wp2
                            go_ret
                            exact ⟨by first | rfl | (simp [errW_none, errW_some] <;> rfl) | (simp [*, errW_none, errW_some] <;> rfl), by repeat (first | (with_reducible first | exact HB.out | apply below_alloc | apply pw_below_drewN | apply below_drew1 | refine below_set ?_ GE260.out) | exact HB.out)⟩
                          · rw [if_neg c33] at H
                            have c33b0 : (a0_0 == 5) = false := beq_eq_false_iff_ne.mpr c33
                            have c33b1 : (a0_0 != 5) = true := bne_iff_ne.mpr c33
                            obtain rfl := Option.some.inj H
                            have hcz35_0 : wc.cell? ⟨gb260, 0, none⟩ = some (.int .i64 a0_0) := (blk_cell BK260.out 0).trans rfl
                            have hcz35_1 : wc.cell? ⟨gb260, 1, none⟩ = some (.int .i64 a0_1) := (blk_cell BK260.out 1).trans rfl
                            have hcz35_2 : wc.cell? ⟨gb260, 2, none⟩ = some (.int .i64 a0_2) := (blk_cell BK260.out 2).trans rfl
                            have hcz35_3 : wc.cell? ⟨gb260, 3, none⟩ = some (.int .i64 a0_3) := (blk_cell BK260.out 3).trans rfl
                            have hcz35_4 : wc.cell? ⟨gb260, 4, none⟩ = some (.int .i64 a0_4) := (blk_cell BK260.out 4).trans rfl
                            have hcz35_5 : wc.cell? ⟨gb260, 5, none⟩ = some (.string a0_5) := (blk_cell BK260.out 5).trans rfl
                            have hfz35_0 := blk_frozen BK260.out 0
                            have hfz35_1 := blk_frozen BK260.out 1
                            have hfz35_2 := blk_frozen BK260.out 2
                            have hfz35_3 := blk_frozen BK260.out 3
                            have hfz35_4 := blk_frozen BK260.out 4
                            have hfz35_5 := blk_frozen BK260.out 5
                            go_wp2
                            go_ret
                            exact ⟨by first | rfl | (simp [errW_none, errW_some] <;> rfl) | (simp [*, errW_none, errW_some] <;> rfl), by repeat (first | (with_reducible first | exact HB.out | apply below_alloc | apply pw_below_drewN | apply below_drew1 | refine below_set ?_ GE260.out) | exact HB.out)⟩
                      · rw [if_neg c30] at H
                        have c30b0 : (a0_4 == 0) = false := beq_eq_false_iff_ne.mpr c30
                        have c30b1 : (a0_4 != 0) = true := bne_iff_ne.mpr c30
                        obtain rfl := Option.some.inj H
                        have hcz36_0 : wc.cell? ⟨gb260, 0, none⟩ = some (.int .i64 a0_0) := (blk_cell BK260.out 0).trans rfl
                        have hcz36_1 : wc.cell? ⟨gb260, 1, none⟩ = some (.int .i64 a0_1) := (blk_cell BK260.out 1).trans rfl
                        have hcz36_2 : wc.cell? ⟨gb260, 2, none⟩ = some (.int .i64 a0_2) := (blk_cell BK260.out 2).trans rfl
                        have hcz36_3 : wc.cell? ⟨gb260, 3, none⟩ = some (.int .i64 a0_3) := (blk_cell BK260.out 3).trans rfl
                        have hcz36_4 : wc.cell? ⟨gb260, 4, none⟩ = some (.int .i64 a0_4) := (blk_cell BK260.out 4).trans rfl
                        have hcz36_5 : wc.cell? ⟨gb260, 5, none⟩ = some (.string a0_5) := (blk_cell BK260.out 5).trans rfl
                        have hfz36_0 := blk_frozen BK260.out 0
                        have hfz36_1 := blk_frozen BK260.out 1
                        have hfz36_2 := blk_frozen BK260.out 2
                        have hfz36_3 := blk_frozen BK260.out 3
                        have hfz36_4 := blk_frozen BK260.out 4
                        have hfz36_5 := blk_frozen BK260.out 5
                        go_wp2
                        go_ret
                        exact ⟨by first | rfl | (simp [errW_none, errW_some] <;> rfl) | (simp [*, errW_none, errW_some] <;> rfl), by repeat (first | (with_reducible first | exact HB.out | apply below_alloc | apply pw_below_drewN | apply below_drew1 | refine below_set ?_ GE260.out) | exact HB.out)⟩
                    · rw [if_neg c29] at H
                      have c29b0 : (a0_3 == 0) = false := beq_eq_false_iff_ne.mpr c29
                      have c29b1 : (a0_3 != 0) = true := bne_iff_ne.mpr c29
                      obtain rfl := Option.some.inj H
                      have hcz37_0 : wc.cell? ⟨gb260, 0, none⟩ = some (.int .i64 a0_0) := (blk_cell BK260.out 0).trans rfl
                      have hcz37_1 : wc.cell? ⟨gb260, 1, none⟩ = some (.int .i64 a0_1) := (blk_cell BK260.out 1).trans rfl
                      have hcz37_2 : wc.cell? ⟨gb260, 2, none⟩ = some (.int .i64 a0_2) := (blk_cell BK260.out 2).trans rfl
                      have hcz37_3 : wc.cell? ⟨gb260, 3, none⟩ = some (.int .i64 a0_3) := (blk_cell BK260.out 3).trans rfl
                      have hcz37_4 : wc.cell? ⟨gb260, 4, none⟩ = some (.int .i64 a0_4) := (blk_cell BK260.out 4).trans rfl
                      have hcz37_5 : wc.cell? ⟨gb260, 5, none⟩ = some (.string a0_5) := (blk_cell BK260.out 5).trans rfl
                      have hfz37_0 := blk_frozen BK260.out 0
                      have hfz37_1 := blk_frozen BK260.out 1
                      have hfz37_2 := blk_frozen BK260.out 2
                      have hfz37_3 := blk_frozen BK260.out 3
                      have hfz37_4 := blk_frozen BK260.out 4
                      have hfz37_5 := blk_frozen BK260.out 5
                      go_wp2
                      go_ret
                      exact ⟨by first | rfl | (simp [errW_none, errW_some] <;> rfl) | (simp [*, errW_none, errW_some] <;> rfl), by repeat (first | (with_reducible first | exact HB.out | apply below_alloc | apply pw_below_drewN | apply below_drew1 | refine below_set ?_ GE260.out) | exact HB.out)⟩
                  · rw [if_neg c28] at H
                    have c28b0 : (a0_2 == 0) = false := beq_eq_false_iff_ne.mpr c28
                    have c28b1 : (a0_2 != 0) = true := bne_iff_ne.mpr c28
                    obtain rfl := Option.some.inj H
                    have hcz38_0 : wc.cell? ⟨gb260, 0, none⟩ = some (.int .i64 a0_0) := (blk_cell BK260.out 0).trans rfl
                    have hcz38_1 : wc.cell? ⟨gb260, 1, none⟩ = some (.int .i64 a0_1) := (blk_cell BK260.out 1).trans rfl
                    have hcz38_2 : wc.cell? ⟨gb260, 2, none⟩ = some (.int .i64 a0_2) := (blk_cell BK260.out 2).trans rfl
                    have hcz38_3 : wc.cell? ⟨gb260, 3, none⟩ = some (.int .i64 a0_3) := (blk_cell BK260.out 3).trans rfl
                    have hcz38_4 : wc.cell? ⟨gb260, 4, none⟩ = some (.int .i64 a0_4) := (blk_cell BK260.out 4).trans rfl
                    have hcz38_5 : wc.cell? ⟨gb260, 5, none⟩ = some (.string a0_5) := (blk_cell BK260.out 5).trans rfl
                    have hfz38_0 := blk_frozen BK260.out 0
                    have hfz38_1 := blk_frozen BK260.out 1
                    have hfz38_2 := blk_frozen BK260.out 2
                    have hfz38_3 := blk_frozen BK260.out 3
                    have hfz38_4 := blk_frozen BK260.out 4
                    have hfz38_5 := blk_frozen BK260.out 5
                    go_wp2
                    go_ret
                    exact ⟨by first | rfl | (simp [errW_none, errW_some] <;> rfl) | (simp [*, errW_none, errW_some] <;> rfl), by repeat (first | (with_reducible first | exact HB.out | apply below_alloc | apply pw_below_drewN | apply below_drew1 | refine below_set ?_ GE260.out) | exact HB.out)⟩
              · rw [if_neg c21] at H
                have c21b0 : (a0_5.toList == ([] : List UInt8)) = false := beq_eq_false_iff_ne.mpr c21
                have c21b1 : (a0_5.toList != ([] : List UInt8)) = true := bne_iff_ne.mpr c21
                obtain rfl := Option.some.inj H
                have hcz39_0 : wc.cell? ⟨gb260, 0, none⟩ = some (.int .i64 a0_0) := (blk_cell BK260.out 0).trans rfl
                have hcz39_1 : wc.cell? ⟨gb260, 1, none⟩ = some (.int .i64 a0_1) := (blk_cell BK260.out 1).trans rfl
                have hcz39_2 : wc.cell? ⟨gb260, 2, none⟩ = some (.int .i64 a0_2) := (blk_cell BK260.out 2).trans rfl
                have hcz39_3 : wc.cell? ⟨gb260, 3, none⟩ = some (.int .i64 a0_3) := (blk_cell BK260.out 3).trans rfl
                have hcz39_4 : wc.cell? ⟨gb260, 4, none⟩ = some (.int .i64 a0_4) := (blk_cell BK260.out 4).trans rfl
                have hcz39_5 : wc.cell? ⟨gb260, 5, none⟩ = some (.string a0_5) := (blk_cell BK260.out 5).trans rfl
                have hfz39_0 := blk_frozen BK260.out 0
                have hfz39_1 := blk_frozen BK260.out 1
                have hfz39_2 := blk_frozen BK260.out 2
                have hfz39_3 := blk_frozen BK260.out 3
                have hfz39_4 := blk_frozen BK260.out 4
                have hfz39_5 := blk_frozen BK260.out 5
                go_wp2
                go_ret
                exact ⟨by first | rfl | (simp [errW_none, errW_some] <;> rfl) | (simp [*, errW_none, errW_some] <;> rfl), by repeat (first | (with_reducible first | exact HB.out | apply below_alloc | apply pw_below_drewN | apply below_drew1 | refine below_set ?_ GE260.out) | exact HB.out)⟩
            · replace c20 := Bool.eq_false_iff.mpr c20
              subst c20
              have H1 : ((laminaref05_IsIdent.f kj15 a0_5).bind fun t261 => (if t261 = true then (if a0_0 = 1 then (if a0_0 = 4 then (some (a0_1 == 0)) else (if a0_0 = 5 then (some (a0_1 == 0)) else (some true))) else (if a0_2 = 0 then (if a0_3 = 0 then (if a0_4 = 0 then (if a0_0 = 4 then (some (a0_1 == 0)) else (if a0_0 = 5 then (some (a0_1 == 0)) else (some true))) else (some false)) else (some false)) else (some false))) else (some false))) = some r := by rw [if_neg (show ¬ (false = true) by decide)] at H; exact H
              clear H
              have H := H1
              clear H1
              replace H := Option.bind_eq_some_iff.mp H
              obtain ⟨t261, A400, H⟩ := H
              replace H : (if t261 = true then (if a0_0 = 1 then (if a0_0 = 4 then (some (a0_1 == 0)) else (if a0_0 = 5 then (some (a0_1 == 0)) else (some true))) else (if a0_2 = 0 then (if a0_3 = 0 then (if a0_4 = 0 then (if a0_0 = 4 then (some (a0_1 == 0)) else (if a0_0 = 5 then (some (a0_1 == 0)) else (some true))) else (some false)) else (some false)) else (some false))) else (some false)) = some r := H
              have A40 := Aside0.mk A400
              clear A400
              by_cases c41 : t261 = true
              · subst c41
                have H1 : (if a0_0 = 1 then (if a0_0 = 4 then (some (a0_1 == 0)) else (if a0_0 = 5 then (some (a0_1 == 0)) else (some true))) else (if a0_2 = 0 then (if a0_3 = 0 then (if a0_4 = 0 then (if a0_0 = 4 then (some (a0_1 == 0)) else (if a0_0 = 5 then (some (a0_1 == 0)) else (some true))) else (some false)) else (some false)) else (some false))) = some r := by rw [if_pos rfl] at H; exact H
                clear H
                have H := H1
                clear H1
                by_cases c42 : a0_0 = 1
                · rw [if_pos c42] at H
                  have c42b0 : (a0_0 == 1) = true := beq_iff_eq.mpr c42
                  have c42b1 : (a0_0 != 1) = false := bne_eq_false_iff_eq.mpr c42
                  clear c42
                  by_cases c43 : a0_0 = 4
                  · rw [if_pos c43] at H
                    have c43b0 : (a0_0 == 4) = true := beq_iff_eq.mpr c43
                    have c43b1 : (a0_0 != 4) = false := bne_eq_false_iff_eq.mpr c43
                    clear c43
                    obtain rfl := Option.some.inj H
                    have hcz44_0 : wc.cell? ⟨gb260, 0, none⟩ = some (.int .i64 a0_0) := (blk_cell BK260.out 0).trans rfl
                    have hcz44_1 : wc.cell? ⟨gb260, 1, none⟩ = some (.int .i64 a0_1) := (blk_cell BK260.out 1).trans rfl
                    have hcz44_2 : wc.cell? ⟨gb260, 2, none⟩ = some (.int .i64 a0_2) := (blk_cell BK260.out 2).trans rfl
                    have hcz44_3 : wc.cell? ⟨gb260, 3, none⟩ = some (.int .i64 a0_3) := (blk_cell BK260.out 3).trans rfl
                    have hcz44_4 : wc.cell? ⟨gb260, 4, none⟩ = some (.int .i64 a0_4) := (blk_cell BK260.out 4).trans rfl
                    have hcz44_5 : wc.cell? ⟨gb260, 5, none⟩ = some (.string a0_5) := (blk_cell BK260.out 5).trans rfl
                    have hfz44_0 := blk_frozen BK260.out 0
                    have hfz44_1 := blk_frozen BK260.out 1
                    have hfz44_2 := blk_frozen BK260.out 2
                    have hfz44_3 := blk_frozen BK260.out 3
                    have hfz44_4 := blk_frozen BK260.out 4
                    have hfz44_5 := blk_frozen BK260.out 5
                    go_wp2_with (first | ((with_reducible refine gate_callee (f := 37) rfl ?_); refine goesL_ (some 44) rfl rfl Try.func37 (by kernel_rfl) rfl #[.string a0_5] rfl (by (try simp only [List.map_toArray, List.map_cons, List.map_nil]); first | done | rfl | (simp only [List.length_drop, List.length_take]; rfl)) ?_; (with_reducible refine (laminaref05_IsIdent.calls kj15 a0_5 true _ A40.out).mono ?_); rintro e w' ⟨rfl, ⟨nd, rfl⟩⟩; refine ⟨_, rfl, ?_⟩))
                    go_ret
                    exact ⟨by first | rfl | (simp [errW_none, errW_some] <;> rfl) | (simp [*, errW_none, errW_some] <;> rfl), by repeat (first | (with_reducible first | exact HB.out | apply below_alloc | apply pw_below_drewN | apply below_drew1 | refine below_set ?_ GE260.out) | exact HB.out)⟩
                  · rw [if_neg c43] at H
                    have c43b0 : (a0_0 == 4) = false := beq_eq_false_iff_ne.mpr c43
                    have c43b1 : (a0_0 != 4) = true := bne_iff_ne.mpr c43
                    by_cases c45 : a0_0 = 5
                    · rw [if_pos c45] at H
                      have c45b0 : (a0_0 == 5) = true := beq_iff_eq.mpr c45
                      have c45b1 : (a0_0 != 5) = false := bne_eq_false_iff_eq.mpr c45
                      clear c45
                      obtain rfl := Option.some.inj H
                      have hcz46_0 : wc.cell? ⟨gb260, 0, none⟩ = some (.int .i64 a0_0) := (blk_cell BK260.out 0).trans rfl
                      have hcz46_1 : wc.cell? ⟨gb260, 1, none⟩ = some (.int .i64 a0_1) := (blk_cell BK260.out 1).trans rfl
                      have hcz46_2 : wc.cell? ⟨gb260, 2, none⟩ = some (.int .i64 a0_2) := (blk_cell BK260.out 2).trans rfl
                      have hcz46_3 : wc.cell? ⟨gb260, 3, none⟩ = some (.int .i64 a0_3) := (blk_cell BK260.out 3).trans rfl
                      have hcz46_4 : wc.cell? ⟨gb260, 4, none⟩ = some (.int .i64 a0_4) := (blk_cell BK260.out 4).trans rfl
                      have hcz46_5 : wc.cell? ⟨gb260, 5, none⟩ = some (.string a0_5) := (blk_cell BK260.out 5).trans rfl
                      have hfz46_0 := blk_frozen BK260.out 0
                      have hfz46_1 := blk_frozen BK260.out 1
                      have hfz46_2 := blk_frozen BK260.out 2
                      have hfz46_3 := blk_frozen BK260.out 3
                      have hfz46_4 := blk_frozen BK260.out 4
                      have hfz46_5 := blk_frozen BK260.out 5
                      go_wp2_with (first | ((with_reducible refine gate_callee (f := 37) rfl ?_); refine goesL_ (some 44) rfl rfl Try.func37 (by kernel_rfl) rfl #[.string a0_5] rfl (by (try simp only [List.map_toArray, List.map_cons, List.map_nil]); first | done | rfl | (simp only [List.length_drop, List.length_take]; rfl)) ?_; (with_reducible refine (laminaref05_IsIdent.calls kj15 a0_5 true _ A40.out).mono ?_); rintro e w' ⟨rfl, ⟨nd, rfl⟩⟩; refine ⟨_, rfl, ?_⟩))
                      go_ret
                      exact ⟨by first | rfl | (simp [errW_none, errW_some] <;> rfl) | (simp [*, errW_none, errW_some] <;> rfl), by repeat (first | (with_reducible first | exact HB.out | apply below_alloc | apply pw_below_drewN | apply below_drew1 | refine below_set ?_ GE260.out) | exact HB.out)⟩
                    · rw [if_neg c45] at H
                      have c45b0 : (a0_0 == 5) = false := beq_eq_false_iff_ne.mpr c45
                      have c45b1 : (a0_0 != 5) = true := bne_iff_ne.mpr c45
                      obtain rfl := Option.some.inj H
                      have hcz47_0 : wc.cell? ⟨gb260, 0, none⟩ = some (.int .i64 a0_0) := (blk_cell BK260.out 0).trans rfl
                      have hcz47_1 : wc.cell? ⟨gb260, 1, none⟩ = some (.int .i64 a0_1) := (blk_cell BK260.out 1).trans rfl
                      have hcz47_2 : wc.cell? ⟨gb260, 2, none⟩ = some (.int .i64 a0_2) := (blk_cell BK260.out 2).trans rfl
                      have hcz47_3 : wc.cell? ⟨gb260, 3, none⟩ = some (.int .i64 a0_3) := (blk_cell BK260.out 3).trans rfl
                      have hcz47_4 : wc.cell? ⟨gb260, 4, none⟩ = some (.int .i64 a0_4) := (blk_cell BK260.out 4).trans rfl
                      have hcz47_5 : wc.cell? ⟨gb260, 5, none⟩ = some (.string a0_5) := (blk_cell BK260.out 5).trans rfl
                      have hfz47_0 := blk_frozen BK260.out 0
                      have hfz47_1 := blk_frozen BK260.out 1
                      have hfz47_2 := blk_frozen BK260.out 2
                      have hfz47_3 := blk_frozen BK260.out 3
                      have hfz47_4 := blk_frozen BK260.out 4
                      have hfz47_5 := blk_frozen BK260.out 5
                      go_wp2_with (first | ((with_reducible refine gate_callee (f := 37) rfl ?_); refine goesL_ (some 44) rfl rfl Try.func37 (by kernel_rfl) rfl #[.string a0_5] rfl (by (try simp only [List.map_toArray, List.map_cons, List.map_nil]); first | done | rfl | (simp only [List.length_drop, List.length_take]; rfl)) ?_; (with_reducible refine (laminaref05_IsIdent.calls kj15 a0_5 true _ A40.out).mono ?_); rintro e w' ⟨rfl, ⟨nd, rfl⟩⟩; refine ⟨_, rfl, ?_⟩))
                      go_ret
                      exact ⟨by first | rfl | (simp [errW_none, errW_some] <;> rfl) | (simp [*, errW_none, errW_some] <;> rfl), by repeat (first | (with_reducible first | exact HB.out | apply below_alloc | apply pw_below_drewN | apply below_drew1 | refine below_set ?_ GE260.out) | exact HB.out)⟩
                · rw [if_neg c42] at H
                  have c42b0 : (a0_0 == 1) = false := beq_eq_false_iff_ne.mpr c42
                  have c42b1 : (a0_0 != 1) = true := bne_iff_ne.mpr c42
                  by_cases c48 : a0_2 = 0
                  · rw [if_pos c48] at H
                    have c48b0 : (a0_2 == 0) = true := beq_iff_eq.mpr c48
                    have c48b1 : (a0_2 != 0) = false := bne_eq_false_iff_eq.mpr c48
                    clear c48
                    by_cases c49 : a0_3 = 0
                    · rw [if_pos c49] at H
                      have c49b0 : (a0_3 == 0) = true := beq_iff_eq.mpr c49
                      have c49b1 : (a0_3 != 0) = false := bne_eq_false_iff_eq.mpr c49
                      clear c49
                      by_cases c50 : a0_4 = 0
                      · rw [if_pos c50] at H
                        have c50b0 : (a0_4 == 0) = true := beq_iff_eq.mpr c50
                        have c50b1 : (a0_4 != 0) = false := bne_eq_false_iff_eq.mpr c50
                        clear c50
                        by_cases c51 : a0_0 = 4
                        · rw [if_pos c51] at H
                          have c51b0 : (a0_0 == 4) = true := beq_iff_eq.mpr c51
                          have c51b1 : (a0_0 != 4) = false := bne_eq_false_iff_eq.mpr c51
                          clear c51
                          obtain rfl := Option.some.inj H
                          have hcz52_0 : wc.cell? ⟨gb260, 0, none⟩ = some (.int .i64 a0_0) := (blk_cell BK260.out 0).trans rfl
                          have hcz52_1 : wc.cell? ⟨gb260, 1, none⟩ = some (.int .i64 a0_1) := (blk_cell BK260.out 1).trans rfl
                          have hcz52_2 : wc.cell? ⟨gb260, 2, none⟩ = some (.int .i64 a0_2) := (blk_cell BK260.out 2).trans rfl
                          have hcz52_3 : wc.cell? ⟨gb260, 3, none⟩ = some (.int .i64 a0_3) := (blk_cell BK260.out 3).trans rfl
                          have hcz52_4 : wc.cell? ⟨gb260, 4, none⟩ = some (.int .i64 a0_4) := (blk_cell BK260.out 4).trans rfl
                          have hcz52_5 : wc.cell? ⟨gb260, 5, none⟩ = some (.string a0_5) := (blk_cell BK260.out 5).trans rfl
                          have hfz52_0 := blk_frozen BK260.out 0
                          have hfz52_1 := blk_frozen BK260.out 1
                          have hfz52_2 := blk_frozen BK260.out 2
                          have hfz52_3 := blk_frozen BK260.out 3
                          have hfz52_4 := blk_frozen BK260.out 4
                          have hfz52_5 := blk_frozen BK260.out 5
                          go_wp2_with (first | ((with_reducible refine gate_callee (f := 37) rfl ?_); refine goesL_ (some 44) rfl rfl Try.func37 (by kernel_rfl) rfl #[.string a0_5] rfl (by (try simp only [List.map_toArray, List.map_cons, List.map_nil]); first | done | rfl | (simp only [List.length_drop, List.length_take]; rfl)) ?_; (with_reducible refine (laminaref05_IsIdent.calls kj15 a0_5 true _ A40.out).mono ?_); rintro e w' ⟨rfl, ⟨nd, rfl⟩⟩; refine ⟨_, rfl, ?_⟩))
                          go_ret
                          exact ⟨by first | rfl | (simp [errW_none, errW_some] <;> rfl) | (simp [*, errW_none, errW_some] <;> rfl), by repeat (first | (with_reducible first | exact HB.out | apply below_alloc | apply pw_below_drewN | apply below_drew1 | refine below_set ?_ GE260.out) | exact HB.out)⟩
                        · rw [if_neg c51] at H
                          have c51b0 : (a0_0 == 4) = false := beq_eq_false_iff_ne.mpr c51
                          have c51b1 : (a0_0 != 4) = true := bne_iff_ne.mpr c51
                          by_cases c53 : a0_0 = 5
                          · rw [if_pos c53] at H
                            have c53b0 : (a0_0 == 5) = true := beq_iff_eq.mpr c53
                            have c53b1 : (a0_0 != 5) = false := bne_eq_false_iff_eq.mpr c53
                            clear c53
                            obtain rfl := Option.some.inj H
                            have hcz54_0 : wc.cell? ⟨gb260, 0, none⟩ = some (.int .i64 a0_0) := (blk_cell BK260.out 0).trans rfl
                            have hcz54_1 : wc.cell? ⟨gb260, 1, none⟩ = some (.int .i64 a0_1) := (blk_cell BK260.out 1).trans rfl
                            have hcz54_2 : wc.cell? ⟨gb260, 2, none⟩ = some (.int .i64 a0_2) := (blk_cell BK260.out 2).trans rfl
                            have hcz54_3 : wc.cell? ⟨gb260, 3, none⟩ = some (.int .i64 a0_3) := (blk_cell BK260.out 3).trans rfl
                            have hcz54_4 : wc.cell? ⟨gb260, 4, none⟩ = some (.int .i64 a0_4) := (blk_cell BK260.out 4).trans rfl
                            have hcz54_5 : wc.cell? ⟨gb260, 5, none⟩ = some (.string a0_5) := (blk_cell BK260.out 5).trans rfl
                            have hfz54_0 := blk_frozen BK260.out 0
                            have hfz54_1 := blk_frozen BK260.out 1
                            have hfz54_2 := blk_frozen BK260.out 2
                            have hfz54_3 := blk_frozen BK260.out 3
                            have hfz54_4 := blk_frozen BK260.out 4
                            have hfz54_5 := blk_frozen BK260.out 5
                            go_wp2_with (first | ((with_reducible refine gate_callee (f := 37) rfl ?_); refine goesL_ (some 44) rfl rfl Try.func37 (by kernel_rfl) rfl #[.string a0_5] rfl (by (try simp only [List.map_toArray, List.map_cons, List.map_nil]); first | done | rfl | (simp only [List.length_drop, List.length_take]; rfl)) ?_; (with_reducible refine (laminaref05_IsIdent.calls kj15 a0_5 true _ A40.out).mono ?_); rintro e w' ⟨rfl, ⟨nd, rfl⟩⟩; refine ⟨_, rfl, ?_⟩))
                            go_ret
                            exact ⟨by first | rfl | (simp [errW_none, errW_some] <;> rfl) | (simp [*, errW_none, errW_some] <;> rfl), by repeat (first | (with_reducible first | exact HB.out | apply below_alloc | apply pw_below_drewN | apply below_drew1 | refine below_set ?_ GE260.out) | exact HB.out)⟩
                          · rw [if_neg c53] at H
                            have c53b0 : (a0_0 == 5) = false := beq_eq_false_iff_ne.mpr c53
                            have c53b1 : (a0_0 != 5) = true := bne_iff_ne.mpr c53
                            obtain rfl := Option.some.inj H
                            have hcz55_0 : wc.cell? ⟨gb260, 0, none⟩ = some (.int .i64 a0_0) := (blk_cell BK260.out 0).trans rfl
                            have hcz55_1 : wc.cell? ⟨gb260, 1, none⟩ = some (.int .i64 a0_1) := (blk_cell BK260.out 1).trans rfl
                            have hcz55_2 : wc.cell? ⟨gb260, 2, none⟩ = some (.int .i64 a0_2) := (blk_cell BK260.out 2).trans rfl
                            have hcz55_3 : wc.cell? ⟨gb260, 3, none⟩ = some (.int .i64 a0_3) := (blk_cell BK260.out 3).trans rfl
                            have hcz55_4 : wc.cell? ⟨gb260, 4, none⟩ = some (.int .i64 a0_4) := (blk_cell BK260.out 4).trans rfl
                            have hcz55_5 : wc.cell? ⟨gb260, 5, none⟩ = some (.string a0_5) := (blk_cell BK260.out 5).trans rfl
                            have hfz55_0 := blk_frozen BK260.out 0
                            have hfz55_1 := blk_frozen BK260.out 1
                            have hfz55_2 := blk_frozen BK260.out 2
                            have hfz55_3 := blk_frozen BK260.out 3
                            have hfz55_4 := blk_frozen BK260.out 4
                            have hfz55_5 := blk_frozen BK260.out 5
                            go_wp2_with (first | ((with_reducible refine gate_callee (f := 37) rfl ?_); refine goesL_ (some 44) rfl rfl Try.func37 (by kernel_rfl) rfl #[.string a0_5] rfl (by (try simp only [List.map_toArray, List.map_cons, List.map_nil]); first | done | rfl | (simp only [List.length_drop, List.length_take]; rfl)) ?_; (with_reducible refine (laminaref05_IsIdent.calls kj15 a0_5 true _ A40.out).mono ?_); rintro e w' ⟨rfl, ⟨nd, rfl⟩⟩; refine ⟨_, rfl, ?_⟩))
                            go_ret
                            exact ⟨by first | rfl | (simp [errW_none, errW_some] <;> rfl) | (simp [*, errW_none, errW_some] <;> rfl), by repeat (first | (with_reducible first | exact HB.out | apply below_alloc | apply pw_below_drewN | apply below_drew1 | refine below_set ?_ GE260.out) | exact HB.out)⟩
                      · rw [if_neg c50] at H
                        have c50b0 : (a0_4 == 0) = false := beq_eq_false_iff_ne.mpr c50
                        have c50b1 : (a0_4 != 0) = true := bne_iff_ne.mpr c50
                        obtain rfl := Option.some.inj H
                        have hcz56_0 : wc.cell? ⟨gb260, 0, none⟩ = some (.int .i64 a0_0) := (blk_cell BK260.out 0).trans rfl
                        have hcz56_1 : wc.cell? ⟨gb260, 1, none⟩ = some (.int .i64 a0_1) := (blk_cell BK260.out 1).trans rfl
                        have hcz56_2 : wc.cell? ⟨gb260, 2, none⟩ = some (.int .i64 a0_2) := (blk_cell BK260.out 2).trans rfl
                        have hcz56_3 : wc.cell? ⟨gb260, 3, none⟩ = some (.int .i64 a0_3) := (blk_cell BK260.out 3).trans rfl
                        have hcz56_4 : wc.cell? ⟨gb260, 4, none⟩ = some (.int .i64 a0_4) := (blk_cell BK260.out 4).trans rfl
                        have hcz56_5 : wc.cell? ⟨gb260, 5, none⟩ = some (.string a0_5) := (blk_cell BK260.out 5).trans rfl
                        have hfz56_0 := blk_frozen BK260.out 0
                        have hfz56_1 := blk_frozen BK260.out 1
                        have hfz56_2 := blk_frozen BK260.out 2
                        have hfz56_3 := blk_frozen BK260.out 3
                        have hfz56_4 := blk_frozen BK260.out 4
                        have hfz56_5 := blk_frozen BK260.out 5
                        go_wp2_with (first | ((with_reducible refine gate_callee (f := 37) rfl ?_); refine goesL_ (some 44) rfl rfl Try.func37 (by kernel_rfl) rfl #[.string a0_5] rfl (by (try simp only [List.map_toArray, List.map_cons, List.map_nil]); first | done | rfl | (simp only [List.length_drop, List.length_take]; rfl)) ?_; (with_reducible refine (laminaref05_IsIdent.calls kj15 a0_5 true _ A40.out).mono ?_); rintro e w' ⟨rfl, ⟨nd, rfl⟩⟩; refine ⟨_, rfl, ?_⟩))
                        go_ret
                        exact ⟨by first | rfl | (simp [errW_none, errW_some] <;> rfl) | (simp [*, errW_none, errW_some] <;> rfl), by repeat (first | (with_reducible first | exact HB.out | apply below_alloc | apply pw_below_drewN | apply below_drew1 | refine below_set ?_ GE260.out) | exact HB.out)⟩
                    · rw [if_neg c49] at H
                      have c49b0 : (a0_3 == 0) = false := beq_eq_false_iff_ne.mpr c49
                      have c49b1 : (a0_3 != 0) = true := bne_iff_ne.mpr c49
                      obtain rfl := Option.some.inj H
                      have hcz57_0 : wc.cell? ⟨gb260, 0, none⟩ = some (.int .i64 a0_0) := (blk_cell BK260.out 0).trans rfl
                      have hcz57_1 : wc.cell? ⟨gb260, 1, none⟩ = some (.int .i64 a0_1) := (blk_cell BK260.out 1).trans rfl
                      have hcz57_2 : wc.cell? ⟨gb260, 2, none⟩ = some (.int .i64 a0_2) := (blk_cell BK260.out 2).trans rfl
                      have hcz57_3 : wc.cell? ⟨gb260, 3, none⟩ = some (.int .i64 a0_3) := (blk_cell BK260.out 3).trans rfl
                      have hcz57_4 : wc.cell? ⟨gb260, 4, none⟩ = some (.int .i64 a0_4) := (blk_cell BK260.out 4).trans rfl
                      have hcz57_5 : wc.cell? ⟨gb260, 5, none⟩ = some (.string a0_5) := (blk_cell BK260.out 5).trans rfl
                      have hfz57_0 := blk_frozen BK260.out 0
                      have hfz57_1 := blk_frozen BK260.out 1
                      have hfz57_2 := blk_frozen BK260.out 2
                      have hfz57_3 := blk_frozen BK260.out 3
                      have hfz57_4 := blk_frozen BK260.out 4
                      have hfz57_5 := blk_frozen BK260.out 5
                      go_wp2_with (first | ((with_reducible refine gate_callee (f := 37) rfl ?_); refine goesL_ (some 44) rfl rfl Try.func37 (by kernel_rfl) rfl #[.string a0_5] rfl (by (try simp only [List.map_toArray, List.map_cons, List.map_nil]); first | done | rfl | (simp only [List.length_drop, List.length_take]; rfl)) ?_; (with_reducible refine (laminaref05_IsIdent.calls kj15 a0_5 true _ A40.out).mono ?_); rintro e w' ⟨rfl, ⟨nd, rfl⟩⟩; refine ⟨_, rfl, ?_⟩))
                      go_ret
                      exact ⟨by first | rfl | (simp [errW_none, errW_some] <;> rfl) | (simp [*, errW_none, errW_some] <;> rfl), by repeat (first | (with_reducible first | exact HB.out | apply below_alloc | apply pw_below_drewN | apply below_drew1 | refine below_set ?_ GE260.out) | exact HB.out)⟩
                  · rw [if_neg c48] at H
                    have c48b0 : (a0_2 == 0) = false := beq_eq_false_iff_ne.mpr c48
                    have c48b1 : (a0_2 != 0) = true := bne_iff_ne.mpr c48
                    obtain rfl := Option.some.inj H
                    have hcz58_0 : wc.cell? ⟨gb260, 0, none⟩ = some (.int .i64 a0_0) := (blk_cell BK260.out 0).trans rfl
                    have hcz58_1 : wc.cell? ⟨gb260, 1, none⟩ = some (.int .i64 a0_1) := (blk_cell BK260.out 1).trans rfl
                    have hcz58_2 : wc.cell? ⟨gb260, 2, none⟩ = some (.int .i64 a0_2) := (blk_cell BK260.out 2).trans rfl
                    have hcz58_3 : wc.cell? ⟨gb260, 3, none⟩ = some (.int .i64 a0_3) := (blk_cell BK260.out 3).trans rfl
                    have hcz58_4 : wc.cell? ⟨gb260, 4, none⟩ = some (.int .i64 a0_4) := (blk_cell BK260.out 4).trans rfl
                    have hcz58_5 : wc.cell? ⟨gb260, 5, none⟩ = some (.string a0_5) := (blk_cell BK260.out 5).trans rfl
                    have hfz58_0 := blk_frozen BK260.out 0
                    have hfz58_1 := blk_frozen BK260.out 1
                    have hfz58_2 := blk_frozen BK260.out 2
                    have hfz58_3 := blk_frozen BK260.out 3
                    have hfz58_4 := blk_frozen BK260.out 4
                    have hfz58_5 := blk_frozen BK260.out 5
                    go_wp2_with (first | ((with_reducible refine gate_callee (f := 37) rfl ?_); refine goesL_ (some 44) rfl rfl Try.func37 (by kernel_rfl) rfl #[.string a0_5] rfl (by (try simp only [List.map_toArray, List.map_cons, List.map_nil]); first | done | rfl | (simp only [List.length_drop, List.length_take]; rfl)) ?_; (with_reducible refine (laminaref05_IsIdent.calls kj15 a0_5 true _ A40.out).mono ?_); rintro e w' ⟨rfl, ⟨nd, rfl⟩⟩; refine ⟨_, rfl, ?_⟩))
                    go_ret
                    exact ⟨by first | rfl | (simp [errW_none, errW_some] <;> rfl) | (simp [*, errW_none, errW_some] <;> rfl), by repeat (first | (with_reducible first | exact HB.out | apply below_alloc | apply pw_below_drewN | apply below_drew1 | refine below_set ?_ GE260.out) | exact HB.out)⟩
              · replace c41 := Bool.eq_false_iff.mpr c41
                subst c41
                have H1 : (some false) = some r := by rw [if_neg (show ¬ (false = true) by decide)] at H; exact H
                clear H
                have H := H1
                clear H1
                obtain rfl := Option.some.inj H
                have hcz59_0 : wc.cell? ⟨gb260, 0, none⟩ = some (.int .i64 a0_0) := (blk_cell BK260.out 0).trans rfl
                have hcz59_1 : wc.cell? ⟨gb260, 1, none⟩ = some (.int .i64 a0_1) := (blk_cell BK260.out 1).trans rfl
                have hcz59_2 : wc.cell? ⟨gb260, 2, none⟩ = some (.int .i64 a0_2) := (blk_cell BK260.out 2).trans rfl
                have hcz59_3 : wc.cell? ⟨gb260, 3, none⟩ = some (.int .i64 a0_3) := (blk_cell BK260.out 3).trans rfl
                have hcz59_4 : wc.cell? ⟨gb260, 4, none⟩ = some (.int .i64 a0_4) := (blk_cell BK260.out 4).trans rfl
                have hcz59_5 : wc.cell? ⟨gb260, 5, none⟩ = some (.string a0_5) := (blk_cell BK260.out 5).trans rfl
                have hfz59_0 := blk_frozen BK260.out 0
                have hfz59_1 := blk_frozen BK260.out 1
                have hfz59_2 := blk_frozen BK260.out 2
                have hfz59_3 := blk_frozen BK260.out 3
                have hfz59_4 := blk_frozen BK260.out 4
                have hfz59_5 := blk_frozen BK260.out 5
                go_wp2_with (first | ((with_reducible refine gate_callee (f := 37) rfl ?_); refine goesL_ (some 44) rfl rfl Try.func37 (by kernel_rfl) rfl #[.string a0_5] rfl (by (try simp only [List.map_toArray, List.map_cons, List.map_nil]); first | done | rfl | (simp only [List.length_drop, List.length_take]; rfl)) ?_; (with_reducible refine (laminaref05_IsIdent.calls kj15 a0_5 false _ A40.out).mono ?_); rintro e w' ⟨rfl, ⟨nd, rfl⟩⟩; refine ⟨_, rfl, ?_⟩))
                go_ret
                exact ⟨by first | rfl | (simp [errW_none, errW_some] <;> rfl) | (simp [*, errW_none, errW_some] <;> rfl), by repeat (first | (with_reducible first | exact HB.out | apply below_alloc | apply pw_below_drewN | apply below_drew1 | refine below_set ?_ GE260.out) | exact HB.out)⟩

end Go.Proofs.Ytfkgpmidcbjlbaa.P
end
section
set_option linter.unusedVariables false
set_option linter.unusedSimpArgs false
/- Plain: an entry's validity, the program's and the reference's. -/
namespace Go.Proofs.Ytfkgpmidcbjlbaa.U
open Go.RowKit Go.Proofs.Ytfkgpmidcbjlbaa.P Go.Proofs.Ytfkgpmidcbjlbaa.H Go.Proofs.YtfkgpmidcbjlbaaW.PrintWords Go.Proofs.YtfkgpmidcbjlbaaW.PrintMore

theorem bt_nat (s : ByteArray) (i : Nat) (h : i < s.size) : bt s (i : Int) = ((s[i]'h).toNat : Int) := by
  unfold bt
  rw [dif_pos (by simpa using h)]
  rfl
theorem ident_ref_l (s : ByteArray) (h0 : 0 < s.size) (h2 : s.size ≤ 32) (h3 : 97 ≤ (s[0]'h0).toNat) (h4 : (s[0]'h0).toNat ≤ 122) : ∀ f i : Nat, i + f = s.size → (s.data.toList.take i).all (fun c => okc c.toNat) = true → Ev (fun k => laminaref05_IsIdent.l0 k s (i : Int)) (identB s)
  | 0, i, hi, ha => by
    refine Ev.step (fun k => rfl) (Ev.neg (by omega) ?_)
    rw [ident_all s h0 h2 h3 h4 (by rw [List.take_of_length_le (by rw [data_length]; omega)] at ha; exact ha)]
    exact Ev.pure _
  | f + 1, i, hi, ha => by
    refine Ev.step (fun k => rfl) (Ev.pos (by omega) (Ev.pos (by omega) ?_))
    have hlt : i < s.size := by omega
    rw [bt_nat s i hlt, show wrap64 ((i : Int) + 1) = ((i + 1 : Nat) : Int) from by rw [w64 _ (by omega) (by omega)]; omega]
    have hgo : okc (s[i]'hlt).toNat = true → Ev (fun k => laminaref05_IsIdent.l0 k s ((i + 1 : Nat) : Int)) (identB s) := fun hok =>
      ident_ref_l s h0 h2 h3 h4 f (i + 1) (by omega) (all_take_succ s i hlt (fun c => okc c.toNat) ha hok)
    have hno : okc (s[i]'hlt).toNat = false → Ev (fun _ => some false) (identB s) := fun hok => by
      rw [ident_at s i hlt hok]; exact Ev.pure _
    generalize (s[i]'hlt).toNat = c at hgo hno
    have hl : laminaref05_letter.f (c : Int) = some (decide (97 ≤ c) && decide (c ≤ 122)) := by
      unfold laminaref05_letter.f
      by_cases h : 97 ≤ c
      · rw [if_pos (by omega)]; simp [h]; omega
      · rw [if_neg (by omega)]; simp [h]
    have hd : laminaref05_digit.f (c : Int) = some (decide (48 ≤ c) && decide (c ≤ 57)) := by
      unfold laminaref05_digit.f
      by_cases h : 48 ≤ c
      · rw [if_pos (by omega)]; simp [h]; omega
      · rw [if_neg (by omega)]; simp [h]
    refine Ev.bind (Ev.of fun _ => hl) (Ev.ite (fun c1 => hgo (by unfold okc; rw [c1]; simp)) (fun c1 => Ev.bind (Ev.of fun _ => hd) (Ev.ite (fun c2 => hgo (by unfold okc; rw [c2]; simp)) (fun c2 => Ev.ite (fun c3 => hgo ?_) (fun c3 => hno ?_)))))
    · unfold okc; rw [decide_eq_true (show c = 95 by omega)]; simp
    · unfold okc; rw [Bool.not_eq_true _ |>.mp c1, Bool.not_eq_true _ |>.mp c2, decide_eq_false (show ¬ c = 95 by omega)]; rfl
theorem ident_ref (s : ByteArray) : Ev (fun k => laminaref05_IsIdent.f k s) (identB s) := by
  refine Ev.ite (fun c1 => ?_) (fun c1 => Ev.ite (fun c2 => ?_) (fun c2 => Ev.pos (by omega) ?_))
  · rw [ident_empty s (by omega)]
    exact Ev.step (fun k => rfl) (Ev.pure _)
  · rw [ident_long s (by omega)]
    exact Ev.step (fun k => rfl) (Ev.pure _)
  · have h0 : 0 < s.size := by omega
    have hb : bt s 0 = ((s[0]'h0).toNat : Int) := bt_nat s 0 h0
    rw [hb]
    have hl : laminaref05_letter.f ((s[0]'h0).toNat : Int) = some (decide (97 ≤ (s[0]'h0).toNat) && decide ((s[0]'h0).toNat ≤ 122)) := by
      unfold laminaref05_letter.f
      by_cases h : 97 ≤ (s[0]'h0).toNat
      · rw [if_pos (by omega)]; simp [h]; omega
      · rw [if_neg (by omega)]; simp [h]
    refine Ev.bind (Ev.of fun _ => hl) (Ev.step (fun k => rfl) (Ev.ite (fun c3 => ?_) (fun c3 => ?_)))
    · have : identB s = false := by
        by_cases h : 97 ≤ (s[0]'h0).toNat
        · exact ident_high s h0 (by simpa [h] using c3)
        · exact ident_low s h0 h
      rw [this]; exact Ev.pure _
    · have h3 : 97 ≤ (s[0]'h0).toNat ∧ (s[0]'h0).toNat ≤ 122 := by simpa using c3
      refine ident_ref_l s h0 (by omega) h3.1 h3.2 (s.size - 1) 1 (by omega) ?_
      have := all_take_succ s 0 h0 (fun c => okc c.toNat) (by simp) (by unfold okc; rw [decide_eq_true h3.1, decide_eq_true h3.2]; rfl)
      exact this
theorem valid_ref (k i p m t : Int) (n : ByteArray) : Ev (fun q => laminaref24_Valid.f q k i p m t n) (validB k i p m t n) := by
  have hbad : validB k i p m t n = false → Ev (fun q => laminaref24_Valid.j0 q true k i p m t n) (validB k i p m t n) := fun h => by
    rw [h]; exact Ev.step (fun k => rfl) (Ev.pure _)
  refine Ev.ite (fun c1 => hbad ?_) (fun c1 => Ev.ite (fun c2 => hbad ?_) (fun c2 => Ev.ite (fun c3 => hbad ?_) (fun c3 => Ev.ite (fun c4 => hbad ?_) (fun c4 => Ev.ite (fun c5 => hbad ?_) (fun c5 => ?_)))))
  · unfold validB; rw [decide_eq_false (show ¬ 1 ≤ k by omega)]; simp
  · unfold validB; rw [decide_eq_false (show ¬ k ≤ 7 by omega)]; simp
  · unfold validB; rw [decide_eq_false (show ¬ 0 ≤ i by omega)]; simp
  · unfold validB; rw [decide_eq_false (show ¬ 0 ≤ p by omega)]; simp
  · unfold validB; rw [decide_eq_false (show ¬ 0 ≤ m by omega)]; simp
  refine Ev.step (fun k => rfl) (Ev.ite (fun c6 => ?_) (fun c6 => ?_))
  · rw [show validB k i p m t n = false from by unfold validB; rw [decide_eq_false (show ¬ 0 ≤ t by simpa using c6)]; simp]
    exact Ev.pure _
  have hv : validB k i p m t n = (namedB k n && numberedB k i p m t) := by
    unfold validB
    rw [decide_eq_true (show 1 ≤ k by omega), decide_eq_true (show k ≤ 7 by omega), decide_eq_true (show 0 ≤ i by omega), decide_eq_true (show 0 ≤ p by omega), decide_eq_true (show 0 ≤ m by omega), decide_eq_true (show 0 ≤ t by simpa using c6)]
    simp
  rw [hv]
  have htail : Ev (fun _ : Nat => if k = 1 then (if k = 4 then (some (i == 0)) else (if k = 5 then (some (i == 0)) else (some true))) else (if p = 0 then (if m = 0 then (if t = 0 then (if k = 4 then (some (i == 0)) else (if k = 5 then (some (i == 0)) else (some true))) else (some false)) else (some false)) else (some false))) (numberedB k i p m t) := by
    refine Ev.of fun _ => ?_
    unfold numberedB
    by_cases h1 : k = 1
    · subst h1; rfl
    · rw [if_neg h1, if_neg h1]
      by_cases hp : p = 0 <;> by_cases hm : m = 0 <;> by_cases ht : t = 0 <;> by_cases h4 : k = 4 <;> by_cases h5 : k = 5 <;> by_cases hi : i = 0 <;> simp [hp, hm, ht, h4, h5, hi]
  have hpart : ∀ b : Bool, b = decide (k = 6 ∨ k = 7) → Ev (fun q => laminaref24_Valid.j1 q b k i p m t n) (namedB k n && numberedB k i p m t) := by
    intro b hb
    refine Ev.step (fun k => rfl) (Ev.ite (fun c => ?_) (fun c => ?_))
    · have hk : k = 6 ∨ k = 7 := by rw [hb] at c; simpa using c
      have hn : namedB k n = decide (n.size = 0) := by unfold namedB; rw [if_pos hk]
      have he : n.toList = [] ↔ n.size = 0 := by
        constructor
        · intro h
          have h1 := congrArg List.length h
          rw [ByteArray.toList_eq] at h1
          rw [← data_length]; exact h1
        · intro h
          rw [ByteArray.toList_eq, ← List.length_eq_zero_iff, data_length]; exact h
      rw [hn]
      refine Ev.ite (fun c8 => ?_) (fun c8 => ?_)
      · rw [decide_eq_true (he.1 c8), Bool.true_and]; exact htail
      · rw [decide_eq_false (fun h => c8 (he.2 h)), Bool.false_and]; exact Ev.pure _
    · have hk : ¬ (k = 6 ∨ k = 7) := by rw [hb] at c; simpa using c
      have hn : namedB k n = identB n := by unfold namedB; rw [if_neg hk]
      rw [hn]
      refine Ev.bind (ident_ref n) (Ev.ite (fun c8 => ?_) (fun c8 => ?_))
      · rw [c8, Bool.true_and]; exact htail
      · rw [Bool.not_eq_true _ |>.mp c8, Bool.false_and]; exact Ev.pure _
  refine Ev.ite (fun c => hpart _ ?_) (fun c => hpart _ ?_)
  · rw [decide_eq_true (Or.inl c)]
  · by_cases h7 : k = 7
    · rw [decide_eq_true (Or.inr h7), h7]; rfl
    · rw [decide_eq_false (by omega)]; simpa using h7
/-- the name of a valid entry is short -/
theorem ident_short (n : ByteArray) (h : identB n = true) : n.size ≤ 32 := by
  rcases Nat.lt_or_ge 32 n.size with hl | hl
  · rw [ident_long n (by omega)] at h; cases h
  · exact hl
theorem validB_parts (k i p m t : Int) (n : ByteArray) (h : validB k i p m t n = true) : 1 ≤ k ∧ k ≤ 7 ∧ 0 ≤ i ∧ 0 ≤ p ∧ 0 ≤ m ∧ 0 ≤ t ∧ n.size ≤ 32 := by
  unfold validB at h
  simp only [Bool.and_eq_true, decide_eq_true_eq] at h
  obtain ⟨⟨⟨⟨⟨⟨⟨h1, h2⟩, h3⟩, h4⟩, h5⟩, h6⟩, h7⟩, _⟩ := h
  refine ⟨h1, h2, h3, h4, h5, h6, ?_⟩
  unfold namedB at h7
  split at h7
  · have := of_decide_eq_true h7; omega
  · exact ident_short n h7
end Go.Proofs.Ytfkgpmidcbjlbaa.U
end
section
set_option linter.unusedVariables false
set_option linter.unusedSimpArgs false
/- commitlog.fields: six numbers and a name. -/
namespace Go.Proofs.Ytfkgpmidcbjlbaa.P
open Go.RowKit Go.Proofs.Ytfkgpmidcbjlbaa.H Go.Proofs.YtfkgpmidcbjlbaaW.PrintWords
abbrev FR := Int × Int × Int × Int × Int × ByteArray × Int
def zFR (e : Int) : FR := (0, 0, 0, 0, 0, (⟨#[]⟩ : ByteArray), e)
/-- behind the six numbers -/
def commitlog_fields.e (l : List Int) (at_ : Int) (a0 a1 a2 a3 a4 a5 : Int) : Option FR :=
  if 0 ≤ at_ ∧ at_ ≤ (l.length : Int) then
    if (l.length : Int) - at_ < a5 then some (zFR 2)
    else if a5 < (l.length : Int) - at_ then some (zFR 3)
    else if 7 < a0 then some (zFR 4)
    else if validB a0 a1 a2 a3 a4 (strOfNums (l.drop at_.toNat)) = true then some (a0, a1, a2, a3, a4, strOfNums (l.drop at_.toNat), 0)
    else some (zFR 4)
  else none
def commitlog_fields.g (k : Nat) (l : List Int) : Nat → Int → List Int → Option FR
  | 0, at_, acc => commitlog_fields.e l at_ (acc.getD 0 0) (acc.getD 1 0) (acc.getD 2 0) (acc.getD 3 0) (acc.getD 4 0) (acc.getD 5 0)
  | n + 1, at_, acc => (varint_Decode.f k l at_).bind fun b =>
      if b.2.2 = 0 then (if 9223372036854775807 < b.1 then some (zFR 6) else commitlog_fields.g k l n b.2.1 (acc ++ [wrap64 b.1])) else some (zFR b.2.2)
def commitlog_fields.f (k : Nat) (l : List Int) : Option FR := commitlog_fields.g k l 6 0 []
theorem commitlog_fields.mono_g (k : Nat) (l : List Int) : ∀ n at_ acc, LeO (commitlog_fields.g k l n at_ acc) (commitlog_fields.g (k + 1) l n at_ acc)
  | 0, _, _ => LeO.refl _
  | n + 1, at_, acc => by
    unfold commitlog_fields.g
    refine LeO.bind (varint_Decode.mono _ _ _) (fun b => ?_)
    refine LeO.ite (LeO.ite (LeO.refl _) (commitlog_fields.mono_g k l n _ _)) (LeO.refl _)
theorem commitlog_fields.mono : ∀ a0 k, LeO (commitlog_fields.f k a0) (commitlog_fields.f (k + 1) a0) := fun a0 k => commitlog_fields.mono_g k a0 6 0 []
end Go.Proofs.Ytfkgpmidcbjlbaa.P
namespace Go.Proofs.Ytfkgpmidcbjlbaa.H
open Go.RowKit Go.Proofs.YtfkgpmidcbjlbaaW.PrintWords Go.Proofs.Ytfkgpmidcbjlbaa.P

/-- the world at a round's head: the result's block, the six numbers' block -/
structure FW (w wr : World) (k : Nat) (c : Array Value) (acc : List Int) : Prop where
  size : wr.heap.size = w.heap.size + 2
  b0 : wr.heap[w.heap.size]? = some (.cells #[.int .i64 0, .int .i64 0, .int .i64 0, .int .i64 0, .int .i64 0, .string ⟨#[]⟩] 23 (0, 0))
  b1 : wr.heap[w.heap.size + 1]? = some (.cells c 106 (0, 0))
  csz : c.size = 6
  len : acc.length = k
  vals : ∀ j, j < k → c[j]? = some (.int .i64 (acc.getD j 0))
  below : Below w.heap.size w wr

theorem FW.start (w : World) : FW w ((w.alloc (.cells #[.int .i64 0, .int .i64 0, .int .i64 0, .int .i64 0, .int .i64 0, .string ⟨#[]⟩] 23)).alloc (.cells #[.int .i64 0, .int .i64 0, .int .i64 0, .int .i64 0, .int .i64 0, .int .i64 0] 106)) 0 #[.int .i64 0, .int .i64 0, .int .i64 0, .int .i64 0, .int .i64 0, .int .i64 0] [] :=
  ⟨by simp, heap_alloc2_old _ _ _, heap_alloc2_new _ _ _, rfl, rfl, fun j hj => absurd hj (Nat.not_lt_zero _), ((Below.refl _ _).alloc (Nat.le_refl _) _).alloc (by simp) _⟩
theorem FW.drawn {w wr w1 : World} {k : Nat} {c : Array Value} {acc : List Int} (h : FW w wr k c acc) (hd : Drawn0 wr w1) : FW w w1 k c acc := by
  obtain ⟨⟨m, rfl⟩⟩ := hd
  exact ⟨h.size, h.b0, h.b1, h.csz, h.len, h.vals, h.below.trans ((Drawn0.mk ⟨m, rfl⟩).below.mono (by rw [h.size]; omega))⟩
theorem FW.cell {w wr : World} {k : Nat} {c : Array Value} {acc : List Int} (h : FW w wr k c acc) (j : Nat) (hj : j < k) : wr.cell? ⟨w.heap.size + 1, j, none⟩ = some (.int .i64 (acc.getD j 0)) := by
  rw [cell_of_row _ _ _ _ _ _ h.b1]; exact h.vals j hj
theorem FW.any {w wr : World} {k : Nat} {c : Array Value} {acc : List Int} (h : FW w wr k c acc) (j : Nat) (hj : j < 6) : ∃ v, wr.cell? ⟨w.heap.size + 1, j, none⟩ = some v := by
  rw [cell_of_row _ _ _ _ _ _ h.b1]
  exact ⟨_, Array.getElem?_eq_getElem (by rw [h.csz]; exact hj)⟩
theorem FW.step {w wr : World} {k : Nat} {c : Array Value} {acc : List Int} (h : FW w wr k c acc) (hk : k < 6) (x : Int) : FW w (wr.setCell ⟨w.heap.size + 1, k, none⟩ (.int .i64 x)) (k + 1) (c.setIfInBounds k (.int .i64 x)) (acc ++ [x]) := by
  refine ⟨by simp [World.setCell, h.size], ?_, heap_setCell_same _ _ _ _ _ _ h.b1, by simpa using h.csz, by simp [h.len], fun j hj => ?_, h.below.setCell (by simp) _⟩
  · rw [heap_setCell_other _ _ _ _ (by simp)]; exact h.b0
  · rw [Array.getElem?_setIfInBounds]
    by_cases e : k = j
    · subst e
      rw [if_pos rfl, if_pos (by rw [h.csz]; exact hk)]
      simp [List.getD_eq_getElem?_getD, h.len]
    · rw [if_neg e, h.vals j (by omega)]
      rw [List.getD_eq_getElem?_getD, List.getD_eq_getElem?_getD, List.getElem?_append_left (by rw [h.len]; omega)]

theorem infoU8 : (Try.prog.info? 5).map (fun i => (i.zero, i.size, i.bytes)) = some (some (.int .u8 0), 1, 1) := by kernel_rfl
theorem heap_drew_alloc_old {w : World} {b : Nat} {o : Obj} (h : w.heap[b]? = some o) (p : Obj) (hb : b < w.heap.size) : (w.alloc p).drew.heap[b]? = some o := by
  exact ((((Below.refl w.heap.size w).alloc (Nat.le_refl _) p).drew).block b hb).trans h
def Z6 : Array Value := #[.int .i64 0, .int .i64 0, .int .i64 0, .int .i64 0, .int .i64 0, .string ⟨#[]⟩]
set_option maxRecDepth 100000 in
set_option maxHeartbeats 4000000 in
theorem fields_calls (k : Nat) (A0 : Option Addr) (c0 : Nat) (l0 : List Int) (R : FR) (w : World) (hr0 : Kd.C (Kd.int .u8) w A0 l0.length l0) (hc0 : l0.length ≤ c0) (h : commitlog_fields.f k l0 = some R) :
    Calls Try.prog 34 #[.slice A0 l0.length c0] w fun e w' => e = .returned (.tuple #[.agg #[.int .i64 R.1, .int .i64 R.2.1, .int .i64 R.2.2.1, .int .i64 R.2.2.2.1, .int .i64 R.2.2.2.2.1, .string R.2.2.2.2.2.1], .int .i64 R.2.2.2.2.2.2]) ∧ Below w.heap.size w w' := by
  have HR := hid hr0
  have HC := hid hc0
  have HF := hid (show commitlog_fields.g k l0 6 0 [] = some R from h)
  clear hr0 hc0 h
  go_enter Try.func34, Try.ntmps34
  go_wp2
  go_loopw [5, 12] (fun u v wr => ∃ (n : Nat) (at_ : Int) (c : Array Value) (acc : List Int), n ≤ 6 ∧ u = .int .i64 at_ ∧ v = .int .i64 n ∧ Hid (FW w wr n c acc) ∧ Hid (commitlog_fields.g k l0 (6 - n) at_ acc = some R)) (fun _ v _ => 6 - (intOf v).toNat)
  case atStart => exact ⟨0, 0, _, [], Nat.zero_le _, rfl, rfl, FW.start w, HF⟩
  case round =>
    obtain ⟨n, at_, c, acc, hn, rfl, rfl, HW, HG⟩ := hrel
    clear HF
    by_cases hlt : n < 6
    · obtain ⟨m, hm⟩ : ∃ m, 6 - n = m + 1 := ⟨5 - n, by omega⟩
      have hg := HG.out
      rw [hm] at hg
      simp only [commitlog_fields.g, Option.bind_eq_some_iff] at hg
      obtain ⟨⟨d1, d2, d3⟩, hd, hg⟩ := hg
      have HD := hid hd
      have HRW := hid (Kd.C_below HR.out HW.out.below)
      have HM := hid hm
      clear hm hd
      by_cases h3 : d3 = 0
      · rw [if_pos h3] at hg
        subst h3
        by_cases h1 : 9223372036854775807 < d1
        · rw [if_pos h1] at hg
          have HE := hid hg
          clear hg
          go_wp2_with (first
            | (go_at_call 32; refine (varint_Decode.calls k A0 c0 l0 at_ d1 d2 0 wr HRW.out HC.out HD.out).mono ?_; rintro e w1 ⟨rfl, hdr⟩; have HW1 := hid (FW.drawn HW.out hdr); clear hdr)
            | (refine wpList_store_row rfl 23 (.tmp 2) _ rfl w.heap.size Z6 rfl rfl 23 _ HW1.out.b0 (by kernel_rfl) rfl (by kernel_rfl) ?_))
          obtain rfl := Option.some.inj HE.out
          refine bodyPost_ret (results_ct rfl _ _ w.heap.size 23 Z6 (0, 0) _ rfl (setRow_heap _ _ _ _ _ _ HW1.out.b0) Try.underlying23 rfl (by kernel_rfl)) rfl ⟨rfl, below_setRow HW1.out.below (Nat.le_refl _) _⟩
        · rw [if_neg h1] at hg
          have HE := hid hg
          clear hg
          have hv := HW.out.any n hlt
          obtain ⟨v0, hv0⟩ := hv
          go_wp2_with (first
            | (go_at_call 32; refine (varint_Decode.calls k A0 c0 l0 at_ d1 d2 0 wr HRW.out HC.out HD.out).mono ?_; rintro e w1 ⟨rfl, hdr⟩; have HW1 := hid (FW.drawn HW.out hdr); obtain ⟨v1, hv1⟩ := HW1.out.any n hlt; have hf1 := frozen_of_row w1 (w.heap.size + 1) n _ _ HW1.out.b1; clear hdr))
          have HN := hid (show 6 - (n + 1) = m by have := HM.out; omega)
          go_roundw
          case rel => exact ⟨n + 1, d2, _, _, by omega, rfl, by go_num, HW1.out.step hlt (wrap64 d1), by rw [HN.out]; exact HE.out⟩
          case measure => simp [intOf]; omega
      · rw [if_neg h3] at hg
        have HE := hid hg
        clear hg
        have hb3 : (d3 != 0) = true := by simpa using h3
        clear h3
        go_wp2_with (first
            | (go_at_call 32; refine (varint_Decode.calls k A0 c0 l0 at_ d1 d2 d3 wr HRW.out HC.out HD.out).mono ?_; rintro e w1 ⟨rfl, hdr⟩; have HW1 := hid (FW.drawn HW.out hdr); clear hdr)
            | (refine wpList_store_row rfl 23 (.tmp 2) _ rfl w.heap.size Z6 rfl rfl 23 _ HW1.out.b0 (by kernel_rfl) rfl (by kernel_rfl) ?_))
        obtain rfl := Option.some.inj HE.out
        refine bodyPost_ret (results_ct rfl _ _ w.heap.size 23 Z6 (0, 0) _ rfl (setRow_heap _ _ _ _ _ _ HW1.out.b0) Try.underlying23 rfl (by kernel_rfl)) rfl ⟨rfl, below_setRow HW1.out.below (Nat.le_refl _) _⟩
    · obtain rfl : n = 6 := by omega
      have hg := HG.out
      simp only [Nat.sub_self, commitlog_fields.g] at hg
      have hlen := HW.out.len
      have hc0' := HW.out.cell 0 (by omega)
      have hc1' := HW.out.cell 1 (by omega)
      have hc2' := HW.out.cell 2 (by omega)
      have hc3' := HW.out.cell 3 (by omega)
      have hc4' := HW.out.cell 4 (by omega)
      have hc5' := HW.out.cell 5 (by omega)
      generalize acc.getD 0 0 = a0 at hg hc0'
      generalize acc.getD 1 0 = a1 at hg hc1'
      generalize acc.getD 2 0 = a2 at hg hc2'
      generalize acc.getD 3 0 = a3 at hg hc3'
      generalize acc.getD 4 0 = a4 at hg hc4'
      generalize acc.getD 5 0 = a5 at hg hc5'
      clear hlen HG
      have hl0 : l0.length ≤ 9223372036854775807 := Kd.C_max HR.out
      unfold commitlog_fields.e at hg
      by_cases hat : 0 ≤ at_ ∧ at_ ≤ (l0.length : Int)
      · rw [if_pos hat] at hg
        obtain ⟨hat0, hat1⟩ := hat
        by_cases h2 : (l0.length : Int) - at_ < a5
        · rw [if_pos h2] at hg
          have HE := hid hg
          clear hg
          go_wp2_with (first
            | (refine wpList_store_row rfl 23 (.tmp 2) _ rfl w.heap.size Z6 rfl rfl 23 _ HW.out.b0 (by kernel_rfl) rfl (by kernel_rfl) ?_))
          obtain rfl := Option.some.inj HE.out
          refine bodyPost_ret (results_ct rfl _ _ w.heap.size 23 Z6 (0, 0) _ rfl (setRow_heap _ _ _ _ _ _ HW.out.b0) Try.underlying23 rfl (by kernel_rfl)) rfl ⟨rfl, below_setRow HW.out.below (Nat.le_refl _) _⟩
        rw [if_neg h2] at hg
        by_cases h3 : a5 < (l0.length : Int) - at_
        · rw [if_pos h3] at hg
          have HE := hid hg
          clear hg
          go_wp2_with (first
            | (refine wpList_store_row rfl 23 (.tmp 2) _ rfl w.heap.size Z6 rfl rfl 23 _ HW.out.b0 (by kernel_rfl) rfl (by kernel_rfl) ?_))
          obtain rfl := Option.some.inj HE.out
          refine bodyPost_ret (results_ct rfl _ _ w.heap.size 23 Z6 (0, 0) _ rfl (setRow_heap _ _ _ _ _ _ HW.out.b0) Try.underlying23 rfl (by kernel_rfl)) rfl ⟨rfl, below_setRow HW.out.below (Nat.le_refl _) _⟩
        rw [if_neg h3] at hg
        have HG := hid hg
        clear hg
        obtain ⟨i5, hi5, hz5a, hz5b, hz5c⟩ := info_parts infoU8
        have hsl := cut_from (P := Try.prog) 24 5 .i64 Try.underlying24 hi5 1 hz5b A0 l0.length c0 at_ hat0 (by omega)
        have hro := Kd.C_drop (Kd.C_below HR.out HW.out.below) (m := at_.toNat) (by omega) HC.out
        simp only [show (Kd.int IntKind.u8).sz = 1 from rfl] at hro
        rw [List.length_drop] at hro
        generalize (if c0 = at_.toNat then A0 else A0.map (·.add (at_.toNat * 1))) = A1 at hsl hro
        have hcv := Kd.C_string (src := 24) (dst := 9) (c := c0 - at_.toNat) Try.underlying24 Try.underlying5 Try.underlying9 hro
        have HRO := hid hro
        clear hro
        have hcv2 : ∀ (o : Obj) , (convert 24 9 (.slice A1 (l0.length - at_.toNat) (c0 - at_.toNat))).run Try.prog (wr.alloc o).drew = .ok (.string (strOfNums (l0.drop at_.toNat))) (wr.alloc o).drew := fun o => by
          have h := Kd.C_below HRO.out ((below_alloc (Below.refl _ _) o).drew)
          rw [← List.length_drop] at h
          have := Kd.C_string (src := 24) (dst := 9) (c := c0 - at_.toNat) Try.underlying24 Try.underlying5 Try.underlying9 h
          rwa [List.length_drop] at this
        have hcv3 : (convert 24 9 (.slice A1 (l0.length - at_.toNat) (c0 - at_.toNat))).run Try.prog wr.drew = .ok (.string (strOfNums (l0.drop at_.toNat))) wr.drew := by
          have h := Kd.C_below HRO.out ((Below.refl wr.heap.size wr).drew)
          rw [← List.length_drop] at h
          have := Kd.C_string (src := 24) (dst := 9) (c := c0 - at_.toNat) Try.underlying24 Try.underlying5 Try.underlying9 h
          rwa [List.length_drop] at this
        clear hcv
        have hsz := HW.out.size
        have HSZ := hid hsz
        clear hsz
        generalize strOfNums (l0.drop at_.toNat) = nm at HG hcv2 hcv3
        go_wp2_with fail
        go_region_held3 (fun wq => wq.cell? ⟨w.heap.size + 1, 1, none⟩ = some (.int .i64 a1) ∧ wq.cell? ⟨w.heap.size + 1, 2, none⟩ = some (.int .i64 a2) ∧ wq.cell? ⟨w.heap.size + 1, 3, none⟩ = some (.int .i64 a3) ∧ wq.cell? ⟨w.heap.size + 1, 4, none⟩ = some (.int .i64 a4) ∧ (convert 24 9 (.slice A1 (l0.length - at_.toNat) (c0 - at_.toNat))).run Try.prog wq = .ok (.string nm) wq) (first | go_keep) ((fail))
        have hsz2 := HSZ.out
        have hA : ∀ o, (wr.alloc o).cell? ⟨w.heap.size + 1, 0, none⟩ = some (.int .i64 a0) := fun o => by
          rw [((Below.refl wr.heap.size wr).alloc (Nat.le_refl _) o).cell (by simp; omega)]
          exact hc0'
        have hle : w.heap.size ≤ wr.heap.size := by omega
        have HLE := hid hle
        clear hsz2 hle hcv2 hcv3
        by_cases h7 : 7 < a0
        · have hg := HG.out
          rw [if_pos h7] at hg
          have HE := hid hg
          clear hg
          go_wp2_with (first
            | (refine wpList_store_row rfl 23 (.tmp 2) _ rfl w.heap.size Z6 rfl rfl 23 _ (heap_drew_alloc_old HW.out.b0 _ (by have := HSZ.out; omega)) (by kernel_rfl) rfl (by kernel_rfl) ?_))
          obtain rfl := Option.some.inj HE.out
          refine bodyPost_ret (results_ct rfl _ _ w.heap.size 23 Z6 (0, 0) _ rfl (setRow_heap _ _ _ _ _ _ (heap_drew_alloc_old HW.out.b0 _ (by have := HSZ.out; omega))) Try.underlying23 rfl (by kernel_rfl)) rfl ⟨rfl, below_setRow ((HW.out.below.alloc HLE.out _).drew) (Nat.le_refl _) _⟩
        · have hg := HG.out
          rw [if_neg h7] at hg
          have HG2 := hid hg
          clear hg HG
          have HN1 : Hid (∀ w3, Below ((wr.alloc (.cells #[.int .i64 a0, .int .i64 a1, .int .i64 a2, .int .i64 a3, .int .i64 a4, .string nm] 23)).drew).heap.size ((wr.alloc (.cells #[.int .i64 a0, .int .i64 a1, .int .i64 a2, .int .i64 a3, .int .i64 a4, .string nm] 23)).drew) w3 →
              w3.heap[w.heap.size]? = some (.cells Z6 23 (0, 0)) ∧ w3.heap[wr.heap.size]? = some (.cells #[.int .i64 a0, .int .i64 a1, .int .i64 a2, .int .i64 a3, .int .i64 a4, .string nm] 23 (0, 0)) ∧ Below w.heap.size w w3) := hid (fun w3 hb => by
            have hs := HSZ.out
            refine ⟨?_, ?_, ?_⟩
            · rw [hb.block _ (by simp; omega)]
              exact heap_drew_alloc_old HW.out.b0 _ (by omega)
            · rw [hb.block _ (by simp)]
              exact Go.heap_alloc_new _ _
            · exact ((HW.out.below.alloc HLE.out _).drew).trans (hb.mono (by simp; omega)))
          cases hv : validB a0 a1 a2 a3 a4 nm with
          | true =>
            have hg := HG2.out
            rw [if_pos hv] at hg
            obtain rfl := Option.some.inj hg
            clear hg
            go_wp2_with (first
              | (go_at_call 24; refine (valid_calls _ _ _ _ _ _ _).mono ?_; rw [hv]; rintro e w3 ⟨rfl, hb3⟩; have HB3 := hid (HN1.out w3 hb3); clear hb3)
              | (refine wpList_load_row rfl 23 (.tmp 11) rfl wr.heap.size rfl 23 _ (0, 0) _ HB3.out.2.1 Try.underlying23 rfl (by kernel_rfl) ?_)
              | (refine wpList_store_row rfl 23 (.tmp 2) (.tmp 75) rfl w.heap.size #[.int .i64 a0, .int .i64 a1, .int .i64 a2, .int .i64 a3, .int .i64 a4, .string nm] rfl rfl 23 _ HB3.out.1 (by kernel_rfl) rfl (by simp [Value.oneCell']) ?_))
            refine bodyPost_ret (results_ct rfl _ _ w.heap.size 23 #[.int .i64 a0, .int .i64 a1, .int .i64 a2, .int .i64 a3, .int .i64 a4, .string nm] (0, 0) _ rfl (setRow_heap _ _ _ _ _ _ HB3.out.1) Try.underlying23 rfl (by kernel_rfl)) rfl ⟨rfl, below_setRow HB3.out.2.2 (Nat.le_refl _) _⟩
          | false =>
            have hg := HG2.out
            rw [if_neg (by rw [hv]; simp)] at hg
            obtain rfl := Option.some.inj hg
            clear hg
            go_wp2_with (first
              | (go_at_call 24; refine (valid_calls _ _ _ _ _ _ _).mono ?_; rw [hv]; rintro e w3 ⟨rfl, hb3⟩; have HB3 := hid (HN1.out w3 hb3); clear hb3)
              | (refine wpList_store_row rfl 23 (.tmp 2) (.tmp 74) rfl w.heap.size Z6 rfl rfl 23 _ HB3.out.1 (by kernel_rfl) rfl (by kernel_rfl) ?_))
            refine bodyPost_ret (results_ct rfl _ _ w.heap.size 23 Z6 (0, 0) _ rfl (setRow_heap _ _ _ _ _ _ HB3.out.1) Try.underlying23 rfl (by kernel_rfl)) rfl ⟨rfl, below_setRow HB3.out.2.2 (Nat.le_refl _) _⟩
      · rw [if_neg hat] at hg
        exact absurd hg (by simp)
end Go.Proofs.Ytfkgpmidcbjlbaa.H
namespace Go.Proofs.Ytfkgpmidcbjlbaa.P
open Go.RowKit Go.Proofs.Ytfkgpmidcbjlbaa.H Go.Proofs.YtfkgpmidcbjlbaaW.PrintWords
theorem commitlog_fields.calls (k : Nat) (A0 : Option Addr) (c0 : Nat) (l0 : List Int) (r1 r2 r3 r4 r5 : Int) (r6 : ByteArray) (r7 : Int) (w : World) (hr0 : Kd.C (Kd.int .u8) w A0 l0.length l0) (hc0 : l0.length ≤ c0) (h : commitlog_fields.f k l0 = some (r1, r2, r3, r4, r5, r6, r7)) :
    Calls Try.prog 34 #[.slice A0 l0.length c0] w fun e w' => e = .returned (.tuple #[.agg #[.int .i64 r1, .int .i64 r2, .int .i64 r3, .int .i64 r4, .int .i64 r5, .string r6], .int .i64 r7]) ∧ Below w.heap.size w w' :=
  fields_calls k A0 c0 l0 (r1, r2, r3, r4, r5, r6, r7) w hr0 hc0 h
end Go.Proofs.Ytfkgpmidcbjlbaa.P
end
section
set_option linter.unusedVariables false
set_option linter.unusedSimpArgs false
-- Written by a program of this session (a printer of walks).
namespace Go.Proofs.Ytfkgpmidcbjlbaa.P
open Go.RowKit Go.Proofs.YtfkgpmidcbjlbaaW.PrintWords Go.Proofs.YtfkgpmidcbjlbaaW.PrintLast Go.Proofs.YtfkgpmidcbjlbaaW.PrintMore
attribute [local go_sem] max2_int min2_int max_two min_two max_three min_three max_four min_four   -- for this text's walks alone
set_option linter.unusedVariables false
set_option linter.unusedSimpArgs false

/-! ### varint_Concat: function 26 -/
def varint_Concat.l0 : Nat → List Int → List (List Int) → Int → Int → Option (List Int)
  | 0, _, _, _, _ => none
  | k + 1, x3, x6, x7, x8 => if x8 < x7 then (if 0 ≤ x8 then (if x8 < (x6.length : Int) then (if x3.length + (rd_L4 x6 x8).length < 140737488355328 then (varint_Concat.l0 k (x3 ++ (rd_L4 x6 x8)) x6 x7 (wrap64 (x8 + 1))) else (none)) else (none)) else (none)) else (some x3)
def varint_Concat.f (k : Nat) (l0 : List (List Int)) : Option (List Int) := varint_Concat.l0 k ([] : List Int) l0 (l0.length : Int) 0
theorem varint_Concat.mono_l : ∀ k, (∀ y0 y1 y2 y3, LeO (varint_Concat.l0 k y0 y1 y2 y3) (varint_Concat.l0 (k + 1) y0 y1 y2 y3))
  | 0 => fun _ _ _ _ r h => by simp [varint_Concat.l0] at h
  | k + 1 => by
    have ih0 := varint_Concat.mono_l k
    · intro y0 y1 y2 y3
      unfold varint_Concat.l0
      repeat' first
      | (with_reducible exact ih0 _ _ _ _)
      | (with_reducible exact LeO.refl _)
      | (with_reducible exact LeO.none _)
      | (with_reducible refine LeO.ite ?_ ?_)
      | (with_reducible refine LeO.bind ?_ (fun _ => ?_))
      | exact ih0 _ _ _ _
      | exact LeO.none _
      | refine LeO.ite ?_ ?_
      | refine LeO.bind ?_ (fun _ => ?_)
theorem varint_Concat.mono : ∀ a0 k, LeO (varint_Concat.f k a0) (varint_Concat.f (k + 1) a0) := by
  intro a0 k
  have ih0 := varint_Concat.mono_l k
  unfold varint_Concat.f
  repeat' first
      | (with_reducible exact ih0 _ _ _ _)
      | (with_reducible exact LeO.refl _)
      | (with_reducible exact LeO.none _)
      | (with_reducible refine LeO.ite ?_ ?_)
      | (with_reducible refine LeO.bind ?_ (fun _ => ?_))
      | exact ih0 _ _ _ _
      | exact LeO.none _
      | refine LeO.ite ?_ ?_
      | refine LeO.bind ?_ (fun _ => ?_)
set_option maxHeartbeats 8000000 in
set_option maxRecDepth 100000 in
theorem varint_Concat.calls (k : Nat) (A0 : Option Addr) (c0 : Nat) (l0 : List (List Int)) (r : List Int) (w : World) (hr0 : Kd.C (Kd.slice 5 (Kd.int .u8)) w A0 l0.length l0) (hc0 : l0.length ≤ c0) (h : varint_Concat.f k l0 = some r) :
    Calls Try.prog 26 #[.slice A0 l0.length c0] w fun e w' => ∃ v0_ : Value, e = .returned (v0_) ∧ Kd.R (Kd.int .u8) 5 w' w.heap.size (fun _ => True) v0_ r ∧ Below w.heap.size w w' := by
  have HR0 := Aside0.mk hr0
  have HC0 := Aside0.mk hc0
  clear hr0 hc0
  have HB := Aside0.mk (Below.refl w.heap.size w)
  have H : (varint_Concat.l0 k ([] : List Int) l0 (l0.length : Int) 0) = some r := h
  clear h
  have H' := Aside0.mk H
  clear H
  go_enter Try.func26, Try.ntmps26
  go_wp2
  go_loopg [3, 8] k (fun kq v3 v8 w' => ∃ (x3_1 : List Int) (x8_1 : Int), v8 = .int .i64 x8_1 ∧ Aside0 (varint_Concat.l0 kq x3_1 l0 (l0.length : Int) x8_1 = some r) ∧ Aside0 (kq ≤ k) ∧ Aside0 (Kd.R (Kd.int .u8) 5 w' w.heap.size (fun _ => True) v3 x3_1) ∧ Aside0 (Below w.heap.size w w'))
  case atStart => exact ⟨(([] : List Int)), (0), (by first | rfl | (simp; done) | (simp [*]; done)), H', ⟨Nat.le_refl _⟩, ⟨by first | exact Kd.R_nil _ _ _ _ _ | exact Kd.N_nil _ _ _ _ _ | exact Kd.V_nil _ _ _ _ _ | exact Kd.Q_nil _ _ _ _ _ | exact Kd.S_nil _ _ _ _ _⟩, ⟨by repeat (first | (with_reducible first | exact HB.out | apply below_alloc | apply pw_below_drewN | apply below_drew1) | exact HB.out)⟩⟩
  case round =>
    clear H'
    obtain ⟨x3_1, x8_1, rfl, HA, HK1, HO_3, HB⟩ := hrel
    cases gk with
    | zero => exact absurd HA.out (by simp [varint_Concat.l0])
    | succ k1 =>
      have H := HA.out
      clear HA
      simp only [varint_Concat.l0] at H
      by_cases c2 : x8_1 < (l0.length : Int)
      · rw [if_pos c2] at H
        have c2b0 : decide (x8_1 < (l0.length : Int)) = true := decide_eq_true c2
        clear c2
        by_cases c3 : 0 ≤ x8_1
        · rw [if_pos c3] at H
          have c3b0 : decide (0 ≤ x8_1) = true := decide_eq_true c3
          clear c3
          by_cases c4 : x8_1 < (l0.length : Int)
          · rw [if_pos c4] at H
            have c4b0 : decide (x8_1 < (l0.length : Int)) = true := decide_eq_true c4
            clear c4
            by_cases c5 : x3_1.length + (rd_L4 l0 x8_1).length < 140737488355328
            · rw [if_pos c5] at H
              have LMc5 := Aside0.mk c5
              clear c5
              obtain ⟨y108, hy108⟩ : ∃ y_ : List Int, y_ = (x3_1 ++ (rd_L4 l0 x8_1)) := ⟨_, rfl⟩
              replace H : (varint_Concat.l0 k1 y108 l0 (l0.length : Int) (wrap64 (x8_1 + 1))) = some r := by first | (rw [hy108]; with_reducible exact H) | (have H2_ := (Option.bind_some _ _).symm.trans H; rw [hy108]; with_reducible exact H2_) | (have H2_ := (Option.bind_some _ _).symm.trans H; with_reducible exact H2_) | with_reducible exact H | (rw [hy108]; exact H) | exact H
              have Ny108 := Aside0.mk hy108
              clear hy108
              have H' := Aside0.mk H
              clear H
              have p107 : 0 ≤ (x8_1 : Int) := of_decide_eq_true (by first | (with_reducible assumption) | assumption)
              have q107 : x8_1 < (l0.length : Int) := of_decide_eq_true (by first | (with_reducible assumption) | assumption)
              obtain ⟨ad107, A107_0, c107_0, e107, hx107_0, hl107_0, hi107_0⟩ := at_L4 HR0.out x8_1 p107 q107
              cases e107
              replace hx107_0 := (HB.out.cell (World.block_lt_of_cell? w _ hx107_0)).trans hx107_0
              have HR107_0 := Aside0.mk hi107_0
              have HC107_0 := Aside0.mk hl107_0
              clear hi107_0 hl107_0
              replace p107 := eq_true p107
              replace q107 := eq_true q107
              go_wp2_with (first | ((with_reducible refine gate_builtin (b := .append) (xs := #[.tmp 12, .tmp 13]) rfl ?_); at_builtin; refine Kd.R_append_rows (Kd.int .u8) (w0 := w) w.heap.size rfl (.tmp 12) (.tmp 13) 24 5 (.int .u8 0) 1 rfl Try.underlying24 info5 rfl (by decide) (by omega) u3 x3_1 (rd_L4 l0 x8_1) _ _ _ (fun _ => True) (fun _ => False) rfl rfl ?aO ?aR (fun _ _ h => h) (fun _ h => h.elim) ?aF ?aB ?aS ?aL ?_; (case aR => repeat (first | exact (Kd.C_below HR107_0.out HB.out) | (with_reducible refine Kd.C_alloc ?_ _) | (with_reducible refine Kd.C_drewN ?_ _) | (with_reducible refine Kd.C_drew ?_))); (case aB => exact (by repeat (first | (with_reducible first | exact HB.out | apply below_alloc | apply pw_below_drewN | apply below_drew1) | exact HB.out))); (case aF => exact (fun _ _ => trivial)); (case aO => exact (by (with_reducible repeat (first | apply Kd.R_alloc | apply Kd.R_drewN | apply Kd.R_drew)); exact HO_3.out)); (case aS => exact (below_size (by repeat (first | (with_reducible first | exact HB.out | apply below_alloc | apply pw_below_drewN | apply below_drew1) | exact HB.out)))); (case aL => have := LMc5.out; omega); intro v109 w6 ho hb hg hat; rw [← Ny108.out] at ho; have n0_ := Aside0.mk (hb); have n1_ := Aside0.mk (ho); clear HB; clear HO_3; have HB := n0_; have HO110 := n1_; clear n0_ n1_; clear ho hb hg hat))
              go_roundg k1
              case measure => have := HK1.out; omega
              case rel => exact ⟨(y108), (wrap64 (x8_1 + 1)), (by first | rfl | (simp; done) | (simp [*]; done)), H', ⟨by have := HK1.out; omega⟩, ⟨by (with_reducible repeat (first | apply Kd.R_alloc | apply Kd.R_drewN | apply Kd.R_drew)); exact HO110.out⟩, ⟨by repeat (first | (with_reducible first | exact HB.out | apply below_alloc | apply pw_below_drewN | apply below_drew1) | exact HB.out)⟩⟩
            · rw [if_neg c5] at H
              exact absurd H (by simp)
          · rw [if_neg c4] at H
            exact absurd H (by simp)
        · rw [if_neg c3] at H
          exact absurd H (by simp)
      · rw [if_neg c2] at H
        have c2b0 : decide (x8_1 < (l0.length : Int)) = false := decide_eq_false c2
        clear c2
        obtain rfl := Option.some.inj H
        go_wp2
        go_ret
        exact ⟨_, by first | rfl | (simp [errW_none, errW_some] <;> rfl) | (simp [*, errW_none, errW_some] <;> rfl), by (with_reducible repeat (first | apply Kd.R_alloc | apply Kd.R_drewN | apply Kd.R_drew)); exact HO_3.out, by repeat (first | (with_reducible first | exact HB.out | apply below_alloc | apply pw_below_drewN | apply below_drew1) | exact HB.out)⟩

end Go.Proofs.Ytfkgpmidcbjlbaa.P
end
section
set_option linter.unusedVariables false
set_option linter.unusedSimpArgs false
/- commitlog.Encode: the six numbers, the name, the length ahead, the sum behind. -/
namespace Go.Proofs.Ytfkgpmidcbjlbaa.P
open Go.RowKit Go.Proofs.Ytfkgpmidcbjlbaa.H Go.Proofs.YtfkgpmidcbjlbaaW.PrintWords
def commitlog_Encode.l (k : Nat) : List Int → List Int → Option (List Int)
  | [], acc => some acc
  | n :: ns, acc => (varint_Encode.f k (IntKind.u64.wrap n)).bind fun b => if acc.length + b.length < 140737488355328 then commitlog_Encode.l k ns (acc ++ b) else none
def commitlog_Encode.e (k : Nat) (body : List Int) : Option (List Int × Int) :=
  (varint_Encode.f k body.length).bind fun pre => (varint_Fixed.f k (crcI [body]) 4).bind fun suf => (varint_Concat.f k [pre, body, suf]).bind fun r => some (r, 0)
def commitlog_Encode.f (k : Nat) (a0 a1 a2 a3 a4 : Int) (a5 : ByteArray) : Option (List Int × Int) :=
  if validB a0 a1 a2 a3 a4 a5 = true then
    (commitlog_Encode.l k [a0, a1, a2, a3, a4, a5.size] []).bind fun b => if b.length + a5.size < 140737488355328 then commitlog_Encode.e k (b ++ bytesOf a5) else none
  else some ([], 1)
theorem commitlog_Encode.mono_l0 (k : Nat) : ∀ ns acc, LeO (commitlog_Encode.l k ns acc) (commitlog_Encode.l (k + 1) ns acc)
  | [], _ => LeO.refl _
  | n :: ns, acc => by
    unfold commitlog_Encode.l
    exact LeO.bind (varint_Encode.mono _ _) (fun b => LeO.ite (commitlog_Encode.mono_l0 k ns _) (LeO.refl _))
theorem commitlog_Encode.mono_e (k : Nat) (body : List Int) : LeO (commitlog_Encode.e k body) (commitlog_Encode.e (k + 1) body) := by
  unfold commitlog_Encode.e
  exact LeO.bind (varint_Encode.mono _ _) (fun _ => LeO.bind (varint_Fixed.mono _ _ _) (fun _ => LeO.bind (varint_Concat.mono _ _) (fun _ => LeO.refl _)))
theorem commitlog_Encode.mono : ∀ a0 a1 a2 a3 a4 a5 k, LeO (commitlog_Encode.f k a0 a1 a2 a3 a4 a5) (commitlog_Encode.f (k + 1) a0 a1 a2 a3 a4 a5) := by
  intro a0 a1 a2 a3 a4 a5 k
  unfold commitlog_Encode.f
  exact LeO.ite (LeO.bind (commitlog_Encode.mono_l0 k _ _) (fun b => LeO.ite (commitlog_Encode.mono_e k _) (LeO.refl _))) (LeO.refl _)
end Go.Proofs.Ytfkgpmidcbjlbaa.P
namespace Go.Proofs.Ytfkgpmidcbjlbaa.H
open Go.RowKit Go.Proofs.YtfkgpmidcbjlbaaW.PrintWords Go.Proofs.Ytfkgpmidcbjlbaa.P

theorem infoU8e : (Try.prog.info? 5).map (fun i => (i.zero, i.size, i.bytes)) = some (some (.int .u8 0), 1, 1) := by kernel_rfl

set_option maxRecDepth 100000 in
set_option maxHeartbeats 4000000 in
theorem encode_no (k i p m t : Int) (n : ByteArray) (w : World) (hv : validB k i p m t n = false) :
    Calls Try.prog 9 #[.agg #[.int .i64 k, .int .i64 i, .int .i64 p, .int .i64 m, .int .i64 t, .string n]] w fun e w' => e = .returned (.tuple #[.slice none 0 0, .int .i64 1]) ∧ Below w.heap.size w w' := by
  have HB1 : Hid (∀ (o : Obj) w2, Below (w.alloc o).heap.size (w.alloc o) w2 → Below w.heap.size w w2) := hid (fun o w2 hb => ((Below.refl _ _).alloc (Nat.le_refl _) o).trans (hb.mono (by simp)))
  go_enter Try.func9, Try.ntmps9
  go_wp2_with (go_at_call 24; refine (valid_calls _ _ _ _ _ _ _).mono ?_; rw [hv]; rintro e w3 ⟨rfl, hb3⟩; have HB3 := hid (HB1.out _ w3 hb3); clear hb3)
  go_ret2
  exact ⟨rfl, HB3.out⟩

set_option maxRecDepth 100000 in
set_option maxHeartbeats 4000000 in
theorem encode_yes (q : Nat) (k i p m t : Int) (n : ByteArray) (body0 r : List Int) (w : World) (hv : validB k i p m t n = true)
    (h0 : commitlog_Encode.l q [k, i, p, m, t, n.size] [] = some body0) (h1 : body0.length + n.size < 140737488355328) (h2 : commitlog_Encode.e q (body0 ++ bytesOf n) = some (r, 0)) :
    Calls Try.prog 9 #[.agg #[.int .i64 k, .int .i64 i, .int .i64 p, .int .i64 m, .int .i64 t, .string n]] w fun e w' => ∃ v : Value, e = .returned (.tuple #[v, .int .i64 0]) ∧ Kd.R (Kd.int .u8) 5 w' w.heap.size (fun _ => True) v r ∧ Below w.heap.size w w' := by
  have HB1 : Hid (∀ (o : Obj) w2, Below (w.alloc o).heap.size (w.alloc o) w2 → Below w.heap.size w w2 ∧ w.heap.size < w2.heap.size ∧ w2.heap[w.heap.size]? = some o) := hid (fun o w2 hb => ⟨((Below.refl _ _).alloc (Nat.le_refl _) o).trans (hb.mono (by simp)), by have := hb.size; simp at this; omega, (hb.block _ (by simp)).trans (Go.heap_alloc_new _ _)⟩)
  have H0 := hid h0
  have H1 := hid h1
  have H2 := hid h2
  clear h0 h1 h2
  go_enter Try.func9, Try.ntmps9
  go_wp2_with (go_at_call 24; refine (valid_calls _ _ _ _ _ _ _).mono ?_; rw [hv]; rintro e w3 ⟨rfl, hb3⟩; have HB3 := hid (HB1.out _ w3 hb3); have hx0 := (cell_of_row _ _ 0 _ _ _ HB3.out.2.2).trans rfl; have hx1 := (cell_of_row _ _ 1 _ _ _ HB3.out.2.2).trans rfl; have hx2 := (cell_of_row _ _ 2 _ _ _ HB3.out.2.2).trans rfl; have hx3 := (cell_of_row _ _ 3 _ _ _ HB3.out.2.2).trans rfl; have hx4 := (cell_of_row _ _ 4 _ _ _ HB3.out.2.2).trans rfl; have hx5 := (cell_of_row _ _ 5 _ _ _ HB3.out.2.2).trans rfl; clear hb3)
  obtain ⟨ns, hns⟩ : ∃ ns : List Int, ns = [k, i, p, m, t, (n.size : Int)] := ⟨_, rfl⟩
  rw [← hns] at H0
  have hnl : ns.length = 6 := by rw [hns]; rfl
  obtain ⟨ws, hws⟩ : ∃ ws, ws = w3.alloc (.cells #[.int .i64 k, .int .i64 i, .int .i64 p, .int .i64 m, .int .i64 t, .int .i64 (n.size : Int)] 2) := ⟨_, rfl⟩
  rw [← hws]
  have HS : Hid (Below w.heap.size w ws) := by rw [hws]; exact HB3.out.1.alloc HB3.out.1.size _
  have HN : Hid (∀ j, j < 6 → ws.cell? ⟨w3.heap.size, j, none⟩ = some (.int .i64 (ns.getD j 0))) := by
    rw [hws, hns]
    intro j hj
    rw [cell_of_row _ _ _ _ _ _ (Go.heap_alloc_new _ _)]
    match j, hj with
    | 0, _ => rfl
    | 1, _ => rfl
    | 2, _ => rfl
    | 3, _ => rfl
    | 4, _ => rfl
    | 5, _ => rfl
  have HX : Hid (ws.cell? ⟨w.heap.size, 5, none⟩ = some (.string n)) := by
    rw [hws, cell_of_row _ _ _ _ _ _ (((Below.refl w3.heap.size w3).alloc (Nat.le_refl _) _).block w.heap.size HB3.out.2.1 |>.trans HB3.out.2.2)]
    rfl
  have HL : Hid (w3.heap.size < ws.heap.size ∧ w.heap.size < ws.heap.size) := by rw [hws]; have := HB3.out.2.1; exact ⟨by simp, by simp; omega⟩
  have HNL := hid hnl
  clear hnl hns hws HB3 hx0 hx1 hx2 hx3 hx4 hx5
  go_loopw [4, 25] (fun v u wr => ∃ (j : Nat) (acc : List Int), j ≤ 6 ∧ u = .int .i64 j ∧ Hid (Kd.R (Kd.int .u8) 5 wr ws.heap.size (fun _ => True) v acc) ∧ Hid (Below ws.heap.size ws wr) ∧ Hid (commitlog_Encode.l q (ns.drop j) acc = some body0)) (fun _ u _ => 6 - (intOf u).toNat)
  case atStart => exact ⟨0, [], Nat.zero_le _, rfl, Kd.R_nil _ _ _ _ _, Below.refl _ _, H0⟩
  case round =>
    obtain ⟨j, acc, hj, rfl, HR, HB, HG⟩ := hrel
    clear H0
    by_cases hlt : j < 6
    · have hg := HG.out
      rw [List.drop_eq_getElem_cons (by have := HNL.out; omega), commitlog_Encode.l, Option.bind_eq_some_iff] at hg
      obtain ⟨b, hb, hg⟩ := hg
      by_cases hlim : acc.length + b.length < 140737488355328
      · rw [if_pos hlim] at hg
        have HG2 := hid hg
        have HBB := hid hb
        have HLIM := hid hlim
        have hcell : wr.cell? ⟨w3.heap.size, j, none⟩ = some (.int .i64 (ns[j]'(by have := HNL.out; omega))) := by
          rw [HB.out.cell (p := ⟨w3.heap.size, j, none⟩) HL.out.1, HN.out j hlt]
          simp [List.getD_eq_getElem?_getD, show j < ns.length by have := HNL.out; omega]
        generalize ns[j]'(by have := HNL.out; omega) = x at hcell HBB hb
        clear hg hb hlim HG
        go_wp2_with (first
          | (go_at_call 25; refine (varint_Encode.calls q (IntKind.u64.wrap x) b _ HBB.out).mono ?_; rintro e w4 ⟨vb, rfl, hvb, hb4⟩; obtain ⟨Ab, cb, rfl⟩ := Kd.R_slice hvb; have HVB := hid hvb; have HB4 := hid hb4; clear hvb hb4)
          | (at_builtin; refine Kd.R_append_rows (Kd.int .u8) (w0 := ws) ws.heap.size rfl (.tmp 29) (.tmp 32) 24 5 (.int .u8 0) 1 rfl Try.underlying24 infoU8e rfl (by decide) (by decide) _ acc b _ _ _ (fun _ => True) (fun _ => False) rfl rfl (Kd.R_below HR.out HB4.out) (Kd.R_reads' HVB.out).2.2 (fun _ _ h => h) (fun _ h => h.elim) (fun _ _ => trivial) (HB.out.trans (HB4.out.mono HB.out.size)) (Nat.le_trans HB.out.size HB4.out.size) (by have := HLIM.out; omega) ?_; intro v1 w5 ho hb5 _ _; have HO := hid ho; have HB5 := hid hb5; clear ho hb5))
        go_roundw
        case rel => exact ⟨j + 1, acc ++ b, by omega, by go_num, HO, HB5, HG2⟩
        case measure => simp [intOf]; omega
      · rw [if_neg hlim] at hg
        exact absurd hg (by simp)
    · obtain rfl : j = 6 := by omega
      have hg := HG.out
      rw [List.drop_eq_nil_of_le (by have := HNL.out; omega), commitlog_Encode.l] at hg
      obtain rfl := Option.some.inj hg
      clear hg HG
      have hcx : wr.cell? ⟨w.heap.size, 5, none⟩ = some (.string n) := by
        rw [HB.out.cell (p := ⟨w.heap.size, 5, none⟩) HL.out.2]; exact HX.out
      have h2 := H2.out
      obtain ⟨body, hbody⟩ : ∃ b, b = acc ++ bytesOf n := ⟨_, rfl⟩
      have HBD := hid hbody
      rw [← hbody] at h2
      have hbl : body.length < 140737488355328 := by rw [hbody, List.length_append, bytesOf_length]; exact H1.out
      unfold commitlog_Encode.e at h2
      simp only [Option.bind_eq_some_iff] at h2
      obtain ⟨pre, hpre, suf, hsuf, r', hcat, hr'⟩ := h2
      obtain rfl : r' = r := by simpa using hr'
      have HPRE := hid hpre
      have HSUF := hid hsuf
      have HCAT := hid hcat
      have hcr := bits_range .xor 4294967295 (advP 4294967295 [body])
      have HCR := hid (show 0 ≤ crcI [body] ∧ crcI [body] < 4294967296 from hcr)
      clear hbody hpre hsuf hcat hr' hcr H2 hlt hj
      go_wp2_with (first
        | (at_builtin; refine print_append_str (w0 := ws) ws.heap.size rfl (.tmp 35) (.tmp 37) 24 9 5 rfl Try.underlying24 Try.underlying9 infoU8e _ acc n rfl rfl (Kd.own_of_R HR.out) HB.out HB.out.size (Nat.le_of_lt H1.out) ?_; intro v1 w5 ho0 hb5 _; have ho := Kd.R_of_own (h1 := fun _ => rfl) (ok := fun _ => True) ho0 (fun _ _ => trivial); rw [← HBD.out] at ho; change Kd.R (Kd.int .u8) 5 w5 ws.heap.size (fun _ => True) v1 body at ho; obtain ⟨Ab, cb, rfl⟩ := Kd.R_slice ho; have HO := hid ho; have HB5 := hid hb5; clear ho ho0 hb5))
      refine (varint_Encode.calls q body.length pre _ HPRE.out).mono ?_
      rintro e w6 ⟨vp, rfl, hvp, hb6⟩
      obtain ⟨Ap, cp, rfl⟩ := Kd.R_slice hvp
      have HP := hid hvp
      have HB6 := hid hb6
      have HBC := hid (Kd.C_below (Kd.R_reads' HO.out).2.2 hb6)
      have HBLE := hid (Kd.R_reads' HO.out).2.1
      clear hvp hb6
      go_wp2_with fail
      have HC1 : Hid (Kd.C (Kd.slice 5 (Kd.int .u8)) (w6.alloc (.cells #[.slice Ab body.length cb] 24)) (some ⟨w6.heap.size, 0, none⟩) 1 [body]) :=
        hid (C_one body (by rw [cell_of_row _ _ _ _ _ _ (Go.heap_alloc_new _ _)]; rfl) HBLE.out (Kd.C_alloc HBC.out _))
      refine (crc_calls (some ⟨w6.heap.size, 0, none⟩) 1 [body] _ HC1.out (Nat.le_refl 1)).mono ?_
      rintro e w7 ⟨rfl, hb7⟩
      have HB7 := hid hb7
      clear hb7
      obtain ⟨cv, hcv⟩ : ∃ cv, cv = crcI [body] := ⟨_, rfl⟩
      rw [← hcv] at HCR HSUF ⊢
      have hcr := HCR.out
      clear hcv
      go_wp2_with fail
      refine (varint_Fixed.calls q cv 4 suf _ HSUF.out).mono ?_
      rintro e w8 ⟨vs, rfl, hvs, hb8⟩
      obtain ⟨As, cs, rfl⟩ := Kd.R_slice hvs
      have HSF := hid hvs
      have HB8 := hid hb8
      have HB68 : Hid (Below w6.heap.size w6 w8) := hid ((((Below.refl w6.heap.size w6).alloc (Nat.le_refl _) _).trans (HB7.out.mono (by simp))).trans (hb8.mono (by have := HB7.out.size; simp at this; omega)))
      clear hvs hb8
      go_wp2_with fail
      have HC3 : Hid (Kd.C (Kd.slice 5 (Kd.int .u8)) (w8.alloc (.cells #[.slice Ap pre.length cp, .slice Ab body.length cb, .slice As suf.length cs] 24)) (some ⟨w8.heap.size, 0, none⟩) 3 [pre, body, suf]) :=
        hid (C_three pre body suf
          ⟨by rw [cell_of_row _ _ _ _ _ _ (Go.heap_alloc_new _ _)]; rfl, (Kd.R_reads' HP.out).2.1, Kd.C_alloc (Kd.C_below (Kd.R_reads' HP.out).2.2 HB68.out) _⟩
          ⟨by rw [cell_of_row _ _ _ _ _ _ (Go.heap_alloc_new _ _)]; rfl, HBLE.out, Kd.C_alloc (Kd.C_below HBC.out HB68.out) _⟩
          ⟨by rw [cell_of_row _ _ _ _ _ _ (Go.heap_alloc_new _ _)]; rfl, (Kd.R_reads' HSF.out).2.1, Kd.C_alloc (Kd.R_reads' HSF.out).2.2 _⟩)
      refine (varint_Concat.calls q (some ⟨w8.heap.size, 0, none⟩) 3 [pre, body, suf] r' _ HC3.out (Nat.le_refl 3) HCAT.out).mono ?_
      rintro e w9 ⟨vr, rfl, hvr, hb9⟩
      have HB9 : Hid (Below w.heap.size w w9) := hid (HS.out.trans ((HB5.out.trans ((HB6.out.trans ((HB68.out.trans (((Below.refl w8.heap.size w8).alloc (Nat.le_refl _) _ |>.trans (hb9.mono (by simp))).mono HB68.out.size)).mono HB6.out.size)).mono HB5.out.size)).mono (by have := HL.out.2; omega)))
      have HVR := hid hvr
      have HLW : Hid (w.heap.size ≤ (w8.alloc (.cells #[.slice Ap pre.length cp, .slice Ab body.length cb, .slice As suf.length cs] 24)).heap.size) := hid (by
        have h1 := HB68.out.size; have h2 := HB6.out.size; have h3 := HB5.out.size; have h4 := HL.out.2
        rw [World.size_alloc]; omega)
      clear hvr hb9
      go_wp2_with fail
      go_ret2
      exact ⟨vr, rfl, Kd.R_lower HVR.out HLW.out, HB9.out⟩
end Go.Proofs.Ytfkgpmidcbjlbaa.H
namespace Go.Proofs.Ytfkgpmidcbjlbaa.P
open Go.RowKit Go.Proofs.Ytfkgpmidcbjlbaa.H Go.Proofs.YtfkgpmidcbjlbaaW.PrintWords
theorem commitlog_Encode.calls (k : Nat) (a0_0 a0_1 a0_2 a0_3 a0_4 : Int) (a0_5 : ByteArray) (r1 : List Int) (r2 : Int) (w : World) (h : commitlog_Encode.f k a0_0 a0_1 a0_2 a0_3 a0_4 a0_5 = some (r1, r2)) :
    Calls Try.prog 9 #[.agg #[.int .i64 a0_0, .int .i64 a0_1, .int .i64 a0_2, .int .i64 a0_3, .int .i64 a0_4, .string a0_5]] w fun e w' => ∃ v0_ : Value, e = .returned (.tuple #[v0_, .int .i64 r2]) ∧ Kd.R (Kd.int .u8) 5 w' w.heap.size (fun _ => True) v0_ r1 ∧ Below w.heap.size w w' := by
  unfold commitlog_Encode.f at h
  cases hv : validB a0_0 a0_1 a0_2 a0_3 a0_4 a0_5 with
  | true =>
    rw [if_pos hv, Option.bind_eq_some_iff] at h
    obtain ⟨b, hb, h⟩ := h
    by_cases hl : b.length + a0_5.size < 140737488355328
    · rw [if_pos hl] at h
      have hr2 : r2 = 0 := by
        unfold commitlog_Encode.e at h
        simp only [Option.bind_eq_some_iff] at h
        obtain ⟨_, _, _, _, _, _, h⟩ := h
        simp at h
        exact h.2.symm
      subst hr2
      exact encode_yes k _ _ _ _ _ _ b r1 w hv hb hl h
    · rw [if_neg hl] at h
      exact absurd h (by simp)
  | false =>
    rw [if_neg (by rw [hv]; simp)] at h
    simp at h
    obtain ⟨rfl, rfl⟩ := h
    exact (encode_no _ _ _ _ _ _ w hv).mono fun e w' ⟨he, hb⟩ => ⟨_, he, Kd.R_nil _ _ _ _ _, hb⟩
end Go.Proofs.Ytfkgpmidcbjlbaa.P
namespace Go.Proofs.Ytfkgpmidcbjlbaa.H
end Go.Proofs.Ytfkgpmidcbjlbaa.H
end
