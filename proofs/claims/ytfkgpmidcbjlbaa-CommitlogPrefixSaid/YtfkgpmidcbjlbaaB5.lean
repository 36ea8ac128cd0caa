/- Part 5 of a proof; each section was a text of its own. -/
import Derived.Test.YtfkgpmidcbjlbaaB1
import Derived.Test.YtfkgpmidcbjlbaaB2
import Derived.Test.YtfkgpmidcbjlbaaB4
import Derived.Maps.RangeWalk
import Derived.Deep.RegionLaw
section
set_option linter.unusedVariables false
set_option linter.unusedSimpArgs false
-- Written by a program of this session (a printer of walks).
namespace Go.Proofs.Ytfkgpmidcbjlbaa.P
open Go.RowKit Go.Proofs.YtfkgpmidcbjlbaaW.PrintWords Go.Proofs.YtfkgpmidcbjlbaaW.PrintLast Go.Proofs.YtfkgpmidcbjlbaaW.PrintMore
attribute [local go_sem] max2_int min2_int max_two min_two max_three min_three max_four min_four   -- for this text's walks alone
set_option linter.unusedVariables false
set_option linter.unusedSimpArgs false

/-! ### laminaref24_Scan: function 14 -/
mutual
def laminaref24_Scan.l0 : Nat → List Int → List (S23) → Int → Option ((List (S23)) × Int)
  | 0, _, _, _ => none
  | k + 1, x0, x4, x5 => if x5 < (x0.length : Int) then (laminaref24_Scan.j1 k x0 x4 x5 (decide ((x4.length : Int) < 65536))) else (laminaref24_Scan.j1 k x0 x4 x5 false)
def laminaref24_Scan.j1 : Nat → List Int → List (S23) → Int → Bool → Option ((List (S23)) × Int)
  | 0, _, _, _, _ => none
  | k + 1, x0, x4, x5, x17 => if x17 = true then ((laminaref24_Decode.f k x0 x5).bind fun bt268 => (if bt268.2.2.2.2.2.2.2 = 0 then (if x4.length < 2513169434916 then (laminaref24_Scan.l0 k x0 (x4 ++ [(⟨bt268.1, bt268.2.1, bt268.2.2.1, bt268.2.2.2.1, bt268.2.2.2.2.1, bt268.2.2.2.2.2.1⟩ : S23)]) bt268.2.2.2.2.2.2.1) else (none)) else (some (x4, x5)))) else (some (x4, x5))
end
def laminaref24_Scan.f (k : Nat) (l0 : List Int) : Option ((List (S23)) × Int) := laminaref24_Scan.l0 k l0 ([] : List (S23)) 0
theorem laminaref24_Scan.mono_l : ∀ k, (∀ y0 y1 y2, LeO (laminaref24_Scan.l0 k y0 y1 y2) (laminaref24_Scan.l0 (k + 1) y0 y1 y2)) ∧ (∀ y0 y1 y2 y3, LeO (laminaref24_Scan.j1 k y0 y1 y2 y3) (laminaref24_Scan.j1 (k + 1) y0 y1 y2 y3))
  | 0 => ⟨fun _ _ _ r h => by simp [laminaref24_Scan.l0] at h, fun _ _ _ _ r h => by simp [laminaref24_Scan.j1] at h⟩
  | k + 1 => by
    obtain ⟨ih0, ih1⟩ := laminaref24_Scan.mono_l k
    refine ⟨?_, ?_⟩
    · intro y0 y1 y2
      unfold laminaref24_Scan.l0
      repeat' first
      | (with_reducible exact ih0 _ _ _)
      | (with_reducible exact ih1 _ _ _ _)
      | (with_reducible exact laminaref24_Decode.mono _ _ _)
      | (with_reducible exact LeO.refl _)
      | (with_reducible exact LeO.none _)
      | (with_reducible refine LeO.ite ?_ ?_)
      | (with_reducible refine LeO.bind ?_ (fun _ => ?_))
      | exact ih0 _ _ _
      | exact ih1 _ _ _ _
      | exact laminaref24_Decode.mono _ _ _
      | exact LeO.none _
      | refine LeO.ite ?_ ?_
      | refine LeO.bind ?_ (fun _ => ?_)
    · intro y0 y1 y2 y3
      unfold laminaref24_Scan.j1
      repeat' first
      | (with_reducible exact ih0 _ _ _)
      | (with_reducible exact ih1 _ _ _ _)
      | (with_reducible exact laminaref24_Decode.mono _ _ _)
      | (with_reducible exact LeO.refl _)
      | (with_reducible exact LeO.none _)
      | (with_reducible refine LeO.ite ?_ ?_)
      | (with_reducible refine LeO.bind ?_ (fun _ => ?_))
      | exact ih0 _ _ _
      | exact ih1 _ _ _ _
      | exact laminaref24_Decode.mono _ _ _
      | exact LeO.none _
      | refine LeO.ite ?_ ?_
      | refine LeO.bind ?_ (fun _ => ?_)
theorem laminaref24_Scan.mono : ∀ a0 k, LeO (laminaref24_Scan.f k a0) (laminaref24_Scan.f (k + 1) a0) := by
  intro a0 k
  obtain ⟨ih0, ih1⟩ := laminaref24_Scan.mono_l k
  unfold laminaref24_Scan.f
  repeat' first
      | (with_reducible exact ih0 _ _ _)
      | (with_reducible exact ih1 _ _ _ _)
      | (with_reducible exact laminaref24_Decode.mono _ _ _)
      | (with_reducible exact LeO.refl _)
      | (with_reducible exact LeO.none _)
      | (with_reducible refine LeO.ite ?_ ?_)
      | (with_reducible refine LeO.bind ?_ (fun _ => ?_))
      | exact ih0 _ _ _
      | exact ih1 _ _ _ _
      | exact laminaref24_Decode.mono _ _ _
      | exact LeO.none _
      | refine LeO.ite ?_ ?_
      | refine LeO.bind ?_ (fun _ => ?_)
set_option maxHeartbeats 8000000 in
set_option maxRecDepth 100000 in
theorem laminaref24_Scan.calls (k : Nat) (A0 : Option Addr) (c0 : Nat) (l0 : List Int) (r1 : List (S23)) (r2 : Int) (w : World) (hr0 : Kd.C (Kd.int .u8) w A0 l0.length l0) (hc0 : l0.length ≤ c0) (h : laminaref24_Scan.f k l0 = some (r1, r2)) :
    Calls Try.prog 14 #[.slice A0 l0.length c0] w fun e w' => ∃ v0_ : Value, e = .returned (.tuple #[v0_, .int .i64 r2]) ∧ Kd.R k23 23 w' w.heap.size (fun _ => True) v0_ r1 ∧ Below w.heap.size w w' := by
  have hu23 := Try.underlying23
  have HR0 := Aside0.mk hr0
  have HC0 := Aside0.mk hc0
  clear hr0 hc0
  have HB := Aside0.mk (Below.refl w.heap.size w)
  have H : (laminaref24_Scan.l0 k l0 ([] : List (S23)) 0) = some (r1, r2) := h
  clear h
  have H' := Aside0.mk H
  clear H
  go_enter Try.func14, Try.ntmps14
  go_wp2
  go_loopg [4, 5] k (fun kq v4 v5 w' => ∃ (x4_1 : List (S23)) (x5_1 : Int), v5 = .int .i64 x5_1 ∧ Aside0 (laminaref24_Scan.l0 kq l0 x4_1 x5_1 = some (r1, r2)) ∧ Aside0 (kq ≤ k) ∧ Aside0 (Kd.R k23 23 w' w.heap.size (fun _ => True) v4 x4_1) ∧ Aside0 (Below w.heap.size w w'))
  case atStart => exact ⟨(([] : List (S23))), (0), (by first | rfl | (simp; done) | (simp [*]; done)), H', ⟨Nat.le_refl _⟩, ⟨by first | exact Kd.R_nil _ _ _ _ _ | exact Kd.N_nil _ _ _ _ _ | exact Kd.V_nil _ _ _ _ _ | exact Kd.Q_nil _ _ _ _ _ | exact Kd.S_nil _ _ _ _ _⟩, ⟨by repeat (first | (with_reducible first | exact HB.out | apply below_alloc | apply pw_below_drewN | apply below_drew1) | exact HB.out)⟩⟩
  case round =>
    clear H'
    try clear c1
    obtain ⟨x4_1, x5_1, rfl, HA, HK1, HO_4, HB⟩ := hrel
    cases gk with
    | zero => exact absurd HA.out (by simp [laminaref24_Scan.l0])
    | succ k1 =>
      have H := HA.out
      clear HA
      simp only [laminaref24_Scan.l0] at H
      have HC2 := Aside0.mk H
      clear H
      go_upto_region 3 with (fail)
      go_cut [17] (fun v17 wc => ∃ (kq : Nat) (x17_1 : Bool), v17 = .bool x17_1 ∧ Aside0 (laminaref24_Scan.j1 kq l0 x4_1 x5_1 x17_1 = some (r1, r2)) ∧ Aside0 (kq ≤ k1) ∧ Aside0 (Kd.R k23 23 wc w.heap.size (fun _ => True) u4 x4_1) ∧ Aside0 (Below w.heap.size w wc))
      case first =>
        have H := HC2.out
        clear HC2
        by_cases c3 : x5_1 < (l0.length : Int)
        · rw [if_pos c3] at H
          have c3b0 : decide (x5_1 < (l0.length : Int)) = true := decide_eq_true c3
          clear c3
          (first | rw [c3b0] | (simp only [i64_w, i32_w]; rw [c3b0]) | skip)
          have H' := Aside0.mk H
          clear H
          obtain ⟨Ao4, co4, eo4⟩ := Kd.R_slice HO_4.out
          subst eo4
          go_wp2
          go_meet
          case rel => exact ⟨_, (decide ((x4_1.length : Int) < 65536)), (by first | rfl | (simp; done) | (simp [*]; done)), H', ⟨by have := HK1.out; first | omega | exact Nat.le_refl _⟩, ⟨by (with_reducible repeat (first | apply Kd.R_alloc | apply Kd.R_drewN | apply Kd.R_drew)); exact HO_4.out⟩, ⟨by repeat (first | (with_reducible first | exact HB.out | apply below_alloc | apply pw_below_drewN | apply below_drew1) | exact HB.out)⟩⟩
        · rw [if_neg c3] at H
          have c3b0 : decide (x5_1 < (l0.length : Int)) = false := decide_eq_false c3
          clear c3
          (first | rw [c3b0] | (simp only [i64_w, i32_w]; rw [c3b0]) | skip)
          have H' := Aside0.mk H
          clear H
          go_wp2
          go_meet
          case rel => exact ⟨_, (false), (by first | rfl | (simp; done) | (simp [*]; done)), H', ⟨by have := HK1.out; first | omega | exact Nat.le_refl _⟩, ⟨by (with_reducible repeat (first | apply Kd.R_alloc | apply Kd.R_drewN | apply Kd.R_drew)); exact HO_4.out⟩, ⟨by repeat (first | (with_reducible first | exact HB.out | apply below_alloc | apply pw_below_drewN | apply below_drew1) | exact HB.out)⟩⟩
      case rest =>
        clear HC2
        try clear c1
        try clear p2
        try clear c3
        try clear c3b0
        obtain ⟨kq, x17_1, rfl, HA, HJ1, HO_4, HB⟩ := hcut
        cases kq with
        | zero => exact absurd HA.out (by simp [laminaref24_Scan.j1])
        | succ kj1 =>
          have H := HA.out
          clear HA
          simp only [laminaref24_Scan.j1] at H
          by_cases c5 : x17_1 = true
          · subst c5
            have H1 : ((laminaref24_Decode.f kj1 l0 x5_1).bind fun bt268 => (if bt268.2.2.2.2.2.2.2 = 0 then (if x4_1.length < 2513169434916 then (laminaref24_Scan.l0 kj1 l0 (x4_1 ++ [(⟨bt268.1, bt268.2.1, bt268.2.2.1, bt268.2.2.2.1, bt268.2.2.2.2.1, bt268.2.2.2.2.2.1⟩ : S23)]) bt268.2.2.2.2.2.2.1) else (none)) else (some (x4_1, x5_1)))) = some (r1, r2) := by rw [if_pos rfl] at H; exact H
            clear H
            have H := H1
            clear H1
            replace H := Option.bind_eq_some_iff.mp H
            obtain ⟨⟨t268, t269, t270, t271, t272, t273, t274, t275⟩, A60, H⟩ := H
            replace H : (if t275 = 0 then (if x4_1.length < 2513169434916 then (laminaref24_Scan.l0 kj1 l0 (x4_1 ++ [(⟨t268, t269, t270, t271, t272, t273⟩ : S23)]) t274) else (none)) else (some (x4_1, x5_1))) = some (r1, r2) := H
            have A6 := Aside0.mk A60
            clear A60
            by_cases c7 : t275 = 0
            · rw [if_pos c7] at H
              have c7b0 : (t275 == 0) = true := beq_iff_eq.mpr c7
              have c7b1 : (t275 != 0) = false := bne_eq_false_iff_eq.mpr c7
              clear c7
              by_cases c8 : x4_1.length < 2513169434916
              · rw [if_pos c8] at H
                have LMc8 := Aside0.mk c8
                clear c8
                obtain ⟨y277, hy277⟩ : ∃ y_ : List (S23), y_ = (x4_1 ++ [(⟨t268, t269, t270, t271, t272, t273⟩ : S23)]) := ⟨_, rfl⟩
                replace H : (laminaref24_Scan.l0 kj1 l0 y277 t274) = some (r1, r2) := by first | (rw [hy277]; with_reducible exact H) | (have H2_ := (Option.bind_some _ _).symm.trans H; rw [hy277]; with_reducible exact H2_) | (have H2_ := (Option.bind_some _ _).symm.trans H; with_reducible exact H2_) | with_reducible exact H | (rw [hy277]; exact H) | exact H
                have Ny277 := Aside0.mk hy277
                clear hy277
                have H' := Aside0.mk H
                clear H
                go_wp2_with (first | ((with_reducible refine gate_callee (f := 12) rfl ?_); refine goesL_ (some 21) rfl rfl Try.func12 (by kernel_rfl) rfl #[.slice A0 l0.length c0, .int .i64 x5_1] rfl (by (try simp only [List.map_toArray, List.map_cons, List.map_nil]); first | done | rfl | (simp only [List.length_drop, List.length_take]; rfl)) ?_; (with_reducible refine (laminaref24_Decode.calls kj1 _ _ l0 x5_1 t268 t269 t270 t271 t272 t273 t274 t275 _ ?side1 ?side2 A6.out).mono ?_); (case side1 => repeat (first | exact (Kd.C_below HR0.out HB.out) | (with_reducible refine Kd.C_alloc ?_ _) | (with_reducible refine Kd.C_drewN ?_ _) | (with_reducible refine Kd.C_drew ?_))); (case side2 => exact HC0.out); rintro e w9 ⟨rfl, hb⟩; refine ⟨_, rfl, ?_⟩; have n0_ := Aside0.mk (Kd.R_below (by (with_reducible repeat (first | apply Kd.R_alloc | apply Kd.R_drewN | apply Kd.R_drew)); exact HO_4.out) hb); have n1_ := Aside0.mk (below_step (by repeat (first | (with_reducible first | exact HB.out | apply below_alloc | apply pw_below_drewN | apply below_drew1) | exact HB.out)) hb); clear HO_4; clear HB; have HO_4 := n0_; have HB := n1_; clear n0_ n1_; (try clear hb); (try clear hb2); (try clear hk); (try clear hi)) | ((with_reducible refine gate_dst (N := 6) rfl ?_); (try (refine gate_guard (by rfl) ?_; dsimp only)); refine box_event ?hg (N := 6) ?hd (cs := #[.int .i64 0, .int .i64 0, .int .i64 0, .int .i64 0, .int .i64 0, .string (⟨#[]⟩ : ByteArray)]) (t := 23) ?hr ?_; (case hd => rfl); (case hg => rfl); (case hr => first | (go_simp; done) | (go_simp; rfl)); intro gb276 hg w10 hbox hb; have n0_ := Aside0.mk (Kd.R_below (Kd.R_elderB (by (with_reducible repeat (first | apply Kd.R_alloc | apply Kd.R_drewN | apply Kd.R_drew)); exact HO_4.out) gb276 (Nat.le_of_eq hg.symm)) hb); have n1_ := Aside0.mk (below_step (by repeat (first | (with_reducible first | exact HB.out | apply below_alloc | apply pw_below_drewN | apply below_drew1) | exact HB.out)) hb); have n2_ := Aside0.mk (hbox); have n3_ := Aside0.mk ((by rw [hg]; exact (below_size (by repeat (first | (with_reducible first | exact HB.out | apply below_alloc | apply pw_below_drewN | apply below_drew1) | exact HB.out))) : w.heap.size ≤ gb276)); have n4_ := Aside0.mk ((by rw [hg]; exact (below_size (by repeat (first | (with_reducible first | exact HB.out | apply below_alloc | apply pw_below_drewN | apply below_drew1) | exact HB.out))) : w.heap.size ≤ gb276)); clear HO_4; clear HB; have HO_4 := n0_; have HB := n1_; have BK276 := n2_; have GW276 := n3_; have GE276 := n4_; clear n0_ n1_ n2_ n3_ n4_; clear hb hbox hg; have hcz11_0 : w10.cell? ⟨gb276, 0, none⟩ = some (.int .i64 0) := (blk_cell BK276.out 0).trans rfl; have hcz11_1 : w10.cell? ⟨gb276, 1, none⟩ = some (.int .i64 0) := (blk_cell BK276.out 1).trans rfl; have hcz11_2 : w10.cell? ⟨gb276, 2, none⟩ = some (.int .i64 0) := (blk_cell BK276.out 2).trans rfl; have hcz11_3 : w10.cell? ⟨gb276, 3, none⟩ = some (.int .i64 0) := (blk_cell BK276.out 3).trans rfl; have hcz11_4 : w10.cell? ⟨gb276, 4, none⟩ = some (.int .i64 0) := (blk_cell BK276.out 4).trans rfl; have hcz11_5 : w10.cell? ⟨gb276, 5, none⟩ = some (.string (⟨#[]⟩ : ByteArray)) := (blk_cell BK276.out 5).trans rfl; have hfz11_0 := blk_frozen BK276.out 0; have hfz11_1 := blk_frozen BK276.out 1; have hfz11_2 := blk_frozen BK276.out 2; have hfz11_3 := blk_frozen BK276.out 3; have hfz11_4 := blk_frozen BK276.out 4; have hfz11_5 := blk_frozen BK276.out 5) | ((with_reducible refine gate_builtin (b := .append) (xs := #[.tmp 27, .tmp 29]) rfl ?_); (try (refine gate_guard (by rfl) ?_; dsimp only)); at_builtin; refine Kd.R_append k23 (w0 := w) w.heap.size rfl (.tmp 27) (.tmp 29) 36 23 (.agg #[(.int .i64 0), (.int .i64 0), (.int .i64 0), (.int .i64 0), (.int .i64 0), (.string ⟨#[]⟩)]) 56 rfl Try.underlying36 info23 rfl (by decide) (by omega) u4 x4_1 (⟨t268, t269, t270, t271, t272, t273⟩ : S23) [.int .i64 t268, .int .i64 t269, .int .i64 t270, .int .i64 t271, .int .i64 t272, .string t273] (fun k_ => k_ ≠ gb276) (fun _ => False) rfl (by first | (go_simp; done) | (go_simp; rfl)) ?aP (fun _ hk => hk.elim) ?aF ?aO ?aB ?aS ?aL ?_; (case aP => exact k23_mkM _ _ _ (⟨t268, t269, t270, t271, t272, t273⟩ : S23)); (case aB => exact (by repeat (first | (with_reducible first | exact HB.out | apply below_alloc | apply pw_below_drewN | apply below_drew1 | refine below_set ?_ GE276.out) | exact HB.out))); (case aF => exact (fun k_ hk => Kd.freshB (g := gb276) (o := .cells #[.int .i64 t268, .int .i64 t269, .int .i64 t270, .int .i64 t271, .int .i64 t272, .string t273] 23 (0, 0)) (by (with_reducible repeat (first | refine blk_drewN ?_ _ | refine blk_drew ?_ | refine blk_alloc ?_ _)); refine blk_put (cs := #[.int .i64 t268, .int .i64 t269, .int .i64 t270, .int .i64 t271, .int .i64 t272, .string (⟨#[]⟩ : ByteArray)]) ?_ 5 _ rfl; (with_reducible repeat (first | refine blk_drewN ?_ _ | refine blk_drew ?_ | refine blk_alloc ?_ _)); refine blk_put (cs := #[.int .i64 t268, .int .i64 t269, .int .i64 t270, .int .i64 t271, .int .i64 0, .string (⟨#[]⟩ : ByteArray)]) ?_ 4 _ rfl; (with_reducible repeat (first | refine blk_drewN ?_ _ | refine blk_drew ?_ | refine blk_alloc ?_ _)); refine blk_put (cs := #[.int .i64 t268, .int .i64 t269, .int .i64 t270, .int .i64 0, .int .i64 0, .string (⟨#[]⟩ : ByteArray)]) ?_ 3 _ rfl; (with_reducible repeat (first | refine blk_drewN ?_ _ | refine blk_drew ?_ | refine blk_alloc ?_ _)); refine blk_put (cs := #[.int .i64 t268, .int .i64 t269, .int .i64 0, .int .i64 0, .int .i64 0, .string (⟨#[]⟩ : ByteArray)]) ?_ 2 _ rfl; (with_reducible repeat (first | refine blk_drewN ?_ _ | refine blk_drew ?_ | refine blk_alloc ?_ _)); refine blk_put (cs := #[.int .i64 t268, .int .i64 0, .int .i64 0, .int .i64 0, .int .i64 0, .string (⟨#[]⟩ : ByteArray)]) ?_ 1 _ rfl; (with_reducible repeat (first | refine blk_drewN ?_ _ | refine blk_drew ?_ | refine blk_alloc ?_ _)); refine blk_put (cs := #[.int .i64 0, .int .i64 0, .int .i64 0, .int .i64 0, .int .i64 0, .string (⟨#[]⟩ : ByteArray)]) ?_ 0 _ rfl; (with_reducible repeat (first | refine blk_drewN ?_ _ | refine blk_drew ?_ | refine blk_alloc ?_ _)); exact BK276.out) k_ hk)); (case aO => exact (by (with_reducible repeat (first | apply Kd.R_alloc | apply Kd.R_drewN | apply Kd.R_drew)); exact Kd.R_mono (Kd.R_far (p := ⟨gb276, 5, none⟩) (Kd.R_far (p := ⟨gb276, 4, none⟩) (Kd.R_far (p := ⟨gb276, 3, none⟩) (Kd.R_far (p := ⟨gb276, 2, none⟩) (Kd.R_far (p := ⟨gb276, 1, none⟩) (Kd.R_far (p := ⟨gb276, 0, none⟩) (Kd.R_mono HO_4.out (fun k_ hk => (⟨hk, hk.2⟩ : _ ∧ k_ ≠ gb276))) (fun _ hk => hk.2) (.int .i64 t268)) (fun _ hk => hk.2) (.int .i64 t269)) (fun _ hk => hk.2) (.int .i64 t270)) (fun _ hk => hk.2) (.int .i64 t271)) (fun _ hk => hk.2) (.int .i64 t272)) (fun _ hk => hk.2) (.string t273)) (fun _ hk => hk.1.2))); (case aS => exact (below_size (by repeat (first | (with_reducible first | exact HB.out | apply below_alloc | apply pw_below_drewN | apply below_drew1 | refine below_set ?_ GE276.out) | exact HB.out)))); (case aL => have := LMc8.out; omega); intro v278 w12 ho hb hg hat; rw [← Ny277.out] at ho; have n0_ := Aside0.mk (blk_grown (g := gb276) (o := .cells #[.int .i64 t268, .int .i64 t269, .int .i64 t270, .int .i64 t271, .int .i64 t272, .string t273] 23 (0, 0)) (by (with_reducible repeat (first | refine blk_drewN ?_ _ | refine blk_drew ?_ | refine blk_alloc ?_ _)); refine blk_put (cs := #[.int .i64 t268, .int .i64 t269, .int .i64 t270, .int .i64 t271, .int .i64 t272, .string (⟨#[]⟩ : ByteArray)]) ?_ 5 _ rfl; (with_reducible repeat (first | refine blk_drewN ?_ _ | refine blk_drew ?_ | refine blk_alloc ?_ _)); refine blk_put (cs := #[.int .i64 t268, .int .i64 t269, .int .i64 t270, .int .i64 t271, .int .i64 0, .string (⟨#[]⟩ : ByteArray)]) ?_ 4 _ rfl; (with_reducible repeat (first | refine blk_drewN ?_ _ | refine blk_drew ?_ | refine blk_alloc ?_ _)); refine blk_put (cs := #[.int .i64 t268, .int .i64 t269, .int .i64 t270, .int .i64 0, .int .i64 0, .string (⟨#[]⟩ : ByteArray)]) ?_ 3 _ rfl; (with_reducible repeat (first | refine blk_drewN ?_ _ | refine blk_drew ?_ | refine blk_alloc ?_ _)); refine blk_put (cs := #[.int .i64 t268, .int .i64 t269, .int .i64 0, .int .i64 0, .int .i64 0, .string (⟨#[]⟩ : ByteArray)]) ?_ 2 _ rfl; (with_reducible repeat (first | refine blk_drewN ?_ _ | refine blk_drew ?_ | refine blk_alloc ?_ _)); refine blk_put (cs := #[.int .i64 t268, .int .i64 0, .int .i64 0, .int .i64 0, .int .i64 0, .string (⟨#[]⟩ : ByteArray)]) ?_ 1 _ rfl; (with_reducible repeat (first | refine blk_drewN ?_ _ | refine blk_drew ?_ | refine blk_alloc ?_ _)); refine blk_put (cs := #[.int .i64 0, .int .i64 0, .int .i64 0, .int .i64 0, .int .i64 0, .string (⟨#[]⟩ : ByteArray)]) ?_ 0 _ rfl; (with_reducible repeat (first | refine blk_drewN ?_ _ | refine blk_drew ?_ | refine blk_alloc ?_ _)); exact BK276.out) hg (Kd.R_away HO_4.out (fun _ hk => hk.2))); have n1_ := Aside0.mk (hb); have n2_ := Aside0.mk (ho); clear BK276; clear HB; clear HO_4; have BK276 := n0_; have HB := n1_; have HO279 := n2_; clear n0_ n1_ n2_; clear ho hb hg hat))
                go_roundg kj1
                case measure => have := HK1.out; have := HJ1.out; omega
                case rel => exact ⟨(y277), (t274), (by first | rfl | (simp; done) | (simp [*]; done)), H', ⟨by have := HK1.out; have := HJ1.out; omega⟩, ⟨by (with_reducible repeat (first | apply Kd.R_alloc | apply Kd.R_drewN | apply Kd.R_drew)); exact Kd.R_mono HO279.out (fun _ hk => trivial)⟩, ⟨by repeat (first | (with_reducible first | exact HB.out | apply below_alloc | apply pw_below_drewN | apply below_drew1 | refine below_set ?_ GE276.out) | exact HB.out)⟩⟩
              · rw [if_neg c8] at H
                exact absurd H (by simp)
            · rw [if_neg c7] at H
              have c7b0 : (t275 == 0) = false := beq_eq_false_iff_ne.mpr c7
              have c7b1 : (t275 != 0) = true := bne_iff_ne.mpr c7
              simp only [Option.some.injEq, Prod.mk.injEq] at H
              obtain ⟨rfl, rfl⟩ := H
              go_wp2_with (first | ((with_reducible refine gate_callee (f := 12) rfl ?_); refine goesL_ (some 21) rfl rfl Try.func12 (by kernel_rfl) rfl #[.slice A0 l0.length c0, .int .i64 x5_1] rfl (by (try simp only [List.map_toArray, List.map_cons, List.map_nil]); first | done | rfl | (simp only [List.length_drop, List.length_take]; rfl)) ?_; (with_reducible refine (laminaref24_Decode.calls kj1 _ _ l0 x5_1 t268 t269 t270 t271 t272 t273 t274 t275 _ ?side1 ?side2 A6.out).mono ?_); (case side1 => repeat (first | exact (Kd.C_below HR0.out HB.out) | (with_reducible refine Kd.C_alloc ?_ _) | (with_reducible refine Kd.C_drewN ?_ _) | (with_reducible refine Kd.C_drew ?_))); (case side2 => exact HC0.out); rintro e w13 ⟨rfl, hb⟩; refine ⟨_, rfl, ?_⟩; have n0_ := Aside0.mk (Kd.R_below (by (with_reducible repeat (first | apply Kd.R_alloc | apply Kd.R_drewN | apply Kd.R_drew)); exact HO_4.out) hb); have n1_ := Aside0.mk (below_step (by repeat (first | (with_reducible first | exact HB.out | apply below_alloc | apply pw_below_drewN | apply below_drew1) | exact HB.out)) hb); clear HO_4; clear HB; have HO_4 := n0_; have HB := n1_; clear n0_ n1_; (try clear hb); (try clear hb2); (try clear hk); (try clear hi)) | ((with_reducible refine gate_dst (N := 6) rfl ?_); (try (refine gate_guard (by rfl) ?_; dsimp only)); refine box_event ?hg (N := 6) ?hd (cs := #[.int .i64 0, .int .i64 0, .int .i64 0, .int .i64 0, .int .i64 0, .string (⟨#[]⟩ : ByteArray)]) (t := 23) ?hr ?_; (case hd => rfl); (case hg => rfl); (case hr => first | (go_simp; done) | (go_simp; rfl)); intro gb276 hg w14 hbox hb; have n0_ := Aside0.mk (Kd.R_below (Kd.R_elderB (by (with_reducible repeat (first | apply Kd.R_alloc | apply Kd.R_drewN | apply Kd.R_drew)); exact HO_4.out) gb276 (Nat.le_of_eq hg.symm)) hb); have n1_ := Aside0.mk (below_step (by repeat (first | (with_reducible first | exact HB.out | apply below_alloc | apply pw_below_drewN | apply below_drew1) | exact HB.out)) hb); have n2_ := Aside0.mk (hbox); have n3_ := Aside0.mk ((by rw [hg]; exact (below_size (by repeat (first | (with_reducible first | exact HB.out | apply below_alloc | apply pw_below_drewN | apply below_drew1) | exact HB.out))) : w.heap.size ≤ gb276)); have n4_ := Aside0.mk ((by rw [hg]; exact (below_size (by repeat (first | (with_reducible first | exact HB.out | apply below_alloc | apply pw_below_drewN | apply below_drew1) | exact HB.out))) : w.heap.size ≤ gb276)); clear HO_4; clear HB; have HO_4 := n0_; have HB := n1_; have BK276 := n2_; have GW276 := n3_; have GE276 := n4_; clear n0_ n1_ n2_ n3_ n4_; clear hb hbox hg; have hcz15_0 : w14.cell? ⟨gb276, 0, none⟩ = some (.int .i64 0) := (blk_cell BK276.out 0).trans rfl; have hcz15_1 : w14.cell? ⟨gb276, 1, none⟩ = some (.int .i64 0) := (blk_cell BK276.out 1).trans rfl; have hcz15_2 : w14.cell? ⟨gb276, 2, none⟩ = some (.int .i64 0) := (blk_cell BK276.out 2).trans rfl; have hcz15_3 : w14.cell? ⟨gb276, 3, none⟩ = some (.int .i64 0) := (blk_cell BK276.out 3).trans rfl; have hcz15_4 : w14.cell? ⟨gb276, 4, none⟩ = some (.int .i64 0) := (blk_cell BK276.out 4).trans rfl; have hcz15_5 : w14.cell? ⟨gb276, 5, none⟩ = some (.string (⟨#[]⟩ : ByteArray)) := (blk_cell BK276.out 5).trans rfl; have hfz15_0 := blk_frozen BK276.out 0; have hfz15_1 := blk_frozen BK276.out 1; have hfz15_2 := blk_frozen BK276.out 2; have hfz15_3 := blk_frozen BK276.out 3; have hfz15_4 := blk_frozen BK276.out 4; have hfz15_5 := blk_frozen BK276.out 5))
              go_ret2
              exact ⟨_, by first | rfl | (simp [errW_none, errW_some] <;> rfl) | (simp [*, errW_none, errW_some] <;> rfl), by (with_reducible repeat (first | apply Kd.R_alloc | apply Kd.R_drewN | apply Kd.R_drew)); exact Kd.R_mono (Kd.R_far (p := ⟨gb276, 5, none⟩) (Kd.R_far (p := ⟨gb276, 4, none⟩) (Kd.R_far (p := ⟨gb276, 3, none⟩) (Kd.R_far (p := ⟨gb276, 2, none⟩) (Kd.R_far (p := ⟨gb276, 1, none⟩) (Kd.R_far (p := ⟨gb276, 0, none⟩) (Kd.R_mono HO_4.out (fun k_ hk => (⟨hk, hk.2⟩ : _ ∧ k_ ≠ gb276))) (fun _ hk => hk.2) (.int .i64 t268)) (fun _ hk => hk.2) (.int .i64 t269)) (fun _ hk => hk.2) (.int .i64 t270)) (fun _ hk => hk.2) (.int .i64 t271)) (fun _ hk => hk.2) (.int .i64 t272)) (fun _ hk => hk.2) (.string t273)) (fun _ hk => trivial), by repeat (first | (with_reducible first | exact HB.out | apply below_alloc | apply pw_below_drewN | apply below_drew1 | refine below_set ?_ GE276.out) | exact HB.out)⟩
          · replace c5 := Bool.eq_false_iff.mpr c5
            subst c5
            have H1 : (some (x4_1, x5_1)) = some (r1, r2) := by rw [if_neg (show ¬ (false = true) by decide)] at H; exact H
            clear H
            have H := H1
            clear H1
            simp only [Option.some.injEq, Prod.mk.injEq] at H
            obtain ⟨rfl, rfl⟩ := H
            go_wp2
            go_ret2
            exact ⟨_, by first | rfl | (simp [errW_none, errW_some] <;> rfl) | (simp [*, errW_none, errW_some] <;> rfl), by (with_reducible repeat (first | apply Kd.R_alloc | apply Kd.R_drewN | apply Kd.R_drew)); exact HO_4.out, by repeat (first | (with_reducible first | exact HB.out | apply below_alloc | apply pw_below_drewN | apply below_drew1) | exact HB.out)⟩

end Go.Proofs.Ytfkgpmidcbjlbaa.P
end
section
set_option linter.unusedVariables false
set_option linter.unusedSimpArgs false
-- Written by a program of this session (a printer of walks).
namespace Go.Proofs.Ytfkgpmidcbjlbaa.P
open Go.RowKit Go.Proofs.YtfkgpmidcbjlbaaW.PrintWords Go.Proofs.YtfkgpmidcbjlbaaW.PrintLast Go.Proofs.YtfkgpmidcbjlbaaW.PrintMore
attribute [local go_sem] max2_int min2_int max_two min_two max_three min_three max_four min_four   -- for this text's walks alone
set_option linter.unusedVariables false
set_option linter.unusedSimpArgs false

theorem eqA23 (d : Nat) (w : World) (x0 y0 : Int) (x1 y1 : Int) (x2 y2 : Int) (x3 y3 : Int) (x4 y4 : Int) (x5 y5 : ByteArray) :
    (Op.equalIn (d + 2) 23 (.agg #[.int .i64 x0, .int .i64 x1, .int .i64 x2, .int .i64 x3, .int .i64 x4, .string x5]) (.agg #[.int .i64 y0, .int .i64 y1, .int .i64 y2, .int .i64 y3, .int .i64 y4, .string y5])).run Try.prog w = .ok (x0 == y0 && (x1 == y1 && (x2 == y2 && (x3 == y3 && (x4 == y4 && (x5.toList == y5.toList)))))) w := by
  refine eqA_of Try.underlying23 (by kernel_rfl) ?_
  refine eqf_cons (by rfl) (by go_simp; rfl) (by go_simp; rfl) (by go_simp) ?_
  refine eqf_cons (by rfl) (by go_simp; rfl) (by go_simp; rfl) (by go_simp) ?_
  refine eqf_cons (by rfl) (by go_simp; rfl) (by go_simp; rfl) (by go_simp) ?_
  refine eqf_cons (by rfl) (by go_simp; rfl) (by go_simp; rfl) (by go_simp) ?_
  refine eqf_cons (by rfl) (by go_simp; rfl) (by go_simp; rfl) (by go_simp) ?_
  exact eqf_last (by rfl) (by go_simp; rfl) (by go_simp; rfl) (by go_simp)
end Go.Proofs.Ytfkgpmidcbjlbaa.P
end
section
set_option linter.unusedVariables false
set_option linter.unusedSimpArgs false
-- Written by a program of this session (a printer of walks).
namespace Go.Proofs.Ytfkgpmidcbjlbaa.P
open Go.RowKit Go.Proofs.YtfkgpmidcbjlbaaW.PrintWords Go.Proofs.YtfkgpmidcbjlbaaW.PrintLast Go.Proofs.YtfkgpmidcbjlbaaW.PrintMore
attribute [local go_sem] max2_int min2_int max_two min_two max_three min_three max_four min_four   -- for this text's walks alone
set_option linter.unusedVariables false
set_option linter.unusedSimpArgs false

attribute [local go_sem high] eqA23
/-! ### laminaref24_Equal: function 15 -/
mutual
def laminaref24_Equal.l0 : Nat → List (S23) → List (S23) → Int → Option (Bool)
  | 0, _, _, _ => none
  | k + 1, x0, x1, x5 => if x5 < (x0.length : Int) then (laminaref24_Equal.j1 k x0 x1 x5 (decide (x5 < (x1.length : Int)))) else (laminaref24_Equal.j1 k x0 x1 x5 false)
def laminaref24_Equal.j1 : Nat → List (S23) → List (S23) → Int → Bool → Option (Bool)
  | 0, _, _, _, _ => none
  | k + 1, x0, x1, x5, x20 => if x20 = true then (if 0 ≤ x5 then (if x5 < (x0.length : Int) then (if x5 < (x1.length : Int) then (if (!(((rd_T23 x0 x5).f0) == ((rd_T23 x1 x5).f0)) || (!(((rd_T23 x0 x5).f1) == ((rd_T23 x1 x5).f1)) || (!(((rd_T23 x0 x5).f2) == ((rd_T23 x1 x5).f2)) || (!(((rd_T23 x0 x5).f3) == ((rd_T23 x1 x5).f3)) || (!(((rd_T23 x0 x5).f4) == ((rd_T23 x1 x5).f4)) || (!((((rd_T23 x0 x5).f5).toList) == (((rd_T23 x1 x5).f5).toList)))))))) = true then (some false) else (laminaref24_Equal.l0 k x0 x1 (wrap64 (x5 + 1)))) else (none)) else (none)) else (none)) else (some true)
end
def laminaref24_Equal.f (k : Nat) (l0 : List (S23)) (l1 : List (S23)) : Option (Bool) := if (l0.length : Int) = (l1.length : Int) then (laminaref24_Equal.l0 k l0 l1 0) else (some false)
theorem laminaref24_Equal.mono_l : ∀ k, (∀ y0 y1 y2, LeO (laminaref24_Equal.l0 k y0 y1 y2) (laminaref24_Equal.l0 (k + 1) y0 y1 y2)) ∧ (∀ y0 y1 y2 y3, LeO (laminaref24_Equal.j1 k y0 y1 y2 y3) (laminaref24_Equal.j1 (k + 1) y0 y1 y2 y3))
  | 0 => ⟨fun _ _ _ r h => by simp [laminaref24_Equal.l0] at h, fun _ _ _ _ r h => by simp [laminaref24_Equal.j1] at h⟩
  | k + 1 => by
    obtain ⟨ih0, ih1⟩ := laminaref24_Equal.mono_l k
    refine ⟨?_, ?_⟩
    · intro y0 y1 y2
      unfold laminaref24_Equal.l0
      repeat' first
      | (with_reducible exact ih0 _ _ _)
      | (with_reducible exact ih1 _ _ _ _)
      | (with_reducible exact LeO.refl _)
      | (with_reducible exact LeO.none _)
      | (with_reducible refine LeO.ite ?_ ?_)
      | (with_reducible refine LeO.bind ?_ (fun _ => ?_))
      | exact ih0 _ _ _
      | exact ih1 _ _ _ _
      | exact LeO.none _
      | refine LeO.ite ?_ ?_
      | refine LeO.bind ?_ (fun _ => ?_)
    · intro y0 y1 y2 y3
      unfold laminaref24_Equal.j1
      repeat' first
      | (with_reducible exact ih0 _ _ _)
      | (with_reducible exact ih1 _ _ _ _)
      | (with_reducible exact LeO.refl _)
      | (with_reducible exact LeO.none _)
      | (with_reducible refine LeO.ite ?_ ?_)
      | (with_reducible refine LeO.bind ?_ (fun _ => ?_))
      | exact ih0 _ _ _
      | exact ih1 _ _ _ _
      | exact LeO.none _
      | refine LeO.ite ?_ ?_
      | refine LeO.bind ?_ (fun _ => ?_)
theorem laminaref24_Equal.mono : ∀ a0 a1 k, LeO (laminaref24_Equal.f k a0 a1) (laminaref24_Equal.f (k + 1) a0 a1) := by
  intro a0 a1 k
  obtain ⟨ih0, ih1⟩ := laminaref24_Equal.mono_l k
  unfold laminaref24_Equal.f
  repeat' first
      | (with_reducible exact ih0 _ _ _)
      | (with_reducible exact ih1 _ _ _ _)
      | (with_reducible exact LeO.refl _)
      | (with_reducible exact LeO.none _)
      | (with_reducible refine LeO.ite ?_ ?_)
      | (with_reducible refine LeO.bind ?_ (fun _ => ?_))
      | exact ih0 _ _ _
      | exact ih1 _ _ _ _
      | exact LeO.none _
      | refine LeO.ite ?_ ?_
      | refine LeO.bind ?_ (fun _ => ?_)
set_option maxHeartbeats 8000000 in
set_option maxRecDepth 100000 in
theorem laminaref24_Equal.calls (k : Nat) (A0 : Option Addr) (c0 : Nat) (l0 : List (S23)) (A1 : Option Addr) (c1 : Nat) (l1 : List (S23)) (r : Bool) (w : World) (hr0 : Kd.C k23 w A0 l0.length l0) (hc0 : l0.length ≤ c0) (hr1 : Kd.C k23 w A1 l1.length l1) (hc1 : l1.length ≤ c1) (h : laminaref24_Equal.f k l0 l1 = some r) :
    Calls Try.prog 15 #[.slice A0 l0.length c0, .slice A1 l1.length c1] w fun e w' => e = .returned (.bool r) ∧ Drawn0 w w' := by
  have hu23 := Try.underlying23
  have HR0 := Aside0.mk hr0
  have HC0 := Aside0.mk hc0
  clear hr0 hc0
  have HR1 := Aside0.mk hr1
  have HC1 := Aside0.mk hc1
  clear hr1 hc1
  have H : (if (l0.length : Int) = (l1.length : Int) then (laminaref24_Equal.l0 k l0 l1 0) else (some false)) = some r := h
  clear h
  by_cases c3 : (l0.length : Int) = (l1.length : Int)
  · rw [if_pos c3] at H
    have c3b0 : ((l0.length : Int) == (l1.length : Int)) = true := beq_iff_eq.mpr c3
    have c3b1 : ((l0.length : Int) != (l1.length : Int)) = false := bne_eq_false_iff_eq.mpr c3
    have c3b2 : (l0.length == l1.length) = true := by first | simpa using c3 | (simp at c3 ⊢; omega)
    clear c3
    have H' := Aside0.mk H
    clear H
    go_enter Try.func15, Try.ntmps15
    go_wp2
    repeat (go_quiet (fail); try go_wp2)
    go_loopg [5] k (fun kq v5 w' => ∃ (x5_1 : Int), v5 = .int .i64 x5_1 ∧ Aside0 (laminaref24_Equal.l0 kq l0 l1 x5_1 = some r) ∧ Aside0 (kq ≤ k) ∧ Drawn0 w w')
    case atStart => exact ⟨(0), (by first | rfl | (simp; done) | (simp [*]; done)), H', ⟨Nat.le_refl _⟩, by repeat (first | exact Drawn0.refl _ | apply Drawn0.step)⟩
    case round =>
      clear H'
      try clear c1
      try clear p2
      try clear c3
      try clear c3b0
      try clear c3b1
      try clear c3b2
      obtain ⟨x5_1, rfl, HA, HK1, ⟨m1, rfl⟩⟩ := hrel
      cases gk with
      | zero => exact absurd HA.out (by simp [laminaref24_Equal.l0])
      | succ k1 =>
        have H := HA.out
        clear HA
        simp only [laminaref24_Equal.l0] at H
        have HC4 := Aside0.mk H
        clear H
        go_upto_region 4 with (fail)
        repeat (go_quiet (fail); go_upto_region 4 with (fail))
        go_cut [20] (fun v20 wc => ∃ (kq : Nat) (x20_3 : Bool), v20 = .bool x20_3 ∧ Aside0 (laminaref24_Equal.j1 kq l0 l1 x5_1 x20_3 = some r) ∧ Aside0 (kq ≤ k1) ∧ Drawn0 w wc)
        case first =>
          have H := HC4.out
          clear HC4
          by_cases c5 : x5_1 < (l0.length : Int)
          · rw [if_pos c5] at H
            have c5b0 : decide (x5_1 < (l0.length : Int)) = true := decide_eq_true c5
            clear c5
            (first | rw [c5b0] | (simp only [i64_w, i32_w]; rw [c5b0]) | skip)
            have H' := Aside0.mk H
            clear H
            go_wp2
            repeat (go_quiet (fail); try go_wp2)
            go_meet
            case rel => exact ⟨_, (decide (x5_1 < (l1.length : Int))), (by first | rfl | (simp; done) | (simp [*]; done)), H', ⟨by have := HK1.out; first | omega | exact Nat.le_refl _⟩, by repeat (first | exact Drawn0.refl _ | apply Drawn0.step)⟩
          · rw [if_neg c5] at H
            have c5b0 : decide (x5_1 < (l0.length : Int)) = false := decide_eq_false c5
            clear c5
            (first | rw [c5b0] | (simp only [i64_w, i32_w]; rw [c5b0]) | skip)
            have H' := Aside0.mk H
            clear H
            go_wp2
            repeat (go_quiet (fail); try go_wp2)
            go_meet
            case rel => exact ⟨_, (false), (by first | rfl | (simp; done) | (simp [*]; done)), H', ⟨by have := HK1.out; first | omega | exact Nat.le_refl _⟩, by repeat (first | exact Drawn0.refl _ | apply Drawn0.step)⟩
        case rest =>
          clear HC4
          try clear c1
          try clear p2
          try clear c3
          try clear c3b0
          try clear c3b1
          try clear c3b2
          try clear c5
          try clear c5b0
          try clear p2
          obtain ⟨kq, x20_3, rfl, HA, HJ3, ⟨mc3, rfl⟩⟩ := hcut
          cases kq with
          | zero => exact absurd HA.out (by simp [laminaref24_Equal.j1])
          | succ kj3 =>
            have H := HA.out
            clear HA
            simp only [laminaref24_Equal.j1] at H
            by_cases c6 : x20_3 = true
            · subst c6
              have H1 : (if 0 ≤ x5_1 then (if x5_1 < (l0.length : Int) then (if x5_1 < (l1.length : Int) then (if (!(((rd_T23 l0 x5_1).f0) == ((rd_T23 l1 x5_1).f0)) || (!(((rd_T23 l0 x5_1).f1) == ((rd_T23 l1 x5_1).f1)) || (!(((rd_T23 l0 x5_1).f2) == ((rd_T23 l1 x5_1).f2)) || (!(((rd_T23 l0 x5_1).f3) == ((rd_T23 l1 x5_1).f3)) || (!(((rd_T23 l0 x5_1).f4) == ((rd_T23 l1 x5_1).f4)) || (!((((rd_T23 l0 x5_1).f5).toList) == (((rd_T23 l1 x5_1).f5).toList)))))))) = true then (some false) else (laminaref24_Equal.l0 kj3 l0 l1 (wrap64 (x5_1 + 1)))) else (none)) else (none)) else (none)) = some r := by rw [if_pos rfl] at H; exact H
              clear H
              have H := H1
              clear H1
              by_cases c7 : 0 ≤ x5_1
              · rw [if_pos c7] at H
                have c7b0 : decide (0 ≤ x5_1) = true := decide_eq_true c7
                clear c7
                by_cases c8 : x5_1 < (l0.length : Int)
                · rw [if_pos c8] at H
                  have c8b0 : decide (x5_1 < (l0.length : Int)) = true := decide_eq_true c8
                  clear c8
                  by_cases c9 : x5_1 < (l1.length : Int)
                  · rw [if_pos c9] at H
                    have c9b0 : decide (x5_1 < (l1.length : Int)) = true := decide_eq_true c9
                    clear c9
                    by_cases c10 : (!(((rd_T23 l0 x5_1).f0) == ((rd_T23 l1 x5_1).f0)) || (!(((rd_T23 l0 x5_1).f1) == ((rd_T23 l1 x5_1).f1)) || (!(((rd_T23 l0 x5_1).f2) == ((rd_T23 l1 x5_1).f2)) || (!(((rd_T23 l0 x5_1).f3) == ((rd_T23 l1 x5_1).f3)) || (!(((rd_T23 l0 x5_1).f4) == ((rd_T23 l1 x5_1).f4)) || (!((((rd_T23 l0 x5_1).f5).toList) == (((rd_T23 l1 x5_1).f5).toList)))))))) = true
                    · rw [if_pos c10] at H
                      have c10b0 : (!(((rd_T23 l0 x5_1).f0) == ((rd_T23 l1 x5_1).f0)) || (!(((rd_T23 l0 x5_1).f1) == ((rd_T23 l1 x5_1).f1)) || (!(((rd_T23 l0 x5_1).f2) == ((rd_T23 l1 x5_1).f2)) || (!(((rd_T23 l0 x5_1).f3) == ((rd_T23 l1 x5_1).f3)) || (!(((rd_T23 l0 x5_1).f4) == ((rd_T23 l1 x5_1).f4)) || (!((((rd_T23 l0 x5_1).f5).toList) == (((rd_T23 l1 x5_1).f5).toList)))))))) = true := c10
                      clear c10
                      obtain rfl := Option.some.inj H
                      have p117 : 0 ≤ (x5_1 : Int) := of_decide_eq_true (by first | (with_reducible assumption) | assumption)
                      have q117 : x5_1 < (l0.length : Int) := of_decide_eq_true (by first | (with_reducible assumption) | assumption)
                      obtain ⟨ad117, e117, hx117_0, hx117_1, hx117_2, hx117_3, hx117_4, hx117_5⟩ := at_T23 HR0.out x5_1 p117 q117
                      cases e117
                      replace p117 := eq_true p117
                      replace q117 := eq_true q117
                      have p118 : 0 ≤ (x5_1 : Int) := of_decide_eq_true (by first | (with_reducible assumption) | assumption)
                      have q118 : x5_1 < (l1.length : Int) := of_decide_eq_true (by first | (with_reducible assumption) | assumption)
                      obtain ⟨ad118, e118, hx118_0, hx118_1, hx118_2, hx118_3, hx118_4, hx118_5⟩ := at_T23 HR1.out x5_1 p118 q118
                      cases e118
                      replace p118 := eq_true p118
                      replace q118 := eq_true q118
                      go_wp2
                      repeat (go_quiet (fail); try go_wp2)
                      go_ret
                      exact ⟨by first | rfl | (simp; done) | (simp [*]; done), by repeat (first | exact Drawn0.refl _ | apply Drawn0.step)⟩
                    · rw [if_neg c10] at H
                      have c10b0 : (!(((rd_T23 l0 x5_1).f0) == ((rd_T23 l1 x5_1).f0)) || (!(((rd_T23 l0 x5_1).f1) == ((rd_T23 l1 x5_1).f1)) || (!(((rd_T23 l0 x5_1).f2) == ((rd_T23 l1 x5_1).f2)) || (!(((rd_T23 l0 x5_1).f3) == ((rd_T23 l1 x5_1).f3)) || (!(((rd_T23 l0 x5_1).f4) == ((rd_T23 l1 x5_1).f4)) || (!((((rd_T23 l0 x5_1).f5).toList) == (((rd_T23 l1 x5_1).f5).toList)))))))) = false := by simpa using c10
                      clear c10
                      have H' := Aside0.mk H
                      clear H
                      have p117 : 0 ≤ (x5_1 : Int) := of_decide_eq_true (by first | (with_reducible assumption) | assumption)
                      have q117 : x5_1 < (l0.length : Int) := of_decide_eq_true (by first | (with_reducible assumption) | assumption)
                      obtain ⟨ad117, e117, hx117_0, hx117_1, hx117_2, hx117_3, hx117_4, hx117_5⟩ := at_T23 HR0.out x5_1 p117 q117
                      cases e117
                      replace p117 := eq_true p117
                      replace q117 := eq_true q117
                      have p118 : 0 ≤ (x5_1 : Int) := of_decide_eq_true (by first | (with_reducible assumption) | assumption)
                      have q118 : x5_1 < (l1.length : Int) := of_decide_eq_true (by first | (with_reducible assumption) | assumption)
                      obtain ⟨ad118, e118, hx118_0, hx118_1, hx118_2, hx118_3, hx118_4, hx118_5⟩ := at_T23 HR1.out x5_1 p118 q118
                      cases e118
                      replace p118 := eq_true p118
                      replace q118 := eq_true q118
                      go_wp2
                      repeat (go_quiet (fail); try go_wp2)
                      go_roundg kj3
                      case measure => have := HK1.out; have := HJ3.out; omega
                      case rel => exact ⟨(wrap64 (x5_1 + 1)), (by first | rfl | (simp; done) | (simp [*]; done)), H', ⟨by have := HK1.out; have := HJ3.out; omega⟩, by repeat (first | exact Drawn0.refl _ | apply Drawn0.step)⟩
                  · rw [if_neg c9] at H
                    exact absurd H (by simp)
                · rw [if_neg c8] at H
                  exact absurd H (by simp)
              · rw [if_neg c7] at H
                exact absurd H (by simp)
            · replace c6 := Bool.eq_false_iff.mpr c6
              subst c6
              have H1 : (some true) = some r := by rw [if_neg (show ¬ (false = true) by decide)] at H; exact H
              clear H
              have H := H1
              clear H1
              obtain rfl := Option.some.inj H
              go_wp2
              repeat (go_quiet (fail); try go_wp2)
              go_ret
              exact ⟨by first | rfl | (simp; done) | (simp [*]; done), by repeat (first | exact Drawn0.refl _ | apply Drawn0.step)⟩
  · rw [if_neg c3] at H
    have c3b0 : ((l0.length : Int) == (l1.length : Int)) = false := beq_eq_false_iff_ne.mpr c3
    have c3b1 : ((l0.length : Int) != (l1.length : Int)) = true := bne_iff_ne.mpr c3
    have c3b2 : (l0.length == l1.length) = false := by first | simpa using c3 | (simp at c3 ⊢; omega)
    obtain rfl := Option.some.inj H
    go_enter Try.func15, Try.ntmps15
    go_wp2
    repeat (go_quiet (fail); try go_wp2)
    go_ret
    exact ⟨by first | rfl | (simp; done) | (simp [*]; done), by repeat (first | exact Drawn0.refl _ | apply Drawn0.step)⟩

end Go.Proofs.Ytfkgpmidcbjlbaa.P
end
section
set_option linter.unusedVariables false
set_option linter.unusedSimpArgs false
/- Plain: records read back one behind the other; what is encoded is read back. -/
namespace Go.Proofs.Ytfkgpmidcbjlbaa.U
open Go.RowKit Go.Proofs.Ytfkgpmidcbjlbaa.P Go.Proofs.Ytfkgpmidcbjlbaa.H Go.Proofs.YtfkgpmidcbjlbaaW.PrintWords Go.Proofs.YtfkgpmidcbjlbaaW.PrintMore

/-! what is encoded is read back -/
theorem fieldsS_enc (rest : List Int) : ∀ (more acc : List Int), (∀ x ∈ acc ++ more, Num x) → fieldsS (encL (acc ++ more) ++ rest) more.length ((encL acc).length : Int) acc = entS (encL (acc ++ more) ++ rest) ((encL (acc ++ more)).length : Int) (acc ++ more)
  | [], acc, hn => by
    simp only [List.append_nil]
    rfl
  | x :: xs, acc, hn => by
    have hx := hn x (by simp)
    unfold Num at hx
    have hd := decS_enc (encL acc) (encL xs ++ rest) x.toNat (by omega)
    have el : encL (acc ++ x :: xs) ++ rest = encL acc ++ encS x.toNat ++ (encL xs ++ rest) := by
      rw [encL_app, encL]; simp only [List.append_assoc]
    rw [← el] at hd
    unfold fieldsS
    simp only [List.length_cons]
    rw [hd]
    dsimp only
    rw [if_pos rfl, if_neg (by omega), show ((x.toNat : Nat) : Int) = x from by omega]
    have ih := fieldsS_enc rest xs (acc ++ [x]) (by simpa using hn)
    have e1 : acc ++ [x] ++ xs = acc ++ x :: xs := by simp
    have e2 : (encL (acc ++ [x])).length = (encL acc).length + (encS x.toNat).length := by rw [encL_app]; simp [encL]
    rw [e1, e2] at ih
    exact ih
theorem body_enc (k i p m t : Int) (n : ByteArray) (h : Good k i p m t n) : fieldsS (bodyS k i p m t n) 6 0 [] = (k, i, p, m, t, n, 0) := by
  have := fieldsS_enc (bytesOf n) [k, i, p, m, t, (n.size : Int)] [] (by simpa using h.nums)
  have e : fieldsS (bodyS k i p m t n) 6 0 [] = entS (bodyS k i p m t n) ((encL [k, i, p, m, t, (n.size : Int)]).length : Int) [k, i, p, m, t, (n.size : Int)] := this
  have hlen : (bodyS k i p m t n).length = (encL [k, i, p, m, t, (n.size : Int)]).length + n.size := by unfold bodyS; rw [List.length_append, bytesOf_length]
  have hdrop : (bodyS k i p m t n).drop (encL [k, i, p, m, t, (n.size : Int)]).length = bytesOf n := by unfold bodyS; rw [List.drop_left]
  rw [e]
  unfold entS
  simp only [List.getD_cons_zero, List.getD_cons_succ]
  rw [if_neg (by omega), if_neg (by omega), if_neg (by have := (validB_parts _ _ _ _ _ _ h.v).2.1; omega), Int.toNat_natCast, hdrop, strOf_bytesOf, if_pos h.v]
theorem seg_mid (a b c : List Int) (lo hi : Int) (h0 : lo = (a.length : Int)) (h1 : hi = ((a.length + b.length : Nat) : Int)) : segOf (a ++ b ++ c) lo hi = b := by
  subst h0 h1
  unfold segOf
  rw [Int.toNat_natCast, Int.toNat_natCast, show a.length + b.length = (a ++ b).length from by simp, List.take_left, List.drop_left]
theorem decodeS_enc (k i p m t : Int) (n : ByteArray) (h : Good k i p m t n) (pre suf : List Int) :
    decodeS (pre ++ recS k i p m t n ++ suf) (pre.length : Int) = (k, i, p, m, t, n, ((pre.length + (recS k i p m t n).length : Nat) : Int), 0) := by
  have hb := body_enc k i p m t n h
  have hl := h.len
  have hby := bodyS_bytes k i p m t n
  unfold recS
  generalize bodyS k i p m t n = b at hb hl hby
  unfold recOf
  have hd := decS_enc pre (b ++ leS (crcS b) 4 ++ suf) b.length (by omega)
  have el : pre ++ (encS b.length ++ b ++ leS (crcS b) 4) ++ suf = pre ++ encS b.length ++ (b ++ leS (crcS b) 4 ++ suf) := by simp only [List.append_assoc]
  have s1 := seg_mid (pre ++ encS b.length) b (leS (crcS b) 4 ++ suf) ((pre.length + (encS b.length).length : Nat) : Int) (((pre.length + (encS b.length).length : Nat) : Int) + (b.length : Int)) (by simp) (by simp <;> omega)
  have s2 := seg_mid (pre ++ encS b.length ++ b) (leS (crcS b) 4) suf (((pre.length + (encS b.length).length : Nat) : Int) + (b.length : Int)) (((pre.length + (encS b.length).length : Nat) : Int) + (b.length : Int) + 4) (by simp; omega) (by simp [leS_len]; omega)
  rw [show pre ++ encS b.length ++ b ++ (leS (crcS b) 4 ++ suf) = pre ++ encS b.length ++ (b ++ leS (crcS b) 4 ++ suf) from by simp only [List.append_assoc]] at s1
  rw [show pre ++ encS b.length ++ b ++ leS (crcS b) 4 ++ suf = pre ++ encS b.length ++ (b ++ leS (crcS b) 4 ++ suf) from by simp only [List.append_assoc]] at s2
  rw [el]
  unfold decodeS
  rw [hd]
  dsimp only
  rw [if_pos rfl, if_neg (by omega)]
  unfold decE
  rw [s1, s2, hb]
  have hc := crcS_lt b hby
  rw [if_neg (by simp [leS_len]; omega), valS_le, if_pos (by omega), if_pos rfl]
  simp [leS_len]
  omega

/-! scanning -/
def recE (x : LE) : List Int := recS x.f0 x.f1 x.f2 x.f3 x.f4 x.f5
def GoodE (x : LE) : Prop := Good x.f0 x.f1 x.f2 x.f3 x.f4 x.f5
def recsE (E : List LE) : List Int := E.flatMap recE
theorem recE_bytes (x : LE) : Bytes (recE x) := recOf_bytes _ (bodyS_bytes _ _ _ _ _ _)
theorem recsE_bytes (E : List LE) : Bytes (recsE E) := by
  intro y hy
  obtain ⟨x, _, hx⟩ := List.mem_flatMap.1 hy
  exact recE_bytes x y hx
theorem recE_len (x : LE) (h : GoodE x) : 6 ≤ (recE x).length ∧ (recE x).length ≤ 97 := by
  have h1 := Good.len h
  have h2 := Good.pos h
  unfold recE recS
  rw [recOf_len _ (by omega)]
  omega
theorem recsE_len (E : List LE) (h : ∀ x ∈ E, GoodE x) : (recsE E).length ≤ 97 * E.length := by
  induction E with
  | nil => simp [recsE]
  | cons x xs ih =>
    have h1 := ih (fun y hy => h y (by simp [hy]))
    have h2 := recE_len x (h x (by simp))
    unfold recsE at h1 ⊢
    rw [List.flatMap_cons, List.length_append, List.length_cons]
    omega
def scanS (l : List Int) : Nat → List LE → Int → List LE × Int
  | 0, out, at_ => (out, at_)
  | f + 1, out, at_ =>
    if at_ < (l.length : Int) then
      (if (decodeS l at_).2.2.2.2.2.2.2 = 0 then (if out.length = 65536 then (out, at_) else scanS l f (out ++ [leOf (decodeS l at_)]) (decodeS l at_).2.2.2.2.2.2.1) else (out, at_))
    else (out, at_)
theorem scan_impl_l (l : List Int) (hb : Bytes l) (hl : l.length ≤ 4611686018427387904) : ∀ (f : Nat) (at_ : Int) (out : List LE), (l.length : Int) < at_ + f → out.length ≤ 65536 → Ev (fun k => commitlog_Scan.l0 k l out at_) (scanS l f out at_)
  | 0, at_, out, hf, ho => Ev.step (fun k => rfl) (Ev.neg (by omega) (Ev.pure _))
  | f + 1, at_, out, hf, ho => by
    refine Ev.step (fun k => rfl) ?_
    unfold scanS
    by_cases c1 : at_ < (l.length : Int)
    · rw [if_pos c1]
      refine Ev.pos c1 (Ev.bind (decode_impl l at_ hb hl) ?_)
      by_cases c2 : (decodeS l at_).2.2.2.2.2.2.2 = 0
      · rw [if_pos c2]
        refine Ev.pos c2 ?_
        by_cases c3 : out.length = 65536
        · rw [if_pos c3]; exact Ev.pos c3 (Ev.pure _)
        · rw [if_neg c3]
          obtain ⟨k, i, p, m, t, n, o, e, he, hd, hoe, hel, _⟩ := decodeS_ok l at_ hb c2
          rw [hd]
          exact Ev.neg c3 (Ev.pos (by omega) (scan_impl_l l hb hl f (e : Int) _ (by omega) (by simp; omega)))
      · rw [if_neg c2]; exact Ev.neg c2 (Ev.pure _)
    · rw [if_neg c1]; exact Ev.neg c1 (Ev.pure _)
theorem scan_ref_no (l : List Int) (at_ : Int) (out : List LE) : Ev (fun k => laminaref24_Scan.j1 k l out at_ false) (out, at_) := Ev.step (G := fun _ => some (out, at_)) (fun k => rfl) (Ev.pure _)
theorem scan_ref_l (l : List Int) (hb : Bytes l) (hl : l.length ≤ 4611686018427387904) : ∀ (f : Nat) (at_ : Int) (out : List LE), (l.length : Int) < at_ + f → out.length ≤ 65536 → Ev (fun k => laminaref24_Scan.l0 k l out at_) (scanS l f out at_)
  | 0, at_, out, hf, ho => Ev.step (fun k => rfl) (Ev.neg (by omega) (scan_ref_no l at_ out))
  | f + 1, at_, out, hf, ho => by
    refine Ev.step (fun k => rfl) ?_
    unfold scanS
    by_cases c1 : at_ < (l.length : Int)
    · rw [if_pos c1]
      refine Ev.pos c1 ?_
      have key : ∀ b : Bool, b = decide ((out.length : Int) < 65536) → Ev (fun k => laminaref24_Scan.j1 k l out at_ b) (if (decodeS l at_).2.2.2.2.2.2.2 = 0 then (if out.length = 65536 then (out, at_) else scanS l f (out ++ [leOf (decodeS l at_)]) (decodeS l at_).2.2.2.2.2.2.1) else (out, at_)) := by
        intro b hbb
        by_cases c3 : out.length = 65536
        · rw [if_pos c3, ite_self, show b = false from by rw [hbb]; exact decide_eq_false (by omega)]
          exact scan_ref_no l at_ out
        · have hbt : b = true := by rw [hbb]; exact decide_eq_true (by omega)
          clear hbb
          refine Ev.step (fun k => rfl) (Ev.pos hbt (Ev.bind (decode_ref l at_ hb hl) ?_))
          rw [if_neg c3]
          by_cases c2 : (decodeS l at_).2.2.2.2.2.2.2 = 0
          · rw [if_pos c2]
            refine Ev.pos c2 ?_
            obtain ⟨k, i, p, m, t, n, o, e, he, hd, hoe, hel, _⟩ := decodeS_ok l at_ hb c2
            rw [hd]
            exact Ev.pos (by omega) (scan_ref_l l hb hl f (e : Int) _ (by omega) (by simp; omega))
          · refine Ev.neg c2 ?_
            rw [if_neg c2]; exact Ev.pure _
      exact key _ rfl
    · refine Ev.neg c1 ?_
      rw [if_neg c1]; exact scan_ref_no l at_ out
/-- what scanning answers -/
def scanA (l : List Int) : List LE × Int := scanS l (l.length + 1) [] 0
theorem scan_impl (l : List Int) (hb : Bytes l) (hl : l.length ≤ 4611686018427387904) : Ev (fun k => commitlog_Scan.f k l) (scanA l) := scan_impl_l l hb hl (l.length + 1) 0 [] (by omega) (by simp)
theorem scan_ref (l : List Int) (hb : Bytes l) (hl : l.length ≤ 4611686018427387904) : Ev (fun k => laminaref24_Scan.f k l) (scanA l) := scan_ref_l l hb hl (l.length + 1) 0 [] (by omega) (by simp)
/-- what is scanned encodes to the scanned bytes -/
theorem scanS_ok (l : List Int) (hb : Bytes l) : ∀ (f : Nat) (o : Nat) (out : List LE), o ≤ l.length → out.length ≤ 65536 →
    ∃ (E : List LE) (e : Nat), scanS l f out o = (out ++ E, (e : Int)) ∧ o ≤ e ∧ e ≤ l.length ∧ (∀ x ∈ E, GoodE x) ∧ (l.take e).drop o = recsE E ∧ (out ++ E).length ≤ 65536
  | 0, o, out, ho, hlen => ⟨[], o, by simp [scanS], Nat.le_refl _, ho, fun x hx => by simp at hx, by rw [List.drop_eq_nil_of_le (by simp; omega)]; rfl, by simpa using hlen⟩
  | f + 1, o, out, ho, hlen => by
    have hstop : ∃ (E : List LE) (e : Nat), (out, (o : Int)) = (out ++ E, (e : Int)) ∧ o ≤ e ∧ e ≤ l.length ∧ (∀ x ∈ E, GoodE x) ∧ (l.take e).drop o = recsE E ∧ (out ++ E).length ≤ 65536 :=
      ⟨[], o, by simp, Nat.le_refl _, ho, fun x hx => by simp at hx, by rw [List.drop_eq_nil_of_le (by simp; omega)]; rfl, by simpa using hlen⟩
    unfold scanS
    split
    · split
      · rename_i c2
        split
        · exact hstop
        · rename_i c3
          obtain ⟨k, i, p, m, t, n, o', e, he, hd, hoe, hel, hG, hrec⟩ := decodeS_ok l o hb c2
          obtain rfl : o = o' := by omega
          rw [hd]
          obtain ⟨E, e2, hs, h1, h2, h3, h4, h5⟩ := scanS_ok l hb f e (out ++ [leOf (k, i, p, m, t, n, (e : Int), 0)]) hel (by simp; omega)
          refine ⟨leOf (k, i, p, m, t, n, (e : Int), 0) :: E, e2, by dsimp only; rw [hs]; simp, by omega, h2, ?_, ?_, by simpa using h5⟩
          · intro x hx
            rcases List.mem_cons.1 hx with rfl | hx
            · exact hG
            · exact h3 x hx
          · have : l.take e2 = l.take e ++ (l.take e2).drop e := by
              conv => lhs; rw [← List.take_append_drop e (l.take e2)]
              rw [List.take_take, Nat.min_eq_left (by omega)]
            rw [this, List.drop_append_of_le_length (by simp; omega), hrec, h4]
            rfl
      · exact hstop
    · exact hstop
theorem scanA_ok (l : List Int) (hb : Bytes l) : ∃ (E : List LE) (e : Nat), scanA l = (E, (e : Int)) ∧ e ≤ l.length ∧ (∀ x ∈ E, GoodE x) ∧ l.take e = recsE E ∧ E.length ≤ 65536 := by
  obtain ⟨E, e, h1, _, h3, h4, h5, h6⟩ := scanS_ok l hb (l.length + 1) 0 [] (by omega) (by simp)
  exact ⟨E, e, by unfold scanA; simpa using h1, h3, h4, by simpa using h5, by simpa using h6⟩
/-- records are scanned one by one -/
theorem scanS_recs (more : List Int) : ∀ (E : List LE) (f : Nat) (pre : List Int) (out : List LE), (∀ x ∈ E, GoodE x) → out.length + E.length ≤ 65536 →
    scanS (pre ++ recsE E ++ more) (f + E.length) out (pre.length : Int) = scanS (pre ++ recsE E ++ more) f (out ++ E) ((pre ++ recsE E).length : Int)
  | [], f, pre, out, hG, hl => by simp [recsE]
  | x :: xs, f, pre, out, hG, hl => by
    have hx := hG x (by simp)
    have hlen := recE_len x hx
    simp only [List.length_cons] at hl ⊢
    have hd : decodeS (pre ++ recE x ++ (recsE xs ++ more)) (pre.length : Int) = _ := decodeS_enc _ _ _ _ _ _ hx pre (recsE xs ++ more)
    have el : pre ++ recsE (x :: xs) ++ more = pre ++ recE x ++ (recsE xs ++ more) := by
      unfold recsE; rw [List.flatMap_cons]; simp only [List.append_assoc]
    rw [show f + (xs.length + 1) = (f + xs.length) + 1 from by omega]
    conv => lhs; unfold scanS
    rw [el, hd]
    dsimp only
    rw [if_pos (by simp only [List.length_append]; omega), if_pos rfl, if_neg (by omega)]
    have ih := scanS_recs more xs f (pre ++ recE x) (out ++ [x]) (fun y hy => hG y (by simp [hy])) (by simp; omega)
    rw [show pre ++ recE x ++ recsE xs ++ more = pre ++ recE x ++ (recsE xs ++ more) from by simp only [List.append_assoc]] at ih
    rw [show ((pre.length + (recS x.f0 x.f1 x.f2 x.f3 x.f4 x.f5).length : Nat) : Int) = ((pre ++ recE x).length : Int) from by rw [List.length_append]; rfl]
    have e3 : pre ++ recsE (x :: xs) = pre ++ recE x ++ recsE xs := by unfold recsE; rw [List.flatMap_cons]; simp only [List.append_assoc]
    rw [e3, show out ++ x :: xs = out ++ [x] ++ xs from by simp]
    exact ih
theorem scanA_recs (E : List LE) (more : List Int) (hG : ∀ x ∈ E, GoodE x) (hl : E.length ≤ 65536) :
    scanA (recsE E ++ more) = scanS (recsE E ++ more) ((recsE E ++ more).length + 1 - E.length) E ((recsE E).length : Int) := by
  have hle : E.length ≤ (recsE E).length := by
    clear hl
    induction E with
    | nil => simp
    | cons x xs ih =>
      have h1 := ih (fun y hy => hG y (by simp [hy]))
      have h2 := recE_len x (hG x (by simp))
      unfold recsE at h1 ⊢
      rw [List.flatMap_cons, List.length_append, List.length_cons]
      omega
  have := scanS_recs more E ((recsE E ++ more).length + 1 - E.length) [] [] hG (by simpa using hl)
  simp only [List.nil_append] at this
  rw [show (recsE E ++ more).length + 1 - E.length + E.length = (recsE E ++ more).length + 1 from by simp; omega] at this
  exact this

/-! equal lists -/
theorem equal_l (l : List LE) (hl : l.length ≤ 65536) : ∀ f i : Nat, i + f = l.length → Ev (fun k => laminaref24_Equal.l0 k l l (i : Int)) true
  | 0, i, hi => by
    have h : Ev (fun k => laminaref24_Equal.j1 k l l (i : Int) false) true := Ev.step (G := fun _ => some true) (fun k => rfl) (Ev.pure _)
    exact Ev.step (fun k => rfl) (Ev.neg (by omega) h)
  | f + 1, i, hi => by
    have key : ∀ b : Bool, b = decide ((i : Int) < (l.length : Int)) → Ev (fun k => laminaref24_Equal.j1 k l l (i : Int) b) true := by
      intro b hbb
      have hbt : b = true := by rw [hbb]; exact decide_eq_true (by omega)
      clear hbb
      refine Ev.step (fun k => rfl) (Ev.pos hbt (Ev.pos (by omega) (Ev.pos (by omega) (Ev.pos (by omega) (Ev.neg (by simp) ?_)))))
      rw [show wrap64 ((i : Int) + 1) = ((i + 1 : Nat) : Int) from by rw [w64 _ (by omega) (by omega)]; omega]
      exact equal_l l hl f (i + 1) (by omega)
    exact Ev.step (fun k => rfl) (Ev.pos (by omega) (key _ rfl))
theorem equal_same (l : List LE) (hl : l.length ≤ 65536) : Ev (fun k => laminaref24_Equal.f k l l) true := Ev.pos rfl (equal_l l hl l.length 0 (by omega))
end Go.Proofs.Ytfkgpmidcbjlbaa.U
end
section
set_option linter.unusedVariables false
set_option linter.unusedSimpArgs false
/- A directory: names and files' numbers, rising; a map in the heap that reads as one. -/
namespace Go.Proofs.Ytfkgpmidcbjlbaa.H
open Go.RowKit Go.Proofs.YtfkgpmidcbjlbaaW.PrintWords

/-- how a pointer to a file reads: as its block's number -/
def fileElem (v : Value) : Option (DataW Unit × List MemPlace) := match v with
  | .pointer (some ⟨b, 0, none⟩) => some (.lit (.int .i64 b), [])
  | _ => none
theorem fileElem_mk (b : Nat) : fileElem (.pointer (some ⟨b, 0, none⟩)) = some (.lit (.int .i64 b), []) := rfl
theorem fileElem_inv {v : Value} {y : DataW Unit × List MemPlace} (h : fileElem v = some y) : ∃ b : Nat, v = .pointer (some ⟨b, 0, none⟩) ∧ y = (.lit (.int .i64 b), []) := by
  unfold fileElem at h
  split at h
  · exact ⟨_, rfl, (Option.some.inj h).symm⟩
  · cases h
abbrev Dir := List (ByteArray × Nat)
def keyL (n : ByteArray) : Lit := .string n.data.toList
theorem keyL_inj {a b : ByteArray} (h : keyL a = keyL b) : a = b := by
  have : a.data.toList = b.data.toList := by simpa [keyL] using h
  exact ByteArray.ext (Array.toList_inj.1 this)
theorem keyL_same (a b : ByteArray) : (keyL a).sameKey (keyL b) = decide (a = b) := by
  by_cases h : a = b
  · subst h; simp [keyL, Lit.sameKey]
  · rw [decide_eq_false h]
    simp only [keyL, Lit.sameKey, beq_eq_false_iff_ne]
    intro h2
    exact h (keyL_inj (congrArg Lit.string h2))
def entL (fb : Nat → Nat) (p : ByteArray × Nat) : Lit × DataW Unit := (keyL p.1, .lit (.int .i64 (fb p.2)))
def dirD (fb : Nat → Nat) (d : Dir) : DataW Unit := .map (d.map (entL fb))
def dget (d : Dir) (n : ByteArray) : Option Nat := (d.find? fun p => decide (p.1 = n)).map (·.2)
def dins (x : ByteArray × Nat) : Dir → Dir
  | [] => [x]
  | y :: r => if (keyL x.1).before (keyL y.1) then x :: y :: r else y :: dins x r
def ddel (d : Dir) (n : ByteArray) : Dir := d.filter fun p => !decide (p.1 = n)
def dput (d : Dir) (n : ByteArray) (i : Nat) : Dir := dins (n, i) (ddel d n)
theorem dins_map (fb : Nat → Nat) (x : ByteArray × Nat) (d : Dir) : (dins x d).map (entL fb) = DataW.insert (entL fb x) (d.map (entL fb)) := by
  induction d with
  | nil => rfl
  | cons y r ih =>
    unfold dins
    rw [List.map_cons, DataW.insert]
    show List.map (entL fb) (if (keyL x.1).before (keyL y.1) = true then _ else _) = if (keyL x.1).before (keyL y.1) = true then _ else _
    split
    · rfl
    · rw [List.map_cons, ih]
theorem filter_map (fb : Nat → Nat) (d : Dir) (n : ByteArray) : (d.map (entL fb)).filter (fun p => !p.1.sameKey (keyL n)) = (ddel d n).map (entL fb) := by
  unfold ddel
  rw [List.filter_map]
  congr 1
  refine List.filter_congr fun p _ => ?_
  show (!(keyL p.1).sameKey (keyL n)) = _
  rw [keyL_same]
theorem dirD_put (fb : Nat → Nat) (d : Dir) (n : ByteArray) (i : Nat) : (dirD fb d).put (keyL n) (.lit (.int .i64 (fb i))) = dirD fb (dput d n i) := by
  show DataW.map (DataW.insert (keyL n, .lit (.int .i64 (fb i))) ((d.map (entL fb)).filter fun p => !p.1.sameKey (keyL n))) = DataW.map ((dput d n i).map (entL fb))
  unfold dput
  rw [filter_map, dins_map]
  rfl
theorem dirD_del (fb : Nat → Nat) (d : Dir) (n : ByteArray) : (dirD fb d).del (keyL n) = dirD fb (ddel d n) := by
  show DataW.map ((d.map (entL fb)).filter fun p => !p.1.sameKey (keyL n)) = DataW.map ((ddel d n).map (entL fb))
  rw [filter_map]
theorem dirD_at (fb : Nat → Nat) (d : Dir) (n : ByteArray) (z : DataW Unit) : (dirD fb d).atKey (keyL n) z = match dget d n with | some i => .lit (.int .i64 (fb i)) | none => z := by
  unfold DataW.atKey dirD
  dsimp only
  unfold dget
  rw [List.find?_map]
  have : ((fun p : Lit × DataW Unit => p.1.sameKey (keyL n)) ∘ entL fb) = fun p => decide (p.1 = n) := by
    funext p
    exact keyL_same p.1 n
  rw [this]
  cases d.find? fun p => decide (p.1 = n) <;> rfl
theorem dirD_has (fb : Nat → Nat) (d : Dir) (n : ByteArray) : Maps.has (dirD fb d) (keyL n) = (dget d n).isSome := by
  unfold dirD dget
  rw [Maps.has_eq, List.any_map]
  have : ((fun p : Lit × DataW Unit => p.1.sameKey (keyL n)) ∘ entL fb) = fun p => decide (p.1 = n) := by
    funext p
    exact keyL_same p.1 n
  rw [this, Option.isSome_map, Bool.eq_iff_iff, List.find?_isSome, List.any_eq_true]
theorem dirD_size (fb : Nat → Nat) (d : Dir) : Maps.size (dirD fb d) = d.length := by simp [dirD, Maps.size]
theorem dirD_congr (fb fb' : Nat → Nat) (d : Dir) (h : ∀ p ∈ d, fb' p.2 = fb p.2) : dirD fb' d = dirD fb d := by
  unfold dirD
  congr 1
  refine List.map_congr_left fun p hp => ?_
  unfold entL
  rw [h p hp]

/-- block m is a map that reads as d -/
def HasDir (w : World) (m : Nat) (fb : Nat → Nat) (d : Dir) : Prop := w.ownsMap Try.prog 9 fileElem m d.length (dirD fb d)
theorem HasDir.of {w : World} {m : Nat} {fb : Nat → Nat} {d : Dir} {n : Nat} (h : w.ownsMap Try.prog 9 fileElem m n (dirD fb d)) : HasDir w m fb d := by
  obtain ⟨es, clock, hb, F, hs, hD⟩ := h
  refine ⟨es, clock, hb, F, ?_, hD⟩
  have := dirD_size fb d
  rw [hD] at this
  simp only [Maps.size, length_sorted] at this
  simp at this
  omega
theorem HasDir.move {w w' : World} {m : Nat} {fb : Nat → Nat} {d : Dir} (h : HasDir w m fb d) (hm : w'.heap[m]? = w.heap[m]?) : HasDir w' m fb d := by
  obtain ⟨es, clock, hb, r⟩ := h
  exact ⟨es, clock, hm.trans hb, r⟩
theorem HasDir.congr {w : World} {m : Nat} {fb fb' : Nat → Nat} {d : Dir} (h : HasDir w m fb d) (he : ∀ p ∈ d, fb' p.2 = fb p.2) : HasDir w m fb' d := by
  unfold HasDir at h ⊢
  rw [dirD_congr fb fb' d he]
  exact h
theorem HasDir.lt {w : World} {m : Nat} {fb : Nat → Nat} {d : Dir} (h : HasDir w m fb d) : m < w.heap.size := World.ownsMap.lt h
theorem keyed : Go.Maps.Keyed Try.prog 9 := Go.Maps.string_keyed Try.underlying9
theorem key_mk {n : ByteArray} (h : n.size ≤ maxLen) : keyOf Try.prog 9 (.string n) = some (keyL n) := Go.WideMaps.keyOf_string_mk Try.underlying9 h
theorem key_inv {v : Value} {kl : Lit} (h : keyOf Try.prog 9 v = some kl) : ∃ n : ByteArray, v = .string n ∧ kl = keyL n ∧ n.size ≤ maxLen := by
  rw [keyOf_string Try.underlying9] at h
  cases v <;> simp [mapKey, Try.underlying9] at h
  exact ⟨_, rfl, h.2.symm, h.1⟩
/-- the entries of a map rise -/
def Rising (d : Dir) : Prop := DataW.rising (d.map (entL id)) = true
theorem rising_fb (fb : Nat → Nat) : ∀ d : Dir, DataW.rising (d.map (entL fb)) = DataW.rising (d.map (entL id))
  | [] => rfl
  | [x] => rfl
  | x :: y :: r => by
    have ih := rising_fb fb (y :: r)
    simp only [List.map_cons] at ih ⊢
    unfold DataW.rising
    rw [ih]; rfl
theorem HasDir.rising {w : World} {m : Nat} {fb : Nat → Nat} {d : Dir} (h : HasDir w m fb d) : Rising d := by
  obtain ⟨es, clock, _, F, _, hD⟩ := h
  have := Go.Maps.fit_rising keyed F
  unfold Rising
  rw [← rising_fb fb]
  unfold dirD at hD
  rw [DataW.map.injEq] at hD
  rw [hD]; exact this

theorem zero87 (w : World) : (zeroValue 87).run Try.prog w = .ok (.pointer none) w := by kernel_rfl
/-- what 'v, ok := m[k]' gives -/
def lookV (fb : Nat → Nat) : Option Nat → Value
  | none => .tuple #[.pointer none, .bool false]
  | some i => .tuple #[.pointer (some ⟨fb i, 0, none⟩), .bool true]
theorem HasDir.look {w : World} {m : Nat} {fb : Nat → Nat} {d : Dir} (h : HasDir w m fb d) {n : ByteArray} (hn : n.size ≤ maxLen) :
    (Instr.lookup 76 (.map (some m)) (.string n) true).run Try.prog w = .ok (lookV fb (dget d n)) w := by
  obtain ⟨es, clock, hb, F, _, hD⟩ := h
  have hz : (zeroValue 87).run Try.prog w = .ok (.pointer none) w := zero87 w
  rcases Go.Maps.fit_look true keyed Try.underlying76 hz hb F (key_mk hn) with ⟨hrun, _, hat⟩ | ⟨e0, y, _, _, hrun, hR, hat, _⟩
  · have h1 := Maps.has_false_of_atKey hat
    rw [← hD, dirD_has] at h1
    have h2 : dget d n = none := Option.not_isSome_iff_eq_none.1 (by rw [h1]; decide)
    rw [h2]
    exact hrun
  · rw [← hD] at hat
    obtain ⟨b, hv, rfl⟩ := fileElem_inv hR
    have h1 := hat .nil
    rw [dirD_at] at h1
    cases hg : dget d n with
    | none => rw [hg] at h1; cases h1
    | some i =>
      rw [hg] at h1
      simp only [DataW.lit.injEq, Lit.int.injEq, true_and] at h1
      have h2 : fb i = b := by omega
      rw [hv, ← h2] at hrun
      exact hrun
/-- 'm[k]' at a name that is there -/
theorem HasDir.look1 {w : World} {m : Nat} {fb : Nat → Nat} {d : Dir} (h : HasDir w m fb d) {n : ByteArray} (hn : n.size ≤ maxLen) {i : Nat} (hi : dget d n = some i) :
    (Instr.lookup 76 (.map (some m)) (.string n) false).run Try.prog w = .ok (.pointer (some ⟨fb i, 0, none⟩)) w := by
  obtain ⟨es, clock, hb, F, _, hD⟩ := h
  have hz : (zeroValue 87).run Try.prog w = .ok (.pointer none) w := zero87 w
  rcases Go.Maps.fit_look false keyed Try.underlying76 hz hb F (key_mk hn) with ⟨hrun, _, hat⟩ | ⟨e0, y, _, _, hrun, hR, hat, _⟩
  · have h1 := Maps.has_false_of_atKey hat
    rw [← hD, dirD_has, hi] at h1
    cases h1
  · rw [← hD] at hat
    obtain ⟨b, hv, rfl⟩ := fileElem_inv hR
    have h1 := hat .nil
    rw [dirD_at, hi] at h1
    simp only [DataW.lit.injEq, Lit.int.injEq, true_and] at h1
    have h2 : fb i = b := by omega
    rw [hv] at hrun
    rw [h2]
    exact hrun
section
variable (w : World) {ops : Array Oper} {rest : List Oper} {o : Oper} {a : Act} {Q : Exit → Act → World → Prop}
theorem wpList_look_dir (hg : o.guard = none) (m x : Operand) (hop : o.op = Op.lookup 76 m x true) (b : Nat) (fb : Nat → Nat) (d : Dir) (n : ByteArray) (hm : a.eval m = .map (some b)) (hx : a.eval x = .string n)
    (h : HasDir w b fb d) (hn : n.size ≤ maxLen) (g : Option Nat) (hgt : dget d n = g) (hK : wpList Try.prog ops Q rest (a.put o.dst (lookV fb g)) w) : wpList Try.prog ops Q (o :: rest) a w := by
  refine wpList_plain hg fun K' hK' => ?_
  have hrun := h.look hn
  rw [hgt] at hrun
  unfold Oper.wp
  simp [execOp, hop, hm, hx, hrun, Result.andThen]
  exact hK' _ _ hK
theorem wpList_look1_dir (hg : o.guard = none) (m x : Operand) (hop : o.op = Op.lookup 76 m x false) (b : Nat) (fb : Nat → Nat) (d : Dir) (n : ByteArray) (hm : a.eval m = .map (some b)) (hx : a.eval x = .string n)
    (h : HasDir w b fb d) (hn : n.size ≤ maxLen) (i : Nat) (hgt : dget d n = some i) (hK : wpList Try.prog ops Q rest (a.put o.dst (.pointer (some ⟨fb i, 0, none⟩))) w) : wpList Try.prog ops Q (o :: rest) a w := by
  refine wpList_plain hg fun K' hK' => ?_
  have hrun := h.look1 hn hgt
  unfold Oper.wp
  simp [execOp, hop, hm, hx, hrun, Result.andThen]
  exact hK' _ _ hK
theorem wpList_put_dir (hg : o.guard = none) (m x v : Operand) (hop : o.op = Op.mapUpdate 76 m x v) (b : Nat) (fb : Nat → Nat) (d : Dir) (n : ByteArray) (i : Nat) (hm : a.eval m = .map (some b)) (hx : a.eval x = .string n) (hv : a.eval v = .pointer (some ⟨fb i, 0, none⟩))
    (h : HasDir w b fb d) (hn : n.size ≤ maxLen) (hroom : d.length < maxLen) (hK : ∀ w', HasDir w' b fb (dput d n i) → w.mapTurned w' b → wpList Try.prog ops Q rest (a.put o.dst undef) w') : wpList Try.prog ops Q (o :: rest) a w :=
  wpList_mapUpdate_in w hg m x v _ hop 9 87 keyed Try.underlying76 fileElem b d.length (dirD fb d) hm h hroom _ _ (keyL n) hx hv (key_mk hn) (.lit (.int .i64 (fb i))) [] (fileElem_mk _)
    (fun w' h1 h2 => by rw [dirD_put] at h1; exact hK w' (HasDir.of h1) h2)
theorem wpList_del_dir (hg : o.guard = none) (m x : Operand) (hop : o.op = Op.call { callee := Callee.builtin Builtin.delete, args := #[m, x], argTypes := #[76, 9] }) (b : Nat) (fb : Nat → Nat) (d : Dir) (n : ByteArray) (hm : a.eval m = .map (some b)) (hx : a.eval x = .string n)
    (h : HasDir w b fb d) (hn : n.size ≤ maxLen) (hK : ∀ w', HasDir w' b fb (ddel d n) → w.mapTurned w' b → wpList Try.prog ops Q rest (a.put o.dst (.tuple #[])) w') : wpList Try.prog ops Q (o :: rest) a w :=
  wpList_delete_own w hg m x _ _ hop 87 keyed Try.underlying76 fileElem b d.length (dirD fb d) hm h _ (keyL n) hx (key_mk hn)
    (fun w' h1 h2 => by rw [dirD_del] at h1; exact hK w' (HasDir.of h1) h2)
end
end Go.Proofs.Ytfkgpmidcbjlbaa.H
end
section
set_option linter.unusedVariables false
set_option linter.unusedSimpArgs false
/- The simulated disk: its state, and how it lies in the heap. -/
namespace Go.Proofs.Ytfkgpmidcbjlbaa.H
open Go.RowKit Go.Proofs.YtfkgpmidcbjlbaaW.PrintWords

/-- a file: its bytes, how many of them are durable -/
structure Fl where
  data : List Int
  dur : Nat
/-- a pending operation on the directory -/
inductive Opn where
  | create (n : ByteArray) (i : Nat)
  | rename (a b : ByteArray)
  | remove (a : ByteArray)
structure St where
  files : List Fl
  cur : Dir
  dur : Dir
  pend : List Opn
  lim : Bool
  left : Int
def opRow (fb : Nat → Nat) : Opn → List Value
  | .create n i => [.int .i64 0, .string ⟨#[]⟩, .string n, .pointer (some ⟨fb i, 0, none⟩)]
  | .rename a b => [.int .i64 1, .string a, .string b, .pointer none]
  | .remove a => [.int .i64 2, .string a, .string ⟨#[]⟩, .pointer none]
def applyS (c : Dir) : Opn → Dir
  | .create n i => dput c n i
  | .rename a b => match dget c a with
    | some i => dput (ddel c a) b i
    | none => c
  | .remove a => ddel c a

/-- the disk in block d; fb, fv: each file's block and its bytes' slice -/
structure Disk (w : World) (d : Nat) (σ : St) (S : Nat → Prop) (fb : Nat → Nat) (fv : Nat → Value) (mc md : Nat) (pv : Value) : Prop where
  blk : w.heap[d]? = some (.cells #[.map (some mc), .map (some md), pv, .bool σ.lim, .int .i64 σ.left] 79 (0, 0))
  cur : HasDir w mc fb σ.cur
  dur : HasDir w md fb σ.dur
  ne : mc ≠ md
  pend : (Kd.raw 4).R 89 w 0 (fun k => some k = pv.ownBlock) pv (σ.pend.map (opRow fb))
  file : ∀ i f, σ.files[i]? = some f → w.heap[fb i]? = some (.cells #[fv i, .int .i64 (f.dur : Nat)] 94 (0, 0))
  row : ∀ i f, σ.files[i]? = some f → (Kd.int .u8).R 5 w 0 (fun k => some k = (fv i).ownBlock) (fv i) f.data
  inj : ∀ i j, i < σ.files.length → j < σ.files.length → fb i = fb j → i = j
  apart : ∀ i j k, i < σ.files.length → j < σ.files.length → (fv i).ownBlock = some k → (fv j).ownBlock = some k → i = j
  sd : S d
  sc : S mc
  sr : S md
  sp : ∀ k, pv.ownBlock = some k → S k
  sf : ∀ i, i < σ.files.length → S (fb i)
  sv : ∀ i k, i < σ.files.length → (fv i).ownBlock = some k → S k
  lt : ∀ k, S k → k < w.heap.size
def DiskAt (w : World) (d : Nat) (σ : St) (S : Nat → Prop) : Prop := ∃ fb fv mc md pv, Disk w d σ S fb fv mc md pv

theorem row_move {α : Type} {k : Kd α} {e base : Nat} {w w1 : World} {v : Value} {xs : List α} (h : k.R e w base (fun k => some k = v.ownBlock) v xs) (hm : ∀ j, v.ownBlock = some j → w1.heap[j]? = w.heap[j]?) : k.R e w1 base (fun k => some k = v.ownBlock) v xs :=
  Kd.R_step h (fun j hj _ => hm j hj.symm)
theorem row_typed {α : Type} {k : Kd α} {e base : Nat} {w : World} {ok : Nat → Prop} {v : Value} {xs : List α} (h : k.R e w base ok v xs) {j : Nat} (hj : v.ownBlock = some j) : ∃ cells, w.heap[j]? = some (.cells cells e (0, 0)) := by
  obtain ⟨inner, ho⟩ := Kd.R_own h
  exact own_typed ho j hj
section
variable {w w' : World} {d : Nat} {σ : St} {S : Nat → Prop} {fb : Nat → Nat} {fv : Nat → Value} {mc md : Nat} {pv : Value}
theorem Disk.idx (_ : Disk w d σ S fb fv mc md pv) {i : Nat} (hi : i < σ.files.length) : ∃ f, σ.files[i]? = some f := ⟨_, List.getElem?_eq_getElem hi⟩
theorem Disk.ne_cur (h : Disk w d σ S fb fv mc md pv) {k : Nat} {cells : Array Value} {t : TypeId} {fr : Nat × Nat} (hk : w.heap[k]? = some (.cells cells t fr)) : k ≠ mc := by
  rintro rfl
  obtain ⟨es, c, hb, _⟩ := h.cur
  rw [hb] at hk; cases hk
theorem Disk.ne_dur (h : Disk w d σ S fb fv mc md pv) {k : Nat} {cells : Array Value} {t : TypeId} {fr : Nat × Nat} (hk : w.heap[k]? = some (.cells cells t fr)) : k ≠ md := by
  rintro rfl
  obtain ⟨es, c, hb, _⟩ := h.dur
  rw [hb] at hk; cases hk
theorem ne_type {k j : Nat} {a b : Array Value} {t u : TypeId} {p q : Nat × Nat} (h1 : w.heap[k]? = some (.cells a t p)) (h2 : w.heap[j]? = some (.cells b u q)) (hne : t ≠ u) : k ≠ j := by
  rintro rfl
  rw [h1] at h2
  injection h2 with h2
  injection h2 with _ h3
  exact hne h3
theorem Disk.pend_ty (h : Disk w d σ S fb fv mc md pv) {k : Nat} (hk : pv.ownBlock = some k) : ∃ c, w.heap[k]? = some (.cells c 89 (0, 0)) := row_typed h.pend hk
theorem Disk.row_ty (h : Disk w d σ S fb fv mc md pv) {i k : Nat} (hi : i < σ.files.length) (hk : (fv i).ownBlock = some k) : ∃ c, w.heap[k]? = some (.cells c 5 (0, 0)) := by
  obtain ⟨f, hf⟩ := h.idx hi
  exact row_typed (h.row i f hf) hk
/-- nothing of the disk has turned -/
theorem Disk.move (h : Disk w d σ S fb fv mc md pv) (hs : w.heap.size ≤ w'.heap.size) (hm : ∀ k, S k → w'.heap[k]? = w.heap[k]?) : Disk w' d σ S fb fv mc md pv where
  blk := (hm d h.sd).trans h.blk
  cur := h.cur.move (hm mc h.sc)
  dur := h.dur.move (hm md h.sr)
  ne := h.ne
  pend := row_move h.pend (fun j hj => hm j (h.sp j hj))
  file := fun i f hf => (hm _ (h.sf i (List.getElem?_eq_some_iff.1 hf).1)).trans (h.file i f hf)
  row := fun i f hf => row_move (h.row i f hf) (fun j hj => hm j (h.sv i j (List.getElem?_eq_some_iff.1 hf).1 hj))
  inj := h.inj
  apart := h.apart
  sd := h.sd
  sc := h.sc
  sr := h.sr
  sp := h.sp
  sf := h.sf
  sv := h.sv
  lt := fun k hk => Nat.lt_of_lt_of_le (h.lt k hk) hs
/-- the two numbers have been written -/
theorem Disk.scalar (h : Disk w d σ S fb fv mc md pv) (hs : w.heap.size ≤ w'.heap.size) (hm : ∀ k, S k → k ≠ d → w'.heap[k]? = w.heap[k]?) (lim : Bool) (left : Int)
    (hb : w'.heap[d]? = some (.cells #[.map (some mc), .map (some md), pv, .bool lim, .int .i64 left] 79 (0, 0))) : Disk w' d { σ with lim := lim, left := left } S fb fv mc md pv where
  blk := hb
  cur := h.cur.move (hm mc h.sc (h.ne_cur h.blk).symm)
  dur := h.dur.move (hm md h.sr (h.ne_dur h.blk).symm)
  ne := h.ne
  pend := row_move h.pend (fun j hj => hm j (h.sp j hj) (by obtain ⟨c, hc⟩ := h.pend_ty hj; exact ne_type hc h.blk (by decide)))
  file := fun i f hf => (hm _ (h.sf i (List.getElem?_eq_some_iff.1 hf).1) (ne_type (h.file i f hf) h.blk (by decide))).trans (h.file i f hf)
  row := fun i f hf => row_move (h.row i f hf) (fun j hj => hm j (h.sv i j (List.getElem?_eq_some_iff.1 hf).1 hj) (by obtain ⟨c, hc⟩ := h.row_ty (List.getElem?_eq_some_iff.1 hf).1 hj; exact ne_type hc h.blk (by decide)))
  inj := h.inj
  apart := h.apart
  sd := h.sd
  sc := h.sc
  sr := h.sr
  sp := h.sp
  sf := h.sf
  sv := h.sv
  lt := fun k hk => Nat.lt_of_lt_of_le (h.lt k hk) hs
/-- the directory has turned -/
theorem Disk.turnCur (h : Disk w d σ S fb fv mc md pv) (hs : w.heap.size ≤ w'.heap.size) (hm : ∀ k, S k → k ≠ mc → w'.heap[k]? = w.heap[k]?) (c : Dir) (hc : HasDir w' mc fb c) : Disk w' d { σ with cur := c } S fb fv mc md pv where
  blk := (hm d h.sd (h.ne_cur h.blk)).trans h.blk
  cur := hc
  dur := h.dur.move (hm md h.sr h.ne.symm)
  ne := h.ne
  pend := row_move h.pend (fun j hj => hm j (h.sp j hj) (by obtain ⟨c, hc⟩ := h.pend_ty hj; exact h.ne_cur hc))
  file := fun i f hf => (hm _ (h.sf i (List.getElem?_eq_some_iff.1 hf).1) (h.ne_cur (h.file i f hf))).trans (h.file i f hf)
  row := fun i f hf => row_move (h.row i f hf) (fun j hj => hm j (h.sv i j (List.getElem?_eq_some_iff.1 hf).1 hj) (by obtain ⟨c, hc⟩ := h.row_ty (List.getElem?_eq_some_iff.1 hf).1 hj; exact h.ne_cur hc))
  inj := h.inj
  apart := h.apart
  sd := h.sd
  sc := h.sc
  sr := h.sr
  sp := h.sp
  sf := h.sf
  sv := h.sv
  lt := fun k hk => Nat.lt_of_lt_of_le (h.lt k hk) hs
/-- the list of pending operations has turned -/
theorem Disk.turnPend (h : Disk w d σ S fb fv mc md pv) (hs : w.heap.size ≤ w'.heap.size) (pv' : Value) (hat : pv'.ownBlock = pv.ownBlock ∨ pv'.ownBlock = none ∨ ∃ b, pv'.ownBlock = some b ∧ w.heap.size ≤ b ∧ b < w'.heap.size) (hm : ∀ k, S k → k ≠ d → some k ≠ pv.ownBlock → w'.heap[k]? = w.heap[k]?)
    (hb : w'.heap[d]? = some (.cells #[.map (some mc), .map (some md), pv', .bool σ.lim, .int .i64 σ.left] 79 (0, 0))) (p : List Opn) (hr : (Kd.raw 4).R 89 w' 0 (fun k => some k = pv'.ownBlock) pv' (p.map (opRow fb))) :
    Disk w' d { σ with pend := p } (fun k => S k ∨ (w.heap.size ≤ k ∧ k < w'.heap.size)) fb fv mc md pv' := by
  have hmm : ∀ k, S k → k ≠ d → (∀ c, w.heap[k]? ≠ some (.cells c 89 (0, 0))) → w'.heap[k]? = w.heap[k]? := fun k hk hd hn => hm k hk hd (fun he => by
    obtain ⟨c, hc⟩ := h.pend_ty he.symm
    exact hn c hc)
  have hno : ∀ {k : Nat} {c : Array Value} {t : TypeId} {fr : Nat × Nat}, w.heap[k]? = some (Obj.cells c t fr) → t ≠ 89 → ∀ c' : Array Value, w.heap[k]? ≠ some (Obj.cells c' 89 (0, 0)) := fun h1 hne c' h2 => ne_type h1 h2 hne rfl
  exact {
    blk := hb
    cur := h.cur.move (hmm mc h.sc (h.ne_cur h.blk).symm (fun c hc => h.ne_cur hc rfl))
    dur := h.dur.move (hmm md h.sr (h.ne_dur h.blk).symm (fun c hc => h.ne_dur hc rfl))
    ne := h.ne
    pend := hr
    file := fun i f hf => (hmm _ (h.sf i (List.getElem?_eq_some_iff.1 hf).1) (ne_type (h.file i f hf) h.blk (by decide)) (hno (h.file i f hf) (by decide))).trans (h.file i f hf)
    row := fun i f hf => row_move (h.row i f hf) (fun j hj => by
      obtain ⟨c, hc⟩ := h.row_ty (List.getElem?_eq_some_iff.1 hf).1 hj
      exact hmm j (h.sv i j (List.getElem?_eq_some_iff.1 hf).1 hj) (ne_type hc h.blk (by decide)) (hno hc (by decide)))
    inj := h.inj
    apart := h.apart
    sd := .inl h.sd
    sc := .inl h.sc
    sr := .inl h.sr
    sp := fun k hk => by
      rcases hat with hat | hat | ⟨b, hat, hle, hlt⟩
      · exact .inl (h.sp k (hat ▸ hk))
      · rw [hat] at hk; cases hk
      · rw [hat] at hk; cases hk; exact .inr ⟨hle, hlt⟩
    sf := fun i hi => .inl (h.sf i hi)
    sv := fun i k hi hk => .inl (h.sv i k hi hk)
    lt := fun k hk => by
      rcases hk with hk | hk
      · exact Nat.lt_of_lt_of_le (h.lt k hk) hs
      · exact hk.2 }
/-- one file has turned -/
theorem Disk.turnFile (h : Disk w d σ S fb fv mc md pv) (hs : w.heap.size ≤ w'.heap.size) (i : Nat) (hi : i < σ.files.length) (v' : Value) (f' : Fl) (hat : v'.ownBlock = (fv i).ownBlock ∨ ∃ b, v'.ownBlock = some b ∧ w.heap.size ≤ b ∧ b < w'.heap.size) (hm : ∀ k, S k → k ≠ fb i → some k ≠ (fv i).ownBlock → w'.heap[k]? = w.heap[k]?)
    (hb : w'.heap[fb i]? = some (.cells #[v', .int .i64 (f'.dur : Nat)] 94 (0, 0))) (hr : (Kd.int .u8).R 5 w' 0 (fun k => some k = v'.ownBlock) v' f'.data) :
    Disk w' d { σ with files := σ.files.set i f' } (fun k => S k ∨ (w.heap.size ≤ k ∧ k < w'.heap.size)) fb (fun j => if j = i then v' else fv j) mc md pv := by
  obtain ⟨f, hf⟩ := h.idx hi
  have hfi := h.file i f hf
  have hmm : ∀ k, S k → k ≠ fb i → (∀ c, w.heap[k]? ≠ some (.cells c 5 (0, 0))) → w'.heap[k]? = w.heap[k]? := fun k hk hd hn => hm k hk hd (fun he => by
    obtain ⟨c, hc⟩ := h.row_ty hi he.symm
    exact hn c hc)
  have hno : ∀ {k : Nat} {c : Array Value} {t : TypeId} {fr : Nat × Nat}, w.heap[k]? = some (Obj.cells c t fr) → t ≠ 5 → ∀ c' : Array Value, w.heap[k]? ≠ some (Obj.cells c' 5 (0, 0)) := fun h1 hne c' h2 => ne_type h1 h2 hne rfl
  have hlen : (σ.files.set i f').length = σ.files.length := List.length_set
  exact {
    blk := (hmm d h.sd (ne_type h.blk hfi (by decide)) (hno h.blk (by decide))).trans h.blk
    cur := h.cur.move (hmm mc h.sc (h.ne_cur hfi).symm (fun c hc => h.ne_cur hc rfl))
    dur := h.dur.move (hmm md h.sr (h.ne_dur hfi).symm (fun c hc => h.ne_dur hc rfl))
    ne := h.ne
    pend := row_move h.pend (fun j hj => by
      obtain ⟨c, hc⟩ := h.pend_ty hj
      exact hmm j (h.sp j hj) (ne_type hc hfi (by decide)) (hno hc (by decide)))
    file := fun j g hg => by
      by_cases hj : j = i
      · subst hj
        rw [List.getElem?_set_self hi] at hg
        obtain rfl := Option.some.inj hg
        rw [if_pos rfl]; exact hb
      · rw [List.getElem?_set_ne (Ne.symm hj)] at hg
        rw [if_neg hj]
        have hjl := (List.getElem?_eq_some_iff.1 hg).1
        exact (hmm _ (h.sf j hjl) (fun e => hj (h.inj j i hjl hi e)) (hno (h.file j g hg) (by decide))).trans (h.file j g hg)
    row := fun j g hg => by
      by_cases hj : j = i
      · subst hj
        rw [List.getElem?_set_self hi] at hg
        obtain rfl := Option.some.inj hg
        simp only [if_true]; exact hr
      · rw [List.getElem?_set_ne (Ne.symm hj)] at hg
        simp only [if_neg hj]
        have hjl := (List.getElem?_eq_some_iff.1 hg).1
        refine row_move (h.row j g hg) (fun k hk => ?_)
        obtain ⟨c, hc⟩ := h.row_ty hjl hk
        exact hm k (h.sv j k hjl hk) (ne_type hc hfi (by decide)) (fun e => hj (h.apart j i k hjl hi hk e.symm))
    inj := fun a b ha hb => h.inj a b (hlen ▸ ha) (hlen ▸ hb)
    apart := fun a b k ha hb hka hkb => by
      have ha' : a < σ.files.length := hlen ▸ ha
      have hb' : b < σ.files.length := hlen ▸ hb
      have hold : ∀ j, j < σ.files.length → (fv j).ownBlock = some k → v'.ownBlock = some k → j = i := fun j hj h1 h2 => by
        rcases hat with hat | ⟨x, hat, hle, _⟩
        · exact h.apart j i k hj hi h1 (hat ▸ h2)
        · rw [hat] at h2; cases h2
          have := h.lt k (h.sv j k hj h1)
          omega
      by_cases ea : a = i
      · by_cases eb : b = i
        · rw [ea, eb]
        · rw [if_pos ea] at hka; rw [if_neg eb] at hkb
          exact absurd (hold b hb' hkb hka) eb
      · rw [if_neg ea] at hka
        by_cases eb : b = i
        · rw [if_pos eb] at hkb
          exact absurd (hold a ha' hka hkb) ea
        · rw [if_neg eb] at hkb
          exact h.apart a b k ha' hb' hka hkb
    sd := .inl h.sd
    sc := .inl h.sc
    sr := .inl h.sr
    sp := fun k hk => .inl (h.sp k hk)
    sf := fun j hj => .inl (h.sf j (hlen ▸ hj))
    sv := fun j k hj hk => by
      have hj' : j < σ.files.length := hlen ▸ hj
      by_cases e : j = i
      · rw [if_pos e] at hk
        rcases hat with hat | ⟨x, hat, hle, hlt⟩
        · exact .inl (h.sv i k hi (hat ▸ hk))
        · rw [hat] at hk; cases hk; exact .inr ⟨hle, hlt⟩
      · rw [if_neg e] at hk
        exact .inl (h.sv j k hj' hk)
    lt := fun k hk => by
      rcases hk with hk | hk
      · exact Nat.lt_of_lt_of_le (h.lt k hk) hs
      · exact hk.2 }
/-- all names lead to files -/
structure St.Ok (σ : St) : Prop where
  cur : ∀ p ∈ σ.cur, p.2 < σ.files.length
  dur : ∀ p ∈ σ.dur, p.2 < σ.files.length
  pend : ∀ n i, Opn.create n i ∈ σ.pend → i < σ.files.length
/-- a new file -/
theorem Disk.newFile (h : Disk w d σ S fb fv mc md pv) (ok : σ.Ok) (hs : w.heap.size ≤ w'.heap.size) (hm : ∀ k, S k → w'.heap[k]? = w.heap[k]?) (b : Nat) (hle : w.heap.size ≤ b) (hlt : b < w'.heap.size)
    (hb : w'.heap[b]? = some (.cells #[.slice none 0 0, .int .i64 0] 94 (0, 0))) :
    Disk w' d { σ with files := σ.files ++ [⟨[], 0⟩] } (fun k => S k ∨ (w.heap.size ≤ k ∧ k < w'.heap.size)) (fun j => if j = σ.files.length then b else fb j) (fun j => if j = σ.files.length then .slice none 0 0 else fv j) mc md pv := by
  have h' := h.move hs hm
  have hidx : ∀ j g, (σ.files ++ [(⟨[], 0⟩ : Fl)])[j]? = some g → (j = σ.files.length ∧ g = ⟨[], 0⟩) ∨ (j ≠ σ.files.length ∧ σ.files[j]? = some g) := fun j g hg => by
    by_cases e : j = σ.files.length
    · subst e
      rw [List.getElem?_append_right (Nat.le_refl _), Nat.sub_self] at hg
      exact .inl ⟨rfl, (Option.some.inj hg).symm⟩
    · have hl := (List.getElem?_eq_some_iff.1 hg).1
      rw [List.length_append] at hl
      simp only [List.length_cons, List.length_nil] at hl
      rw [List.getElem?_append_left (by omega)] at hg
      exact .inr ⟨e, hg⟩
  have hll : (σ.files ++ [(⟨[], 0⟩ : Fl)]).length = σ.files.length + 1 := by simp
  exact {
    blk := h'.blk
    cur := h'.cur.congr (fun p hp => by have := ok.cur p hp; rw [if_neg (by omega)])
    dur := h'.dur.congr (fun p hp => by have := ok.dur p hp; rw [if_neg (by omega)])
    ne := h.ne
    pend := by
      have : σ.pend.map (opRow fun j => if j = σ.files.length then b else fb j) = σ.pend.map (opRow fb) := by
        refine List.map_congr_left fun o ho => ?_
        cases o with
        | create n i => have := ok.pend n i ho; simp only [opRow]; rw [if_neg (by omega)]
        | rename _ _ => rfl
        | remove _ => rfl
      show (Kd.raw 4).R _ _ _ _ _ (σ.pend.map _)
      rw [this]; exact h'.pend
    file := fun j g hg => by
      rcases hidx j g hg with ⟨rfl, rfl⟩ | ⟨e, hg⟩
      · simp only [if_true]; exact hb
      · simp only [if_neg e]; exact h'.file j g hg
    row := fun j g hg => by
      rcases hidx j g hg with ⟨rfl, rfl⟩ | ⟨e, hg⟩
      · simp only [if_true]; exact Kd.R_nil _ _ _ _ _
      · simp only [if_neg e]; exact h'.row j g hg
    inj := fun x y hx hy he => by
      simp only [hll] at hx hy
      by_cases ex : x = σ.files.length
      · by_cases ey : y = σ.files.length
        · rw [ex, ey]
        · rw [if_pos ex, if_neg ey] at he
          have := h.lt _ (h.sf y (by omega)); omega
      · by_cases ey : y = σ.files.length
        · rw [if_neg ex, if_pos ey] at he
          have := h.lt _ (h.sf x (by omega)); omega
        · rw [if_neg ex, if_neg ey] at he
          exact h.inj x y (by omega) (by omega) he
    apart := fun x y k hx hy hkx hky => by
      simp only [hll] at hx hy
      by_cases ex : x = σ.files.length
      · rw [if_pos ex] at hkx; simp [Value.ownBlock] at hkx
      · by_cases ey : y = σ.files.length
        · rw [if_pos ey] at hky; simp [Value.ownBlock] at hky
        · rw [if_neg ex] at hkx; rw [if_neg ey] at hky
          exact h.apart x y k (by omega) (by omega) hkx hky
    sd := .inl h.sd
    sc := .inl h.sc
    sr := .inl h.sr
    sp := fun k hk => .inl (h.sp k hk)
    sf := fun j hj => by
      simp only [hll] at hj
      by_cases e : j = σ.files.length
      · rw [if_pos e]; exact .inr ⟨hle, hlt⟩
      · rw [if_neg e]; exact .inl (h.sf j (by omega))
    sv := fun j k hj hk => by
      simp only [hll] at hj
      by_cases e : j = σ.files.length
      · rw [if_pos e] at hk; simp [Value.ownBlock] at hk
      · rw [if_neg e] at hk; exact .inl (h.sv j k (by omega) hk)
    lt := fun k hk => by
      rcases hk with hk | hk
      · exact Nat.lt_of_lt_of_le (h.lt k hk) hs
      · exact hk.2 }
end

/-- what a step does to the world, and what the disk is behind it -/
def Moved (w w' : World) (d : Nat) (σ' : St) (S : Nat → Prop) : Prop := Below 0 w w' ∧ Kept w w' S ∧ ∃ S' : Nat → Prop, (∀ k, S' k → S k ∨ w.heap.size ≤ k) ∧ DiskAt w' d σ' S'
theorem DiskAt.move {w w' : World} {d : Nat} {σ : St} {S : Nat → Prop} (h : DiskAt w d σ S) (hs : w.heap.size ≤ w'.heap.size) (hm : ∀ k, S k → w'.heap[k]? = w.heap[k]?) : DiskAt w' d σ S := by
  obtain ⟨fb, fv, mc, md, pv, h⟩ := h
  exact ⟨fb, fv, mc, md, pv, h.move hs hm⟩
theorem DiskAt.lt {w : World} {d : Nat} {σ : St} {S : Nat → Prop} (h : DiskAt w d σ S) : ∀ k, S k → k < w.heap.size := by
  obtain ⟨fb, fv, mc, md, pv, h⟩ := h
  exact h.lt
theorem DiskAt.below {w w' : World} {d : Nat} {σ : St} {S : Nat → Prop} (h : DiskAt w d σ S) (hb : Below w.heap.size w w') : DiskAt w' d σ S :=
  h.move hb.size (fun k hk => hb.block k (h.lt k hk))
theorem Moved.stay {w w' : World} {d : Nat} {σ : St} {S : Nat → Prop} (h : DiskAt w d σ S) (hb : Below w.heap.size w w') : Moved w w' d σ S :=
  ⟨hb.mono (Nat.zero_le _), Kept.of_below hb S, S, fun _ hk => .inl hk, h.below hb⟩
theorem Moved.then_ {w w1 w2 : World} {d : Nat} {σ1 σ2 : St} {S : Nat → Prop} (h : Moved w w1 d σ1 S) (k : ∀ S1, DiskAt w1 d σ1 S1 → Moved w1 w2 d σ2 S1) : Moved w w2 d σ2 S := by
  obtain ⟨hb, hk, S1, h1, hd⟩ := h
  obtain ⟨hb2, hk2, S2, h2, hd2⟩ := k S1 hd
  refine ⟨hb.trans hb2, hk.then_ hk2 h1, S2, fun j hj => ?_, hd2⟩
  rcases h2 j hj with h3 | h3
  · exact h1 j h3
  · exact .inr (Nat.le_trans hb.size h3)
theorem Moved.below {w w1 w2 : World} {d : Nat} {σ : St} {S : Nat → Prop} (h : Moved w w1 d σ S) (hb : Below w1.heap.size w1 w2) : Moved w w2 d σ S :=
  h.then_ (fun _ hd => Moved.stay hd hb)
end Go.Proofs.Ytfkgpmidcbjlbaa.H
end
section
set_option linter.unusedVariables false
set_option linter.unusedSimpArgs false
-- Written by a program of this session (a printer of walks).
namespace Go.Proofs.Ytfkgpmidcbjlbaa.P
open Go.RowKit Go.Proofs.YtfkgpmidcbjlbaaW.PrintWords Go.Proofs.YtfkgpmidcbjlbaaW.PrintLast Go.Proofs.YtfkgpmidcbjlbaaW.PrintMore
attribute [local go_sem] max2_int min2_int max_two min_two max_three min_three max_four min_four   -- for this text's walks alone
set_option linter.unusedVariables false
set_option linter.unusedSimpArgs false

/-! ### simdisk_isName: function 66 -/
mutual
def simdisk_isName.j0 : Nat → ByteArray → Bool → Option (Bool)
  | 0, _, _ => none
  | k + 1, x0, x11 => if x11 = true then (some false) else (simdisk_isName.l0 k x0 (x0.size : Int) 0)
def simdisk_isName.l0 : Nat → ByteArray → Int → Int → Option (Bool)
  | 0, _, _, _ => none
  | k + 1, x0, x13, x14 => if x14 < x13 then (if 0 ≤ x14 then (if x14 < (x0.size : Int) then (if (bt x0 x14) < 97 then (if (bt x0 x14) < 48 then (if (bt x0 x14) = 45 then (simdisk_isName.l0 k x0 x13 (wrap64 (x14 + 1))) else (if (bt x0 x14) = 95 then (simdisk_isName.l0 k x0 x13 (wrap64 (x14 + 1))) else (some false))) else (if (bt x0 x14) > 57 then (if (bt x0 x14) = 45 then (simdisk_isName.l0 k x0 x13 (wrap64 (x14 + 1))) else (if (bt x0 x14) = 95 then (simdisk_isName.l0 k x0 x13 (wrap64 (x14 + 1))) else (some false))) else (simdisk_isName.l0 k x0 x13 (wrap64 (x14 + 1))))) else (if (bt x0 x14) > 122 then (if (bt x0 x14) < 48 then (if (bt x0 x14) = 45 then (simdisk_isName.l0 k x0 x13 (wrap64 (x14 + 1))) else (if (bt x0 x14) = 95 then (simdisk_isName.l0 k x0 x13 (wrap64 (x14 + 1))) else (some false))) else (if (bt x0 x14) > 57 then (if (bt x0 x14) = 45 then (simdisk_isName.l0 k x0 x13 (wrap64 (x14 + 1))) else (if (bt x0 x14) = 95 then (simdisk_isName.l0 k x0 x13 (wrap64 (x14 + 1))) else (some false))) else (simdisk_isName.l0 k x0 x13 (wrap64 (x14 + 1))))) else (simdisk_isName.l0 k x0 x13 (wrap64 (x14 + 1))))) else (none)) else (none)) else (some true)
end
def simdisk_isName.f (k : Nat) (a0 : ByteArray) : Option (Bool) := if a0.toList = ([] : List UInt8) then (simdisk_isName.j0 k a0 true) else (simdisk_isName.j0 k a0 (decide ((a0.size : Int) > 64)))
theorem simdisk_isName.mono_l : ∀ k, (∀ y0 y1, LeO (simdisk_isName.j0 k y0 y1) (simdisk_isName.j0 (k + 1) y0 y1)) ∧ (∀ y0 y1 y2, LeO (simdisk_isName.l0 k y0 y1 y2) (simdisk_isName.l0 (k + 1) y0 y1 y2))
  | 0 => ⟨fun _ _ r h => by simp [simdisk_isName.j0] at h, fun _ _ _ r h => by simp [simdisk_isName.l0] at h⟩
  | k + 1 => by
    obtain ⟨ih0, ih1⟩ := simdisk_isName.mono_l k
    refine ⟨?_, ?_⟩
    · intro y0 y1
      unfold simdisk_isName.j0
      repeat' first
      | (with_reducible exact ih0 _ _)
      | (with_reducible exact ih1 _ _ _)
      | (with_reducible exact LeO.refl _)
      | (with_reducible exact LeO.none _)
      | (with_reducible refine LeO.ite ?_ ?_)
      | (with_reducible refine LeO.bind ?_ (fun _ => ?_))
      | exact ih0 _ _
      | exact ih1 _ _ _
      | exact LeO.none _
      | refine LeO.ite ?_ ?_
      | refine LeO.bind ?_ (fun _ => ?_)
    · intro y0 y1 y2
      unfold simdisk_isName.l0
      repeat' first
      | (with_reducible exact ih0 _ _)
      | (with_reducible exact ih1 _ _ _)
      | (with_reducible exact LeO.refl _)
      | (with_reducible exact LeO.none _)
      | (with_reducible refine LeO.ite ?_ ?_)
      | (with_reducible refine LeO.bind ?_ (fun _ => ?_))
      | exact ih0 _ _
      | exact ih1 _ _ _
      | exact LeO.none _
      | refine LeO.ite ?_ ?_
      | refine LeO.bind ?_ (fun _ => ?_)
theorem simdisk_isName.mono : ∀ a0 k, LeO (simdisk_isName.f k a0) (simdisk_isName.f (k + 1) a0) := by
  intro a0 k
  obtain ⟨ih0, ih1⟩ := simdisk_isName.mono_l k
  unfold simdisk_isName.f
  repeat' first
      | (with_reducible exact ih0 _ _)
      | (with_reducible exact ih1 _ _ _)
      | (with_reducible exact LeO.refl _)
      | (with_reducible exact LeO.none _)
      | (with_reducible refine LeO.ite ?_ ?_)
      | (with_reducible refine LeO.bind ?_ (fun _ => ?_))
      | exact ih0 _ _
      | exact ih1 _ _ _
      | exact LeO.none _
      | refine LeO.ite ?_ ?_
      | refine LeO.bind ?_ (fun _ => ?_)
set_option maxHeartbeats 8000000 in
set_option maxRecDepth 100000 in
theorem simdisk_isName.calls (k : Nat) (a0 : ByteArray) (r : Bool) (w : World) (h : simdisk_isName.f k a0 = some r) :
    Calls Try.prog 66 #[.string a0] w fun e w' => e = .returned (.bool r) ∧ Drawn0 w w' := by
  have H : (if a0.toList = ([] : List UInt8) then (simdisk_isName.j0 k a0 true) else (simdisk_isName.j0 k a0 (decide ((a0.size : Int) > 64)))) = some r := h
  clear h
  have HC2 := Aside0.mk H
  clear H
  go_enter Try.func66, Try.ntmps66
  go_upto_region 1 with (fail)
  go_cut [11] (fun v11 wc => ∃ (kq : Nat) (x11_1 : Bool), v11 = .bool x11_1 ∧ Aside0 (simdisk_isName.j0 kq a0 x11_1 = some r) ∧ Aside0 (kq ≤ k) ∧ Drawn0 w wc)
  case first =>
    have H := HC2.out
    clear HC2
    by_cases c3 : a0.toList = ([] : List UInt8)
    · rw [if_pos c3] at H
      have c3b0 : (a0.toList == ([] : List UInt8)) = true := beq_iff_eq.mpr c3
      have c3b1 : (a0.toList != ([] : List UInt8)) = false := bne_eq_false_iff_eq.mpr c3
      clear c3
      (first | rw [c3b0] | (simp only [i64_w, i32_w]; rw [c3b0]) | skip)
      have H' := Aside0.mk H
      clear H
      go_wp2
      go_meet
      case rel => exact ⟨_, (true), (by first | rfl | (simp; done) | (simp [*]; done)), H', ⟨by first | omega | exact Nat.le_refl _⟩, by repeat (first | exact Drawn0.refl _ | apply Drawn0.step)⟩
    · rw [if_neg c3] at H
      have c3b0 : (a0.toList == ([] : List UInt8)) = false := beq_eq_false_iff_ne.mpr c3
      have c3b1 : (a0.toList != ([] : List UInt8)) = true := bne_iff_ne.mpr c3
      (first | rw [c3b0] | (simp only [i64_w, i32_w]; rw [c3b0]) | skip)
      have H' := Aside0.mk H
      clear H
      go_wp2
      go_meet
      case rel => exact ⟨_, (decide ((a0.size : Int) > 64)), (by first | rfl | (simp; done) | (simp [*]; done)), H', ⟨by first | omega | exact Nat.le_refl _⟩, by repeat (first | exact Drawn0.refl _ | apply Drawn0.step)⟩
  case rest =>
    clear HC2
    try clear p2
    try clear c3
    try clear c3b0
    try clear c3b1
    obtain ⟨kq, x11_1, rfl, HA, HJ1, ⟨mc1, rfl⟩⟩ := hcut
    cases kq with
    | zero => exact absurd HA.out (by simp [simdisk_isName.j0])
    | succ kj1 =>
      have H := HA.out
      clear HA
      simp only [simdisk_isName.j0] at H
      by_cases c4 : x11_1 = true
      · subst c4
        have H1 : (some false) = some r := by rw [if_pos rfl] at H; exact H
        clear H
        have H := H1
        clear H1
        obtain rfl := Option.some.inj H
        go_wp2
        go_ret
        exact ⟨by first | rfl | (simp; done) | (simp [*]; done), by repeat (first | exact Drawn0.refl _ | apply Drawn0.step)⟩
      · replace c4 := Bool.eq_false_iff.mpr c4
        subst c4
        have H1 : (simdisk_isName.l0 kj1 a0 (a0.size : Int) 0) = some r := by rw [if_neg (show ¬ (false = true) by decide)] at H; exact H
        clear H
        have H := H1
        clear H1
        have H' := Aside0.mk H
        clear H
        go_wp2
        go_loopg [14] kj1 (fun kq v14 w' => ∃ (x14_2 : Int), v14 = .int .i64 x14_2 ∧ Aside0 (simdisk_isName.l0 kq a0 (a0.size : Int) x14_2 = some r) ∧ Aside0 (kq ≤ kj1) ∧ Drawn0 w w')
        case atStart => exact ⟨(0), (by first | rfl | (simp; done) | (simp [*]; done)), H', ⟨Nat.le_refl _⟩, by repeat (first | exact Drawn0.refl _ | apply Drawn0.step)⟩
        case round =>
          clear H'
          try clear c1
          try clear p2
          try clear c3
          try clear c3b0
          try clear c3b1
          try clear c4
          try clear p2
          obtain ⟨x14_2, rfl, HA, HK2, ⟨m2, rfl⟩⟩ := hrel
          cases gk with
          | zero => exact absurd HA.out (by simp [simdisk_isName.l0])
          | succ k2 =>
            have H := HA.out
            clear HA
            simp only [simdisk_isName.l0] at H
            by_cases c5 : x14_2 < (a0.size : Int)
            · rw [if_pos c5] at H
              have c5b0 : decide (x14_2 < (a0.size : Int)) = true := decide_eq_true c5
              clear c5
              by_cases c6 : 0 ≤ x14_2
              · rw [if_pos c6] at H
                have c6b0 : decide (0 ≤ x14_2) = true := decide_eq_true c6
                clear c6
                by_cases c7 : x14_2 < (a0.size : Int)
                · rw [if_pos c7] at H
                  have c7b0 : decide (x14_2 < (a0.size : Int)) = true := decide_eq_true c7
                  clear c7
                  by_cases c9 : (bt a0 x14_2) < 97
                  · rw [if_pos c9] at H
                    have c9b0 : decide ((bt a0 x14_2) < 97) = true := decide_eq_true c9
                    clear c9
                    by_cases c10 : (bt a0 x14_2) < 48
                    · rw [if_pos c10] at H
                      have c10b0 : decide ((bt a0 x14_2) < 48) = true := decide_eq_true c10
                      clear c10
                      by_cases c11 : (bt a0 x14_2) = 45
                      · rw [if_pos c11] at H
                        have c11b0 : ((bt a0 x14_2) == 45) = true := beq_iff_eq.mpr c11
                        have c11b1 : ((bt a0 x14_2) != 45) = false := bne_eq_false_iff_eq.mpr c11
                        clear c11
                        have H' := Aside0.mk H
                        clear H
                        have p8 : 0 ≤ (x14_2 : Int) := of_decide_eq_true (by first | (with_reducible assumption) | assumption)
                        have q8 : x14_2 < (a0.size : Int) := of_decide_eq_true (by first | (with_reducible assumption) | assumption)
                        have hx8 := bt_at a0 x14_2
                        replace p8 := eq_true p8
                        replace q8 := eq_true q8
                        go_wp2
                        go_roundg k2
                        case measure => have := HJ1.out; have := HK2.out; omega
                        case rel => exact ⟨(wrap64 (x14_2 + 1)), (by first | rfl | (simp; done) | (simp [*]; done)), H', ⟨by have := HJ1.out; have := HK2.out; omega⟩, by repeat (first | exact Drawn0.refl _ | apply Drawn0.step)⟩
                      · rw [if_neg c11] at H
                        have c11b0 : ((bt a0 x14_2) == 45) = false := beq_eq_false_iff_ne.mpr c11
                        have c11b1 : ((bt a0 x14_2) != 45) = true := bne_iff_ne.mpr c11
                        by_cases c12 : (bt a0 x14_2) = 95
                        · rw [if_pos c12] at H
                          have c12b0 : ((bt a0 x14_2) == 95) = true := beq_iff_eq.mpr c12
                          have c12b1 : ((bt a0 x14_2) != 95) = false := bne_eq_false_iff_eq.mpr c12
                          clear c12
                          have H' := Aside0.mk H
                          clear H
                          have p8 : 0 ≤ (x14_2 : Int) := of_decide_eq_true (by first | (with_reducible assumption) | assumption)
                          have q8 : x14_2 < (a0.size : Int) := of_decide_eq_true (by first | (with_reducible assumption) | assumption)
                          have hx8 := bt_at a0 x14_2
                          replace p8 := eq_true p8
                          replace q8 := eq_true q8
                          go_wp2
                          go_roundg k2
                          case measure => have := HJ1.out; have := HK2.out; omega
                          case rel => exact ⟨(wrap64 (x14_2 + 1)), (by first | rfl | (simp; done) | (simp [*]; done)), H', ⟨by have := HJ1.out; have := HK2.out; omega⟩, by repeat (first | exact Drawn0.refl _ | apply Drawn0.step)⟩
                        · rw [if_neg c12] at H
                          have c12b0 : ((bt a0 x14_2) == 95) = false := beq_eq_false_iff_ne.mpr c12
                          have c12b1 : ((bt a0 x14_2) != 95) = true := bne_iff_ne.mpr c12
                          obtain rfl := Option.some.inj H
                          have p8 : 0 ≤ (x14_2 : Int) := of_decide_eq_true (by first | (with_reducible assumption) | assumption)
                          have q8 : x14_2 < (a0.size : Int) := of_decide_eq_true (by first | (with_reducible assumption) | assumption)
                          have hx8 := bt_at a0 x14_2
                          replace p8 := eq_true p8
                          replace q8 := eq_true q8
                          go_wp2
                          go_ret
                          exact ⟨by first | rfl | (simp; done) | (simp [*]; done), by repeat (first | exact Drawn0.refl _ | apply Drawn0.step)⟩
                    · rw [if_neg c10] at H
                      have c10b0 : decide ((bt a0 x14_2) < 48) = false := decide_eq_false c10
                      clear c10
                      by_cases c13 : (bt a0 x14_2) > 57
                      · rw [if_pos c13] at H
                        have c13b0 : decide (57 < (bt a0 x14_2)) = true := decide_eq_true c13
                        clear c13
                        by_cases c14 : (bt a0 x14_2) = 45
                        · rw [if_pos c14] at H
                          have c14b0 : ((bt a0 x14_2) == 45) = true := beq_iff_eq.mpr c14
                          have c14b1 : ((bt a0 x14_2) != 45) = false := bne_eq_false_iff_eq.mpr c14
                          clear c14
                          have H' := Aside0.mk H
                          clear H
                          have p8 : 0 ≤ (x14_2 : Int) := of_decide_eq_true (by first | (with_reducible assumption) | assumption)
                          have q8 : x14_2 < (a0.size : Int) := of_decide_eq_true (by first | (with_reducible assumption) | assumption)
                          have hx8 := bt_at a0 x14_2
                          replace p8 := eq_true p8
                          replace q8 := eq_true q8
                          go_wp2
                          go_roundg k2
                          case measure => have := HJ1.out; have := HK2.out; omega
                          case rel => exact ⟨(wrap64 (x14_2 + 1)), (by first | rfl | (simp; done) | (simp [*]; done)), H', ⟨by have := HJ1.out; have := HK2.out; omega⟩, by repeat (first | exact Drawn0.refl _ | apply Drawn0.step)⟩
                        · rw [if_neg c14] at H
                          have c14b0 : ((bt a0 x14_2) == 45) = false := beq_eq_false_iff_ne.mpr c14
                          have c14b1 : ((bt a0 x14_2) != 45) = true := bne_iff_ne.mpr c14
                          by_cases c15 : (bt a0 x14_2) = 95
                          · rw [if_pos c15] at H
                            have c15b0 : ((bt a0 x14_2) == 95) = true := beq_iff_eq.mpr c15
                            have c15b1 : ((bt a0 x14_2) != 95) = false := bne_eq_false_iff_eq.mpr c15
                            clear c15
                            have H' := Aside0.mk H
                            clear H
                            have p8 : 0 ≤ (x14_2 : Int) := of_decide_eq_true (by first | (with_reducible assumption) | assumption)
                            have q8 : x14_2 < (a0.size : Int) := of_decide_eq_true (by first | (with_reducible assumption) | assumption)
                            have hx8 := bt_at a0 x14_2
                            replace p8 := eq_true p8
                            replace q8 := eq_true q8
                            go_wp2
                            go_roundg k2
                            case measure => have := HJ1.out; have := HK2.out; omega
                            case rel => exact ⟨(wrap64 (x14_2 + 1)), (by first | rfl | (simp; done) | (simp [*]; done)), H', ⟨by have := HJ1.out; have := HK2.out; omega⟩, by repeat (first | exact Drawn0.refl _ | apply Drawn0.step)⟩
                          · rw [if_neg c15] at H
                            have c15b0 : ((bt a0 x14_2) == 95) = false := beq_eq_false_iff_ne.mpr c15
                            have c15b1 : ((bt a0 x14_2) != 95) = true := bne_iff_ne.mpr c15
                            obtain rfl := Option.some.inj H
                            have p8 : 0 ≤ (x14_2 : Int) := of_decide_eq_true (by first | (with_reducible assumption) | assumption)
                            have q8 : x14_2 < (a0.size : Int) := of_decide_eq_true (by first | (with_reducible assumption) | assumption)
                            have hx8 := bt_at a0 x14_2
                            replace p8 := eq_true p8
                            replace q8 := eq_true q8
                            go_wp2
                            go_ret
                            exact ⟨by first | rfl | (simp; done) | (simp [*]; done), by repeat (first | exact Drawn0.refl _ | apply Drawn0.step)⟩
                      · rw [if_neg c13] at H
                        have c13b0 : decide (57 < (bt a0 x14_2)) = false := decide_eq_false c13
                        clear c13
                        have H' := Aside0.mk H
                        clear H
                        have p8 : 0 ≤ (x14_2 : Int) := of_decide_eq_true (by first | (with_reducible assumption) | assumption)
                        have q8 : x14_2 < (a0.size : Int) := of_decide_eq_true (by first | (with_reducible assumption) | assumption)
                        have hx8 := bt_at a0 x14_2
                        replace p8 := eq_true p8
                        replace q8 := eq_true q8
                        go_wp2
                        go_roundg k2
                        case measure => have := HJ1.out; have := HK2.out; omega
                        case rel => exact ⟨(wrap64 (x14_2 + 1)), (by first | rfl | (simp; done) | (simp [*]; done)), H', ⟨by have := HJ1.out; have := HK2.out; omega⟩, by repeat (first | exact Drawn0.refl _ | apply Drawn0.step)⟩
                  · rw [if_neg c9] at H
                    have c9b0 : decide ((bt a0 x14_2) < 97) = false := decide_eq_false c9
                    clear c9
                    by_cases c16 : (bt a0 x14_2) > 122
                    · rw [if_pos c16] at H
                      have c16b0 : decide (122 < (bt a0 x14_2)) = true := decide_eq_true c16
                      clear c16
                      by_cases c17 : (bt a0 x14_2) < 48
                      · rw [if_pos c17] at H
                        have c17b0 : decide ((bt a0 x14_2) < 48) = true := decide_eq_true c17
                        clear c17
                        by_cases c18 : (bt a0 x14_2) = 45
                        · rw [if_pos c18] at H
                          have c18b0 : ((bt a0 x14_2) == 45) = true := beq_iff_eq.mpr c18
                          have c18b1 : ((bt a0 x14_2) != 45) = false := bne_eq_false_iff_eq.mpr c18
                          clear c18
                          have H' := Aside0.mk H
                          clear H
                          have p8 : 0 ≤ (x14_2 : Int) := of_decide_eq_true (by first | (with_reducible assumption) | assumption)
                          have q8 : x14_2 < (a0.size : Int) := of_decide_eq_true (by first | (with_reducible assumption) | assumption)
                          have hx8 := bt_at a0 x14_2
                          replace p8 := eq_true p8
                          replace q8 := eq_true q8
                          go_wp2
                          go_roundg k2
                          case measure => have := HJ1.out; have := HK2.out; omega
                          case rel => exact ⟨(wrap64 (x14_2 + 1)), (by first | rfl | (simp; done) | (simp [*]; done)), H', ⟨by have := HJ1.out; have := HK2.out; omega⟩, by repeat (first | exact Drawn0.refl _ | apply Drawn0.step)⟩
                        · rw [if_neg c18] at H
                          have c18b0 : ((bt a0 x14_2) == 45) = false := beq_eq_false_iff_ne.mpr c18
                          have c18b1 : ((bt a0 x14_2) != 45) = true := bne_iff_ne.mpr c18
                          by_cases c19 : (bt a0 x14_2) = 95
                          · rw [if_pos c19] at H
                            have c19b0 : ((bt a0 x14_2) == 95) = true := beq_iff_eq.mpr c19
                            have c19b1 : ((bt a0 x14_2) != 95) = false := bne_eq_false_iff_eq.mpr c19
                            clear c19
                            have H' := Aside0.mk H
                            clear H
                            have p8 : 0 ≤ (x14_2 : Int) := of_decide_eq_true (by first | (with_reducible assumption) | assumption)
                            have q8 : x14_2 < (a0.size : Int) := of_decide_eq_true (by first | (with_reducible assumption) | assumption)
                            have hx8 := bt_at a0 x14_2
                            replace p8 := eq_true p8
                            replace q8 := eq_true q8
                            go_wp2
                            go_roundg k2
                            case measure => have := HJ1.out; have := HK2.out; omega
                            case rel => exact ⟨(wrap64 (x14_2 + 1)), (by first | rfl | (simp; done) | (simp [*]; done)), H', ⟨by have := HJ1.out; have := HK2.out; omega⟩, by repeat (first | exact Drawn0.refl _ | apply Drawn0.step)⟩
                          · rw [if_neg c19] at H
                            have c19b0 : ((bt a0 x14_2) == 95) = false := beq_eq_false_iff_ne.mpr c19
                            have c19b1 : ((bt a0 x14_2) != 95) = true := bne_iff_ne.mpr c19
                            obtain rfl := Option.some.inj H
                            have p8 : 0 ≤ (x14_2 : Int) := of_decide_eq_true (by first | (with_reducible assumption) | assumption)
                            have q8 : x14_2 < (a0.size : Int) := of_decide_eq_true (by first | (with_reducible assumption) | assumption)
                            have hx8 := bt_at a0 x14_2
                            replace p8 := eq_true p8
                            replace q8 := eq_true q8
                            go_wp2
                            go_ret
                            exact ⟨by first | rfl | (simp; done) | (simp [*]; done), by repeat (first | exact Drawn0.refl _ | apply Drawn0.step)⟩
                      · rw [if_neg c17] at H
                        have c17b0 : decide ((bt a0 x14_2) < 48) = false := decide_eq_false c17
                        clear c17
                        by_cases c20 : (bt a0 x14_2) > 57
                        · rw [if_pos c20] at H
                          have c20b0 : decide (57 < (bt a0 x14_2)) = true := decide_eq_true c20
                          clear c20
                          by_cases c21 : (bt a0 x14_2) = 45
                          · rw [if_pos c21] at H
                            have c21b0 : ((bt a0 x14_2) == 45) = true := beq_iff_eq.mpr c21
                            have c21b1 : ((bt a0 x14_2) != 45) = false := bne_eq_false_iff_eq.mpr c21
                            clear c21
                            have H' := Aside0.mk H
                            clear H
                            have p8 : 0 ≤ (x14_2 : Int) := of_decide_eq_true (by first | (with_reducible assumption) | assumption)
                            have q8 : x14_2 < (a0.size : Int) := of_decide_eq_true (by first | (with_reducible assumption) | assumption)
                            have hx8 := bt_at a0 x14_2
                            replace p8 := eq_true p8
                            replace q8 := eq_true q8
                            go_wp2
                            go_roundg k2
                            case measure => have := HJ1.out; have := HK2.out; omega
                            case rel => exact ⟨(wrap64 (x14_2 + 1)), (by first | rfl | (simp; done) | (simp [*]; done)), H', ⟨by have := HJ1.out; have := HK2.out; omega⟩, by repeat (first | exact Drawn0.refl _ | apply Drawn0.step)⟩
                          · rw [if_neg c21] at H
                            have c21b0 : ((bt a0 x14_2) == 45) = false := beq_eq_false_iff_ne.mpr c21
                            have c21b1 : ((bt a0 x14_2) != 45) = true := bne_iff_ne.mpr c21
                            by_cases c22 : (bt a0 x14_2) = 95
                            · rw [if_pos c22] at H
                              have c22b0 : ((bt a0 x14_2) == 95) = true := beq_iff_eq.mpr c22
                              have c22b1 : ((bt a0 x14_2) != 95) = false := bne_eq_false_iff_eq.mpr c22
                              clear c22
                              have H' := Aside0.mk H
                              clear H
                              have p8 : 0 ≤ (x14_2 : Int) := of_decide_eq_true (by first | (with_reducible assumption) | assumption)
                              have q8 : x14_2 < (a0.size : Int) := of_decide_eq_true (by first | (with_reducible assumption) | assumption)
                              have hx8 := bt_at a0 x14_2
                              replace p8 := eq_true p8
                              replace q8 := eq_true q8
                              go_wp2
                              go_roundg k2
                              case measure => have := HJ1.out; have := HK2.out; omega
                              case rel => exact ⟨(wrap64 (x14_2 + 1)), (by first | rfl | (simp; done) | (simp [*]; done)), H', ⟨by have := HJ1.out; have := HK2.out; omega⟩, by repeat (first | exact Drawn0.refl _ | apply Drawn0.step)⟩
                            · rw [if_neg c22] at H
                              have c22b0 : ((bt a0 x14_2) == 95) = false := beq_eq_false_iff_ne.mpr c22
                              have c22b1 : ((bt a0 x14_2) != 95) = true := bne_iff_ne.mpr c22
                              obtain rfl := Option.some.inj H
                              have p8 : 0 ≤ (x14_2 : Int) := of_decide_eq_true (by first | (with_reducible assumption) | assumption)
                              have q8 : x14_2 < (a0.size : Int) := of_decide_eq_true (by first | (with_reducible assumption) | assumption)
                              have hx8 := bt_at a0 x14_2
                              replace p8 := eq_true p8
                              replace q8 := eq_true q8
                              go_wp2
                              go_ret
                              exact ⟨by first | rfl | (simp; done) | (simp [*]; done), by repeat (first | exact Drawn0.refl _ | apply Drawn0.step)⟩
                        · rw [if_neg c20] at H
                          have c20b0 : decide (57 < (bt a0 x14_2)) = false := decide_eq_false c20
                          clear c20
                          have H' := Aside0.mk H
                          clear H
                          have p8 : 0 ≤ (x14_2 : Int) := of_decide_eq_true (by first | (with_reducible assumption) | assumption)
                          have q8 : x14_2 < (a0.size : Int) := of_decide_eq_true (by first | (with_reducible assumption) | assumption)
                          have hx8 := bt_at a0 x14_2
                          replace p8 := eq_true p8
                          replace q8 := eq_true q8
                          go_wp2
                          go_roundg k2
                          case measure => have := HJ1.out; have := HK2.out; omega
                          case rel => exact ⟨(wrap64 (x14_2 + 1)), (by first | rfl | (simp; done) | (simp [*]; done)), H', ⟨by have := HJ1.out; have := HK2.out; omega⟩, by repeat (first | exact Drawn0.refl _ | apply Drawn0.step)⟩
                    · rw [if_neg c16] at H
                      have c16b0 : decide (122 < (bt a0 x14_2)) = false := decide_eq_false c16
                      clear c16
                      have H' := Aside0.mk H
                      clear H
                      have p8 : 0 ≤ (x14_2 : Int) := of_decide_eq_true (by first | (with_reducible assumption) | assumption)
                      have q8 : x14_2 < (a0.size : Int) := of_decide_eq_true (by first | (with_reducible assumption) | assumption)
                      have hx8 := bt_at a0 x14_2
                      replace p8 := eq_true p8
                      replace q8 := eq_true q8
                      go_wp2
                      go_roundg k2
                      case measure => have := HJ1.out; have := HK2.out; omega
                      case rel => exact ⟨(wrap64 (x14_2 + 1)), (by first | rfl | (simp; done) | (simp [*]; done)), H', ⟨by have := HJ1.out; have := HK2.out; omega⟩, by repeat (first | exact Drawn0.refl _ | apply Drawn0.step)⟩
                · rw [if_neg c7] at H
                  exact absurd H (by simp)
              · rw [if_neg c6] at H
                exact absurd H (by simp)
            · rw [if_neg c5] at H
              have c5b0 : decide (x14_2 < (a0.size : Int)) = false := decide_eq_false c5
              clear c5
              obtain rfl := Option.some.inj H
              go_wp2
              go_ret
              exact ⟨by first | rfl | (simp; done) | (simp [*]; done), by repeat (first | exact Drawn0.refl _ | apply Drawn0.step)⟩

end Go.Proofs.Ytfkgpmidcbjlbaa.P
end
section
set_option linter.unusedVariables false
set_option linter.unusedSimpArgs false
/- simdisk.isName at every string. -/
namespace Go.Proofs.Ytfkgpmidcbjlbaa.U
open Go.RowKit Go.Proofs.Ytfkgpmidcbjlbaa.P Go.Proofs.Ytfkgpmidcbjlbaa.H Go.Proofs.YtfkgpmidcbjlbaaW.PrintWords Go.Proofs.YtfkgpmidcbjlbaaW.PrintMore

def okn (c : Int) : Bool := (decide (97 ≤ c) && decide (c ≤ 122)) || (decide (48 ≤ c) && decide (c ≤ 57)) || decide (c = 45) || decide (c = 95)
def nameB (s : ByteArray) : Bool := decide (1 ≤ s.size) && decide (s.size ≤ 64) && s.data.toList.all (fun c => okn (c.toNat : Int))
set_option maxHeartbeats 1000000 in
theorem isName_l0 (k : Nat) (x : ByteArray) (n i : Int) : simdisk_isName.l0 (k + 1) x n i = if i < n then (if 0 ≤ i then (if i < (x.size : Int) then (if okn (bt x i) = true then simdisk_isName.l0 k x n (wrap64 (i + 1)) else some false) else none) else none) else some true := by
  rw [simdisk_isName.l0]
  generalize bt x i = c
  split
  · split
    · split
      · have h : okn c = true ↔ (97 ≤ c ∧ c ≤ 122) ∨ (48 ≤ c ∧ c ≤ 57) ∨ c = 45 ∨ c = 95 := by unfold okn; simp [or_assoc]
        by_cases hc : okn c = true
        · rw [if_pos hc]
          rw [h] at hc
          repeat' split
          all_goals first | rfl | (exfalso; omega)
        · rw [if_neg hc]
          rw [h] at hc
          repeat' split
          all_goals first | rfl | (exfalso; omega)
      · rfl
    · rfl
  · rfl
theorem name_l (s : ByteArray) (h1 : 1 ≤ s.size) (h64 : s.size ≤ 64) : ∀ f i : Nat, i + f = s.size → (s.data.toList.take i).all (fun c => okn (c.toNat : Int)) = true → Ev (fun k => simdisk_isName.l0 k s (s.size : Int) (i : Int)) (nameB s)
  | 0, i, hi, ha => by
    have hr : nameB s = true := by
      rw [List.take_of_length_le (by rw [data_length]; omega)] at ha
      unfold nameB
      rw [ha, decide_eq_true h1, decide_eq_true h64]; rfl
    rw [hr]
    refine Ev.step (fun k => isName_l0 k s _ _) (Ev.neg (by omega) (Ev.pure _))
  | f + 1, i, hi, ha => by
    have hlt : i < s.size := by omega
    refine Ev.step (fun k => isName_l0 k s _ _) (Ev.pos (by omega) (Ev.pos (by omega) (Ev.pos (by omega) ?_)))
    have hb : bt s (i : Int) = ((s[i]'hlt).toNat : Int) := by
      unfold bt
      rw [dif_pos (by simpa using hlt)]; rfl
    rw [hb]
    refine Ev.ite (fun c => ?_) (fun c => ?_)
    · rw [show wrap64 ((i : Int) + 1) = ((i + 1 : Nat) : Int) from by rw [w64 _ (by omega) (by omega)]; omega]
      exact name_l s h1 h64 f (i + 1) (by omega) (all_take_succ s i hlt (fun c => okn (c.toNat : Int)) ha c)
    · have hr : nameB s = false := by
        unfold nameB
        rw [not_all_at s i hlt (fun c => okn (c.toNat : Int)) (Bool.not_eq_true _ |>.mp c)]
        simp
      rw [hr]; exact Ev.pure _
theorem name_ev (s : ByteArray) : Ev (fun k => simdisk_isName.f k s) (nameB s) := by
  refine Ev.ite (fun c => ?_) (fun c => ?_)
  · have hr : nameB s = false := by
      have : s.size = 0 := by
        rw [ByteArray.toList_eq, ← List.length_eq_zero_iff, data_length] at c; exact c
      unfold nameB
      rw [decide_eq_false (by omega)]; simp
    rw [hr]
    exact Ev.step (G := fun _ => some false) (fun k => rfl) (Ev.pure _)
  · have h1 : 1 ≤ s.size := by
      rcases Nat.eq_zero_or_pos s.size with h | h
      · exfalso; apply c
        rw [ByteArray.toList_eq, ← List.length_eq_zero_iff, data_length]; exact h
      · exact h
    have key : ∀ b : Bool, b = decide ((s.size : Int) > 64) → Ev (fun k => simdisk_isName.j0 k s b) (nameB s) := by
      intro b hb
      cases b
      · have h64 : s.size ≤ 64 := by have := of_decide_eq_false hb.symm; omega
        refine Ev.step (G := fun k => simdisk_isName.l0 k s (s.size : Int) 0) (fun k => rfl) ?_
        exact name_l s h1 h64 s.size 0 (by omega) (by simp)
      · have h64 : ¬ s.size ≤ 64 := by have := of_decide_eq_true hb.symm; omega
        have hr : nameB s = false := by unfold nameB; rw [decide_eq_false h64]; simp
        rw [hr]
        exact Ev.step (G := fun _ => some false) (fun k => rfl) (Ev.pure _)
    exact key _ rfl
theorem nameB_size (s : ByteArray) (h : nameB s = true) : 1 ≤ s.size ∧ s.size ≤ 64 := by
  unfold nameB at h
  simp only [Bool.and_eq_true, decide_eq_true_eq] at h
  exact ⟨h.1.1, h.1.2⟩
end Go.Proofs.Ytfkgpmidcbjlbaa.U
namespace Go.Proofs.Ytfkgpmidcbjlbaa.H
open Go.RowKit Go.Proofs.Ytfkgpmidcbjlbaa.U Go.Proofs.Ytfkgpmidcbjlbaa.P Go.Proofs.YtfkgpmidcbjlbaaW.PrintWords
theorem isName_calls (s : ByteArray) (w : World) : Calls Try.prog 66 #[.string s] w fun e w' => e = .returned (.bool (nameB s)) ∧ Drawn0 w w' := by
  obtain ⟨k, hk⟩ := (name_ev s).get
  exact simdisk_isName.calls k s (nameB s) w hk
end Go.Proofs.Ytfkgpmidcbjlbaa.H
end
section
set_option linter.unusedVariables false
set_option linter.unusedSimpArgs false
/- simdisk: done and begin. -/
namespace Go.Proofs.Ytfkgpmidcbjlbaa.H
open Go.RowKit Go.Proofs.Ytfkgpmidcbjlbaa.U Go.Proofs.YtfkgpmidcbjlbaaW.PrintWords Go.Proofs.Ytfkgpmidcbjlbaa.P

def doneS (σ : St) : St := { σ with left := if σ.lim = true then wrap64 (σ.left - 1) else σ.left }
theorem below_setCell0 (w : World) (p : Addr) (u : Value) : Below 0 w (w.setCell p u) := (Below.refl 0 w).setCell (Nat.zero_le _) u
theorem setCell_size (w : World) (p : Addr) (u : Value) : (w.setCell p u).heap.size = w.heap.size := by simp [World.setCell]
set_option maxRecDepth 100000 in
set_option maxHeartbeats 2000000 in
theorem done_calls (d : Nat) (σ : St) (S : Nat → Prop) (w : World) (h : DiskAt w d σ S) :
    Calls Try.prog 68 #[.pointer (some ⟨d, 0, none⟩)] w fun e w' => e = .returned (.int .i64 0) ∧ Moved w w' d (doneS σ) S := by
  obtain ⟨fb, fv, mc, md, pv, h⟩ := h
  have H := hid h
  have c3 : w.cell? ⟨d, 3, none⟩ = some (.bool σ.lim) := by rw [cell_of_row _ _ _ _ _ _ h.blk]; rfl
  have c4 : w.cell? ⟨d, 4, none⟩ = some (.int .i64 σ.left) := by rw [cell_of_row _ _ _ _ _ _ h.blk]; rfl
  clear h
  go_enter Try.func68, Try.ntmps68
  cases hl : σ.lim with
  | true =>
    rw [hl] at c3
    have hf := frozen_of_row w d 4 _ _ H.out.blk
    go_wp2
    go_ret
    have hb := heap_setCell_same w d 4 _ _ (.int .i64 (wrap64 (σ.left - 1))) H.out.blk
    refine ⟨rfl, below_setCell0 _ _ _, ?_, S, fun _ hk => .inl hk, fb, fv, mc, md, pv, ?_⟩
    · exact (Kept.refl w S).setCell (.inl H.out.sd) _
    · have := H.out.scalar (w' := w.setCell ⟨d, 4, none⟩ (.int .i64 (wrap64 (σ.left - 1)))) (by rw [setCell_size]; exact Nat.le_refl _) (fun k _ hk => heap_setCell_other _ _ _ _ hk) σ.lim (wrap64 (σ.left - 1)) hb
      unfold doneS
      rw [if_pos hl]
      exact this
  | false =>
    rw [hl] at c3
    go_wp2
    go_ret
    refine ⟨rfl, ?_⟩
    have : doneS σ = σ := by unfold doneS; rw [if_neg (by rw [hl]; decide)]
    rw [this]
    exact Moved.stay ⟨fb, fv, mc, md, pv, H.out⟩ (Below.refl _ _)
theorem drawn_trans {w w1 w2 : World} (h : Drawn0 w w1) (k : Drawn0 w1 w2) : Drawn0 w w2 := by
  obtain ⟨⟨n, rfl⟩⟩ := k
  exact h.step n
theorem wrap_succ {j n : Nat} (h : (j : Int) < (n : Int)) (hm : n ≤ 9223372036854775807) : wrap64 ((j : Int) + 1) = ((j + 1 : Nat) : Int) := by
  rw [w64 _ (by omega) (by omega)]; omega
theorem less_succ {j n : Nat} {x : Int} (h : (j : Int) < (n : Int)) (hx : x = ((j + 1 : Nat) : Int)) : n - (intOf (.int .i64 x)).toNat < n - (intOf (.int .i64 (j : Int))).toNat := by
  subst hx
  show n - ((j + 1 : Nat) : Int).toNat < n - ((j : Nat) : Int).toNat
  rw [Int.toNat_natCast, Int.toNat_natCast]
  omega
def beginS (σ : St) (ns : List ByteArray) : Int := if (σ.lim && decide (σ.left ≤ 0)) = true then 16 else if ns.all nameB = true then 0 else 8
set_option maxRecDepth 100000 in
set_option maxHeartbeats 2000000 in
theorem begin_loop (d : Nat) (lim : Bool) (left r : Int) (A : Option Addr) (c : Nat) (ns : List ByteArray) (w : World) (c3 : w.cell? ⟨d, 3, none⟩ = some (.bool lim)) (c4 : w.cell? ⟨d, 4, none⟩ = some (.int .i64 left))
    (HR : Hid (Kd.C Kd.string w A ns.length ns)) (HC : Hid (ns.length ≤ c)) (hq : (lim && decide (left ≤ 0)) = false) (HV : Hid (r = if ns.all nameB = true then 0 else 8)) :
    Calls Try.prog 67 #[.pointer (some ⟨d, 0, none⟩), .slice A ns.length c] w fun e w' => e = .returned (.int .i64 r) ∧ Drawn0 w w' := by
  have h1 : lim = false ∨ (lim = true ∧ decide (left ≤ 0) = false) := by cases lim <;> simp_all
  clear hq
  go_enter Try.func67, Try.ntmps67
  rcases h1 with rfl | ⟨rfl, hd⟩
  all_goals
    go_wp2
    go_loopw [22] (fun v wr => ∃ j : Nat, v = .int .i64 (j : Int) ∧ Hid (j ≤ ns.length) ∧ Hid (Drawn0 w wr) ∧ Hid ((ns.take j).all nameB = true)) (fun v _ => ns.length - (intOf v).toNat)
    case atStart => exact ⟨0, rfl, Nat.zero_le _, Drawn0.refl w, by simp [Hid]⟩
    case round =>
      obtain ⟨j, rfl, HJ, HD, HA⟩ := hrel
      by_cases hlt : (j : Int) < (ns.length : Int)
      · obtain ⟨ad, hA, hcell⟩ := Kd.at_string (Kd.C_below HR.out HD.out.below) (j : Int) (by omega) (by omega)
        have HX := hid (show ∃ x, x = rdOf ByteArray.empty ns (j : Int) from ⟨_, rfl⟩)
        obtain ⟨x, hx⟩ := HX.out
        have HXX := hid hx
        rw [Int.toNat_natCast, ← hx] at hcell
        subst hA
        clear hx HX
        have HLT := hid hlt
        have HW := hid (show wrap64 ((j : Int) + 1) = ((j + 1 : Nat) : Int) from wrap_succ hlt (Kd.C_max HR.out))
        cases hn : nameB x with
        | true =>
          have HN := hid hn
          clear hn
          go_wp2_with (go_at_call 66; refine (isName_calls x wr).mono ?_; rintro e w4 ⟨rfl, hdr⟩; rw [HN.out]; have HD4 := hid (drawn_trans HD.out hdr); clear hdr)
          go_roundw
          case rel =>
            refine ⟨j + 1, by rw [HW.out], hid (by have := HLT.out; omega), HD4, hid ?_⟩
            rw [List.take_succ_eq_append_getElem (by have := HLT.out; omega), List.all_append, Bool.and_eq_true]
            refine ⟨HA.out, ?_⟩
            have e : ns[j]'(by have := HLT.out; omega) = x := by
              rw [HXX.out]
              simp [rdOf, List.getD_eq_getElem?_getD, List.getElem?_eq_getElem (show j < ns.length by have := HLT.out; omega)]
            rw [e]
            simpa using HN.out
          case measure => exact less_succ HLT.out HW.out
        | false =>
          have HN := hid hn
          clear hn
          go_wp2_with (go_at_call 66; refine (isName_calls x wr).mono ?_; rintro e w4 ⟨rfl, hdr⟩; rw [HN.out]; have HD4 := hid (drawn_trans HD.out hdr); clear hdr)
          go_ret
          refine ⟨ret_int ?_, HD4.out⟩
          rw [HV.out, if_neg]
          intro hall
          have hm : x ∈ ns := by
            rw [HXX.out]
            simp [rdOf, List.getD_eq_getElem?_getD, List.getElem?_eq_getElem (show j < ns.length by have := HLT.out; omega)]
          have := List.all_eq_true.1 hall x hm
          rw [HN.out] at this
          cases this
      · have HLT := hid hlt
        go_wp2
        go_ret
        refine ⟨ret_int ?_, HD.out⟩
        have := HA.out
        rw [List.take_of_length_le (by have := HLT.out; omega)] at this
        rw [HV.out, if_pos this]
set_option maxRecDepth 100000 in
theorem begin_calls (d : Nat) (σ : St) (S : Nat → Prop) (A : Option Addr) (c : Nat) (ns : List ByteArray) (w : World) (h : DiskAt w d σ S) (hr : Kd.C Kd.string w A ns.length ns) (hc : ns.length ≤ c) :
    Calls Try.prog 67 #[.pointer (some ⟨d, 0, none⟩), .slice A ns.length c] w fun e w' => e = .returned (.int .i64 (beginS σ ns)) ∧ Drawn0 w w' := by
  obtain ⟨fb, fv, mc, md, pv, h⟩ := h
  have c3 : w.cell? ⟨d, 3, none⟩ = some (.bool σ.lim) := by rw [cell_of_row _ _ _ _ _ _ h.blk]; rfl
  have c4 : w.cell? ⟨d, 4, none⟩ = some (.int .i64 σ.left) := by rw [cell_of_row _ _ _ _ _ _ h.blk]; rfl
  unfold beginS
  cases hq : σ.lim && decide (σ.left ≤ 0) with
  | false =>
    rw [if_neg (by decide)]
    exact begin_loop d σ.lim σ.left _ A c ns w c3 c4 hr hc hq (hid rfl)
  | true =>
    rw [if_pos rfl]
    generalize σ.lim = lim at c3 hq
    generalize σ.left = left at c4 hq
    clear h
    have hl : lim = true := by cases lim <;> simp_all
    subst hl
    have hd : decide (left ≤ 0) = true := by simpa using hq
    clear hq
    go_enter Try.func67, Try.ntmps67
    go_wp2
    go_ret
    exact ⟨rfl, Drawn0.refl w⟩
end Go.Proofs.Ytfkgpmidcbjlbaa.H
end
section
set_option linter.unusedVariables false
set_option linter.unusedSimpArgs false
/- simdisk: an operation on a directory. -/
namespace Go.Proofs.Ytfkgpmidcbjlbaa.H
open Go.RowKit Go.Proofs.Ytfkgpmidcbjlbaa.U Go.Proofs.YtfkgpmidcbjlbaaW.PrintWords Go.Proofs.Ytfkgpmidcbjlbaa.P

def Opn.names : Opn → List ByteArray
  | .create n _ => [n]
  | .rename a b => [a, b]
  | .remove a => [a]
def rowSame (w w' : World) (m : Nat) : Prop := Below 0 w w' ∧ ∀ k, k < w.heap.size → k ≠ m → w'.heap[k]? = w.heap[k]?
theorem rowSame.turned {w w1 w2 : World} {m : Nat} (h : rowSame w w1 m) (ht : w1.mapTurned w2 m) : rowSame w w2 m := by
  have hg := ht.grown
  refine ⟨h.1.trans ⟨hg.os, hg.tape, hg.output, hg.size, fun k hk => absurd hk (Nat.not_lt_zero _)⟩, fun k hk hne => ?_⟩
  rw [hg.block k (Nat.lt_of_lt_of_le hk h.1.size) (fun e => hne (Option.some.inj e))]
  exact h.2 k hk hne
theorem rowSame.alloc (w : World) (m : Nat) (o : Obj) : rowSame w (w.alloc o) m := ⟨(Below.refl 0 w).alloc (Nat.zero_le _) o, fun k hk _ => Below.heap_alloc _ _ _ hk⟩
theorem turned_cell {w w1 : World} {m b : Nat} (ht : w.mapTurned w1 m) (hb : b ≠ m) (hlt : b < w.heap.size) (j : Nat) : w1.cell? ⟨b, j, none⟩ = w.cell? ⟨b, j, none⟩ :=
  World.cell?_of_block (w := w) (ht.grown.block b hlt (fun e => hb (Option.some.inj e)))
set_option maxRecDepth 100000 in
set_option maxHeartbeats 4000000 in
theorem apply_calls (m : Nat) (fb : Nat → Nat) (c : Dir) (o : Opn) (w : World) (h : HasDir w m fb c) (hn : ∀ n ∈ o.names, n.size ≤ maxLen) (hroom : c.length < maxLen) :
    Calls Try.prog 44 #[.map (some m), .agg (opRow fb o).toArray] w fun e w' => e = .returned (.tuple #[]) ∧ HasDir w' m fb (applyS c o) ∧ rowSame w w' m := by
  have hlt := h.lt
  have HN := hid hn
  have HR := hid hroom
  clear hn hroom
  have HB : Hid (∀ p, HasDir (w.alloc p) m fb c) := hid (fun p => h.move (Below.heap_alloc _ _ _ hlt))
  have HL := hid hlt
  clear h hlt
  go_enter Try.func44, Try.ntmps44
  cases o with
  | create n i =>
    simp only [opRow]
    go_wp2_with (first
      | (at_mapUpdate; refine wpList_put_dir _ rfl (.tmp 10) (.tmp 12) (.tmp 14) rfl m fb c n i rfl rfl rfl (HB.out _) (HN.out n (by simp [Opn.names])) HR.out ?_; intro w1 hd1 ht1; have HD1 := hid hd1; have HT1 := hid ht1; clear hd1 ht1))
    go_end0
    exact ⟨rfl, HD1.out, (rowSame.alloc w m _).turned HT1.out⟩
  | remove a =>
    simp only [opRow]
    go_wp2_with (first
      | (at_delete; refine wpList_del_dir _ rfl (.tmp 34) (.tmp 36) rfl m fb c a rfl rfl (HB.out _) (HN.out a (by simp [Opn.names])) ?_; intro w1 hd1 ht1; have HD1 := hid hd1; have HT1 := hid ht1; clear hd1 ht1))
    go_end0
    exact ⟨rfl, HD1.out, (rowSame.alloc w m _).turned HT1.out⟩
  | rename a b =>
    simp only [opRow]
    unfold applyS
    cases hg : dget c a with
    | none =>
      have HG := hid hg
      go_wp2_with (first
        | (at_lookup; refine wpList_look_dir _ rfl (.tmp 18) (.tmp 20) rfl m fb c a rfl rfl (HB.out _) (HN.out a (by simp [Opn.names])) none HG.out ?_; simp only [lookV]))
      go_end0
      exact ⟨rfl, HB.out _, rowSame.alloc w m _⟩
    | some i =>
      have HG := hid hg
      have HC2 : Hid (∀ w1, (w.alloc (.cells #[.int .i64 1, .string a, .string b, .pointer none] 89)).mapTurned w1 m → w1.cell? ⟨w.heap.size, 2, none⟩ = some (.string b)) := hid (fun w1 ht => by
        rw [turned_cell ht (Nat.ne_of_gt HL.out) (by simp) 2, cell_of_row _ _ _ _ _ _ (heap_alloc_new w _)]
        rfl)
      go_wp2_with (first
        | (at_lookup; refine wpList_look_dir _ rfl (.tmp 18) (.tmp 20) rfl m fb c a rfl rfl (HB.out _) (HN.out a (by simp [Opn.names])) (some i) HG.out ?_; simp only [lookV])
        | (at_delete; refine wpList_del_dir _ rfl (.tmp 25) (.tmp 27) rfl m fb c a rfl rfl (HB.out _) (HN.out a (by simp [Opn.names])) ?_; intro w1 hd1 ht1; have HD1 := hid hd1; have HT1 := hid ht1; have hc2 := HC2.out _ ht1; clear hd1 ht1)
        | (at_mapUpdate; refine wpList_put_dir _ rfl (.tmp 28) (.tmp 30) (.tmp 31) rfl m fb (ddel c a) b i rfl rfl rfl HD1.out (HN.out b (by simp [Opn.names])) (Nat.lt_of_le_of_lt (List.length_filter_le _ _) HR.out) ?_; intro w2 hd2 ht2; have HD2 := hid hd2; have HT2 := hid ht2; clear hd2 ht2))
      go_end0
      exact ⟨rfl, HD2.out, ((rowSame.alloc w m _).turned HT1.out).turned HT2.out⟩
end Go.Proofs.Ytfkgpmidcbjlbaa.H
end
section
set_option linter.unusedVariables false
set_option linter.unusedSimpArgs false
/- simdisk: a change of the directory, recorded. -/
namespace Go.Proofs.Ytfkgpmidcbjlbaa.H
open Go.RowKit Go.Proofs.Ytfkgpmidcbjlbaa.U Go.Proofs.YtfkgpmidcbjlbaaW.PrintWords Go.Proofs.Ytfkgpmidcbjlbaa.P

theorem infoOp : (Try.prog.info? 89).map (fun i => (i.zero, i.size, i.bytes)) = some (some (.agg #[.int .i64 0, .string ⟨#[]⟩, .string ⟨#[]⟩, .pointer none]), 4, 48) := by kernel_rfl
theorem opRow_len (fb : Nat → Nat) (o : Opn) : (opRow fb o).length = 4 := by cases o <;> rfl
theorem opRow_one (fb : Nat → Nat) (o : Opn) : ∀ u ∈ opRow fb o, u.oneCell' = true := by
  cases o <;> simp [opRow, Value.oneCell']
theorem opRow_four (fb : Nat → Nat) (o : Opn) : ∃ a b c d, opRow fb o = [a, b, c, d] := by cases o <;> exact ⟨_, _, _, _, rfl⟩
theorem cell_blk {w : World} {b : Nat} {cs : Array Value} {t : TypeId} {fr : Nat × Nat} (h : w.heap[b]? = some (.cells cs t fr)) (j : Nat) : w.cell? ⟨b, j, none⟩ = cs[j]? := cell_of_row _ _ _ _ _ _ h
theorem heap_drew (w : World) (k : Nat) : w.drew.heap[k]? = w.heap[k]? := rfl
theorem R_slice3 {α : Type} {k : Kd α} {e base : Nat} {ok : Nat → Prop} {w : World} {v : Value} {xs : List α} (h : k.R e w base ok v xs) : ∃ A n c, v = .slice A n c := by
  obtain ⟨A, c, e⟩ := Kd.R_slice h
  exact ⟨A, _, c, e⟩
def changeS (σ : St) (o : Opn) : St := doneS { σ with cur := applyS σ.cur o, pend := σ.pend ++ [o] }
set_option maxRecDepth 100000 in
set_option maxHeartbeats 4000000 in
theorem change_calls (d : Nat) (σ : St) (S : Nat → Prop) (fb : Nat → Nat) (fv : Nat → Value) (mc md : Nat) (pv : Value) (o : Opn) (w : World) (h : Disk w d σ S fb fv mc md pv) (hn : ∀ n ∈ o.names, n.size ≤ maxLen) (hc : σ.cur.length < maxLen) (hp : σ.pend.length ≤ 1099511627776) :
    Calls Try.prog 70 #[.pointer (some ⟨d, 0, none⟩), .agg (opRow fb o).toArray] w fun e w' => e = .returned (.int .i64 0) ∧ Moved w w' d (changeS σ o) S := by
  obtain ⟨x0, x1, x2, x3, hrow⟩ := opRow_four fb o
  have hone := opRow_one fb o
  rw [hrow] at hone ⊢
  have HO := hid hrow
  have HONE := hid hone
  have HN := hid hn
  have HCL := hid hc
  have HPL := hid hp
  have H := hid h
  have HX0 := hid (show x0.oneCell' = true from hone x0 (by simp))
  have HX1 := hid (show x1.oneCell' = true from hone x1 (by simp))
  have HX2 := hid (show x2.oneCell' = true from hone x2 (by simp))
  have HX3 := hid (show x3.oneCell' = true from hone x3 (by simp))
  have hdlt := h.lt d h.sd
  have HD : Hid (∀ p, Disk (w.alloc p) d σ S fb fv mc md pv) := hid (fun p => h.move (by simp) (fun k hk => Below.heap_alloc _ _ _ (h.lt k hk)))
  have c0 : (w.alloc (.cells #[x0, x1, x2, x3] 89)).cell? ⟨d, 0, none⟩ = some (.map (some mc)) := cell_blk (HD.out _).blk 0
  have b0 := cell_blk (heap_alloc_new w (.cells #[x0, x1, x2, x3] 89)) 0
  have b1 := cell_blk (heap_alloc_new w (.cells #[x0, x1, x2, x3] 89)) 1
  have b2 := cell_blk (heap_alloc_new w (.cells #[x0, x1, x2, x3] 89)) 2
  have b3 := cell_blk (heap_alloc_new w (.cells #[x0, x1, x2, x3] 89)) 3
  have HW1 : Hid (∀ w1, HasDir w1 mc fb (applyS σ.cur o) → rowSame (w.alloc (.cells #[x0, x1, x2, x3] 89)) w1 mc →
      Disk w1 d { σ with cur := applyS σ.cur o } S fb fv mc md pv ∧ w1.heap[w.heap.size]? = some (.cells #[x0, x1, x2, x3] 89 (0, 0)) ∧ Below 0 w w1 ∧ Kept w w1 S ∧ w.heap.size < w1.heap.size) := hid (fun w1 hd hr => by
    have hsz : w.heap.size < w1.heap.size := by have := hr.1.size; simp at this; omega
    refine ⟨(HD.out _).turnCur hr.1.size (fun k hk hne => hr.2 k (by have := H.out.lt k hk; simp; omega) hne) _ hd, ?_, ((Below.refl 0 w).alloc (Nat.zero_le _) _).trans hr.1, ?_, hsz⟩
    · rw [hr.2 _ (by simp) (Nat.ne_of_gt (H.out.lt mc H.out.sc))]
      exact heap_alloc_new _ _
    · refine ⟨Nat.le_of_lt hsz, fun k hk hS => ?_⟩
      rw [hr.2 k (by simp; omega) (fun e => hS (e ▸ H.out.sc)), Below.heap_alloc _ _ _ hk])
  have HCA : Hid (∀ w1, HasDir w1 mc fb σ.cur → Calls Try.prog 44 #[.map (some mc), .agg #[x0, x1, x2, x3]] w1 fun e w' => e = .returned (.tuple #[]) ∧ HasDir w' mc fb (applyS σ.cur o) ∧ rowSame w1 w' mc) := hid (fun w1 hd => by
    have := apply_calls mc fb σ.cur o w1 hd hn hc
    rw [hrow] at this
    exact this)
  have HDR : Hid (HasDir (w.alloc (.cells #[x0, x1, x2, x3] 89)).drew mc fb σ.cur) := hid ((HD.out _).cur.move rfl)
  clear h hn hc hp hone hrow
  go_enter Try.func70, Try.ntmps70
  go_wp2
  go_region_with (first | (go_at_call 44; refine (HCA.out _ HDR.out).mono ?_; rintro e w1 ⟨rfl, hd1, hs1⟩; have HH := hid (HW1.out w1 hd1 ⟨(Below.refl 0 _).drew.trans hs1.1, hs1.2⟩); clear hd1 hs1))
  all_goals
    obtain ⟨hdk, hbk, hb0, hkp, hsz⟩ := HH.out
    have HDK := hid hdk
    have HBK := hid hbk
    have HB0 := hid hb0
    have HKP := hid hkp
    have HSZ := hid hsz
    have p2 : w1.cell? ⟨d, 2, none⟩ = some pv := cell_blk hdk.blk 2
    have p2a : (w1.alloc (.cells #[x0, x1, x2, x3] 89)).cell? ⟨d, 2, none⟩ = some pv := cell_blk ((Below.heap_alloc _ _ _ (hdk.lt d hdk.sd)).trans hdk.blk) 2
    have b0 : w1.cell? ⟨w.heap.size, 0, none⟩ = some x0 := cell_blk hbk 0
    have b1 : w1.cell? ⟨w.heap.size, 1, none⟩ = some x1 := cell_blk hbk 1
    have b2 : w1.cell? ⟨w.heap.size, 2, none⟩ = some x2 := cell_blk hbk 2
    have b3 : w1.cell? ⟨w.heap.size, 3, none⟩ = some x3 := cell_blk hbk 3
    have HLEN := hid (show (σ.pend.map (opRow fb)).length ≤ 1099511627776 by rw [List.length_map]; exact HPL.out)
    have HPR : Hid ((Kd.raw 4).R 89 w1.drew 0 (fun _ => True) pv (σ.pend.map (opRow fb))) := hid (Kd.raw_any (row_move hdk.pend (fun _ _ => rfl)))
    have HNE : Hid (∀ w2, w1.drew.grownBy w2 pv.ownBlock → w2.heap[d]? = some (.cells #[.map (some mc), .map (some md), pv, .bool σ.lim, .int .i64 σ.left] 79 (0, 0))) := hid (fun w2 hg => by
      rw [hg.block d (hdk.lt d hdk.sd) (fun e => by
        obtain ⟨c, hc⟩ := hdk.pend_ty e.symm
        exact ne_type hdk.blk hc (by decide) rfl)]
      exact hdk.blk)
    have HFIN : Hid (∀ v2 w2, (Kd.raw 4).R 89 w2 0 (fun _ => True) v2 (σ.pend.map (opRow fb) ++ [[x0, x1, x2, x3]]) → Below 0 w1 w2 → w1.drew.grownBy w2 pv.ownBlock → (v2.ownBlock = pv.ownBlock ∨ ∃ b, v2.ownBlock = some b ∧ w1.drew.heap.size ≤ b) →
        ∃ S1 : Nat → Prop, (∀ w4 τ, Moved (w2.setCell ⟨d, 2, none⟩ v2) w4 d τ S1 → Moved w w4 d τ S) ∧ DiskAt (w2.setCell ⟨d, 2, none⟩ v2) d { σ with cur := applyS σ.cur o, pend := σ.pend ++ [o] } S1) := hid (fun v2 w2 hr hb hg hat => by
      have hsz2 : w1.heap.size ≤ w2.heap.size := hg.size
      have hdisk := hdk.turnPend (w' := w2.setCell ⟨d, 2, none⟩ v2) (by rw [setCell_size]; exact hsz2) v2 (by
          rcases hat with hat | ⟨b, hat, hle⟩
          · exact .inl hat
          · obtain ⟨cs, hcs⟩ := row_typed hr hat
            exact .inr (.inr ⟨b, hat, hle, by rw [setCell_size]; exact (Array.getElem?_eq_some_iff.1 hcs).1⟩))
        (fun k hk hne hpv => by
          rw [heap_setCell_other _ _ _ _ hne]
          exact hg.block k (hdk.lt k hk) hpv)
        (heap_setCell_same w2 d 2 _ _ v2 (HNE.out w2 hg)) (σ.pend ++ [o]) (by
          rw [List.map_append, List.map_cons, List.map_nil, HO.out]
          have ht := Kd.raw_tight hr
          refine row_move ht (fun j hj => heap_setCell_other _ _ _ _ ?_)
          obtain ⟨cs, hcs⟩ := row_typed hr hj
          exact (ne_type (HNE.out w2 hg) hcs (by decide)).symm)
      refine ⟨_, fun w4 τ hm => ?_, _, _, _, _, _, hdisk⟩
      obtain ⟨mb, mk, S2, m2, md2⟩ := hm
      refine ⟨(hb0.trans hb).trans ((below_setCell0 _ _ _).trans mb), ?_, S2, fun k hk => ?_, md2⟩
      · refine ((hkp.then_ (S2 := S) (W2 := w2.setCell ⟨d, 2, none⟩ v2) ⟨by rw [setCell_size]; exact hsz2, fun k hk hS => ?_⟩ (fun _ h => .inl h)).then_ mk (fun k hk => ?_))
        · rw [heap_setCell_other _ _ _ _ (show k ≠ d from fun e => hS (by rw [e]; exact hdk.sd))]
          exact hg.block k hk (fun e => hS (hdk.sp k e.symm))
        · rcases hk with hk | hk
          · exact .inl hk
          · exact .inr (by omega)
      · rcases m2 k hk with (h3 | h3) | h3
        · exact .inl h3
        · exact .inr (by omega)
        · exact .inr (by rw [setCell_size] at h3; omega))
    clear hdk hbk hb0 hkp hsz HH
    go_wp2
    go_region_law (refine Kd.R_append_step (Kd.raw 4) (w0 := w1) 0 (by simp [Region.wanted]) (.tmp 15) (.tmp 17) 77 89 (.agg #[.int .i64 0, .string ⟨#[]⟩, .string ⟨#[]⟩, .pointer none]) 48 rfl Try.underlying77 infoOp rfl (by decide) (by decide) pv (σ.pend.map (opRow fb)) [x0, x1, x2, x3] [x0, x1, x2, x3] (fun _ => True) (fun _ => False) rfl (by first | (go_simp; done) | (go_simp; rfl)) ⟨rfl, rfl, HONE.out⟩ (fun _ hk => hk.elim) (fun _ _ => trivial) HPR.out ((Below.refl 0 w1).drew) (Nat.zero_le _) (by have := HLEN.out; omega) ?_; intro v2 w2 hr2 hb2 hg2 hat2; obtain ⟨A2, N2, n2, rfl⟩ := R_slice3 hr2; have hp2 : w2.cell? ⟨d, 2, none⟩ = some pv := cell_blk (HNE.out w2 hg2) 2; have hf2 := frozen_of_row w2 d 2 _ _ (HNE.out w2 hg2); have HR2 := hid hr2; have HB2 := hid hb2; have HG2 := hid hg2; have HAT2 := hid hat2; clear hr2 hb2 hg2 hat2)
    all_goals
      obtain ⟨S1, hS1, hD1⟩ := HFIN.out _ _ HR2.out HB2.out HG2.out HAT2.out
      have HS1 := hid hS1
      have HD1 := hid hD1
      clear hS1 hD1
      go_wp2_with (go_at_call 68; refine (done_calls d _ S1 _ HD1.out).mono ?_; rintro e w4 ⟨rfl, hm⟩; have HM := hid hm; clear hm)
      go_ret
      exact ⟨rfl, HS1.out _ _ HM.out⟩
end Go.Proofs.Ytfkgpmidcbjlbaa.H
end
