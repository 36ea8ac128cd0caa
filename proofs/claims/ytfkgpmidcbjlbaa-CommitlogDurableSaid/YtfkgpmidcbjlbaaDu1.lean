/- Part 1 of a proof; each section was a text of its own. -/
import Derived.Test.YtfkgpmidcbjlbaaProg
import Derived.Below
import Derived.Deep.Draws
import Derived.Deep.AppendLies
import Derived.Maps.AppendAt
import Derived.OwnWalk
import Derived.Laws.BytesArg
import Derived.Laws.MakeOwn
import Derived.Laws.OwnMore
import Derived.Deep.OwnRows
import Derived.Tactics
import Derived.Lib.ConvBytes
import Derived.Laws.Slices
import Derived.WalkKit
import Derived.KernelRfl
import Derived.RowKit3
import Derived.Deep.LoopGhost
import Derived.Deep.QuietTactic
import Derived.BigQuiet
import Derived.WideLaws
import Derived.Deep.DeepCutAuto
import Derived.Deep.CutBlock
import Derived.Deep.RegionHeld3
import Derived.Laws.Rows
import Derived.Lib.AppendStr
import Derived.ArgAppend
import Derived.Laws.IdiomCopy
import Derived.OrdersHeld
import Derived.Laws.BitsLemmas
import Derived.RowKit
import Derived.Test.YtfkgpmidcbjlbaaWWords
import Derived.Test.YtfkgpmidcbjlbaaWLast
import Derived.Test.YtfkgpmidcbjlbaaWTab
import Derived.Test.YtfkgpmidcbjlbaaWFour
import Derived.Test.YtfkgpmidcbjlbaaWQPut
import Derived.Test.YtfkgpmidcbjlbaaWApart
import Derived.Test.YtfkgpmidcbjlbaaWArr
import Derived.Test.YtfkgpmidcbjlbaaWZeros
import Derived.Test.YtfkgpmidcbjlbaaWFoot
import Derived.Test.YtfkgpmidcbjlbaaWKept
import Derived.Test.YtfkgpmidcbjlbaaWShare
import Derived.Test.YtfkgpmidcbjlbaaWN
import Derived.Test.YtfkgpmidcbjlbaaWFootNe
import Derived.Test.YtfkgpmidcbjlbaaWAt
import Derived.Test.YtfkgpmidcbjlbaaWEqStruct
import Derived.Test.YtfkgpmidcbjlbaaWRepsOne
import Derived.Test.YtfkgpmidcbjlbaaWInv
import Derived.Test.YtfkgpmidcbjlbaaWInvWords
import Derived.Test.YtfkgpmidcbjlbaaWGuard
import Derived.Test.YtfkgpmidcbjlbaaWNEv
import Derived.Test.YtfkgpmidcbjlbaaWMore
import Derived.Laws.Bits64
import Derived.Laws.BitsAllLaws
import Derived.Laws.CopyOwn
section
set_option linter.unusedVariables false
set_option linter.unusedSimpArgs false
-- Written by a program of this session (a printer of walks).
namespace Go.Proofs.Ytfkgpmidcbjlbaa.P
open Go.RowKit Go.Proofs.YtfkgpmidcbjlbaaW.PrintWords Go.Proofs.YtfkgpmidcbjlbaaW.PrintLast Go.Proofs.YtfkgpmidcbjlbaaW.PrintMore
attribute [local go_sem] max2_int min2_int max_two min_two max_three min_three max_four min_four   -- for this text's walks alone
set_option linter.unusedVariables false
set_option linter.unusedSimpArgs false



def errW : Option Int → Value
  | none => .nilIface
  | some c => .iface 0 (.int .i64 c)
theorem errW_none : errW none = .nilIface := rfl
theorem errW_some (c : Int) : errW (some c) = .iface 0 (.int .i64 c) := rfl

theorem info5 : (Try.prog.info? 5).map (fun i => (i.zero, i.size, i.bytes)) = some (some (.int .u8 0), 1, 1) := by kernel_rfl
theorem info23 : (Try.prog.info? 23).map (fun i => (i.zero, i.size, i.bytes)) = some (some (.agg #[(.int .i64 0), (.int .i64 0), (.int .i64 0), (.int .i64 0), (.int .i64 0), (.string ⟨#[]⟩)]), 6, 56) := by kernel_rfl
-- the values' own types
/-! #### struct type 23 -/
structure S23 where
  f0 : Int
  f1 : Int
  f2 : Int
  f3 : Int
  f4 : Int
  f5 : ByteArray
def z23 : S23 := ⟨(0 : Int), (0 : Int), (0 : Int), (0 : Int), (0 : Int), (⟨#[]⟩ : ByteArray)⟩
def k23 : Kd S23 := Kd.iso (Kd.pair (Kd.int .i64) (Kd.pair (Kd.int .i64) (Kd.pair (Kd.int .i64) (Kd.pair (Kd.int .i64) (Kd.pair (Kd.int .i64) Kd.string))))) (fun x : S23 => (x.f0, x.f1, x.f2, x.f3, x.f4, x.f5))
theorem k23_open {w : World} {x : S23} {cs : List Value} (h : k23.K w x cs) : cs = [.int .i64 x.f0, .int .i64 x.f1, .int .i64 x.f2, .int .i64 x.f3, .int .i64 x.f4, .string x.f5] := by
  obtain ⟨_, _, rfl, rfl, ⟨_, _, rfl, rfl, ⟨_, _, rfl, rfl, ⟨_, _, rfl, rfl, ⟨_, _, rfl, rfl, rfl⟩⟩⟩⟩⟩ := h
  exact rfl
theorem k23_mk (w : World) (x : S23)  : k23.K w x [.int .i64 x.f0, .int .i64 x.f1, .int .i64 x.f2, .int .i64 x.f3, .int .i64 x.f4, .string x.f5] := ⟨[.int .i64 x.f0], [.int .i64 x.f1, .int .i64 x.f2, .int .i64 x.f3, .int .i64 x.f4, .string x.f5], rfl, rfl, ⟨[.int .i64 x.f1], [.int .i64 x.f2, .int .i64 x.f3, .int .i64 x.f4, .string x.f5], rfl, rfl, ⟨[.int .i64 x.f2], [.int .i64 x.f3, .int .i64 x.f4, .string x.f5], rfl, rfl, ⟨[.int .i64 x.f3], [.int .i64 x.f4, .string x.f5], rfl, rfl, ⟨[.int .i64 x.f4], [.string x.f5], rfl, rfl, rfl⟩⟩⟩⟩⟩
theorem k23_mkM (w : World) (base : Nat) (ok : Nat → Prop) (x : S23)  : k23.M w base ok x [.int .i64 x.f0, .int .i64 x.f1, .int .i64 x.f2, .int .i64 x.f3, .int .i64 x.f4, .string x.f5] := ⟨[.int .i64 x.f0], [.int .i64 x.f1, .int .i64 x.f2, .int .i64 x.f3, .int .i64 x.f4, .string x.f5], rfl, rfl, ⟨[.int .i64 x.f1], [.int .i64 x.f2, .int .i64 x.f3, .int .i64 x.f4, .string x.f5], rfl, rfl, ⟨[.int .i64 x.f2], [.int .i64 x.f3, .int .i64 x.f4, .string x.f5], rfl, rfl, ⟨[.int .i64 x.f3], [.int .i64 x.f4, .string x.f5], rfl, rfl, ⟨[.int .i64 x.f4], [.string x.f5], rfl, rfl, rfl⟩⟩⟩⟩⟩
def rd_T23 (xs : List S23) (i : Int) : S23 := xs.getD i.toNat z23
theorem at_T23 {w : World} {A : Option Addr} {n : Nat} {xs : List S23} (h : Kd.C k23 w A n xs) (i : Int) (h0 : 0 ≤ i) (h1 : i < n) : ∃ ad , A = some ad ∧ w.cell? (ad.add (i.toNat * 6)) = some (.int .i64 (rd_T23 xs i).f0) ∧ w.cell? ⟨(ad.add (i.toNat * 6)).block, (ad.add (i.toNat * 6)).off + 1, none⟩ = some (.int .i64 (rd_T23 xs i).f1) ∧ w.cell? ⟨(ad.add (i.toNat * 6)).block, (ad.add (i.toNat * 6)).off + 2, none⟩ = some (.int .i64 (rd_T23 xs i).f2) ∧ w.cell? ⟨(ad.add (i.toNat * 6)).block, (ad.add (i.toNat * 6)).off + 3, none⟩ = some (.int .i64 (rd_T23 xs i).f3) ∧ w.cell? ⟨(ad.add (i.toNat * 6)).block, (ad.add (i.toNat * 6)).off + 4, none⟩ = some (.int .i64 (rd_T23 xs i).f4) ∧ w.cell? ⟨(ad.add (i.toNat * 6)).block, (ad.add (i.toNat * 6)).off + 5, none⟩ = some (.string (rd_T23 xs i).f5) := by
  obtain ⟨ad, c, e, _, hK, hc0⟩ := Kd.C_get h z23 i h0 h1
  have hc : ∀ j u, c[j]? = some u → w.cell? (ad.add (i.toNat * 6 + j)) = some u := hc0
  obtain rfl := k23_open hK
  exact ⟨ad, e, hc 0 _ rfl, by rw [← add_field _ _ 1 (by omega)]; exact hc 1 _ rfl, by rw [← add_field _ _ 2 (by omega)]; exact hc 2 _ rfl, by rw [← add_field _ _ 3 (by omega)]; exact hc 3 _ rfl, by rw [← add_field _ _ 4 (by omega)]; exact hc 4 _ rfl, by rw [← add_field _ _ 5 (by omega)]; exact hc 5 _ rfl⟩

def rd_L4 (xs : List (List Int)) (i : Int) : (List Int) := xs.getD i.toNat ([] : List Int)
theorem at_L4 {w : World} {A : Option Addr} {n : Nat} {xs : List (List Int)} (h : Kd.C (Kd.slice 5 (Kd.int .u8)) w A n xs) (i : Int) (h0 : 0 ≤ i) (h1 : i < n) : ∃ ad A0 c0, A = some ad ∧ w.cell? (ad.add i.toNat) = some (.slice A0 (rd_L4 xs i).length c0) ∧ (rd_L4 xs i).length ≤ c0 ∧ (Kd.int .u8).C w A0 (rd_L4 xs i).length (rd_L4 xs i) := by
  obtain ⟨ad, c, e, _, hK, hc0⟩ := Kd.C_get h ([] : List Int) i h0 h1
  have hc : ∀ j u, c[j]? = some u → w.cell? (ad.add (i.toNat * 1 + j)) = some u := hc0
  obtain ⟨A0, c0, rfl, l0, g0⟩ := hK
  exact ⟨ad, A0, c0, e, by have hq := hc 0 _ rfl; rwa [Nat.mul_one, Nat.add_zero] at hq, l0, g0⟩

end Go.Proofs.Ytfkgpmidcbjlbaa.P
end
section
set_option linter.unusedVariables false
set_option linter.unusedSimpArgs false
/- Plain: a printed function answers r from some number of rounds on. -/
namespace Go.Proofs.Ytfkgpmidcbjlbaa.U
open Go.RowKit
/-- from some number of rounds on, g answers r -/
def Ev {α : Type} (g : Nat → Option α) (r : α) : Prop := ∃ K, ∀ k, K ≤ k → g k = some r
theorem Ev.of {α : Type} {g : Nat → Option α} {r : α} (h : ∀ k, g k = some r) : Ev g r := ⟨0, fun k _ => h k⟩
theorem Ev.pure {α : Type} (r : α) : Ev (fun _ => some r) r := ⟨0, fun _ _ => rfl⟩
theorem Ev.get {α : Type} {g : Nat → Option α} {r : α} (h : Ev g r) : ∃ k, g k = some r := let ⟨K, hK⟩ := h; ⟨K, hK K (Nat.le_refl K)⟩
theorem Ev.congr {α : Type} {g g' : Nat → Option α} {r : α} (h : Ev g r) (e : ∀ k, g' k = g k) : Ev g' r := let ⟨K, hK⟩ := h; ⟨K, fun k hk => (e k).trans (hK k hk)⟩
theorem Ev.step {α : Type} {F G : Nat → Option α} {r : α} (e : ∀ k, F (k + 1) = G k) (h : Ev G r) : Ev F r :=
  let ⟨K, hK⟩ := h
  ⟨K + 1, fun k hk => by
    obtain ⟨m, rfl⟩ : ∃ m, k = m + 1 := ⟨k - 1, by omega⟩
    rw [e]; exact hK m (by omega)⟩
theorem Ev.bind {α β : Type} {g : Nat → Option α} {h : Nat → α → Option β} {a : α} {r : β} (h1 : Ev g a) (h2 : Ev (fun k => h k a) r) : Ev (fun k => (g k).bind (h k)) r :=
  let ⟨K, hK⟩ := h1
  let ⟨L, hL⟩ := h2
  ⟨max K L, fun k hk => by
    show (g k).bind (h k) = some r
    rw [hK k (by omega)]
    exact hL k (by omega)⟩
theorem Ev.pos {α : Type} {c : Prop} [Decidable c] {g g' : Nat → Option α} {r : α} (hc : c) (h : Ev g r) : Ev (fun k => if c then g k else g' k) r := h.congr fun _ => if_pos hc
theorem Ev.neg {α : Type} {c : Prop} [Decidable c] {g g' : Nat → Option α} {r : α} (hc : ¬ c) (h : Ev g' r) : Ev (fun k => if c then g k else g' k) r := h.congr fun _ => if_neg hc
theorem Ev.ite {α : Type} {c : Prop} [Decidable c] {g g' : Nat → Option α} {r : α} (h1 : c → Ev g r) (h2 : ¬ c → Ev g' r) : Ev (fun k => if c then g k else g' k) r :=
  if hc : c then (h1 hc).pos hc else (h2 hc).neg hc
theorem w64 (x : Int) (h0 : -9223372036854775808 ≤ x) (h1 : x < 9223372036854775808) : wrap64 x = x := by unfold wrap64; omega
theorem wu64 (x : Int) (h0 : 0 ≤ x) (h1 : x < 18446744073709551616) : IntKind.u64.wrap x = x := by
  rw [IntKind.wrap_u64]; omega
end Go.Proofs.Ytfkgpmidcbjlbaa.U
end
section
set_option linter.unusedVariables false
set_option linter.unusedSimpArgs false
-- Written by a program of this session (a printer of walks).
namespace Go.Proofs.Ytfkgpmidcbjlbaa.P
open Go.RowKit Go.Proofs.YtfkgpmidcbjlbaaW.PrintWords Go.Proofs.YtfkgpmidcbjlbaaW.PrintLast Go.Proofs.YtfkgpmidcbjlbaaW.PrintMore
attribute [local go_sem] max2_int min2_int max_two min_two max_three min_three max_four min_four   -- for this text's walks alone
set_option linter.unusedVariables false
set_option linter.unusedSimpArgs false

/-! ### varint_Encode: function 25 -/
def varint_Encode.l0 : Nat → Int → List Int → Option (List Int)
  | 0, _, _ => none
  | k + 1, x0, x3 => if x0 ≥ 128 then (if x3.length < 140737488355328 then (varint_Encode.l0 k (x0 / 128) (x3 ++ [Go.bits .or .u8 ((x0) % 256) 128])) else (none)) else (if x3.length < 140737488355328 then (some (x3 ++ [(x0) % 256])) else (none))
def varint_Encode.f (k : Nat) (a0 : Int) : Option (List Int) := varint_Encode.l0 k a0 ([] : List Int)
theorem varint_Encode.mono_l : ∀ k, (∀ y0 y1, LeO (varint_Encode.l0 k y0 y1) (varint_Encode.l0 (k + 1) y0 y1))
  | 0 => fun _ _ r h => by simp [varint_Encode.l0] at h
  | k + 1 => by
    have ih0 := varint_Encode.mono_l k
    · intro y0 y1
      unfold varint_Encode.l0
      repeat' first
      | (with_reducible exact ih0 _ _)
      | (with_reducible exact LeO.refl _)
      | (with_reducible exact LeO.none _)
      | (with_reducible refine LeO.ite ?_ ?_)
      | (with_reducible refine LeO.bind ?_ (fun _ => ?_))
      | exact ih0 _ _
      | exact LeO.none _
      | refine LeO.ite ?_ ?_
      | refine LeO.bind ?_ (fun _ => ?_)
theorem varint_Encode.mono : ∀ a0 k, LeO (varint_Encode.f k a0) (varint_Encode.f (k + 1) a0) := by
  intro a0 k
  have ih0 := varint_Encode.mono_l k
  unfold varint_Encode.f
  repeat' first
      | (with_reducible exact ih0 _ _)
      | (with_reducible exact LeO.refl _)
      | (with_reducible exact LeO.none _)
      | (with_reducible refine LeO.ite ?_ ?_)
      | (with_reducible refine LeO.bind ?_ (fun _ => ?_))
      | exact ih0 _ _
      | exact LeO.none _
      | refine LeO.ite ?_ ?_
      | refine LeO.bind ?_ (fun _ => ?_)
set_option maxHeartbeats 8000000 in
set_option maxRecDepth 100000 in
theorem varint_Encode.calls (k : Nat) (a0 : Int) (r : List Int) (w : World) (h : varint_Encode.f k a0 = some r) :
    Calls Try.prog 25 #[.int .u64 a0] w fun e w' => ∃ v0_ : Value, e = .returned (v0_) ∧ Kd.R (Kd.int .u8) 5 w' w.heap.size (fun _ => True) v0_ r ∧ Below w.heap.size w w' := by
  have HB := Aside0.mk (Below.refl w.heap.size w)
  have H : (varint_Encode.l0 k a0 ([] : List Int)) = some r := h
  clear h
  have H' := Aside0.mk H
  clear H
  go_enter Try.func25, Try.ntmps25
  go_wp2
  go_loopg [0, 3] k (fun kq v0 v3 w' => ∃ (x0_1 : Int) (x3_1 : List Int), v0 = .int .u64 x0_1 ∧ Aside0 (varint_Encode.l0 kq x0_1 x3_1 = some r) ∧ Aside0 (kq ≤ k) ∧ Aside0 (Kd.R (Kd.int .u8) 5 w' w.heap.size (fun _ => True) v3 x3_1) ∧ Aside0 (Below w.heap.size w w'))
  case atStart => exact ⟨(a0), (([] : List Int)), (by first | rfl | (simp; done) | (simp [*]; done)), H', ⟨Nat.le_refl _⟩, ⟨by first | exact Kd.R_nil _ _ _ _ _ | exact Kd.N_nil _ _ _ _ _ | exact Kd.V_nil _ _ _ _ _ | exact Kd.Q_nil _ _ _ _ _ | exact Kd.S_nil _ _ _ _ _⟩, ⟨by repeat (first | (with_reducible first | exact HB.out | apply below_alloc | apply pw_below_drewN | apply below_drew1) | exact HB.out)⟩⟩
  case round =>
    clear H'
    obtain ⟨x0_1, x3_1, rfl, HA, HK1, HO_3, HB⟩ := hrel
    cases gk with
    | zero => exact absurd HA.out (by simp [varint_Encode.l0])
    | succ k1 =>
      have H := HA.out
      clear HA
      simp only [varint_Encode.l0] at H
      by_cases c2 : x0_1 ≥ 128
      · rw [if_pos c2] at H
        have c2b0 : decide (128 ≤ x0_1) = true := decide_eq_true c2
        clear c2
        by_cases c3 : x3_1.length < 140737488355328
        · rw [if_pos c3] at H
          have LMc3 := Aside0.mk c3
          clear c3
          obtain ⟨y101, hy101⟩ : ∃ y_ : List Int, y_ = (x3_1 ++ [Go.bits .or .u8 ((x0_1) % 256) 128]) := ⟨_, rfl⟩
          replace H : (varint_Encode.l0 k1 (x0_1 / 128) y101) = some r := by first | (rw [hy101]; with_reducible exact H) | (have H2_ := (Option.bind_some _ _).symm.trans H; rw [hy101]; with_reducible exact H2_) | (have H2_ := (Option.bind_some _ _).symm.trans H; with_reducible exact H2_) | with_reducible exact H | (rw [hy101]; exact H) | exact H
          have Ny101 := Aside0.mk hy101
          clear hy101
          have H' := Aside0.mk H
          clear H
          go_wp2_with (first | ((with_reducible refine gate_builtin (b := .append) (xs := #[.tmp 6, .tmp 10]) rfl ?_); at_builtin; refine Kd.R_append (Kd.int .u8) (w0 := w) w.heap.size rfl (.tmp 6) (.tmp 10) 24 5 (.int .u8 0) 1 rfl Try.underlying24 info5 rfl (by decide) (by omega) u3 x3_1 (Go.bits .or .u8 ((x0_1) % 256) 128) [.int .u8 (Go.bits .or .u8 ((x0_1) % 256) 128)] (fun _ => True) (fun _ => False) rfl rfl ?aP (fun _ hk => hk.elim) ?aF ?aO ?aB ?aS ?aL ?_; (case aP => exact rfl); (case aB => exact (by repeat (first | (with_reducible first | exact HB.out | apply below_alloc | apply pw_below_drewN | apply below_drew1) | exact HB.out))); (case aF => exact (fun _ _ => trivial)); (case aO => exact (by (with_reducible repeat (first | apply Kd.R_alloc | apply Kd.R_drewN | apply Kd.R_drew)); exact HO_3.out)); (case aS => exact (below_size (by repeat (first | (with_reducible first | exact HB.out | apply below_alloc | apply pw_below_drewN | apply below_drew1) | exact HB.out)))); (case aL => have := LMc3.out; omega); intro v102 w4 ho hb hg hat; rw [← Ny101.out] at ho; have n0_ := Aside0.mk (hb); have n1_ := Aside0.mk (ho); clear HB; clear HO_3; have HB := n0_; have HO103 := n1_; clear n0_ n1_; clear ho hb hg hat))
          go_roundg k1
          case measure => have := HK1.out; omega
          case rel => exact ⟨(x0_1 / 128), (y101), (by first | rfl | (simp; done) | (simp [*]; done)), H', ⟨by have := HK1.out; omega⟩, ⟨by (with_reducible repeat (first | apply Kd.R_alloc | apply Kd.R_drewN | apply Kd.R_drew)); exact HO103.out⟩, ⟨by repeat (first | (with_reducible first | exact HB.out | apply below_alloc | apply pw_below_drewN | apply below_drew1) | exact HB.out)⟩⟩
        · rw [if_neg c3] at H
          exact absurd H (by simp)
      · rw [if_neg c2] at H
        have c2b0 : decide (128 ≤ x0_1) = false := decide_eq_false c2
        clear c2
        by_cases c5 : x3_1.length < 140737488355328
        · rw [if_pos c5] at H
          have LMc5 := Aside0.mk c5
          clear c5
          obtain ⟨y104, hy104⟩ : ∃ y_ : List Int, y_ = (x3_1 ++ [(x0_1) % 256]) := ⟨_, rfl⟩
          replace H : (some y104) = some r := by first | (rw [hy104]; with_reducible exact H) | (have H2_ := (Option.bind_some _ _).symm.trans H; rw [hy104]; with_reducible exact H2_) | (have H2_ := (Option.bind_some _ _).symm.trans H; with_reducible exact H2_) | with_reducible exact H | (rw [hy104]; exact H) | exact H
          have Ny104 := Aside0.mk hy104
          clear hy104
          obtain rfl := Option.some.inj H
          go_wp2_with (first | ((with_reducible refine gate_builtin (b := .append) (xs := #[.tmp 14, .tmp 17]) rfl ?_); at_builtin; refine Kd.R_append (Kd.int .u8) (w0 := w) w.heap.size rfl (.tmp 14) (.tmp 17) 24 5 (.int .u8 0) 1 rfl Try.underlying24 info5 rfl (by decide) (by omega) u3 x3_1 ((x0_1) % 256) [.int .u8 ((x0_1) % 256)] (fun _ => True) (fun _ => False) rfl rfl ?aP (fun _ hk => hk.elim) ?aF ?aO ?aB ?aS ?aL ?_; (case aP => exact rfl); (case aB => exact (by repeat (first | (with_reducible first | exact HB.out | apply below_alloc | apply pw_below_drewN | apply below_drew1) | exact HB.out))); (case aF => exact (fun _ _ => trivial)); (case aO => exact (by (with_reducible repeat (first | apply Kd.R_alloc | apply Kd.R_drewN | apply Kd.R_drew)); exact HO_3.out)); (case aS => exact (below_size (by repeat (first | (with_reducible first | exact HB.out | apply below_alloc | apply pw_below_drewN | apply below_drew1) | exact HB.out)))); (case aL => have := LMc5.out; omega); intro v105 w6 ho hb hg hat; rw [← Ny104.out] at ho; have n0_ := Aside0.mk (hb); have n1_ := Aside0.mk (ho); clear HB; clear HO_3; have HB := n0_; have HO106 := n1_; clear n0_ n1_; clear ho hb hg hat))
          go_ret
          exact ⟨_, by first | rfl | (simp [errW_none, errW_some] <;> rfl) | (simp [*, errW_none, errW_some] <;> rfl), by (with_reducible repeat (first | apply Kd.R_alloc | apply Kd.R_drewN | apply Kd.R_drew)); exact HO106.out, by repeat (first | (with_reducible first | exact HB.out | apply below_alloc | apply pw_below_drewN | apply below_drew1) | exact HB.out)⟩
        · rw [if_neg c5] at H
          exact absurd H (by simp)

end Go.Proofs.Ytfkgpmidcbjlbaa.P
end
section
set_option linter.unusedVariables false
set_option linter.unusedSimpArgs false
-- Written by a program of this session (a printer of walks).
namespace Go.Proofs.Ytfkgpmidcbjlbaa.P
open Go.RowKit Go.Proofs.YtfkgpmidcbjlbaaW.PrintWords Go.Proofs.YtfkgpmidcbjlbaaW.PrintLast Go.Proofs.YtfkgpmidcbjlbaaW.PrintMore
attribute [local go_sem] max2_int min2_int max_two min_two max_three min_three max_four min_four   -- for this text's walks alone
set_option linter.unusedVariables false
set_option linter.unusedSimpArgs false

/-! ### varint_Decode: function 32 -/
mutual
def varint_Decode.j0 : Nat → List Int → Int → Bool → Option (Int × Int × Int)
  | 0, _, _, _ => none
  | k + 1, x0, x1, x17 => if x17 = true then (some (0, 0, 1)) else (varint_Decode.l0 k x0 x1 0 0)
def varint_Decode.l0 : Nat → List Int → Int → Int → Int → Option (Int × Int × Int)
  | 0, _, _, _, _ => none
  | k + 1, x0, x1, x7, x18 => if x18 < 10 then (if (wrap64 (x1 + x18)) ≥ (x0.length : Int) then (some (0, 0, 2)) else (if 0 ≤ (wrap64 (x1 + x18)) then (if (wrap64 (x1 + x18)) < (x0.length : Int) then (if x18 = 9 then (varint_Decode.j2 k x0 x1 x7 x18 (rd x0 (wrap64 (x1 + x18))) x18 (decide ((rd x0 (wrap64 (x1 + x18))) > 1))) else (varint_Decode.j2 k x0 x1 x7 x18 (rd x0 (wrap64 (x1 + x18))) x18 false)) else (none)) else (none))) else (some (0, 0, 4))
def varint_Decode.j2 : Nat → List Int → Int → Int → Int → Int → Int → Bool → Option (Int × Int × Int)
  | 0, _, _, _, _, _, _, _ => none
  | k + 1, x0, x1, x7, x8, x9, x18, x38 => if x38 = true then (some (0, 0, 4)) else (if 0 ≤ (wrap64 (7 * x8)) then (if x9 ≥ 128 then (varint_Decode.l0 k x0 x1 (Go.bits .or .u64 x7 (shl .u64 (IntKind.u64.wrap (Go.bits .and .u8 x9 127)) (wrap64 (7 * x8)))) (wrap64 (x18 + 1))) else (if x9 = 0 then (if x8 > 0 then (some (0, 0, 4)) else (some (Go.bits .or .u64 x7 (shl .u64 (IntKind.u64.wrap (Go.bits .and .u8 x9 127)) (wrap64 (7 * x8))), wrap64 ((wrap64 (x1 + x8)) + 1), 0))) else (some (Go.bits .or .u64 x7 (shl .u64 (IntKind.u64.wrap (Go.bits .and .u8 x9 127)) (wrap64 (7 * x8))), wrap64 ((wrap64 (x1 + x8)) + 1), 0)))) else (none))
end
def varint_Decode.f (k : Nat) (l0 : List Int) (a1 : Int) : Option (Int × Int × Int) := if a1 < 0 then (varint_Decode.j0 k l0 a1 true) else (varint_Decode.j0 k l0 a1 (decide (a1 > (l0.length : Int))))
theorem varint_Decode.mono_l : ∀ k, (∀ y0 y1 y2, LeO (varint_Decode.j0 k y0 y1 y2) (varint_Decode.j0 (k + 1) y0 y1 y2)) ∧ (∀ y0 y1 y2 y3, LeO (varint_Decode.l0 k y0 y1 y2 y3) (varint_Decode.l0 (k + 1) y0 y1 y2 y3)) ∧ (∀ y0 y1 y2 y3 y4 y5 y6, LeO (varint_Decode.j2 k y0 y1 y2 y3 y4 y5 y6) (varint_Decode.j2 (k + 1) y0 y1 y2 y3 y4 y5 y6))
  | 0 => ⟨fun _ _ _ r h => by simp [varint_Decode.j0] at h, fun _ _ _ _ r h => by simp [varint_Decode.l0] at h, fun _ _ _ _ _ _ _ r h => by simp [varint_Decode.j2] at h⟩
  | k + 1 => by
    obtain ⟨ih0, ih1, ih2⟩ := varint_Decode.mono_l k
    refine ⟨?_, ?_, ?_⟩
    · intro y0 y1 y2
      unfold varint_Decode.j0
      repeat' first
      | (with_reducible exact ih0 _ _ _)
      | (with_reducible exact ih1 _ _ _ _)
      | (with_reducible exact ih2 _ _ _ _ _ _ _)
      | (with_reducible exact LeO.refl _)
      | (with_reducible exact LeO.none _)
      | (with_reducible refine LeO.ite ?_ ?_)
      | (with_reducible refine LeO.bind ?_ (fun _ => ?_))
      | exact ih0 _ _ _
      | exact ih1 _ _ _ _
      | exact ih2 _ _ _ _ _ _ _
      | exact LeO.none _
      | refine LeO.ite ?_ ?_
      | refine LeO.bind ?_ (fun _ => ?_)
    · intro y0 y1 y2 y3
      unfold varint_Decode.l0
      repeat' first
      | (with_reducible exact ih0 _ _ _)
      | (with_reducible exact ih1 _ _ _ _)
      | (with_reducible exact ih2 _ _ _ _ _ _ _)
      | (with_reducible exact LeO.refl _)
      | (with_reducible exact LeO.none _)
      | (with_reducible refine LeO.ite ?_ ?_)
      | (with_reducible refine LeO.bind ?_ (fun _ => ?_))
      | exact ih0 _ _ _
      | exact ih1 _ _ _ _
      | exact ih2 _ _ _ _ _ _ _
      | exact LeO.none _
      | refine LeO.ite ?_ ?_
      | refine LeO.bind ?_ (fun _ => ?_)
    · intro y0 y1 y2 y3 y4 y5 y6
      unfold varint_Decode.j2
      repeat' first
      | (with_reducible exact ih0 _ _ _)
      | (with_reducible exact ih1 _ _ _ _)
      | (with_reducible exact ih2 _ _ _ _ _ _ _)
      | (with_reducible exact LeO.refl _)
      | (with_reducible exact LeO.none _)
      | (with_reducible refine LeO.ite ?_ ?_)
      | (with_reducible refine LeO.bind ?_ (fun _ => ?_))
      | exact ih0 _ _ _
      | exact ih1 _ _ _ _
      | exact ih2 _ _ _ _ _ _ _
      | exact LeO.none _
      | refine LeO.ite ?_ ?_
      | refine LeO.bind ?_ (fun _ => ?_)
theorem varint_Decode.mono : ∀ a0 a1 k, LeO (varint_Decode.f k a0 a1) (varint_Decode.f (k + 1) a0 a1) := by
  intro a0 a1 k
  obtain ⟨ih0, ih1, ih2⟩ := varint_Decode.mono_l k
  unfold varint_Decode.f
  repeat' first
      | (with_reducible exact ih0 _ _ _)
      | (with_reducible exact ih1 _ _ _ _)
      | (with_reducible exact ih2 _ _ _ _ _ _ _)
      | (with_reducible exact LeO.refl _)
      | (with_reducible exact LeO.none _)
      | (with_reducible refine LeO.ite ?_ ?_)
      | (with_reducible refine LeO.bind ?_ (fun _ => ?_))
      | exact ih0 _ _ _
      | exact ih1 _ _ _ _
      | exact ih2 _ _ _ _ _ _ _
      | exact LeO.none _
      | refine LeO.ite ?_ ?_
      | refine LeO.bind ?_ (fun _ => ?_)
set_option maxHeartbeats 8000000 in
set_option maxRecDepth 100000 in
theorem varint_Decode.calls (k : Nat) (A0 : Option Addr) (c0 : Nat) (l0 : List Int) (a1 : Int) (r1 : Int) (r2 : Int) (r3 : Int) (w : World) (hr0 : Kd.C (Kd.int .u8) w A0 l0.length l0) (hc0 : l0.length ≤ c0) (h : varint_Decode.f k l0 a1 = some (r1, r2, r3)) :
    Calls Try.prog 32 #[.slice A0 l0.length c0, .int .i64 a1] w fun e w' => e = .returned (.tuple #[.int .u64 r1, .int .i64 r2, .int .i64 r3]) ∧ Drawn0 w w' := by
  have HR0 := Aside0.mk hr0
  have HC0 := Aside0.mk hc0
  clear hr0 hc0
  have H : (if a1 < 0 then (varint_Decode.j0 k l0 a1 true) else (varint_Decode.j0 k l0 a1 (decide (a1 > (l0.length : Int))))) = some (r1, r2, r3) := h
  clear h
  have HC3 := Aside0.mk H
  clear H
  go_enter Try.func32, Try.ntmps32
  go_upto_region 1 with (fail)
  go_cut [17] (fun v17 wc => ∃ (kq : Nat) (x17_2 : Bool), v17 = .bool x17_2 ∧ Aside0 (varint_Decode.j0 kq l0 a1 x17_2 = some (r1, r2, r3)) ∧ Aside0 (kq ≤ k) ∧ Drawn0 w wc)
  case first =>
    have H := HC3.out
    clear HC3
    by_cases c4 : a1 < 0
    · rw [if_pos c4] at H
      have c4b0 : decide (a1 < 0) = true := decide_eq_true c4
      clear c4
      (first | rw [c4b0] | (simp only [i64_w, i32_w]; rw [c4b0]) | skip)
      have H' := Aside0.mk H
      clear H
      go_wp2
      go_meet
      case rel => exact ⟨_, (true), (by first | rfl | (simp; done) | (simp [*]; done)), H', ⟨by first | omega | exact Nat.le_refl _⟩, by repeat (first | exact Drawn0.refl _ | apply Drawn0.step)⟩
    · rw [if_neg c4] at H
      have c4b0 : decide (a1 < 0) = false := decide_eq_false c4
      clear c4
      (first | rw [c4b0] | (simp only [i64_w, i32_w]; rw [c4b0]) | skip)
      have H' := Aside0.mk H
      clear H
      go_wp2
      go_meet
      case rel => exact ⟨_, (decide (a1 > (l0.length : Int))), (by first | rfl | (simp; done) | (simp [*]; done)), H', ⟨by first | omega | exact Nat.le_refl _⟩, by repeat (first | exact Drawn0.refl _ | apply Drawn0.step)⟩
  case rest =>
    clear HC3
    try clear p2
    try clear c3
    try clear c4
    try clear c4b0
    obtain ⟨kq, x17_2, rfl, HA, HJ2, ⟨mc2, rfl⟩⟩ := hcut
    cases kq with
    | zero => exact absurd HA.out (by simp [varint_Decode.j0])
    | succ kj2 =>
      have H := HA.out
      clear HA
      simp only [varint_Decode.j0] at H
      by_cases c5 : x17_2 = true
      · subst c5
        have H1 : (some (0, 0, 1)) = some (r1, r2, r3) := by rw [if_pos rfl] at H; exact H
        clear H
        have H := H1
        clear H1
        simp only [Option.some.injEq, Prod.mk.injEq] at H
        obtain ⟨rfl, rfl, rfl⟩ := H
        go_wp2
        go_ret3
        exact ⟨by first | rfl | (simp; done) | (simp [*]; done), by repeat (first | exact Drawn0.refl _ | apply Drawn0.step)⟩
      · replace c5 := Bool.eq_false_iff.mpr c5
        subst c5
        have H1 : (varint_Decode.l0 kj2 l0 a1 0 0) = some (r1, r2, r3) := by rw [if_neg (show ¬ (false = true) by decide)] at H; exact H
        clear H
        have H := H1
        clear H1
        have H' := Aside0.mk H
        clear H
        go_wp2
        go_loopg [7, 18] kj2 (fun kq v7 v18 w' => ∃ (x7_2 : Int) (x18_2 : Int), v7 = .int .u64 x7_2 ∧ v18 = .int .i64 x18_2 ∧ Aside0 (varint_Decode.l0 kq l0 a1 x7_2 x18_2 = some (r1, r2, r3)) ∧ Aside0 (kq ≤ kj2) ∧ Drawn0 w w')
        case atStart => exact ⟨(0), (0), (by first | rfl | (simp; done) | (simp [*]; done)), (by first | rfl | (simp; done) | (simp [*]; done)), H', ⟨Nat.le_refl _⟩, by repeat (first | exact Drawn0.refl _ | apply Drawn0.step)⟩
        case round =>
          clear H'
          try clear c2
          try clear p2
          try clear c3
          try clear c4
          try clear c4b0
          try clear c5
          try clear p2
          obtain ⟨x7_2, x18_2, rfl, rfl, HA, HK2, ⟨m2, rfl⟩⟩ := hrel
          cases gk with
          | zero => exact absurd HA.out (by simp [varint_Decode.l0])
          | succ k2 =>
            have H := HA.out
            clear HA
            simp only [varint_Decode.l0] at H
            by_cases c6 : x18_2 < 10
            · rw [if_pos c6] at H
              have c6b0 : decide (x18_2 < 10) = true := decide_eq_true c6
              clear c6
              by_cases c7 : (wrap64 (a1 + x18_2)) ≥ (l0.length : Int)
              · rw [if_pos c7] at H
                have c7b0 : decide ((l0.length : Int) ≤ (wrap64 (a1 + x18_2))) = true := decide_eq_true c7
                clear c7
                simp only [Option.some.injEq, Prod.mk.injEq] at H
                obtain ⟨rfl, rfl, rfl⟩ := H
                go_wp2
                go_ret3
                exact ⟨by first | rfl | (simp; done) | (simp [*]; done), by repeat (first | exact Drawn0.refl _ | apply Drawn0.step)⟩
              · rw [if_neg c7] at H
                have c7b0 : decide ((l0.length : Int) ≤ (wrap64 (a1 + x18_2))) = false := decide_eq_false c7
                clear c7
                obtain ⟨ji8, hji8⟩ : ∃ j_ : Int, (wrap64 (a1 + x18_2)) = j_ := ⟨_, rfl⟩
                replace H : (if 0 ≤ (ji8) then (if (ji8) < (l0.length : Int) then (if x18_2 = 9 then (varint_Decode.j2 k2 l0 a1 x7_2 x18_2 (rd l0 (ji8)) x18_2 (decide ((rd l0 (ji8)) > 1))) else (varint_Decode.j2 k2 l0 a1 x7_2 x18_2 (rd l0 (ji8)) x18_2 false)) else (none)) else (none)) = some (r1, r2, r3) := by first | (rw [hji8] at H; exact H) | (simp only [hji8] at H ⊢; exact H)
                (try rw [hji8] at c7b0)
                have hji8w : (IntKind.i64.wrap (a1 + x18_2)) = ji8 := (i64_w _).trans hji8
                by_cases c9 : 0 ≤ (ji8)
                · rw [if_pos c9] at H
                  have c9b0 : decide (0 ≤ (ji8)) = true := decide_eq_true c9
                  clear c9
                  by_cases c10 : (ji8) < (l0.length : Int)
                  · rw [if_pos c10] at H
                    have c10b0 : decide ((ji8) < (l0.length : Int)) = true := decide_eq_true c10
                    clear c10
                    have HC11 := Aside0.mk H
                    clear H
                    have p115 : 0 ≤ ((ji8) : Int) := of_decide_eq_true (by first | (with_reducible assumption) | assumption)
                    have q115 : (ji8) < (l0.length : Int) := of_decide_eq_true (by first | (with_reducible assumption) | assumption)
                    obtain ⟨ad115, e115, hx115_0⟩ := Kd.at_int HR0.out (ji8) p115 q115
                    cases e115
                    replace p115 := eq_true p115
                    replace q115 := eq_true q115
                    go_upto_region 10 with (fail)
                    go_cut [38] (fun v38 wc => ∃ (kq : Nat) (x38_10 : Bool), v38 = .bool x38_10 ∧ Aside0 (varint_Decode.j2 kq l0 a1 x7_2 x18_2 (rd l0 (ji8)) x18_2 x38_10 = some (r1, r2, r3)) ∧ Aside0 (kq ≤ k2) ∧ Drawn0 w wc)
                    case first =>
                      have H := HC11.out
                      clear HC11
                      by_cases c12 : x18_2 = 9
                      · rw [if_pos c12] at H
                        have c12b0 : (x18_2 == 9) = true := beq_iff_eq.mpr c12
                        have c12b1 : (x18_2 != 9) = false := bne_eq_false_iff_eq.mpr c12
                        clear c12
                        (first | rw [c12b0] | (simp only [i64_w, i32_w]; rw [c12b0]) | skip)
                        have H' := Aside0.mk H
                        clear H
                        go_wp2
                        go_meet
                        case rel => exact ⟨_, (decide ((rd l0 (ji8)) > 1)), (by first | rfl | (simp; done) | (simp only [← hji8] <;> (first | rfl | simp)) | (simp [*]; done)), H', ⟨by have := HJ2.out; have := HK2.out; first | omega | exact Nat.le_refl _⟩, by repeat (first | exact Drawn0.refl _ | apply Drawn0.step)⟩
                      · rw [if_neg c12] at H
                        have c12b0 : (x18_2 == 9) = false := beq_eq_false_iff_ne.mpr c12
                        have c12b1 : (x18_2 != 9) = true := bne_iff_ne.mpr c12
                        (first | rw [c12b0] | (simp only [i64_w, i32_w]; rw [c12b0]) | skip)
                        have H' := Aside0.mk H
                        clear H
                        go_wp2
                        go_meet
                        case rel => exact ⟨_, (false), (by first | rfl | (simp; done) | (simp [*]; done)), H', ⟨by have := HJ2.out; have := HK2.out; first | omega | exact Nat.le_refl _⟩, by repeat (first | exact Drawn0.refl _ | apply Drawn0.step)⟩
                    case rest =>
                      clear HC11
                      try clear c1
                      try clear p1
                      try clear q1
                      try clear hx1
                      try clear c2
                      try clear p2
                      try clear c3
                      try clear c4
                      try clear c4b0
                      try clear c5
                      try clear c6
                      try clear c6b0
                      try clear p6
                      try clear c7
                      try clear c7b0
                      try clear c9
                      try clear c9b0
                      try clear c10
                      try clear c10b0
                      try clear p11
                      try clear q11
                      try clear hx11
                      try clear c12
                      try clear c12b0
                      try clear c12b1
                      try clear hx115_0
                      try clear p115
                      try clear p2
                      try clear q115
                      obtain ⟨kq, x38_10, rfl, HA, HJ10, ⟨mc10, rfl⟩⟩ := hcut
                      cases kq with
                      | zero => exact absurd HA.out (by simp [varint_Decode.j2])
                      | succ kj10 =>
                        have H := HA.out
                        clear HA
                        simp only [varint_Decode.j2] at H
                        by_cases c13 : x38_10 = true
                        · subst c13
                          have H1 : (some (0, 0, 4)) = some (r1, r2, r3) := by rw [if_pos rfl] at H; exact H
                          clear H
                          have H := H1
                          clear H1
                          simp only [Option.some.injEq, Prod.mk.injEq] at H
                          obtain ⟨rfl, rfl, rfl⟩ := H
                          go_wp2
                          go_ret3
                          exact ⟨by first | rfl | (simp; done) | (simp only [← hji8] <;> (first | rfl | simp)) | (simp [*]; done), by repeat (first | exact Drawn0.refl _ | apply Drawn0.step)⟩
                        · replace c13 := Bool.eq_false_iff.mpr c13
                          subst c13
                          have H1 : (if 0 ≤ (wrap64 (7 * x18_2)) then (if (rd l0 (ji8)) ≥ 128 then (varint_Decode.l0 kj10 l0 a1 (Go.bits .or .u64 x7_2 (shl .u64 (IntKind.u64.wrap (Go.bits .and .u8 (rd l0 (ji8)) 127)) (wrap64 (7 * x18_2)))) (wrap64 (x18_2 + 1))) else (if (rd l0 (ji8)) = 0 then (if x18_2 > 0 then (some (0, 0, 4)) else (some (Go.bits .or .u64 x7_2 (shl .u64 (IntKind.u64.wrap (Go.bits .and .u8 (rd l0 (ji8)) 127)) (wrap64 (7 * x18_2))), wrap64 ((wrap64 (a1 + x18_2)) + 1), 0))) else (some (Go.bits .or .u64 x7_2 (shl .u64 (IntKind.u64.wrap (Go.bits .and .u8 (rd l0 (ji8)) 127)) (wrap64 (7 * x18_2))), wrap64 ((wrap64 (a1 + x18_2)) + 1), 0)))) else (none)) = some (r1, r2, r3) := by rw [if_neg (show ¬ (false = true) by decide)] at H; exact H
                          clear H
                          have H := H1
                          clear H1
                          obtain ⟨ji14, hji14⟩ : ∃ j_ : Int, (wrap64 (7 * x18_2)) = j_ := ⟨_, rfl⟩
                          replace H : (if 0 ≤ (ji14) then (if (rd l0 (ji8)) ≥ 128 then (varint_Decode.l0 kj10 l0 a1 (Go.bits .or .u64 x7_2 (shl .u64 (IntKind.u64.wrap (Go.bits .and .u8 (rd l0 (ji8)) 127)) (ji14))) (wrap64 (x18_2 + 1))) else (if (rd l0 (ji8)) = 0 then (if x18_2 > 0 then (some (0, 0, 4)) else (some (Go.bits .or .u64 x7_2 (shl .u64 (IntKind.u64.wrap (Go.bits .and .u8 (rd l0 (ji8)) 127)) (ji14)), wrap64 ((wrap64 (a1 + x18_2)) + 1), 0))) else (some (Go.bits .or .u64 x7_2 (shl .u64 (IntKind.u64.wrap (Go.bits .and .u8 (rd l0 (ji8)) 127)) (ji14)), wrap64 ((wrap64 (a1 + x18_2)) + 1), 0)))) else (none)) = some (r1, r2, r3) := by first | (rw [hji14] at H; exact H) | (simp only [hji14] at H ⊢; exact H)
                          have hji14w : (IntKind.i64.wrap (7 * x18_2)) = ji14 := (i64_w _).trans hji14
                          by_cases c15 : 0 ≤ (ji14)
                          · rw [if_pos c15] at H
                            have c15b0 := eq_true c15
                            have c15b1 : decide (0 ≤ (ji14)) = true := decide_eq_true c15
                            clear c15
                            obtain ⟨ji16, hji16⟩ : ∃ j_ : Int, (shl .u64 (IntKind.u64.wrap (Go.bits .and .u8 (rd l0 (ji8)) 127)) (ji14)) = j_ := ⟨_, rfl⟩
                            replace H : (if (rd l0 (ji8)) ≥ 128 then (varint_Decode.l0 kj10 l0 a1 (Go.bits .or .u64 x7_2 (ji16)) (wrap64 (x18_2 + 1))) else (if (rd l0 (ji8)) = 0 then (if x18_2 > 0 then (some (0, 0, 4)) else (some (Go.bits .or .u64 x7_2 (ji16), wrap64 ((wrap64 (a1 + x18_2)) + 1), 0))) else (some (Go.bits .or .u64 x7_2 (ji16), wrap64 ((wrap64 (a1 + x18_2)) + 1), 0)))) = some (r1, r2, r3) := by first | (rw [hji16] at H; exact H) | (simp only [hji16] at H ⊢; exact H)
                            have hji16_ : (IntKind.u64.wrap ((IntKind.u64.wrap (Go.bits .and .u8 (rd l0 (ji8)) 127)) * 2 ^ min (ji14).toNat 64)) = ji16 := hji16
                            have hji16z : (ji14) ≤ 64 → (IntKind.u64.wrap ((IntKind.u64.wrap (Go.bits .and .u8 (rd l0 (ji8)) 127)) * 2 ^ (ji14).toNat)) = ji16 := shl_small hji16
                            by_cases c17 : (rd l0 (ji8)) ≥ 128
                            · rw [if_pos c17] at H
                              have c17b0 : decide (128 ≤ (rd l0 (ji8))) = true := decide_eq_true c17
                              clear c17
                              have H' := Aside0.mk H
                              clear H
                              go_wp2
                              go_roundg kj10
                              case measure => have := HJ2.out; have := HK2.out; have := HJ10.out; omega
                              case rel => exact ⟨(Go.bits .or .u64 x7_2 (ji16)), (wrap64 (x18_2 + 1)), (by first | rfl | (simp; done) | (simp only [← hji16] <;> (first | rfl | simp)) | (simp [*]; done)), (by first | rfl | (simp; done) | (simp [*]; done)), H', ⟨by have := HJ2.out; have := HK2.out; have := HJ10.out; omega⟩, by repeat (first | exact Drawn0.refl _ | apply Drawn0.step)⟩
                            · rw [if_neg c17] at H
                              have c17b0 : decide (128 ≤ (rd l0 (ji8))) = false := decide_eq_false c17
                              clear c17
                              by_cases c18 : (rd l0 (ji8)) = 0
                              · rw [if_pos c18] at H
                                have c18b0 : ((rd l0 (ji8)) == 0) = true := beq_iff_eq.mpr c18
                                have c18b1 : ((rd l0 (ji8)) != 0) = false := bne_eq_false_iff_eq.mpr c18
                                clear c18
                                by_cases c19 : x18_2 > 0
                                · rw [if_pos c19] at H
                                  have c19b0 : decide (0 < x18_2) = true := decide_eq_true c19
                                  clear c19
                                  simp only [Option.some.injEq, Prod.mk.injEq] at H
                                  obtain ⟨rfl, rfl, rfl⟩ := H
                                  go_wp2
                                  go_ret3
                                  exact ⟨by first | rfl | (simp; done) | (simp only [← hji8, ← hji14, ← hji16] <;> (first | rfl | simp)) | (simp [*]; done), by repeat (first | exact Drawn0.refl _ | apply Drawn0.step)⟩
                                · rw [if_neg c19] at H
                                  have c19b0 : decide (0 < x18_2) = false := decide_eq_false c19
                                  clear c19
                                  simp only [Option.some.injEq, Prod.mk.injEq] at H
                                  obtain ⟨rfl, rfl, rfl⟩ := H
                                  go_wp2
                                  go_ret3
                                  exact ⟨by first | rfl | (simp; done) | (simp only [← hji8, ← hji14, ← hji16] <;> (first | rfl | simp)) | (simp [*]; done), by repeat (first | exact Drawn0.refl _ | apply Drawn0.step)⟩
                              · rw [if_neg c18] at H
                                have c18b0 : ((rd l0 (ji8)) == 0) = false := beq_eq_false_iff_ne.mpr c18
                                have c18b1 : ((rd l0 (ji8)) != 0) = true := bne_iff_ne.mpr c18
                                simp only [Option.some.injEq, Prod.mk.injEq] at H
                                obtain ⟨rfl, rfl, rfl⟩ := H
                                go_wp2
                                go_ret3
                                exact ⟨by first | rfl | (simp; done) | (simp only [← hji8, ← hji14, ← hji16] <;> (first | rfl | simp)) | (simp [*]; done), by repeat (first | exact Drawn0.refl _ | apply Drawn0.step)⟩
                          · rw [if_neg c15] at H
                            exact absurd H (by simp)
                  · rw [if_neg c10] at H
                    exact absurd H (by simp)
                · rw [if_neg c9] at H
                  exact absurd H (by simp)
            · rw [if_neg c6] at H
              have c6b0 : decide (x18_2 < 10) = false := decide_eq_false c6
              clear c6
              simp only [Option.some.injEq, Prod.mk.injEq] at H
              obtain ⟨rfl, rfl, rfl⟩ := H
              go_wp2
              go_ret3
              exact ⟨by first | rfl | (simp; done) | (simp [*]; done), by repeat (first | exact Drawn0.refl _ | apply Drawn0.step)⟩

end Go.Proofs.Ytfkgpmidcbjlbaa.P
end
section
set_option linter.unusedVariables false
set_option linter.unusedSimpArgs false
/- Plain: varints and fixed numbers, the program's and the reference's. -/
namespace Go.Proofs.Ytfkgpmidcbjlbaa.U
open Go.RowKit Go.Proofs.Ytfkgpmidcbjlbaa.P Go.Proofs.YtfkgpmidcbjlbaaW.PrintWords Go.Proofs.YtfkgpmidcbjlbaaW.PrintMore

/-- a list of bytes -/
def Bytes (l : List Int) : Prop := ∀ x ∈ l, 0 ≤ x ∧ x < 256
theorem Bytes.nil : Bytes [] := fun x h => by cases h
theorem Bytes.app {a b : List Int} (ha : Bytes a) (hb : Bytes b) : Bytes (a ++ b) := fun x h => by
  rcases List.mem_append.1 h with h | h
  · exact ha x h
  · exact hb x h
theorem Bytes.cons {x : Int} {b : List Int} (h0 : 0 ≤ x) (h1 : x < 256) (hb : Bytes b) : Bytes (x :: b) := fun y h => by
  rcases List.mem_cons.1 h with rfl | h
  · exact ⟨h0, h1⟩
  · exact hb y h
theorem Bytes.take {a : List Int} (ha : Bytes a) (n : Nat) : Bytes (a.take n) := fun x h => ha x (List.mem_of_mem_take h)
theorem Bytes.drop {a : List Int} (ha : Bytes a) (n : Nat) : Bytes (a.drop n) := fun x h => ha x (List.mem_of_mem_drop h)
theorem Bytes.at {a : List Int} (ha : Bytes a) (i : Nat) (h : i < a.length) : 0 ≤ a.getD i 0 ∧ a.getD i 0 < 256 := by
  rw [List.getD_eq_getElem?_getD, List.getElem?_eq_getElem h]
  exact ha _ (List.getElem_mem h)

/-- the varint of n -/
def encS (n : Nat) : List Int := if h : n < 128 then [(n : Int)] else ((128 + n % 128 : Nat) : Int) :: encS (n / 128)
termination_by n
decreasing_by omega
theorem encS_low (n : Nat) (h : n < 128) : encS n = [(n : Int)] := by rw [encS, dif_pos h]
theorem encS_high (n : Nat) (h : ¬ n < 128) : encS n = ((128 + n % 128 : Nat) : Int) :: encS (n / 128) := by rw [encS, dif_neg h]
theorem encS_bytes (n : Nat) : Bytes (encS n) := by
  induction n using Nat.strongRecOn with
  | _ n ih =>
    by_cases h : n < 128
    · rw [encS_low n h]; exact Bytes.cons (by omega) (by omega) Bytes.nil
    · rw [encS_high n h]; exact Bytes.cons (by omega) (by omega) (ih _ (by omega))
theorem encS_pos (n : Nat) : 1 ≤ (encS n).length := by
  by_cases h : n < 128
  · rw [encS_low n h]; simp
  · rw [encS_high n h]; simp
theorem encS_len (m : Nat) : ∀ n : Nat, n < 128 ^ (m + 1) → (encS n).length ≤ m + 1 := by
  induction m with
  | zero => intro n h; rw [encS_low n (by simpa using h)]; simp
  | succ m ih =>
    intro n h
    by_cases h1 : n < 128
    · rw [encS_low n h1]; simp
    · rw [encS_high n h1, List.length_cons]
      have := ih (n / 128) (by rw [Nat.div_lt_iff_lt_mul (by decide)]; rw [Nat.pow_succ] at h; omega)
      omega
theorem encS_len10 (n : Nat) (h : n < 18446744073709551616) : (encS n).length ≤ 10 := encS_len 9 n (by omega)

theorem or128 (m : Nat) (h : m < 256) : m ||| 128 = 128 + m % 128 := by
  have : ∀ m : Fin 256, m.val ||| 128 = 128 + m.val % 128 := by decide +kernel
  exact this ⟨m, h⟩
theorem and127 (m : Nat) (h : m < 256) : m &&& 127 = m % 128 := by
  have : ∀ m : Fin 256, m.val &&& 127 = m.val % 128 := by decide +kernel
  exact this ⟨m, h⟩

theorem enc_impl_l (n : Nat) : ∀ acc : List Int, n < 18446744073709551616 → acc.length + (encS n).length ≤ 140737488355328 → Ev (fun k => varint_Encode.l0 k n acc) (acc ++ encS n) := by
  induction n using Nat.strongRecOn with
  | _ n ih =>
    intro acc hn hl
    refine Ev.step (fun k => rfl) ?_
    by_cases h : n < 128
    · rw [encS_low n h] at hl ⊢
      simp only [List.length_cons, List.length_nil] at hl
      refine Ev.neg (by omega) (Ev.pos (by omega) (Ev.of fun k => ?_))
      rw [show ((n : Int) % 256) = n from by omega]
    · rw [encS_high n h] at hl ⊢
      simp only [List.length_cons] at hl
      refine Ev.pos (by omega) (Ev.pos (by omega) ?_)
      have e : Go.bits .or .u8 ((n : Int) % 256) 128 = ((128 + n % 128 : Nat) : Int) := by
        rw [show ((n : Int) % 256) = ((n % 256 : Nat) : Int) from by omega, show (128 : Int) = ((128 : Nat) : Int) from rfl, u8_or_nat _ _ (by omega) (by omega), or128 _ (by omega)]
        omega
      rw [e, show ((n : Int) / 128) = ((n / 128 : Nat) : Int) from by omega]
      have := ih (n / 128) (by omega) (acc ++ [((128 + n % 128 : Nat) : Int)]) (by omega) (by simp; omega)
      rw [List.append_assoc] at this
      exact this
theorem enc_impl (n : Nat) (hn : n < 18446744073709551616) : Ev (fun k => varint_Encode.f k n) (encS n) := by
  have := enc_impl_l n [] hn (by have := encS_len10 n hn; simp; omega)
  exact this
/-- a varint that is read: i bytes are read, their number is n -/
def decG (l : List Int) (p : Nat) : Nat → Nat → Nat → Int × Int × Int
  | 0, _, _ => (0, 0, 4)
  | f + 1, i, n =>
    if l.length ≤ p + i then (0, 0, 2) else
    let c := (l.getD (p + i) 0).toNat
    if (i = 9 ∧ 1 < c) ∨ (0 < i ∧ c = 0) then (0, 0, 4) else
    if c < 128 then (((n + c * 2 ^ (7 * i) : Nat) : Int), ((p + i + 1 : Nat) : Int), 0) else decG l p f (i + 1) (n + (c % 128) * 2 ^ (7 * i))
theorem decG_short (l : List Int) (p f i n : Nat) (h : l.length ≤ p + i) : decG l p (f + 1) i n = (0, 0, 2) := by rw [decG, if_pos h]
theorem decG_bad (l : List Int) (p f i n c : Nat) (h : ¬ l.length ≤ p + i) (hc : l.getD (p + i) 0 = (c : Int)) (hb : (i = 9 ∧ 1 < c) ∨ (0 < i ∧ c = 0)) : decG l p (f + 1) i n = (0, 0, 4) := by
  rw [decG, if_neg h, hc]; exact if_pos hb
theorem decG_end (l : List Int) (p f i n c : Nat) (h : ¬ l.length ≤ p + i) (hc : l.getD (p + i) 0 = (c : Int)) (hb : ¬ ((i = 9 ∧ 1 < c) ∨ (0 < i ∧ c = 0))) (h1 : c < 128) : decG l p (f + 1) i n = (((n + c * 2 ^ (7 * i) : Nat) : Int), ((p + i + 1 : Nat) : Int), 0) := by
  rw [decG, if_neg h, hc]; exact (if_neg hb).trans (if_pos h1)
theorem decG_more (l : List Int) (p f i n c : Nat) (h : ¬ l.length ≤ p + i) (hc : l.getD (p + i) 0 = (c : Int)) (hb : ¬ ((i = 9 ∧ 1 < c) ∨ (0 < i ∧ c = 0))) (h1 : ¬ c < 128) : decG l p (f + 1) i n = decG l p f (i + 1) (n + (c % 128) * 2 ^ (7 * i)) := by
  rw [decG, if_neg h, hc]; exact (if_neg hb).trans (if_neg h1)
def decS (l : List Int) (off : Int) : Int × Int × Int := if off < 0 ∨ (l.length : Int) < off then (0, 0, 1) else decG l off.toNat 10 0 0

theorem or_shift (n c i : Nat) (hn : n < 2 ^ i) : n ||| c * 2 ^ i = n + c * 2 ^ i := by
  rw [Nat.or_comm, Nat.mul_comm c, ← Nat.two_pow_add_eq_or_of_lt hn, Nat.add_comm]
theorem pow7 (i : Nat) (h : i ≤ 9) : 2 ^ (7 * i) ≤ 9223372036854775808 := by
  calc 2 ^ (7 * i) ≤ 2 ^ 63 := Nat.pow_le_pow_right (by decide) (by omega)
    _ = 9223372036854775808 := by decide
theorem step7 (n c i : Nat) (hi : i ≤ 8) (hn : n < 2 ^ (7 * i)) : n + c % 128 * 2 ^ (7 * i) < 2 ^ (7 * (i + 1)) := by
  rw [show 7 * (i + 1) = 7 * i + 7 from by omega, Nat.pow_add]
  have : c % 128 + 1 ≤ 128 := by omega
  have := Nat.mul_le_mul_right (2 ^ (7 * i)) this
  rw [Nat.add_mul] at this
  omega

theorem rdD (l : List Int) (p : Nat) : rd l (p : Int) = l.getD p 0 := by simp [rd]
theorem dec_impl_g (l : List Int) (p : Nat) (hb : Bytes l) (hp : p ≤ l.length) (hl : l.length ≤ 4611686018427387904) : ∀ f i n : Nat, i + f = 10 → n < 2 ^ (7 * i) →
    Ev (fun k => varint_Decode.l0 k l p n i) (decG l p f i n)
  | 0, i, n, hi, _ => Ev.step (fun k => rfl) (Ev.neg (by omega) (Ev.pure _))
  | f + 1, i, n, hi, hn => by
    have e0 : wrap64 ((p : Int) + (i : Int)) = ((p + i : Nat) : Int) := by rw [w64 _ (by omega) (by omega)]; omega
    refine Ev.step (fun k => rfl) (Ev.pos (by omega) ?_)
    by_cases h1 : l.length ≤ p + i
    · rw [decG_short l p f i n h1]
      exact Ev.pos (by rw [e0]; omega) (Ev.pure _)
    · have hc := hb.at (p + i) (by omega)
      obtain ⟨c, hcc⟩ : ∃ c : Nat, l.getD (p + i) 0 = (c : Int) := ⟨(l.getD (p + i) 0).toNat, by omega⟩
      rw [hcc] at hc
      have hrd : rd l (wrap64 ((p : Int) + (i : Int))) = (c : Int) := by rw [e0, rdD, hcc]
      refine Ev.neg (by rw [e0]; omega) (Ev.pos (by rw [e0]; omega) (Ev.pos (by rw [e0]; omega) ?_))
      have key : ∀ b : Bool, b = decide (i = 9 ∧ 1 < c) → Ev (fun k => varint_Decode.j2 k l p n i (rd l (wrap64 ((p : Int) + (i : Int)))) i b)
          (decG l p (f + 1) i n) := by
        intro b hbb
        rw [hrd]
        refine Ev.step (fun k => rfl) ?_
        by_cases h2 : i = 9 ∧ 1 < c
        · rw [decG_bad l p f i n c h1 hcc (Or.inl h2)]
          exact Ev.pos (by rw [hbb]; exact decide_eq_true h2) (Ev.pure _)
        · have e7 : wrap64 (7 * (i : Int)) = ((7 * i : Nat) : Int) := by rw [w64 _ (by omega) (by omega)]; omega
          refine Ev.neg (by rw [hbb]; simpa using h2) (Ev.pos (by rw [e7]; omega) ?_)
          have ea : IntKind.u64.wrap (Go.bits .and .u8 (c : Int) 127) = ((c % 128 : Nat) : Int) := by
            rw [show (127 : Int) = ((127 : Nat) : Int) from rfl, u8_and_nat _ _ (by omega) (by omega), and127 _ (by omega), wu64 _ (by omega) (by omega)]
          have hpw := pow7 i (by omega)
          have hprod : c % 128 * 2 ^ (7 * i) < 18446744073709551616 := by
            by_cases h9 : i = 9
            · subst h9
              have : c % 128 ≤ 1 := by omega
              have := Nat.mul_le_mul_right (2 ^ (7 * 9)) this
              omega
            · have h8 : 2 ^ (7 * i) ≤ 2 ^ 56 := Nat.pow_le_pow_right (by decide) (by omega)
              have : c % 128 * 2 ^ (7 * i) ≤ 127 * 2 ^ 56 := Nat.mul_le_mul (by omega) h8
              omega
          have es : shl .u64 ((c % 128 : Nat) : Int) ((7 * i : Nat) : Int) = ((c % 128 * 2 ^ (7 * i) : Nat) : Int) := by
            unfold shl
            rw [Int.toNat_natCast, Nat.min_eq_left (by show 7 * i ≤ 64; omega)]
            rw [show ((2 : Int) ^ (7 * i)) = ((2 ^ (7 * i) : Nat) : Int) from by simp, ← Int.natCast_mul, wu64 _ (by omega) (by omega)]
          have eo : Go.bits .or .u64 (n : Int) (shl .u64 (IntKind.u64.wrap (Go.bits .and .u8 (c : Int) 127)) (wrap64 (7 * (i : Int)))) = ((n + c % 128 * 2 ^ (7 * i) : Nat) : Int) := by
            rw [ea, e7, es, u64_or_nat _ _ (by omega) hprod, or_shift _ _ _ hn]
          rw [eo, e0]
          by_cases h3 : (c : Int) ≥ 128
          · rw [decG_more l p f i n c h1 hcc (by omega) (by omega)]
            refine Ev.pos h3 ?_
            rw [show wrap64 ((i : Int) + 1) = ((i + 1 : Nat) : Int) from by rw [w64 _ (by omega) (by omega)]; omega]
            exact dec_impl_g l p hb hp hl f (i + 1) _ (by omega) (step7 n c i (by omega) hn)
          · refine Ev.neg h3 ?_
            have e1 : wrap64 (((p + i : Nat) : Int) + 1) = ((p + i + 1 : Nat) : Int) := by rw [w64 _ (by omega) (by omega)]; omega
            have ecc : c % 128 = c := by omega
            rw [e1, ecc]
            by_cases h4 : c = 0
            · refine Ev.pos (by omega) ?_
              by_cases h5 : 0 < i
              · rw [decG_bad l p f i n c h1 hcc (Or.inr ⟨h5, h4⟩)]
                exact Ev.pos (by omega) (Ev.pure _)
              · rw [decG_end l p f i n c h1 hcc (by omega) (by omega)]
                exact Ev.neg (by omega) (Ev.pure _)
            · rw [decG_end l p f i n c h1 hcc (by omega) (by omega)]
              exact Ev.neg (by omega) (Ev.pure _)
      refine Ev.ite (fun h9 => key _ ?_) (fun h9 => key _ ?_)
      · rw [hrd]
        simp only [decide_eq_decide]
        omega
      · rw [eq_comm, decide_eq_false_iff_not]
        omega
theorem dec_impl (l : List Int) (off : Int) (hb : Bytes l) (hl : l.length ≤ 4611686018427387904) : Ev (fun k => varint_Decode.f k l off) (decS l off) := by
  unfold decS
  by_cases h : off < 0
  · rw [if_pos (.inl h)]
    exact Ev.pos h (Ev.step (G := fun _ => some (0, 0, 1)) (fun k => rfl) (Ev.pure _))
  · refine Ev.neg h (Ev.step (fun k => rfl) ?_)
    by_cases h2 : (l.length : Int) < off
    · rw [if_pos (.inr h2)]
      exact Ev.pos (by simpa using h2) (Ev.pure _)
    · rw [if_neg (by omega)]
      obtain ⟨p, rfl⟩ : ∃ p : Nat, off = (p : Int) := ⟨off.toNat, by omega⟩
      exact Ev.neg (by simpa using h2) (dec_impl_g l p hb (by omega) hl 10 0 0 rfl (by decide))

/-! what is read -/
theorem decG_ok (l : List Int) (p : Nat) (hb : Bytes l) : ∀ f i n : Nat, i + f = 10 → n < 2 ^ (7 * i) → (decG l p f i n).2.2 = 0 →
    ∃ m e : Nat, decG l p f i n = ((m : Int), (e : Int), 0) ∧ m < 18446744073709551616 ∧ p + i < e ∧ e ≤ l.length ∧ n ≤ m ∧ (m - n) % 2 ^ (7 * i) = 0 ∧ (0 < i → n < m) ∧ (l.take e).drop (p + i) = encS ((m - n) / 2 ^ (7 * i))
  | 0, i, n, hi, hn, h => by simp [decG] at h
  | f + 1, i, n, hi, hn, h => by
    by_cases h1 : l.length ≤ p + i
    · rw [decG_short l p f i n h1] at h; simp at h
    · have hc := hb.at (p + i) (by omega)
      obtain ⟨c, hcc⟩ : ∃ c : Nat, l.getD (p + i) 0 = (c : Int) := ⟨(l.getD (p + i) 0).toNat, by omega⟩
      rw [hcc] at hc
      have hge : l[p + i]'(by omega) = (c : Int) := by
        rw [← hcc, List.getD_eq_getElem?_getD, List.getElem?_eq_getElem (by omega)]; rfl
      have hpos : 0 < 2 ^ (7 * i) := Nat.two_pow_pos _
      have hpw := pow7 i (by omega)
      by_cases h2 : (i = 9 ∧ 1 < c) ∨ (0 < i ∧ c = 0)
      · rw [decG_bad l p f i n c h1 hcc h2] at h; simp at h
      · by_cases h3 : c < 128
        · refine ⟨n + c * 2 ^ (7 * i), p + i + 1, decG_end l p f i n c h1 hcc h2 h3, ?_, by omega, by omega, by omega, ?_, ?_, ?_⟩
          · by_cases h9 : i = 9
            · subst h9
              have : c ≤ 1 := by omega
              have := Nat.mul_le_mul_right (2 ^ (7 * 9)) this
              omega
            · have h8 : 2 ^ (7 * i) ≤ 2 ^ 56 := Nat.pow_le_pow_right (by decide) (by omega)
              have : c * 2 ^ (7 * i) ≤ 127 * 2 ^ 56 := Nat.mul_le_mul (by omega) h8
              omega
          · rw [Nat.add_sub_cancel_left]; exact Nat.mul_mod_left _ _
          · intro h0
            have hc1 : 1 ≤ c := by omega
            have := Nat.mul_le_mul_right (2 ^ (7 * i)) hc1
            omega
          · rw [Nat.add_sub_cancel_left, Nat.mul_div_cancel _ hpos, encS_low c h3]
            rw [List.take_succ_eq_append_getElem (by omega), List.drop_append_of_le_length (by simp; omega), List.drop_eq_nil_of_le (by simp; omega), hge]
            rfl
        · rw [decG_more l p f i n c h1 hcc h2 h3] at h ⊢
          have hi9 : i ≤ 8 := by omega
          have hn' := step7 n c i hi9 hn
          obtain ⟨m, e, hE, hm, he, hel, hnm, hmod, hlt, henc⟩ := decG_ok l p hb f (i + 1) _ (by omega) hn' h
          have hlt' := hlt (by omega)
          have hpe : 2 ^ (7 * (i + 1)) = 2 ^ (7 * i) * 128 := by rw [show 7 * (i + 1) = 7 * i + 7 from by omega, Nat.pow_add]
          obtain ⟨q, hq⟩ : ∃ q, m - (n + c % 128 * 2 ^ (7 * i)) = 2 ^ (7 * (i + 1)) * q := ⟨_, (Nat.mul_div_cancel' (Nat.dvd_of_mod_eq_zero hmod)).symm⟩
          rw [hpe] at hq
          have hdiff : m - n = 2 ^ (7 * i) * (c % 128 + 128 * q) := by
            rw [Nat.mul_add, ← Nat.mul_assoc, Nat.mul_comm (2 ^ (7 * i)) (c % 128)]
            omega
          refine ⟨m, e, hE, hm, by omega, hel, by omega, ?_, fun _ => by omega, ?_⟩
          · rw [hdiff]; exact Nat.mul_mod_right _ _
          · have hq1 : 1 ≤ q := by
              rcases Nat.eq_zero_or_pos q with h0 | h0
              · subst h0; omega
              · exact h0
            have henc' : (m - (n + c % 128 * 2 ^ (7 * i))) / 2 ^ (7 * (i + 1)) = q := by
              rw [hq, hpe, Nat.mul_div_cancel_left _ (by omega)]
            rw [henc'] at henc
            rw [hdiff, Nat.mul_div_cancel_left _ hpos, encS_high _ (by omega), show (c % 128 + 128 * q) / 128 = q from by omega, ← henc]
            rw [List.drop_eq_getElem_cons (by simp; omega), List.getElem_take, hge]
            congr 1
            omega
theorem decS_ok (l : List Int) (off : Int) (hb : Bytes l) (h : (decS l off).2.2 = 0) :
    ∃ p m e : Nat, off = (p : Int) ∧ decS l off = ((m : Int), (e : Int), 0) ∧ m < 18446744073709551616 ∧ p < e ∧ e ≤ l.length ∧ (l.take e).drop p = encS m := by
  unfold decS at h ⊢
  by_cases h0 : off < 0 ∨ (l.length : Int) < off
  · rw [if_pos h0] at h; simp at h
  · rw [if_neg h0] at h ⊢
    obtain ⟨m, e, hE, hm, he, hel, _, _, _, henc⟩ := decG_ok l off.toNat hb 10 0 0 rfl (by decide) h
    exact ⟨off.toNat, m, e, by omega, hE, hm, by omega, hel, by simpa using henc⟩
end Go.Proofs.Ytfkgpmidcbjlbaa.U
end
section
set_option linter.unusedVariables false
set_option linter.unusedSimpArgs false
-- Written by a program of this session (a printer of walks).
namespace Go.Proofs.Ytfkgpmidcbjlbaa.P
open Go.RowKit Go.Proofs.YtfkgpmidcbjlbaaW.PrintWords Go.Proofs.YtfkgpmidcbjlbaaW.PrintLast Go.Proofs.YtfkgpmidcbjlbaaW.PrintMore
attribute [local go_sem] max2_int min2_int max_two min_two max_three min_three max_four min_four   -- for this text's walks alone
set_option linter.unusedVariables false
set_option linter.unusedSimpArgs false

/-! ### varint_Fixed: function 27 -/
mutual
def varint_Fixed.j0 : Nat → Int → Int → Bool → Option (List Int)
  | 0, _, _, _ => none
  | k + 1, x0, x1, x12 => if x12 = true then (some ([] : List Int)) else (if 0 ≤ x1 then (if (x1 : Int).toNat ≤ 281474976710656 then (varint_Fixed.l0 k x0 (List.replicate (x1 : Int).toNat 0) x1 0) else (none)) else (none))
def varint_Fixed.l0 : Nat → Int → List Int → Int → Int → Option (List Int)
  | 0, _, _, _, _ => none
  | k + 1, x0, x5, x15, x16 => if x16 < x15 then (if 0 ≤ (wrap64 (8 * x16)) then (if 0 ≤ x16 then (if x16 < (x5.length : Int) then (varint_Fixed.l0 k x0 (x5.set (x16 : Int).toNat ((shr .u64 x0 (wrap64 (8 * x16))) % 256)) x15 (wrap64 (x16 + 1))) else (none)) else (none)) else (none)) else (some x5)
end
def varint_Fixed.f (k : Nat) (a0 : Int) (a1 : Int) : Option (List Int) := if a1 < 1 then (varint_Fixed.j0 k a0 a1 true) else (varint_Fixed.j0 k a0 a1 (decide (a1 > 8)))
theorem varint_Fixed.mono_l : ∀ k, (∀ y0 y1 y2, LeO (varint_Fixed.j0 k y0 y1 y2) (varint_Fixed.j0 (k + 1) y0 y1 y2)) ∧ (∀ y0 y1 y2 y3, LeO (varint_Fixed.l0 k y0 y1 y2 y3) (varint_Fixed.l0 (k + 1) y0 y1 y2 y3))
  | 0 => ⟨fun _ _ _ r h => by simp [varint_Fixed.j0] at h, fun _ _ _ _ r h => by simp [varint_Fixed.l0] at h⟩
  | k + 1 => by
    obtain ⟨ih0, ih1⟩ := varint_Fixed.mono_l k
    refine ⟨?_, ?_⟩
    · intro y0 y1 y2
      unfold varint_Fixed.j0
      repeat' first
      | (with_reducible exact ih0 _ _ _)
      | (with_reducible exact ih1 _ _ _ _)
      | (with_reducible exact LeO.refl _)
      | (with_reducible exact LeO.none _)
      | (with_reducible refine LeO.ite ?_ ?_)
      | (with_reducible refine LeO.bind ?_ (fun _ => ?_))
      | exact ih0 _ _ _
      | exact ih1 _ _ _ _
      | exact LeO.none _
      | refine LeO.ite ?_ ?_
      | refine LeO.bind ?_ (fun _ => ?_)
    · intro y0 y1 y2 y3
      unfold varint_Fixed.l0
      repeat' first
      | (with_reducible exact ih0 _ _ _)
      | (with_reducible exact ih1 _ _ _ _)
      | (with_reducible exact LeO.refl _)
      | (with_reducible exact LeO.none _)
      | (with_reducible refine LeO.ite ?_ ?_)
      | (with_reducible refine LeO.bind ?_ (fun _ => ?_))
      | exact ih0 _ _ _
      | exact ih1 _ _ _ _
      | exact LeO.none _
      | refine LeO.ite ?_ ?_
      | refine LeO.bind ?_ (fun _ => ?_)
theorem varint_Fixed.mono : ∀ a0 a1 k, LeO (varint_Fixed.f k a0 a1) (varint_Fixed.f (k + 1) a0 a1) := by
  intro a0 a1 k
  obtain ⟨ih0, ih1⟩ := varint_Fixed.mono_l k
  unfold varint_Fixed.f
  repeat' first
      | (with_reducible exact ih0 _ _ _)
      | (with_reducible exact ih1 _ _ _ _)
      | (with_reducible exact LeO.refl _)
      | (with_reducible exact LeO.none _)
      | (with_reducible refine LeO.ite ?_ ?_)
      | (with_reducible refine LeO.bind ?_ (fun _ => ?_))
      | exact ih0 _ _ _
      | exact ih1 _ _ _ _
      | exact LeO.none _
      | refine LeO.ite ?_ ?_
      | refine LeO.bind ?_ (fun _ => ?_)
set_option maxHeartbeats 8000000 in
set_option maxRecDepth 100000 in
theorem varint_Fixed.calls (k : Nat) (a0 : Int) (a1 : Int) (r : List Int) (w : World) (h : varint_Fixed.f k a0 a1 = some r) :
    Calls Try.prog 27 #[.int .u64 a0, .int .i64 a1] w fun e w' => ∃ v0_ : Value, e = .returned (v0_) ∧ Kd.R (Kd.int .u8) 5 w' w.heap.size (fun _ => True) v0_ r ∧ Below w.heap.size w w' := by
  have HB := Aside0.mk (Below.refl w.heap.size w)
  have H : (if a1 < 1 then (varint_Fixed.j0 k a0 a1 true) else (varint_Fixed.j0 k a0 a1 (decide (a1 > 8)))) = some r := h
  clear h
  have HC3 := Aside0.mk H
  clear H
  go_enter Try.func27, Try.ntmps27
  go_upto_region 1 with (fail)
  go_cut [12] (fun v12 wc => ∃ (kq : Nat) (x12_2 : Bool), v12 = .bool x12_2 ∧ Aside0 (varint_Fixed.j0 kq a0 a1 x12_2 = some r) ∧ Aside0 (kq ≤ k) ∧ Aside0 (Below w.heap.size w wc))
  case first =>
    have H := HC3.out
    clear HC3
    by_cases c4 : a1 < 1
    · rw [if_pos c4] at H
      have c4b0 : decide (a1 < 1) = true := decide_eq_true c4
      clear c4
      (first | rw [c4b0] | (simp only [i64_w, i32_w]; rw [c4b0]) | skip)
      have H' := Aside0.mk H
      clear H
      go_wp2
      go_meet
      case rel => exact ⟨_, (true), (by first | rfl | (simp; done) | (simp [*]; done)), H', ⟨by first | omega | exact Nat.le_refl _⟩, ⟨by repeat (first | (with_reducible first | exact HB.out | apply below_alloc | apply pw_below_drewN | apply below_drew1) | exact HB.out)⟩⟩
    · rw [if_neg c4] at H
      have c4b0 : decide (a1 < 1) = false := decide_eq_false c4
      clear c4
      (first | rw [c4b0] | (simp only [i64_w, i32_w]; rw [c4b0]) | skip)
      have H' := Aside0.mk H
      clear H
      go_wp2
      go_meet
      case rel => exact ⟨_, (decide (a1 > 8)), (by first | rfl | (simp; done) | (simp [*]; done)), H', ⟨by first | omega | exact Nat.le_refl _⟩, ⟨by repeat (first | (with_reducible first | exact HB.out | apply below_alloc | apply pw_below_drewN | apply below_drew1) | exact HB.out)⟩⟩
  case rest =>
    clear HC3
    try clear c2
    try clear p2
    try clear c4
    try clear c4b0
    obtain ⟨kq, x12_2, rfl, HA, HJ2, HB⟩ := hcut
    cases kq with
    | zero => exact absurd HA.out (by simp [varint_Fixed.j0])
    | succ kj2 =>
      have H := HA.out
      clear HA
      simp only [varint_Fixed.j0] at H
      by_cases c5 : x12_2 = true
      · subst c5
        have H1 : (some ([] : List Int)) = some r := by rw [if_pos rfl] at H; exact H
        clear H
        have H := H1
        clear H1
        obtain rfl := Option.some.inj H
        go_wp2
        go_ret
        exact ⟨_, by first | rfl | (simp [errW_none, errW_some] <;> rfl) | (simp [*, errW_none, errW_some] <;> rfl), by first | exact Kd.R_nil _ _ _ _ _ | exact Kd.N_nil _ _ _ _ _ | exact Kd.V_nil _ _ _ _ _ | exact Kd.Q_nil _ _ _ _ _ | exact Kd.S_nil _ _ _ _ _, by repeat (first | (with_reducible first | exact HB.out | apply below_alloc | apply pw_below_drewN | apply below_drew1) | exact HB.out)⟩
      · replace c5 := Bool.eq_false_iff.mpr c5
        subst c5
        have H1 : (if 0 ≤ a1 then (if (a1 : Int).toNat ≤ 281474976710656 then (varint_Fixed.l0 kj2 a0 (List.replicate (a1 : Int).toNat 0) a1 0) else (none)) else (none)) = some r := by rw [if_neg (show ¬ (false = true) by decide)] at H; exact H
        clear H
        have H := H1
        clear H1
        by_cases c6 : 0 ≤ a1
        · rw [if_pos c6] at H
          have c6b0 := eq_true c6
          have c6b1 : decide (0 ≤ a1) = true := decide_eq_true c6
          clear c6
          by_cases c7 : (a1 : Int).toNat ≤ 281474976710656
          · rw [if_pos c7] at H
            have c7b0 := eq_true c7
            have c7b1 : decide ((a1 : Int).toNat ≤ 281474976710656) = true := decide_eq_true c7
            clear c7
            obtain ⟨y111, hy111⟩ : ∃ y_ : List Int, y_ = (List.replicate (a1 : Int).toNat 0) := ⟨_, rfl⟩
            replace H : (varint_Fixed.l0 kj2 a0 y111 a1 0) = some r := by first | (rw [hy111]; with_reducible exact H) | (have H2_ := (Option.bind_some _ _).symm.trans H; rw [hy111]; with_reducible exact H2_) | (have H2_ := (Option.bind_some _ _).symm.trans H; with_reducible exact H2_) | with_reducible exact H | (rw [hy111]; exact H) | exact H
            have Ny111 := Aside0.mk hy111
            clear hy111
            have H' := Aside0.mk H
            clear H
            go_wp2_with (first | ((with_reducible refine gate_dst (N := 14) rfl ?_); refine Kd.R_make (Kd.int .u8) _ 5 rfl (N := 14) rfl 24 _ _ rfl a1 rfl rfl Try.underlying24 (.int .u8 0) 1 info5 rfl (by decide) (by omega) 0 (ok := fun _ => True) (okp := fun _ => True) rfl (fun _ hk => hk) trivial (of_decide_eq_true (by first | (with_reducible assumption) | assumption)) (Nat.le_trans (Nat.mul_le_mul_right _ (of_decide_eq_true (by first | (with_reducible assumption) | assumption) : a1.toNat ≤ 281474976710656)) (by omega)) (Below.refl _ _) (Nat.le_refl _) ?_; intro v112 w8 ho9 hb hg_ hnew_; clear hg_ hnew_; (first | rw [← Ny111.out] at ho9 | (simp only [Int.reduceToNat] at ho9; rw [← Ny111.out] at ho9)); have n0_ := Aside0.mk (Kd.R_lower ho9 (below_size (by repeat (first | (with_reducible first | exact HB.out | apply below_alloc | apply pw_below_drewN | apply below_drew1) | exact HB.out)))); have n1_ := Aside0.mk (below_step (by repeat (first | (with_reducible first | exact HB.out | apply below_alloc | apply pw_below_drewN | apply below_drew1) | exact HB.out)) hb); clear HB; have HO113 := n0_; have HB := n1_; clear n0_ n1_; clear hb ho9))
            go_loopg [16] kj2 (fun kq v16 w' => ∃ (x5_2 : List Int) (x16_2 : Int), v16 = .int .i64 x16_2 ∧ Aside0 (varint_Fixed.l0 kq a0 x5_2 a1 x16_2 = some r) ∧ Aside0 (kq ≤ kj2) ∧ Aside0 (Kd.R (Kd.int .u8) 5 w' w.heap.size (fun _ => True) v112 x5_2) ∧ Aside0 (Below w.heap.size w w'))
            case atStart => exact ⟨(y111), (0), (by first | rfl | (simp; done) | (simp [*]; done)), H', ⟨Nat.le_refl _⟩, ⟨by (with_reducible repeat (first | apply Kd.R_alloc | apply Kd.R_drewN | apply Kd.R_drew)); exact HO113.out⟩, ⟨by repeat (first | (with_reducible first | exact HB.out | apply below_alloc | apply pw_below_drewN | apply below_drew1) | exact HB.out)⟩⟩
            case round =>
              clear H'
              try clear c2
              try clear p2
              try clear c4
              try clear c4b0
              try clear c5
              try clear c6
              try clear c6b0
              try clear c6b1
              try clear c7
              try clear c7b0
              try clear c7b1
              try clear p2
              obtain ⟨x5_2, x16_2, rfl, HA, HK2, HO_5, HB⟩ := hrel
              cases gk with
              | zero => exact absurd HA.out (by simp [varint_Fixed.l0])
              | succ k2 =>
                have H := HA.out
                clear HA
                simp only [varint_Fixed.l0] at H
                by_cases c10 : x16_2 < a1
                · rw [if_pos c10] at H
                  have c10b0 : decide (x16_2 < a1) = true := decide_eq_true c10
                  clear c10
                  obtain ⟨ji11, hji11⟩ : ∃ j_ : Int, (wrap64 (8 * x16_2)) = j_ := ⟨_, rfl⟩
                  replace H : (if 0 ≤ (ji11) then (if 0 ≤ x16_2 then (if x16_2 < (x5_2.length : Int) then (varint_Fixed.l0 k2 a0 (x5_2.set (x16_2 : Int).toNat ((shr .u64 a0 (ji11)) % 256)) a1 (wrap64 (x16_2 + 1))) else (none)) else (none)) else (none)) = some r := by first | (rw [hji11] at H; exact H) | (simp only [hji11] at H ⊢; exact H)
                  have hji11w : (IntKind.i64.wrap (8 * x16_2)) = ji11 := (i64_w _).trans hji11
                  by_cases c12 : 0 ≤ (ji11)
                  · rw [if_pos c12] at H
                    have c12b0 := eq_true c12
                    have c12b1 : decide (0 ≤ (ji11)) = true := decide_eq_true c12
                    clear c12
                    obtain ⟨ji13, hji13⟩ : ∃ j_ : Int, (shr .u64 a0 (ji11)) = j_ := ⟨_, rfl⟩
                    replace H : (if 0 ≤ x16_2 then (if x16_2 < (x5_2.length : Int) then (varint_Fixed.l0 k2 a0 (x5_2.set (x16_2 : Int).toNat ((ji13) % 256)) a1 (wrap64 (x16_2 + 1))) else (none)) else (none)) = some r := by first | (rw [hji13] at H; exact H) | (simp only [hji13] at H ⊢; exact H)
                    have hji13_ : (a0 / 2 ^ min (ji11).toNat 64) = ji13 := hji13
                    have hji13z : (ji11) ≤ 64 → (a0 / 2 ^ (ji11).toNat) = ji13 := shr_small hji13
                    by_cases c14 : 0 ≤ x16_2
                    · rw [if_pos c14] at H
                      have c14b0 : decide (0 ≤ x16_2) = true := decide_eq_true c14
                      clear c14
                      by_cases c15 : x16_2 < (x5_2.length : Int)
                      · rw [if_pos c15] at H
                        have c15b0 : decide (x16_2 < (x5_2.length : Int)) = true := decide_eq_true c15
                        clear c15
                        obtain ⟨y114, hy114⟩ : ∃ y_ : List Int, y_ = (x5_2.set (x16_2 : Int).toNat ((ji13) % 256)) := ⟨_, rfl⟩
                        replace H : (varint_Fixed.l0 k2 a0 y114 a1 (wrap64 (x16_2 + 1))) = some r := by first | (rw [hy114]; with_reducible exact H) | (have H2_ := (Option.bind_some _ _).symm.trans H; rw [hy114]; with_reducible exact H2_) | (have H2_ := (Option.bind_some _ _).symm.trans H; with_reducible exact H2_) | with_reducible exact H | (rw [hy114]; exact H) | exact H
                        have Ny114 := Aside0.mk hy114
                        clear hy114
                        have H' := Aside0.mk H
                        clear H
                        have p16 : 0 ≤ (x16_2 : Int) := of_decide_eq_true (by first | (with_reducible assumption) | assumption)
                        have q16 : (x16_2 : Int) < ((x5_2.length : Int) : Int) := of_decide_eq_true (by first | (with_reducible assumption) | assumption)
                        obtain ⟨go16, co16, eo16, gb16, gl16, cl16, HG16⟩ := Kd.R_form HO_5.out (by omega)
                        (first | cases eo16 | (injection eo16 with ea_ en_ ec_; (first | subst ea_ | (injection ea_ with ea_; subst ea_)); subst ec_; clear en_))
                        have GB16 := Aside0.mk gb16
                        have GG16 := Aside0.mk HG16
                        clear gb16 gl16 HG16
                        obtain ⟨hx16_0, hf16_0⟩ := Kd.R_celln 0 HO_5.out (x16_2 : Int) p16 q16
                        replace p16 := eq_true p16
                        replace q16 := eq_true q16
                        have HP17 := Kd.R_putg HO_5.out (x16_2 : Int) ((ji13) % 256)
                        go_wp2_with (first | ((with_reducible refine gate_store (t := 5) (p := 26) rfl ?_); refine store_event (t := 5) (p := 26) (v := ?vo_w18) (w1 := (wr.setCell ⟨go16, (x16_2 : Int).toNat, none⟩ (.int .u8 ((ji13) % 256)))) ?hg ?ho ?hn ?hr ?_; (case ho => rfl); (case hg => rfl); (case hn => rfl); (case hr => first | (go_simp; done) | (go_simp; rfl)); intro w18 hw; have hg : wr.grownBy w18 (some go16) := (by rw [hw]; exact HP17.2); have hp_ : Kd.R (Kd.int .u8) 5 w18 w.heap.size (fun _ => True) (.slice (some ⟨go16, 0, none⟩) x5_2.length co16) y114 := (by rw [hw, Ny114.out]; exact HP17.1); clear HP17; have n0_ := Aside0.mk (hp_); have n1_ := Aside0.mk ((by rw [hw]; exact below_set (HB.out) GB16.out : Below w.heap.size w w18)); clear HO_5; clear HB; have HO_5 := n0_; have HB := n1_; clear n0_ n1_; clear hg hw hp_))
                        go_roundg k2
                        case measure => have := HJ2.out; have := HK2.out; omega
                        case rel => exact ⟨(y114), (wrap64 (x16_2 + 1)), (by first | rfl | (simp; done) | (simp [*]; done)), H', ⟨by have := HJ2.out; have := HK2.out; omega⟩, ⟨by (with_reducible repeat (first | apply Kd.R_alloc | apply Kd.R_drewN | apply Kd.R_drew)); exact HO_5.out⟩, ⟨by repeat (first | (with_reducible first | exact HB.out | apply below_alloc | apply pw_below_drewN | apply below_drew1) | exact HB.out)⟩⟩
                      · rw [if_neg c15] at H
                        exact absurd H (by simp)
                    · rw [if_neg c14] at H
                      exact absurd H (by simp)
                  · rw [if_neg c12] at H
                    exact absurd H (by simp)
                · rw [if_neg c10] at H
                  have c10b0 : decide (x16_2 < a1) = false := decide_eq_false c10
                  clear c10
                  obtain rfl := Option.some.inj H
                  go_wp2
                  go_ret
                  exact ⟨_, by first | rfl | (simp [errW_none, errW_some] <;> rfl) | (simp [*, errW_none, errW_some] <;> rfl), by (with_reducible repeat (first | apply Kd.R_alloc | apply Kd.R_drewN | apply Kd.R_drew)); exact HO_5.out, by repeat (first | (with_reducible first | exact HB.out | apply below_alloc | apply pw_below_drewN | apply below_drew1) | exact HB.out)⟩
          · rw [if_neg c7] at H
            exact absurd H (by simp)
        · rw [if_neg c6] at H
          exact absurd H (by simp)

end Go.Proofs.Ytfkgpmidcbjlbaa.P
end
section
set_option linter.unusedVariables false
set_option linter.unusedSimpArgs false
-- Written by a program of this session (a printer of walks).
namespace Go.Proofs.Ytfkgpmidcbjlbaa.P
open Go.RowKit Go.Proofs.YtfkgpmidcbjlbaaW.PrintWords Go.Proofs.YtfkgpmidcbjlbaaW.PrintLast Go.Proofs.YtfkgpmidcbjlbaaW.PrintMore
attribute [local go_sem] max2_int min2_int max_two min_two max_three min_three max_four min_four   -- for this text's walks alone
set_option linter.unusedVariables false
set_option linter.unusedSimpArgs false

/-! ### varint_ReadFixed: function 33 -/
mutual
def varint_ReadFixed.j0 : Nat → List Int → Int → Int → Bool → Option (Int × Int)
  | 0, _, _, _, _ => none
  | k + 1, x0, x1, x2, x25 => if x25 = true then (some (0, 1)) else (if (wrap64 ((x0.length : Int) - x1)) < x2 then (some (0, 2)) else (varint_ReadFixed.l0 k x0 x1 0 x2 0))
def varint_ReadFixed.l0 : Nat → List Int → Int → Int → Int → Int → Option (Int × Int)
  | 0, _, _, _, _, _ => none
  | k + 1, x0, x1, x8, x32, x33 => if x33 < x32 then (if 0 ≤ (wrap64 (x1 + x33)) then (if (wrap64 (x1 + x33)) < (x0.length : Int) then (if 0 ≤ (wrap64 (8 * x33)) then (varint_ReadFixed.l0 k x0 x1 (Go.bits .or .u64 x8 (shl .u64 (IntKind.u64.wrap (rd x0 (wrap64 (x1 + x33)))) (wrap64 (8 * x33)))) x32 (wrap64 (x33 + 1))) else (none)) else (none)) else (none)) else (some (x8, 0))
end
def varint_ReadFixed.f (k : Nat) (l0 : List Int) (a1 : Int) (a2 : Int) : Option (Int × Int) := if a2 < 1 then (varint_ReadFixed.j0 k l0 a1 a2 true) else (if a2 > 8 then (varint_ReadFixed.j0 k l0 a1 a2 true) else (if a1 < 0 then (varint_ReadFixed.j0 k l0 a1 a2 true) else (varint_ReadFixed.j0 k l0 a1 a2 (decide (a1 > (l0.length : Int))))))
theorem varint_ReadFixed.mono_l : ∀ k, (∀ y0 y1 y2 y3, LeO (varint_ReadFixed.j0 k y0 y1 y2 y3) (varint_ReadFixed.j0 (k + 1) y0 y1 y2 y3)) ∧ (∀ y0 y1 y2 y3 y4, LeO (varint_ReadFixed.l0 k y0 y1 y2 y3 y4) (varint_ReadFixed.l0 (k + 1) y0 y1 y2 y3 y4))
  | 0 => ⟨fun _ _ _ _ r h => by simp [varint_ReadFixed.j0] at h, fun _ _ _ _ _ r h => by simp [varint_ReadFixed.l0] at h⟩
  | k + 1 => by
    obtain ⟨ih0, ih1⟩ := varint_ReadFixed.mono_l k
    refine ⟨?_, ?_⟩
    · intro y0 y1 y2 y3
      unfold varint_ReadFixed.j0
      repeat' first
      | (with_reducible exact ih0 _ _ _ _)
      | (with_reducible exact ih1 _ _ _ _ _)
      | (with_reducible exact LeO.refl _)
      | (with_reducible exact LeO.none _)
      | (with_reducible refine LeO.ite ?_ ?_)
      | (with_reducible refine LeO.bind ?_ (fun _ => ?_))
      | exact ih0 _ _ _ _
      | exact ih1 _ _ _ _ _
      | exact LeO.none _
      | refine LeO.ite ?_ ?_
      | refine LeO.bind ?_ (fun _ => ?_)
    · intro y0 y1 y2 y3 y4
      unfold varint_ReadFixed.l0
      repeat' first
      | (with_reducible exact ih0 _ _ _ _)
      | (with_reducible exact ih1 _ _ _ _ _)
      | (with_reducible exact LeO.refl _)
      | (with_reducible exact LeO.none _)
      | (with_reducible refine LeO.ite ?_ ?_)
      | (with_reducible refine LeO.bind ?_ (fun _ => ?_))
      | exact ih0 _ _ _ _
      | exact ih1 _ _ _ _ _
      | exact LeO.none _
      | refine LeO.ite ?_ ?_
      | refine LeO.bind ?_ (fun _ => ?_)
theorem varint_ReadFixed.mono : ∀ a0 a1 a2 k, LeO (varint_ReadFixed.f k a0 a1 a2) (varint_ReadFixed.f (k + 1) a0 a1 a2) := by
  intro a0 a1 a2 k
  obtain ⟨ih0, ih1⟩ := varint_ReadFixed.mono_l k
  unfold varint_ReadFixed.f
  repeat' first
      | (with_reducible exact ih0 _ _ _ _)
      | (with_reducible exact ih1 _ _ _ _ _)
      | (with_reducible exact LeO.refl _)
      | (with_reducible exact LeO.none _)
      | (with_reducible refine LeO.ite ?_ ?_)
      | (with_reducible refine LeO.bind ?_ (fun _ => ?_))
      | exact ih0 _ _ _ _
      | exact ih1 _ _ _ _ _
      | exact LeO.none _
      | refine LeO.ite ?_ ?_
      | refine LeO.bind ?_ (fun _ => ?_)
set_option maxHeartbeats 8000000 in
set_option maxRecDepth 100000 in
theorem varint_ReadFixed.calls (k : Nat) (A0 : Option Addr) (c0 : Nat) (l0 : List Int) (a1 : Int) (a2 : Int) (r1 : Int) (r2 : Int) (w : World) (hr0 : Kd.C (Kd.int .u8) w A0 l0.length l0) (hc0 : l0.length ≤ c0) (h : varint_ReadFixed.f k l0 a1 a2 = some (r1, r2)) :
    Calls Try.prog 33 #[.slice A0 l0.length c0, .int .i64 a1, .int .i64 a2] w fun e w' => e = .returned (.tuple #[.int .u64 r1, .int .i64 r2]) ∧ Drawn0 w w' := by
  have HR0 := Aside0.mk hr0
  have HC0 := Aside0.mk hc0
  clear hr0 hc0
  have H : (if a2 < 1 then (varint_ReadFixed.j0 k l0 a1 a2 true) else (if a2 > 8 then (varint_ReadFixed.j0 k l0 a1 a2 true) else (if a1 < 0 then (varint_ReadFixed.j0 k l0 a1 a2 true) else (varint_ReadFixed.j0 k l0 a1 a2 (decide (a1 > (l0.length : Int))))))) = some (r1, r2) := h
  clear h
  have HC4 := Aside0.mk H
  clear H
  go_enter Try.func33, Try.ntmps33
  go_upto_region 1 with (fail)
  go_cut [25] (fun v25 wc => ∃ (kq : Nat) (x25_3 : Bool), v25 = .bool x25_3 ∧ Aside0 (varint_ReadFixed.j0 kq l0 a1 a2 x25_3 = some (r1, r2)) ∧ Aside0 (kq ≤ k) ∧ Drawn0 w wc)
  case first =>
    have H := HC4.out
    clear HC4
    by_cases c5 : a2 < 1
    · rw [if_pos c5] at H
      have c5b0 : decide (a2 < 1) = true := decide_eq_true c5
      clear c5
      (first | rw [c5b0] | (simp only [i64_w, i32_w]; rw [c5b0]) | skip)
      have H' := Aside0.mk H
      clear H
      go_wp2
      go_meet
      case rel => exact ⟨_, (true), (by first | rfl | (simp; done) | (simp [*]; done)), H', ⟨by first | omega | exact Nat.le_refl _⟩, by repeat (first | exact Drawn0.refl _ | apply Drawn0.step)⟩
    · rw [if_neg c5] at H
      have c5b0 : decide (a2 < 1) = false := decide_eq_false c5
      clear c5
      (first | rw [c5b0] | (simp only [i64_w, i32_w]; rw [c5b0]) | skip)
      by_cases c6 : a2 > 8
      · rw [if_pos c6] at H
        have c6b0 : decide (8 < a2) = true := decide_eq_true c6
        clear c6
        have H' := Aside0.mk H
        clear H
        go_wp2
        go_meet
        case rel => exact ⟨_, (true), (by first | rfl | (simp; done) | (simp [*]; done)), H', ⟨by first | omega | exact Nat.le_refl _⟩, by repeat (first | exact Drawn0.refl _ | apply Drawn0.step)⟩
      · rw [if_neg c6] at H
        have c6b0 : decide (8 < a2) = false := decide_eq_false c6
        clear c6
        by_cases c7 : a1 < 0
        · rw [if_pos c7] at H
          have c7b0 : decide (a1 < 0) = true := decide_eq_true c7
          clear c7
          have H' := Aside0.mk H
          clear H
          go_wp2
          go_meet
          case rel => exact ⟨_, (true), (by first | rfl | (simp; done) | (simp [*]; done)), H', ⟨by first | omega | exact Nat.le_refl _⟩, by repeat (first | exact Drawn0.refl _ | apply Drawn0.step)⟩
        · rw [if_neg c7] at H
          have c7b0 : decide (a1 < 0) = false := decide_eq_false c7
          clear c7
          have H' := Aside0.mk H
          clear H
          go_wp2
          go_meet
          case rel => exact ⟨_, (decide (a1 > (l0.length : Int))), (by first | rfl | (simp; done) | (simp [*]; done)), H', ⟨by first | omega | exact Nat.le_refl _⟩, by repeat (first | exact Drawn0.refl _ | apply Drawn0.step)⟩
  case rest =>
    clear HC4
    try clear p2
    try clear c3
    try clear c5
    try clear c5b0
    try clear c6
    try clear c6b0
    try clear c7
    try clear c7b0
    obtain ⟨kq, x25_3, rfl, HA, HJ3, ⟨mc3, rfl⟩⟩ := hcut
    cases kq with
    | zero => exact absurd HA.out (by simp [varint_ReadFixed.j0])
    | succ kj3 =>
      have H := HA.out
      clear HA
      simp only [varint_ReadFixed.j0] at H
      by_cases c8 : x25_3 = true
      · subst c8
        have H1 : (some (0, 1)) = some (r1, r2) := by rw [if_pos rfl] at H; exact H
        clear H
        have H := H1
        clear H1
        simp only [Option.some.injEq, Prod.mk.injEq] at H
        obtain ⟨rfl, rfl⟩ := H
        go_wp2
        go_ret2
        exact ⟨by first | rfl | (simp; done) | (simp [*]; done), by repeat (first | exact Drawn0.refl _ | apply Drawn0.step)⟩
      · replace c8 := Bool.eq_false_iff.mpr c8
        subst c8
        have H1 : (if (wrap64 ((l0.length : Int) - a1)) < a2 then (some (0, 2)) else (varint_ReadFixed.l0 kj3 l0 a1 0 a2 0)) = some (r1, r2) := by rw [if_neg (show ¬ (false = true) by decide)] at H; exact H
        clear H
        have H := H1
        clear H1
        by_cases c9 : (wrap64 ((l0.length : Int) - a1)) < a2
        · rw [if_pos c9] at H
          have c9b0 : decide ((wrap64 ((l0.length : Int) - a1)) < a2) = true := decide_eq_true c9
          clear c9
          simp only [Option.some.injEq, Prod.mk.injEq] at H
          obtain ⟨rfl, rfl⟩ := H
          go_wp2
          go_ret2
          exact ⟨by first | rfl | (simp; done) | (simp [*]; done), by repeat (first | exact Drawn0.refl _ | apply Drawn0.step)⟩
        · rw [if_neg c9] at H
          have c9b0 : decide ((wrap64 ((l0.length : Int) - a1)) < a2) = false := decide_eq_false c9
          clear c9
          have H' := Aside0.mk H
          clear H
          go_wp2
          go_loopg [8, 33] kj3 (fun kq v8 v33 w' => ∃ (x8_2 : Int) (x33_2 : Int), v8 = .int .u64 x8_2 ∧ v33 = .int .i64 x33_2 ∧ Aside0 (varint_ReadFixed.l0 kq l0 a1 x8_2 a2 x33_2 = some (r1, r2)) ∧ Aside0 (kq ≤ kj3) ∧ Drawn0 w w')
          case atStart => exact ⟨(0), (0), (by first | rfl | (simp; done) | (simp [*]; done)), (by first | rfl | (simp; done) | (simp [*]; done)), H', ⟨Nat.le_refl _⟩, by repeat (first | exact Drawn0.refl _ | apply Drawn0.step)⟩
          case round =>
            clear H'
            try clear p2
            try clear c3
            try clear c5
            try clear c5b0
            try clear c6
            try clear c6b0
            try clear p6
            try clear c7
            try clear c7b0
            try clear c8
            try clear c9
            try clear c9b0
            try clear p2
            obtain ⟨x8_2, x33_2, rfl, rfl, HA, HK2, ⟨m2, rfl⟩⟩ := hrel
            cases gk with
            | zero => exact absurd HA.out (by simp [varint_ReadFixed.l0])
            | succ k2 =>
              have H := HA.out
              clear HA
              simp only [varint_ReadFixed.l0] at H
              by_cases c10 : x33_2 < a2
              · rw [if_pos c10] at H
                have c10b0 : decide (x33_2 < a2) = true := decide_eq_true c10
                clear c10
                obtain ⟨ji11, hji11⟩ : ∃ j_ : Int, (wrap64 (a1 + x33_2)) = j_ := ⟨_, rfl⟩
                replace H : (if 0 ≤ (ji11) then (if (ji11) < (l0.length : Int) then (if 0 ≤ (wrap64 (8 * x33_2)) then (varint_ReadFixed.l0 k2 l0 a1 (Go.bits .or .u64 x8_2 (shl .u64 (IntKind.u64.wrap (rd l0 (ji11))) (wrap64 (8 * x33_2)))) a2 (wrap64 (x33_2 + 1))) else (none)) else (none)) else (none)) = some (r1, r2) := by first | (rw [hji11] at H; exact H) | (simp only [hji11] at H ⊢; exact H)
                have hji11w : (IntKind.i64.wrap (a1 + x33_2)) = ji11 := (i64_w _).trans hji11
                by_cases c12 : 0 ≤ (ji11)
                · rw [if_pos c12] at H
                  have c12b0 : decide (0 ≤ (ji11)) = true := decide_eq_true c12
                  clear c12
                  by_cases c13 : (ji11) < (l0.length : Int)
                  · rw [if_pos c13] at H
                    have c13b0 : decide ((ji11) < (l0.length : Int)) = true := decide_eq_true c13
                    clear c13
                    obtain ⟨ji14, hji14⟩ : ∃ j_ : Int, (wrap64 (8 * x33_2)) = j_ := ⟨_, rfl⟩
                    replace H : (if 0 ≤ (ji14) then (varint_ReadFixed.l0 k2 l0 a1 (Go.bits .or .u64 x8_2 (shl .u64 (IntKind.u64.wrap (rd l0 (ji11))) (ji14))) a2 (wrap64 (x33_2 + 1))) else (none)) = some (r1, r2) := by first | (rw [hji14] at H; exact H) | (simp only [hji14] at H ⊢; exact H)
                    have hji14w : (IntKind.i64.wrap (8 * x33_2)) = ji14 := (i64_w _).trans hji14
                    by_cases c15 : 0 ≤ (ji14)
                    · rw [if_pos c15] at H
                      have c15b0 := eq_true c15
                      have c15b1 : decide (0 ≤ (ji14)) = true := decide_eq_true c15
                      clear c15
                      obtain ⟨ji16, hji16⟩ : ∃ j_ : Int, (shl .u64 (IntKind.u64.wrap (rd l0 (ji11))) (ji14)) = j_ := ⟨_, rfl⟩
                      replace H : (varint_ReadFixed.l0 k2 l0 a1 (Go.bits .or .u64 x8_2 (ji16)) a2 (wrap64 (x33_2 + 1))) = some (r1, r2) := by first | (rw [hji16] at H; exact H) | (simp only [hji16] at H ⊢; exact H)
                      have hji16_ : (IntKind.u64.wrap ((IntKind.u64.wrap (rd l0 (ji11))) * 2 ^ min (ji14).toNat 64)) = ji16 := hji16
                      have hji16z : (ji14) ≤ 64 → (IntKind.u64.wrap ((IntKind.u64.wrap (rd l0 (ji11))) * 2 ^ (ji14).toNat)) = ji16 := shl_small hji16
                      have H' := Aside0.mk H
                      clear H
                      have p116 : 0 ≤ ((ji11) : Int) := of_decide_eq_true (by first | (with_reducible assumption) | assumption)
                      have q116 : (ji11) < (l0.length : Int) := of_decide_eq_true (by first | (with_reducible assumption) | assumption)
                      obtain ⟨ad116, e116, hx116_0⟩ := Kd.at_int HR0.out (ji11) p116 q116
                      cases e116
                      replace p116 := eq_true p116
                      replace q116 := eq_true q116
                      go_wp2
                      go_roundg k2
                      case measure => have := HJ3.out; have := HK2.out; omega
                      case rel => exact ⟨(Go.bits .or .u64 x8_2 (ji16)), (wrap64 (x33_2 + 1)), (by first | rfl | (simp; done) | (simp only [← hji16] <;> (first | rfl | simp)) | (simp [*]; done)), (by first | rfl | (simp; done) | (simp [*]; done)), H', ⟨by have := HJ3.out; have := HK2.out; omega⟩, by repeat (first | exact Drawn0.refl _ | apply Drawn0.step)⟩
                    · rw [if_neg c15] at H
                      exact absurd H (by simp)
                  · rw [if_neg c13] at H
                    exact absurd H (by simp)
                · rw [if_neg c12] at H
                  exact absurd H (by simp)
              · rw [if_neg c10] at H
                have c10b0 : decide (x33_2 < a2) = false := decide_eq_false c10
                clear c10
                simp only [Option.some.injEq, Prod.mk.injEq] at H
                obtain ⟨rfl, rfl⟩ := H
                go_wp2
                go_ret2
                exact ⟨by first | rfl | (simp; done) | (simp [*]; done), by repeat (first | exact Drawn0.refl _ | apply Drawn0.step)⟩

end Go.Proofs.Ytfkgpmidcbjlbaa.P
end
section
set_option linter.unusedVariables false
set_option linter.unusedSimpArgs false
/- Plain: four bytes of a number; a varint read back. -/
namespace Go.Proofs.Ytfkgpmidcbjlbaa.U
open Go.RowKit Go.Proofs.Ytfkgpmidcbjlbaa.P Go.Proofs.YtfkgpmidcbjlbaaW.PrintWords Go.Proofs.YtfkgpmidcbjlbaaW.PrintMore

/-- the j lowest bytes from byte i on -/
def leS (n : Nat) : Nat → List Int
  | 0 => []
  | j + 1 => leS n j ++ [((n / 256 ^ j % 256 : Nat) : Int)]
theorem leS_len (n j : Nat) : (leS n j).length = j := by
  induction j with
  | zero => rfl
  | succ j ih => simp [leS, ih]
theorem leS_bytes (n j : Nat) : Bytes (leS n j) := by
  induction j with
  | zero => exact Bytes.nil
  | succ j ih => exact Bytes.app ih (Bytes.cons (by omega) (by omega) Bytes.nil)
/-- the number of bytes -/
def valS : List Int → Nat
  | [] => 0
  | x :: xs => x.toNat + 256 * valS xs
theorem valS_snoc (l : List Int) (x : Int) : valS (l ++ [x]) = valS l + 256 ^ l.length * x.toNat := by
  induction l with
  | nil => simp [valS]
  | cons y ys ih =>
    simp only [List.cons_append, valS, ih, List.length_cons, Nat.pow_succ]
    rw [Nat.mul_add, ← Nat.mul_assoc, Nat.mul_comm 256 (256 ^ ys.length)]
    omega
theorem valS_le (n j : Nat) : valS (leS n j) = n % 256 ^ j := by
  induction j with
  | zero => simp [leS, valS, Nat.mod_one]
  | succ j ih =>
    rw [leS, valS_snoc, ih, leS_len, Int.toNat_natCast, Nat.pow_succ]
    have h1 := Nat.mod_mul (a := 256 ^ j) (b := 256) (x := n)
    rw [h1]
theorem valS_lt (l : List Int) (hb : Bytes l) : valS l < 256 ^ l.length := by
  induction l with
  | nil => simp [valS]
  | cons x xs ih =>
    have h := ih (fun y hy => hb y (by simp [hy]))
    have hx := hb x (by simp)
    simp only [valS, List.length_cons, Nat.pow_succ]
    omega
theorem leS_cons (n j : Nat) : leS n (j + 1) = ((n % 256 : Nat) : Int) :: leS (n / 256) j := by
  induction j with
  | zero => simp [leS]
  | succ j ih =>
    rw [leS, ih, leS, List.cons_append, Nat.div_div_eq_div_mul, Nat.pow_succ, Nat.mul_comm 256]
theorem leS_val (l : List Int) (hb : Bytes l) : leS (valS l) l.length = l := by
  induction l with
  | nil => rfl
  | cons x xs ih =>
    have hx := hb x (by simp)
    rw [List.length_cons, leS_cons]
    simp only [valS]
    rw [show (x.toNat + 256 * valS xs) / 256 = valS xs from by omega, ih (fun y hy => hb y (by simp [hy])), show (((x.toNat + 256 * valS xs) % 256 : Nat) : Int) = x from by omega]
theorem setD (l : List Int) (j : Nat) (x : Int) (m : Nat) (h : l.length = j) : (l ++ List.replicate (m + 1) 0).set j x = (l ++ [x]) ++ List.replicate m 0 := by
  subst h
  rw [List.set_append_right _ _ (Nat.le_refl _), Nat.sub_self, List.replicate_succ, List.set_cons_zero, List.append_assoc]; rfl
theorem shr8 (n i : Nat) (hi : i ≤ 7) : (shr .u64 (n : Int) (wrap64 (8 * (i : Int)))) % 256 = ((n / 256 ^ i % 256 : Nat) : Int) := by
  rw [w64 _ (by omega) (by omega)]
  unfold shr
  rw [show (8 * (i : Int)).toNat = 8 * i from by omega, Nat.min_eq_left (by show 8 * i ≤ 64; omega), Nat.pow_mul 2 8 i |> fun e => show (2 : Int) ^ (8 * i) = ((256 ^ i : Nat) : Int) from by rw [show (256 : Nat) = 2 ^ 8 from rfl, ← e]; simp]
  rw [← Int.natCast_ediv]
  omega
theorem fixed_impl_l (n : Nat) : ∀ m i : Nat, i + m = 4 → Ev (fun k => varint_Fixed.l0 k (n : Int) (leS n i ++ List.replicate m 0) 4 (i : Int)) (leS n 4)
  | 0, i, hi => by
    obtain rfl : i = 4 := by omega
    refine Ev.step (fun k => rfl) (Ev.neg (by decide) (Ev.of fun k => ?_))
    simp
  | m + 1, i, hi => by
    have e8 : wrap64 (8 * (i : Int)) = ((8 * i : Nat) : Int) := by rw [w64 _ (by omega) (by omega)]; omega
    refine Ev.step (fun k => rfl) (Ev.pos (by omega) (Ev.pos (by rw [e8]; omega) (Ev.pos (by omega) (Ev.pos (by simp [leS_len]; omega) ?_))))
    rw [shr8 n i (by omega), Int.toNat_natCast, setD _ _ _ _ (leS_len n i), show wrap64 ((i : Int) + 1) = ((i + 1 : Nat) : Int) from by rw [w64 _ (by omega) (by omega)]; omega]
    exact fixed_impl_l n m (i + 1) (by omega)
theorem fixed_impl (n : Nat) : Ev (fun k => varint_Fixed.f k (n : Int) 4) (leS n 4) := by
  have h : Ev (fun k => varint_Fixed.l0 k (n : Int) (List.replicate 4 0) 4 0) (leS n 4) := fixed_impl_l n 4 0 rfl
  have h2 : Ev (fun k => varint_Fixed.j0 k (n : Int) 4 false) (leS n 4) := Ev.step (fun k => rfl) h
  exact h2.congr fun k => rfl
theorem or_shift8 (a b i : Nat) (h : a < 256 ^ i) : a ||| b * 256 ^ i = a + 256 ^ i * b := by
  have h' : a < 2 ^ (8 * i) := by rw [Nat.pow_mul]; exact h
  rw [show 256 ^ i = 2 ^ (8 * i) from by rw [Nat.pow_mul], or_shift _ _ _ h', Nat.mul_comm]
theorem readFixed_l (l : List Int) (p : Nat) (hb : Bytes l) (hl : l.length ≤ 4611686018427387904) (hp : p + 4 ≤ l.length) : ∀ m i : Nat, i + m = 4 →
    Ev (fun k => varint_ReadFixed.l0 k l (p : Int) ((valS ((l.take (p + i)).drop p) : Nat) : Int) 4 (i : Int)) (((valS ((l.take (p + 4)).drop p) : Nat) : Int), 0)
  | 0, i, hi => by
    obtain rfl : i = 4 := by omega
    exact Ev.step (fun k => rfl) (Ev.neg (by decide) (Ev.pure _))
  | m + 1, i, hi => by
    have e0 : wrap64 ((p : Int) + (i : Int)) = ((p + i : Nat) : Int) := by rw [w64 _ (by omega) (by omega)]; omega
    have e8 : wrap64 (8 * (i : Int)) = ((8 * i : Nat) : Int) := by rw [w64 _ (by omega) (by omega)]; omega
    refine Ev.step (fun k => rfl) (Ev.pos (by omega) (Ev.pos (by rw [e0]; omega) (Ev.pos (by rw [e0]; omega) (Ev.pos (by rw [e8]; omega) ?_))))
    have hc := hb.at (p + i) (by omega)
    obtain ⟨c, hcc⟩ : ∃ c : Nat, l.getD (p + i) 0 = (c : Int) := ⟨(l.getD (p + i) 0).toNat, by omega⟩
    rw [hcc] at hc
    have hge : l[p + i]'(by omega) = (c : Int) := by
      rw [← hcc, List.getD_eq_getElem?_getD, List.getElem?_eq_getElem (by omega)]; rfl
    have hbt : Bytes ((l.take (p + i)).drop p) := (hb.take _).drop _
    have hlen : ((l.take (p + i)).drop p).length = i := by simp; omega
    have hv := valS_lt _ hbt
    rw [hlen] at hv
    have hp256 : 256 ^ i ≤ 16777216 := by
      calc 256 ^ i ≤ 256 ^ 3 := Nat.pow_le_pow_right (by decide) (by omega)
        _ = 16777216 := by decide
    have hcm : c * 256 ^ i ≤ 255 * 16777216 := Nat.mul_le_mul (by omega) hp256
    have es : shl .u64 ((c : Nat) : Int) ((8 * i : Nat) : Int) = ((c * 256 ^ i : Nat) : Int) := by
      unfold shl
      rw [Int.toNat_natCast, Nat.min_eq_left (by show 8 * i ≤ 64; omega), show ((2 : Int) ^ (8 * i)) = ((256 ^ i : Nat) : Int) from by rw [show (256 : Nat) = 2 ^ 8 from rfl, ← Nat.pow_mul]; simp, ← Int.natCast_mul, wu64 _ (by omega) (by omega)]
    rw [e0, e8, rdD, hcc, wu64 (c : Int) (by omega) (by omega), es, u64_or_nat _ _ (by omega) (by omega), or_shift8 _ _ _ hv, show wrap64 ((i : Int) + 1) = ((i + 1 : Nat) : Int) from by rw [w64 _ (by omega) (by omega)]; omega]
    have hnext : (l.take (p + (i + 1))).drop p = (l.take (p + i)).drop p ++ [(c : Int)] := by
      rw [← Nat.add_assoc, List.take_succ_eq_append_getElem (by omega), List.drop_append_of_le_length (by simp; omega), hge]
    have ih := readFixed_l l p hb hl hp m (i + 1) (by omega)
    rw [hnext, valS_snoc, hlen, Int.toNat_natCast] at ih
    exact ih
theorem readFixed (l : List Int) (p : Nat) (hb : Bytes l) (hl : l.length ≤ 4611686018427387904) (hp : p + 4 ≤ l.length) :
    Ev (fun k => varint_ReadFixed.f k l (p : Int) 4) (((valS ((l.take (p + 4)).drop p) : Nat) : Int), 0) := by
  refine Ev.neg (by decide) (Ev.neg (by decide) (Ev.neg (by omega) (Ev.step (fun k => rfl) ?_)))
  have := readFixed_l l p hb hl hp 4 0 rfl
  rw [Nat.add_zero, List.drop_eq_nil_of_le (by simp; omega)] at this
  exact Ev.neg (by simp; omega) (Ev.neg (by rw [w64 _ (by omega) (by omega)]; omega) this)

/-! a varint is read back -/
theorem decG_enc (l : List Int) (p : Nat) (suf : List Int) : ∀ f i n m : Nat, i + f = 10 → n < 2 ^ (7 * i) → (0 < i → 0 < m) → n + m * 2 ^ (7 * i) < 18446744073709551616 → p + i ≤ l.length → l.drop (p + i) = encS m ++ suf →
    decG l p f i n = (((n + m * 2 ^ (7 * i) : Nat) : Int), ((p + i + (encS m).length : Nat) : Int), 0)
  | 0, i, n, m, hi, hn, hm, hlt, hpl, h => by
    obtain rfl : i = 10 := by omega
    have := hm (by omega)
    have : 1 * 2 ^ (7 * 10) ≤ m * 2 ^ (7 * 10) := Nat.mul_le_mul_right _ this
    omega
  | f + 1, i, n, m, hi, hn, hm, hlt, hpl, h => by
    have hpos : 0 < 2 ^ (7 * i) := Nat.two_pow_pos _
    have hne : ¬ l.length ≤ p + i := by
      intro hle
      rw [List.drop_eq_nil_of_le hle] at h
      have h2 := encS_pos m
      have h3 := congrArg List.length h
      simp at h3
      omega
    rw [List.drop_eq_getElem_cons (by omega)] at h
    have hget : ∀ c : Int, l[p + i]'(by omega) = c → l.getD (p + i) 0 = c := fun c hc => by
      rw [List.getD_eq_getElem?_getD, List.getElem?_eq_getElem (by omega)]; exact hc
    by_cases hlow : m < 128
    · rw [encS_low m hlow] at h ⊢
      simp only [List.cons_append, List.nil_append, List.cons.injEq] at h
      have hb : ¬ ((i = 9 ∧ 1 < m) ∨ (0 < i ∧ m = 0)) := by
        rintro (⟨h9, h1⟩ | ⟨h9, h1⟩)
        · subst h9
          have : 2 * 2 ^ (7 * 9) ≤ m * 2 ^ (7 * 9) := Nat.mul_le_mul_right _ h1
          omega
        · have := hm h9; omega
      rw [decG_end l p f i n m hne (hget _ h.1) hb hlow]
      simp
    · rw [encS_high m hlow] at h ⊢
      simp only [List.cons_append, List.cons.injEq] at h
      have h9 : i ≤ 8 := by
        rcases Nat.lt_or_ge 8 i with h9 | h9
        · have hi9 : i = 9 := by omega
          subst hi9
          have : 128 * 2 ^ (7 * 9) ≤ m * 2 ^ (7 * 9) := Nat.mul_le_mul_right _ (by omega)
          omega
        · exact h9
      rw [decG_more l p f i n (128 + m % 128) hne (hget _ h.1) (by omega) (by omega)]
      have e1 : (128 + m % 128) % 128 = m % 128 := by omega
      have hsum : n + m % 128 * 2 ^ (7 * i) + m / 128 * 2 ^ (7 * (i + 1)) = n + m * 2 ^ (7 * i) := by
        rw [show 7 * (i + 1) = 7 * i + 7 from by omega, Nat.pow_add, show 2 ^ 7 = 128 from rfl, Nat.mul_comm (2 ^ (7 * i)) 128, ← Nat.mul_assoc, Nat.add_assoc, ← Nat.add_mul]
        congr 2
        omega
      have hs := step7 n m i h9 hn
      have ih := decG_enc l p suf f (i + 1) (n + m % 128 * 2 ^ (7 * i)) (m / 128) (by omega) hs (fun _ => by omega) (by rw [hsum]; exact hlt) (by omega) h.2
      rw [e1, ih, hsum, List.length_cons]
      congr 2
      omega
theorem decS_enc (pre suf : List Int) (m : Nat) (hm : m < 18446744073709551616) : decS (pre ++ encS m ++ suf) (pre.length : Int) = ((m : Int), ((pre.length + (encS m).length : Nat) : Int), 0) := by
  unfold decS
  rw [if_neg (by simp; omega), Int.toNat_natCast, decG_enc (pre ++ encS m ++ suf) pre.length suf 10 0 0 m rfl (by decide) (fun h => absurd h (by decide)) (by simpa using hm) (by simp) (by simp)]
  simp
end Go.Proofs.Ytfkgpmidcbjlbaa.U
end
section
set_option linter.unusedVariables false
set_option linter.unusedSimpArgs false
/- Small facts that the texts by hand share. -/
namespace Go.Proofs.Ytfkgpmidcbjlbaa.H
open Go.RowKit Go.Proofs.YtfkgpmidcbjlbaaW.PrintWords

theorem hid {p : Prop} (h : p) : Hid p := h
theorem ret_bool {a b : Bool} (h : a = b) : Ending.returned (.bool a) = Ending.returned (.bool b) := by rw [h]
theorem ret_int {k : IntKind} {a b : Int} (h : a = b) : Ending.returned (.int k a) = Ending.returned (.int k b) := by rw [h]
theorem toList_data (s : ByteArray) : s.toList = s.data.toList := by
  exact ByteArray.toList_eq s
theorem toList_nil (s : ByteArray) (h : s.size = 0) : s.toList = [] := by
  rw [toList_data]
  exact List.length_eq_zero_iff.1 (by simpa using h)
theorem toList_ne (s : ByteArray) (h : ¬ s.size = 0) : s.toList.isEmpty = false := by
  rw [toList_data, List.isEmpty_eq_false_iff]
  intro h2
  have := congrArg List.length h2
  rw [List.length_nil, Array.length_toList] at this
  exact h this
theorem isEmpty_size (n : ByteArray) : n.toList.isEmpty = decide (n.size = 0) := by
  by_cases h : n.size = 0
  · rw [toList_nil n h, decide_eq_true h]; rfl
  · rw [toList_ne n h, decide_eq_false h]
/-- an element of a row of rows -/
theorem at_row {α : Type} {d : Kd α} {e : Nat} {w : World} {A : Option Addr} {n : Nat} {xs : List (List α)} (h : Kd.C (Kd.slice e d) w A n xs) (i : Nat) (h1 : i < n) :
    ∃ ad A0 c0, A = some ad ∧ w.cell? (ad.add i) = some (.slice A0 (xs.getD i []).length c0) ∧ (xs.getD i []).length ≤ c0 ∧ d.C w A0 (xs.getD i []).length (xs.getD i []) := by
  obtain ⟨ad, c, hA, hl, ⟨A0, c0, rfl, hc, hd⟩, hx⟩ := Kd.C_get h [] (i : Int) (by omega) (by omega)
  simp only [Int.toNat_natCast] at hc hd hx
  refine ⟨ad, A0, c0, hA, ?_, hc, hd⟩
  have hx0 := hx 0 _ rfl
  rw [show i * (Kd.slice e d).sz + 0 = i from by show i * 1 + 0 = i; omega] at hx0
  exact hx0
/-- a block of slices reads as a row of rows -/
theorem C_rows {α : Type} {d : Kd α} {e : Nat} {w : World} {blk : Nat} (xs : List (List α)) (f : Nat → Option Addr × Nat) (hm : xs.length ≤ 9223372036854775807)
    (h : ∀ j p, xs[j]? = some p → w.cell? ⟨blk, j, none⟩ = some (.slice (f j).1 p.length (f j).2) ∧ p.length ≤ (f j).2 ∧ d.C w (f j).1 p.length p) :
    Kd.C (Kd.slice e d) w (some ⟨blk, 0, none⟩) xs.length xs := by
  refine ⟨rfl, hm, fun _ => ⟨_, rfl, fun j p hj => ?_⟩⟩
  obtain ⟨h1, h2, h3⟩ := h j p hj
  refine ⟨[.slice (f j).1 p.length (f j).2], rfl, ⟨_, _, rfl, h2, h3⟩, fun i u hu => ?_⟩
  cases i with
  | zero =>
    simp at hu
    subst hu
    have : (⟨blk, 0, none⟩ : Addr).add (j * (Kd.slice e d).sz + 0) = ⟨blk, j, none⟩ := by
      show (⟨blk, 0, none⟩ : Addr).add (j * 1 + 0) = _
      simp only [Nat.mul_one, Nat.add_zero, Addr.add]
      split
      · next h => rw [h]
      · simp
    rw [this]; exact h1
  | succ i => simp at hu
theorem C_one {α : Type} {d : Kd α} {e : Nat} {w : World} {blk : Nat} {A : Option Addr} {c : Nat} (xs : List α) (h1 : w.cell? ⟨blk, 0, none⟩ = some (.slice A xs.length c)) (h2 : xs.length ≤ c) (h3 : d.C w A xs.length xs) :
    Kd.C (Kd.slice e d) w (some ⟨blk, 0, none⟩) 1 [xs] :=
  C_rows [xs] (fun _ => (A, c)) (by simp) fun j p hj => by
    cases j with
    | zero => simp at hj; subst hj; exact ⟨h1, h2, h3⟩
    | succ j => simp at hj
theorem C_three {α : Type} {d : Kd α} {e : Nat} {w : World} {blk : Nat} {A0 A1 A2 : Option Addr} {c0 c1 c2 : Nat} (x0 x1 x2 : List α)
    (h0 : w.cell? ⟨blk, 0, none⟩ = some (.slice A0 x0.length c0) ∧ x0.length ≤ c0 ∧ d.C w A0 x0.length x0) (h1 : w.cell? ⟨blk, 1, none⟩ = some (.slice A1 x1.length c1) ∧ x1.length ≤ c1 ∧ d.C w A1 x1.length x1)
    (h2 : w.cell? ⟨blk, 2, none⟩ = some (.slice A2 x2.length c2) ∧ x2.length ≤ c2 ∧ d.C w A2 x2.length x2) : Kd.C (Kd.slice e d) w (some ⟨blk, 0, none⟩) 3 [x0, x1, x2] :=
  C_rows [x0, x1, x2] (fun j => if j = 0 then (A0, c0) else if j = 1 then (A1, c1) else (A2, c2)) (by simp) fun j p hj => by
    match j, hj with
    | 0, hj => simp at hj; subst hj; exact h0
    | 1, hj => simp at hj; subst hj; exact h1
    | 2, hj => simp at hj; subst hj; exact h2
    | j + 3, hj => simp at hj
end Go.Proofs.Ytfkgpmidcbjlbaa.H
end
section
set_option linter.unusedVariables false
set_option linter.unusedSimpArgs false
/- checksum.CRC: the table, the bytes. -/
namespace Go.Proofs.Ytfkgpmidcbjlbaa.H
open Go.RowKit Go.Proofs.YtfkgpmidcbjlbaaW.PrintWords

/-- one bit of the division -/
def crc1 (x : Int) : Int := if (Go.bits .and .u32 x 1) = 1 then Go.bits .xor .u32 (x / 2) 2197175160 else x / 2
def crcN : Nat → Int → Int
  | 0, x => x
  | n + 1, x => crc1 (crcN n x)
/-- the table's entries -/
def tabAt (j : Nat) : Int := crcN 8 (j : Int)

def Tab (c : Array Value) (k : Nat) : Prop := c.size = 256 ∧ ∀ j, j < k → c[j]? = some (.int .u32 (tabAt j))
theorem tab_next {c : Array Value} {k : Nat} (h : Tab c k) (hk : k < 256) : Tab (c.setIfInBounds k (.int .u32 (tabAt k))) (k + 1) := by
  refine ⟨by simpa using h.1, fun j hj => ?_⟩
  rw [Array.getElem?_setIfInBounds]
  by_cases e : k = j
  · subst e
    rw [if_pos rfl, if_pos (by rw [h.1]; exact hk)]
  · rw [if_neg e]
    exact h.2 j (by omega)
theorem size_zeros : Try.zeroCells100.size = 256 := by kernel_rfl

/-- the whole table -/
def tabArr : Array Value := ((List.range 256).map fun j => Value.int .u32 (tabAt j)).toArray
theorem tabArr_size : tabArr.size = 256 := by simp [tabArr]
theorem tabArr_at (j : Nat) (h : j < 256) : tabArr[j]? = some (.int .u32 (tabAt j)) := by
  simp [tabArr, h]
theorem tab_whole {c : Array Value} (h : Tab c 256) : c = tabArr := by
  apply Array.ext
  · rw [h.1, tabArr_size]
  · intro i h1 h2
    have a := h.2 i (by rw [h.1] at h1; exact h1)
    have b := tabArr_at i (by rw [h.1] at h1; exact h1)
    rw [Array.getElem?_eq_getElem h1] at a
    rw [Array.getElem?_eq_getElem h2] at b
    exact Option.some.inj (a.trans b.symm)
theorem tabArr_one : tabArr.all (·.oneCell') = true := by
  rw [Array.all_eq_true_iff_forall_mem]
  intro x hx
  simp only [tabArr, List.mem_toArray, List.mem_map] at hx
  obtain ⟨j, _, rfl⟩ := hx
  rfl
theorem crcN_one (n : Nat) (x : Int) (h : (Go.bits .and .u32 (crcN n x) 1 == 1) = true) : Go.bits .xor .u32 (crcN n x / 2) 2197175160 = crcN (n + 1) x := by
  show _ = crc1 _
  rw [crc1, if_pos (by simpa using h)]
theorem crcN_two (n : Nat) (x : Int) (h : (Go.bits .and .u32 (crcN n x) 1 == 1) = false) : crcN n x / 2 = crcN (n + 1) x := by
  show _ = crc1 _
  rw [crc1, if_neg (by simpa using h)]
theorem bits_range (op : BinOp) (x y : Int) : 0 ≤ Go.bits op .u32 x y ∧ Go.bits op .u32 x y < 4294967296 := by
  have e : ∀ n : Int, 0 ≤ IntKind.u32.wrap n ∧ IntKind.u32.wrap n < 4294967296 := fun n => by rw [IntKind.wrap_u32]; omega
  cases op <;> simp [Go.bits, e]
theorem crcN_range (n : Nat) (x : Int) (h : 0 ≤ x ∧ x < 4294967296) : 0 ≤ crcN n x ∧ crcN n x < 4294967296 := by
  induction n with
  | zero => exact h
  | succ n ih =>
    show 0 ≤ crc1 _ ∧ crc1 _ < _
    unfold crc1
    split
    · exact bits_range _ _ _
    · omega

set_option maxRecDepth 100000 in
set_option maxHeartbeats 2000000 in
theorem rem_calls (w : World) :
    Calls Try.prog 58 #[] w fun e w' => e = .returned (.agg tabArr) ∧ Below w.heap.size w w' := by
  go_enter Try.func58, Try.ntmps58
  go_wp2
  go_loopw [4] (fun v w' => ∃ (k : Nat) (c : Array Value), k ≤ 256 ∧ v = .int .i64 k ∧ Hid (Tab c k) ∧ w' = (w.alloc (.cells Try.zeroCells100 100)).alloc (.cells c 100)) (fun v _ => 256 - (intOf v).toNat)
  case atStart => exact ⟨0, _, Nat.zero_le _, rfl, ⟨size_zeros, fun j hj => absurd hj (Nat.not_lt_zero _)⟩, rfl⟩
  case round =>
    obtain ⟨k, c, hk, rfl, HT, rfl⟩ := hrel
    by_cases hlt : k < 256
    · have hsz := HT.out.1
      go_wp2
      go_loop [3, 9] (fun r i => ∃ j : Nat, j ≤ 8 ∧ i = .int .i64 j ∧ r = .int .u32 (crcN j k)) (fun _ i => 8 - (intOf i).toNat)
      case atStart => exact ⟨0, by omega, rfl, rfl⟩
      case round =>
        obtain ⟨j, hj, rfl, rfl⟩ := hrel
        have hr := crcN_range j k (by omega)
        by_cases hj8 : j < 8
        · go_wp2
          all_goals
            go_round
            case rel => exact ⟨j + 1, by omega, by go_num, by first | rw [crcN_one _ _ ‹_›] | rw [crcN_two _ _ ‹_›]⟩
            case measure => simp [intOf]; omega
        · obtain rfl : j = 8 := by omega
          have HT2 := hid (tab_next HT.out hlt)
          go_wp2
          go_roundw
          case rel => exact ⟨k + 1, _, by omega, by go_num, HT2, rfl⟩
          case measure => simp [intOf]; omega
    · obtain rfl : k = 256 := by omega
      have hc := tab_whole HT.out
      subst hc
      clear HT
      go_wp2_with (first
        | (refine wpList_load_row rfl 100 _ rfl (w.heap.size + 1) rfl 100 tabArr (0, 0) _ (heap_alloc2_new _ _ _) Try.underlying100 rfl (by rw [tabArr_size]; kernel_rfl) ?_)
        | (refine wpList_store_row rfl 100 _ _ rfl w.heap.size tabArr rfl rfl 100 Try.zeroCells100 (heap_alloc2_old _ _ _) (by rw [tabArr_size]; kernel_rfl) (by rw [tabArr_size]; exact size_zeros) tabArr_one ?_))
      refine bodyPost_ret (v := .agg tabArr) (results_cell_row rfl _ _ w.heap.size 100 tabArr (0, 0) _ rfl (by rw [setRow_heap _ _ _ _ _ _ (heap_alloc2_old w _ _)]) Try.underlying100 rfl (by rw [tabArr_size]; kernel_rfl)) rfl ⟨rfl, ?_⟩
      exact below_setRow (((Below.refl _ _).alloc (Nat.le_refl _) _).alloc (by simp) _) (Nat.le_refl _) _
theorem bits_range8 (op : BinOp) (x y : Int) : 0 ≤ Go.bits op .u8 x y ∧ Go.bits op .u8 x y < 256 := by
  have e : ∀ n : Int, 0 ≤ IntKind.u8.wrap n ∧ IntKind.u8.wrap n < 256 := fun n => by rw [IntKind.wrap_u8]; omega
  cases op <;> simp [Go.bits, e]
/-- one byte -/
def updI (r b : Int) : Int := Go.bits .xor .u32 (r / 256) (tabAt (Go.bits .xor .u8 (r % 256) b).toNat)
def advI (r : Int) (l : List Int) : Int := l.foldl updI r
theorem advI_succ (l : List Int) (k : Nat) (r : Int) (h : k < l.length) : advI r (l.take (k + 1)) = updI (advI r (l.take k)) (rd l k) := by
  unfold advI
  rw [List.take_succ_eq_append_getElem h, List.foldl_append]
  simp [rd, List.getD_eq_getElem?_getD, h]
theorem advI_range (l : List Int) (k : Nat) (r : Int) (h : 0 ≤ r ∧ r < 4294967296) : 0 ≤ advI r (l.take k) ∧ advI r (l.take k) < 4294967296 := by
  unfold advI
  induction l.take k generalizing r with
  | nil => exact h
  | cons x xs ih => exact ih _ (bits_range _ _ _)
set_option maxRecDepth 100000 in
set_option maxHeartbeats 2000000 in
theorem adv_calls (g : Nat) (fr : Nat × Nat) (r : Int) (A : Option Addr) (c : Nat) (l : List Int) (w : World) (hg : w.heap[g]? = some (.cells tabArr 100 fr)) (hr : Kd.C (Kd.int .u8) w A l.length l) (hc : l.length ≤ c)
    (hl : l.length ≤ 9223372036854775807) (h0 : 0 ≤ r ∧ r < 4294967296) :
    Calls Try.prog 59 #[.pointer (some ⟨g, 0, none⟩), .int .u32 r, .slice A l.length c] w fun e w' => e = .returned (.int .u32 (advI r l)) ∧ w = w' := by
  go_enter Try.func59, Try.ntmps59
  go_wp2
  go_loop [1, 11] (fun v i => ∃ (k : Nat), k ≤ l.length ∧ i = .int .i64 k ∧ v = .int .u32 (advI r (l.take k))) (fun _ i => l.length - (intOf i).toNat)
  case atStart => exact ⟨0, Nat.zero_le _, rfl, rfl⟩
  case round =>
    obtain ⟨k, hk, rfl, rfl⟩ := hrel
    by_cases hlt : k < l.length
    · obtain ⟨ad, rfl, hx⟩ := Kd.at_int hr (k : Int) (by omega) (by omega)
      simp only [Int.toNat_natCast] at hx
      have hb := bits_range8 .xor (advI r (l.take k) % 256) (rd l k)
      have hcell : w.cell? ⟨g, (Go.bits .xor .u8 (advI r (l.take k) % 256) (rd l k)).toNat, none⟩ = some (.int .u32 (tabAt (Go.bits .xor .u8 (advI r (l.take k) % 256) (rd l k)).toNat)) := by
        rw [cell_of_row w g _ tabArr _ fr hg]
        exact tabArr_at _ (by omega)
      have hr2 := advI_range l k r h0
      clear hg
      go_wp2
      go_round
      case rel => exact ⟨k + 1, by omega, by go_num, by rw [advI_succ l k r hlt]; rfl⟩
      case measure => simp [intOf]; omega
    · go_wp2
      go_ret
      exact ⟨by rw [List.take_of_length_le (by omega)]; rfl, rfl⟩

/-- the register behind all parts -/
def advP (r : Int) (ls : List (List Int)) : Int := ls.foldl advI r
theorem advP_succ (ls : List (List Int)) (k : Nat) (r : Int) (h : k < ls.length) : advP r (ls.take (k + 1)) = advI (advP r (ls.take k)) (ls.getD k []) := by
  unfold advP
  rw [List.take_succ_eq_append_getElem h, List.foldl_append]
  simp [List.getD_eq_getElem?_getD, h]
theorem advP_range (ls : List (List Int)) (r : Int) (h : 0 ≤ r ∧ r < 4294967296) : 0 ≤ advP r ls ∧ advP r ls < 4294967296 := by
  unfold advP
  induction ls generalizing r with
  | nil => exact h
  | cons x xs ih =>
    refine ih _ ?_
    have := advI_range x x.length r h
    rwa [List.take_length] at this
def crcI (ls : List (List Int)) : Int := Go.bits .xor .u32 4294967295 (advP 4294967295 ls)
set_option maxRecDepth 100000 in
set_option maxHeartbeats 2000000 in
theorem crc_calls (A : Option Addr) (c : Nat) (ls : List (List Int)) (w : World) (hr : Kd.C (Kd.slice 5 (Kd.int .u8)) w A ls.length ls) (hc : ls.length ≤ c) :
    Calls Try.prog 28 #[.slice A ls.length c] w fun e w' => e = .returned (.int .u32 (crcI ls)) ∧ Below w.heap.size w w' := by
  have HR := hid hr
  clear hr
  go_enter Try.func28, Try.ntmps28
  have HL := hid (Kd.C_max HR.out)
  go_wp2_with (first
    | (go_at_call 58; refine (rem_calls _).mono ?_; rintro e w1 ⟨rfl, hb⟩; have HB := hid hb; clear hb)
    | (refine wpList_store_row rfl 100 _ _ rfl w1.heap.size tabArr rfl rfl 100 Try.zeroCells100 (heap_alloc_new _ _) (by rw [tabArr_size]; kernel_rfl) (by rw [tabArr_size]; exact size_zeros) tabArr_one ?_))
  obtain ⟨W, hW⟩ : ∃ W, W = (w1.alloc (.cells Try.zeroCells100 100)).setRow w1.heap.size tabArr := ⟨_, rfl⟩
  rw [← hW]
  have HG : Hid (W.heap[w1.heap.size]? = some (.cells tabArr 100 (0, 0))) := by rw [hW]; exact setRow_heap _ _ _ _ _ _ (heap_alloc_new _ _)
  have HBW : Hid (Below w.heap.size w W) := by
    rw [hW]
    exact below_setRow (HB.out.alloc HB.out.size _) HB.out.size _
  have HRW := hid (Kd.C_below HR.out HBW.out)
  clear hW HB HR
  go_wp2
  go_loop [4, 10] (fun v i => ∃ (k : Nat), k ≤ ls.length ∧ i = .int .i64 k ∧ v = .int .u32 (advP 4294967295 (ls.take k))) (fun _ i => ls.length - (intOf i).toNat)
  case atStart => exact ⟨0, Nat.zero_le _, rfl, rfl⟩
  case round =>
    obtain ⟨k, hk, rfl, rfl⟩ := hrel
    have hll := HL.out
    by_cases hlt : k < ls.length
    · obtain ⟨ad, A0, c0, rfl, hx, hc0, hd⟩ := at_row HRW.out k hlt
      have HD := hid hd
      have hl0 : (ls.getD k []).length ≤ 9223372036854775807 := Kd.C_max hd
      clear hd
      have HP := hid (advP_range (ls.take k) 4294967295 (by omega))
      have HX := hid hx
      obtain ⟨l0, hl0e⟩ : ∃ l0, l0 = ls.getD k [] := ⟨_, rfl⟩
      rw [← hl0e] at hx hl0 hc0
      rw [← hl0e] at HD
      have HE := hid hl0e
      clear hl0e HX
      go_wp2_with (go_at_call 59; refine (adv_calls _ (0, 0) _ _ _ l0 _ HG.out HD.out hc0 hl0 HP.out).mono ?_; rintro e w' ⟨rfl, rfl⟩)
      go_round
      case rel => exact ⟨k + 1, by omega, by go_num, by rw [advP_succ ls k _ hlt, HE.out]⟩
      case measure => simp [intOf]; omega
    · go_wp2
      go_ret
      exact ⟨by rw [List.take_of_length_le (by omega)]; rfl, HBW.out⟩
end Go.Proofs.Ytfkgpmidcbjlbaa.H
namespace Go.Proofs.Ytfkgpmidcbjlbaa.P
open Go.RowKit Go.Proofs.Ytfkgpmidcbjlbaa.H Go.Proofs.YtfkgpmidcbjlbaaW.PrintWords
end Go.Proofs.Ytfkgpmidcbjlbaa.P
end
section
set_option linter.unusedVariables false
set_option linter.unusedSimpArgs false
/- Plain: the checksum, the program's by a table and the reference's bit by bit. -/
namespace Go.Proofs.Ytfkgpmidcbjlbaa.U
open Go.RowKit Go.Proofs.Ytfkgpmidcbjlbaa.P Go.Proofs.Ytfkgpmidcbjlbaa.H Go.Proofs.YtfkgpmidcbjlbaaW.PrintWords Go.Proofs.YtfkgpmidcbjlbaaW.PrintMore

def crc1N (x : Nat) : Nat := if x % 2 = 1 then (x / 2) ^^^ 2197175160 else x / 2
def crcNN : Nat → Nat → Nat
  | 0, x => x
  | n + 1, x => crc1N (crcNN n x)
theorem half_xor (x y : Nat) : (x ^^^ y) / 2 = (x / 2) ^^^ (y / 2) := by
  simpa [Nat.shiftRight_eq_div_pow] using Nat.shiftRight_xor_distrib (a := x) (b := y) (i := 1)
theorem odd_xor (x y : Nat) : (x ^^^ y) % 2 = (x % 2 + y % 2) % 2 := by
  have h := Nat.testBit_xor x y 0
  simp only [Nat.testBit_zero] at h
  have hx : x % 2 = 0 ∨ x % 2 = 1 := by omega
  have hy : y % 2 = 0 ∨ y % 2 = 1 := by omega
  have hz : (x ^^^ y) % 2 = 0 ∨ (x ^^^ y) % 2 = 1 := by omega
  rcases hx with hx | hx <;> rcases hy with hy | hy <;> rcases hz with hz | hz <;> rw [hx, hy, hz] at h <;> first | (rw [hx, hy, hz]; done) | (rw [hx, hy, hz]; simp at h ⊢; done) | (simp at h)
theorem crc1N_xor (x y : Nat) : crc1N (x ^^^ y) = crc1N x ^^^ crc1N y := by
  unfold crc1N
  rw [odd_xor, half_xor]
  have hx : x % 2 = 0 ∨ x % 2 = 1 := by omega
  have hy : y % 2 = 0 ∨ y % 2 = 1 := by omega
  rcases hx with hx | hx <;> rcases hy with hy | hy <;> rw [hx, hy] <;> simp
  · rw [Nat.xor_assoc]
  · rw [Nat.xor_assoc, Nat.xor_assoc, Nat.xor_comm (y / 2)]
  · rw [Nat.xor_assoc (x / 2), Nat.xor_comm 2197175160, Nat.xor_assoc (y / 2), Nat.xor_self, Nat.xor_zero]
theorem crcNN_xor (n x y : Nat) : crcNN n (x ^^^ y) = crcNN n x ^^^ crcNN n y := by
  induction n with
  | zero => rfl
  | succ n ih => show crc1N _ = _; rw [ih, crc1N_xor]; rfl
theorem crc1N_even (x : Nat) : crc1N (2 * x) = x := by unfold crc1N; rw [if_neg (by omega)]; omega
theorem crcNN_shift (q : Nat) : crcNN 8 (256 * q) = q := by
  show crc1N (crc1N (crc1N (crc1N (crc1N (crc1N (crc1N (crc1N (256 * q)))))))) = q
  rw [show 256 * q = 2 * (128 * q) from by omega, crc1N_even, show 128 * q = 2 * (64 * q) from by omega, crc1N_even, show 64 * q = 2 * (32 * q) from by omega, crc1N_even, show 32 * q = 2 * (16 * q) from by omega, crc1N_even,
    show 16 * q = 2 * (8 * q) from by omega, crc1N_even, show 8 * q = 2 * (4 * q) from by omega, crc1N_even, show 4 * q = 2 * (2 * q) from by omega, crc1N_even, crc1N_even]
theorem split256 (r : Nat) : r = (256 * (r / 256)) ^^^ (r % 256) := by
  have h : 256 * (r / 256) ||| r % 256 = 2 ^ 8 * (r / 256) + r % 256 := (Nat.two_pow_add_eq_or_of_lt (i := 8) (Nat.mod_lt _ (by decide)) (r / 256)).symm
  apply Nat.eq_of_testBit_eq
  intro i
  rw [Nat.testBit_xor]
  have e1 : (256 * (r / 256)).testBit i = (decide (8 ≤ i) && (r / 256).testBit (i - 8)) := by
    rw [show 256 * (r / 256) = 2 ^ 8 * (r / 256) from rfl, Nat.testBit_two_pow_mul]
  have e2 : (r % 256).testBit i = (decide (i < 8) && r.testBit i) := by
    rw [show 256 = 2 ^ 8 from rfl, Nat.testBit_mod_two_pow]
  have e3 : (r / 256).testBit (i - 8) = r.testBit (8 + (i - 8)) := by
    rw [show 256 = 2 ^ 8 from rfl, Nat.testBit_div_two_pow, Nat.add_comm]
  rw [e1, e2, e3]
  by_cases hi : 8 ≤ i
  · rw [decide_eq_true hi, decide_eq_false (by omega), show 8 + (i - 8) = i from by omega]; simp
  · rw [decide_eq_false hi, decide_eq_true (by omega)]; simp
/-- one byte, by the reference -/
def stepN (r b : Nat) : Nat := crcNN 8 (r ^^^ b)
theorem step_tab (r b : Nat) : stepN r b = (r / 256) ^^^ crcNN 8 ((r % 256) ^^^ b) := by
  unfold stepN
  have h : r ^^^ b = (256 * (r / 256)) ^^^ ((r % 256) ^^^ b) := by
    conv => lhs; rw [split256 r]
    rw [Nat.xor_assoc]
  rw [h, crcNN_xor, crcNN_shift]
theorem crc1N_lt (x : Nat) (h : x < 4294967296) : crc1N x < 4294967296 := by
  unfold crc1N
  split
  · exact Nat.xor_lt_two_pow (n := 32) (by omega) (by omega)
  · omega
theorem crcNN_lt (n x : Nat) (h : x < 4294967296) : crcNN n x < 4294967296 := by
  induction n with
  | zero => exact h
  | succ n ih => exact crc1N_lt _ ih
theorem stepN_lt (r b : Nat) (h : r < 4294967296) (hb : b < 256) : stepN r b < 4294967296 :=
  crcNN_lt _ _ (Nat.xor_lt_two_pow (n := 32) h (by omega))
theorem xor_cancel (a b c : Nat) (h : a ^^^ b = a ^^^ c) : b = c := by
  have : a ^^^ (a ^^^ b) = a ^^^ (a ^^^ c) := by rw [h]
  rwa [← Nat.xor_assoc, ← Nat.xor_assoc, Nat.xor_self, Nat.zero_xor, Nat.zero_xor] at this
/-- the register behind a list of bytes -/
def advN (r : Nat) (l : List Int) : Nat := l.foldl (fun r b => stepN r b.toNat) r
theorem advN_lt (l : List Int) (hb : Bytes l) : ∀ r, r < 4294967296 → advN r l < 4294967296 := by
  induction l with
  | nil => exact fun r h => h
  | cons x xs ih =>
    intro r h
    have hx := hb x (by simp)
    exact ih (fun y hy => hb y (by simp [hy])) _ (stepN_lt r _ h (by omega))
def ones : Nat := 4294967295
theorem ones_lt : ones < 4294967296 := by decide
theorem xor_lt (x y : Nat) (hx : x < 4294967296) (hy : y < 4294967296) : x ^^^ y < 4294967296 := Nat.xor_lt_two_pow (n := 32) hx hy
/-- the checksum -/
def crcS (l : List Int) : Nat := ones ^^^ advN ones l
theorem crcS_lt (l : List Int) (hb : Bytes l) : crcS l < 4294967296 := xor_lt _ _ ones_lt (advN_lt l hb _ ones_lt)
/-! the program's -/
theorem crc1_nat (x : Nat) (h : x < 4294967296) : crc1 (x : Int) = ((crc1N x : Nat) : Int) := by
  unfold crc1 crc1N
  have e : Go.bits .and .u32 (x : Int) 1 = ((x % 2 : Nat) : Int) := by
    rw [show (1 : Int) = ((1 : Nat) : Int) from rfl, u32_and_nat _ _ h (by decide), Nat.and_one_is_mod]
  rw [e]
  by_cases ho : x % 2 = 1
  · rw [if_pos (by omega), if_pos ho, show ((x : Int) / 2) = ((x / 2 : Nat) : Int) from by omega, show (2197175160 : Int) = ((2197175160 : Nat) : Int) from rfl, u32_xor_nat _ _ (by omega) (by decide)]
  · rw [if_neg (by omega), if_neg ho]; omega
theorem crcN_nat (n x : Nat) (h : x < 4294967296) : crcN n (x : Int) = ((crcNN n x : Nat) : Int) := by
  induction n with
  | zero => rfl
  | succ n ih =>
    show crc1 (crcN n x) = _
    rw [ih, crc1_nat _ (crcNN_lt n x h)]; rfl
theorem updI_nat (r b : Nat) (h : r < 4294967296) (hb : b < 256) : updI (r : Int) (b : Int) = ((stepN r b : Nat) : Int) := by
  unfold updI tabAt
  have e : Go.bits .xor .u8 ((r : Int) % 256) (b : Int) = (((r % 256) ^^^ b : Nat) : Int) := by
    rw [show ((r : Int) % 256) = ((r % 256 : Nat) : Int) from by omega, u8_xor_nat _ _ (by omega) hb]
  have hx : (r % 256) ^^^ b < 256 := Nat.xor_lt_two_pow (n := 8) (by omega) hb
  rw [e, Int.toNat_natCast, crcN_nat _ _ (by omega), show ((r : Int) / 256) = ((r / 256 : Nat) : Int) from by omega, u32_xor_nat _ _ (by omega) (crcNN_lt _ _ (by omega)), step_tab]
theorem advI_nat (l : List Int) (hb : Bytes l) : ∀ r : Nat, r < 4294967296 → advI (r : Int) l = ((advN r l : Nat) : Int) := by
  induction l with
  | nil => exact fun r _ => rfl
  | cons x xs ih =>
    intro r h
    have hx := hb x (by simp)
    obtain ⟨c, rfl⟩ : ∃ c : Nat, x = (c : Int) := ⟨x.toNat, by omega⟩
    show advI (updI r c) xs = _
    rw [updI_nat r c h (by omega), ih (fun y hy => hb y (by simp [hy])) _ (stepN_lt r c h (by omega))]
    rfl
theorem crc_impl (l : List Int) (hb : Bytes l) : crcI [l] = ((crcS l : Nat) : Int) := by
  unfold crcI
  have eo : (4294967295 : Int) = ((ones : Nat) : Int) := rfl
  have e : advP ((ones : Nat) : Int) [l] = ((advN ones l : Nat) : Int) := advI_nat l hb ones ones_lt
  rw [eo, e, u32_xor_nat _ _ ones_lt (advN_lt l hb _ ones_lt)]
  rfl

/-! the reference's -/
end Go.Proofs.Ytfkgpmidcbjlbaa.U
end
section
set_option linter.unusedVariables false
set_option linter.unusedSimpArgs false
/- literal.IsIdent: what the call answers, at every string. -/

namespace Go.Proofs.Ytfkgpmidcbjlbaa.H
open Go.RowKit

/-- A letter, a digit or '_'. -/
def okc (n : Nat) : Bool := (decide (97 ≤ n) && decide (n ≤ 122)) || (decide (48 ≤ n) && decide (n ≤ 57)) || decide (n = 95)
def identB (s : ByteArray) : Bool :=
  decide (1 ≤ s.size) && decide (s.size ≤ 32) && decide (97 ≤ (s.data.toList.getD 0 0).toNat) && decide ((s.data.toList.getD 0 0).toNat ≤ 122) && s.data.toList.all (fun c => okc c.toNat)

theorem all_take_succ (s : ByteArray) (k : Nat) (h : k < s.size) (p : UInt8 → Bool) (ha : (s.data.toList.take k).all p = true) (hp : p s[k] = true) : (s.data.toList.take (k + 1)).all p = true := by
  rw [List.take_succ_eq_append_getElem (by simpa using h)]
  simp only [List.all_append, List.all_cons, List.all_nil, Bool.and_true, Bool.and_eq_true]
  exact ⟨ha, hp⟩

theorem not_all_at (s : ByteArray) (k : Nat) (h : k < s.size) (p : UInt8 → Bool) (hp : p s[k] = false) : s.data.toList.all p = false := by
  rw [List.all_eq_false]
  exact ⟨s[k], List.getElem_mem (h := by simpa using h), by simp [hp]⟩

theorem ident_empty (s : ByteArray) (h : s.size = 0) : identB s = false := by
  unfold identB
  rw [decide_eq_false (by omega)]
  simp
theorem ident_long (s : ByteArray) (h : ¬ s.size ≤ 32) : identB s = false := by
  unfold identB
  rw [decide_eq_false h]
  simp
theorem getD0 (s : ByteArray) (h : 0 < s.size) : s.data.toList.getD 0 0 = s[0]'h := by
  rw [List.getD_eq_getElem?_getD, List.getElem?_eq_getElem (by simpa using h)]
  rfl
theorem ident_low (s : ByteArray) (h : 0 < s.size) (h1 : ¬ 97 ≤ (s[0]'h).toNat) : identB s = false := by
  unfold identB
  rw [getD0 s h, decide_eq_false h1]
  simp
theorem ident_high (s : ByteArray) (h : 0 < s.size) (h1 : ¬ (s[0]'h).toNat ≤ 122) : identB s = false := by
  unfold identB
  rw [getD0 s h, decide_eq_false h1]
  simp
theorem ident_at (s : ByteArray) (pos : Nat) (h : pos < s.size) (h1 : okc (s[pos]'h).toNat = false) : identB s = false := by
  unfold identB
  rw [not_all_at s pos h (fun c => okc c.toNat) h1]
  simp
theorem ident_all (s : ByteArray) (h : 0 < s.size) (h2 : s.size ≤ 32) (h3 : 97 ≤ (s[0]'h).toNat) (h4 : (s[0]'h).toNat ≤ 122) (h5 : s.data.toList.all (fun c => okc c.toNat) = true) : identB s = true := by
  unfold identB
  rw [getD0 s h, h5, decide_eq_true h3, decide_eq_true h4, decide_eq_true h2, decide_eq_true (by omega)]
  rfl

set_option maxRecDepth 100000 in
set_option maxHeartbeats 2000000 in
theorem ident_calls (s : ByteArray) (w : World) :
    Calls Try.prog 56 #[.string s] w fun e w' => e = .returned (.bool (identB s)) ∧ Below w.heap.size w w' := by
  have hnot : ∀ (x : Bool) (w : World), (Op.unary .not (.bool x)).run Try.prog w = .ok (.bool (!x)) w := fun _ _ => rfl
  go_enter Try.func56, Try.ntmps56
  by_cases h0 : s.size = 0
  · have HF := hid (ident_empty s h0)
    have he : s.toList = [] := toList_nil s h0
    go_wp2
    all_goals (go_ret; exact ⟨by rw [HF.out]; rfl, Below.refl _ _⟩)
  · have h0' : 0 < s.size := by omega
    have he : s.toList.isEmpty = false := toList_ne s h0
    by_cases h2 : 32 < s.size
    · have HF := hid (ident_long s (by omega))
      go_wp2
      all_goals (go_ret; exact ⟨by rw [HF.out]; rfl, Below.refl _ _⟩)
    by_cases h3 : (s[0]'h0').toNat < 97
    · have HF := hid (ident_low s h0' (by omega))
      go_wp2
      all_goals (go_ret; exact ⟨by rw [HF.out]; rfl, Below.refl _ _⟩)
    by_cases h4 : 122 < (s[0]'h0').toNat
    · have HF := hid (ident_high s h0' (by omega))
      go_wp2
      all_goals first | (go_ret; exact ⟨by rw [HF.out]; rfl, Below.refl _ _⟩) | (exfalso; omega)
    go_wp2
    rotate_left
    · go_loopw [] (fun w' => ∃ pos : Nat, pos ≤ s.size ∧ w' = w.iter s pos ∧ Hid ((s.data.toList.take pos).all (fun c => okc c.toNat) = true)) (fun w' => s.size - w'.iterPos w.heap.size)
      case atStart => exact ⟨0, Nat.zero_le _, rfl, by simp [Hid]⟩
      case round =>
        obtain ⟨pos, hpos, rfl, HS⟩ := hrel
        by_cases hp : pos < s.size
        · by_cases ha : (s[pos]'hp).toNat < 128
          · have hnx := fun ty => run_next_ascii (P := Try.prog) w s pos ty hp ha
            cases hk : okc (s[pos]'hp).toNat with
            | true =>
              have HS2 := hid (all_take_succ s pos hp _ HS.out hk)
              unfold okc at hk
              generalize (s[pos]'hp).toNat = n at hk hnx ha
              simp only [Bool.or_eq_true, Bool.and_eq_true, decide_eq_true_eq] at hk
              go_wp2
              all_goals first
                | (go_roundw; (case rel => exact ⟨pos + 1, by omega, rfl, HS2⟩); (case measure => rw [World.iterPos_iter, World.iterPos_iter]; omega); done)
                | (exfalso; simp only [Bool.not_eq_eq_eq_not, Bool.not_true, Bool.not_false, decide_eq_false_iff_not, decide_eq_true_eq, bne_iff_ne, bne_eq_false_iff_eq, ne_eq] at *; omega)
            | false =>
              have HF := hid (ident_at s pos hp hk)
              unfold okc at hk
              generalize (s[pos]'hp).toNat = n at hk hnx ha
              simp only [Bool.or_eq_false_iff, Bool.and_eq_false_iff, decide_eq_false_iff_not] at hk
              go_wp2
              all_goals first
                | (go_ret; exact ⟨by rw [HF.out]; rfl, (Below.refl _ _).alloc (Nat.le_refl _) _⟩)
                | (exfalso; simp only [Bool.not_eq_eq_eq_not, Bool.not_true, Bool.not_false, decide_eq_false_iff_not, decide_eq_true_eq, bne_iff_ne, bne_eq_false_iff_eq, ne_eq] at *; omega)
          · have hnx := fun ty => run_next_any (P := Try.prog) w s pos ty hp
            have hh := decode_high s pos hp (by omega)
            have HF := hid (ident_at s pos hp (by unfold okc; simp; omega))
            generalize (Utf8.decode s pos).1 = n at hnx hh
            go_wp2
            all_goals first
              | (go_ret; exact ⟨by rw [HF.out]; rfl, (Below.refl _ _).alloc (Nat.le_refl _) _⟩)
              | (exfalso; simp only [Bool.not_eq_eq_eq_not, Bool.not_true, Bool.not_false, decide_eq_false_iff_not, decide_eq_true_eq, bne_iff_ne, bne_eq_false_iff_eq, ne_eq] at *; omega)
        · have hnx := fun ty => run_next_end (P := Try.prog) w s pos ty hp
          have HT := hid (ident_all s h0' (by omega) (by omega) (by omega) (by have h := HS.out; rwa [List.take_of_length_le (by simp; omega)] at h))
          go_wp2
          go_ret
          exact ⟨by rw [HT.out]; rfl, (Below.refl _ _).alloc (Nat.le_refl _) _⟩
end Go.Proofs.Ytfkgpmidcbjlbaa.H
end
section
set_option linter.unusedVariables false
set_option linter.unusedSimpArgs false
/- commitlog.valid and its two closures. -/
namespace Go.Proofs.Ytfkgpmidcbjlbaa.H
open Go.RowKit Go.Proofs.YtfkgpmidcbjlbaaW.PrintWords

/-- the name fits the kind -/
def namedB (k : Int) (n : ByteArray) : Bool := if k = 6 ∨ k = 7 then decide (n.size = 0) else identB n
/-- the numbers fit the kind -/
def numberedB (k i p m t : Int) : Bool := if k = 1 then true else if (k = 4 ∨ k = 5) ∧ i ≠ 0 then false else decide (p = 0) && decide (m = 0) && decide (t = 0)
def validB (k i p m t : Int) (n : ByteArray) : Bool :=
  decide (1 ≤ k) && decide (k ≤ 7) && decide (0 ≤ i) && decide (0 ≤ p) && decide (0 ≤ m) && decide (0 ≤ t) && namedB k n && numberedB k i p m t

/-- the six cells of an entry at the head of block b -/
def Cells6 (w : World) (b : Nat) (k i p m t : Int) (n : ByteArray) : Prop :=
  w.cell? ⟨b, 0, none⟩ = some (.int .i64 k) ∧ w.cell? ⟨b, 1, none⟩ = some (.int .i64 i) ∧ w.cell? ⟨b, 2, none⟩ = some (.int .i64 p) ∧
  w.cell? ⟨b, 3, none⟩ = some (.int .i64 m) ∧ w.cell? ⟨b, 4, none⟩ = some (.int .i64 t) ∧ w.cell? ⟨b, 5, none⟩ = some (.string n)

set_option maxRecDepth 100000 in
set_option maxHeartbeats 2000000 in
theorem named_calls (b : Nat) (k i p m t : Int) (n : ByteArray) (w : World) (hc : Cells6 w b k i p m t n) :
    Calls Try.prog 55 #[.pointer (some ⟨b, 0, none⟩)] w fun e w' => e = .returned (.bool (namedB k n)) ∧ Below w.heap.size w w' := by
  obtain ⟨h0, h1, h2, h3, h4, h5⟩ := hc
  go_enter Try.func55, Try.ntmps55
  by_cases hk : k = 6
  · subst hk
    go_wp2_with fail
    go_ret
    exact ⟨ret_bool (isEmpty_size n), Below.refl _ _⟩
  by_cases hk2 : k = 7
  · subst hk2
    go_wp2_with fail
    go_ret
    exact ⟨ret_bool (isEmpty_size n), Below.refl _ _⟩
  · have e6 : (k == 6) = false := beq_eq_false_iff_ne.2 hk
    have e7 : (k == 7) = false := beq_eq_false_iff_ne.2 hk2
    have HN := hid (show namedB k n = identB n by unfold namedB; rw [if_neg (by omega)])
    clear hk hk2
    go_wp2_with (go_at_call 56; refine (ident_calls _ _).mono ?_; rintro e w' ⟨rfl, hb⟩)
    go_ret
    exact ⟨ret_bool HN.out.symm, ‹_›⟩

set_option maxRecDepth 100000 in
set_option maxHeartbeats 2000000 in
theorem numbered_calls (b : Nat) (k i p m t : Int) (n : ByteArray) (w : World) (hc : Cells6 w b k i p m t n) :
    Calls Try.prog 57 #[.pointer (some ⟨b, 0, none⟩)] w fun e w' => e = .returned (.bool (numberedB k i p m t)) ∧ w = w' := by
  obtain ⟨h0, h1, h2, h3, h4, h5⟩ := hc
  go_enter Try.func57, Try.ntmps57
  by_cases hk : k = 1
  · subst hk
    go_wp2_with fail
    go_ret
    exact ⟨rfl, rfl⟩
  · go_wp2_with fail
    all_goals (go_ret; refine ⟨ret_bool ?_, rfl⟩; simp_all [numberedB]; try (rw [Bool.eq_iff_iff]; simp))

set_option maxRecDepth 100000 in
set_option maxHeartbeats 2000000 in
theorem valid_calls (k i p m t : Int) (n : ByteArray) (w : World) :
    Calls Try.prog 24 #[.agg #[.int .i64 k, .int .i64 i, .int .i64 p, .int .i64 m, .int .i64 t, .string n]] w fun e w' => e = .returned (.bool (validB k i p m t n)) ∧ Below w.heap.size w w' := by
  have hmf : ∀ (fn : Fn) (first cap : Array Value) (w : World), (Instr.makeFunc fn first cap).run Try.prog w = .ok (.func fn first cap) w := fun _ _ _ _ => rfl
  have HV : validB k i p m t n = (decide (1 ≤ k) && decide (k ≤ 7) && decide (0 ≤ i) && decide (0 ≤ p) && decide (0 ≤ m) && decide (0 ≤ t) && namedB k n && numberedB k i p m t) := rfl
  have HV' := hid HV
  clear HV
  go_enter Try.func24, Try.ntmps24
  have hbelow : ∀ o, Below w.heap.size w (w.alloc o) := fun o => (Below.refl _ _).alloc (Nat.le_refl _) o
  have fin : ∀ (c : Bool) (o : Obj), c = validB k i p m t n → Ending.returned (.bool c) = Ending.returned (.bool (validB k i p m t n)) ∧ Below w.heap.size w (w.alloc o) := fun c o h => ⟨ret_bool h, hbelow o⟩
  have FIN := hid fin
  clear fin hbelow
  by_cases hg : 1 ≤ k ∧ k ≤ 7 ∧ 0 ≤ i ∧ 0 ≤ p ∧ 0 ≤ m ∧ 0 ≤ t
  · obtain ⟨g1, g2, g3, g4, g5, g6⟩ := hg
    have HV2 := hid (show validB k i p m t n = (namedB k n && numberedB k i p m t) by rw [HV'.out, decide_eq_true g1, decide_eq_true g2, decide_eq_true g3, decide_eq_true g4, decide_eq_true g5, decide_eq_true g6]; rfl)
    clear HV'
    have HC : Hid (∀ w2, Below (w.alloc (.cells #[.int .i64 k, .int .i64 i, .int .i64 p, .int .i64 m, .int .i64 t, .string n] 23)).heap.size (w.alloc (.cells #[.int .i64 k, .int .i64 i, .int .i64 p, .int .i64 m, .int .i64 t, .string n] 23)) w2 → Cells6 w2 w.heap.size k i p m t n) := hid (fun w2 hb => by
      refine ⟨?_, ?_, ?_, ?_, ?_, ?_⟩ <;> (rw [hb.cell (by simp)]; simp))
    have HB2 : Hid (∀ (o : Obj) w2, Below (w.alloc o).heap.size (w.alloc o) w2 → Below w.heap.size w w2) := hid (fun o w2 hb => ((Below.refl _ _).alloc (Nat.le_refl _) o).trans (hb.mono (by simp)))
    cases hn : namedB k n
    · go_wp2_with (go_at_call 55; refine (named_calls _ k i p m t n _ (HC.out _ (Below.refl _ _))).mono ?_; rw [hn]; rintro e w' ⟨rfl, hb⟩; have HB3 := hid (HB2.out _ _ hb); clear hb)
      go_ret
      exact ⟨ret_bool (by rw [HV2.out, hn]; rfl), HB3.out⟩
    · go_wp2_with (first
        | (go_at_call 55; refine (named_calls _ k i p m t n _ (HC.out _ (Below.refl _ _))).mono ?_; rw [hn]; rintro e w' ⟨rfl, hb⟩; have HB3 := hid (HB2.out _ _ hb); have HC3 := hid (HC.out _ hb); clear hb)
        | (go_at_call 57; refine (numbered_calls _ k i p m t n _ HC3.out).mono ?_; rintro e w' ⟨rfl, rfl⟩))
      go_ret
      exact ⟨ret_bool (by rw [HV2.out, hn]; rfl), HB3.out⟩
  · have HV2 := hid (show validB k i p m t n = false by
      rw [HV'.out]
      simp only [Bool.and_eq_false_iff, decide_eq_false_iff_not]
      omega)
    clear HV'
    go_wp2_with fail
    all_goals (go_ret; exact FIN.out _ _ HV2.out.symm)
end Go.Proofs.Ytfkgpmidcbjlbaa.H
namespace Go.Proofs.Ytfkgpmidcbjlbaa.P
open Go.RowKit Go.Proofs.Ytfkgpmidcbjlbaa.H
end Go.Proofs.Ytfkgpmidcbjlbaa.P
end
section
set_option linter.unusedVariables false
set_option linter.unusedSimpArgs false
-- Written by a program of this session (a printer of walks).
namespace Go.Proofs.Ytfkgpmidcbjlbaa.P
open Go.RowKit Go.Proofs.YtfkgpmidcbjlbaaW.PrintWords Go.Proofs.YtfkgpmidcbjlbaaW.PrintLast Go.Proofs.YtfkgpmidcbjlbaaW.PrintMore
attribute [local go_sem] max2_int min2_int max_two min_two max_three min_three max_four min_four   -- for this text's walks alone
set_option linter.unusedVariables false
set_option linter.unusedSimpArgs false

/-! ### laminaref05_letter: function 63 -/
def laminaref05_letter.f (a0 : Int) : Option (Bool) := if a0 ≥ 97 then (some (decide (a0 ≤ 122))) else (some false)
set_option maxHeartbeats 8000000 in
set_option maxRecDepth 100000 in
theorem laminaref05_letter.calls (a0 : Int) (r : Bool) (w : World) (h : laminaref05_letter.f a0 = some r) :
    Calls Try.prog 63 #[.int .u8 a0] w fun e w' => e = .returned (.bool r) ∧ Drawn0 w w' := by
  have H : (if a0 ≥ 97 then (some (decide (a0 ≤ 122))) else (some false)) = some r := h
  clear h
  by_cases c2 : a0 ≥ 97
  · rw [if_pos c2] at H
    have c2b0 : decide (97 ≤ a0) = true := decide_eq_true c2
    clear c2
    obtain rfl := Option.some.inj H
    go_enter Try.func63, Try.ntmps63
    go_wp2
    go_ret
    exact ⟨by first | rfl | (simp; done) | (simp [*]; done), by repeat (first | exact Drawn0.refl _ | apply Drawn0.step)⟩
  · rw [if_neg c2] at H
    have c2b0 : decide (97 ≤ a0) = false := decide_eq_false c2
    clear c2
    obtain rfl := Option.some.inj H
    go_enter Try.func63, Try.ntmps63
    go_wp2
    go_ret
    exact ⟨by first | rfl | (simp; done) | (simp [*]; done), by repeat (first | exact Drawn0.refl _ | apply Drawn0.step)⟩

end Go.Proofs.Ytfkgpmidcbjlbaa.P
end
section
set_option linter.unusedVariables false
set_option linter.unusedSimpArgs false
-- Written by a program of this session (a printer of walks).
namespace Go.Proofs.Ytfkgpmidcbjlbaa.P
open Go.RowKit Go.Proofs.YtfkgpmidcbjlbaaW.PrintWords Go.Proofs.YtfkgpmidcbjlbaaW.PrintLast Go.Proofs.YtfkgpmidcbjlbaaW.PrintMore
attribute [local go_sem] max2_int min2_int max_two min_two max_three min_three max_four min_four   -- for this text's walks alone
set_option linter.unusedVariables false
set_option linter.unusedSimpArgs false

/-! ### laminaref05_digit: function 64 -/
def laminaref05_digit.f (a0 : Int) : Option (Bool) := if a0 ≥ 48 then (some (decide (a0 ≤ 57))) else (some false)
set_option maxHeartbeats 8000000 in
set_option maxRecDepth 100000 in
theorem laminaref05_digit.calls (a0 : Int) (r : Bool) (w : World) (h : laminaref05_digit.f a0 = some r) :
    Calls Try.prog 64 #[.int .u8 a0] w fun e w' => e = .returned (.bool r) ∧ Drawn0 w w' := by
  have H : (if a0 ≥ 48 then (some (decide (a0 ≤ 57))) else (some false)) = some r := h
  clear h
  by_cases c2 : a0 ≥ 48
  · rw [if_pos c2] at H
    have c2b0 : decide (48 ≤ a0) = true := decide_eq_true c2
    clear c2
    obtain rfl := Option.some.inj H
    go_enter Try.func64, Try.ntmps64
    go_wp2
    go_ret
    exact ⟨by first | rfl | (simp; done) | (simp [*]; done), by repeat (first | exact Drawn0.refl _ | apply Drawn0.step)⟩
  · rw [if_neg c2] at H
    have c2b0 : decide (48 ≤ a0) = false := decide_eq_false c2
    clear c2
    obtain rfl := Option.some.inj H
    go_enter Try.func64, Try.ntmps64
    go_wp2
    go_ret
    exact ⟨by first | rfl | (simp; done) | (simp [*]; done), by repeat (first | exact Drawn0.refl _ | apply Drawn0.step)⟩

end Go.Proofs.Ytfkgpmidcbjlbaa.P
end
