/- Part 3 of a proof; each section was a text of its own. -/
import Derived.Test.YtfkgpmidcbjlbaaDu1
import Derived.Test.YtfkgpmidcbjlbaaDu2
import Derived.IntWalk
import Derived.Maps.RangeWalk
section
set_option linter.unusedVariables false
set_option linter.unusedSimpArgs false
/- commitlog.Decode. -/
namespace Go.Proofs.Ytfkgpmidcbjlbaa.P
open Go.RowKit Go.Proofs.Ytfkgpmidcbjlbaa.H Go.Proofs.YtfkgpmidcbjlbaaW.PrintWords
abbrev DR := Int × Int × Int × Int × Int × ByteArray × Int × Int
def zDR (e : Int) : DR := (0, 0, 0, 0, 0, (⟨#[]⟩ : ByteArray), 0, e)
/-- the bytes from lo to hi -/
def segOf (l : List Int) (lo hi : Int) : List Int := (l.take hi.toNat).drop lo.toNat
def commitlog_Decode.e (k : Nat) (l : List Int) (n at_ : Int) : Option DR :=
  if (l.length : Int) - at_ < n + 4 then some (zDR 2) else
  (varint_ReadFixed.f k l (at_ + n) 4).bind fun c => if crcI [segOf l at_ (at_ + n)] = c.1 then
    (commitlog_fields.f k (segOf l at_ (at_ + n))).bind fun x => if x.2.2.2.2.2.2 = 0 then some (x.1, x.2.1, x.2.2.1, x.2.2.2.1, x.2.2.2.2.1, x.2.2.2.2.2.1, at_ + n + 4, 0) else some (zDR x.2.2.2.2.2.2)
    else some (zDR 5)
def commitlog_Decode.f (k : Nat) (l : List Int) (off : Int) : Option DR :=
  (varint_Decode.f k l off).bind fun b => if b.2.2 = 0 then (if 256 < b.1 then some (zDR 3) else if 0 ≤ b.1 ∧ 0 ≤ b.2.1 ∧ b.2.1 ≤ (l.length : Int) then commitlog_Decode.e k l b.1 b.2.1 else none) else some (zDR b.2.2)
theorem commitlog_Decode.mono_e (k : Nat) (l : List Int) (n at_ : Int) : LeO (commitlog_Decode.e k l n at_) (commitlog_Decode.e (k + 1) l n at_) := by
  unfold commitlog_Decode.e
  exact LeO.ite (LeO.refl _) (LeO.bind (varint_ReadFixed.mono _ _ _ _) (fun _ => LeO.ite (LeO.bind (commitlog_fields.mono _ _) (fun _ => LeO.refl _)) (LeO.refl _)))
theorem commitlog_Decode.mono : ∀ a0 a1 k, LeO (commitlog_Decode.f k a0 a1) (commitlog_Decode.f (k + 1) a0 a1) := by
  intro a0 a1 k
  unfold commitlog_Decode.f
  exact LeO.bind (varint_Decode.mono _ _ _) (fun _ => LeO.ite (LeO.ite (LeO.refl _) (LeO.ite (commitlog_Decode.mono_e _ _ _ _) (LeO.refl _))) (LeO.refl _))
end Go.Proofs.Ytfkgpmidcbjlbaa.P
namespace Go.Proofs.Ytfkgpmidcbjlbaa.H
open Go.RowKit Go.Proofs.YtfkgpmidcbjlbaaW.PrintWords Go.Proofs.Ytfkgpmidcbjlbaa.P

theorem segOf_length (l : List Int) (lo hi : Int) (h0 : 0 ≤ lo) (h1 : lo ≤ hi) (h2 : hi ≤ (l.length : Int)) : (segOf l lo hi).length = hi.toNat - lo.toNat := by
  unfold segOf
  rw [List.length_drop, List.length_take]
  omega
/-- a part of a row of bytes: the value, and that it reads -/
theorem seg_reads {w : World} {A0 : Option Addr} {c0 : Nat} {l : List Int} (hr : Kd.C (Kd.int .u8) w A0 l.length l) (hc : l.length ≤ c0) (lo hi : Int) (h0 : 0 ≤ lo) (h1 : lo ≤ hi) (h2 : hi ≤ (l.length : Int)) :
    ∃ A c, (∀ W : World, (Instr.slice 24 (.slice A0 l.length c0) (some (.int .i64 lo)) (some (.int .i64 hi)) none).run Try.prog W = .ok (.slice A (segOf l lo hi).length c) W) ∧ (segOf l lo hi).length ≤ c ∧ Kd.C (Kd.int .u8) w A (segOf l lo hi).length (segOf l lo hi) := by
  obtain ⟨i5, hi5, hz5a, hz5b, hz5c⟩ := info_parts infoU8
  have hsl := cut_mid (P := Try.prog) 24 5 .i64 .i64 Try.underlying24 hi5 1 hz5b A0 l.length c0 lo hi h0 h1 (by omega) hc
  have hm := Kd.C_mid (c := c0) (lo := lo.toNat) (hi := hi.toNat) hr (by omega) (by omega) hc
  have hl := segOf_length l lo hi h0 h1 h2
  refine ⟨_, c0 - lo.toNat, fun W => by rw [hl]; exact hsl W, by omega, hm⟩

set_option maxRecDepth 100000 in
set_option maxHeartbeats 4000000 in
theorem decode_calls (k : Nat) (A0 : Option Addr) (c0 : Nat) (l0 : List Int) (off : Int) (R : DR) (w : World) (hr0 : Kd.C (Kd.int .u8) w A0 l0.length l0) (hc0 : l0.length ≤ c0) (h : commitlog_Decode.f k l0 off = some R) :
    Calls Try.prog 11 #[.slice A0 l0.length c0, .int .i64 off] w fun e w' => e = .returned (.tuple #[.agg #[.int .i64 R.1, .int .i64 R.2.1, .int .i64 R.2.2.1, .int .i64 R.2.2.2.1, .int .i64 R.2.2.2.2.1, .string R.2.2.2.2.2.1], .int .i64 R.2.2.2.2.2.2.1, .int .i64 R.2.2.2.2.2.2.2]) ∧ Below w.heap.size w w' := by
  unfold commitlog_Decode.f at h
  rw [Option.bind_eq_some_iff] at h
  obtain ⟨⟨n, at_, er⟩, hf, hg⟩ := h
  have HR := hid hr0
  have HC := hid hc0
  have HF := hid hf
  have HBZ : Hid (∀ w2, Below (w.alloc (.cells #[.int .i64 0, .int .i64 0, .int .i64 0, .int .i64 0, .int .i64 0, .string ⟨#[]⟩] 23)).heap.size (w.alloc (.cells #[.int .i64 0, .int .i64 0, .int .i64 0, .int .i64 0, .int .i64 0, .string ⟨#[]⟩] 23)) w2 →
      Below w.heap.size w w2 ∧ w.heap.size < w2.heap.size ∧ w2.heap[w.heap.size]? = some (.cells Z6 23 (0, 0))) := hid (fun w2 hb => ⟨((Below.refl _ _).alloc (Nat.le_refl _) _).trans (hb.mono (by simp)), by have := hb.size; simp at this; omega, (hb.block _ (by simp)).trans (Go.heap_alloc_new _ _)⟩)
  clear hr0 hc0 hf
  dsimp only at hg
  have hl0 : l0.length ≤ 9223372036854775807 := Kd.C_max HR.out
  by_cases h3 : er = 0
  · subst h3
    rw [if_pos rfl] at hg
    by_cases hn : 256 < n
    · rw [if_pos hn] at hg
      obtain rfl := Option.some.inj hg
      clear hg
      go_enter Try.func11, Try.ntmps11
      go_wp2_with (first
        | (go_at_call 32; refine (varint_Decode.calls k A0 c0 l0 off n at_ 0 _ (Kd.C_alloc HR.out _) HC.out HF.out).mono ?_; rintro e w1 ⟨rfl, hb⟩; have HB := hid (HBZ.out w1 hb.below); clear hb)
        | (refine wpList_store_row rfl 23 (.tmp 4) _ rfl w.heap.size Z6 rfl rfl 23 _ HB.out.2.2 (by kernel_rfl) rfl (by kernel_rfl) ?_))
      refine bodyPost_ret (results_ctt rfl _ _ w.heap.size 23 Z6 (0, 0) _ rfl (setRow_heap _ _ _ _ _ _ HB.out.2.2) Try.underlying23 rfl (by kernel_rfl)) rfl ⟨rfl, below_setRow HB.out.1 (Nat.le_refl _) _⟩
    rw [if_neg hn] at hg
    by_cases hat : 0 ≤ n ∧ 0 ≤ at_ ∧ at_ ≤ (l0.length : Int)
    · rw [if_pos hat] at hg
      obtain ⟨hn0, hat0, hat1⟩ := hat
      unfold commitlog_Decode.e at hg
      by_cases hsh : (l0.length : Int) - at_ < n + 4
      · rw [if_pos hsh] at hg
        obtain rfl := Option.some.inj hg
        clear hg
        go_enter Try.func11, Try.ntmps11
        go_wp2_with (first
          | (go_at_call 32; refine (varint_Decode.calls k A0 c0 l0 off n at_ 0 _ (Kd.C_alloc HR.out _) HC.out HF.out).mono ?_; rintro e w1 ⟨rfl, hb⟩; have HB := hid (HBZ.out w1 hb.below); clear hb)
          | (refine wpList_store_row rfl 23 (.tmp 4) _ rfl w.heap.size Z6 rfl rfl 23 _ HB.out.2.2 (by kernel_rfl) rfl (by kernel_rfl) ?_))
        refine bodyPost_ret (results_ctt rfl _ _ w.heap.size 23 Z6 (0, 0) _ rfl (setRow_heap _ _ _ _ _ _ HB.out.2.2) Try.underlying23 rfl (by kernel_rfl)) rfl ⟨rfl, below_setRow HB.out.1 (Nat.le_refl _) _⟩
      rw [if_neg hsh, Option.bind_eq_some_iff] at hg
      obtain ⟨⟨c, ce⟩, hrf, hg⟩ := hg
      have HRF := hid hrf
      obtain ⟨sg, hsg⟩ : ∃ sg, sg = segOf l0 at_ (at_ + n) := ⟨_, rfl⟩
      rw [← hsg] at hg
      have hsr := fun w2 (h2 : Kd.C (Kd.int .u8) w2 A0 l0.length l0) => seg_reads h2 HC.out at_ (at_ + n) hat0 (by omega) (by omega)
      rw [← hsg] at hsr
      have HSR := hid hsr
      have HCR := hid (show 0 ≤ crcI [sg] ∧ crcI [sg] < 4294967296 from bits_range .xor 4294967295 (advP 4294967295 [sg]))
      have HG := hid hg
      clear hrf hsg hsr hg
      go_enter Try.func11, Try.ntmps11
      go_wp2_with (first
        | (go_at_call 32; refine (varint_Decode.calls k A0 c0 l0 off n at_ 0 _ (Kd.C_alloc HR.out _) HC.out HF.out).mono ?_; rintro e w1 ⟨rfl, hb⟩; have HB := hid (HBZ.out w1 hb.below); have HRW := hid (Kd.C_below HR.out HB.out.1); clear hb)
        | (go_at_call 33; refine (varint_ReadFixed.calls k A0 c0 l0 (at_ + n) 4 c ce _ HRW.out HC.out HRF.out).mono ?_; rintro e w2 ⟨rfl, hb⟩; have HB2 := hid hb.below; obtain ⟨A1, c1, hsl, hsc, hsC⟩ := HSR.out _ (Kd.C_below HRW.out hb.below); have HSL := hid hsl; have HSC := hid hsc; have HSCC := hid hsC; clear hb hsc hsC))
      have HC1 : Hid (Kd.C (Kd.slice 5 (Kd.int .u8)) (w2.alloc (.cells #[.slice A1 sg.length c1] 24)) (some ⟨w2.heap.size, 0, none⟩) 1 [sg]) :=
        hid (C_one sg (by rw [cell_of_row _ _ _ _ _ _ (Go.heap_alloc_new _ _)]; rfl) HSC.out (Kd.C_alloc HSCC.out _))
      refine (crc_calls (some ⟨w2.heap.size, 0, none⟩) 1 [sg] _ HC1.out (Nat.le_refl 1)).mono ?_
      rintro e w3 ⟨rfl, hb7⟩
      have HB3 : Hid (Below w2.heap.size w2 w3) := hid (((Below.refl w2.heap.size w2).alloc (Nat.le_refl _) _).trans (hb7.mono (by simp)))
      have HB13 : Hid (Below w1.heap.size w1 w3) := hid (HB2.out.trans (HB3.out.mono HB2.out.size))
      have HZ3 : Hid (w3.heap[w.heap.size]? = some (.cells Z6 23 (0, 0)) ∧ Below w.heap.size w w3 ∧ w.heap.size < w3.heap.size) := hid ⟨(HB13.out.block _ HB.out.2.1).trans HB.out.2.2, HB.out.1.trans (HB13.out.mono HB.out.1.size), Nat.lt_of_lt_of_le HB.out.2.1 HB13.out.size⟩
      have HR3 := hid (Kd.C_below HSCC.out HB3.out)
      clear hb7 HC1
      obtain ⟨cv, hcv⟩ : ∃ cv, cv = crcI [sg] := ⟨_, rfl⟩
      rw [← hcv] at HCR HG ⊢
      have hcr := HCR.out
      clear hcv
      have hg := HG.out
      clear HG
      by_cases hcc : cv = c
      · subst hcc
        rw [if_pos rfl, Option.bind_eq_some_iff] at hg
        obtain ⟨⟨r1, r2, r3, r4, r5, r6, r7⟩, hfl, hg⟩ := hg
        have HFL := hid hfl
        clear hfl
        dsimp only at hg
        by_cases h7 : r7 = 0
        · subst h7
          rw [if_pos rfl] at hg
          obtain rfl := Option.some.inj hg
          clear hg
          go_wp2_with fail
          refine (commitlog_fields.calls k A1 c1 sg r1 r2 r3 r4 r5 r6 0 _ HR3.out HSC.out HFL.out).mono ?_
          rintro e w4 ⟨rfl, hb4⟩
          have HZ4 : Hid (w4.heap[w.heap.size]? = some (.cells Z6 23 (0, 0)) ∧ Below w.heap.size w w4 ∧ w.heap.size < w4.heap.size) := hid ⟨(hb4.block _ HZ3.out.2.2).trans HZ3.out.1, HZ3.out.2.1.trans (hb4.mono HZ3.out.2.1.size), Nat.lt_of_lt_of_le HZ3.out.2.2 hb4.size⟩
          clear hb4
          have HZ5 : Hid (∀ o, (w4.alloc o).heap[w.heap.size]? = some (.cells Z6 23 (0, 0)) ∧ Below w.heap.size w (w4.alloc o)) := hid (fun o => ⟨(((Below.refl w4.heap.size w4).alloc (Nat.le_refl _) o).block _ HZ4.out.2.2).trans HZ4.out.1, HZ4.out.2.1.alloc (Nat.le_of_lt HZ4.out.2.2) o⟩)
          go_wp2_with (first
            | (refine wpList_load_row rfl 23 (.tmp 13) rfl w4.heap.size rfl 23 #[.int .i64 r1, .int .i64 r2, .int .i64 r3, .int .i64 r4, .int .i64 r5, .string r6] (0, 0) _ (Go.heap_alloc_new _ _) Try.underlying23 rfl (by kernel_rfl) ?_)
            | (refine wpList_store_row rfl 23 (.tmp 4) (.tmp 72) rfl w.heap.size #[.int .i64 r1, .int .i64 r2, .int .i64 r3, .int .i64 r4, .int .i64 r5, .string r6] rfl rfl 23 _ (HZ5.out _).1 (by kernel_rfl) rfl (by simp [Value.oneCell']) ?_))
          refine bodyPost_ret (results_ctt rfl _ _ w.heap.size 23 #[.int .i64 r1, .int .i64 r2, .int .i64 r3, .int .i64 r4, .int .i64 r5, .string r6] (0, 0) _ rfl (setRow_heap _ _ _ _ _ _ (HZ5.out _).1) Try.underlying23 rfl (by kernel_rfl)) rfl ⟨rfl, below_setRow (HZ5.out _).2 (Nat.le_refl _) _⟩
        · rw [if_neg h7] at hg
          obtain rfl := Option.some.inj hg
          have hb7 : (r7 != 0) = true := by simpa using h7
          clear hg h7
          go_wp2_with fail
          refine (commitlog_fields.calls k A1 c1 sg r1 r2 r3 r4 r5 r6 r7 _ HR3.out HSC.out HFL.out).mono ?_
          rintro e w4 ⟨rfl, hb4⟩
          have HZ4 : Hid (w4.heap[w.heap.size]? = some (.cells Z6 23 (0, 0)) ∧ Below w.heap.size w w4 ∧ w.heap.size < w4.heap.size) := hid ⟨(hb4.block _ HZ3.out.2.2).trans HZ3.out.1, HZ3.out.2.1.trans (hb4.mono HZ3.out.2.1.size), Nat.lt_of_lt_of_le HZ3.out.2.2 hb4.size⟩
          clear hb4
          have HZ5 : Hid (∀ o, (w4.alloc o).heap[w.heap.size]? = some (.cells Z6 23 (0, 0)) ∧ Below w.heap.size w (w4.alloc o)) := hid (fun o => ⟨(((Below.refl w4.heap.size w4).alloc (Nat.le_refl _) o).block _ HZ4.out.2.2).trans HZ4.out.1, HZ4.out.2.1.alloc (Nat.le_of_lt HZ4.out.2.2) o⟩)
          go_wp2_with (first
            | (refine wpList_store_row rfl 23 (.tmp 4) (.tmp 70) rfl w.heap.size Z6 rfl rfl 23 _ (HZ5.out _).1 (by kernel_rfl) rfl (by kernel_rfl) ?_))
          refine bodyPost_ret (results_ctt rfl _ _ w.heap.size 23 Z6 (0, 0) _ rfl (setRow_heap _ _ _ _ _ _ (HZ5.out _).1) Try.underlying23 rfl (by kernel_rfl)) rfl ⟨rfl, below_setRow (HZ5.out _).2 (Nat.le_refl _) _⟩
      · rw [if_neg hcc] at hg
        obtain rfl := Option.some.inj hg
        have hcb : (cv != c) = true := by simpa using hcc
        clear hg hcc
        go_wp2_with (first
          | (refine wpList_store_row rfl 23 (.tmp 4) _ rfl w.heap.size Z6 rfl rfl 23 _ HZ3.out.1 (by kernel_rfl) rfl (by kernel_rfl) ?_))
        refine bodyPost_ret (results_ctt rfl _ _ w.heap.size 23 Z6 (0, 0) _ rfl (setRow_heap _ _ _ _ _ _ HZ3.out.1) Try.underlying23 rfl (by kernel_rfl)) rfl ⟨rfl, below_setRow HZ3.out.2.1 (Nat.le_refl _) _⟩
    · rw [if_neg hat] at hg
      exact absurd hg (by simp)
  · rw [if_neg h3] at hg
    obtain rfl := Option.some.inj hg
    have hb3 : (er != 0) = true := by simpa using h3
    clear hg h3
    go_enter Try.func11, Try.ntmps11
    go_wp2_with (first
      | (go_at_call 32; refine (varint_Decode.calls k A0 c0 l0 off n at_ er _ (Kd.C_alloc HR.out _) HC.out HF.out).mono ?_; rintro e w1 ⟨rfl, hb⟩; have HB := hid (HBZ.out w1 hb.below); clear hb)
      | (refine wpList_store_row rfl 23 (.tmp 4) _ rfl w.heap.size Z6 rfl rfl 23 _ HB.out.2.2 (by kernel_rfl) rfl (by kernel_rfl) ?_))
    refine bodyPost_ret (results_ctt rfl _ _ w.heap.size 23 Z6 (0, 0) _ rfl (setRow_heap _ _ _ _ _ _ HB.out.2.2) Try.underlying23 rfl (by kernel_rfl)) rfl ⟨rfl, below_setRow HB.out.1 (Nat.le_refl _) _⟩
end Go.Proofs.Ytfkgpmidcbjlbaa.H
namespace Go.Proofs.Ytfkgpmidcbjlbaa.P
open Go.RowKit Go.Proofs.Ytfkgpmidcbjlbaa.H Go.Proofs.YtfkgpmidcbjlbaaW.PrintWords
theorem commitlog_Decode.calls (k : Nat) (A0 : Option Addr) (c0 : Nat) (l0 : List Int) (a1 : Int) (r1 r2 r3 r4 r5 : Int) (r6 : ByteArray) (r7 r8 : Int) (w : World) (hr0 : Kd.C (Kd.int .u8) w A0 l0.length l0) (hc0 : l0.length ≤ c0) (h : commitlog_Decode.f k l0 a1 = some (r1, r2, r3, r4, r5, r6, r7, r8)) :
    Calls Try.prog 11 #[.slice A0 l0.length c0, .int .i64 a1] w fun e w' => e = .returned (.tuple #[.agg #[.int .i64 r1, .int .i64 r2, .int .i64 r3, .int .i64 r4, .int .i64 r5, .string r6], .int .i64 r7, .int .i64 r8]) ∧ Below w.heap.size w w' :=
  decode_calls k A0 c0 l0 a1 (r1, r2, r3, r4, r5, r6, r7, r8) w hr0 hc0 h
end Go.Proofs.Ytfkgpmidcbjlbaa.P
end
section
set_option linter.unusedVariables false
set_option linter.unusedSimpArgs false
/- Plain: a record, the program's and the reference's; what is decoded encodes to the same bytes. -/
namespace Go.Proofs.Ytfkgpmidcbjlbaa.U
open Go.RowKit Go.Proofs.Ytfkgpmidcbjlbaa.P Go.Proofs.Ytfkgpmidcbjlbaa.H Go.Proofs.YtfkgpmidcbjlbaaW.PrintWords Go.Proofs.YtfkgpmidcbjlbaaW.PrintMore

theorem bytesOf_bytes (n : ByteArray) : Bytes (bytesOf n) := by
  intro x hx
  unfold bytesOf at hx
  obtain ⟨b, _, rfl⟩ := List.mem_map.1 hx
  have := b.toNat_lt
  omega
theorem strOf_bytesOf (n : ByteArray) : strOfNums (bytesOf n) = n := by
  unfold strOfNums bytesOf
  congr 1
  rw [List.map_map]
  have : (n.data.toList.map ((fun n : Int => UInt8.ofNat n.toNat) ∘ fun b : UInt8 => (b.toNat : Int))) = n.data.toList := by
    conv => rhs; rw [← List.map_id n.data.toList]
    refine List.map_congr_left fun b _ => ?_
    simp
  rw [this]
theorem bytesOf_strOf (l : List Int) (hb : Bytes l) : bytesOf (strOfNums l) = l := by
  unfold bytesOf
  rw [strOfNums_data, List.map_map]
  conv => rhs; rw [← List.map_id l]
  refine List.map_congr_left fun x hx => ?_
  have := hb x hx
  show ((UInt8.ofNat x.toNat).toNat : Int) = x
  rw [UInt8.toNat_ofNat']
  omega

/-- numbers, one behind the other -/
def encL : List Int → List Int
  | [] => []
  | n :: ns => encS n.toNat ++ encL ns
theorem encL_app (a b : List Int) : encL (a ++ b) = encL a ++ encL b := by
  induction a with
  | nil => rfl
  | cons x xs ih => rw [List.cons_append, encL, encL, ih, List.append_assoc]
theorem encL_bytes (l : List Int) : Bytes (encL l) := by
  induction l with
  | nil => exact Bytes.nil
  | cons x xs ih => exact (encS_bytes _).app ih
/-- a number of an entry -/
def Num (x : Int) : Prop := 0 ≤ x ∧ x < 9223372036854775808
theorem encL_len (l : List Int) (h : ∀ x ∈ l, Num x) : (encL l).length ≤ 10 * l.length := by
  induction l with
  | nil => simp [encL]
  | cons x xs ih =>
    have h1 := ih (fun y hy => h y (by simp [hy]))
    have hx := h x (by simp)
    have h2 := encS_len10 x.toNat (by unfold Num at hx; omega)
    simp only [encL, List.length_append, List.length_cons]
    omega
def bodyS (k i p m t : Int) (n : ByteArray) : List Int := encL [k, i, p, m, t, (n.size : Int)] ++ bytesOf n
theorem bodyS_bytes (k i p m t : Int) (n : ByteArray) : Bytes (bodyS k i p m t n) := (encL_bytes _).app (bytesOf_bytes n)
/-- the record of a body -/
def recOf (body : List Int) : List Int := encS body.length ++ body ++ leS (crcS body) 4
def recS (k i p m t : Int) (n : ByteArray) : List Int := recOf (bodyS k i p m t n)
theorem recOf_bytes (b : List Int) (hb : Bytes b) : Bytes (recOf b) := ((encS_bytes _).app hb).app (leS_bytes _ _)
/-- all that is asked of an entry -/
structure Good (k i p m t : Int) (n : ByteArray) : Prop where
  v : validB k i p m t n = true
  i : i < 9223372036854775808
  p : p < 9223372036854775808
  m : m < 9223372036854775808
  t : t < 9223372036854775808
theorem Good.nums {k i p m t : Int} {n : ByteArray} (h : Good k i p m t n) : ∀ x ∈ [k, i, p, m, t, (n.size : Int)], Num x := by
  obtain ⟨h1, h2, h3, h4, h5, h6, h7⟩ := validB_parts k i p m t n h.v
  have := h.i; have := h.p; have := h.m; have := h.t
  intro x hx
  simp only [List.mem_cons, List.not_mem_nil, or_false] at hx
  unfold Num
  rcases hx with rfl | rfl | rfl | rfl | rfl | rfl <;> omega
theorem Good.len {k i p m t : Int} {n : ByteArray} (h : Good k i p m t n) : (bodyS k i p m t n).length ≤ 92 := by
  have h1 := encL_len _ h.nums
  obtain ⟨_, _, _, _, _, _, h7⟩ := validB_parts k i p m t n h.v
  unfold bodyS
  rw [List.length_append, bytesOf_length]
  simp only [List.length_cons, List.length_nil] at h1
  omega
theorem Good.pos {k i p m t : Int} {n : ByteArray} (_ : Good k i p m t n) : 1 ≤ (bodyS k i p m t n).length := by
  have := encS_pos k.toNat
  unfold bodyS
  simp only [encL, List.length_append]
  omega
theorem recOf_len (b : List Int) (h : b.length < 128) : (recOf b).length = b.length + 5 := by
  unfold recOf
  rw [encS_low _ h]
  simp [leS_len]

/-! the program's record -/
theorem enc_l (ns : List Int) (h : ∀ x ∈ ns, Num x) : ∀ acc : List Int, acc.length + 10 * ns.length < 140737488355328 → Ev (fun k => commitlog_Encode.l k ns acc) (acc ++ encL ns) := by
  induction ns with
  | nil => intro acc _; rw [encL, List.append_nil]; exact Ev.pure _
  | cons x xs ih =>
    intro acc hl
    have hx := h x (by simp)
    unfold Num at hx
    have hlen := encS_len10 x.toNat (by omega)
    simp only [List.length_cons] at hl
    have he : Ev (fun k => varint_Encode.f k (IntKind.u64.wrap x)) (encS x.toNat) := by
      rw [wu64 x (by omega) (by omega), show x = ((x.toNat : Nat) : Int) from by omega, Int.toNat_natCast]
      exact enc_impl x.toNat (by omega)
    refine Ev.bind he (Ev.pos (by omega) ?_)
    have := ih (fun y hy => h y (by simp [hy])) (acc ++ encS x.toNat) (by rw [List.length_append]; omega)
    rw [List.append_assoc] at this
    exact this
theorem concat_l (ls : List (List Int)) (hn : ls.length ≤ 3) : ∀ f i : Nat, ∀ acc : List Int, i + f = ls.length → acc.length + ((ls.drop i).flatten).length < 140737488355328 → Ev (fun k => varint_Concat.l0 k acc ls (ls.length : Int) (i : Int)) (acc ++ (ls.drop i).flatten)
  | 0, i, acc, hi, hl => by
    refine Ev.step (fun k => rfl) (Ev.neg (by omega) (Ev.of fun k => ?_))
    rw [List.drop_eq_nil_of_le (by omega), List.flatten_nil, List.append_nil]
  | f + 1, i, acc, hi, hl => by
    have hlt : i < ls.length := by omega
    have hr : rd_L4 ls (i : Int) = ls[i] := by simp [rd_L4, List.getD_eq_getElem?_getD, List.getElem?_eq_getElem hlt]
    rw [List.drop_eq_getElem_cons hlt, List.flatten_cons, List.length_append] at hl
    refine Ev.step (fun k => rfl) (Ev.pos (by omega) (Ev.pos (by omega) (Ev.pos (by omega) (Ev.pos (by rw [hr]; omega) ?_))))
    rw [hr, show wrap64 ((i : Int) + 1) = ((i + 1 : Nat) : Int) from by rw [w64 _ (by omega) (by omega)]; omega, List.drop_eq_getElem_cons hlt, List.flatten_cons, ← List.append_assoc]
    exact concat_l ls hn f (i + 1) (acc ++ ls[i]) (by omega) (by rw [List.length_append]; omega)
theorem concat3 (a b c : List Int) (h : a.length + b.length + c.length < 140737488355328) : Ev (fun k => varint_Concat.f k [a, b, c]) (a ++ b ++ c) := by
  have := concat_l [a, b, c] (by simp) 3 0 [] rfl (by simp; omega)
  simp only [List.drop_zero, List.flatten_cons, List.flatten_nil, List.append_nil, List.nil_append, ← List.append_assoc] at this
  exact this
theorem rec_impl (k i p m t : Int) (n : ByteArray) (h : Good k i p m t n) : Ev (fun q => commitlog_Encode.f q k i p m t n) (recS k i p m t n, 0) := by
  have hl := h.len
  obtain ⟨_, _, _, _, _, _, h7⟩ := validB_parts k i p m t n h.v
  have hlen := encL_len _ h.nums
  simp only [List.length_cons, List.length_nil] at hlen
  have hb := bodyS_bytes k i p m t n
  have h1 := enc_l [k, i, p, m, t, (n.size : Int)] h.nums [] (by simp)
  rw [List.nil_append] at h1
  refine Ev.pos h.v (Ev.bind h1 (Ev.pos (by omega) ?_))
  show Ev (fun q => commitlog_Encode.e q (bodyS k i p m t n)) (recOf (bodyS k i p m t n), 0)
  generalize bodyS k i p m t n = b at hl hb
  have hp := encS_len10 b.length (by omega)
  refine Ev.bind (enc_impl b.length (by omega)) (Ev.bind ?_ (Ev.bind (concat3 (encS b.length) b (leS (crcS b) 4) (by rw [leS_len]; omega)) (Ev.pure _)))
  rw [crc_impl b hb]
  exact fixed_impl (crcS b)
theorem rec_impl_no (k i p m t : Int) (n : ByteArray) (h : validB k i p m t n = false) : Ev (fun q => commitlog_Encode.f q k i p m t n) ([], 1) :=
  Ev.neg (by rw [h]; decide) (Ev.pure _)

/-! the reference's -/
end Go.Proofs.Ytfkgpmidcbjlbaa.U
end
section
set_option linter.unusedVariables false
set_option linter.unusedSimpArgs false
/- Plain: a record read back, the program's and the reference's. -/
namespace Go.Proofs.Ytfkgpmidcbjlbaa.U
open Go.RowKit Go.Proofs.Ytfkgpmidcbjlbaa.P Go.Proofs.Ytfkgpmidcbjlbaa.H Go.Proofs.YtfkgpmidcbjlbaaW.PrintWords Go.Proofs.YtfkgpmidcbjlbaaW.PrintMore

/-- behind the six numbers -/
def entS (l : List Int) (at_ : Int) (a : List Int) : FR :=
  if (l.length : Int) - at_ < a.getD 5 0 then zFR 2
  else if a.getD 5 0 < (l.length : Int) - at_ then zFR 3
  else if 7 < a.getD 0 0 then zFR 4
  else if validB (a.getD 0 0) (a.getD 1 0) (a.getD 2 0) (a.getD 3 0) (a.getD 4 0) (strOfNums (l.drop at_.toNat)) = true then (a.getD 0 0, a.getD 1 0, a.getD 2 0, a.getD 3 0, a.getD 4 0, strOfNums (l.drop at_.toNat), 0)
  else zFR 4
def fieldsS (l : List Int) : Nat → Int → List Int → FR
  | 0, at_, acc => entS l at_ acc
  | n + 1, at_, acc => if (decS l at_).2.2 = 0 then (if 9223372036854775807 < (decS l at_).1 then zFR 6 else fieldsS l n (decS l at_).2.1 (acc ++ [(decS l at_).1])) else zFR (decS l at_).2.2
theorem fields_impl (l : List Int) (hb : Bytes l) (hl : l.length ≤ 4611686018427387904) : ∀ (n : Nat) (at_ : Int) (acc : List Int), 0 ≤ at_ → at_ ≤ (l.length : Int) → Ev (fun k => commitlog_fields.g k l n at_ acc) (fieldsS l n at_ acc)
  | 0, at_, acc, h0, h1 => by
    refine Ev.of fun k => ?_
    unfold commitlog_fields.g commitlog_fields.e fieldsS entS
    rw [if_pos ⟨h0, h1⟩]
    repeat' split
    all_goals rfl
  | n + 1, at_, acc, h0, h1 => by
    refine Ev.bind (dec_impl l at_ hb hl) ?_
    unfold fieldsS
    by_cases he : (decS l at_).2.2 = 0
    · obtain ⟨p, m, e, rfl, hd, hm, hpe, hel, _⟩ := decS_ok l at_ hb he
      rw [hd]
      dsimp only
      by_cases hr : 9223372036854775807 < (m : Int)
      · rw [if_pos rfl, if_pos hr]
        exact Ev.pos rfl (Ev.pos hr (Ev.pure _))
      · rw [if_pos rfl, if_neg hr, w64 (m : Int) (by omega) (by omega)]
        exact Ev.pos rfl (Ev.neg hr (fields_impl l hb hl n (e : Int) (acc ++ [(m : Int)]) (by omega) (by omega)))
    · rw [if_neg he]
      exact Ev.neg he (Ev.pure _)
def decE (l : List Int) (n at_ : Int) : DR :=
  if (l.length : Int) - at_ < n + 4 then zDR 2
  else if ((crcS (segOf l at_ (at_ + n)) : Nat) : Int) = ((valS (segOf l (at_ + n) (at_ + n + 4)) : Nat) : Int) then
    (if (fieldsS (segOf l at_ (at_ + n)) 6 0 []).2.2.2.2.2.2 = 0 then
      ((fieldsS (segOf l at_ (at_ + n)) 6 0 []).1, (fieldsS (segOf l at_ (at_ + n)) 6 0 []).2.1, (fieldsS (segOf l at_ (at_ + n)) 6 0 []).2.2.1, (fieldsS (segOf l at_ (at_ + n)) 6 0 []).2.2.2.1, (fieldsS (segOf l at_ (at_ + n)) 6 0 []).2.2.2.2.1, (fieldsS (segOf l at_ (at_ + n)) 6 0 []).2.2.2.2.2.1, at_ + n + 4, 0)
    else zDR (fieldsS (segOf l at_ (at_ + n)) 6 0 []).2.2.2.2.2.2)
  else zDR 5
/-- what decoding answers -/
def decodeS (l : List Int) (off : Int) : DR :=
  if (decS l off).2.2 = 0 then (if 256 < (decS l off).1 then zDR 3 else decE l (decS l off).1 (decS l off).2.1) else zDR (decS l off).2.2
theorem Bytes.seg {l : List Int} (h : Bytes l) (a b : Int) : Bytes (segOf l a b) := (h.take _).drop _
theorem segOf_le (l : List Int) (a b : Int) : (segOf l a b).length ≤ l.length := by unfold segOf; simp; omega
theorem decode_impl (l : List Int) (off : Int) (hb : Bytes l) (hl : l.length ≤ 4611686018427387904) : Ev (fun k => commitlog_Decode.f k l off) (decodeS l off) := by
  refine Ev.bind (dec_impl l off hb hl) ?_
  unfold decodeS
  by_cases he : (decS l off).2.2 = 0
  · obtain ⟨p, m, e, rfl, hd, hm, hpe, hel, _⟩ := decS_ok l off hb he
    rw [hd]
    dsimp only
    rw [if_pos rfl]
    refine Ev.pos rfl ?_
    by_cases h256 : (256 : Int) < m
    · rw [if_pos h256]; exact Ev.pos h256 (Ev.pure _)
    rw [if_neg h256]
    refine Ev.neg h256 (Ev.pos ⟨by omega, by omega, by omega⟩ ?_)
    unfold decE
    by_cases hs : (l.length : Int) - (e : Int) < (m : Int) + 4
    · rw [if_pos hs]; exact Ev.pos hs (Ev.pure _)
    rw [if_neg hs]
    refine Ev.neg hs ?_
    have hrf := readFixed l (e + m) hb hl (by omega)
    rw [show ((e + m : Nat) : Int) = (e : Int) + (m : Int) from by omega] at hrf
    refine Ev.bind hrf ?_
    rw [crc_impl _ (hb.seg _ _), show ((l.take (e + m + 4)).drop (e + m)) = segOf l ((e : Int) + m) ((e : Int) + m + 4) from by unfold segOf; congr 1 <;> omega]
    have hf := fields_impl (segOf l (e : Int) ((e : Int) + m)) (hb.seg _ _) (Nat.le_trans (segOf_le _ _ _) hl) 6 0 [] (by omega) (by omega)
    generalize fieldsS (segOf l (e : Int) ((e : Int) + m)) 6 0 [] = R at hf
    by_cases hc : ((crcS (segOf l (e : Int) ((e : Int) + m)) : Nat) : Int) = ((valS (segOf l ((e : Int) + m) ((e : Int) + m + 4)) : Nat) : Int)
    · rw [if_pos hc]
      refine Ev.pos hc (Ev.bind hf ?_)
      by_cases hz : R.2.2.2.2.2.2 = 0
      · refine Ev.pos hz ?_; rw [if_pos hz]; exact Ev.pure _
      · refine Ev.neg hz ?_; rw [if_neg hz]; exact Ev.pure _
    · rw [if_neg hc]; exact Ev.neg hc (Ev.pure _)
  · rw [if_neg he]; exact Ev.neg he (Ev.pure _)
/-! what is decoded encodes to the same bytes -/
theorem fieldsS_ok (l : List Int) (hb : Bytes l) : ∀ (n : Nat) (e0 : Nat) (acc : List Int), e0 ≤ l.length → l.take e0 = encL acc → (∀ x ∈ acc, Num x) → (fieldsS l n e0 acc).2.2.2.2.2.2 = 0 →
    ∃ (a : List Int) (e : Nat), a.length = acc.length + n ∧ e ≤ l.length ∧ l.take e = encL a ∧ (∀ x ∈ a, Num x) ∧ fieldsS l n e0 acc = entS l e a
  | 0, e0, acc, he, ht, hn, _ => ⟨acc, e0, rfl, he, ht, hn, rfl⟩
  | n + 1, e0, acc, he, ht, hn, h => by
    unfold fieldsS at h ⊢
    by_cases hz : (decS l e0).2.2 = 0
    · obtain ⟨p, m, e, hp, hd, hm, hpe, hel, henc⟩ := decS_ok l e0 hb hz
      obtain rfl : e0 = p := by omega
      rw [hd] at h ⊢
      dsimp only at h ⊢
      rw [if_pos rfl] at h ⊢
      by_cases hr : 9223372036854775807 < (m : Int)
      · rw [if_pos hr] at h
        exact absurd h (by decide)
      · rw [if_neg hr] at h ⊢
        have htake : l.take e = encL (acc ++ [(m : Int)]) := by
          have : l.take e = l.take e0 ++ (l.take e).drop e0 := by
            conv => lhs; rw [← List.take_append_drop e0 (l.take e)]
            rw [List.take_take, Nat.min_eq_left (by omega)]
          rw [this, ht, henc, encL_app]
          simp [encL]
        obtain ⟨a, e', ha, he', ht', hn', heq⟩ := fieldsS_ok l hb n e (acc ++ [(m : Int)]) hel htake (fun x hx => by
          rcases List.mem_append.1 hx with hx | hx
          · exact hn x hx
          · obtain rfl := List.mem_singleton.1 hx
            unfold Num; omega) h
        exact ⟨a, e', by rw [ha]; simp; omega, he', ht', hn', heq⟩
    · rw [if_neg hz] at h
      exact absurd h hz
theorem body_ok (l : List Int) (hb : Bytes l) (h : (fieldsS l 6 0 []).2.2.2.2.2.2 = 0) : ∃ (k i p m t : Int) (n : ByteArray), fieldsS l 6 0 [] = (k, i, p, m, t, n, 0) ∧ Good k i p m t n ∧ l = bodyS k i p m t n := by
  obtain ⟨a, e, ha, he, ht, hn, heq⟩ := fieldsS_ok l hb 6 0 [] (by omega) rfl (fun x hx => by cases hx) h
  have heq : fieldsS l 6 0 [] = entS l e a := heq
  rw [heq] at h ⊢
  obtain ⟨a0, a1, a2, a3, a4, a5, rfl⟩ : ∃ a0 a1 a2 a3 a4 a5, a = [a0, a1, a2, a3, a4, a5] := by
    match a, ha with
    | [a0, a1, a2, a3, a4, a5], _ => exact ⟨_, _, _, _, _, _, rfl⟩
  have n1 := hn a1 (by simp); have n2 := hn a2 (by simp); have n3 := hn a3 (by simp); have n4 := hn a4 (by simp); have n5 := hn a5 (by simp)
  unfold Num at n1 n2 n3 n4 n5
  unfold entS at h ⊢
  simp only [List.getD_cons_zero, List.getD_cons_succ] at h ⊢
  by_cases c1 : (l.length : Int) - (e : Int) < a5
  · rw [if_pos c1] at h; exact absurd h (by decide)
  rw [if_neg c1] at h ⊢
  by_cases c2 : a5 < (l.length : Int) - (e : Int)
  · rw [if_pos c2] at h; exact absurd h (by decide)
  rw [if_neg c2] at h ⊢
  by_cases c3 : 7 < a0
  · rw [if_pos c3] at h; exact absurd h (by decide)
  rw [if_neg c3] at h ⊢
  by_cases c4 : validB a0 a1 a2 a3 a4 (strOfNums (l.drop (e : Int).toNat)) = true
  · rw [if_pos c4]
    refine ⟨a0, a1, a2, a3, a4, _, rfl, ⟨c4, n1.2, n2.2, n3.2, n4.2⟩, ?_⟩
    unfold bodyS
    rw [bytesOf_strOf _ (hb.drop _), strOfNums_size, Int.toNat_natCast, List.length_drop, show ((l.length - e : Nat) : Int) = a5 from by omega, ← ht, List.take_append_drop]
  · rw [if_neg c4] at h; exact absurd h (by decide)
theorem decodeS_ok (l : List Int) (off : Int) (hb : Bytes l) (h : (decodeS l off).2.2.2.2.2.2.2 = 0) :
    ∃ (k i p m t : Int) (n : ByteArray) (o e : Nat), off = (o : Int) ∧ decodeS l off = (k, i, p, m, t, n, (e : Int), 0) ∧ o < e ∧ e ≤ l.length ∧ Good k i p m t n ∧ (l.take e).drop o = recS k i p m t n := by
  unfold decodeS at h ⊢
  by_cases he : (decS l off).2.2 = 0
  · obtain ⟨o, b, e, rfl, hd, hm, hpe, hel, henc⟩ := decS_ok l off hb he
    rw [hd] at h ⊢
    dsimp only at h ⊢
    rw [if_pos rfl] at h ⊢
    by_cases h256 : (256 : Int) < b
    · rw [if_pos h256] at h; exact absurd h (by decide)
    rw [if_neg h256] at h ⊢
    unfold decE at h ⊢
    by_cases hs : (l.length : Int) - (e : Int) < (b : Int) + 4
    · rw [if_pos hs] at h; exact absurd h (by decide)
    rw [if_neg hs] at h ⊢
    have hs4 := hb.seg ((e : Int) + b) ((e : Int) + b + 4)
    have h4 : (segOf l ((e : Int) + b) ((e : Int) + b + 4)).length = 4 := by rw [segOf_length _ _ _ (by omega) (by omega) (by omega)]; omega
    by_cases hc : ((crcS (segOf l (e : Int) ((e : Int) + b)) : Nat) : Int) = ((valS (segOf l ((e : Int) + b) ((e : Int) + b + 4)) : Nat) : Int)
    · rw [if_pos hc] at h ⊢
      by_cases hz : (fieldsS (segOf l (e : Int) ((e : Int) + b)) 6 0 []).2.2.2.2.2.2 = 0
      · rw [if_pos hz]
        obtain ⟨k, i, p, m, t, n, hF, hG, hB⟩ := body_ok _ (hb.seg _ _) hz
        rw [hF]
        refine ⟨k, i, p, m, t, n, o, e + b + 4, rfl, by simp, by omega, by omega, hG, ?_⟩
        have hblen : (bodyS k i p m t n).length = b := by rw [← hB, segOf_length _ _ _ (by omega) (by omega) (by omega)]; omega
        have hsum : segOf l ((e : Int) + b) ((e : Int) + b + 4) = leS (crcS (bodyS k i p m t n)) 4 := by
          have := leS_val _ hs4
          rw [h4] at this
          rw [← this, ← hB, show valS (segOf l ((e : Int) + b) ((e : Int) + b + 4)) = crcS (segOf l (e : Int) ((e : Int) + b)) from by omega]
        unfold recS recOf
        rw [hblen, ← henc, ← hsum, ← hB]
        unfold segOf
        simp only [show ((e : Int) + b).toNat = e + b from by omega, show ((e : Int) + b + 4).toNat = e + b + 4 from by omega, Int.toNat_natCast]
        have c1 : (l.take e).drop o ++ (l.take (e + b)).drop e = (l.take (e + b)).drop o := by
          have : l.take (e + b) = l.take e ++ (l.take (e + b)).drop e := by
            conv => lhs; rw [← List.take_append_drop e (l.take (e + b))]
            rw [List.take_take, Nat.min_eq_left (by omega)]
          conv => rhs; rw [this]
          rw [List.drop_append_of_le_length (by simp; omega)]
        have c2 : (l.take (e + b)).drop o ++ (l.take (e + b + 4)).drop (e + b) = (l.take (e + b + 4)).drop o := by
          have : l.take (e + b + 4) = l.take (e + b) ++ (l.take (e + b + 4)).drop (e + b) := by
            conv => lhs; rw [← List.take_append_drop (e + b) (l.take (e + b + 4))]
            rw [List.take_take, Nat.min_eq_left (by omega)]
          conv => rhs; rw [this]
          rw [List.drop_append_of_le_length (by simp; omega)]
        rw [c1, c2]
      · rw [if_neg hz] at h
        exact absurd h hz
    · rw [if_neg hc] at h; exact absurd h (by decide)
  · rw [if_neg he] at h
    exact absurd h he
end Go.Proofs.Ytfkgpmidcbjlbaa.U
end
section
set_option linter.unusedVariables false
set_option linter.unusedSimpArgs false
/- commitlog.Scan. -/
namespace Go.Proofs.Ytfkgpmidcbjlbaa.P
open Go.RowKit Go.Proofs.Ytfkgpmidcbjlbaa.H Go.Proofs.YtfkgpmidcbjlbaaW.PrintWords
abbrev LE := S23
def leOf (d : DR) : LE := ⟨d.1, d.2.1, d.2.2.1, d.2.2.2.1, d.2.2.2.2.1, d.2.2.2.2.2.1⟩
def commitlog_Scan.l0 : Nat → List Int → List LE → Int → Option (List LE × Int)
  | 0, _, _, _ => none
  | k + 1, l, out, at_ =>
    if at_ < (l.length : Int) then
      (commitlog_Decode.f k l at_).bind fun d =>
        if d.2.2.2.2.2.2.2 = 0 then (if out.length = 65536 then some (out, at_) else if out.length < 65536 then commitlog_Scan.l0 k l (out ++ [leOf d]) d.2.2.2.2.2.2.1 else none) else some (out, at_)
    else some (out, at_)
def commitlog_Scan.f (k : Nat) (l : List Int) : Option (List LE × Int) := commitlog_Scan.l0 k l [] 0
theorem commitlog_Scan.mono_l : ∀ k, ∀ y0 y1 y2, LeO (commitlog_Scan.l0 k y0 y1 y2) (commitlog_Scan.l0 (k + 1) y0 y1 y2)
  | 0 => fun _ _ _ r h => by simp [commitlog_Scan.l0] at h
  | k + 1 => fun y0 y1 y2 => by
    have ih := commitlog_Scan.mono_l k
    rw [commitlog_Scan.l0, commitlog_Scan.l0]
    exact LeO.ite (LeO.bind (commitlog_Decode.mono _ _ _) (fun _ => LeO.ite (LeO.ite (LeO.refl _) (LeO.ite (ih _ _ _) (LeO.refl _))) (LeO.refl _))) (LeO.refl _)
theorem commitlog_Scan.mono : ∀ a0 k, LeO (commitlog_Scan.f k a0) (commitlog_Scan.f (k + 1) a0) := fun a0 k => commitlog_Scan.mono_l k _ _ _
end Go.Proofs.Ytfkgpmidcbjlbaa.P
namespace Go.Proofs.Ytfkgpmidcbjlbaa.H
open Go.RowKit Go.Proofs.YtfkgpmidcbjlbaaW.PrintWords Go.Proofs.Ytfkgpmidcbjlbaa.P

set_option maxRecDepth 100000 in
set_option maxHeartbeats 4000000 in
theorem scan_calls (k : Nat) (A0 : Option Addr) (c0 : Nat) (l0 : List Int) (r1 : List LE) (r2 : Int) (w : World) (hr0 : Kd.C (Kd.int .u8) w A0 l0.length l0) (hc0 : l0.length ≤ c0) (h : commitlog_Scan.f k l0 = some (r1, r2)) :
    Calls Try.prog 13 #[.slice A0 l0.length c0] w fun e w' => ∃ v0_ : Value, e = .returned (.tuple #[v0_, .int .i64 r2]) ∧ Kd.R k23 23 w' w.heap.size (fun _ => True) v0_ r1 ∧ Below w.heap.size w w' := by
  have HR := hid hr0
  have HC := hid hc0
  have HF := hid (show commitlog_Scan.l0 k l0 [] 0 = some (r1, r2) from h)
  clear hr0 hc0 h
  go_enter Try.func13, Try.ntmps13
  go_wp2
  go_step3
  go_wp2
  go_step3
  go_wp2
  go_loopg [4, 5] k (fun kq v u wr => ∃ (out : List LE) (at_ : Int), u = .int .i64 at_ ∧ Hid (kq ≤ k) ∧ Hid (commitlog_Scan.l0 kq l0 out at_ = some (r1, r2)) ∧ Hid (Kd.R k23 23 wr w.heap.size (fun _ => True) v out) ∧ Hid (Below w.heap.size w wr))
  case atStart => exact ⟨[], 0, rfl, Nat.le_refl _, HF, Kd.R_nil _ _ _ _ _, Below.refl _ _⟩
  case round =>
    obtain ⟨out, at_, rfl, HK, HG, HO, HB⟩ := hrel
    clear HF
    cases gk with
    | zero => exact absurd HG.out (by simp [commitlog_Scan.l0])
    | succ kq =>
      have hg := HG.out
      rw [commitlog_Scan.l0] at hg
      clear HG
      obtain ⟨Ao, co, rfl⟩ := Kd.R_slice HO.out
      by_cases hlt : at_ < (l0.length : Int)
      · rw [if_pos hlt, Option.bind_eq_some_iff] at hg
        obtain ⟨⟨d1, d2, d3, d4, d5, d6, d7, d8⟩, hd, hg⟩ := hg
        have HD := hid hd
        dsimp only at hg
        clear hd
        by_cases h8 : d8 = 0
        · subst h8
          rw [if_pos rfl] at hg
          by_cases h65 : out.length = 65536
          · rw [if_pos h65] at hg
            simp only [Option.some.injEq, Prod.mk.injEq] at hg
            obtain ⟨rfl, rfl⟩ := hg
            have hb65 : ((out.length : Int) == 65536) = true := by rw [h65]; rfl
            clear h65
            go_wp2_with (go_at_call 11; refine (commitlog_Decode.calls kq A0 c0 l0 at_ d1 d2 d3 d4 d5 d6 d7 0 _ (Kd.C_below HR.out HB.out) HC.out HD.out).mono ?_; rintro e w4 ⟨rfl, hb4⟩; have HO4 := hid (Kd.R_below HO.out hb4); have HB4 := hid (HB.out.trans (hb4.mono HB.out.size)); clear hb4)
            rw [Exit.noGoto_ret]
            go_ret2
            exact ⟨_, rfl, Kd.R_alloc HO4.out _, HB4.out.alloc HB4.out.size _⟩
          · rw [if_neg h65] at hg
            by_cases hl65 : out.length < 65536
            · rw [if_pos hl65] at hg
              have HG := hid hg
              have hb65 : ((out.length : Int) == 65536) = false := by simp; omega
              clear hg h65
              go_wp2_with (first
                | (go_at_call 11; refine (commitlog_Decode.calls kq A0 c0 l0 at_ d1 d2 d3 d4 d5 d6 d7 0 _ (Kd.C_below HR.out HB.out) HC.out HD.out).mono ?_; rintro e w4 ⟨rfl, hb4⟩; have HO4 := hid (Kd.R_below HO.out hb4); have HB4 := hid (HB.out.trans (hb4.mono HB.out.size)); clear hb4)
                | (at_builtin; refine Kd.R_append k23 (w0 := w) w.heap.size rfl (.tmp 26) (.tmp 28) 36 23 (.agg #[(.int .i64 0), (.int .i64 0), (.int .i64 0), (.int .i64 0), (.int .i64 0), (.string ⟨#[]⟩)]) 56 rfl Try.underlying36 info23 rfl (by decide) (by decide) _ out (⟨d1, d2, d3, d4, d5, d6⟩ : LE) [.int .i64 d1, .int .i64 d2, .int .i64 d3, .int .i64 d4, .int .i64 d5, .string d6] (fun _ => True) (fun _ => False) rfl (by first | (go_simp; done) | (go_simp; rfl)) (k23_mkM _ _ _ (⟨d1, d2, d3, d4, d5, d6⟩ : LE)) (fun _ hk => hk.elim) (fun _ _ => trivial) (Kd.R_alloc HO4.out _) (HB4.out.alloc HB4.out.size _) (HB4.out.alloc HB4.out.size _).size (by omega) ?_; intro v5 w5 ho5 hb5 _ _; have HO5 := hid ho5; have HB5 := hid hb5; clear ho5 hb5))
              go_roundg kq
              case measure => omega
              case rel => exact ⟨_, d7, rfl, hid (by have := HK.out; omega), HG, HO5, HB5⟩
            · rw [if_neg hl65] at hg
              exact absurd hg (by simp)
        · rw [if_neg h8] at hg
          simp only [Option.some.injEq, Prod.mk.injEq] at hg
          obtain ⟨rfl, rfl⟩ := hg
          have hb8 : (d8 != 0) = true := by simpa using h8
          clear h8
          go_wp2_with (go_at_call 11; refine (commitlog_Decode.calls kq A0 c0 l0 at_ d1 d2 d3 d4 d5 d6 d7 d8 _ (Kd.C_below HR.out HB.out) HC.out HD.out).mono ?_; rintro e w4 ⟨rfl, hb4⟩; have HO4 := hid (Kd.R_below HO.out hb4); have HB4 := hid (HB.out.trans (hb4.mono HB.out.size)); clear hb4)
          rw [Exit.noGoto_ret]
          go_ret2
          exact ⟨_, rfl, Kd.R_alloc HO4.out _, HB4.out.alloc HB4.out.size _⟩
      · rw [if_neg hlt] at hg
        simp only [Option.some.injEq, Prod.mk.injEq] at hg
        obtain ⟨rfl, rfl⟩ := hg
        go_wp2
        go_ret2
        exact ⟨_, rfl, HO.out, HB.out⟩
end Go.Proofs.Ytfkgpmidcbjlbaa.H
namespace Go.Proofs.Ytfkgpmidcbjlbaa.P
open Go.RowKit Go.Proofs.Ytfkgpmidcbjlbaa.H Go.Proofs.YtfkgpmidcbjlbaaW.PrintWords
theorem commitlog_Scan.calls (k : Nat) (A0 : Option Addr) (c0 : Nat) (l0 : List Int) (r1 : List (S23)) (r2 : Int) (w : World) (hr0 : Kd.C (Kd.int .u8) w A0 l0.length l0) (hc0 : l0.length ≤ c0) (h : commitlog_Scan.f k l0 = some (r1, r2)) :
    Calls Try.prog 13 #[.slice A0 l0.length c0] w fun e w' => ∃ v0_ : Value, e = .returned (.tuple #[v0_, .int .i64 r2]) ∧ Kd.R k23 23 w' w.heap.size (fun _ => True) v0_ r1 ∧ Below w.heap.size w w' :=
  scan_calls k A0 c0 l0 r1 r2 w hr0 hc0 h
end Go.Proofs.Ytfkgpmidcbjlbaa.P
end
section
set_option linter.unusedVariables false
set_option linter.unusedSimpArgs false
-- Written by a program of this session (a printer of walks).
namespace Go.Proofs.Ytfkgpmidcbjlbaa.P
open Go.RowKit Go.Proofs.YtfkgpmidcbjlbaaW.PrintWords Go.Proofs.YtfkgpmidcbjlbaaW.PrintLast Go.Proofs.YtfkgpmidcbjlbaaW.PrintMore
attribute [local go_sem] max2_int min2_int max_two min_two max_three min_three max_four min_four   -- for this text's walks alone
set_option linter.unusedVariables false
set_option linter.unusedSimpArgs false

theorem eqA23 (d : Nat) (w : World) (x0 y0 : Int) (x1 y1 : Int) (x2 y2 : Int) (x3 y3 : Int) (x4 y4 : Int) (x5 y5 : ByteArray) :
    (Op.equalIn (d + 2) 23 (.agg #[.int .i64 x0, .int .i64 x1, .int .i64 x2, .int .i64 x3, .int .i64 x4, .string x5]) (.agg #[.int .i64 y0, .int .i64 y1, .int .i64 y2, .int .i64 y3, .int .i64 y4, .string y5])).run Try.prog w = .ok (x0 == y0 && (x1 == y1 && (x2 == y2 && (x3 == y3 && (x4 == y4 && (x5.toList == y5.toList)))))) w := by
  refine eqA_of Try.underlying23 (by kernel_rfl) ?_
  refine eqf_cons (by rfl) (by go_simp; rfl) (by go_simp; rfl) (by go_simp) ?_
  refine eqf_cons (by rfl) (by go_simp; rfl) (by go_simp; rfl) (by go_simp) ?_
  refine eqf_cons (by rfl) (by go_simp; rfl) (by go_simp; rfl) (by go_simp) ?_
  refine eqf_cons (by rfl) (by go_simp; rfl) (by go_simp; rfl) (by go_simp) ?_
  refine eqf_cons (by rfl) (by go_simp; rfl) (by go_simp; rfl) (by go_simp) ?_
  exact eqf_last (by rfl) (by go_simp; rfl) (by go_simp; rfl) (by go_simp)
end Go.Proofs.Ytfkgpmidcbjlbaa.P
end
section
set_option linter.unusedVariables false
set_option linter.unusedSimpArgs false
-- Written by a program of this session (a printer of walks).
namespace Go.Proofs.Ytfkgpmidcbjlbaa.P
open Go.RowKit Go.Proofs.YtfkgpmidcbjlbaaW.PrintWords Go.Proofs.YtfkgpmidcbjlbaaW.PrintLast Go.Proofs.YtfkgpmidcbjlbaaW.PrintMore
attribute [local go_sem] max2_int min2_int max_two min_two max_three min_three max_four min_four   -- for this text's walks alone
set_option linter.unusedVariables false
set_option linter.unusedSimpArgs false

attribute [local go_sem high] eqA23
/-! ### laminaref24_Equal: function 15 -/
mutual
def laminaref24_Equal.l0 : Nat → List (S23) → List (S23) → Int → Option (Bool)
  | 0, _, _, _ => none
  | k + 1, x0, x1, x5 => if x5 < (x0.length : Int) then (laminaref24_Equal.j1 k x0 x1 x5 (decide (x5 < (x1.length : Int)))) else (laminaref24_Equal.j1 k x0 x1 x5 false)
def laminaref24_Equal.j1 : Nat → List (S23) → List (S23) → Int → Bool → Option (Bool)
  | 0, _, _, _, _ => none
  | k + 1, x0, x1, x5, x20 => if x20 = true then (if 0 ≤ x5 then (if x5 < (x0.length : Int) then (if x5 < (x1.length : Int) then (if (!(((rd_T23 x0 x5).f0) == ((rd_T23 x1 x5).f0)) || (!(((rd_T23 x0 x5).f1) == ((rd_T23 x1 x5).f1)) || (!(((rd_T23 x0 x5).f2) == ((rd_T23 x1 x5).f2)) || (!(((rd_T23 x0 x5).f3) == ((rd_T23 x1 x5).f3)) || (!(((rd_T23 x0 x5).f4) == ((rd_T23 x1 x5).f4)) || (!((((rd_T23 x0 x5).f5).toList) == (((rd_T23 x1 x5).f5).toList)))))))) = true then (some false) else (laminaref24_Equal.l0 k x0 x1 (wrap64 (x5 + 1)))) else (none)) else (none)) else (none)) else (some true)
end
def laminaref24_Equal.f (k : Nat) (l0 : List (S23)) (l1 : List (S23)) : Option (Bool) := if (l0.length : Int) = (l1.length : Int) then (laminaref24_Equal.l0 k l0 l1 0) else (some false)
theorem laminaref24_Equal.mono_l : ∀ k, (∀ y0 y1 y2, LeO (laminaref24_Equal.l0 k y0 y1 y2) (laminaref24_Equal.l0 (k + 1) y0 y1 y2)) ∧ (∀ y0 y1 y2 y3, LeO (laminaref24_Equal.j1 k y0 y1 y2 y3) (laminaref24_Equal.j1 (k + 1) y0 y1 y2 y3))
  | 0 => ⟨fun _ _ _ r h => by simp [laminaref24_Equal.l0] at h, fun _ _ _ _ r h => by simp [laminaref24_Equal.j1] at h⟩
  | k + 1 => by
    obtain ⟨ih0, ih1⟩ := laminaref24_Equal.mono_l k
    refine ⟨?_, ?_⟩
    · intro y0 y1 y2
      unfold laminaref24_Equal.l0
      repeat' first
      | (with_reducible exact ih0 _ _ _)
      | (with_reducible exact ih1 _ _ _ _)
      | (with_reducible exact LeO.refl _)
      | (with_reducible exact LeO.none _)
      | (with_reducible refine LeO.ite ?_ ?_)
      | (with_reducible refine LeO.bind ?_ (fun _ => ?_))
      | exact ih0 _ _ _
      | exact ih1 _ _ _ _
      | exact LeO.none _
      | refine LeO.ite ?_ ?_
      | refine LeO.bind ?_ (fun _ => ?_)
    · intro y0 y1 y2 y3
      unfold laminaref24_Equal.j1
      repeat' first
      | (with_reducible exact ih0 _ _ _)
      | (with_reducible exact ih1 _ _ _ _)
      | (with_reducible exact LeO.refl _)
      | (with_reducible exact LeO.none _)
      | (with_reducible refine LeO.ite ?_ ?_)
      | (with_reducible refine LeO.bind ?_ (fun _ => ?_))
      | exact ih0 _ _ _
      | exact ih1 _ _ _ _
      | exact LeO.none _
      | refine LeO.ite ?_ ?_
      | refine LeO.bind ?_ (fun _ => ?_)
theorem laminaref24_Equal.mono : ∀ a0 a1 k, LeO (laminaref24_Equal.f k a0 a1) (laminaref24_Equal.f (k + 1) a0 a1) := by
  intro a0 a1 k
  obtain ⟨ih0, ih1⟩ := laminaref24_Equal.mono_l k
  unfold laminaref24_Equal.f
  repeat' first
      | (with_reducible exact ih0 _ _ _)
      | (with_reducible exact ih1 _ _ _ _)
      | (with_reducible exact LeO.refl _)
      | (with_reducible exact LeO.none _)
      | (with_reducible refine LeO.ite ?_ ?_)
      | (with_reducible refine LeO.bind ?_ (fun _ => ?_))
      | exact ih0 _ _ _
      | exact ih1 _ _ _ _
      | exact LeO.none _
      | refine LeO.ite ?_ ?_
      | refine LeO.bind ?_ (fun _ => ?_)
set_option maxHeartbeats 8000000 in
set_option maxRecDepth 100000 in
theorem laminaref24_Equal.calls (k : Nat) (A0 : Option Addr) (c0 : Nat) (l0 : List (S23)) (A1 : Option Addr) (c1 : Nat) (l1 : List (S23)) (r : Bool) (w : World) (hr0 : Kd.C k23 w A0 l0.length l0) (hc0 : l0.length ≤ c0) (hr1 : Kd.C k23 w A1 l1.length l1) (hc1 : l1.length ≤ c1) (h : laminaref24_Equal.f k l0 l1 = some r) :
    Calls Try.prog 15 #[.slice A0 l0.length c0, .slice A1 l1.length c1] w fun e w' => e = .returned (.bool r) ∧ Drawn0 w w' := by
  have hu23 := Try.underlying23
  have HR0 := Aside0.mk hr0
  have HC0 := Aside0.mk hc0
  clear hr0 hc0
  have HR1 := Aside0.mk hr1
  have HC1 := Aside0.mk hc1
  clear hr1 hc1
  have H : (if (l0.length : Int) = (l1.length : Int) then (laminaref24_Equal.l0 k l0 l1 0) else (some false)) = some r := h
  clear h
  by_cases c3 : (l0.length : Int) = (l1.length : Int)
  · rw [if_pos c3] at H
    have c3b0 : ((l0.length : Int) == (l1.length : Int)) = true := beq_iff_eq.mpr c3
    have c3b1 : ((l0.length : Int) != (l1.length : Int)) = false := bne_eq_false_iff_eq.mpr c3
    have c3b2 : (l0.length == l1.length) = true := by first | simpa using c3 | (simp at c3 ⊢; omega)
    clear c3
    have H' := Aside0.mk H
    clear H
    go_enter Try.func15, Try.ntmps15
    go_wp2
    repeat (go_quiet (fail); try go_wp2)
    go_loopg [5] k (fun kq v5 w' => ∃ (x5_1 : Int), v5 = .int .i64 x5_1 ∧ Aside0 (laminaref24_Equal.l0 kq l0 l1 x5_1 = some r) ∧ Aside0 (kq ≤ k) ∧ Drawn0 w w')
    case atStart => exact ⟨(0), (by first | rfl | (simp; done) | (simp [*]; done)), H', ⟨Nat.le_refl _⟩, by repeat (first | exact Drawn0.refl _ | apply Drawn0.step)⟩
    case round =>
      clear H'
      try clear c1
      try clear p2
      try clear c3
      try clear c3b0
      try clear c3b1
      try clear c3b2
      obtain ⟨x5_1, rfl, HA, HK1, ⟨m1, rfl⟩⟩ := hrel
      cases gk with
      | zero => exact absurd HA.out (by simp [laminaref24_Equal.l0])
      | succ k1 =>
        have H := HA.out
        clear HA
        simp only [laminaref24_Equal.l0] at H
        have HC4 := Aside0.mk H
        clear H
        go_upto_region 4 with (fail)
        repeat (go_quiet (fail); go_upto_region 4 with (fail))
        go_cut [20] (fun v20 wc => ∃ (kq : Nat) (x20_3 : Bool), v20 = .bool x20_3 ∧ Aside0 (laminaref24_Equal.j1 kq l0 l1 x5_1 x20_3 = some r) ∧ Aside0 (kq ≤ k1) ∧ Drawn0 w wc)
        case first =>
          have H := HC4.out
          clear HC4
          by_cases c5 : x5_1 < (l0.length : Int)
          · rw [if_pos c5] at H
            have c5b0 : decide (x5_1 < (l0.length : Int)) = true := decide_eq_true c5
            clear c5
            (first | rw [c5b0] | (simp only [i64_w, i32_w]; rw [c5b0]) | skip)
            have H' := Aside0.mk H
            clear H
            go_wp2
            repeat (go_quiet (fail); try go_wp2)
            go_meet
            case rel => exact ⟨_, (decide (x5_1 < (l1.length : Int))), (by first | rfl | (simp; done) | (simp [*]; done)), H', ⟨by have := HK1.out; first | omega | exact Nat.le_refl _⟩, by repeat (first | exact Drawn0.refl _ | apply Drawn0.step)⟩
          · rw [if_neg c5] at H
            have c5b0 : decide (x5_1 < (l0.length : Int)) = false := decide_eq_false c5
            clear c5
            (first | rw [c5b0] | (simp only [i64_w, i32_w]; rw [c5b0]) | skip)
            have H' := Aside0.mk H
            clear H
            go_wp2
            repeat (go_quiet (fail); try go_wp2)
            go_meet
            case rel => exact ⟨_, (false), (by first | rfl | (simp; done) | (simp [*]; done)), H', ⟨by have := HK1.out; first | omega | exact Nat.le_refl _⟩, by repeat (first | exact Drawn0.refl _ | apply Drawn0.step)⟩
        case rest =>
          clear HC4
          try clear c1
          try clear p2
          try clear c3
          try clear c3b0
          try clear c3b1
          try clear c3b2
          try clear c5
          try clear c5b0
          try clear p2
          obtain ⟨kq, x20_3, rfl, HA, HJ3, ⟨mc3, rfl⟩⟩ := hcut
          cases kq with
          | zero => exact absurd HA.out (by simp [laminaref24_Equal.j1])
          | succ kj3 =>
            have H := HA.out
            clear HA
            simp only [laminaref24_Equal.j1] at H
            by_cases c6 : x20_3 = true
            · subst c6
              have H1 : (if 0 ≤ x5_1 then (if x5_1 < (l0.length : Int) then (if x5_1 < (l1.length : Int) then (if (!(((rd_T23 l0 x5_1).f0) == ((rd_T23 l1 x5_1).f0)) || (!(((rd_T23 l0 x5_1).f1) == ((rd_T23 l1 x5_1).f1)) || (!(((rd_T23 l0 x5_1).f2) == ((rd_T23 l1 x5_1).f2)) || (!(((rd_T23 l0 x5_1).f3) == ((rd_T23 l1 x5_1).f3)) || (!(((rd_T23 l0 x5_1).f4) == ((rd_T23 l1 x5_1).f4)) || (!((((rd_T23 l0 x5_1).f5).toList) == (((rd_T23 l1 x5_1).f5).toList)))))))) = true then (some false) else (laminaref24_Equal.l0 kj3 l0 l1 (wrap64 (x5_1 + 1)))) else (none)) else (none)) else (none)) = some r := by rw [if_pos rfl] at H; exact H
              clear H
              have H := H1
              clear H1
              by_cases c7 : 0 ≤ x5_1
              · rw [if_pos c7] at H
                have c7b0 : decide (0 ≤ x5_1) = true := decide_eq_true c7
                clear c7
                by_cases c8 : x5_1 < (l0.length : Int)
                · rw [if_pos c8] at H
                  have c8b0 : decide (x5_1 < (l0.length : Int)) = true := decide_eq_true c8
                  clear c8
                  by_cases c9 : x5_1 < (l1.length : Int)
                  · rw [if_pos c9] at H
                    have c9b0 : decide (x5_1 < (l1.length : Int)) = true := decide_eq_true c9
                    clear c9
                    by_cases c10 : (!(((rd_T23 l0 x5_1).f0) == ((rd_T23 l1 x5_1).f0)) || (!(((rd_T23 l0 x5_1).f1) == ((rd_T23 l1 x5_1).f1)) || (!(((rd_T23 l0 x5_1).f2) == ((rd_T23 l1 x5_1).f2)) || (!(((rd_T23 l0 x5_1).f3) == ((rd_T23 l1 x5_1).f3)) || (!(((rd_T23 l0 x5_1).f4) == ((rd_T23 l1 x5_1).f4)) || (!((((rd_T23 l0 x5_1).f5).toList) == (((rd_T23 l1 x5_1).f5).toList)))))))) = true
                    · rw [if_pos c10] at H
                      have c10b0 : (!(((rd_T23 l0 x5_1).f0) == ((rd_T23 l1 x5_1).f0)) || (!(((rd_T23 l0 x5_1).f1) == ((rd_T23 l1 x5_1).f1)) || (!(((rd_T23 l0 x5_1).f2) == ((rd_T23 l1 x5_1).f2)) || (!(((rd_T23 l0 x5_1).f3) == ((rd_T23 l1 x5_1).f3)) || (!(((rd_T23 l0 x5_1).f4) == ((rd_T23 l1 x5_1).f4)) || (!((((rd_T23 l0 x5_1).f5).toList) == (((rd_T23 l1 x5_1).f5).toList)))))))) = true := c10
                      clear c10
                      obtain rfl := Option.some.inj H
                      have p117 : 0 ≤ (x5_1 : Int) := of_decide_eq_true (by first | (with_reducible assumption) | assumption)
                      have q117 : x5_1 < (l0.length : Int) := of_decide_eq_true (by first | (with_reducible assumption) | assumption)
                      obtain ⟨ad117, e117, hx117_0, hx117_1, hx117_2, hx117_3, hx117_4, hx117_5⟩ := at_T23 HR0.out x5_1 p117 q117
                      cases e117
                      replace p117 := eq_true p117
                      replace q117 := eq_true q117
                      have p118 : 0 ≤ (x5_1 : Int) := of_decide_eq_true (by first | (with_reducible assumption) | assumption)
                      have q118 : x5_1 < (l1.length : Int) := of_decide_eq_true (by first | (with_reducible assumption) | assumption)
                      obtain ⟨ad118, e118, hx118_0, hx118_1, hx118_2, hx118_3, hx118_4, hx118_5⟩ := at_T23 HR1.out x5_1 p118 q118
                      cases e118
                      replace p118 := eq_true p118
                      replace q118 := eq_true q118
                      go_wp2
                      repeat (go_quiet (fail); try go_wp2)
                      go_ret
                      exact ⟨by first | rfl | (simp; done) | (simp [*]; done), by repeat (first | exact Drawn0.refl _ | apply Drawn0.step)⟩
                    · rw [if_neg c10] at H
                      have c10b0 : (!(((rd_T23 l0 x5_1).f0) == ((rd_T23 l1 x5_1).f0)) || (!(((rd_T23 l0 x5_1).f1) == ((rd_T23 l1 x5_1).f1)) || (!(((rd_T23 l0 x5_1).f2) == ((rd_T23 l1 x5_1).f2)) || (!(((rd_T23 l0 x5_1).f3) == ((rd_T23 l1 x5_1).f3)) || (!(((rd_T23 l0 x5_1).f4) == ((rd_T23 l1 x5_1).f4)) || (!((((rd_T23 l0 x5_1).f5).toList) == (((rd_T23 l1 x5_1).f5).toList)))))))) = false := by simpa using c10
                      clear c10
                      have H' := Aside0.mk H
                      clear H
                      have p117 : 0 ≤ (x5_1 : Int) := of_decide_eq_true (by first | (with_reducible assumption) | assumption)
                      have q117 : x5_1 < (l0.length : Int) := of_decide_eq_true (by first | (with_reducible assumption) | assumption)
                      obtain ⟨ad117, e117, hx117_0, hx117_1, hx117_2, hx117_3, hx117_4, hx117_5⟩ := at_T23 HR0.out x5_1 p117 q117
                      cases e117
                      replace p117 := eq_true p117
                      replace q117 := eq_true q117
                      have p118 : 0 ≤ (x5_1 : Int) := of_decide_eq_true (by first | (with_reducible assumption) | assumption)
                      have q118 : x5_1 < (l1.length : Int) := of_decide_eq_true (by first | (with_reducible assumption) | assumption)
                      obtain ⟨ad118, e118, hx118_0, hx118_1, hx118_2, hx118_3, hx118_4, hx118_5⟩ := at_T23 HR1.out x5_1 p118 q118
                      cases e118
                      replace p118 := eq_true p118
                      replace q118 := eq_true q118
                      go_wp2
                      repeat (go_quiet (fail); try go_wp2)
                      go_roundg kj3
                      case measure => have := HK1.out; have := HJ3.out; omega
                      case rel => exact ⟨(wrap64 (x5_1 + 1)), (by first | rfl | (simp; done) | (simp [*]; done)), H', ⟨by have := HK1.out; have := HJ3.out; omega⟩, by repeat (first | exact Drawn0.refl _ | apply Drawn0.step)⟩
                  · rw [if_neg c9] at H
                    exact absurd H (by simp)
                · rw [if_neg c8] at H
                  exact absurd H (by simp)
              · rw [if_neg c7] at H
                exact absurd H (by simp)
            · replace c6 := Bool.eq_false_iff.mpr c6
              subst c6
              have H1 : (some true) = some r := by rw [if_neg (show ¬ (false = true) by decide)] at H; exact H
              clear H
              have H := H1
              clear H1
              obtain rfl := Option.some.inj H
              go_wp2
              repeat (go_quiet (fail); try go_wp2)
              go_ret
              exact ⟨by first | rfl | (simp; done) | (simp [*]; done), by repeat (first | exact Drawn0.refl _ | apply Drawn0.step)⟩
  · rw [if_neg c3] at H
    have c3b0 : ((l0.length : Int) == (l1.length : Int)) = false := beq_eq_false_iff_ne.mpr c3
    have c3b1 : ((l0.length : Int) != (l1.length : Int)) = true := bne_iff_ne.mpr c3
    have c3b2 : (l0.length == l1.length) = false := by first | simpa using c3 | (simp at c3 ⊢; omega)
    obtain rfl := Option.some.inj H
    go_enter Try.func15, Try.ntmps15
    go_wp2
    repeat (go_quiet (fail); try go_wp2)
    go_ret
    exact ⟨by first | rfl | (simp; done) | (simp [*]; done), by repeat (first | exact Drawn0.refl _ | apply Drawn0.step)⟩

end Go.Proofs.Ytfkgpmidcbjlbaa.P
end
section
set_option linter.unusedVariables false
set_option linter.unusedSimpArgs false
/- Plain: records read back one behind the other; what is encoded is read back. -/
namespace Go.Proofs.Ytfkgpmidcbjlbaa.U
open Go.RowKit Go.Proofs.Ytfkgpmidcbjlbaa.P Go.Proofs.Ytfkgpmidcbjlbaa.H Go.Proofs.YtfkgpmidcbjlbaaW.PrintWords Go.Proofs.YtfkgpmidcbjlbaaW.PrintMore

/-! what is encoded is read back -/
theorem fieldsS_enc (rest : List Int) : ∀ (more acc : List Int), (∀ x ∈ acc ++ more, Num x) → fieldsS (encL (acc ++ more) ++ rest) more.length ((encL acc).length : Int) acc = entS (encL (acc ++ more) ++ rest) ((encL (acc ++ more)).length : Int) (acc ++ more)
  | [], acc, hn => by
    simp only [List.append_nil]
    rfl
  | x :: xs, acc, hn => by
    have hx := hn x (by simp)
    unfold Num at hx
    have hd := decS_enc (encL acc) (encL xs ++ rest) x.toNat (by omega)
    have el : encL (acc ++ x :: xs) ++ rest = encL acc ++ encS x.toNat ++ (encL xs ++ rest) := by
      rw [encL_app, encL]; simp only [List.append_assoc]
    rw [← el] at hd
    unfold fieldsS
    simp only [List.length_cons]
    rw [hd]
    dsimp only
    rw [if_pos rfl, if_neg (by omega), show ((x.toNat : Nat) : Int) = x from by omega]
    have ih := fieldsS_enc rest xs (acc ++ [x]) (by simpa using hn)
    have e1 : acc ++ [x] ++ xs = acc ++ x :: xs := by simp
    have e2 : (encL (acc ++ [x])).length = (encL acc).length + (encS x.toNat).length := by rw [encL_app]; simp [encL]
    rw [e1, e2] at ih
    exact ih
theorem body_enc (k i p m t : Int) (n : ByteArray) (h : Good k i p m t n) : fieldsS (bodyS k i p m t n) 6 0 [] = (k, i, p, m, t, n, 0) := by
  have := fieldsS_enc (bytesOf n) [k, i, p, m, t, (n.size : Int)] [] (by simpa using h.nums)
  have e : fieldsS (bodyS k i p m t n) 6 0 [] = entS (bodyS k i p m t n) ((encL [k, i, p, m, t, (n.size : Int)]).length : Int) [k, i, p, m, t, (n.size : Int)] := this
  have hlen : (bodyS k i p m t n).length = (encL [k, i, p, m, t, (n.size : Int)]).length + n.size := by unfold bodyS; rw [List.length_append, bytesOf_length]
  have hdrop : (bodyS k i p m t n).drop (encL [k, i, p, m, t, (n.size : Int)]).length = bytesOf n := by unfold bodyS; rw [List.drop_left]
  rw [e]
  unfold entS
  simp only [List.getD_cons_zero, List.getD_cons_succ]
  rw [if_neg (by omega), if_neg (by omega), if_neg (by have := (validB_parts _ _ _ _ _ _ h.v).2.1; omega), Int.toNat_natCast, hdrop, strOf_bytesOf, if_pos h.v]
theorem seg_mid (a b c : List Int) (lo hi : Int) (h0 : lo = (a.length : Int)) (h1 : hi = ((a.length + b.length : Nat) : Int)) : segOf (a ++ b ++ c) lo hi = b := by
  subst h0 h1
  unfold segOf
  rw [Int.toNat_natCast, Int.toNat_natCast, show a.length + b.length = (a ++ b).length from by simp, List.take_left, List.drop_left]
theorem decodeS_enc (k i p m t : Int) (n : ByteArray) (h : Good k i p m t n) (pre suf : List Int) :
    decodeS (pre ++ recS k i p m t n ++ suf) (pre.length : Int) = (k, i, p, m, t, n, ((pre.length + (recS k i p m t n).length : Nat) : Int), 0) := by
  have hb := body_enc k i p m t n h
  have hl := h.len
  have hby := bodyS_bytes k i p m t n
  unfold recS
  generalize bodyS k i p m t n = b at hb hl hby
  unfold recOf
  have hd := decS_enc pre (b ++ leS (crcS b) 4 ++ suf) b.length (by omega)
  have el : pre ++ (encS b.length ++ b ++ leS (crcS b) 4) ++ suf = pre ++ encS b.length ++ (b ++ leS (crcS b) 4 ++ suf) := by simp only [List.append_assoc]
  have s1 := seg_mid (pre ++ encS b.length) b (leS (crcS b) 4 ++ suf) ((pre.length + (encS b.length).length : Nat) : Int) (((pre.length + (encS b.length).length : Nat) : Int) + (b.length : Int)) (by simp) (by simp <;> omega)
  have s2 := seg_mid (pre ++ encS b.length ++ b) (leS (crcS b) 4) suf (((pre.length + (encS b.length).length : Nat) : Int) + (b.length : Int)) (((pre.length + (encS b.length).length : Nat) : Int) + (b.length : Int) + 4) (by simp; omega) (by simp [leS_len]; omega)
  rw [show pre ++ encS b.length ++ b ++ (leS (crcS b) 4 ++ suf) = pre ++ encS b.length ++ (b ++ leS (crcS b) 4 ++ suf) from by simp only [List.append_assoc]] at s1
  rw [show pre ++ encS b.length ++ b ++ leS (crcS b) 4 ++ suf = pre ++ encS b.length ++ (b ++ leS (crcS b) 4 ++ suf) from by simp only [List.append_assoc]] at s2
  rw [el]
  unfold decodeS
  rw [hd]
  dsimp only
  rw [if_pos rfl, if_neg (by omega)]
  unfold decE
  rw [s1, s2, hb]
  have hc := crcS_lt b hby
  rw [if_neg (by simp [leS_len]; omega), valS_le, if_pos (by omega), if_pos rfl]
  simp [leS_len]
  omega

/-! scanning -/
def recE (x : LE) : List Int := recS x.f0 x.f1 x.f2 x.f3 x.f4 x.f5
def GoodE (x : LE) : Prop := Good x.f0 x.f1 x.f2 x.f3 x.f4 x.f5
def recsE (E : List LE) : List Int := E.flatMap recE
theorem recE_bytes (x : LE) : Bytes (recE x) := recOf_bytes _ (bodyS_bytes _ _ _ _ _ _)
theorem recE_len (x : LE) (h : GoodE x) : 6 ≤ (recE x).length ∧ (recE x).length ≤ 97 := by
  have h1 := Good.len h
  have h2 := Good.pos h
  unfold recE recS
  rw [recOf_len _ (by omega)]
  omega
def scanS (l : List Int) : Nat → List LE → Int → List LE × Int
  | 0, out, at_ => (out, at_)
  | f + 1, out, at_ =>
    if at_ < (l.length : Int) then
      (if (decodeS l at_).2.2.2.2.2.2.2 = 0 then (if out.length = 65536 then (out, at_) else scanS l f (out ++ [leOf (decodeS l at_)]) (decodeS l at_).2.2.2.2.2.2.1) else (out, at_))
    else (out, at_)
theorem scan_impl_l (l : List Int) (hb : Bytes l) (hl : l.length ≤ 4611686018427387904) : ∀ (f : Nat) (at_ : Int) (out : List LE), (l.length : Int) < at_ + f → out.length ≤ 65536 → Ev (fun k => commitlog_Scan.l0 k l out at_) (scanS l f out at_)
  | 0, at_, out, hf, ho => Ev.step (fun k => rfl) (Ev.neg (by omega) (Ev.pure _))
  | f + 1, at_, out, hf, ho => by
    refine Ev.step (fun k => rfl) ?_
    unfold scanS
    by_cases c1 : at_ < (l.length : Int)
    · rw [if_pos c1]
      refine Ev.pos c1 (Ev.bind (decode_impl l at_ hb hl) ?_)
      by_cases c2 : (decodeS l at_).2.2.2.2.2.2.2 = 0
      · rw [if_pos c2]
        refine Ev.pos c2 ?_
        by_cases c3 : out.length = 65536
        · rw [if_pos c3]; exact Ev.pos c3 (Ev.pure _)
        · rw [if_neg c3]
          obtain ⟨k, i, p, m, t, n, o, e, he, hd, hoe, hel, _⟩ := decodeS_ok l at_ hb c2
          rw [hd]
          exact Ev.neg c3 (Ev.pos (by omega) (scan_impl_l l hb hl f (e : Int) _ (by omega) (by simp; omega)))
      · rw [if_neg c2]; exact Ev.neg c2 (Ev.pure _)
    · rw [if_neg c1]; exact Ev.neg c1 (Ev.pure _)
/-- what scanning answers -/
def scanA (l : List Int) : List LE × Int := scanS l (l.length + 1) [] 0
theorem scan_impl (l : List Int) (hb : Bytes l) (hl : l.length ≤ 4611686018427387904) : Ev (fun k => commitlog_Scan.f k l) (scanA l) := scan_impl_l l hb hl (l.length + 1) 0 [] (by omega) (by simp)
/-- what is scanned encodes to the scanned bytes -/
theorem scanS_ok (l : List Int) (hb : Bytes l) : ∀ (f : Nat) (o : Nat) (out : List LE), o ≤ l.length → out.length ≤ 65536 →
    ∃ (E : List LE) (e : Nat), scanS l f out o = (out ++ E, (e : Int)) ∧ o ≤ e ∧ e ≤ l.length ∧ (∀ x ∈ E, GoodE x) ∧ (l.take e).drop o = recsE E ∧ (out ++ E).length ≤ 65536
  | 0, o, out, ho, hlen => ⟨[], o, by simp [scanS], Nat.le_refl _, ho, fun x hx => by simp at hx, by rw [List.drop_eq_nil_of_le (by simp; omega)]; rfl, by simpa using hlen⟩
  | f + 1, o, out, ho, hlen => by
    have hstop : ∃ (E : List LE) (e : Nat), (out, (o : Int)) = (out ++ E, (e : Int)) ∧ o ≤ e ∧ e ≤ l.length ∧ (∀ x ∈ E, GoodE x) ∧ (l.take e).drop o = recsE E ∧ (out ++ E).length ≤ 65536 :=
      ⟨[], o, by simp, Nat.le_refl _, ho, fun x hx => by simp at hx, by rw [List.drop_eq_nil_of_le (by simp; omega)]; rfl, by simpa using hlen⟩
    unfold scanS
    split
    · split
      · rename_i c2
        split
        · exact hstop
        · rename_i c3
          obtain ⟨k, i, p, m, t, n, o', e, he, hd, hoe, hel, hG, hrec⟩ := decodeS_ok l o hb c2
          obtain rfl : o = o' := by omega
          rw [hd]
          obtain ⟨E, e2, hs, h1, h2, h3, h4, h5⟩ := scanS_ok l hb f e (out ++ [leOf (k, i, p, m, t, n, (e : Int), 0)]) hel (by simp; omega)
          refine ⟨leOf (k, i, p, m, t, n, (e : Int), 0) :: E, e2, by dsimp only; rw [hs]; simp, by omega, h2, ?_, ?_, by simpa using h5⟩
          · intro x hx
            rcases List.mem_cons.1 hx with rfl | hx
            · exact hG
            · exact h3 x hx
          · have : l.take e2 = l.take e ++ (l.take e2).drop e := by
              conv => lhs; rw [← List.take_append_drop e (l.take e2)]
              rw [List.take_take, Nat.min_eq_left (by omega)]
            rw [this, List.drop_append_of_le_length (by simp; omega), hrec, h4]
            rfl
      · exact hstop
    · exact hstop
theorem scanA_ok (l : List Int) (hb : Bytes l) : ∃ (E : List LE) (e : Nat), scanA l = (E, (e : Int)) ∧ e ≤ l.length ∧ (∀ x ∈ E, GoodE x) ∧ l.take e = recsE E ∧ E.length ≤ 65536 := by
  obtain ⟨E, e, h1, _, h3, h4, h5, h6⟩ := scanS_ok l hb (l.length + 1) 0 [] (by omega) (by simp)
  exact ⟨E, e, by unfold scanA; simpa using h1, h3, h4, by simpa using h5, by simpa using h6⟩
/-- records are scanned one by one -/
theorem scanS_recs (more : List Int) : ∀ (E : List LE) (f : Nat) (pre : List Int) (out : List LE), (∀ x ∈ E, GoodE x) → out.length + E.length ≤ 65536 →
    scanS (pre ++ recsE E ++ more) (f + E.length) out (pre.length : Int) = scanS (pre ++ recsE E ++ more) f (out ++ E) ((pre ++ recsE E).length : Int)
  | [], f, pre, out, hG, hl => by simp [recsE]
  | x :: xs, f, pre, out, hG, hl => by
    have hx := hG x (by simp)
    have hlen := recE_len x hx
    simp only [List.length_cons] at hl ⊢
    have hd : decodeS (pre ++ recE x ++ (recsE xs ++ more)) (pre.length : Int) = _ := decodeS_enc _ _ _ _ _ _ hx pre (recsE xs ++ more)
    have el : pre ++ recsE (x :: xs) ++ more = pre ++ recE x ++ (recsE xs ++ more) := by
      unfold recsE; rw [List.flatMap_cons]; simp only [List.append_assoc]
    rw [show f + (xs.length + 1) = (f + xs.length) + 1 from by omega]
    conv => lhs; unfold scanS
    rw [el, hd]
    dsimp only
    rw [if_pos (by simp only [List.length_append]; omega), if_pos rfl, if_neg (by omega)]
    have ih := scanS_recs more xs f (pre ++ recE x) (out ++ [x]) (fun y hy => hG y (by simp [hy])) (by simp; omega)
    rw [show pre ++ recE x ++ recsE xs ++ more = pre ++ recE x ++ (recsE xs ++ more) from by simp only [List.append_assoc]] at ih
    rw [show ((pre.length + (recS x.f0 x.f1 x.f2 x.f3 x.f4 x.f5).length : Nat) : Int) = ((pre ++ recE x).length : Int) from by rw [List.length_append]; rfl]
    have e3 : pre ++ recsE (x :: xs) = pre ++ recE x ++ recsE xs := by unfold recsE; rw [List.flatMap_cons]; simp only [List.append_assoc]
    rw [e3, show out ++ x :: xs = out ++ [x] ++ xs from by simp]
    exact ih
theorem scanA_recs (E : List LE) (more : List Int) (hG : ∀ x ∈ E, GoodE x) (hl : E.length ≤ 65536) :
    scanA (recsE E ++ more) = scanS (recsE E ++ more) ((recsE E ++ more).length + 1 - E.length) E ((recsE E).length : Int) := by
  have hle : E.length ≤ (recsE E).length := by
    clear hl
    induction E with
    | nil => simp
    | cons x xs ih =>
      have h1 := ih (fun y hy => hG y (by simp [hy]))
      have h2 := recE_len x (hG x (by simp))
      unfold recsE at h1 ⊢
      rw [List.flatMap_cons, List.length_append, List.length_cons]
      omega
  have := scanS_recs more E ((recsE E ++ more).length + 1 - E.length) [] [] hG (by simpa using hl)
  simp only [List.nil_append] at this
  rw [show (recsE E ++ more).length + 1 - E.length + E.length = (recsE E ++ more).length + 1 from by simp; omega] at this
  exact this

/-! equal lists -/
theorem equal_l (l : List LE) (hl : l.length ≤ 65536) : ∀ f i : Nat, i + f = l.length → Ev (fun k => laminaref24_Equal.l0 k l l (i : Int)) true
  | 0, i, hi => by
    have h : Ev (fun k => laminaref24_Equal.j1 k l l (i : Int) false) true := Ev.step (G := fun _ => some true) (fun k => rfl) (Ev.pure _)
    exact Ev.step (fun k => rfl) (Ev.neg (by omega) h)
  | f + 1, i, hi => by
    have key : ∀ b : Bool, b = decide ((i : Int) < (l.length : Int)) → Ev (fun k => laminaref24_Equal.j1 k l l (i : Int) b) true := by
      intro b hbb
      have hbt : b = true := by rw [hbb]; exact decide_eq_true (by omega)
      clear hbb
      refine Ev.step (fun k => rfl) (Ev.pos hbt (Ev.pos (by omega) (Ev.pos (by omega) (Ev.pos (by omega) (Ev.neg (by simp) ?_)))))
      rw [show wrap64 ((i : Int) + 1) = ((i + 1 : Nat) : Int) from by rw [w64 _ (by omega) (by omega)]; omega]
      exact equal_l l hl f (i + 1) (by omega)
    exact Ev.step (fun k => rfl) (Ev.pos (by omega) (key _ rfl))
theorem equal_same (l : List LE) (hl : l.length ≤ 65536) : Ev (fun k => laminaref24_Equal.f k l l) true := Ev.pos rfl (equal_l l hl l.length 0 (by omega))
end Go.Proofs.Ytfkgpmidcbjlbaa.U
end
section
set_option linter.unusedVariables false
set_option linter.unusedSimpArgs false
/- A directory: names and files' numbers, rising; a map in the heap that reads as one. -/
namespace Go.Proofs.Ytfkgpmidcbjlbaa.H
open Go.RowKit Go.Proofs.YtfkgpmidcbjlbaaW.PrintWords

/-- how a pointer to a file reads: as its block's number -/
def fileElem (v : Value) : Option (DataW Unit × List MemPlace) := match v with
  | .pointer (some ⟨b, 0, none⟩) => some (.lit (.int .i64 b), [])
  | _ => none
theorem fileElem_mk (b : Nat) : fileElem (.pointer (some ⟨b, 0, none⟩)) = some (.lit (.int .i64 b), []) := rfl
theorem fileElem_inv {v : Value} {y : DataW Unit × List MemPlace} (h : fileElem v = some y) : ∃ b : Nat, v = .pointer (some ⟨b, 0, none⟩) ∧ y = (.lit (.int .i64 b), []) := by
  unfold fileElem at h
  split at h
  · exact ⟨_, rfl, (Option.some.inj h).symm⟩
  · cases h
abbrev Dir := List (ByteArray × Nat)
def keyL (n : ByteArray) : Lit := .string n.data.toList
theorem keyL_inj {a b : ByteArray} (h : keyL a = keyL b) : a = b := by
  have : a.data.toList = b.data.toList := by simpa [keyL] using h
  exact ByteArray.ext (Array.toList_inj.1 this)
theorem keyL_same (a b : ByteArray) : (keyL a).sameKey (keyL b) = decide (a = b) := by
  by_cases h : a = b
  · subst h; simp [keyL, Lit.sameKey]
  · rw [decide_eq_false h]
    simp only [keyL, Lit.sameKey, beq_eq_false_iff_ne]
    intro h2
    exact h (keyL_inj (congrArg Lit.string h2))
def entL (fb : Nat → Nat) (p : ByteArray × Nat) : Lit × DataW Unit := (keyL p.1, .lit (.int .i64 (fb p.2)))
def dirD (fb : Nat → Nat) (d : Dir) : DataW Unit := .map (d.map (entL fb))
def dget (d : Dir) (n : ByteArray) : Option Nat := (d.find? fun p => decide (p.1 = n)).map (·.2)
def dins (x : ByteArray × Nat) : Dir → Dir
  | [] => [x]
  | y :: r => if (keyL x.1).before (keyL y.1) then x :: y :: r else y :: dins x r
def ddel (d : Dir) (n : ByteArray) : Dir := d.filter fun p => !decide (p.1 = n)
def dput (d : Dir) (n : ByteArray) (i : Nat) : Dir := dins (n, i) (ddel d n)
theorem dins_map (fb : Nat → Nat) (x : ByteArray × Nat) (d : Dir) : (dins x d).map (entL fb) = DataW.insert (entL fb x) (d.map (entL fb)) := by
  induction d with
  | nil => rfl
  | cons y r ih =>
    unfold dins
    rw [List.map_cons, DataW.insert]
    show List.map (entL fb) (if (keyL x.1).before (keyL y.1) = true then _ else _) = if (keyL x.1).before (keyL y.1) = true then _ else _
    split
    · rfl
    · rw [List.map_cons, ih]
theorem filter_map (fb : Nat → Nat) (d : Dir) (n : ByteArray) : (d.map (entL fb)).filter (fun p => !p.1.sameKey (keyL n)) = (ddel d n).map (entL fb) := by
  unfold ddel
  rw [List.filter_map]
  congr 1
  refine List.filter_congr fun p _ => ?_
  show (!(keyL p.1).sameKey (keyL n)) = _
  rw [keyL_same]
theorem dirD_put (fb : Nat → Nat) (d : Dir) (n : ByteArray) (i : Nat) : (dirD fb d).put (keyL n) (.lit (.int .i64 (fb i))) = dirD fb (dput d n i) := by
  show DataW.map (DataW.insert (keyL n, .lit (.int .i64 (fb i))) ((d.map (entL fb)).filter fun p => !p.1.sameKey (keyL n))) = DataW.map ((dput d n i).map (entL fb))
  unfold dput
  rw [filter_map, dins_map]
  rfl
theorem dirD_del (fb : Nat → Nat) (d : Dir) (n : ByteArray) : (dirD fb d).del (keyL n) = dirD fb (ddel d n) := by
  show DataW.map ((d.map (entL fb)).filter fun p => !p.1.sameKey (keyL n)) = DataW.map ((ddel d n).map (entL fb))
  rw [filter_map]
theorem dirD_at (fb : Nat → Nat) (d : Dir) (n : ByteArray) (z : DataW Unit) : (dirD fb d).atKey (keyL n) z = match dget d n with | some i => .lit (.int .i64 (fb i)) | none => z := by
  unfold DataW.atKey dirD
  dsimp only
  unfold dget
  rw [List.find?_map]
  have : ((fun p : Lit × DataW Unit => p.1.sameKey (keyL n)) ∘ entL fb) = fun p => decide (p.1 = n) := by
    funext p
    exact keyL_same p.1 n
  rw [this]
  cases d.find? fun p => decide (p.1 = n) <;> rfl
theorem dirD_has (fb : Nat → Nat) (d : Dir) (n : ByteArray) : Maps.has (dirD fb d) (keyL n) = (dget d n).isSome := by
  unfold dirD dget
  rw [Maps.has_eq, List.any_map]
  have : ((fun p : Lit × DataW Unit => p.1.sameKey (keyL n)) ∘ entL fb) = fun p => decide (p.1 = n) := by
    funext p
    exact keyL_same p.1 n
  rw [this, Option.isSome_map, Bool.eq_iff_iff, List.find?_isSome, List.any_eq_true]
theorem dirD_size (fb : Nat → Nat) (d : Dir) : Maps.size (dirD fb d) = d.length := by simp [dirD, Maps.size]
theorem dirD_congr (fb fb' : Nat → Nat) (d : Dir) (h : ∀ p ∈ d, fb' p.2 = fb p.2) : dirD fb' d = dirD fb d := by
  unfold dirD
  congr 1
  refine List.map_congr_left fun p hp => ?_
  unfold entL
  rw [h p hp]

/-- block m is a map that reads as d -/
def HasDir (w : World) (m : Nat) (fb : Nat → Nat) (d : Dir) : Prop := w.ownsMap Try.prog 9 fileElem m d.length (dirD fb d)
theorem HasDir.of {w : World} {m : Nat} {fb : Nat → Nat} {d : Dir} {n : Nat} (h : w.ownsMap Try.prog 9 fileElem m n (dirD fb d)) : HasDir w m fb d := by
  obtain ⟨es, clock, hb, F, hs, hD⟩ := h
  refine ⟨es, clock, hb, F, ?_, hD⟩
  have := dirD_size fb d
  rw [hD] at this
  simp only [Maps.size, length_sorted] at this
  simp at this
  omega
theorem HasDir.move {w w' : World} {m : Nat} {fb : Nat → Nat} {d : Dir} (h : HasDir w m fb d) (hm : w'.heap[m]? = w.heap[m]?) : HasDir w' m fb d := by
  obtain ⟨es, clock, hb, r⟩ := h
  exact ⟨es, clock, hm.trans hb, r⟩
theorem HasDir.congr {w : World} {m : Nat} {fb fb' : Nat → Nat} {d : Dir} (h : HasDir w m fb d) (he : ∀ p ∈ d, fb' p.2 = fb p.2) : HasDir w m fb' d := by
  unfold HasDir at h ⊢
  rw [dirD_congr fb fb' d he]
  exact h
theorem HasDir.lt {w : World} {m : Nat} {fb : Nat → Nat} {d : Dir} (h : HasDir w m fb d) : m < w.heap.size := World.ownsMap.lt h
theorem keyed : Go.Maps.Keyed Try.prog 9 := Go.Maps.string_keyed Try.underlying9
theorem key_mk {n : ByteArray} (h : n.size ≤ maxLen) : keyOf Try.prog 9 (.string n) = some (keyL n) := Go.WideMaps.keyOf_string_mk Try.underlying9 h
theorem key_inv {v : Value} {kl : Lit} (h : keyOf Try.prog 9 v = some kl) : ∃ n : ByteArray, v = .string n ∧ kl = keyL n ∧ n.size ≤ maxLen := by
  rw [keyOf_string Try.underlying9] at h
  cases v <;> simp [mapKey, Try.underlying9] at h
  exact ⟨_, rfl, h.2.symm, h.1⟩
/-- the entries of a map rise -/
def Rising (d : Dir) : Prop := DataW.rising (d.map (entL id)) = true
theorem rising_fb (fb : Nat → Nat) : ∀ d : Dir, DataW.rising (d.map (entL fb)) = DataW.rising (d.map (entL id))
  | [] => rfl
  | [x] => rfl
  | x :: y :: r => by
    have ih := rising_fb fb (y :: r)
    simp only [List.map_cons] at ih ⊢
    unfold DataW.rising
    rw [ih]; rfl
theorem HasDir.rising {w : World} {m : Nat} {fb : Nat → Nat} {d : Dir} (h : HasDir w m fb d) : Rising d := by
  obtain ⟨es, clock, _, F, _, hD⟩ := h
  have := Go.Maps.fit_rising keyed F
  unfold Rising
  rw [← rising_fb fb]
  unfold dirD at hD
  rw [DataW.map.injEq] at hD
  rw [hD]; exact this

theorem zero87 (w : World) : (zeroValue 87).run Try.prog w = .ok (.pointer none) w := by kernel_rfl
/-- what 'v, ok := m[k]' gives -/
def lookV (fb : Nat → Nat) : Option Nat → Value
  | none => .tuple #[.pointer none, .bool false]
  | some i => .tuple #[.pointer (some ⟨fb i, 0, none⟩), .bool true]
theorem HasDir.look {w : World} {m : Nat} {fb : Nat → Nat} {d : Dir} (h : HasDir w m fb d) {n : ByteArray} (hn : n.size ≤ maxLen) :
    (Instr.lookup 76 (.map (some m)) (.string n) true).run Try.prog w = .ok (lookV fb (dget d n)) w := by
  obtain ⟨es, clock, hb, F, _, hD⟩ := h
  have hz : (zeroValue 87).run Try.prog w = .ok (.pointer none) w := zero87 w
  rcases Go.Maps.fit_look true keyed Try.underlying76 hz hb F (key_mk hn) with ⟨hrun, _, hat⟩ | ⟨e0, y, _, _, hrun, hR, hat, _⟩
  · have h1 := Maps.has_false_of_atKey hat
    rw [← hD, dirD_has] at h1
    have h2 : dget d n = none := Option.not_isSome_iff_eq_none.1 (by rw [h1]; decide)
    rw [h2]
    exact hrun
  · rw [← hD] at hat
    obtain ⟨b, hv, rfl⟩ := fileElem_inv hR
    have h1 := hat .nil
    rw [dirD_at] at h1
    cases hg : dget d n with
    | none => rw [hg] at h1; cases h1
    | some i =>
      rw [hg] at h1
      simp only [DataW.lit.injEq, Lit.int.injEq, true_and] at h1
      have h2 : fb i = b := by omega
      rw [hv, ← h2] at hrun
      exact hrun
/-- 'm[k]' at a name that is there -/
theorem HasDir.look1 {w : World} {m : Nat} {fb : Nat → Nat} {d : Dir} (h : HasDir w m fb d) {n : ByteArray} (hn : n.size ≤ maxLen) {i : Nat} (hi : dget d n = some i) :
    (Instr.lookup 76 (.map (some m)) (.string n) false).run Try.prog w = .ok (.pointer (some ⟨fb i, 0, none⟩)) w := by
  obtain ⟨es, clock, hb, F, _, hD⟩ := h
  have hz : (zeroValue 87).run Try.prog w = .ok (.pointer none) w := zero87 w
  rcases Go.Maps.fit_look false keyed Try.underlying76 hz hb F (key_mk hn) with ⟨hrun, _, hat⟩ | ⟨e0, y, _, _, hrun, hR, hat, _⟩
  · have h1 := Maps.has_false_of_atKey hat
    rw [← hD, dirD_has, hi] at h1
    cases h1
  · rw [← hD] at hat
    obtain ⟨b, hv, rfl⟩ := fileElem_inv hR
    have h1 := hat .nil
    rw [dirD_at, hi] at h1
    simp only [DataW.lit.injEq, Lit.int.injEq, true_and] at h1
    have h2 : fb i = b := by omega
    rw [hv] at hrun
    rw [h2]
    exact hrun
section
variable (w : World) {ops : Array Oper} {rest : List Oper} {o : Oper} {a : Act} {Q : Exit → Act → World → Prop}
theorem wpList_look_dir (hg : o.guard = none) (m x : Operand) (hop : o.op = Op.lookup 76 m x true) (b : Nat) (fb : Nat → Nat) (d : Dir) (n : ByteArray) (hm : a.eval m = .map (some b)) (hx : a.eval x = .string n)
    (h : HasDir w b fb d) (hn : n.size ≤ maxLen) (g : Option Nat) (hgt : dget d n = g) (hK : wpList Try.prog ops Q rest (a.put o.dst (lookV fb g)) w) : wpList Try.prog ops Q (o :: rest) a w := by
  refine wpList_plain hg fun K' hK' => ?_
  have hrun := h.look hn
  rw [hgt] at hrun
  unfold Oper.wp
  simp [execOp, hop, hm, hx, hrun, Result.andThen]
  exact hK' _ _ hK
theorem wpList_look1_dir (hg : o.guard = none) (m x : Operand) (hop : o.op = Op.lookup 76 m x false) (b : Nat) (fb : Nat → Nat) (d : Dir) (n : ByteArray) (hm : a.eval m = .map (some b)) (hx : a.eval x = .string n)
    (h : HasDir w b fb d) (hn : n.size ≤ maxLen) (i : Nat) (hgt : dget d n = some i) (hK : wpList Try.prog ops Q rest (a.put o.dst (.pointer (some ⟨fb i, 0, none⟩))) w) : wpList Try.prog ops Q (o :: rest) a w := by
  refine wpList_plain hg fun K' hK' => ?_
  have hrun := h.look1 hn hgt
  unfold Oper.wp
  simp [execOp, hop, hm, hx, hrun, Result.andThen]
  exact hK' _ _ hK
theorem wpList_put_dir (hg : o.guard = none) (m x v : Operand) (hop : o.op = Op.mapUpdate 76 m x v) (b : Nat) (fb : Nat → Nat) (d : Dir) (n : ByteArray) (i : Nat) (hm : a.eval m = .map (some b)) (hx : a.eval x = .string n) (hv : a.eval v = .pointer (some ⟨fb i, 0, none⟩))
    (h : HasDir w b fb d) (hn : n.size ≤ maxLen) (hroom : d.length < maxLen) (hK : ∀ w', HasDir w' b fb (dput d n i) → w.mapTurned w' b → wpList Try.prog ops Q rest (a.put o.dst undef) w') : wpList Try.prog ops Q (o :: rest) a w :=
  wpList_mapUpdate_in w hg m x v _ hop 9 87 keyed Try.underlying76 fileElem b d.length (dirD fb d) hm h hroom _ _ (keyL n) hx hv (key_mk hn) (.lit (.int .i64 (fb i))) [] (fileElem_mk _)
    (fun w' h1 h2 => by rw [dirD_put] at h1; exact hK w' (HasDir.of h1) h2)
theorem wpList_del_dir (hg : o.guard = none) (m x : Operand) (hop : o.op = Op.call { callee := Callee.builtin Builtin.delete, args := #[m, x], argTypes := #[76, 9] }) (b : Nat) (fb : Nat → Nat) (d : Dir) (n : ByteArray) (hm : a.eval m = .map (some b)) (hx : a.eval x = .string n)
    (h : HasDir w b fb d) (hn : n.size ≤ maxLen) (hK : ∀ w', HasDir w' b fb (ddel d n) → w.mapTurned w' b → wpList Try.prog ops Q rest (a.put o.dst (.tuple #[])) w') : wpList Try.prog ops Q (o :: rest) a w :=
  wpList_delete_own w hg m x _ _ hop 87 keyed Try.underlying76 fileElem b d.length (dirD fb d) hm h _ (keyL n) hx (key_mk hn)
    (fun w' h1 h2 => by rw [dirD_del] at h1; exact hK w' (HasDir.of h1) h2)
end
end Go.Proofs.Ytfkgpmidcbjlbaa.H
end
section
set_option linter.unusedVariables false
set_option linter.unusedSimpArgs false
/- The simulated disk: its state, and how it lies in the heap. -/
namespace Go.Proofs.Ytfkgpmidcbjlbaa.H
open Go.RowKit Go.Proofs.YtfkgpmidcbjlbaaW.PrintWords

/-- a file: its bytes, how many of them are durable -/
structure Fl where
  data : List Int
  dur : Nat
/-- a pending operation on the directory -/
inductive Opn where
  | create (n : ByteArray) (i : Nat)
  | rename (a b : ByteArray)
  | remove (a : ByteArray)
structure St where
  files : List Fl
  cur : Dir
  dur : Dir
  pend : List Opn
  lim : Bool
  left : Int
def opRow (fb : Nat → Nat) : Opn → List Value
  | .create n i => [.int .i64 0, .string ⟨#[]⟩, .string n, .pointer (some ⟨fb i, 0, none⟩)]
  | .rename a b => [.int .i64 1, .string a, .string b, .pointer none]
  | .remove a => [.int .i64 2, .string a, .string ⟨#[]⟩, .pointer none]
def applyS (c : Dir) : Opn → Dir
  | .create n i => dput c n i
  | .rename a b => match dget c a with
    | some i => dput (ddel c a) b i
    | none => c
  | .remove a => ddel c a

/-- the disk in block d; fb, fv: each file's block and its bytes' slice -/
structure Disk (w : World) (d : Nat) (σ : St) (S : Nat → Prop) (fb : Nat → Nat) (fv : Nat → Value) (mc md : Nat) (pv : Value) : Prop where
  blk : w.heap[d]? = some (.cells #[.map (some mc), .map (some md), pv, .bool σ.lim, .int .i64 σ.left] 79 (0, 0))
  cur : HasDir w mc fb σ.cur
  dur : HasDir w md fb σ.dur
  ne : mc ≠ md
  pend : (Kd.raw 4).R 89 w 0 (fun k => some k = pv.ownBlock) pv (σ.pend.map (opRow fb))
  file : ∀ i f, σ.files[i]? = some f → w.heap[fb i]? = some (.cells #[fv i, .int .i64 (f.dur : Nat)] 94 (0, 0))
  row : ∀ i f, σ.files[i]? = some f → (Kd.int .u8).R 5 w 0 (fun k => some k = (fv i).ownBlock) (fv i) f.data
  inj : ∀ i j, i < σ.files.length → j < σ.files.length → fb i = fb j → i = j
  apart : ∀ i j k, i < σ.files.length → j < σ.files.length → (fv i).ownBlock = some k → (fv j).ownBlock = some k → i = j
  sd : S d
  sc : S mc
  sr : S md
  sp : ∀ k, pv.ownBlock = some k → S k
  sf : ∀ i, i < σ.files.length → S (fb i)
  sv : ∀ i k, i < σ.files.length → (fv i).ownBlock = some k → S k
  lt : ∀ k, S k → k < w.heap.size
def DiskAt (w : World) (d : Nat) (σ : St) (S : Nat → Prop) : Prop := ∃ fb fv mc md pv, Disk w d σ S fb fv mc md pv

theorem row_move {α : Type} {k : Kd α} {e base : Nat} {w w1 : World} {v : Value} {xs : List α} (h : k.R e w base (fun k => some k = v.ownBlock) v xs) (hm : ∀ j, v.ownBlock = some j → w1.heap[j]? = w.heap[j]?) : k.R e w1 base (fun k => some k = v.ownBlock) v xs :=
  Kd.R_step h (fun j hj _ => hm j hj.symm)
theorem row_typed {α : Type} {k : Kd α} {e base : Nat} {w : World} {ok : Nat → Prop} {v : Value} {xs : List α} (h : k.R e w base ok v xs) {j : Nat} (hj : v.ownBlock = some j) : ∃ cells, w.heap[j]? = some (.cells cells e (0, 0)) := by
  obtain ⟨inner, ho⟩ := Kd.R_own h
  exact own_typed ho j hj
section
variable {w w' : World} {d : Nat} {σ : St} {S : Nat → Prop} {fb : Nat → Nat} {fv : Nat → Value} {mc md : Nat} {pv : Value}
theorem Disk.idx (_ : Disk w d σ S fb fv mc md pv) {i : Nat} (hi : i < σ.files.length) : ∃ f, σ.files[i]? = some f := ⟨_, List.getElem?_eq_getElem hi⟩
theorem Disk.ne_cur (h : Disk w d σ S fb fv mc md pv) {k : Nat} {cells : Array Value} {t : TypeId} {fr : Nat × Nat} (hk : w.heap[k]? = some (.cells cells t fr)) : k ≠ mc := by
  rintro rfl
  obtain ⟨es, c, hb, _⟩ := h.cur
  rw [hb] at hk; cases hk
theorem Disk.ne_dur (h : Disk w d σ S fb fv mc md pv) {k : Nat} {cells : Array Value} {t : TypeId} {fr : Nat × Nat} (hk : w.heap[k]? = some (.cells cells t fr)) : k ≠ md := by
  rintro rfl
  obtain ⟨es, c, hb, _⟩ := h.dur
  rw [hb] at hk; cases hk
theorem ne_type {k j : Nat} {a b : Array Value} {t u : TypeId} {p q : Nat × Nat} (h1 : w.heap[k]? = some (.cells a t p)) (h2 : w.heap[j]? = some (.cells b u q)) (hne : t ≠ u) : k ≠ j := by
  rintro rfl
  rw [h1] at h2
  injection h2 with h2
  injection h2 with _ h3
  exact hne h3
theorem Disk.pend_ty (h : Disk w d σ S fb fv mc md pv) {k : Nat} (hk : pv.ownBlock = some k) : ∃ c, w.heap[k]? = some (.cells c 89 (0, 0)) := row_typed h.pend hk
theorem Disk.row_ty (h : Disk w d σ S fb fv mc md pv) {i k : Nat} (hi : i < σ.files.length) (hk : (fv i).ownBlock = some k) : ∃ c, w.heap[k]? = some (.cells c 5 (0, 0)) := by
  obtain ⟨f, hf⟩ := h.idx hi
  exact row_typed (h.row i f hf) hk
/-- nothing of the disk has turned -/
theorem Disk.move (h : Disk w d σ S fb fv mc md pv) (hs : w.heap.size ≤ w'.heap.size) (hm : ∀ k, S k → w'.heap[k]? = w.heap[k]?) : Disk w' d σ S fb fv mc md pv where
  blk := (hm d h.sd).trans h.blk
  cur := h.cur.move (hm mc h.sc)
  dur := h.dur.move (hm md h.sr)
  ne := h.ne
  pend := row_move h.pend (fun j hj => hm j (h.sp j hj))
  file := fun i f hf => (hm _ (h.sf i (List.getElem?_eq_some_iff.1 hf).1)).trans (h.file i f hf)
  row := fun i f hf => row_move (h.row i f hf) (fun j hj => hm j (h.sv i j (List.getElem?_eq_some_iff.1 hf).1 hj))
  inj := h.inj
  apart := h.apart
  sd := h.sd
  sc := h.sc
  sr := h.sr
  sp := h.sp
  sf := h.sf
  sv := h.sv
  lt := fun k hk => Nat.lt_of_lt_of_le (h.lt k hk) hs
/-- the two numbers have been written -/
theorem Disk.scalar (h : Disk w d σ S fb fv mc md pv) (hs : w.heap.size ≤ w'.heap.size) (hm : ∀ k, S k → k ≠ d → w'.heap[k]? = w.heap[k]?) (lim : Bool) (left : Int)
    (hb : w'.heap[d]? = some (.cells #[.map (some mc), .map (some md), pv, .bool lim, .int .i64 left] 79 (0, 0))) : Disk w' d { σ with lim := lim, left := left } S fb fv mc md pv where
  blk := hb
  cur := h.cur.move (hm mc h.sc (h.ne_cur h.blk).symm)
  dur := h.dur.move (hm md h.sr (h.ne_dur h.blk).symm)
  ne := h.ne
  pend := row_move h.pend (fun j hj => hm j (h.sp j hj) (by obtain ⟨c, hc⟩ := h.pend_ty hj; exact ne_type hc h.blk (by decide)))
  file := fun i f hf => (hm _ (h.sf i (List.getElem?_eq_some_iff.1 hf).1) (ne_type (h.file i f hf) h.blk (by decide))).trans (h.file i f hf)
  row := fun i f hf => row_move (h.row i f hf) (fun j hj => hm j (h.sv i j (List.getElem?_eq_some_iff.1 hf).1 hj) (by obtain ⟨c, hc⟩ := h.row_ty (List.getElem?_eq_some_iff.1 hf).1 hj; exact ne_type hc h.blk (by decide)))
  inj := h.inj
  apart := h.apart
  sd := h.sd
  sc := h.sc
  sr := h.sr
  sp := h.sp
  sf := h.sf
  sv := h.sv
  lt := fun k hk => Nat.lt_of_lt_of_le (h.lt k hk) hs
/-- the directory has turned -/
theorem Disk.turnCur (h : Disk w d σ S fb fv mc md pv) (hs : w.heap.size ≤ w'.heap.size) (hm : ∀ k, S k → k ≠ mc → w'.heap[k]? = w.heap[k]?) (c : Dir) (hc : HasDir w' mc fb c) : Disk w' d { σ with cur := c } S fb fv mc md pv where
  blk := (hm d h.sd (h.ne_cur h.blk)).trans h.blk
  cur := hc
  dur := h.dur.move (hm md h.sr h.ne.symm)
  ne := h.ne
  pend := row_move h.pend (fun j hj => hm j (h.sp j hj) (by obtain ⟨c, hc⟩ := h.pend_ty hj; exact h.ne_cur hc))
  file := fun i f hf => (hm _ (h.sf i (List.getElem?_eq_some_iff.1 hf).1) (h.ne_cur (h.file i f hf))).trans (h.file i f hf)
  row := fun i f hf => row_move (h.row i f hf) (fun j hj => hm j (h.sv i j (List.getElem?_eq_some_iff.1 hf).1 hj) (by obtain ⟨c, hc⟩ := h.row_ty (List.getElem?_eq_some_iff.1 hf).1 hj; exact h.ne_cur hc))
  inj := h.inj
  apart := h.apart
  sd := h.sd
  sc := h.sc
  sr := h.sr
  sp := h.sp
  sf := h.sf
  sv := h.sv
  lt := fun k hk => Nat.lt_of_lt_of_le (h.lt k hk) hs
/-- the list of pending operations has turned -/
theorem Disk.turnPend (h : Disk w d σ S fb fv mc md pv) (hs : w.heap.size ≤ w'.heap.size) (pv' : Value) (hat : pv'.ownBlock = pv.ownBlock ∨ pv'.ownBlock = none ∨ ∃ b, pv'.ownBlock = some b ∧ w.heap.size ≤ b ∧ b < w'.heap.size) (hm : ∀ k, S k → k ≠ d → some k ≠ pv.ownBlock → w'.heap[k]? = w.heap[k]?)
    (hb : w'.heap[d]? = some (.cells #[.map (some mc), .map (some md), pv', .bool σ.lim, .int .i64 σ.left] 79 (0, 0))) (p : List Opn) (hr : (Kd.raw 4).R 89 w' 0 (fun k => some k = pv'.ownBlock) pv' (p.map (opRow fb))) :
    Disk w' d { σ with pend := p } (fun k => S k ∨ (w.heap.size ≤ k ∧ k < w'.heap.size)) fb fv mc md pv' := by
  have hmm : ∀ k, S k → k ≠ d → (∀ c, w.heap[k]? ≠ some (.cells c 89 (0, 0))) → w'.heap[k]? = w.heap[k]? := fun k hk hd hn => hm k hk hd (fun he => by
    obtain ⟨c, hc⟩ := h.pend_ty he.symm
    exact hn c hc)
  have hno : ∀ {k : Nat} {c : Array Value} {t : TypeId} {fr : Nat × Nat}, w.heap[k]? = some (Obj.cells c t fr) → t ≠ 89 → ∀ c' : Array Value, w.heap[k]? ≠ some (Obj.cells c' 89 (0, 0)) := fun h1 hne c' h2 => ne_type h1 h2 hne rfl
  exact {
    blk := hb
    cur := h.cur.move (hmm mc h.sc (h.ne_cur h.blk).symm (fun c hc => h.ne_cur hc rfl))
    dur := h.dur.move (hmm md h.sr (h.ne_dur h.blk).symm (fun c hc => h.ne_dur hc rfl))
    ne := h.ne
    pend := hr
    file := fun i f hf => (hmm _ (h.sf i (List.getElem?_eq_some_iff.1 hf).1) (ne_type (h.file i f hf) h.blk (by decide)) (hno (h.file i f hf) (by decide))).trans (h.file i f hf)
    row := fun i f hf => row_move (h.row i f hf) (fun j hj => by
      obtain ⟨c, hc⟩ := h.row_ty (List.getElem?_eq_some_iff.1 hf).1 hj
      exact hmm j (h.sv i j (List.getElem?_eq_some_iff.1 hf).1 hj) (ne_type hc h.blk (by decide)) (hno hc (by decide)))
    inj := h.inj
    apart := h.apart
    sd := .inl h.sd
    sc := .inl h.sc
    sr := .inl h.sr
    sp := fun k hk => by
      rcases hat with hat | hat | ⟨b, hat, hle, hlt⟩
      · exact .inl (h.sp k (hat ▸ hk))
      · rw [hat] at hk; cases hk
      · rw [hat] at hk; cases hk; exact .inr ⟨hle, hlt⟩
    sf := fun i hi => .inl (h.sf i hi)
    sv := fun i k hi hk => .inl (h.sv i k hi hk)
    lt := fun k hk => by
      rcases hk with hk | hk
      · exact Nat.lt_of_lt_of_le (h.lt k hk) hs
      · exact hk.2 }
/-- one file has turned -/
theorem Disk.turnFile (h : Disk w d σ S fb fv mc md pv) (hs : w.heap.size ≤ w'.heap.size) (i : Nat) (hi : i < σ.files.length) (v' : Value) (f' : Fl) (hat : v'.ownBlock = (fv i).ownBlock ∨ ∃ b, v'.ownBlock = some b ∧ w.heap.size ≤ b ∧ b < w'.heap.size) (hm : ∀ k, S k → k ≠ fb i → some k ≠ (fv i).ownBlock → w'.heap[k]? = w.heap[k]?)
    (hb : w'.heap[fb i]? = some (.cells #[v', .int .i64 (f'.dur : Nat)] 94 (0, 0))) (hr : (Kd.int .u8).R 5 w' 0 (fun k => some k = v'.ownBlock) v' f'.data) :
    Disk w' d { σ with files := σ.files.set i f' } (fun k => S k ∨ (w.heap.size ≤ k ∧ k < w'.heap.size)) fb (fun j => if j = i then v' else fv j) mc md pv := by
  obtain ⟨f, hf⟩ := h.idx hi
  have hfi := h.file i f hf
  have hmm : ∀ k, S k → k ≠ fb i → (∀ c, w.heap[k]? ≠ some (.cells c 5 (0, 0))) → w'.heap[k]? = w.heap[k]? := fun k hk hd hn => hm k hk hd (fun he => by
    obtain ⟨c, hc⟩ := h.row_ty hi he.symm
    exact hn c hc)
  have hno : ∀ {k : Nat} {c : Array Value} {t : TypeId} {fr : Nat × Nat}, w.heap[k]? = some (Obj.cells c t fr) → t ≠ 5 → ∀ c' : Array Value, w.heap[k]? ≠ some (Obj.cells c' 5 (0, 0)) := fun h1 hne c' h2 => ne_type h1 h2 hne rfl
  have hlen : (σ.files.set i f').length = σ.files.length := List.length_set
  exact {
    blk := (hmm d h.sd (ne_type h.blk hfi (by decide)) (hno h.blk (by decide))).trans h.blk
    cur := h.cur.move (hmm mc h.sc (h.ne_cur hfi).symm (fun c hc => h.ne_cur hc rfl))
    dur := h.dur.move (hmm md h.sr (h.ne_dur hfi).symm (fun c hc => h.ne_dur hc rfl))
    ne := h.ne
    pend := row_move h.pend (fun j hj => by
      obtain ⟨c, hc⟩ := h.pend_ty hj
      exact hmm j (h.sp j hj) (ne_type hc hfi (by decide)) (hno hc (by decide)))
    file := fun j g hg => by
      by_cases hj : j = i
      · subst hj
        rw [List.getElem?_set_self hi] at hg
        obtain rfl := Option.some.inj hg
        rw [if_pos rfl]; exact hb
      · rw [List.getElem?_set_ne (Ne.symm hj)] at hg
        rw [if_neg hj]
        have hjl := (List.getElem?_eq_some_iff.1 hg).1
        exact (hmm _ (h.sf j hjl) (fun e => hj (h.inj j i hjl hi e)) (hno (h.file j g hg) (by decide))).trans (h.file j g hg)
    row := fun j g hg => by
      by_cases hj : j = i
      · subst hj
        rw [List.getElem?_set_self hi] at hg
        obtain rfl := Option.some.inj hg
        simp only [if_true]; exact hr
      · rw [List.getElem?_set_ne (Ne.symm hj)] at hg
        simp only [if_neg hj]
        have hjl := (List.getElem?_eq_some_iff.1 hg).1
        refine row_move (h.row j g hg) (fun k hk => ?_)
        obtain ⟨c, hc⟩ := h.row_ty hjl hk
        exact hm k (h.sv j k hjl hk) (ne_type hc hfi (by decide)) (fun e => hj (h.apart j i k hjl hi hk e.symm))
    inj := fun a b ha hb => h.inj a b (hlen ▸ ha) (hlen ▸ hb)
    apart := fun a b k ha hb hka hkb => by
      have ha' : a < σ.files.length := hlen ▸ ha
      have hb' : b < σ.files.length := hlen ▸ hb
      have hold : ∀ j, j < σ.files.length → (fv j).ownBlock = some k → v'.ownBlock = some k → j = i := fun j hj h1 h2 => by
        rcases hat with hat | ⟨x, hat, hle, _⟩
        · exact h.apart j i k hj hi h1 (hat ▸ h2)
        · rw [hat] at h2; cases h2
          have := h.lt k (h.sv j k hj h1)
          omega
      by_cases ea : a = i
      · by_cases eb : b = i
        · rw [ea, eb]
        · rw [if_pos ea] at hka; rw [if_neg eb] at hkb
          exact absurd (hold b hb' hkb hka) eb
      · rw [if_neg ea] at hka
        by_cases eb : b = i
        · rw [if_pos eb] at hkb
          exact absurd (hold a ha' hka hkb) ea
        · rw [if_neg eb] at hkb
          exact h.apart a b k ha' hb' hka hkb
    sd := .inl h.sd
    sc := .inl h.sc
    sr := .inl h.sr
    sp := fun k hk => .inl (h.sp k hk)
    sf := fun j hj => .inl (h.sf j (hlen ▸ hj))
    sv := fun j k hj hk => by
      have hj' : j < σ.files.length := hlen ▸ hj
      by_cases e : j = i
      · rw [if_pos e] at hk
        rcases hat with hat | ⟨x, hat, hle, hlt⟩
        · exact .inl (h.sv i k hi (hat ▸ hk))
        · rw [hat] at hk; cases hk; exact .inr ⟨hle, hlt⟩
      · rw [if_neg e] at hk
        exact .inl (h.sv j k hj' hk)
    lt := fun k hk => by
      rcases hk with hk | hk
      · exact Nat.lt_of_lt_of_le (h.lt k hk) hs
      · exact hk.2 }
/-- all names lead to files -/
structure St.Ok (σ : St) : Prop where
  cur : ∀ p ∈ σ.cur, p.2 < σ.files.length
  dur : ∀ p ∈ σ.dur, p.2 < σ.files.length
  pend : ∀ n i, Opn.create n i ∈ σ.pend → i < σ.files.length
/-- a new file -/
theorem Disk.newFile (h : Disk w d σ S fb fv mc md pv) (ok : σ.Ok) (hs : w.heap.size ≤ w'.heap.size) (hm : ∀ k, S k → w'.heap[k]? = w.heap[k]?) (b : Nat) (hle : w.heap.size ≤ b) (hlt : b < w'.heap.size)
    (hb : w'.heap[b]? = some (.cells #[.slice none 0 0, .int .i64 0] 94 (0, 0))) :
    Disk w' d { σ with files := σ.files ++ [⟨[], 0⟩] } (fun k => S k ∨ (w.heap.size ≤ k ∧ k < w'.heap.size)) (fun j => if j = σ.files.length then b else fb j) (fun j => if j = σ.files.length then .slice none 0 0 else fv j) mc md pv := by
  have h' := h.move hs hm
  have hidx : ∀ j g, (σ.files ++ [(⟨[], 0⟩ : Fl)])[j]? = some g → (j = σ.files.length ∧ g = ⟨[], 0⟩) ∨ (j ≠ σ.files.length ∧ σ.files[j]? = some g) := fun j g hg => by
    by_cases e : j = σ.files.length
    · subst e
      rw [List.getElem?_append_right (Nat.le_refl _), Nat.sub_self] at hg
      exact .inl ⟨rfl, (Option.some.inj hg).symm⟩
    · have hl := (List.getElem?_eq_some_iff.1 hg).1
      rw [List.length_append] at hl
      simp only [List.length_cons, List.length_nil] at hl
      rw [List.getElem?_append_left (by omega)] at hg
      exact .inr ⟨e, hg⟩
  have hll : (σ.files ++ [(⟨[], 0⟩ : Fl)]).length = σ.files.length + 1 := by simp
  exact {
    blk := h'.blk
    cur := h'.cur.congr (fun p hp => by have := ok.cur p hp; rw [if_neg (by omega)])
    dur := h'.dur.congr (fun p hp => by have := ok.dur p hp; rw [if_neg (by omega)])
    ne := h.ne
    pend := by
      have : σ.pend.map (opRow fun j => if j = σ.files.length then b else fb j) = σ.pend.map (opRow fb) := by
        refine List.map_congr_left fun o ho => ?_
        cases o with
        | create n i => have := ok.pend n i ho; simp only [opRow]; rw [if_neg (by omega)]
        | rename _ _ => rfl
        | remove _ => rfl
      show (Kd.raw 4).R _ _ _ _ _ (σ.pend.map _)
      rw [this]; exact h'.pend
    file := fun j g hg => by
      rcases hidx j g hg with ⟨rfl, rfl⟩ | ⟨e, hg⟩
      · simp only [if_true]; exact hb
      · simp only [if_neg e]; exact h'.file j g hg
    row := fun j g hg => by
      rcases hidx j g hg with ⟨rfl, rfl⟩ | ⟨e, hg⟩
      · simp only [if_true]; exact Kd.R_nil _ _ _ _ _
      · simp only [if_neg e]; exact h'.row j g hg
    inj := fun x y hx hy he => by
      simp only [hll] at hx hy
      by_cases ex : x = σ.files.length
      · by_cases ey : y = σ.files.length
        · rw [ex, ey]
        · rw [if_pos ex, if_neg ey] at he
          have := h.lt _ (h.sf y (by omega)); omega
      · by_cases ey : y = σ.files.length
        · rw [if_neg ex, if_pos ey] at he
          have := h.lt _ (h.sf x (by omega)); omega
        · rw [if_neg ex, if_neg ey] at he
          exact h.inj x y (by omega) (by omega) he
    apart := fun x y k hx hy hkx hky => by
      simp only [hll] at hx hy
      by_cases ex : x = σ.files.length
      · rw [if_pos ex] at hkx; simp [Value.ownBlock] at hkx
      · by_cases ey : y = σ.files.length
        · rw [if_pos ey] at hky; simp [Value.ownBlock] at hky
        · rw [if_neg ex] at hkx; rw [if_neg ey] at hky
          exact h.apart x y k (by omega) (by omega) hkx hky
    sd := .inl h.sd
    sc := .inl h.sc
    sr := .inl h.sr
    sp := fun k hk => .inl (h.sp k hk)
    sf := fun j hj => by
      simp only [hll] at hj
      by_cases e : j = σ.files.length
      · rw [if_pos e]; exact .inr ⟨hle, hlt⟩
      · rw [if_neg e]; exact .inl (h.sf j (by omega))
    sv := fun j k hj hk => by
      simp only [hll] at hj
      by_cases e : j = σ.files.length
      · rw [if_pos e] at hk; simp [Value.ownBlock] at hk
      · rw [if_neg e] at hk; exact .inl (h.sv j k (by omega) hk)
    lt := fun k hk => by
      rcases hk with hk | hk
      · exact Nat.lt_of_lt_of_le (h.lt k hk) hs
      · exact hk.2 }
end

/-- what a step does to the world, and what the disk is behind it -/
def Moved (w w' : World) (d : Nat) (σ' : St) (S : Nat → Prop) : Prop := Below 0 w w' ∧ Kept w w' S ∧ ∃ S' : Nat → Prop, (∀ k, S' k → S k ∨ w.heap.size ≤ k) ∧ DiskAt w' d σ' S'
theorem DiskAt.move {w w' : World} {d : Nat} {σ : St} {S : Nat → Prop} (h : DiskAt w d σ S) (hs : w.heap.size ≤ w'.heap.size) (hm : ∀ k, S k → w'.heap[k]? = w.heap[k]?) : DiskAt w' d σ S := by
  obtain ⟨fb, fv, mc, md, pv, h⟩ := h
  exact ⟨fb, fv, mc, md, pv, h.move hs hm⟩
theorem DiskAt.lt {w : World} {d : Nat} {σ : St} {S : Nat → Prop} (h : DiskAt w d σ S) : ∀ k, S k → k < w.heap.size := by
  obtain ⟨fb, fv, mc, md, pv, h⟩ := h
  exact h.lt
theorem DiskAt.below {w w' : World} {d : Nat} {σ : St} {S : Nat → Prop} (h : DiskAt w d σ S) (hb : Below w.heap.size w w') : DiskAt w' d σ S :=
  h.move hb.size (fun k hk => hb.block k (h.lt k hk))
theorem Moved.stay {w w' : World} {d : Nat} {σ : St} {S : Nat → Prop} (h : DiskAt w d σ S) (hb : Below w.heap.size w w') : Moved w w' d σ S :=
  ⟨hb.mono (Nat.zero_le _), Kept.of_below hb S, S, fun _ hk => .inl hk, h.below hb⟩
theorem Moved.then_ {w w1 w2 : World} {d : Nat} {σ1 σ2 : St} {S : Nat → Prop} (h : Moved w w1 d σ1 S) (k : ∀ S1, DiskAt w1 d σ1 S1 → Moved w1 w2 d σ2 S1) : Moved w w2 d σ2 S := by
  obtain ⟨hb, hk, S1, h1, hd⟩ := h
  obtain ⟨hb2, hk2, S2, h2, hd2⟩ := k S1 hd
  refine ⟨hb.trans hb2, hk.then_ hk2 h1, S2, fun j hj => ?_, hd2⟩
  rcases h2 j hj with h3 | h3
  · exact h1 j h3
  · exact .inr (Nat.le_trans hb.size h3)
theorem Moved.below {w w1 w2 : World} {d : Nat} {σ : St} {S : Nat → Prop} (h : Moved w w1 d σ S) (hb : Below w1.heap.size w1 w2) : Moved w w2 d σ S :=
  h.then_ (fun _ hd => Moved.stay hd hb)
end Go.Proofs.Ytfkgpmidcbjlbaa.H
end
section
set_option linter.unusedVariables false
set_option linter.unusedSimpArgs false
-- Written by a program of this session (a printer of walks).
namespace Go.Proofs.Ytfkgpmidcbjlbaa.P
open Go.RowKit Go.Proofs.YtfkgpmidcbjlbaaW.PrintWords Go.Proofs.YtfkgpmidcbjlbaaW.PrintLast Go.Proofs.YtfkgpmidcbjlbaaW.PrintMore
attribute [local go_sem] max2_int min2_int max_two min_two max_three min_three max_four min_four   -- for this text's walks alone
set_option linter.unusedVariables false
set_option linter.unusedSimpArgs false

/-! ### simdisk_isName: function 66 -/
mutual
def simdisk_isName.j0 : Nat → ByteArray → Bool → Option (Bool)
  | 0, _, _ => none
  | k + 1, x0, x11 => if x11 = true then (some false) else (simdisk_isName.l0 k x0 (x0.size : Int) 0)
def simdisk_isName.l0 : Nat → ByteArray → Int → Int → Option (Bool)
  | 0, _, _, _ => none
  | k + 1, x0, x13, x14 => if x14 < x13 then (if 0 ≤ x14 then (if x14 < (x0.size : Int) then (if (bt x0 x14) < 97 then (if (bt x0 x14) < 48 then (if (bt x0 x14) = 45 then (simdisk_isName.l0 k x0 x13 (wrap64 (x14 + 1))) else (if (bt x0 x14) = 95 then (simdisk_isName.l0 k x0 x13 (wrap64 (x14 + 1))) else (some false))) else (if (bt x0 x14) > 57 then (if (bt x0 x14) = 45 then (simdisk_isName.l0 k x0 x13 (wrap64 (x14 + 1))) else (if (bt x0 x14) = 95 then (simdisk_isName.l0 k x0 x13 (wrap64 (x14 + 1))) else (some false))) else (simdisk_isName.l0 k x0 x13 (wrap64 (x14 + 1))))) else (if (bt x0 x14) > 122 then (if (bt x0 x14) < 48 then (if (bt x0 x14) = 45 then (simdisk_isName.l0 k x0 x13 (wrap64 (x14 + 1))) else (if (bt x0 x14) = 95 then (simdisk_isName.l0 k x0 x13 (wrap64 (x14 + 1))) else (some false))) else (if (bt x0 x14) > 57 then (if (bt x0 x14) = 45 then (simdisk_isName.l0 k x0 x13 (wrap64 (x14 + 1))) else (if (bt x0 x14) = 95 then (simdisk_isName.l0 k x0 x13 (wrap64 (x14 + 1))) else (some false))) else (simdisk_isName.l0 k x0 x13 (wrap64 (x14 + 1))))) else (simdisk_isName.l0 k x0 x13 (wrap64 (x14 + 1))))) else (none)) else (none)) else (some true)
end
def simdisk_isName.f (k : Nat) (a0 : ByteArray) : Option (Bool) := if a0.toList = ([] : List UInt8) then (simdisk_isName.j0 k a0 true) else (simdisk_isName.j0 k a0 (decide ((a0.size : Int) > 64)))
theorem simdisk_isName.mono_l : ∀ k, (∀ y0 y1, LeO (simdisk_isName.j0 k y0 y1) (simdisk_isName.j0 (k + 1) y0 y1)) ∧ (∀ y0 y1 y2, LeO (simdisk_isName.l0 k y0 y1 y2) (simdisk_isName.l0 (k + 1) y0 y1 y2))
  | 0 => ⟨fun _ _ r h => by simp [simdisk_isName.j0] at h, fun _ _ _ r h => by simp [simdisk_isName.l0] at h⟩
  | k + 1 => by
    obtain ⟨ih0, ih1⟩ := simdisk_isName.mono_l k
    refine ⟨?_, ?_⟩
    · intro y0 y1
      unfold simdisk_isName.j0
      repeat' first
      | (with_reducible exact ih0 _ _)
      | (with_reducible exact ih1 _ _ _)
      | (with_reducible exact LeO.refl _)
      | (with_reducible exact LeO.none _)
      | (with_reducible refine LeO.ite ?_ ?_)
      | (with_reducible refine LeO.bind ?_ (fun _ => ?_))
      | exact ih0 _ _
      | exact ih1 _ _ _
      | exact LeO.none _
      | refine LeO.ite ?_ ?_
      | refine LeO.bind ?_ (fun _ => ?_)
    · intro y0 y1 y2
      unfold simdisk_isName.l0
      repeat' first
      | (with_reducible exact ih0 _ _)
      | (with_reducible exact ih1 _ _ _)
      | (with_reducible exact LeO.refl _)
      | (with_reducible exact LeO.none _)
      | (with_reducible refine LeO.ite ?_ ?_)
      | (with_reducible refine LeO.bind ?_ (fun _ => ?_))
      | exact ih0 _ _
      | exact ih1 _ _ _
      | exact LeO.none _
      | refine LeO.ite ?_ ?_
      | refine LeO.bind ?_ (fun _ => ?_)
theorem simdisk_isName.mono : ∀ a0 k, LeO (simdisk_isName.f k a0) (simdisk_isName.f (k + 1) a0) := by
  intro a0 k
  obtain ⟨ih0, ih1⟩ := simdisk_isName.mono_l k
  unfold simdisk_isName.f
  repeat' first
      | (with_reducible exact ih0 _ _)
      | (with_reducible exact ih1 _ _ _)
      | (with_reducible exact LeO.refl _)
      | (with_reducible exact LeO.none _)
      | (with_reducible refine LeO.ite ?_ ?_)
      | (with_reducible refine LeO.bind ?_ (fun _ => ?_))
      | exact ih0 _ _
      | exact ih1 _ _ _
      | exact LeO.none _
      | refine LeO.ite ?_ ?_
      | refine LeO.bind ?_ (fun _ => ?_)
set_option maxHeartbeats 8000000 in
set_option maxRecDepth 100000 in
theorem simdisk_isName.calls (k : Nat) (a0 : ByteArray) (r : Bool) (w : World) (h : simdisk_isName.f k a0 = some r) :
    Calls Try.prog 66 #[.string a0] w fun e w' => e = .returned (.bool r) ∧ Drawn0 w w' := by
  have H : (if a0.toList = ([] : List UInt8) then (simdisk_isName.j0 k a0 true) else (simdisk_isName.j0 k a0 (decide ((a0.size : Int) > 64)))) = some r := h
  clear h
  have HC2 := Aside0.mk H
  clear H
  go_enter Try.func66, Try.ntmps66
  go_upto_region 1 with (fail)
  go_cut [11] (fun v11 wc => ∃ (kq : Nat) (x11_1 : Bool), v11 = .bool x11_1 ∧ Aside0 (simdisk_isName.j0 kq a0 x11_1 = some r) ∧ Aside0 (kq ≤ k) ∧ Drawn0 w wc)
  case first =>
    have H := HC2.out
    clear HC2
    by_cases c3 : a0.toList = ([] : List UInt8)
    · rw [if_pos c3] at H
      have c3b0 : (a0.toList == ([] : List UInt8)) = true := beq_iff_eq.mpr c3
      have c3b1 : (a0.toList != ([] : List UInt8)) = false := bne_eq_false_iff_eq.mpr c3
      clear c3
      (first | rw [c3b0] | (simp only [i64_w, i32_w]; rw [c3b0]) | skip)
      have H' := Aside0.mk H
      clear H
      go_wp2
      go_meet
      case rel => exact ⟨_, (true), (by first | rfl | (simp; done) | (simp [*]; done)), H', ⟨by first | omega | exact Nat.le_refl _⟩, by repeat (first | exact Drawn0.refl _ | apply Drawn0.step)⟩
    · rw [if_neg c3] at H
      have c3b0 : (a0.toList == ([] : List UInt8)) = false := beq_eq_false_iff_ne.mpr c3
      have c3b1 : (a0.toList != ([] : List UInt8)) = true := bne_iff_ne.mpr c3
      (first | rw [c3b0] | (simp only [i64_w, i32_w]; rw [c3b0]) | skip)
      have H' := Aside0.mk H
      clear H
      go_wp2
      go_meet
      case rel => exact ⟨_, (decide ((a0.size : Int) > 64)), (by first | rfl | (simp; done) | (simp [*]; done)), H', ⟨by first | omega | exact Nat.le_refl _⟩, by repeat (first | exact Drawn0.refl _ | apply Drawn0.step)⟩
  case rest =>
    clear HC2
    try clear p2
    try clear c3
    try clear c3b0
    try clear c3b1
    obtain ⟨kq, x11_1, rfl, HA, HJ1, ⟨mc1, rfl⟩⟩ := hcut
    cases kq with
    | zero => exact absurd HA.out (by simp [simdisk_isName.j0])
    | succ kj1 =>
      have H := HA.out
      clear HA
      simp only [simdisk_isName.j0] at H
      by_cases c4 : x11_1 = true
      · subst c4
        have H1 : (some false) = some r := by rw [if_pos rfl] at H; exact H
        clear H
        have H := H1
        clear H1
        obtain rfl := Option.some.inj H
        go_wp2
        go_ret
        exact ⟨by first | rfl | (simp; done) | (simp [*]; done), by repeat (first | exact Drawn0.refl _ | apply Drawn0.step)⟩
      · replace c4 := Bool.eq_false_iff.mpr c4
        subst c4
        have H1 : (simdisk_isName.l0 kj1 a0 (a0.size : Int) 0) = some r := by rw [if_neg (show ¬ (false = true) by decide)] at H; exact H
        clear H
        have H := H1
        clear H1
        have H' := Aside0.mk H
        clear H
        go_wp2
        go_loopg [14] kj1 (fun kq v14 w' => ∃ (x14_2 : Int), v14 = .int .i64 x14_2 ∧ Aside0 (simdisk_isName.l0 kq a0 (a0.size : Int) x14_2 = some r) ∧ Aside0 (kq ≤ kj1) ∧ Drawn0 w w')
        case atStart => exact ⟨(0), (by first | rfl | (simp; done) | (simp [*]; done)), H', ⟨Nat.le_refl _⟩, by repeat (first | exact Drawn0.refl _ | apply Drawn0.step)⟩
        case round =>
          clear H'
          try clear c1
          try clear p2
          try clear c3
          try clear c3b0
          try clear c3b1
          try clear c4
          try clear p2
          obtain ⟨x14_2, rfl, HA, HK2, ⟨m2, rfl⟩⟩ := hrel
          cases gk with
          | zero => exact absurd HA.out (by simp [simdisk_isName.l0])
          | succ k2 =>
            have H := HA.out
            clear HA
            simp only [simdisk_isName.l0] at H
            by_cases c5 : x14_2 < (a0.size : Int)
            · rw [if_pos c5] at H
              have c5b0 : decide (x14_2 < (a0.size : Int)) = true := decide_eq_true c5
              clear c5
              by_cases c6 : 0 ≤ x14_2
              · rw [if_pos c6] at H
                have c6b0 : decide (0 ≤ x14_2) = true := decide_eq_true c6
                clear c6
                by_cases c7 : x14_2 < (a0.size : Int)
                · rw [if_pos c7] at H
                  have c7b0 : decide (x14_2 < (a0.size : Int)) = true := decide_eq_true c7
                  clear c7
                  by_cases c9 : (bt a0 x14_2) < 97
                  · rw [if_pos c9] at H
                    have c9b0 : decide ((bt a0 x14_2) < 97) = true := decide_eq_true c9
                    clear c9
                    by_cases c10 : (bt a0 x14_2) < 48
                    · rw [if_pos c10] at H
                      have c10b0 : decide ((bt a0 x14_2) < 48) = true := decide_eq_true c10
                      clear c10
                      by_cases c11 : (bt a0 x14_2) = 45
                      · rw [if_pos c11] at H
                        have c11b0 : ((bt a0 x14_2) == 45) = true := beq_iff_eq.mpr c11
                        have c11b1 : ((bt a0 x14_2) != 45) = false := bne_eq_false_iff_eq.mpr c11
                        clear c11
                        have H' := Aside0.mk H
                        clear H
                        have p8 : 0 ≤ (x14_2 : Int) := of_decide_eq_true (by first | (with_reducible assumption) | assumption)
                        have q8 : x14_2 < (a0.size : Int) := of_decide_eq_true (by first | (with_reducible assumption) | assumption)
                        have hx8 := bt_at a0 x14_2
                        replace p8 := eq_true p8
                        replace q8 := eq_true q8
                        go_wp2
                        go_roundg k2
                        case measure => have := HJ1.out; have := HK2.out; omega
                        case rel => exact ⟨(wrap64 (x14_2 + 1)), (by first | rfl | (simp; done) | (simp [*]; done)), H', ⟨by have := HJ1.out; have := HK2.out; omega⟩, by repeat (first | exact Drawn0.refl _ | apply Drawn0.step)⟩
                      · rw [if_neg c11] at H
                        have c11b0 : ((bt a0 x14_2) == 45) = false := beq_eq_false_iff_ne.mpr c11
                        have c11b1 : ((bt a0 x14_2) != 45) = true := bne_iff_ne.mpr c11
                        by_cases c12 : (bt a0 x14_2) = 95
                        · rw [if_pos c12] at H
                          have c12b0 : ((bt a0 x14_2) == 95) = true := beq_iff_eq.mpr c12
                          have c12b1 : ((bt a0 x14_2) != 95) = false := bne_eq_false_iff_eq.mpr c12
                          clear c12
                          have H' := Aside0.mk H
                          clear H
                          have p8 : 0 ≤ (x14_2 : Int) := of_decide_eq_true (by first | (with_reducible assumption) | assumption)
                          have q8 : x14_2 < (a0.size : Int) := of_decide_eq_true (by first | (with_reducible assumption) | assumption)
                          have hx8 := bt_at a0 x14_2
                          replace p8 := eq_true p8
                          replace q8 := eq_true q8
                          go_wp2
                          go_roundg k2
                          case measure => have := HJ1.out; have := HK2.out; omega
                          case rel => exact ⟨(wrap64 (x14_2 + 1)), (by first | rfl | (simp; done) | (simp [*]; done)), H', ⟨by have := HJ1.out; have := HK2.out; omega⟩, by repeat (first | exact Drawn0.refl _ | apply Drawn0.step)⟩
                        · rw [if_neg c12] at H
                          have c12b0 : ((bt a0 x14_2) == 95) = false := beq_eq_false_iff_ne.mpr c12
                          have c12b1 : ((bt a0 x14_2) != 95) = true := bne_iff_ne.mpr c12
                          obtain rfl := Option.some.inj H
                          have p8 : 0 ≤ (x14_2 : Int) := of_decide_eq_true (by first | (with_reducible assumption) | assumption)
                          have q8 : x14_2 < (a0.size : Int) := of_decide_eq_true (by first | (with_reducible assumption) | assumption)
                          have hx8 := bt_at a0 x14_2
                          replace p8 := eq_true p8
                          replace q8 := eq_true q8
                          go_wp2
                          go_ret
                          exact ⟨by first | rfl | (simp; done) | (simp [*]; done), by repeat (first | exact Drawn0.refl _ | apply Drawn0.step)⟩
                    · rw [if_neg c10] at H
                      have c10b0 : decide ((bt a0 x14_2) < 48) = false := decide_eq_false c10
                      clear c10
                      by_cases c13 : (bt a0 x14_2) > 57
                      · rw [if_pos c13] at H
                        have c13b0 : decide (57 < (bt a0 x14_2)) = true := decide_eq_true c13
                        clear c13
                        by_cases c14 : (bt a0 x14_2) = 45
                        · rw [if_pos c14] at H
                          have c14b0 : ((bt a0 x14_2) == 45) = true := beq_iff_eq.mpr c14
                          have c14b1 : ((bt a0 x14_2) != 45) = false := bne_eq_false_iff_eq.mpr c14
                          clear c14
                          have H' := Aside0.mk H
                          clear H
                          have p8 : 0 ≤ (x14_2 : Int) := of_decide_eq_true (by first | (with_reducible assumption) | assumption)
                          have q8 : x14_2 < (a0.size : Int) := of_decide_eq_true (by first | (with_reducible assumption) | assumption)
                          have hx8 := bt_at a0 x14_2
                          replace p8 := eq_true p8
                          replace q8 := eq_true q8
                          go_wp2
                          go_roundg k2
                          case measure => have := HJ1.out; have := HK2.out; omega
                          case rel => exact ⟨(wrap64 (x14_2 + 1)), (by first | rfl | (simp; done) | (simp [*]; done)), H', ⟨by have := HJ1.out; have := HK2.out; omega⟩, by repeat (first | exact Drawn0.refl _ | apply Drawn0.step)⟩
                        · rw [if_neg c14] at H
                          have c14b0 : ((bt a0 x14_2) == 45) = false := beq_eq_false_iff_ne.mpr c14
                          have c14b1 : ((bt a0 x14_2) != 45) = true := bne_iff_ne.mpr c14
                          by_cases c15 : (bt a0 x14_2) = 95
                          · rw [if_pos c15] at H
                            have c15b0 : ((bt a0 x14_2) == 95) = true := beq_iff_eq.mpr c15
                            have c15b1 : ((bt a0 x14_2) != 95) = false := bne_eq_false_iff_eq.mpr c15
                            clear c15
                            have H' := Aside0.mk H
                            clear H
                            have p8 : 0 ≤ (x14_2 : Int) := of_decide_eq_true (by first | (with_reducible assumption) | assumption)
                            have q8 : x14_2 < (a0.size : Int) := of_decide_eq_true (by first | (with_reducible assumption) | assumption)
                            have hx8 := bt_at a0 x14_2
                            replace p8 := eq_true p8
                            replace q8 := eq_true q8
                            go_wp2
                            go_roundg k2
                            case measure => have := HJ1.out; have := HK2.out; omega
                            case rel => exact ⟨(wrap64 (x14_2 + 1)), (by first | rfl | (simp; done) | (simp [*]; done)), H', ⟨by have := HJ1.out; have := HK2.out; omega⟩, by repeat (first | exact Drawn0.refl _ | apply Drawn0.step)⟩
                          · rw [if_neg c15] at H
                            have c15b0 : ((bt a0 x14_2) == 95) = false := beq_eq_false_iff_ne.mpr c15
                            have c15b1 : ((bt a0 x14_2) != 95) = true := bne_iff_ne.mpr c15
                            obtain rfl := Option.some.inj H
                            have p8 : 0 ≤ (x14_2 : Int) := of_decide_eq_true (by first | (with_reducible assumption) | assumption)
                            have q8 : x14_2 < (a0.size : Int) := of_decide_eq_true (by first | (with_reducible assumption) | assumption)
                            have hx8 := bt_at a0 x14_2
                            replace p8 := eq_true p8
                            replace q8 := eq_true q8
                            go_wp2
                            go_ret
                            exact ⟨by first | rfl | (simp; done) | (simp [*]; done), by repeat (first | exact Drawn0.refl _ | apply Drawn0.step)⟩
                      · rw [if_neg c13] at H
                        have c13b0 : decide (57 < (bt a0 x14_2)) = false := decide_eq_false c13
                        clear c13
                        have H' := Aside0.mk H
                        clear H
                        have p8 : 0 ≤ (x14_2 : Int) := of_decide_eq_true (by first | (with_reducible assumption) | assumption)
                        have q8 : x14_2 < (a0.size : Int) := of_decide_eq_true (by first | (with_reducible assumption) | assumption)
                        have hx8 := bt_at a0 x14_2
                        replace p8 := eq_true p8
                        replace q8 := eq_true q8
                        go_wp2
                        go_roundg k2
                        case measure => have := HJ1.out; have := HK2.out; omega
                        case rel => exact ⟨(wrap64 (x14_2 + 1)), (by first | rfl | (simp; done) | (simp [*]; done)), H', ⟨by have := HJ1.out; have := HK2.out; omega⟩, by repeat (first | exact Drawn0.refl _ | apply Drawn0.step)⟩
                  · rw [if_neg c9] at H
                    have c9b0 : decide ((bt a0 x14_2) < 97) = false := decide_eq_false c9
                    clear c9
                    by_cases c16 : (bt a0 x14_2) > 122
                    · rw [if_pos c16] at H
                      have c16b0 : decide (122 < (bt a0 x14_2)) = true := decide_eq_true c16
                      clear c16
                      by_cases c17 : (bt a0 x14_2) < 48
                      · rw [if_pos c17] at H
                        have c17b0 : decide ((bt a0 x14_2) < 48) = true := decide_eq_true c17
                        clear c17
                        by_cases c18 : (bt a0 x14_2) = 45
                        · rw [if_pos c18] at H
                          have c18b0 : ((bt a0 x14_2) == 45) = true := beq_iff_eq.mpr c18
                          have c18b1 : ((bt a0 x14_2) != 45) = false := bne_eq_false_iff_eq.mpr c18
                          clear c18
                          have H' := Aside0.mk H
                          clear H
                          have p8 : 0 ≤ (x14_2 : Int) := of_decide_eq_true (by first | (with_reducible assumption) | assumption)
                          have q8 : x14_2 < (a0.size : Int) := of_decide_eq_true (by first | (with_reducible assumption) | assumption)
                          have hx8 := bt_at a0 x14_2
                          replace p8 := eq_true p8
                          replace q8 := eq_true q8
                          go_wp2
                          go_roundg k2
                          case measure => have := HJ1.out; have := HK2.out; omega
                          case rel => exact ⟨(wrap64 (x14_2 + 1)), (by first | rfl | (simp; done) | (simp [*]; done)), H', ⟨by have := HJ1.out; have := HK2.out; omega⟩, by repeat (first | exact Drawn0.refl _ | apply Drawn0.step)⟩
                        · rw [if_neg c18] at H
                          have c18b0 : ((bt a0 x14_2) == 45) = false := beq_eq_false_iff_ne.mpr c18
                          have c18b1 : ((bt a0 x14_2) != 45) = true := bne_iff_ne.mpr c18
                          by_cases c19 : (bt a0 x14_2) = 95
                          · rw [if_pos c19] at H
                            have c19b0 : ((bt a0 x14_2) == 95) = true := beq_iff_eq.mpr c19
                            have c19b1 : ((bt a0 x14_2) != 95) = false := bne_eq_false_iff_eq.mpr c19
                            clear c19
                            have H' := Aside0.mk H
                            clear H
                            have p8 : 0 ≤ (x14_2 : Int) := of_decide_eq_true (by first | (with_reducible assumption) | assumption)
                            have q8 : x14_2 < (a0.size : Int) := of_decide_eq_true (by first | (with_reducible assumption) | assumption)
                            have hx8 := bt_at a0 x14_2
                            replace p8 := eq_true p8
                            replace q8 := eq_true q8
                            go_wp2
                            go_roundg k2
                            case measure => have := HJ1.out; have := HK2.out; omega
                            case rel => exact ⟨(wrap64 (x14_2 + 1)), (by first | rfl | (simp; done) | (simp [*]; done)), H', ⟨by have := HJ1.out; have := HK2.out; omega⟩, by repeat (first | exact Drawn0.refl _ | apply Drawn0.step)⟩
                          · rw [if_neg c19] at H
                            have c19b0 : ((bt a0 x14_2) == 95) = false := beq_eq_false_iff_ne.mpr c19
                            have c19b1 : ((bt a0 x14_2) != 95) = true := bne_iff_ne.mpr c19
                            obtain rfl := Option.some.inj H
                            have p8 : 0 ≤ (x14_2 : Int) := of_decide_eq_true (by first | (with_reducible assumption) | assumption)
                            have q8 : x14_2 < (a0.size : Int) := of_decide_eq_true (by first | (with_reducible assumption) | assumption)
                            have hx8 := bt_at a0 x14_2
                            replace p8 := eq_true p8
                            replace q8 := eq_true q8
                            go_wp2
                            go_ret
                            exact ⟨by first | rfl | (simp; done) | (simp [*]; done), by repeat (first | exact Drawn0.refl _ | apply Drawn0.step)⟩
                      · rw [if_neg c17] at H
                        have c17b0 : decide ((bt a0 x14_2) < 48) = false := decide_eq_false c17
                        clear c17
                        by_cases c20 : (bt a0 x14_2) > 57
                        · rw [if_pos c20] at H
                          have c20b0 : decide (57 < (bt a0 x14_2)) = true := decide_eq_true c20
                          clear c20
                          by_cases c21 : (bt a0 x14_2) = 45
                          · rw [if_pos c21] at H
                            have c21b0 : ((bt a0 x14_2) == 45) = true := beq_iff_eq.mpr c21
                            have c21b1 : ((bt a0 x14_2) != 45) = false := bne_eq_false_iff_eq.mpr c21
                            clear c21
                            have H' := Aside0.mk H
                            clear H
                            have p8 : 0 ≤ (x14_2 : Int) := of_decide_eq_true (by first | (with_reducible assumption) | assumption)
                            have q8 : x14_2 < (a0.size : Int) := of_decide_eq_true (by first | (with_reducible assumption) | assumption)
                            have hx8 := bt_at a0 x14_2
                            replace p8 := eq_true p8
                            replace q8 := eq_true q8
                            go_wp2
                            go_roundg k2
                            case measure => have := HJ1.out; have := HK2.out; omega
                            case rel => exact ⟨(wrap64 (x14_2 + 1)), (by first | rfl | (simp; done) | (simp [*]; done)), H', ⟨by have := HJ1.out; have := HK2.out; omega⟩, by repeat (first | exact Drawn0.refl _ | apply Drawn0.step)⟩
                          · rw [if_neg c21] at H
                            have c21b0 : ((bt a0 x14_2) == 45) = false := beq_eq_false_iff_ne.mpr c21
                            have c21b1 : ((bt a0 x14_2) != 45) = true := bne_iff_ne.mpr c21
                            by_cases c22 : (bt a0 x14_2) = 95
                            · rw [if_pos c22] at H
                              have c22b0 : ((bt a0 x14_2) == 95) = true := beq_iff_eq.mpr c22
                              have c22b1 : ((bt a0 x14_2) != 95) = false := bne_eq_false_iff_eq.mpr c22
                              clear c22
                              have H' := Aside0.mk H
                              clear H
                              have p8 : 0 ≤ (x14_2 : Int) := of_decide_eq_true (by first | (with_reducible assumption) | assumption)
                              have q8 : x14_2 < (a0.size : Int) := of_decide_eq_true (by first | (with_reducible assumption) | assumption)
                              have hx8 := bt_at a0 x14_2
                              replace p8 := eq_true p8
                              replace q8 := eq_true q8
                              go_wp2
                              go_roundg k2
                              case measure => have := HJ1.out; have := HK2.out; omega
                              case rel => exact ⟨(wrap64 (x14_2 + 1)), (by first | rfl | (simp; done) | (simp [*]; done)), H', ⟨by have := HJ1.out; have := HK2.out; omega⟩, by repeat (first | exact Drawn0.refl _ | apply Drawn0.step)⟩
                            · rw [if_neg c22] at H
                              have c22b0 : ((bt a0 x14_2) == 95) = false := beq_eq_false_iff_ne.mpr c22
                              have c22b1 : ((bt a0 x14_2) != 95) = true := bne_iff_ne.mpr c22
                              obtain rfl := Option.some.inj H
                              have p8 : 0 ≤ (x14_2 : Int) := of_decide_eq_true (by first | (with_reducible assumption) | assumption)
                              have q8 : x14_2 < (a0.size : Int) := of_decide_eq_true (by first | (with_reducible assumption) | assumption)
                              have hx8 := bt_at a0 x14_2
                              replace p8 := eq_true p8
                              replace q8 := eq_true q8
                              go_wp2
                              go_ret
                              exact ⟨by first | rfl | (simp; done) | (simp [*]; done), by repeat (first | exact Drawn0.refl _ | apply Drawn0.step)⟩
                        · rw [if_neg c20] at H
                          have c20b0 : decide (57 < (bt a0 x14_2)) = false := decide_eq_false c20
                          clear c20
                          have H' := Aside0.mk H
                          clear H
                          have p8 : 0 ≤ (x14_2 : Int) := of_decide_eq_true (by first | (with_reducible assumption) | assumption)
                          have q8 : x14_2 < (a0.size : Int) := of_decide_eq_true (by first | (with_reducible assumption) | assumption)
                          have hx8 := bt_at a0 x14_2
                          replace p8 := eq_true p8
                          replace q8 := eq_true q8
                          go_wp2
                          go_roundg k2
                          case measure => have := HJ1.out; have := HK2.out; omega
                          case rel => exact ⟨(wrap64 (x14_2 + 1)), (by first | rfl | (simp; done) | (simp [*]; done)), H', ⟨by have := HJ1.out; have := HK2.out; omega⟩, by repeat (first | exact Drawn0.refl _ | apply Drawn0.step)⟩
                    · rw [if_neg c16] at H
                      have c16b0 : decide (122 < (bt a0 x14_2)) = false := decide_eq_false c16
                      clear c16
                      have H' := Aside0.mk H
                      clear H
                      have p8 : 0 ≤ (x14_2 : Int) := of_decide_eq_true (by first | (with_reducible assumption) | assumption)
                      have q8 : x14_2 < (a0.size : Int) := of_decide_eq_true (by first | (with_reducible assumption) | assumption)
                      have hx8 := bt_at a0 x14_2
                      replace p8 := eq_true p8
                      replace q8 := eq_true q8
                      go_wp2
                      go_roundg k2
                      case measure => have := HJ1.out; have := HK2.out; omega
                      case rel => exact ⟨(wrap64 (x14_2 + 1)), (by first | rfl | (simp; done) | (simp [*]; done)), H', ⟨by have := HJ1.out; have := HK2.out; omega⟩, by repeat (first | exact Drawn0.refl _ | apply Drawn0.step)⟩
                · rw [if_neg c7] at H
                  exact absurd H (by simp)
              · rw [if_neg c6] at H
                exact absurd H (by simp)
            · rw [if_neg c5] at H
              have c5b0 : decide (x14_2 < (a0.size : Int)) = false := decide_eq_false c5
              clear c5
              obtain rfl := Option.some.inj H
              go_wp2
              go_ret
              exact ⟨by first | rfl | (simp; done) | (simp [*]; done), by repeat (first | exact Drawn0.refl _ | apply Drawn0.step)⟩

end Go.Proofs.Ytfkgpmidcbjlbaa.P
end
section
set_option linter.unusedVariables false
set_option linter.unusedSimpArgs false
/- simdisk.isName at every string. -/
namespace Go.Proofs.Ytfkgpmidcbjlbaa.U
open Go.RowKit Go.Proofs.Ytfkgpmidcbjlbaa.P Go.Proofs.Ytfkgpmidcbjlbaa.H Go.Proofs.YtfkgpmidcbjlbaaW.PrintWords Go.Proofs.YtfkgpmidcbjlbaaW.PrintMore

def okn (c : Int) : Bool := (decide (97 ≤ c) && decide (c ≤ 122)) || (decide (48 ≤ c) && decide (c ≤ 57)) || decide (c = 45) || decide (c = 95)
def nameB (s : ByteArray) : Bool := decide (1 ≤ s.size) && decide (s.size ≤ 64) && s.data.toList.all (fun c => okn (c.toNat : Int))
set_option maxHeartbeats 1000000 in
theorem isName_l0 (k : Nat) (x : ByteArray) (n i : Int) : simdisk_isName.l0 (k + 1) x n i = if i < n then (if 0 ≤ i then (if i < (x.size : Int) then (if okn (bt x i) = true then simdisk_isName.l0 k x n (wrap64 (i + 1)) else some false) else none) else none) else some true := by
  rw [simdisk_isName.l0]
  generalize bt x i = c
  split
  · split
    · split
      · have h : okn c = true ↔ (97 ≤ c ∧ c ≤ 122) ∨ (48 ≤ c ∧ c ≤ 57) ∨ c = 45 ∨ c = 95 := by unfold okn; simp [or_assoc]
        by_cases hc : okn c = true
        · rw [if_pos hc]
          rw [h] at hc
          repeat' split
          all_goals first | rfl | (exfalso; omega)
        · rw [if_neg hc]
          rw [h] at hc
          repeat' split
          all_goals first | rfl | (exfalso; omega)
      · rfl
    · rfl
  · rfl
theorem name_l (s : ByteArray) (h1 : 1 ≤ s.size) (h64 : s.size ≤ 64) : ∀ f i : Nat, i + f = s.size → (s.data.toList.take i).all (fun c => okn (c.toNat : Int)) = true → Ev (fun k => simdisk_isName.l0 k s (s.size : Int) (i : Int)) (nameB s)
  | 0, i, hi, ha => by
    have hr : nameB s = true := by
      rw [List.take_of_length_le (by rw [data_length]; omega)] at ha
      unfold nameB
      rw [ha, decide_eq_true h1, decide_eq_true h64]; rfl
    rw [hr]
    refine Ev.step (fun k => isName_l0 k s _ _) (Ev.neg (by omega) (Ev.pure _))
  | f + 1, i, hi, ha => by
    have hlt : i < s.size := by omega
    refine Ev.step (fun k => isName_l0 k s _ _) (Ev.pos (by omega) (Ev.pos (by omega) (Ev.pos (by omega) ?_)))
    have hb : bt s (i : Int) = ((s[i]'hlt).toNat : Int) := by
      unfold bt
      rw [dif_pos (by simpa using hlt)]; rfl
    rw [hb]
    refine Ev.ite (fun c => ?_) (fun c => ?_)
    · rw [show wrap64 ((i : Int) + 1) = ((i + 1 : Nat) : Int) from by rw [w64 _ (by omega) (by omega)]; omega]
      exact name_l s h1 h64 f (i + 1) (by omega) (all_take_succ s i hlt (fun c => okn (c.toNat : Int)) ha c)
    · have hr : nameB s = false := by
        unfold nameB
        rw [not_all_at s i hlt (fun c => okn (c.toNat : Int)) (Bool.not_eq_true _ |>.mp c)]
        simp
      rw [hr]; exact Ev.pure _
theorem name_ev (s : ByteArray) : Ev (fun k => simdisk_isName.f k s) (nameB s) := by
  refine Ev.ite (fun c => ?_) (fun c => ?_)
  · have hr : nameB s = false := by
      have : s.size = 0 := by
        rw [ByteArray.toList_eq, ← List.length_eq_zero_iff, data_length] at c; exact c
      unfold nameB
      rw [decide_eq_false (by omega)]; simp
    rw [hr]
    exact Ev.step (G := fun _ => some false) (fun k => rfl) (Ev.pure _)
  · have h1 : 1 ≤ s.size := by
      rcases Nat.eq_zero_or_pos s.size with h | h
      · exfalso; apply c
        rw [ByteArray.toList_eq, ← List.length_eq_zero_iff, data_length]; exact h
      · exact h
    have key : ∀ b : Bool, b = decide ((s.size : Int) > 64) → Ev (fun k => simdisk_isName.j0 k s b) (nameB s) := by
      intro b hb
      cases b
      · have h64 : s.size ≤ 64 := by have := of_decide_eq_false hb.symm; omega
        refine Ev.step (G := fun k => simdisk_isName.l0 k s (s.size : Int) 0) (fun k => rfl) ?_
        exact name_l s h1 h64 s.size 0 (by omega) (by simp)
      · have h64 : ¬ s.size ≤ 64 := by have := of_decide_eq_true hb.symm; omega
        have hr : nameB s = false := by unfold nameB; rw [decide_eq_false h64]; simp
        rw [hr]
        exact Ev.step (G := fun _ => some false) (fun k => rfl) (Ev.pure _)
    exact key _ rfl
theorem nameB_size (s : ByteArray) (h : nameB s = true) : 1 ≤ s.size ∧ s.size ≤ 64 := by
  unfold nameB at h
  simp only [Bool.and_eq_true, decide_eq_true_eq] at h
  exact ⟨h.1.1, h.1.2⟩
end Go.Proofs.Ytfkgpmidcbjlbaa.U
namespace Go.Proofs.Ytfkgpmidcbjlbaa.H
open Go.RowKit Go.Proofs.Ytfkgpmidcbjlbaa.U Go.Proofs.Ytfkgpmidcbjlbaa.P Go.Proofs.YtfkgpmidcbjlbaaW.PrintWords
theorem isName_calls (s : ByteArray) (w : World) : Calls Try.prog 66 #[.string s] w fun e w' => e = .returned (.bool (nameB s)) ∧ Drawn0 w w' := by
  obtain ⟨k, hk⟩ := (name_ev s).get
  exact simdisk_isName.calls k s (nameB s) w hk
end Go.Proofs.Ytfkgpmidcbjlbaa.H
end
section
set_option linter.unusedVariables false
set_option linter.unusedSimpArgs false
/- simdisk: done and begin. -/
namespace Go.Proofs.Ytfkgpmidcbjlbaa.H
open Go.RowKit Go.Proofs.Ytfkgpmidcbjlbaa.U Go.Proofs.YtfkgpmidcbjlbaaW.PrintWords Go.Proofs.Ytfkgpmidcbjlbaa.P

def doneS (σ : St) : St := { σ with left := if σ.lim = true then wrap64 (σ.left - 1) else σ.left }
theorem below_setCell0 (w : World) (p : Addr) (u : Value) : Below 0 w (w.setCell p u) := (Below.refl 0 w).setCell (Nat.zero_le _) u
theorem setCell_size (w : World) (p : Addr) (u : Value) : (w.setCell p u).heap.size = w.heap.size := by simp [World.setCell]
set_option maxRecDepth 100000 in
set_option maxHeartbeats 2000000 in
theorem done_calls (d : Nat) (σ : St) (S : Nat → Prop) (w : World) (h : DiskAt w d σ S) :
    Calls Try.prog 68 #[.pointer (some ⟨d, 0, none⟩)] w fun e w' => e = .returned (.int .i64 0) ∧ Moved w w' d (doneS σ) S := by
  obtain ⟨fb, fv, mc, md, pv, h⟩ := h
  have H := hid h
  have c3 : w.cell? ⟨d, 3, none⟩ = some (.bool σ.lim) := by rw [cell_of_row _ _ _ _ _ _ h.blk]; rfl
  have c4 : w.cell? ⟨d, 4, none⟩ = some (.int .i64 σ.left) := by rw [cell_of_row _ _ _ _ _ _ h.blk]; rfl
  clear h
  go_enter Try.func68, Try.ntmps68
  cases hl : σ.lim with
  | true =>
    rw [hl] at c3
    have hf := frozen_of_row w d 4 _ _ H.out.blk
    go_wp2
    go_ret
    have hb := heap_setCell_same w d 4 _ _ (.int .i64 (wrap64 (σ.left - 1))) H.out.blk
    refine ⟨rfl, below_setCell0 _ _ _, ?_, S, fun _ hk => .inl hk, fb, fv, mc, md, pv, ?_⟩
    · exact (Kept.refl w S).setCell (.inl H.out.sd) _
    · have := H.out.scalar (w' := w.setCell ⟨d, 4, none⟩ (.int .i64 (wrap64 (σ.left - 1)))) (by rw [setCell_size]; exact Nat.le_refl _) (fun k _ hk => heap_setCell_other _ _ _ _ hk) σ.lim (wrap64 (σ.left - 1)) hb
      unfold doneS
      rw [if_pos hl]
      exact this
  | false =>
    rw [hl] at c3
    go_wp2
    go_ret
    refine ⟨rfl, ?_⟩
    have : doneS σ = σ := by unfold doneS; rw [if_neg (by rw [hl]; decide)]
    rw [this]
    exact Moved.stay ⟨fb, fv, mc, md, pv, H.out⟩ (Below.refl _ _)
theorem drawn_trans {w w1 w2 : World} (h : Drawn0 w w1) (k : Drawn0 w1 w2) : Drawn0 w w2 := by
  obtain ⟨⟨n, rfl⟩⟩ := k
  exact h.step n
theorem wrap_succ {j n : Nat} (h : (j : Int) < (n : Int)) (hm : n ≤ 9223372036854775807) : wrap64 ((j : Int) + 1) = ((j + 1 : Nat) : Int) := by
  rw [w64 _ (by omega) (by omega)]; omega
theorem less_succ {j n : Nat} {x : Int} (h : (j : Int) < (n : Int)) (hx : x = ((j + 1 : Nat) : Int)) : n - (intOf (.int .i64 x)).toNat < n - (intOf (.int .i64 (j : Int))).toNat := by
  subst hx
  show n - ((j + 1 : Nat) : Int).toNat < n - ((j : Nat) : Int).toNat
  rw [Int.toNat_natCast, Int.toNat_natCast]
  omega
def beginS (σ : St) (ns : List ByteArray) : Int := if (σ.lim && decide (σ.left ≤ 0)) = true then 16 else if ns.all nameB = true then 0 else 8
set_option maxRecDepth 100000 in
set_option maxHeartbeats 2000000 in
theorem begin_loop (d : Nat) (lim : Bool) (left r : Int) (A : Option Addr) (c : Nat) (ns : List ByteArray) (w : World) (c3 : w.cell? ⟨d, 3, none⟩ = some (.bool lim)) (c4 : w.cell? ⟨d, 4, none⟩ = some (.int .i64 left))
    (HR : Hid (Kd.C Kd.string w A ns.length ns)) (HC : Hid (ns.length ≤ c)) (hq : (lim && decide (left ≤ 0)) = false) (HV : Hid (r = if ns.all nameB = true then 0 else 8)) :
    Calls Try.prog 67 #[.pointer (some ⟨d, 0, none⟩), .slice A ns.length c] w fun e w' => e = .returned (.int .i64 r) ∧ Drawn0 w w' := by
  have h1 : lim = false ∨ (lim = true ∧ decide (left ≤ 0) = false) := by cases lim <;> simp_all
  clear hq
  go_enter Try.func67, Try.ntmps67
  rcases h1 with rfl | ⟨rfl, hd⟩
  all_goals
    go_wp2
    go_loopw [22] (fun v wr => ∃ j : Nat, v = .int .i64 (j : Int) ∧ Hid (j ≤ ns.length) ∧ Hid (Drawn0 w wr) ∧ Hid ((ns.take j).all nameB = true)) (fun v _ => ns.length - (intOf v).toNat)
    case atStart => exact ⟨0, rfl, Nat.zero_le _, Drawn0.refl w, by simp [Hid]⟩
    case round =>
      obtain ⟨j, rfl, HJ, HD, HA⟩ := hrel
      by_cases hlt : (j : Int) < (ns.length : Int)
      · obtain ⟨ad, hA, hcell⟩ := Kd.at_string (Kd.C_below HR.out HD.out.below) (j : Int) (by omega) (by omega)
        have HX := hid (show ∃ x, x = rdOf ByteArray.empty ns (j : Int) from ⟨_, rfl⟩)
        obtain ⟨x, hx⟩ := HX.out
        have HXX := hid hx
        rw [Int.toNat_natCast, ← hx] at hcell
        subst hA
        clear hx HX
        have HLT := hid hlt
        have HW := hid (show wrap64 ((j : Int) + 1) = ((j + 1 : Nat) : Int) from wrap_succ hlt (Kd.C_max HR.out))
        cases hn : nameB x with
        | true =>
          have HN := hid hn
          clear hn
          go_wp2_with (go_at_call 66; refine (isName_calls x wr).mono ?_; rintro e w4 ⟨rfl, hdr⟩; rw [HN.out]; have HD4 := hid (drawn_trans HD.out hdr); clear hdr)
          go_roundw
          case rel =>
            refine ⟨j + 1, by rw [HW.out], hid (by have := HLT.out; omega), HD4, hid ?_⟩
            rw [List.take_succ_eq_append_getElem (by have := HLT.out; omega), List.all_append, Bool.and_eq_true]
            refine ⟨HA.out, ?_⟩
            have e : ns[j]'(by have := HLT.out; omega) = x := by
              rw [HXX.out]
              simp [rdOf, List.getD_eq_getElem?_getD, List.getElem?_eq_getElem (show j < ns.length by have := HLT.out; omega)]
            rw [e]
            simpa using HN.out
          case measure => exact less_succ HLT.out HW.out
        | false =>
          have HN := hid hn
          clear hn
          go_wp2_with (go_at_call 66; refine (isName_calls x wr).mono ?_; rintro e w4 ⟨rfl, hdr⟩; rw [HN.out]; have HD4 := hid (drawn_trans HD.out hdr); clear hdr)
          go_ret
          refine ⟨ret_int ?_, HD4.out⟩
          rw [HV.out, if_neg]
          intro hall
          have hm : x ∈ ns := by
            rw [HXX.out]
            simp [rdOf, List.getD_eq_getElem?_getD, List.getElem?_eq_getElem (show j < ns.length by have := HLT.out; omega)]
          have := List.all_eq_true.1 hall x hm
          rw [HN.out] at this
          cases this
      · have HLT := hid hlt
        go_wp2
        go_ret
        refine ⟨ret_int ?_, HD.out⟩
        have := HA.out
        rw [List.take_of_length_le (by have := HLT.out; omega)] at this
        rw [HV.out, if_pos this]
set_option maxRecDepth 100000 in
theorem begin_calls (d : Nat) (σ : St) (S : Nat → Prop) (A : Option Addr) (c : Nat) (ns : List ByteArray) (w : World) (h : DiskAt w d σ S) (hr : Kd.C Kd.string w A ns.length ns) (hc : ns.length ≤ c) :
    Calls Try.prog 67 #[.pointer (some ⟨d, 0, none⟩), .slice A ns.length c] w fun e w' => e = .returned (.int .i64 (beginS σ ns)) ∧ Drawn0 w w' := by
  obtain ⟨fb, fv, mc, md, pv, h⟩ := h
  have c3 : w.cell? ⟨d, 3, none⟩ = some (.bool σ.lim) := by rw [cell_of_row _ _ _ _ _ _ h.blk]; rfl
  have c4 : w.cell? ⟨d, 4, none⟩ = some (.int .i64 σ.left) := by rw [cell_of_row _ _ _ _ _ _ h.blk]; rfl
  unfold beginS
  cases hq : σ.lim && decide (σ.left ≤ 0) with
  | false =>
    rw [if_neg (by decide)]
    exact begin_loop d σ.lim σ.left _ A c ns w c3 c4 hr hc hq (hid rfl)
  | true =>
    rw [if_pos rfl]
    generalize σ.lim = lim at c3 hq
    generalize σ.left = left at c4 hq
    clear h
    have hl : lim = true := by cases lim <;> simp_all
    subst hl
    have hd : decide (left ≤ 0) = true := by simpa using hq
    clear hq
    go_enter Try.func67, Try.ntmps67
    go_wp2
    go_ret
    exact ⟨rfl, Drawn0.refl w⟩
end Go.Proofs.Ytfkgpmidcbjlbaa.H
end
section
set_option linter.unusedVariables false
set_option linter.unusedSimpArgs false
/- simdisk: an operation on a directory. -/
namespace Go.Proofs.Ytfkgpmidcbjlbaa.H
open Go.RowKit Go.Proofs.Ytfkgpmidcbjlbaa.U Go.Proofs.YtfkgpmidcbjlbaaW.PrintWords Go.Proofs.Ytfkgpmidcbjlbaa.P

def Opn.names : Opn → List ByteArray
  | .create n _ => [n]
  | .rename a b => [a, b]
  | .remove a => [a]
def rowSame (w w' : World) (m : Nat) : Prop := Below 0 w w' ∧ ∀ k, k < w.heap.size → k ≠ m → w'.heap[k]? = w.heap[k]?
theorem rowSame.turned {w w1 w2 : World} {m : Nat} (h : rowSame w w1 m) (ht : w1.mapTurned w2 m) : rowSame w w2 m := by
  have hg := ht.grown
  refine ⟨h.1.trans ⟨hg.os, hg.tape, hg.output, hg.size, fun k hk => absurd hk (Nat.not_lt_zero _)⟩, fun k hk hne => ?_⟩
  rw [hg.block k (Nat.lt_of_lt_of_le hk h.1.size) (fun e => hne (Option.some.inj e))]
  exact h.2 k hk hne
theorem rowSame.alloc (w : World) (m : Nat) (o : Obj) : rowSame w (w.alloc o) m := ⟨(Below.refl 0 w).alloc (Nat.zero_le _) o, fun k hk _ => Below.heap_alloc _ _ _ hk⟩
theorem turned_cell {w w1 : World} {m b : Nat} (ht : w.mapTurned w1 m) (hb : b ≠ m) (hlt : b < w.heap.size) (j : Nat) : w1.cell? ⟨b, j, none⟩ = w.cell? ⟨b, j, none⟩ :=
  World.cell?_of_block (w := w) (ht.grown.block b hlt (fun e => hb (Option.some.inj e)))
set_option maxRecDepth 100000 in
set_option maxHeartbeats 4000000 in
theorem apply_calls (m : Nat) (fb : Nat → Nat) (c : Dir) (o : Opn) (w : World) (h : HasDir w m fb c) (hn : ∀ n ∈ o.names, n.size ≤ maxLen) (hroom : c.length < maxLen) :
    Calls Try.prog 44 #[.map (some m), .agg (opRow fb o).toArray] w fun e w' => e = .returned (.tuple #[]) ∧ HasDir w' m fb (applyS c o) ∧ rowSame w w' m := by
  have hlt := h.lt
  have HN := hid hn
  have HR := hid hroom
  clear hn hroom
  have HB : Hid (∀ p, HasDir (w.alloc p) m fb c) := hid (fun p => h.move (Below.heap_alloc _ _ _ hlt))
  have HL := hid hlt
  clear h hlt
  go_enter Try.func44, Try.ntmps44
  cases o with
  | create n i =>
    simp only [opRow]
    go_wp2_with (first
      | (at_mapUpdate; refine wpList_put_dir _ rfl (.tmp 10) (.tmp 12) (.tmp 14) rfl m fb c n i rfl rfl rfl (HB.out _) (HN.out n (by simp [Opn.names])) HR.out ?_; intro w1 hd1 ht1; have HD1 := hid hd1; have HT1 := hid ht1; clear hd1 ht1))
    go_end0
    exact ⟨rfl, HD1.out, (rowSame.alloc w m _).turned HT1.out⟩
  | remove a =>
    simp only [opRow]
    go_wp2_with (first
      | (at_delete; refine wpList_del_dir _ rfl (.tmp 34) (.tmp 36) rfl m fb c a rfl rfl (HB.out _) (HN.out a (by simp [Opn.names])) ?_; intro w1 hd1 ht1; have HD1 := hid hd1; have HT1 := hid ht1; clear hd1 ht1))
    go_end0
    exact ⟨rfl, HD1.out, (rowSame.alloc w m _).turned HT1.out⟩
  | rename a b =>
    simp only [opRow]
    unfold applyS
    cases hg : dget c a with
    | none =>
      have HG := hid hg
      go_wp2_with (first
        | (at_lookup; refine wpList_look_dir _ rfl (.tmp 18) (.tmp 20) rfl m fb c a rfl rfl (HB.out _) (HN.out a (by simp [Opn.names])) none HG.out ?_; simp only [lookV]))
      go_end0
      exact ⟨rfl, HB.out _, rowSame.alloc w m _⟩
    | some i =>
      have HG := hid hg
      have HC2 : Hid (∀ w1, (w.alloc (.cells #[.int .i64 1, .string a, .string b, .pointer none] 89)).mapTurned w1 m → w1.cell? ⟨w.heap.size, 2, none⟩ = some (.string b)) := hid (fun w1 ht => by
        rw [turned_cell ht (Nat.ne_of_gt HL.out) (by simp) 2, cell_of_row _ _ _ _ _ _ (heap_alloc_new w _)]
        rfl)
      go_wp2_with (first
        | (at_lookup; refine wpList_look_dir _ rfl (.tmp 18) (.tmp 20) rfl m fb c a rfl rfl (HB.out _) (HN.out a (by simp [Opn.names])) (some i) HG.out ?_; simp only [lookV])
        | (at_delete; refine wpList_del_dir _ rfl (.tmp 25) (.tmp 27) rfl m fb c a rfl rfl (HB.out _) (HN.out a (by simp [Opn.names])) ?_; intro w1 hd1 ht1; have HD1 := hid hd1; have HT1 := hid ht1; have hc2 := HC2.out _ ht1; clear hd1 ht1)
        | (at_mapUpdate; refine wpList_put_dir _ rfl (.tmp 28) (.tmp 30) (.tmp 31) rfl m fb (ddel c a) b i rfl rfl rfl HD1.out (HN.out b (by simp [Opn.names])) (Nat.lt_of_le_of_lt (List.length_filter_le _ _) HR.out) ?_; intro w2 hd2 ht2; have HD2 := hid hd2; have HT2 := hid ht2; clear hd2 ht2))
      go_end0
      exact ⟨rfl, HD2.out, ((rowSame.alloc w m _).turned HT1.out).turned HT2.out⟩
end Go.Proofs.Ytfkgpmidcbjlbaa.H
end
