/- For all entries, numbers of operations and crash files, the law CommitlogDurable of package laminalaw24 returns true and leaves its arguments as they were; no condition. -/
import Derived.Test.YtfkgpmidcbjlbaaDu1
import Derived.Test.YtfkgpmidcbjlbaaDu2
import Derived.Test.YtfkgpmidcbjlbaaDu3
import Derived.Test.YtfkgpmidcbjlbaaDu5
import Derived.Laws.EntriesVeiled
import Derived.Lib.SmallJoins
import Derived.Deep.Slices
import Derived.Deep.Fields
import Derived.ChangeSame
import Derived.OpenShut
import Derived.ProofKit
import Derived.Test.YtfkgpmidcbjlbaaRows
import Derived.WalkKit
import Derived.ShutString
import Derived.ChangeOld
import Derived.Below
import Derived.SizedLaws
import Derived.Carry
section
set_option linter.unusedVariables false
set_option linter.unusedSimpArgs false
/- commitlog.Rewrite. -/
namespace Go.Proofs.Ytfkgpmidcbjlbaa.H
open Go.RowKit Go.Proofs.Ytfkgpmidcbjlbaa.U Go.Proofs.YtfkgpmidcbjlbaaW.PrintWords Go.Proofs.Ytfkgpmidcbjlbaa.P

structure RW (w wr : World) (d : Nat) (n : ByteArray) (v : Value) (acc : List Int) : Prop where
  b0 : wr.heap[w.heap.size]? = some (.cells #[.pointer (some ⟨d, 0, none⟩)] 45 (0, 0))
  b1 : wr.heap[w.heap.size + 1]? = some (.cells #[.string n] 9 (0, 0))
  b2 : wr.heap[w.heap.size + 2]? = some (.cells #[v] 24 (0, 0))
  row : Kd.R (Kd.int .u8) 5 wr w.heap.size (fun _ => True) v acc
  below : Below w.heap.size w wr
theorem RW.start (w : World) (d : Nat) (n : ByteArray) : RW w (((w.alloc (.cells #[.pointer (some ⟨d, 0, none⟩)] 45)).alloc (.cells #[.string n] 9)).alloc (.cells #[.slice none 0 0] 24)) d n (.slice none 0 0) [] where
  b0 := by
    rw [Below.heap_alloc _ _ _ (by simp; omega), Below.heap_alloc _ _ _ (by simp)]
    exact heap_alloc_new _ _
  b1 := by
    rw [Below.heap_alloc _ _ _ (by simp)]
    have := heap_alloc_new (w.alloc (.cells #[.pointer (some ⟨d, 0, none⟩)] 45)) (.cells #[.string n] 9)
    simpa using this
  b2 := by
    have := heap_alloc_new ((w.alloc (.cells #[.pointer (some ⟨d, 0, none⟩)] 45)).alloc (.cells #[.string n] 9)) (.cells #[.slice none 0 0] 24)
    simpa using this
  row := Kd.R_nil _ _ _ _ _
  below := (((Below.refl _ _).alloc (Nat.le_refl _) _).alloc (by simp) _).alloc (by simp; omega) _
theorem RW.move {w wr w1 : World} {d : Nat} {n : ByteArray} {v : Value} {acc : List Int} (h : RW w wr d n v acc) (hb : Below wr.heap.size wr w1) : RW w w1 d n v acc where
  b0 := (hb.block _ (Array.getElem?_eq_some_iff.1 h.b0).1).trans h.b0
  b1 := (hb.block _ (Array.getElem?_eq_some_iff.1 h.b1).1).trans h.b1
  b2 := (hb.block _ (Array.getElem?_eq_some_iff.1 h.b2).1).trans h.b2
  row := Kd.R_below h.row hb
  below := h.below.trans (hb.mono h.below.size)
theorem RW.step {w wr w1 : World} {d : Nat} {n : ByteArray} {v v1 : Value} {acc acc1 : List Int} (h : RW w wr d n v acc) (hg : wr.grownBy w1 v.ownBlock) (hr : Kd.R (Kd.int .u8) 5 w1 w.heap.size (fun _ => True) v1 acc1) (hb : Below w.heap.size w w1) :
    w1.cell? ⟨w.heap.size + 2, 0, none⟩ = some v ∧ w1.frozen? ⟨w.heap.size + 2, 0, none⟩ = false ∧ RW w (w1.setCell ⟨w.heap.size + 2, 0, none⟩ v1) d n v1 acc1 := by
  have hne : ∀ {k : Nat} {cs : Array Value} {t : Nat} {fr : Nat × Nat}, wr.heap[k]? = some (.cells cs t fr) → t ≠ 5 → w1.heap[k]? = some (.cells cs t fr) := fun {k cs t fr} hk ht => by
    rw [hg.block k (Array.getElem?_eq_some_iff.1 hk).1 (fun e => by
      obtain ⟨c, hc⟩ := row_typed h.row e.symm
      exact ne_type hk hc ht rfl)]
    exact hk
  have h0 := hne h.b0 (by decide)
  have h1 := hne h.b1 (by decide)
  have h2 := hne h.b2 (by decide)
  have hs : ∀ k, k ≠ w.heap.size + 2 → (w1.setCell ⟨w.heap.size + 2, 0, none⟩ v1).heap[k]? = w1.heap[k]? := fun k hk => heap_setCell_other _ _ _ _ hk
  refine ⟨cell_blk h2 0, frozen_of_row _ _ 0 _ _ h2, ⟨(hs _ (by omega)).trans h0, (hs _ (by omega)).trans h1, heap_setCell_same _ _ 0 _ _ v1 h2, ?_, hb.setCell (by show w.heap.size ≤ w.heap.size + 2; omega) _⟩⟩
  refine row_same rfl hr (fun j hj => hs j ?_)
  rintro rfl
  obtain ⟨c, hc⟩ := row_typed hr hj
  exact ne_type h2 hc (by decide) rfl
theorem encAll_drop {E : List LE} {j : Nat} (hj : j < E.length) (acc : List Int) : encAll (E.drop j) acc = if (encE (rd_T23 E (j : Int))).2 = 0 then encAll (E.drop (j + 1)) (acc ++ (encE (rd_T23 E (j : Int))).1) else (acc, (encE (rd_T23 E (j : Int))).2) := by
  have : rd_T23 E (j : Int) = E[j] := by
    unfold rd_T23
    rw [Int.toNat_natCast, List.getD_eq_getElem?_getD, List.getElem?_eq_getElem hj]; rfl
  rw [this, List.drop_eq_getElem_cons hj, encAll]
theorem rd_mem {E : List LE} {j : Nat} (hj : j < E.length) : rd_T23 E (j : Int) ∈ E := by
  unfold rd_T23
  rw [Int.toNat_natCast, List.getD_eq_getElem?_getD, List.getElem?_eq_getElem hj]
  exact List.getElem_mem hj
theorem RW.five {w wo wt wc : World} {d : Nat} {n : ByteArray} {v : Value} {acc : List Int} {S S1 : Nat → Prop} (h : RW w wo d n v acc) (hb : Below wo.heap.size wo wt) (h12 : wt.heap[wo.heap.size]? = some (.cells #[.string (tmpN n)] 9 (0, 0))) (hS : ∀ k, S k → k < w.heap.size) (hk : Kept wt wc S)
    (hs1 : ∀ k, S1 k → S k ∨ wt.heap.size ≤ k) (hlt1 : ∀ k, S1 k → k < wc.heap.size) :
    Five (wc.alloc (.cells #[stepF d w.heap.size (w.heap.size + 1) (w.heap.size + 2) wo.heap.size 0, stepF d w.heap.size (w.heap.size + 1) (w.heap.size + 2) wo.heap.size 1, stepF d w.heap.size (w.heap.size + 1) (w.heap.size + 2) wo.heap.size 2, stepF d w.heap.size (w.heap.size + 1) (w.heap.size + 2) wo.heap.size 3, stepF d w.heap.size (w.heap.size + 1) (w.heap.size + 2) wo.heap.size 4] 95)) d w.heap.size (w.heap.size + 1) (w.heap.size + 2) wo.heap.size wc.heap.size n (tmpN n) v acc S1 := by
  have ht := h.move hb
  have hwo := h.below.size
  have h2lt : w.heap.size + 2 < wo.heap.size := (Array.getElem?_eq_some_iff.1 h.b2).1
  have hwt : wo.heap.size < wt.heap.size := (Array.getElem?_eq_some_iff.1 h12).1
  have hc := hk.1
  have old : ∀ {k : Nat} {o : Obj}, wt.heap[k]? = some o → w.heap.size ≤ k → wc.heap[k]? = some o := fun {k o} hko hle => by
    rw [hk.2 k (Array.getElem?_eq_some_iff.1 hko).1 (fun hs => by have := hS k hs; omega)]; exact hko
  have al : ∀ {k : Nat} {o : Obj} (p : Obj), wc.heap[k]? = some o → (wc.alloc p).heap[k]? = some o := fun {k o} p hko => (Below.heap_alloc _ _ _ (Array.getElem?_eq_some_iff.1 hko).1).trans hko
  have hrow : ∀ j, v.ownBlock = some j → w.heap.size ≤ j ∧ j < wo.heap.size := fun j hj => ⟨Kd.N_base (Kd.R_N h.row) j hj, Kd.N_lt (Kd.R_N h.row) j hj⟩
  exact {
    caps := ⟨cell_blk (al _ (old ht.b0 (Nat.le_refl _))) 0, cell_blk (al _ (old ht.b1 (by omega))) 0, cell_blk (al _ (old ht.b2 (by omega))) 0, cell_blk (al _ (old h12 hwo)) 0⟩
    row := Kd.R_lower (row_same rfl ht.row (fun j hj => by
      have := hrow j hj
      rw [Below.heap_alloc _ _ _ (by omega), hk.2 j (by omega) (fun hs => by have := hS j hs; omega)])) (Nat.zero_le _)
    fns := fun i hi => by
      rw [cell_blk (heap_alloc_new wc _)]
      match i, hi with
      | 0, _ => rfl
      | 1, _ => rfl
      | 2, _ => rfl
      | 3, _ => rfl
      | 4, _ => rfl
    off := fun k hk1 => by
      have h3 := hlt1 k hk1
      rcases hs1 k hk1 with h4 | h4
      · have := hS k h4
        exact ⟨by omega, by omega, by omega, by omega, by omega, fun e => by have := (hrow k e.symm).1; omega⟩
      · exact ⟨by omega, by omega, by omega, by omega, by omega, fun e => by have := (hrow k e.symm).2; omega⟩
    lt := by
      have : (wc.alloc (.cells #[stepF d w.heap.size (w.heap.size + 1) (w.heap.size + 2) wo.heap.size 0, stepF d w.heap.size (w.heap.size + 1) (w.heap.size + 2) wo.heap.size 1, stepF d w.heap.size (w.heap.size + 1) (w.heap.size + 2) wo.heap.size 2, stepF d w.heap.size (w.heap.size + 1) (w.heap.size + 2) wo.heap.size 3, stepF d w.heap.size (w.heap.size + 1) (w.heap.size + 2) wo.heap.size 4] 95)).heap.size = wc.heap.size + 1 := by simp
      rw [this]
      exact ⟨by omega, by omega, by omega, by omega, by omega⟩ }
set_option maxRecDepth 100000 in
set_option maxHeartbeats 4000000 in
theorem rewrite_calls (d : Nat) (σ : St) (S : Nat → Prop) (N : Nat) (n : ByteArray) (E : List LE) (A0 : Option Addr) (k0 : Nat) (w : World) (h : DiskAt w d σ S) (hs : σ.Sound N) (hN : N ≤ 274877906944) (hE : ∀ x ∈ E, Small x) (hn : n.size ≤ 1099511627776) (hr0 : Kd.C k23 w A0 E.length E) (hk0 : E.length ≤ k0) :
    Calls Try.prog 23 #[.pointer (some ⟨d, 0, none⟩), .string n, .slice A0 E.length k0] w fun e w' => e = .returned (.int .i64 (rewriteS σ n E).2) ∧ Moved w w' d (rewriteS σ n E).1 S := by
  have H := hid h
  have HS := hid hs
  have HN := hid hN
  have HE := hid hE
  have HNN := hid hn
  have HR := hid hr0
  have hkm : E.length ≤ 9223372036854775807 := hr0.2.1
  clear h hs hN hE hn hr0
  unfold rewriteS
  by_cases hbig : E.length > 65536
  · rw [if_pos hbig]
    have hB : (E.length : Int) > 65536 := by omega
    clear hbig
    go_enter Try.func23, Try.ntmps23
    go_wp2
    go_ret
    exact ⟨rfl, Moved.stay H.out (((Below.refl _ _).alloc (Nat.le_refl _) _).alloc (by simp) _)⟩
  · rw [if_neg hbig]
    have HBIG := hid (show E.length ≤ 65536 by omega)
    have hB : (E.length : Int) ≤ 65536 := by omega
    clear hbig
    obtain ⟨rb, re, hall⟩ : ∃ rb re, encAll E [] = (rb, re) := ⟨_, _, rfl⟩
    rw [hall]
    dsimp only
    obtain ⟨τ, hτ⟩ : ∃ τ, (if re = 0 then replaceS σ n rb else (σ, re)) = τ := ⟨_, rfl⟩
    rw [hτ]
    have HT := hid hτ
    have HALL := hid hall
    clear hτ
    have HRW0 := hid (RW.start w d n)
    clear hall
    go_enter Try.func23, Try.ntmps23
    go_wp2
    go_loopw [24] (fun u wr => ∃ (j : Nat) (v : Value) (acc : List Int), u = .int .i64 (j : Int) ∧ Hid (j ≤ E.length) ∧ Hid (acc.length ≤ 97 * j) ∧ Hid (RW w wr d n v acc) ∧ Hid (Bytes acc) ∧ Hid (encAll (E.drop j) acc = (rb, re))) (fun u _ => E.length - (intOf u).toNat)
    case atStart => exact ⟨0, .slice none 0 0, [], rfl, Nat.zero_le _, Nat.zero_le _, HRW0.out, fun y hy => (by cases hy), HALL.out⟩
    case round =>
      obtain ⟨j, v, acc, rfl, HJ, HAL, HRW, HBY, HG⟩ := hrel
      clear HALL HRW0
      obtain ⟨Av, nv, cv, rfl⟩ := R_slice3 HRW.out.row
      by_cases hlt : (j : Int) < (E.length : Int)
      · have hjl : j < E.length := by omega
        have HLT := hid hlt
        have HW := hid (wrap_succ hlt hkm)
        have HSM := hid (HE.out _ (rd_mem hjl))
        have HGD := hid ((encAll_drop hjl acc).symm.trans HG.out)
        obtain ⟨ad, rfl, hx0, hx1, hx2, hx3, hx4, hx5⟩ := at_T23 (Kd.C_below HR.out HRW.out.below) (j : Int) (by omega) (by omega)
        have hadl := hid (Kd.C_lt (Kd.C_below HR.out HRW.out.below) (by omega) (by decide))
        rw [Int.toNat_natCast] at hx0 hx1 hx2 hx3 hx4 hx5
        generalize rd_T23 E (j : Int) = x at HSM HGD hx0 hx1 hx2 hx3 hx4 hx5
        have HEN := hid (encE_calls x HSM.out)
        have HEL := hid (encE_len x HSM.out)
        have HEBY := hid (encE_bytes x)
        have HS0 := hid (heap_alloc_new wr (.cells #[.int .i64 0, .int .i64 0, .int .i64 0, .int .i64 0, .int .i64 0, .string ⟨#[]⟩] 23))
        generalize encE x = be at HEN HEL HEBY HGD
        obtain ⟨b, ec⟩ := be
        dsimp only at HEN HEL HEBY HGD
        clear hjl
        by_cases hec : ec = 0
        · subst hec
          have HG2 := hid ((if_pos rfl).symm.trans HGD.out)
          clear HGD
          go_wp2_with (first
            | (refine wpList_store_row rfl 23 (.tmp 9) (.tmp 27) rfl wr.heap.size (rowE x) rfl rfl 23 _ HS0.out (by kernel_rfl) rfl (by kernel_rfl) ?_)
            | (refine wpList_load_row rfl 23 (.tmp 9) rfl wr.heap.size rfl 23 (rowE x) (0, 0) _ (setRow_heap _ _ _ _ _ _ HS0.out) Try.underlying23 rfl (by kernel_rfl) ?_)
            | (go_at_call 9; refine (HEN.out _).mono ?_; rintro e w1 ⟨v0, rfl, hr1, hb1⟩; obtain ⟨A1, k1, rfl⟩ := Kd.R_slice hr1; have HR1 := hid hr1; have hb2 := (below_setRow ((Below.refl wr.heap.size wr).alloc (Nat.le_refl _) _) (Nat.le_refl _) _).trans (hb1.mono (by simp [setRow_size])); have HRW1 := hid (HRW.out.move hb2); have hv2 : w1.cell? ⟨w.heap.size + 1 + 1, 0, none⟩ = some (.slice Av nv cv) := cell_blk HRW1.out.b2 0; clear hr1 hb1 hb2)
            | (at_builtin; refine Kd.R_append_rows (Kd.int .u8) (w0 := w) w.heap.size rfl (.tmp 36) (.tmp 37) 24 5 (.int .u8 0) 1 rfl Try.underlying24 infoU8e rfl (by decide) (by decide) _ acc b _ _ _ (fun _ => True) (fun _ => False) rfl rfl HRW1.out.row (Kd.R_reads' HR1.out).2.2 (fun _ _ h => h) (fun _ h => h.elim) (fun _ _ => trivial) HRW1.out.below HRW1.out.below.size (by have := HAL.out; have := HEL.out; have := HBIG.out; have := HLT.out; omega) ?_; intro v2 w2 ho hb2 hg2 _; have hst := HRW1.out.step hg2 ho hb2; have hv3 : w2.cell? ⟨w.heap.size + 1 + 1, 0, none⟩ = some (.slice Av nv cv) := hst.1; have hz3 : w2.frozen? ⟨w.heap.size + 1 + 1, 0, none⟩ = false := hst.2.1; have HST := hid hst.2.2; obtain ⟨A2, n2, c2, rfl⟩ := R_slice3 ho; clear ho hb2 hg2 hst))
          go_roundw
          case rel => exact ⟨j + 1, _, acc ++ b, rfl, hid (by have := HLT.out; omega), hid (by rw [List.length_append]; have := HAL.out; have := HEL.out; omega), HST.out, HBY.out.app HEBY.out, HG2.out⟩
          case measure => exact less_succ HLT.out (by omega)
        · have hbb : (ec != 0) = true := by simpa using hec
          have hre : encAll [] acc = encAll [] acc ∧ re = ec := ⟨rfl, by have := HGD.out; rw [if_neg hec] at this; exact (congrArg Prod.snd this).symm⟩
          obtain rfl := hre.2
          have HTE := hid (show τ = (σ, re) by rw [← HT.out, if_neg hec])
          clear HGD hre hec
          go_wp2_with (first
            | (refine wpList_store_row rfl 23 (.tmp 9) (.tmp 27) rfl wr.heap.size (rowE x) rfl rfl 23 _ HS0.out (by kernel_rfl) rfl (by kernel_rfl) ?_)
            | (refine wpList_load_row rfl 23 (.tmp 9) rfl wr.heap.size rfl 23 (rowE x) (0, 0) _ (setRow_heap _ _ _ _ _ _ HS0.out) Try.underlying23 rfl (by kernel_rfl) ?_)
            | (go_at_call 9; refine (HEN.out _).mono ?_; rintro e w1 ⟨v0, rfl, hr1, hb1⟩; obtain ⟨A1, nb, k1, rfl⟩ := R_slice3 hr1; have HB1 := hid ((below_setRow ((Below.refl wr.heap.size wr).alloc (Nat.le_refl _) _) (Nat.le_refl _) _).trans (hb1.mono (by simp [setRow_size]))); clear hr1 hb1))
          go_ret
          rw [HTE.out]
          exact ⟨rfl, Moved.stay H.out (HRW.out.below.trans (HB1.out.mono HRW.out.below.size))⟩
      · obtain rfl : j = E.length := by have := HJ.out; omega
        have hgl := HG.out
        rw [List.drop_of_length_le (Nat.le_refl _), encAll] at hgl
        obtain ⟨rfl, rfl⟩ := Prod.mk.inj hgl
        have HTE := hid (show replaceS σ n acc = τ by rw [← HT.out, if_pos rfl])
        have HAC := hid (show acc.length ≤ 6356992 by have := HAL.out; have := HBIG.out; omega)
        clear hgl HG HT hlt HJ HAL hB
        have hv4 : wr.cell? ⟨w.heap.size + 1, 0, none⟩ = some (.string n) := cell_blk HRW.out.b1 0
        have hb := HNN.out
        obtain ⟨wo, rfl⟩ : ∃ wo : World, wo = wr := ⟨_, rfl⟩
        go_upto_region 15 with (fail)
        rw [show (⟨#[116, 109, 112, 45]⟩ ++ n : ByteArray) = tmpN n from rfl]
        obtain ⟨wt, hwt⟩ : ∃ wt, wt = wo.alloc (.cells #[.string (tmpN n)] 9) := ⟨_, rfl⟩
        rw [← hwt]
        have HBT := hid (show Below wo.heap.size wo wt by rw [hwt]; exact (Below.refl _ _).alloc (Nat.le_refl _) _)
        have HB12 := hid (show wt.heap[wo.heap.size]? = some (.cells #[.string (tmpN n)] 9 (0, 0)) by rw [hwt]; exact heap_alloc_new _ _)
        have HRWT := hid (HRW.out.move HBT.out)
        have HDT := hid (H.out.below HRWT.out.below)
        have HLE := hid (show σ.cur.length ≤ 1099511627776 by have := HS.out.cur; have := HN.out; omega)
        have t3 : wt.cell? ⟨w.heap.size, 0, none⟩ = some (.pointer (some ⟨d, 0, none⟩)) := cell_blk HRWT.out.b0 0
        have t12 : wt.cell? ⟨wo.heap.size, 0, none⟩ = some (.string (tmpN n)) := cell_blk HB12.out 0
        have HLI := hid (fun (wz : World) (hb : Below wt.heap.size wt wz) => list_calls d σ S wz (HDT.out.below hb) HLE.out)
        clear hwt hb hv4
        go_cut [45] (fun s45 wx => s45 = .bool (hasN (listS σ) (tmpN n)) ∧ Hid (Below wt.heap.size wt wx))
        case first =>
          go_region_with (first
            | (go_at_call 39; refine (HLI.out _ (Below.refl _ _).drew).mono ?_; rintro e w2 ⟨v2, rfl, hr2, hb2⟩; obtain ⟨A2, n2, c2, rfl⟩ := R_slice3 hr2; have HR2 := hid (Kd.R_lower hr2 (Nat.zero_le _)); have hb3 := (Below.refl wt.heap.size wt).drew.trans hb2; have HB3 := hid hb3; have y12 := pw_cell_below hb3 t12; clear hr2 hb2 hb3)
            | (go_at_call 38; refine (contains_calls _ _ _ (listS σ) (tmpN n) _ HR2.out (by show (σ.cur.map (·.1)).length ≤ _; rw [List.length_map]; exact HLE.out)).mono ?_; rintro e w4 ⟨rfl, hd4⟩; have HB4 := hid (HB3.out.trans (hd4.below.mono HB3.out.size)); clear hd4))
          all_goals (go_wp2_with fail; go_meet; exact ⟨rfl, HB4.out⟩)
        case rest =>
          obtain ⟨rfl, HBC⟩ := hcut
          have HDC := hid (HDT.out.below HBC.out)
          have y3 := pw_cell_below HBC.out t3
          have y12 := pw_cell_below HBC.out t12
          have HPP := hid (show ∀ k, S k → k < w.heap.size from H.out.lt)
          clear t3 t12 HLI
          go_upto_if 45 with (fail)
          go_cut [13] (fun s13 wx => ∃ σ1, Hid (preS (tmpN n) σ = (σ1, 0)) ∧ Hid (Moved wt wx d σ1 S))
          case first =>
            have HRM := hid (remove_calls d σ S (tmpN n) wc HDC.out HLE.out (by have := HS.out.sum; have := HN.out; omega))
            cases hh : hasN (listS σ) (tmpN n) with
            | false =>
              have HP := hid (show preS (tmpN n) σ = (σ, 0) by unfold preS; rw [hh]; rfl)
              clear hh
              go_wp2_with fail
              go_meet
              exact ⟨σ, HP.out, Moved.stay HDT.out HBC.out⟩
            | true =>
              have HP := hid (show preS (tmpN n) σ = removeS σ (tmpN n) by unfold preS; rw [hh]; rfl)
              clear hh
              generalize hrs : removeS σ (tmpN n) = r0 at HP HRM
              obtain ⟨σ1, e1⟩ := r0
              clear hrs
              dsimp only at HRM
              by_cases he1 : e1 = 0
              · subst he1
                go_wp2_with (first
                  | (go_at_call 47; refine HRM.out.mono ?_; rintro e w2 ⟨rfl, hm⟩; have HM := hid (Moved.from_ HBC.out (fun k hk => .inl hk) hm); clear hm))
                go_meet
                exact ⟨σ1, HP.out, HM.out⟩
              · have hbb : (e1 != 0) = true := by simpa using he1
                have HTR := hid (show τ = (σ1, e1) by rw [← HTE.out]; unfold replaceS; rw [HP.out, if_neg he1])
                clear he1
                go_wp2_with (first
                  | (go_at_call 47; refine HRM.out.mono ?_; rintro e w2 ⟨rfl, hm⟩; have HM := hid (Moved.from_ HBC.out (fun k hk => .inl hk) hm); clear hm))
                go_ret
                rw [HTR.out]
                exact ⟨rfl, Moved.from_ HRWT.out.below (fun k hk => .inl hk) HM.out⟩
          case rest =>
            obtain ⟨σ1, HP, HMV⟩ := hcut
            have hmf : ∀ (fn : Fn) (first cap : Array Value) (w : World), (Instr.makeFunc fn first cap).run Try.prog w = .ok (.func fn first cap) w := fun _ _ _ _ => rfl
            obtain ⟨mb, mk, S1, hs1, hd1⟩ := HMV.out
            have HD1 := hid hd1
            have HF := hid (HRW.out.five HBT.out HB12.out HPP.out mk hs1 hd1.lt)
            have y3 : wc.cell? ⟨w.heap.size, 0, none⟩ = some (.pointer (some ⟨d, 0, none⟩)) := cell_blk ((mk.2 _ (Array.getElem?_eq_some_iff.1 HRWT.out.b0).1 (fun hs => Nat.lt_irrefl _ (HPP.out _ hs))).trans HRWT.out.b0) 0
            have HS1 := hid hs1
            have HB5 := hid (show Below wc.heap.size wc (wc.alloc (.cells #[Value.func (Fn.func 48) #[] #[Value.pointer (some ⟨w.heap.size, 0, none⟩), Value.pointer (some ⟨wo.heap.size, 0, none⟩)], Value.func (Fn.func 50) #[] #[Value.pointer (some ⟨w.heap.size, 0, none⟩), Value.pointer (some ⟨wo.heap.size, 0, none⟩), Value.pointer (some ⟨w.heap.size + 1 + 1, 0, none⟩)], Value.func (Fn.func 51) #[] #[Value.pointer (some ⟨w.heap.size, 0, none⟩), Value.pointer (some ⟨wo.heap.size, 0, none⟩)], Value.func (Fn.func 52) #[] #[Value.pointer (some ⟨w.heap.size, 0, none⟩), Value.pointer (some ⟨wo.heap.size, 0, none⟩), Value.pointer (some ⟨w.heap.size + 1, 0, none⟩)], Value.func (Fn.func 54) #[Value.pointer (some ⟨d, 0, none⟩)] #[]] 95)) from (Below.refl _ _).alloc (Nat.le_refl _) _)
            have HF5 : Hid (Five (wc.alloc (.cells #[Value.func (Fn.func 48) #[] #[Value.pointer (some ⟨w.heap.size, 0, none⟩), Value.pointer (some ⟨wo.heap.size, 0, none⟩)], Value.func (Fn.func 50) #[] #[Value.pointer (some ⟨w.heap.size, 0, none⟩), Value.pointer (some ⟨wo.heap.size, 0, none⟩), Value.pointer (some ⟨w.heap.size + 1 + 1, 0, none⟩)], Value.func (Fn.func 51) #[] #[Value.pointer (some ⟨w.heap.size, 0, none⟩), Value.pointer (some ⟨wo.heap.size, 0, none⟩)], Value.func (Fn.func 52) #[] #[Value.pointer (some ⟨w.heap.size, 0, none⟩), Value.pointer (some ⟨wo.heap.size, 0, none⟩), Value.pointer (some ⟨w.heap.size + 1, 0, none⟩)], Value.func (Fn.func 54) #[Value.pointer (some ⟨d, 0, none⟩)] #[]] 95)) d w.heap.size (w.heap.size + 1) (w.heap.size + 2) wo.heap.size wc.heap.size n (tmpN n) (.slice Av nv cv) acc S1) := HF
            clear mb mk hs1 hd1 HDC HF
            go_wp2_with fail
            generalize wc.alloc (.cells #[Value.func (Fn.func 48) #[] #[Value.pointer (some ⟨w.heap.size, 0, none⟩), Value.pointer (some ⟨wo.heap.size, 0, none⟩)], Value.func (Fn.func 50) #[] #[Value.pointer (some ⟨w.heap.size, 0, none⟩), Value.pointer (some ⟨wo.heap.size, 0, none⟩), Value.pointer (some ⟨w.heap.size + 1 + 1, 0, none⟩)], Value.func (Fn.func 51) #[] #[Value.pointer (some ⟨w.heap.size, 0, none⟩), Value.pointer (some ⟨wo.heap.size, 0, none⟩)], Value.func (Fn.func 52) #[] #[Value.pointer (some ⟨w.heap.size, 0, none⟩), Value.pointer (some ⟨wo.heap.size, 0, none⟩), Value.pointer (some ⟨w.heap.size + 1, 0, none⟩)], Value.func (Fn.func 54) #[Value.pointer (some ⟨d, 0, none⟩)] #[]] 95) = w5 at HB5 HF5
            have HM0 := hid (Moved.stay (HD1.out.below HB5.out) (Below.refl _ _))
            have HSP := hid (show σ1.Sound (N + 1) by
              have := HP.out
              unfold preS at this
              split at this
              · have h2 := HS.out.remove (tmpN n); rw [this] at h2; exact h2
              · rw [← (Prod.mk.inj this).1]; exact HS.out.mono (by omega))
            have HRUN0 := hid (show runS n (tmpN n) acc 5 0 σ1 = τ by rw [← HTE.out]; unfold replaceS; rw [HP.out, if_pos rfl])
            have HFIN := hid (show ∀ w', Moved w5 w' d τ.1 S1 → Moved w w' d τ.1 S from fun w' hm => Moved.from_ HRWT.out.below (fun k hk => .inl hk) (HMV.out.trans2 HS1.out (Moved.from_ HB5.out (fun k hk => .inl hk) hm)))
            clear y3 HRW HRWT HMV HP HTE HB5 HB12 HBT HBC HDT HBIG HE HR
            go_loopw [60] (fun u wr => ∃ (i : Nat) (σi : St), u = .int .i64 (i : Int) ∧ Hid (i ≤ 5) ∧ Hid (runS n (tmpN n) acc (5 - i) i σi = τ) ∧ Hid (σi.Sound (N + 1 + i * (acc.length + 1))) ∧ Hid (Moved w5 wr d σi S1)) (fun u _ => 5 - (intOf u).toNat)
            case atStart => exact ⟨0, σ1, rfl, hid (by omega), HRUN0.out, hid (by have := HSP.out; simpa using this), HM0.out⟩
            case round =>
              obtain ⟨i, σi, rfl, HI, HRUN, HSO, HMI⟩ := hrel
              obtain ⟨mb, mk, Si, hsi, hdi⟩ := HMI.out
              have HSI := hid hsi
              have HDI := hid hdi
              have HFV := hid (HF5.out.kept mk)
              have hi6 : i = 0 ∨ i = 1 ∨ i = 2 ∨ i = 3 ∨ i = 4 ∨ i = 5 := by have := HI.out; omega
              clear HRUN0 HSP HM0 mb mk hsi hdi HI
              rcases hi6 with rfl | rfl | rfl | rfl | rfl | rfl
              · have HC := hid (rw1_calls HFV.out.caps HDI.out HSO.out (by have := HN.out; have := HAC.out; omega))
                have hfn := HFV.out.fns 0 (by omega)
                simp only [stepF] at hfn
                have HRU := hid (show (if (stepS n (tmpN n) acc 0 σi).2 = 0 then runS n (tmpN n) acc 4 1 (stepS n (tmpN n) acc 0 σi).1 else stepS n (tmpN n) acc 0 σi) = τ from HRUN.out)
                have HSN := hid (show (stepS n (tmpN n) acc 0 σi).1.Sound (N + 1 + 1 * (acc.length + 1)) from (HSO.out.step n (tmpN n) acc HBY.out 0).mono (by omega))
                replace HC : Hid (Calls _ _ _ _ fun (e : Ending) w' => e = .returned (.int .i64 (stepS n (tmpN n) acc 0 σi).2) ∧ Moved wr w' d (stepS n (tmpN n) acc 0 σi).1 Si) := HC
                generalize stepS n (tmpN n) acc 0 σi = r1 at HC HRU HSN
                obtain ⟨σn, en⟩ := r1
                dsimp only at HC HRU HSN
                clear HRUN HSO
                by_cases hen : en = 0
                · subst hen
                  have HRN := hid ((if_pos rfl).symm.trans HRU.out)
                  clear HRU
                  go_wp2_with (go_at_call 48; refine HC.out.mono ?_; rintro e w6 ⟨rfl, hm6⟩; have HM6 := hid hm6; clear hm6)
                  go_roundw
                  case rel => exact ⟨1, σn, rfl, hid (by omega), HRN.out, HSN.out, HMI.out.trans2 HSI.out HM6.out⟩
                  case measure => simp [intOf]
                · have HTN := hid (show τ = (σn, en) by rw [← HRU.out, if_neg hen])
                  have hbb : (en != 0) = true := by simpa using hen
                  clear hen HRU
                  go_wp2_with (go_at_call 48; refine HC.out.mono ?_; rintro e w6 ⟨rfl, hm6⟩; have HM6 := hid hm6; clear hm6)
                  go_ret
                  have hfin := HFIN.out w6
                  rw [HTN.out] at hfin ⊢
                  exact ⟨rfl, hfin (HMI.out.trans2 HSI.out HM6.out)⟩
              · have HC := hid (rw2_calls HFV.out.caps HDI.out HSO.out (by have := HN.out; have := HAC.out; omega) HFV.out.row)
                have hfn := HFV.out.fns 1 (by omega)
                simp only [stepF] at hfn
                have HRU := hid (show (if (stepS n (tmpN n) acc 1 σi).2 = 0 then runS n (tmpN n) acc 3 2 (stepS n (tmpN n) acc 1 σi).1 else stepS n (tmpN n) acc 1 σi) = τ from HRUN.out)
                have HSN := hid (show (stepS n (tmpN n) acc 1 σi).1.Sound (N + 1 + 2 * (acc.length + 1)) from (HSO.out.step n (tmpN n) acc HBY.out 1).mono (by omega))
                replace HC : Hid (Calls _ _ _ _ fun (e : Ending) w' => e = .returned (.int .i64 (stepS n (tmpN n) acc 1 σi).2) ∧ Moved wr w' d (stepS n (tmpN n) acc 1 σi).1 Si) := HC
                generalize stepS n (tmpN n) acc 1 σi = r1 at HC HRU HSN
                obtain ⟨σn, en⟩ := r1
                dsimp only at HC HRU HSN
                clear HRUN HSO
                by_cases hen : en = 0
                · subst hen
                  have HRN := hid ((if_pos rfl).symm.trans HRU.out)
                  clear HRU
                  go_wp2_with (go_at_call 50; refine HC.out.mono ?_; rintro e w6 ⟨rfl, hm6⟩; have HM6 := hid hm6; clear hm6)
                  go_roundw
                  case rel => exact ⟨2, σn, rfl, hid (by omega), HRN.out, HSN.out, HMI.out.trans2 HSI.out HM6.out⟩
                  case measure => simp [intOf]
                · have HTN := hid (show τ = (σn, en) by rw [← HRU.out, if_neg hen])
                  have hbb : (en != 0) = true := by simpa using hen
                  clear hen HRU
                  go_wp2_with (go_at_call 50; refine HC.out.mono ?_; rintro e w6 ⟨rfl, hm6⟩; have HM6 := hid hm6; clear hm6)
                  go_ret
                  have hfin := HFIN.out w6
                  rw [HTN.out] at hfin ⊢
                  exact ⟨rfl, hfin (HMI.out.trans2 HSI.out HM6.out)⟩
              · have HC := hid (rw3_calls HFV.out.caps HDI.out HSO.out)
                have hfn := HFV.out.fns 2 (by omega)
                simp only [stepF] at hfn
                have HRU := hid (show (if (stepS n (tmpN n) acc 2 σi).2 = 0 then runS n (tmpN n) acc 2 3 (stepS n (tmpN n) acc 2 σi).1 else stepS n (tmpN n) acc 2 σi) = τ from HRUN.out)
                have HSN := hid (show (stepS n (tmpN n) acc 2 σi).1.Sound (N + 1 + 3 * (acc.length + 1)) from (HSO.out.step n (tmpN n) acc HBY.out 2).mono (by omega))
                replace HC : Hid (Calls _ _ _ _ fun (e : Ending) w' => e = .returned (.int .i64 (stepS n (tmpN n) acc 2 σi).2) ∧ Moved wr w' d (stepS n (tmpN n) acc 2 σi).1 Si) := HC
                generalize stepS n (tmpN n) acc 2 σi = r1 at HC HRU HSN
                obtain ⟨σn, en⟩ := r1
                dsimp only at HC HRU HSN
                clear HRUN HSO
                by_cases hen : en = 0
                · subst hen
                  have HRN := hid ((if_pos rfl).symm.trans HRU.out)
                  clear HRU
                  go_wp2_with (go_at_call 51; refine HC.out.mono ?_; rintro e w6 ⟨rfl, hm6⟩; have HM6 := hid hm6; clear hm6)
                  go_roundw
                  case rel => exact ⟨3, σn, rfl, hid (by omega), HRN.out, HSN.out, HMI.out.trans2 HSI.out HM6.out⟩
                  case measure => simp [intOf]
                · have HTN := hid (show τ = (σn, en) by rw [← HRU.out, if_neg hen])
                  have hbb : (en != 0) = true := by simpa using hen
                  clear hen HRU
                  go_wp2_with (go_at_call 51; refine HC.out.mono ?_; rintro e w6 ⟨rfl, hm6⟩; have HM6 := hid hm6; clear hm6)
                  go_ret
                  have hfin := HFIN.out w6
                  rw [HTN.out] at hfin ⊢
                  exact ⟨rfl, hfin (HMI.out.trans2 HSI.out HM6.out)⟩
              · have HC := hid (rw4_calls HFV.out.caps HDI.out HSO.out (by have := HN.out; have := HAC.out; omega))
                have hfn := HFV.out.fns 3 (by omega)
                simp only [stepF] at hfn
                have HRU := hid (show (if (stepS n (tmpN n) acc 3 σi).2 = 0 then runS n (tmpN n) acc 1 4 (stepS n (tmpN n) acc 3 σi).1 else stepS n (tmpN n) acc 3 σi) = τ from HRUN.out)
                have HSN := hid (show (stepS n (tmpN n) acc 3 σi).1.Sound (N + 1 + 4 * (acc.length + 1)) from (HSO.out.step n (tmpN n) acc HBY.out 3).mono (by omega))
                replace HC : Hid (Calls _ _ _ _ fun (e : Ending) w' => e = .returned (.int .i64 (stepS n (tmpN n) acc 3 σi).2) ∧ Moved wr w' d (stepS n (tmpN n) acc 3 σi).1 Si) := HC
                generalize stepS n (tmpN n) acc 3 σi = r1 at HC HRU HSN
                obtain ⟨σn, en⟩ := r1
                dsimp only at HC HRU HSN
                clear HRUN HSO
                by_cases hen : en = 0
                · subst hen
                  have HRN := hid ((if_pos rfl).symm.trans HRU.out)
                  clear HRU
                  go_wp2_with (go_at_call 52; refine HC.out.mono ?_; rintro e w6 ⟨rfl, hm6⟩; have HM6 := hid hm6; clear hm6)
                  go_roundw
                  case rel => exact ⟨4, σn, rfl, hid (by omega), HRN.out, HSN.out, HMI.out.trans2 HSI.out HM6.out⟩
                  case measure => simp [intOf]
                · have HTN := hid (show τ = (σn, en) by rw [← HRU.out, if_neg hen])
                  have hbb : (en != 0) = true := by simpa using hen
                  clear hen HRU
                  go_wp2_with (go_at_call 52; refine HC.out.mono ?_; rintro e w6 ⟨rfl, hm6⟩; have HM6 := hid hm6; clear hm6)
                  go_ret
                  have hfin := HFIN.out w6
                  rw [HTN.out] at hfin ⊢
                  exact ⟨rfl, hfin (HMI.out.trans2 HSI.out HM6.out)⟩
              · have HC := hid (syncDir_calls d σi Si wr HDI.out (by have := HSO.out.cur; have := HN.out; have := HAC.out; omega))
                have hfn := HFV.out.fns 4 (by omega)
                simp only [stepF] at hfn
                have HRU := hid (show (if (stepS n (tmpN n) acc 4 σi).2 = 0 then runS n (tmpN n) acc 0 5 (stepS n (tmpN n) acc 4 σi).1 else stepS n (tmpN n) acc 4 σi) = τ from HRUN.out)
                have HSN := hid (show (stepS n (tmpN n) acc 4 σi).1.Sound (N + 1 + 5 * (acc.length + 1)) from (HSO.out.step n (tmpN n) acc HBY.out 4).mono (by omega))
                replace HC : Hid (Calls _ _ _ _ fun (e : Ending) w' => e = .returned (.int .i64 (stepS n (tmpN n) acc 4 σi).2) ∧ Moved wr w' d (stepS n (tmpN n) acc 4 σi).1 Si) := HC
                generalize stepS n (tmpN n) acc 4 σi = r1 at HC HRU HSN
                obtain ⟨σn, en⟩ := r1
                dsimp only at HC HRU HSN
                clear HRUN HSO
                by_cases hen : en = 0
                · subst hen
                  have HRN := hid ((if_pos rfl).symm.trans HRU.out)
                  clear HRU
                  go_wp2_with (go_at_call 54; refine HC.out.mono ?_; rintro e w6 ⟨rfl, hm6⟩; have HM6 := hid hm6; clear hm6)
                  go_roundw
                  case rel => exact ⟨5, σn, rfl, hid (by omega), HRN.out, HSN.out, HMI.out.trans2 HSI.out HM6.out⟩
                  case measure => simp [intOf]
                · have HTN := hid (show τ = (σn, en) by rw [← HRU.out, if_neg hen])
                  have hbb : (en != 0) = true := by simpa using hen
                  clear hen HRU
                  go_wp2_with (go_at_call 54; refine HC.out.mono ?_; rintro e w6 ⟨rfl, hm6⟩; have HM6 := hid hm6; clear hm6)
                  go_ret
                  have hfin := HFIN.out w6
                  rw [HTN.out] at hfin ⊢
                  exact ⟨rfl, hfin (HMI.out.trans2 HSI.out HM6.out)⟩
              · have HTN := hid (show (σi, (0 : Int)) = τ from HRUN.out)
                clear HRUN
                go_wp2_with fail
                go_ret
                have hfin := HFIN.out wr
                rw [← HTN.out] at hfin ⊢
                exact ⟨rfl, hfin HMI.out⟩
end Go.Proofs.Ytfkgpmidcbjlbaa.H
end
section
set_option linter.unusedVariables false
set_option linter.unusedSimpArgs false
/- commitlog.Open. -/
namespace Go.Proofs.Ytfkgpmidcbjlbaa.H
open Go.RowKit Go.Proofs.Ytfkgpmidcbjlbaa.U Go.Proofs.YtfkgpmidcbjlbaaW.PrintWords Go.Proofs.Ytfkgpmidcbjlbaa.P

def openS (σ : St) (n : ByteArray) : St × List LE × Int :=
  if hasN (listS σ) n = true then
    (if (readS σ n).2 = 0 then
      (if (scanA (readS σ n).1).2 = ((readS σ n).1.length : Int) then (σ, (scanA (readS σ n).1).1, 0)
       else if (scanA (readS σ n).1).1.length = 65536 then (σ, [], 12)
       else if (rewriteS σ n (scanA (readS σ n).1).1).2 = 0 then ((rewriteS σ n (scanA (readS σ n).1).1).1, (scanA (readS σ n).1).1, 0)
       else ((rewriteS σ n (scanA (readS σ n).1).1).1, [], (rewriteS σ n (scanA (readS σ n).1).1).2))
     else (σ, [], (readS σ n).2))
  else ((rewriteS σ n []).1, [], (rewriteS σ n []).2)
/-- what Open leaves: the disk, and a row that is none of it -/
def Opened (w w' : World) (d : Nat) (σ' : St) (S : Nat → Prop) (v : Value) (E : List LE) : Prop :=
  Below 0 w w' ∧ Kept w w' S ∧ ∃ S' : Nat → Prop, (∀ k, S' k → S k ∨ w.heap.size ≤ k) ∧ DiskAt w' d σ' S' ∧ Kd.R k23 23 w' w.heap.size (fun k => ¬ S' k) v E
theorem Opened.nil {w w' : World} {d : Nat} {σ' : St} {S : Nat → Prop} (h : Moved w w' d σ' S) : Opened w w' d σ' S (.slice none 0 0) [] := by
  obtain ⟨h1, h2, S', h3, h4⟩ := h
  exact ⟨h1, h2, S', h3, h4, Kd.R_nil _ _ _ _ _⟩
theorem Opened.row {w w1 w2 : World} {d : Nat} {σ' : St} {S : Nat → Prop} {v : Value} {E : List LE} {base : Nat} (hS : ∀ k, S k → k < w.heap.size) (hb : Below w.heap.size w w1) (hr : Kd.R k23 23 w1 base (fun _ => True) v E) (hle : w.heap.size ≤ base) (h : Moved w1 w2 d σ' S) : Opened w w2 d σ' S v E := by
  obtain ⟨h1, h2, S', h3, h4⟩ := h
  have hrow : ∀ j, v.ownBlock = some j → base ≤ j ∧ j < w1.heap.size := fun j hj => ⟨Kd.N_base (Kd.R_N hr) j hj, Kd.N_lt (Kd.R_N hr) j hj⟩
  refine ⟨(hb.mono (Nat.zero_le _)).trans h1, (Kept.of_below hb S).then_ h2 (fun _ h => .inl h), S', fun k hk => ?_, h4, ?_⟩
  · rcases h3 k hk with h | h
    · exact .inl h
    · exact .inr (Nat.le_trans hb.size h)
  · have h5 := Kd.R_lower (row_same rfl hr (fun j hj => h2.2 j (hrow j hj).2 (fun hs => by have := hS j hs; have := (hrow j hj).1; omega))) hle
    refine Kd.R_reok rfl h5 (fun k hk hs => ?_)
    have := hrow k hk
    rcases h3 k hs with h | h
    · have := hS k h; omega
    · omega
theorem readS_bytes {σ : St} {N : Nat} (h : σ.Sound N) (n : ByteArray) : Bytes (readS σ n).1 ∧ (readS σ n).1.length ≤ N := by
  unfold readS
  split
  · split
    · exact ⟨fun y hy => (by cases hy), Nat.zero_le _⟩
    · next i hi =>
      have := h.file _ (fileAt_mem (Ok_get h.ok hi))
      exact ⟨this.2.2, this.2.1⟩
  · exact ⟨fun y hy => (by cases hy), Nat.zero_le _⟩
set_option maxRecDepth 100000 in
set_option maxHeartbeats 4000000 in
theorem open_calls (d : Nat) (σ : St) (S : Nat → Prop) (N : Nat) (n : ByteArray) (w : World) (h : DiskAt w d σ S) (hs : σ.Sound N) (hN : N ≤ 274877906944) (hn : n.size ≤ 1099511627776) :
    Calls Try.prog 18 #[.pointer (some ⟨d, 0, none⟩), .string n] w fun e w' => ∃ v : Value, e = .returned (.tuple #[v, .int .i64 (openS σ n).2.2]) ∧ Opened w w' d (openS σ n).1 S v (openS σ n).2.1 := by
  have H := hid h
  have HLE := hid (show σ.cur.length ≤ 1099511627776 by have := hs.cur; omega)
  have HLI := hid (list_calls d σ S w h HLE.out)
  have HBY := hid (readS_bytes hs n)
  have HRD := hid (fun (w1 : World) (hb : Below w.heap.size w w1) => read_calls d σ S n w1 (h.below hb) hs.ok (fun f hf => by have := (hs.file f hf).2.1; omega))
  have HRW := hid (fun (E : List LE) (hE : ∀ x ∈ E, Small x) (A0 : Option Addr) (k0 : Nat) (w1 : World) (hb : Below w.heap.size w w1) (hr : Kd.C k23 w1 A0 E.length E) (hk : E.length ≤ k0) => rewrite_calls d σ S N n E A0 k0 w1 (h.below hb) hs hN hE hn hr hk)
  have HLT := hid h.lt
  have HNB := hid hN
  clear h hs hN hn
  unfold openS
  cases hh : hasN (listS σ) n with
  | false =>
    rw [if_neg (by decide)]
    have HC := hid (fun (w1 : World) (hb : Below w.heap.size w w1) => (show Calls Try.prog 23 #[.pointer (some ⟨d, 0, none⟩), .string n, .slice none 0 0] w1 fun e w' => e = .returned (.int .i64 (rewriteS σ n []).2) ∧ Moved w1 w' d (rewriteS σ n []).1 S from HRW.out [] (fun x hx => (by cases hx)) none 0 w1 hb (Kd.C_nil _ _) (Nat.le_refl _)))
    generalize rewriteS σ n [] = r at HC
    clear HRW HRD HBY
    go_enter Try.func18, Try.ntmps18
    go_wp2_with (first
      | (go_at_call 39; refine HLI.out.mono ?_; rintro e w2 ⟨v2, rfl, hr2, hb2⟩; obtain ⟨A2, n2, c2, rfl⟩ := R_slice3 hr2; have HR2 := hid (Kd.R_lower hr2 (Nat.zero_le _)); have HB2 := hid hb2; clear hr2 hb2)
      | (go_at_call 38; refine (contains_calls _ _ _ (listS σ) n _ HR2.out (by show (σ.cur.map (·.1)).length ≤ _; rw [List.length_map]; exact HLE.out)).mono ?_; rw [hh]; rintro e w4 ⟨rfl, hd4⟩; have HB4 := hid (HB2.out.trans (hd4.below.mono HB2.out.size)); clear hd4)
      | (go_at_call 23; refine (HC.out _ HB4.out).mono ?_; rintro e w5 ⟨rfl, hm5⟩; have HM5 := hid hm5; clear hm5))
    go_ret2
    exact ⟨_, rfl, Opened.nil (Moved.from_ HB4.out (fun k hk => .inl hk) HM5.out)⟩
  | true =>
    rw [if_pos rfl]
    by_cases hre : (readS σ n).2 = 0
    · rw [if_pos hre]
      rw [hre] at HRD
      clear hre
      generalize (readS σ n).1 = l at HBY HRD
      have HSC := hid (scanA_ok l HBY.out.1)
      obtain ⟨ks, hks⟩ := (scan_impl l HBY.out.1 (by have := HBY.out.2; have := HNB.out; omega)).get
      have HKS := hid hks
      clear hks
      generalize scanA l = sc at HSC HKS
      obtain ⟨E, en⟩ := sc
      have HES := hid (show ∀ x ∈ E, Small x from fun x hx => by
        obtain ⟨E', e', h1, _, h2, _⟩ := HSC.out
        obtain ⟨rfl, _⟩ := Prod.mk.inj h1
        exact small_of_good (h2 x hx))
      have HEL := hid (show E.length ≤ 65536 by
        obtain ⟨E', e', h1, _, _, _, h2⟩ := HSC.out
        obtain ⟨rfl, _⟩ := Prod.mk.inj h1
        exact h2)
      dsimp only
      clear HSC
      have hel := HEL.out
      by_cases hel1 : en = (l.length : Int)
      · rw [if_pos hel1]
        have HE1 := hid hel1
        subst hel1
        clear HRW
        go_enter Try.func18, Try.ntmps18
        go_wp2_with (first
          | (go_at_call 39; refine HLI.out.mono ?_; rintro e w2 ⟨v2, rfl, hr2, hb2⟩; obtain ⟨A2, n2, c2, rfl⟩ := R_slice3 hr2; have HR2 := hid (Kd.R_lower hr2 (Nat.zero_le _)); have HB2 := hid hb2; clear hr2 hb2)
          | (go_at_call 38; refine (contains_calls _ _ _ (listS σ) n _ HR2.out (by show (σ.cur.map (·.1)).length ≤ _; rw [List.length_map]; exact HLE.out)).mono ?_; rw [hh]; rintro e w4 ⟨rfl, hd4⟩; have HB4 := hid (HB2.out.trans (hd4.below.mono HB2.out.size)); clear hd4)
          | (go_at_call 40; refine (HRD.out _ HB4.out).mono ?_; rintro e w5 ⟨v5, rfl, hr5, hb5⟩; obtain ⟨A5, c5, rfl⟩ := Kd.R_slice hr5; have HR5 := hid hr5; have HB5 := hid (HB4.out.trans (hb5.mono HB4.out.size)); clear hr5 hb5)
          | (go_at_call 13; refine (commitlog_Scan.calls ks A5 c5 l E _ _ (Kd.R_reads' HR5.out).2.2 (Kd.R_reads' HR5.out).2.1 HKS.out).mono ?_; rintro e w6 ⟨v6, rfl, hr6, hb6⟩; obtain ⟨A6, n6, c6, rfl⟩ := R_slice3 hr6; have HR6 := hid hr6; have HB6 := hid (HB5.out.trans (hb6.mono HB5.out.size)); clear hr6 hb6))
        go_ret2
        exact ⟨_, rfl, Opened.row HLT.out HB6.out HR6.out HB5.out.size (Moved.stay (H.out.below HB6.out) (Below.refl _ _))⟩
      · rw [if_neg hel1]
        have hbb : (en == (l.length : Int)) = false := by simpa using hel1
        clear hel1
        by_cases hfull : E.length = 65536
        · rw [if_pos hfull]
          have HF := hid hfull
          clear hfull HRW
          go_enter Try.func18, Try.ntmps18
          go_wp2_with (first
            | (go_at_call 39; refine HLI.out.mono ?_; rintro e w2 ⟨v2, rfl, hr2, hb2⟩; obtain ⟨A2, n2, c2, rfl⟩ := R_slice3 hr2; have HR2 := hid (Kd.R_lower hr2 (Nat.zero_le _)); have HB2 := hid hb2; clear hr2 hb2)
            | (go_at_call 38; refine (contains_calls _ _ _ (listS σ) n _ HR2.out (by show (σ.cur.map (·.1)).length ≤ _; rw [List.length_map]; exact HLE.out)).mono ?_; rw [hh]; rintro e w4 ⟨rfl, hd4⟩; have HB4 := hid (HB2.out.trans (hd4.below.mono HB2.out.size)); clear hd4)
            | (go_at_call 40; refine (HRD.out _ HB4.out).mono ?_; rintro e w5 ⟨v5, rfl, hr5, hb5⟩; obtain ⟨A5, c5, rfl⟩ := Kd.R_slice hr5; have HR5 := hid hr5; have HB5 := hid (HB4.out.trans (hb5.mono HB4.out.size)); clear hr5 hb5)
            | (go_at_call 13; refine (commitlog_Scan.calls ks A5 c5 l E _ _ (Kd.R_reads' HR5.out).2.2 (Kd.R_reads' HR5.out).2.1 HKS.out).mono ?_; rintro e w6 ⟨v6, rfl, hr6, hb6⟩; obtain ⟨A6, n6, c6, rfl⟩ := R_slice3 hr6; have hn6 : ((n6 : Int) == 65536) = true := (by rw [(Kd.R_reads' hr6).1, HF.out]; rfl); have HB6 := hid (HB5.out.trans (hb6.mono HB5.out.size)); clear hr6 hb6))
          go_ret2
          exact ⟨_, rfl, Opened.nil (Moved.stay H.out HB6.out)⟩
        · rw [if_neg hfull]
          have HF := hid hfull
          have HC := hid (HRW.out E HES.out)
          clear hfull HRW
          generalize rewriteS σ n E = r at HC
          obtain ⟨σr, er⟩ := r
          dsimp only at HC ⊢
          by_cases her : er = 0
          · subst her
            rw [if_pos rfl]
            go_enter Try.func18, Try.ntmps18
            go_wp2_with (first
              | (go_at_call 39; refine HLI.out.mono ?_; rintro e w2 ⟨v2, rfl, hr2, hb2⟩; obtain ⟨A2, n2, c2, rfl⟩ := R_slice3 hr2; have HR2 := hid (Kd.R_lower hr2 (Nat.zero_le _)); have HB2 := hid hb2; clear hr2 hb2)
              | (go_at_call 38; refine (contains_calls _ _ _ (listS σ) n _ HR2.out (by show (σ.cur.map (·.1)).length ≤ _; rw [List.length_map]; exact HLE.out)).mono ?_; rw [hh]; rintro e w4 ⟨rfl, hd4⟩; have HB4 := hid (HB2.out.trans (hd4.below.mono HB2.out.size)); clear hd4)
              | (go_at_call 40; refine (HRD.out _ HB4.out).mono ?_; rintro e w5 ⟨v5, rfl, hr5, hb5⟩; obtain ⟨A5, c5, rfl⟩ := Kd.R_slice hr5; have HR5 := hid hr5; have HB5 := hid (HB4.out.trans (hb5.mono HB4.out.size)); clear hr5 hb5)
              | (go_at_call 13; refine (commitlog_Scan.calls ks A5 c5 l E _ _ (Kd.R_reads' HR5.out).2.2 (Kd.R_reads' HR5.out).2.1 HKS.out).mono ?_; rintro e w6 ⟨v6, rfl, hr6, hb6⟩; obtain ⟨A6, c6, rfl⟩ := Kd.R_slice hr6; have hn6 : ((E.length : Int) == 65536) = false := (by have := HF.out; simp; omega); have HR6 := hid hr6; have HB6 := hid (HB5.out.trans (hb6.mono HB5.out.size)); clear hr6 hb6)
              | (go_at_call 23; refine (HC.out A6 c6 _ HB6.out (Kd.R_reads' HR6.out).2.2 (Kd.R_reads' HR6.out).2.1).mono ?_; rintro e w7 ⟨rfl, hm7⟩; have HM7 := hid hm7; clear hm7))
            go_ret2
            exact ⟨_, rfl, Opened.row HLT.out HB6.out HR6.out HB5.out.size HM7.out⟩
          · rw [if_neg her]
            have hbe : (er != 0) = true := by simpa using her
            clear her
            go_enter Try.func18, Try.ntmps18
            go_wp2_with (first
              | (go_at_call 39; refine HLI.out.mono ?_; rintro e w2 ⟨v2, rfl, hr2, hb2⟩; obtain ⟨A2, n2, c2, rfl⟩ := R_slice3 hr2; have HR2 := hid (Kd.R_lower hr2 (Nat.zero_le _)); have HB2 := hid hb2; clear hr2 hb2)
              | (go_at_call 38; refine (contains_calls _ _ _ (listS σ) n _ HR2.out (by show (σ.cur.map (·.1)).length ≤ _; rw [List.length_map]; exact HLE.out)).mono ?_; rw [hh]; rintro e w4 ⟨rfl, hd4⟩; have HB4 := hid (HB2.out.trans (hd4.below.mono HB2.out.size)); clear hd4)
              | (go_at_call 40; refine (HRD.out _ HB4.out).mono ?_; rintro e w5 ⟨v5, rfl, hr5, hb5⟩; obtain ⟨A5, c5, rfl⟩ := Kd.R_slice hr5; have HR5 := hid hr5; have HB5 := hid (HB4.out.trans (hb5.mono HB4.out.size)); clear hr5 hb5)
              | (go_at_call 13; refine (commitlog_Scan.calls ks A5 c5 l E _ _ (Kd.R_reads' HR5.out).2.2 (Kd.R_reads' HR5.out).2.1 HKS.out).mono ?_; rintro e w6 ⟨v6, rfl, hr6, hb6⟩; obtain ⟨A6, c6, rfl⟩ := Kd.R_slice hr6; have hn6 : ((E.length : Int) == 65536) = false := (by have := HF.out; simp; omega); have HR6 := hid hr6; have HB6 := hid (HB5.out.trans (hb6.mono HB5.out.size)); clear hr6 hb6)
              | (go_at_call 23; refine (HC.out A6 c6 _ HB6.out (Kd.R_reads' HR6.out).2.2 (Kd.R_reads' HR6.out).2.1).mono ?_; rintro e w7 ⟨rfl, hm7⟩; have HM7 := hid hm7; clear hm7))
            go_ret2
            exact ⟨_, rfl, Opened.nil (Moved.from_ HB6.out (fun k hk => .inl hk) HM7.out)⟩
    · rw [if_neg hre]
      have hbb : ((readS σ n).2 != 0) = true := by simpa using hre
      generalize readS σ n = r at HRD hbb
      clear hre HRW HBY
      go_enter Try.func18, Try.ntmps18
      go_wp2_with (first
        | (go_at_call 39; refine HLI.out.mono ?_; rintro e w2 ⟨v2, rfl, hr2, hb2⟩; obtain ⟨A2, n2, c2, rfl⟩ := R_slice3 hr2; have HR2 := hid (Kd.R_lower hr2 (Nat.zero_le _)); have HB2 := hid hb2; clear hr2 hb2)
        | (go_at_call 38; refine (contains_calls _ _ _ (listS σ) n _ HR2.out (by show (σ.cur.map (·.1)).length ≤ _; rw [List.length_map]; exact HLE.out)).mono ?_; rw [hh]; rintro e w4 ⟨rfl, hd4⟩; have HB4 := hid (HB2.out.trans (hd4.below.mono HB2.out.size)); clear hd4)
        | (go_at_call 40; refine (HRD.out _ HB4.out).mono ?_; rintro e w5 ⟨v5, rfl, hr5, hb5⟩; have HB5 := hid (HB4.out.trans (hb5.mono HB4.out.size)); clear hr5 hb5))
      go_ret2
      exact ⟨_, rfl, Opened.nil (Moved.stay H.out HB5.out)⟩
end Go.Proofs.Ytfkgpmidcbjlbaa.H
end
section
set_option linter.unusedVariables false
set_option linter.unusedSimpArgs false
/- The bounds behind Rewrite and Open; the sample results of lives, in plain words. -/
namespace Go.Proofs.Ytfkgpmidcbjlbaa.H
open Go.RowKit Go.Proofs.Ytfkgpmidcbjlbaa.U Go.Proofs.YtfkgpmidcbjlbaaW.PrintWords Go.Proofs.Ytfkgpmidcbjlbaa.P

theorem St.Sound.run (n f : ByteArray) (b : List Int) (hb : Bytes b) : ∀ (k i : Nat) (σ : St) (N : Nat), σ.Sound N → (runS n f b k i σ).1.Sound (N + k * (b.length + 1))
  | 0, _, σ, N, h => h.mono (by omega)
  | k + 1, i, σ, N, h => by
    unfold runS
    have h1 := h.step n f b hb i
    split
    · refine (St.Sound.run n f b hb k (i + 1) _ _ h1).mono ?_
      rw [Nat.succ_mul]; omega
    · refine h1.mono ?_
      rw [Nat.succ_mul]; omega
theorem St.Sound.pre {σ : St} {N : Nat} (h : σ.Sound N) (f : ByteArray) : (preS f σ).1.Sound (N + 1) := by
  unfold preS
  split
  · exact h.remove f
  · exact h.mono (by omega)
theorem St.Sound.replace {σ : St} {N : Nat} (h : σ.Sound N) (n : ByteArray) (b : List Int) (hb : Bytes b) : (replaceS σ n b).1.Sound (N + 1 + 5 * (b.length + 1)) := by
  unfold replaceS
  split
  · exact St.Sound.run _ _ _ hb _ _ _ _ (h.pre _)
  · exact (h.pre _).mono (by omega)
theorem encAll_sound : ∀ (E : List LE) (acc : List Int), (∀ x ∈ E, Small x) → Bytes acc → Bytes (encAll E acc).1 ∧ (encAll E acc).1.length ≤ acc.length + 97 * E.length
  | [], acc, _, hb => ⟨hb, by simp [encAll]⟩
  | x :: r, acc, hs, hb => by
    unfold encAll
    split
    · have := encAll_sound r (acc ++ (encE x).1) (fun y hy => hs y (List.mem_cons_of_mem _ hy)) (hb.app (encE_bytes x))
      refine ⟨this.1, Nat.le_trans this.2 ?_⟩
      have h2 := encE_len x (hs x List.mem_cons_self)
      rw [List.length_append, List.length_cons]
      omega
    · exact ⟨hb, by simp⟩
theorem St.Sound.rewrite {σ : St} {N : Nat} (h : σ.Sound N) (n : ByteArray) (E : List LE) (hE : ∀ x ∈ E, Small x) : (rewriteS σ n E).1.Sound (N + 32000000) := by
  unfold rewriteS
  split
  · exact h.mono (by omega)
  · next hl =>
    have hs := encAll_sound E [] hE (fun y hy => (by cases hy))
    split
    · refine (h.replace n _ hs.1).mono ?_
      have := hs.2
      rw [List.length_nil] at this
      omega
    · exact h.mono (by omega)
theorem St.Sound.open_ {σ : St} {N : Nat} (h : σ.Sound N) (n : ByteArray) : (openS σ n).1.Sound (N + 32000000) := by
  unfold openS
  split
  · have hb := readS_bytes h n
    have hsm : ∀ x ∈ (scanA (readS σ n).1).1, Small x := fun x hx => by
      obtain ⟨E, e, h1, _, h2, _⟩ := scanA_ok _ hb.1
      rw [h1] at hx
      exact small_of_good (h2 x hx)
    split
    · split
      · exact h.mono (by omega)
      · split
        · exact h.mono (by omega)
        · split
          · exact h.rewrite n _ hsm
          · exact h.rewrite n _ hsm
    · exact h.mono (by omega)
  · exact h.rewrite n [] (fun x hx => (by cases hx))
/-! the samples -/
def tagE : LE := ⟨3, 5, 0, 0, 0, ⟨#[97]⟩⟩
def logN : ByteArray := ⟨#[108, 111, 103]⟩
def σa : St := (openS St.new logN).1
def σb : St := (logAppendS σa logN tagE).1
def σc : St := crashS σb 0 []
def recT : List Int := (encE tagE).1
def isTag (x : LE) : Bool := decide (x.f0 = 3) && decide (x.f1 = 5) && decide (x.f2 = 0) && decide (x.f3 = 0) && decide (x.f4 = 0) && decide (x.f5.data.toList = [97])
theorem isTag_iff {x : LE} (h : isTag x = true) : x = tagE := by
  unfold isTag at h
  simp only [Bool.and_eq_true, decide_eq_true_eq] at h
  obtain ⟨⟨⟨⟨⟨h0, h1⟩, h2⟩, h3⟩, h4⟩, h5⟩ := h
  cases x
  simp only at h0 h1 h2 h3 h4 h5
  subst h0 h1 h2 h3 h4
  unfold tagE
  congr
  exact ByteArray.ext (Array.toList_inj.1 h5)
theorem only_tag {l : List LE} (h : (l.length == 1 && l.all isTag) = true) : l = [tagE] := by
  simp only [Bool.and_eq_true, beq_iff_eq, List.all_eq_true] at h
  match l, h with
  | [x], ⟨_, h⟩ => rw [isTag_iff (h x (by simp))]
set_option maxRecDepth 100000
theorem small_tag : Small tagE := ⟨by decide +kernel, by decide +kernel, by decide +kernel, by decide +kernel⟩
theorem recT_ok : (encE tagE).2 = 0 := by decide +kernel
theorem recT_len : recT.length = 12 := by decide +kernel
theorem recT_head : recT.take 8 = [7, 3, 5, 0, 0, 0, 1, 97] := by decide +kernel
theorem decT : decodeS recT 0 = (3, 5, 0, 0, 0, ⟨#[97]⟩, 12, 0) := by
  have h : (decide ((decodeS recT 0).1 = 3) && decide ((decodeS recT 0).2.1 = 5) && decide ((decodeS recT 0).2.2.1 = 0) && decide ((decodeS recT 0).2.2.2.1 = 0) && decide ((decodeS recT 0).2.2.2.2.1 = 0) && decide ((decodeS recT 0).2.2.2.2.2.1.data.toList = [97]) && decide ((decodeS recT 0).2.2.2.2.2.2.1 = 12) && decide ((decodeS recT 0).2.2.2.2.2.2.2 = 0)) = true := by decide +kernel
  generalize decodeS recT 0 = r at h
  obtain ⟨a, b, c, d, e, f, g, i⟩ := r
  simp only [Bool.and_eq_true, decide_eq_true_eq] at h
  obtain ⟨⟨⟨⟨⟨⟨⟨h0, h1⟩, h2⟩, h3⟩, h4⟩, h5⟩, h6⟩, h7⟩ := h
  subst h0 h1 h2 h3 h4 h6 h7
  rw [show f = (⟨#[97]⟩ : ByteArray) from ByteArray.ext (Array.toList_inj.1 h5)]
theorem scanT : scanA (recT ++ [7, 3]) = ([tagE], 12) := by
  have h : ((scanA (recT ++ [7, 3])).1.length == 1 && (scanA (recT ++ [7, 3])).1.all isTag) = true := by decide +kernel
  have h2 : (scanA (recT ++ [7, 3])).2 = 12 := by decide +kernel
  exact Prod.ext (only_tag h) h2
theorem open1 : (openS St.new logN).2 = ([], 0) := by
  have h : (openS St.new logN).2.1.length = 0 := by decide +kernel
  have h2 : (openS St.new logN).2.2 = 0 := by decide +kernel
  exact Prod.ext (List.length_eq_zero_iff.1 h) h2
theorem append1 : (logAppendS σa logN tagE).2 = 0 := by decide +kernel
theorem open2 : (openS σc logN).2 = ([tagE], 0) := by
  have h : ((openS σc logN).2.1.length == 1 && (openS σc logN).2.1.all isTag) = true := by decide +kernel
  have h2 : (openS σc logN).2.2 = 0 := by decide +kernel
  exact Prod.ext (only_tag h) h2
theorem soundA : σa.Sound 32000000 := (St.Sound.new.open_ logN).mono (Nat.le_refl _)
theorem soundB : σb.Sound 32000097 := soundA.logAppend logN tagE small_tag
theorem soundC : σc.Sound 32000097 := soundB.crash 0 []
end Go.Proofs.Ytfkgpmidcbjlbaa.H
end
section
set_option linter.unusedVariables false
set_option linter.unusedSimpArgs false
/- Small plain facts that two laws share. -/
namespace Go.Proofs.Ytfkgpmidcbjlbaa.H
open Go.RowKit Go.Proofs.Ytfkgpmidcbjlbaa.U Go.Proofs.Ytfkgpmidcbjlbaa.P
theorem xor_ne (x y : Int) (hx : 0 ≤ x ∧ x < 256) (hy : 0 ≤ y ∧ y < 256) (hne : y ≠ 0) : Go.bits .xor .u8 x y ≠ x := by
  obtain ⟨a, rfl⟩ : ∃ a : Nat, x = (a : Int) := ⟨x.toNat, by omega⟩
  obtain ⟨b, rfl⟩ : ∃ b : Nat, y = (b : Int) := ⟨y.toNat, by omega⟩
  rw [u8_xor_nat a b (by omega) (by omega)]
  intro h
  have h2 : a ^^^ b = a ^^^ 0 := by rw [Nat.xor_zero]; exact Int.ofNat.inj h
  have := xor_cancel a b 0 h2
  exact hne (by rw [this]; rfl)
end Go.Proofs.Ytfkgpmidcbjlbaa.H
end
section
set_option linter.unusedVariables false
set_option linter.unusedSimpArgs false
/- Plain: what survives a power failure; CommitlogDurable. -/
namespace Go.Proofs.Ytfkgpmidcbjlbaa.H
open Go.RowKit Go.Proofs.Ytfkgpmidcbjlbaa.U Go.Proofs.Ytfkgpmidcbjlbaa.P
set_option maxRecDepth 100000

/-! a piece of a record is not decoded -/
theorem dec_short (pre q : List Int) (n : Nat) (hn : n < 128) (hq : q.length < n + 4) : (decodeS (pre ++ ((n : Int) :: q)) (pre.length : Int)).2.2.2.2.2.2.2 ≠ 0 := by
  have hd := decS_enc pre q n (by omega)
  rw [encS_low _ hn] at hd
  have el : pre ++ [(n : Int)] ++ q = pre ++ ((n : Int) :: q) := by simp
  rw [el] at hd
  unfold decodeS
  rw [hd]
  dsimp only
  rw [if_pos rfl, if_neg (by omega)]
  unfold decE
  rw [if_pos (by simp only [List.length_append, List.length_cons, List.length_nil]; omega)]
  simp [zDR]
theorem dec_one (pre : List Int) (y : Int) (hy : 128 ≤ y ∧ y < 256) : (decodeS (pre ++ [y]) (pre.length : Int)).2.2.2.2.2.2.2 ≠ 0 := by
  obtain ⟨c, rfl⟩ : ∃ c : Nat, y = (c : Int) := ⟨y.toNat, by omega⟩
  have h : (decS (pre ++ [(c : Int)]) (pre.length : Int)).2.2 = 2 := by
    unfold decS
    rw [if_neg (by simp; omega), Int.toNat_natCast]
    rw [decG_more _ _ _ _ _ c (by simp) (by simp) (by omega) (by omega), decG_short _ _ _ _ _ (by simp)]
  unfold decodeS
  rw [h, if_neg (by decide)]
  decide
theorem dec_crc (pre b t : List Int) (hl : b.length < 128) (ht : t.length = 4) (h : (decodeS (pre ++ ((b.length : Int) :: (b ++ t))) (pre.length : Int)).2.2.2.2.2.2.2 = 0) : crcS b = valS t := by
  have hd := decS_enc pre (b ++ t) b.length (by omega)
  rw [encS_low _ hl] at hd
  have el : pre ++ [(b.length : Int)] ++ (b ++ t) = pre ++ ((b.length : Int) :: (b ++ t)) := by simp
  rw [el] at hd
  unfold decodeS at h
  rw [hd] at h
  dsimp only at h
  rw [if_pos rfl, if_neg (by omega)] at h
  unfold decE at h
  have e1 : pre ++ ((b.length : Int) :: (b ++ t)) = (pre ++ [(b.length : Int)]) ++ b ++ t := by simp
  have e2 : pre ++ ((b.length : Int) :: (b ++ t)) = (pre ++ [(b.length : Int)] ++ b) ++ t ++ [] := by simp
  have s1 := seg_mid (pre ++ [(b.length : Int)]) b t ((pre.length + [(b.length : Int)].length : Nat) : Int) (((pre.length + [(b.length : Int)].length : Nat) : Int) + (b.length : Int)) (by simp) (by simp)
  have s2 := seg_mid (pre ++ [(b.length : Int)] ++ b) t [] (((pre.length + [(b.length : Int)].length : Nat) : Int) + (b.length : Int)) (((pre.length + [(b.length : Int)].length : Nat) : Int) + (b.length : Int) + 4) (by simp; omega) (by simp [ht]; omega)
  rw [← e1] at s1
  rw [← e2] at s2
  rw [s1, s2] at h
  split at h
  · exact absurd h (by simp [zDR])
  · split at h
    · next he => exact Int.ofNat.inj he
    · exact absurd h (by simp [zDR])
/-- what is left of a record: nothing, all, or a piece that is not decoded -/
theorem piece (pre b : List Int) (hb : Bytes b) (hl : b.length < 128) (m : Nat) (hm : m ≤ (recOf b).length) (h0 : 0 < m) :
    (m = (recOf b).length ∨ (decodeS (pre ++ (recOf b).take m) (pre.length : Int)).2.2.2.2.2.2.2 ≠ 0) ∧ (decodeS (pre ++ tornL ((recOf b).take m)) (pre.length : Int)).2.2.2.2.2.2.2 ≠ 0 := by
  have hcl := crcS_lt b hb
  have hr : recOf b = (b.length : Int) :: (b ++ leS (crcS b) 4) := by
    unfold recOf
    rw [encS_low _ hl]; rfl
  have hrl : (recOf b).length = b.length + 5 := recOf_len b hl
  obtain ⟨m, rfl⟩ : ∃ j, m = j + 1 := ⟨m - 1, by omega⟩
  have htk : (recOf b).take (m + 1) = (b.length : Int) :: (b ++ leS (crcS b) 4).take m := by rw [hr, List.take_succ_cons]
  rw [htk]
  have hql : ((b ++ leS (crcS b) 4).take m).length = m := by rw [List.length_take, List.length_append, leS_len]; omega
  refine ⟨?_, ?_⟩
  · by_cases he : m + 1 = (recOf b).length
    · exact .inl he
    · exact .inr (dec_short pre _ b.length hl (by rw [hql]; omega))
  · cases m with
    | zero =>
      have : tornL ((b.length : Int) :: (b ++ leS (crcS b) 4).take 0) = [Go.bits .xor .u8 (b.length : Int) 255] := rfl
      rw [this]
      have hx := u8_xor_nat b.length 255 (by omega) (by omega)
      rw [show ((255 : Nat) : Int) = 255 from rfl] at hx
      rw [hx]
      refine dec_one pre _ ?_
      have h1 : b.length ^^^ 255 < 256 := Nat.xor_lt_two_pow (n := 8) (by omega) (by omega)
      have h2 : 128 ≤ b.length ^^^ 255 := by
        have : ∀ n : Fin 128, 128 ≤ n.val ^^^ 255 := by decide
        exact this ⟨b.length, hl⟩
      omega
    | succ m =>
      have ht : tornL ((b.length : Int) :: (b ++ leS (crcS b) 4).take (m + 1)) = (b.length : Int) :: tornL ((b ++ leS (crcS b) 4).take (m + 1)) := by
        unfold tornL
        simp only [List.length_cons, hql]
        rfl
      rw [ht]
      have htl : (tornL ((b ++ leS (crcS b) 4).take (m + 1))).length = m + 1 := by
        unfold tornL
        rw [List.length_set]; exact hql
      by_cases he : m + 2 = (recOf b).length
      · have hall : (b ++ leS (crcS b) 4).take (m + 1) = b ++ leS (crcS b) 4 := List.take_of_length_le (by rw [List.length_append, leS_len]; omega)
        rw [hall]
        have h4 : (leS (crcS b) 4).length = 4 := leS_len _ _
        have hto : tornL (b ++ leS (crcS b) 4) = b ++ (leS (crcS b) 4).set 3 (Go.bits .xor .u8 ((leS (crcS b) 4).getD 3 0) 255) := by
          unfold tornL
          rw [List.length_append, h4, show b.length + 4 - 1 = b.length + 3 from by omega, List.set_append_right _ _ (by omega)]
          rw [show b.length + 3 - b.length = 3 from by omega]
          congr 3
          rw [List.getD_eq_getElem?_getD, List.getElem?_append_right (by omega), show b.length + 3 - b.length = 3 from by omega, ← List.getD_eq_getElem?_getD]
        rw [hto]
        intro h
        have hc := dec_crc pre b _ hl (by rw [List.length_set, h4]) h
        have h3 : 3 < (leS (crcS b) 4).length := by omega
        have hold : 0 ≤ (leS (crcS b) 4).getD 3 0 ∧ (leS (crcS b) 4).getD 3 0 < 256 := by
          rw [List.getD_eq_getElem?_getD, List.getElem?_eq_getElem h3]
          exact leS_bytes _ _ _ (List.getElem_mem h3)
        have hbt : Bytes ((leS (crcS b) 4).set 3 (Go.bits .xor .u8 ((leS (crcS b) 4).getD 3 0) 255)) := fun z hz => by
          rcases List.mem_or_eq_of_mem_set hz with hz | rfl
          · exact leS_bytes _ _ z hz
          · exact bits_range8 _ _ _
        have hv := leS_val _ hbt
        rw [← hc, List.length_set, h4] at hv
        have h5 := congrArg (fun l : List Int => l.getD 3 0) hv
        rw [List.getD_eq_getElem?_getD, List.getD_eq_getElem?_getD, List.getElem?_set_self h3, ← List.getD_eq_getElem?_getD] at h5
        exact xor_ne _ 255 hold (by decide) (by decide) h5.symm
      · exact dec_short pre _ b.length hl (by rw [htl]; omega)

/-! the disk with one file -/
def L0 : Dir := [(logN, 0)]
def X (f : Fl) (lim : Bool) (left : Int) : St := ⟨[f], L0, L0, [], lim, left⟩
theorem σa_is : σa = X ⟨[], 0⟩ false 0 := by kernel_rfl
theorem rep_X (f0 : Fl) (b : List Int) (left : Int) : replaceS (X f0 false left) logN b = (⟨[f0, ⟨b, b.length⟩], [(logN, 1)], [(logN, 1)], [], false, left⟩, 0) := by kernel_rfl
theorem read_X (f : Fl) (lim : Bool) (left : Int) : readS (X f lim left) logN = (f.data, 0) := by kernel_rfl
theorem has_X (f : Fl) (lim : Bool) (left : Int) : hasN (listS (X f lim left)) logN = true := by kernel_rfl
theorem read_Y (f g : Fl) (left : Int) : readS ⟨[f, g], [(logN, 1)], [(logN, 1)], [], false, left⟩ logN = (g.data, 0) := by kernel_rfl
theorem has_Y (f g : Fl) (left : Int) : hasN (listS ⟨[f, g], [(logN, 1)], [(logN, 1)], [], false, left⟩) logN = true := by kernel_rfl
theorem name_log : nameB logN = true := by decide +kernel
theorem get_X (f : Fl) (lim : Bool) (left : Int) : dget (X f lim left).cur logN = some 0 := by kernel_rfl
theorem begin_X (f : Fl) (lim : Bool) (left : Int) : beginS (X f lim left) [logN] = if (lim && decide (left ≤ 0)) = true then 16 else 0 := by
  unfold beginS
  have h : [logN].all nameB = true := by simp [name_log]
  show (if (lim && decide (left ≤ 0)) = true then (16 : Int) else if [logN].all nameB = true then 0 else 8) = _
  rw [if_pos h]
theorem append_X (f : Fl) (lim : Bool) (left : Int) (l : List Int) : appendS (X f lim left) logN l = if (lim && decide (left ≤ 0)) = true then (X f lim left, 16) else (X ⟨f.data ++ l, f.dur⟩ lim (if lim = true then wrap64 (left - 1) else left), 0) := by
  unfold appendS
  rw [begin_X]
  by_cases h : (lim && decide (left ≤ 0)) = true
  · rw [if_pos h, if_neg (by decide), if_pos h]
  · rw [if_neg h, if_pos rfl, get_X, if_neg h]
    rfl
theorem sync_X (f : Fl) (lim : Bool) (left : Int) : syncS (X f lim left) logN = if (lim && decide (left ≤ 0)) = true then (X f lim left, 16) else (X ⟨f.data, f.data.length⟩ lim (if lim = true then wrap64 (left - 1) else left), 0) := by
  unfold syncS
  rw [begin_X]
  by_cases h : (lim && decide (left ≤ 0)) = true
  · rw [if_pos h, if_neg (by decide), if_pos h]
  · rw [if_neg h, if_pos rfl, get_X, if_neg h]
    rfl
/-- all that was appended is durable -/
def Clean (E : List LE) (k : Nat) (σ : St) : Prop := ∃ lim left, σ = X ⟨recsE (E.take k), (recsE (E.take k)).length⟩ lim left
/-- perhaps one record more, which is not -/
def Dirty (E : List LE) (k : Nat) (σ : St) : Prop := ∃ lim left ex, σ = X ⟨recsE (E.take k) ++ ex, (recsE (E.take k)).length⟩ lim left ∧ (ex = [] ∨ ∃ h : k < E.length, ex = recE E[k])
theorem Clean.dirty {E : List LE} {k : Nat} {σ : St} (h : Clean E k σ) : Dirty E k σ := by
  obtain ⟨lim, left, rfl⟩ := h
  exact ⟨lim, left, [], by rw [List.append_nil], .inl rfl⟩
theorem clean_start (E : List LE) (n : Int) : Clean E 0 (failS σa n) := ⟨decide (n ≥ 0), n, by rw [σa_is]; rfl⟩
theorem encE_ok {x : LE} (h : GoodE x) : encE x = (recE x, 0) := by
  unfold encE
  rw [if_pos (show vE x = true from h.v)]
theorem recsE_next {E : List LE} {j : Nat} (hj : j < E.length) : recsE (E.take (j + 1)) = recsE (E.take j) ++ recE E[j] := by
  unfold recsE
  rw [List.take_succ_eq_append_getElem hj, List.flatMap_append]
  simp
theorem Clean.step {E : List LE} {k : Nat} {σ : St} (h : Clean E k σ) (hk : k < E.length) (hg : GoodE E[k]) :
    ((logAppendS σ logN E[k]).2 = 0 → Clean E (k + 1) (logAppendS σ logN E[k]).1) ∧ Dirty E k (if (logAppendS σ logN E[k]).2 = 0 then σ else (logAppendS σ logN E[k]).1) := by
  have hc := h
  obtain ⟨lim, left, rfl⟩ := h
  unfold logAppendS
  rw [encE_ok hg, append_X]
  rw [if_pos rfl]
  by_cases h1 : (lim && decide (left ≤ 0)) = true
  · simp only [if_pos h1]
    rw [if_neg (by decide)]
    exact ⟨fun h => (by cases h), hc.dirty⟩
  · simp only [if_neg h1, if_true]
    rw [sync_X]
    generalize (if lim = true then wrap64 (left - 1) else left) = l2
    by_cases h2 : (lim && decide (l2 ≤ 0)) = true
    · simp only [if_pos h2]
      exact ⟨fun h => (by cases h), lim, l2, recE E[k], rfl, .inr ⟨hk, rfl⟩⟩
    · simp only [if_neg h2]
      refine ⟨fun _ => ⟨lim, if lim = true then wrap64 (l2 - 1) else l2, ?_⟩, hc.dirty⟩
      rw [recsE_next hk]
/-! the failure -/
theorem crash_X (f : Fl) (lim : Bool) (left n : Int) (xs : List (Int × Bool)) : crashS (X f lim left) n xs = X (leftF f (xs.getD 0 (0, false))) false left := by
  have h1 : cutDir (X f lim left) n = L0 := by
    unfold cutDir
    show (([] : List Opn).take _).foldl applyS L0 = L0
    rw [List.take_nil]; rfl
  unfold crashS
  rw [h1]
  rfl
theorem tornL_app (R q : List Int) (hq : q ≠ []) : tornL (R ++ q) = R ++ tornL q := by
  have hl : 0 < q.length := List.length_pos_iff.2 hq
  unfold tornL
  rw [List.length_append, List.set_append_right _ _ (by omega), show R.length + q.length - 1 - R.length = q.length - 1 from by omega]
  congr 3
  rw [List.getD_eq_getElem?_getD, List.getElem?_append_right (by omega), show R.length + q.length - 1 - R.length = q.length - 1 from by omega, ← List.getD_eq_getElem?_getD]
theorem left_X (R ex : List Int) (a : Int) (t : Bool) : ∃ m, m ≤ ex.length ∧ (leftF ⟨R ++ ex, R.length⟩ (a, t)).data = R ++ (if t = true ∧ 0 < m then tornL (ex.take m) else ex.take m) := by
  refine ⟨keptN ⟨R ++ ex, R.length⟩ a, ?_, ?_⟩
  · unfold keptN
    dsimp only
    rw [List.length_append]
    omega
  · show (if t = true ∧ 0 < keptN ⟨R ++ ex, R.length⟩ a then tornL ((R ++ ex).take (R.length + _)) else (R ++ ex).take (R.length + _)) = _
    have hk : keptN ⟨R ++ ex, R.length⟩ a ≤ ex.length := by
      unfold keptN
      dsimp only
      rw [List.length_append]
      omega
    generalize keptN ⟨R ++ ex, R.length⟩ a = m at hk
    rw [List.take_length_add_append]
    split
    · next h =>
      rw [tornL_app _ _ (fun e => by have := congrArg List.length e; rw [List.length_take, List.length_nil] at this; omega)]
    · rfl
/-- what is scanned behind the failure -/
theorem scan_bad (F : List LE) (p : List Int) (hG : ∀ x ∈ F, GoodE x) (hl : F.length ≤ 65536) (hp : p = [] ∨ (decodeS (recsE F ++ p) ((recsE F).length : Int)).2.2.2.2.2.2.2 ≠ 0) : scanA (recsE F ++ p) = (F, ((recsE F).length : Int)) := by
  rw [scanA_recs F p hG hl]
  cases (recsE F ++ p).length + 1 - F.length with
  | zero => rfl
  | succ f =>
    unfold scanS
    rcases hp with rfl | hp
    · rw [if_neg (by simp)]
    · by_cases c : ((recsE F).length : Int) < ((recsE F ++ p).length : Int)
      · rw [if_pos c, if_neg hp]
      · rw [if_neg c]
theorem survived {E : List LE} {k : Nat} {σ : St} (h : Dirty E k σ) (hk : k ≤ E.length) (hG : ∀ x ∈ E, GoodE x) (hl : E.length ≤ 20) (n : Int) (xs : List (Int × Bool)) :
    ∃ (f : Fl) (left : Int) (j : Nat), crashS σ n xs = X f false left ∧ (j = k ∨ (j = k + 1 ∧ k < E.length)) ∧ scanA f.data = (E.take j, ((recsE (E.take j)).length : Int)) ∧ (∃ p, f.data = recsE (E.take j) ++ p) := by
  obtain ⟨lim, left, ex, rfl, hex⟩ := h
  rw [crash_X]
  obtain ⟨a, t, hat⟩ : ∃ a t, xs.getD 0 (0, false) = (a, t) := ⟨_, _, rfl⟩
  rw [hat]
  obtain ⟨m, hm, hd⟩ := left_X (recsE (E.take k)) ex a t
  have hGt : ∀ j, ∀ x ∈ E.take j, GoodE x := fun j x hx => hG x (List.mem_of_mem_take hx)
  have hlt : ∀ j, (E.take j).length ≤ 65536 := fun j => by rw [List.length_take]; omega
  have stay : ∀ p, (leftF ⟨recsE (E.take k) ++ ex, (recsE (E.take k)).length⟩ (a, t)).data = recsE (E.take k) ++ p → (p = [] ∨ (decodeS (recsE (E.take k) ++ p) ((recsE (E.take k)).length : Int)).2.2.2.2.2.2.2 ≠ 0) →
      ∃ (f : Fl) (left2 : Int) (j : Nat), X (leftF ⟨recsE (E.take k) ++ ex, (recsE (E.take k)).length⟩ (a, t)) false left = X f false left2 ∧ (j = k ∨ (j = k + 1 ∧ k < E.length)) ∧ scanA f.data = (E.take j, ((recsE (E.take j)).length : Int)) ∧ (∃ p, f.data = recsE (E.take j) ++ p) := fun p hp hbad =>
    ⟨_, left, k, rfl, .inl rfl, by rw [hp]; exact scan_bad _ _ (hGt k) (hlt k) hbad, p, hp⟩
  by_cases h0 : m = 0
  · subst h0
    exact stay [] (by rw [hd, if_neg (by rintro ⟨_, h⟩; omega), List.take_zero]) (.inl rfl)
  · rcases hex with rfl | ⟨hke, rfl⟩
    · exact absurd hm (by simp; omega)
    · have hg := hG _ (List.getElem_mem hke)
      have hb : ∃ b, recE E[k] = recOf b ∧ Bytes b ∧ b.length < 128 := ⟨_, rfl, bodyS_bytes _ _ _ _ _ _, by have := Good.len hg; omega⟩
      obtain ⟨b, hrec, hbb, hbl⟩ := hb
      rw [hrec] at hd hm stay
      obtain ⟨p1, p2⟩ := piece (recsE (E.take k)) b hbb hbl m hm (by omega)
      by_cases ht : t = true
      · rw [hrec]
        exact stay _ (by rw [hd, if_pos ⟨ht, by omega⟩]) (.inr p2)
      · have hd2 : (leftF ⟨recsE (E.take k) ++ recOf b, (recsE (E.take k)).length⟩ (a, t)).data = recsE (E.take k) ++ (recOf b).take m := by rw [hd, if_neg (fun h => ht h.1)]
        rcases p1 with p1 | p1
        · rw [hrec]
          refine ⟨_, left, k + 1, rfl, .inr ⟨rfl, hke⟩, ?_, [], ?_⟩
          · rw [hd2, p1, List.take_length, ← hrec, ← recsE_next hke]
            have := scan_bad (E.take (k + 1)) [] (hGt _) (hlt _) (.inl rfl)
            rwa [List.append_nil] at this
          · rw [hd2, p1, List.take_length, ← hrec, recsE_next hke, List.append_nil]
        · rw [hrec]
          exact stay _ hd2 (.inr p1)
theorem encAll_good : ∀ (E : List LE) (acc : List Int), (∀ x ∈ E, GoodE x) → encAll E acc = (acc ++ recsE E, 0)
  | [], acc, _ => by simp [encAll, recsE]
  | x :: r, acc, h => by
    unfold encAll
    rw [encE_ok (h x List.mem_cons_self), if_pos rfl, encAll_good r _ (fun y hy => h y (List.mem_cons_of_mem _ hy))]
    simp [recsE]
theorem open_clean (σ : St) (F : List LE) (hG : ∀ x ∈ F, GoodE x) (hl : F.length ≤ 65536) (hh : hasN (listS σ) logN = true) (hr : readS σ logN = (recsE F, 0)) : openS σ logN = (σ, F, 0) := by
  have hs := scan_bad F [] hG hl (.inl rfl)
  rw [List.append_nil] at hs
  unfold openS
  rw [hh, hr, if_pos rfl, if_pos rfl, hs, if_pos rfl]
/-- the law, without Go -/
theorem durable {E : List LE} {k : Nat} {σ : St} (h : Dirty E k σ) (hk : k ≤ E.length) (hG : ∀ x ∈ E, GoodE x) (hl : E.length ≤ 20) (n : Int) (xs : List (Int × Bool)) :
    ∃ (σ1 σ2 : St) (j : Nat), (j = k ∨ (j = k + 1 ∧ k < E.length)) ∧ openS (crashS σ n xs) logN = (σ1, E.take j, 0) ∧ openS σ1 logN = (σ2, E.take j, 0) := by
  obtain ⟨f, left, j, hc, hj, hs, p, hp⟩ := survived h hk hG hl n xs
  have hGt : ∀ x ∈ E.take j, GoodE x := fun x hx => hG x (List.mem_of_mem_take hx)
  have hlt : (E.take j).length ≤ 20 := by rw [List.length_take]; omega
  rw [hc]
  by_cases he : ((recsE (E.take j)).length : Int) = (f.data.length : Int)
  · have h1 : openS (X f false left) logN = (X f false left, E.take j, 0) := by
      unfold openS
      rw [has_X, read_X, if_pos rfl, if_pos rfl, hs, if_pos he]
    exact ⟨_, _, j, hj, h1, h1⟩
  · have h1 : openS (X f false left) logN = (⟨[f, ⟨recsE (E.take j), (recsE (E.take j)).length⟩], [(logN, 1)], [(logN, 1)], [], false, left⟩, E.take j, 0) := by
      unfold openS
      rw [has_X, read_X, if_pos rfl, if_pos rfl, hs, if_neg he, if_neg (by show ¬ (E.take j).length = 65536; omega)]
      have hrw : rewriteS (X f false left) logN (E.take j) = (⟨[f, ⟨recsE (E.take j), (recsE (E.take j)).length⟩], [(logN, 1)], [(logN, 1)], [], false, left⟩, 0) := by
        unfold rewriteS
        rw [if_neg (by omega), encAll_good _ _ hGt, if_pos rfl, List.nil_append, rep_X]
      dsimp only
      rw [hrw, if_pos rfl]
    exact ⟨_, _, j, hj, h1, open_clean _ _ hGt (by omega) (has_Y _ _ _) (read_Y _ _ _)⟩
end Go.Proofs.Ytfkgpmidcbjlbaa.H
end
section
set_option linter.unusedVariables false
set_option linter.unusedSimpArgs false
-- Written by a program of this session (a printer of walks).
namespace Go.Proofs.Ytfkgpmidcbjlbaa.P
open Go.RowKit Go.Proofs.YtfkgpmidcbjlbaaW.PrintWords Go.Proofs.YtfkgpmidcbjlbaaW.PrintLast Go.Proofs.YtfkgpmidcbjlbaaW.PrintMore
attribute [local go_sem] max2_int min2_int max_two min_two max_three min_three max_four min_four   -- for this text's walks alone
set_option linter.unusedVariables false
set_option linter.unusedSimpArgs false

/-! ### laminalaw24_tag: function 22 -/
def laminalaw24_tag.f  : Option (Int × Int × Int × Int × Int × ByteArray) := some (3, 5, 0, 0, 0, (⟨#[97]⟩ : ByteArray))
set_option maxHeartbeats 8000000 in
set_option maxRecDepth 100000 in
theorem laminalaw24_tag.calls  (r1 : Int) (r2 : Int) (r3 : Int) (r4 : Int) (r5 : Int) (r6 : ByteArray) (w : World) (h : laminalaw24_tag.f  = some (r1, r2, r3, r4, r5, r6)) :
    Calls Try.prog 22 #[] w fun e w' => e = .returned (.agg #[.int .i64 r1, .int .i64 r2, .int .i64 r3, .int .i64 r4, .int .i64 r5, .string r6]) ∧ Below w.heap.size w w' := by
  have hu23 := Try.underlying23
  have HB := Aside0.mk (Below.refl w.heap.size w)
  have H : (some (3, 5, 0, 0, 0, (⟨#[97]⟩ : ByteArray))) = some (r1, r2, r3, r4, r5, r6) := h
  clear h
  simp only [Option.some.injEq, Prod.mk.injEq] at H
  obtain ⟨rfl, rfl, rfl, rfl, rfl, rfl⟩ := H
  go_enter Try.func22, Try.ntmps22
  go_wp2_with (first | ((with_reducible refine gate_dst (N := 0) rfl ?_); refine box_event ?hg (N := 0) ?hd (cs := #[.int .i64 0, .int .i64 0, .int .i64 0, .int .i64 0, .int .i64 0, .string (⟨#[]⟩ : ByteArray)]) (t := 23) ?hr ?_; (case hd => rfl); (case hg => rfl); (case hr => first | (go_simp; done) | (go_simp; rfl)); intro gb241 hg w1 hbox hb; have n0_ := Aside0.mk (below_step (by repeat (first | (with_reducible first | exact HB.out | apply below_alloc | apply pw_below_drewN | apply below_drew1) | exact HB.out)) hb); have n1_ := Aside0.mk (hbox); have n2_ := Aside0.mk ((by rw [hg]; exact (below_size (by repeat (first | (with_reducible first | exact HB.out | apply below_alloc | apply pw_below_drewN | apply below_drew1) | exact HB.out))) : w.heap.size ≤ gb241)); have n3_ := Aside0.mk ((by rw [hg]; exact (below_size (by repeat (first | (with_reducible first | exact HB.out | apply below_alloc | apply pw_below_drewN | apply below_drew1) | exact HB.out))) : w.heap.size ≤ gb241)); clear HB; have HB := n0_; have BK241 := n1_; have GW241 := n2_; have GE241 := n3_; clear n0_ n1_ n2_ n3_; clear hb hbox hg; have hcz2_0 : w1.cell? ⟨gb241, 0, none⟩ = some (.int .i64 0) := (blk_cell BK241.out 0).trans rfl; have hcz2_1 : w1.cell? ⟨gb241, 1, none⟩ = some (.int .i64 0) := (blk_cell BK241.out 1).trans rfl; have hcz2_2 : w1.cell? ⟨gb241, 2, none⟩ = some (.int .i64 0) := (blk_cell BK241.out 2).trans rfl; have hcz2_3 : w1.cell? ⟨gb241, 3, none⟩ = some (.int .i64 0) := (blk_cell BK241.out 3).trans rfl; have hcz2_4 : w1.cell? ⟨gb241, 4, none⟩ = some (.int .i64 0) := (blk_cell BK241.out 4).trans rfl; have hcz2_5 : w1.cell? ⟨gb241, 5, none⟩ = some (.string (⟨#[]⟩ : ByteArray)) := (blk_cell BK241.out 5).trans rfl; have hfz2_0 := blk_frozen BK241.out 0; have hfz2_1 := blk_frozen BK241.out 1; have hfz2_2 := blk_frozen BK241.out 2; have hfz2_3 := blk_frozen BK241.out 3; have hfz2_4 := blk_frozen BK241.out 4; have hfz2_5 := blk_frozen BK241.out 5))
  refine bodyPost_ret (results_cell_row rfl _ _ gb241 23 #[.int .i64 3, .int .i64 5, .int .i64 0, .int .i64 0, .int .i64 0, .string (⟨#[97]⟩ : ByteArray)] (0, 0) _ rfl (by (with_reducible repeat (first | refine blk_drewN ?_ _ | refine blk_drew ?_ | refine blk_alloc ?_ _)); refine blk_put (cs := #[.int .i64 3, .int .i64 5, .int .i64 0, .int .i64 0, .int .i64 0, .string (⟨#[]⟩ : ByteArray)]) ?_ 5 _ rfl; (with_reducible repeat (first | refine blk_drewN ?_ _ | refine blk_drew ?_ | refine blk_alloc ?_ _)); refine blk_put (cs := #[.int .i64 3, .int .i64 5, .int .i64 0, .int .i64 0, .int .i64 0, .string (⟨#[]⟩ : ByteArray)]) ?_ 4 _ rfl; (with_reducible repeat (first | refine blk_drewN ?_ _ | refine blk_drew ?_ | refine blk_alloc ?_ _)); refine blk_put (cs := #[.int .i64 3, .int .i64 5, .int .i64 0, .int .i64 0, .int .i64 0, .string (⟨#[]⟩ : ByteArray)]) ?_ 3 _ rfl; (with_reducible repeat (first | refine blk_drewN ?_ _ | refine blk_drew ?_ | refine blk_alloc ?_ _)); refine blk_put (cs := #[.int .i64 3, .int .i64 5, .int .i64 0, .int .i64 0, .int .i64 0, .string (⟨#[]⟩ : ByteArray)]) ?_ 2 _ rfl; (with_reducible repeat (first | refine blk_drewN ?_ _ | refine blk_drew ?_ | refine blk_alloc ?_ _)); refine blk_put (cs := #[.int .i64 3, .int .i64 0, .int .i64 0, .int .i64 0, .int .i64 0, .string (⟨#[]⟩ : ByteArray)]) ?_ 1 _ rfl; (with_reducible repeat (first | refine blk_drewN ?_ _ | refine blk_drew ?_ | refine blk_alloc ?_ _)); refine blk_put (cs := #[.int .i64 0, .int .i64 0, .int .i64 0, .int .i64 0, .int .i64 0, .string (⟨#[]⟩ : ByteArray)]) ?_ 0 _ rfl; (with_reducible repeat (first | refine blk_drewN ?_ _ | refine blk_drew ?_ | refine blk_alloc ?_ _)); exact BK241.out) Try.underlying23 rfl (by kernel_rfl)) rfl ?_
  exact ⟨by first | rfl | (simp [errW_none, errW_some] <;> rfl) | (simp [*, errW_none, errW_some] <;> rfl), by repeat (first | (with_reducible first | exact HB.out | apply below_alloc | apply pw_below_drewN | apply below_drew1 | refine below_set ?_ GE241.out) | exact HB.out)⟩

end Go.Proofs.Ytfkgpmidcbjlbaa.P
end
section
set_option linter.unusedVariables false
set_option linter.unusedSimpArgs false
/- commitlog at a nil disk; the tag. -/
namespace Go.Proofs.Ytfkgpmidcbjlbaa.H
open Go.RowKit Go.Proofs.Ytfkgpmidcbjlbaa.U Go.Proofs.YtfkgpmidcbjlbaaW.PrintWords Go.Proofs.Ytfkgpmidcbjlbaa.P

set_option maxHeartbeats 2000000 in
theorem open_nil (n : ByteArray) (w : World) : Calls Try.prog 18 #[.pointer none, .string n] w fun e w' => e = .returned (.tuple #[.slice none 0 0, .int .i64 1]) ∧ Below w.heap.size w w' := by
  go_enter Try.func18, Try.ntmps18
  go_wp2_with fail
  go_ret2
  exact ⟨rfl, Below.refl _ _⟩
set_option maxHeartbeats 2000000 in
theorem append_nil (n : ByteArray) (x : LE) (w : World) : Calls Try.prog 20 #[.pointer none, .string n, .agg (rowE x)] w fun e w' => e = .returned (.int .i64 1) ∧ Below w.heap.size w w' := by
  go_enter Try.func20, Try.ntmps20
  go_wp2_with fail
  go_ret
  exact ⟨rfl, (Below.refl _ _).alloc (Nat.le_refl _) _⟩
set_option maxHeartbeats 2000000 in
theorem rewrite_nil (n : ByteArray) (w : World) : Calls Try.prog 23 #[.pointer none, .string n, .slice none 0 0] w fun e w' => e = .returned (.int .i64 1) ∧ Below w.heap.size w w' := by
  go_enter Try.func23, Try.ntmps23
  go_wp2_with fail
  go_ret
  exact ⟨rfl, ((Below.refl _ _).alloc (Nat.le_refl _) _).alloc (by simp) _⟩
theorem tag_calls (w : World) : Calls Try.prog 22 #[] w fun e w' => e = .returned (.agg (rowE tagE)) ∧ Below w.heap.size w w' :=
  laminalaw24_tag.calls 3 5 0 0 0 ⟨#[97]⟩ w rfl
end Go.Proofs.Ytfkgpmidcbjlbaa.H
end
section
set_option linter.unusedVariables false
set_option linter.unusedSimpArgs false
/- laminalaw24.lives: the sample results. -/
namespace Go.Proofs.Ytfkgpmidcbjlbaa.H
open Go.RowKit Go.Proofs.Ytfkgpmidcbjlbaa.U Go.Proofs.YtfkgpmidcbjlbaaW.PrintWords Go.Proofs.Ytfkgpmidcbjlbaa.P

theorem C_two (w : World) : Kd.C (Kd.int .u8) (w.alloc (.cells #[.int .u8 7, .int .u8 3] 5)) (some ⟨w.heap.size, 0, none⟩) 2 [7, 3] := by
  refine ⟨rfl, by decide, fun _ => ⟨_, rfl, fun j p hj => ?_⟩⟩
  have hc := fun i => cell_blk (heap_alloc_new w (.cells #[.int .u8 7, .int .u8 3] 5)) i
  match j, hj with
  | 0, hj =>
    simp at hj; subst hj
    refine ⟨[.int .u8 7], rfl, rfl, fun i u hu => ?_⟩
    match i, hu with
    | 0, hu => simp at hu; subst hu; exact hc 0
    | i + 1, hu => simp at hu
  | 1, hj =>
    simp at hj; subst hj
    refine ⟨[.int .u8 3], rfl, rfl, fun i u hu => ?_⟩
    match i, hu with
    | 0, hu => simp at hu; subst hu; exact hc 1
    | i + 1, hu => simp at hu
  | j + 2, hj => simp at hj
theorem C_tag (w : World) : Kd.C k23 (w.alloc (.cells #[.int .i64 3, .int .i64 5, .int .i64 0, .int .i64 0, .int .i64 0, .string ⟨#[97]⟩] 23)) (some ⟨w.heap.size, 0, none⟩) [tagE].length [tagE] := by
  refine ⟨rfl, by decide, fun _ => ⟨_, rfl, fun j p hj => ?_⟩⟩
  have hc := fun i => cell_blk (heap_alloc_new w (.cells #[.int .i64 3, .int .i64 5, .int .i64 0, .int .i64 0, .int .i64 0, .string ⟨#[97]⟩] 23)) i
  match j, hj with
  | 0, hj =>
    simp at hj; subst hj
    refine ⟨_, rfl, k23_mk _ tagE, fun i u hu => ?_⟩
    match i, hu with
    | 0, hu => simp at hu; subst hu; exact hc 0
    | 1, hu => simp at hu; subst hu; exact hc 1
    | 2, hu => simp at hu; subst hu; exact hc 2
    | 3, hu => simp at hu; subst hu; exact hc 3
    | 4, hu => simp at hu; subst hu; exact hc 4
    | 5, hu => simp at hu; subst hu; exact hc 5
    | i + 6, hu => simp at hu
  | j + 1, hj => simp at hj
theorem step_below {w9 a b : World} {S : Nat → Prop} (hb : Below w9.heap.size w9 a) (h0 : Below 0 a b) (hk : Kept a b S) (hS : ∀ k, S k → w9.heap.size ≤ k) : Below w9.heap.size w9 b :=
  hb.trans ⟨h0.os, h0.tape, h0.output, h0.size, fun k hlt => hk.2 k (Nat.lt_of_lt_of_le hlt hb.size) (fun hs => by have := hS k hs; omega)⟩
theorem sub_le {w9 a : World} {S : Nat → Prop} (hS : ∀ k, S k → w9.heap.size ≤ k) (hb : Below w9.heap.size w9 a) {k : Nat} (h : S k ∨ a.heap.size ≤ k) : w9.heap.size ≤ k := by
  rcases h with h | h
  · exact hS k h
  · exact Nat.le_trans hb.size h
theorem enc_no : encE ⟨6, 0, 0, 0, 0, ⟨#[97]⟩⟩ = ([], 1) := by
  unfold encE
  rw [if_neg (by decide +kernel)]
set_option maxRecDepth 100000 in
set_option maxHeartbeats 4000000 in
theorem lives_calls (w : World) :
    Calls Try.prog 8 #[] w fun e w' => e = .returned (.bool true) ∧ Below w.heap.size w w' := by
  have HE1 := hid (fun w1 : World => (show Calls Try.prog 9 #[.agg #[.int .i64 3, .int .i64 5, .int .i64 0, .int .i64 0, .int .i64 0, .string ⟨#[97]⟩]] w1 fun e w' => ∃ v0 : Value, e = .returned (.tuple #[v0, .int .i64 0]) ∧ Kd.R (Kd.int .u8) 5 w' w1.heap.size (fun _ => True) v0 recT ∧ Below w1.heap.size w1 w' by
    have := encE_calls tagE small_tag w1
    rw [recT_ok] at this
    exact this))
  have HE2 := hid (fun w1 : World => (show Calls Try.prog 9 #[.agg #[.int .i64 6, .int .i64 0, .int .i64 0, .int .i64 0, .int .i64 0, .string ⟨#[97]⟩]] w1 fun e w' => ∃ v0 : Value, e = .returned (.tuple #[v0, .int .i64 1]) ∧ Below w1.heap.size w1 w' by
    have := encE_calls ⟨6, 0, 0, 0, 0, ⟨#[97]⟩⟩ ⟨by decide +kernel, by decide +kernel, by decide +kernel, by decide +kernel⟩ w1
    rw [enc_no] at this
    exact this.mono fun e w' ⟨v0, h1, _, h2⟩ => ⟨v0, h1, h2⟩))
  have HTG := hid (fun w1 : World => (show Calls Try.prog 22 #[] w1 fun e w' => e = .returned (.agg #[.int .i64 3, .int .i64 5, .int .i64 0, .int .i64 0, .int .i64 0, .string ⟨#[97]⟩]) ∧ Below w1.heap.size w1 w' from tag_calls w1))
  have HBYT := hid (encE_bytes tagE)
  have HLT := hid recT_len
  have HHT := hid recT_head
  obtain ⟨kd, hkd⟩ := (decode_impl recT 0 (encE_bytes tagE) (by rw [recT_len]; decide +kernel)).get
  rw [decT] at hkd
  have HKD := hid hkd
  obtain ⟨ks, hks⟩ := (scan_impl (recT ++ [7, 3]) ((encE_bytes tagE).app (by intro y hy; simp at hy; rcases hy with rfl | rfl <;> decide)) (by rw [List.length_append, recT_len]; decide +kernel)).get
  rw [scanT] at hks
  have HKS := hid hks
  clear hkd hks
  have HSC := hid (fun (w1 : World) (A : Option Addr) (n c : Nat) {base : Nat} (hr : Kd.R (Kd.int .u8) 5 w1 base (fun _ => True) (.slice A n c) (recT ++ [7, 3])) => (show Calls Try.prog 13 #[.slice A n c] w1 fun e w' => ∃ v0 : Value, e = .returned (.tuple #[v0, .int .i64 12]) ∧ Kd.R k23 23 w' w1.heap.size (fun _ => True) v0 [tagE] ∧ Below w1.heap.size w1 w' by
    obtain ⟨h1, h2, h3⟩ := Kd.R_reads' hr
    subst h1
    exact commitlog_Scan.calls ks A c (recT ++ [7, 3]) [tagE] 12 w1 h3 h2 HKS.out))
  generalize recT = rt at *
  go_enter Try.func8, Try.ntmps8
  go_upto_region 6 with (first
    | (go_at_call 22; refine (HTG.out _).mono ?_; rintro e w1 ⟨rfl, hb1⟩; have HB1 := hid hb1; clear hb1)
    | (go_at_call_of 9 (Value.agg #[.int .i64 3, .int .i64 5, .int .i64 0, .int .i64 0, .int .i64 0, .string ⟨#[97]⟩]); refine (HE1.out _).mono ?_; rintro e w2 ⟨v2, rfl, hr2, hb2⟩; obtain ⟨A2, c2, rfl⟩ := Kd.R_slice hr2; have HR2 := hid hr2; have HB2 := hid (HB1.out.trans (hb2.mono HB1.out.size)); clear hr2 hb2)
    | (go_at_call 11; refine (commitlog_Decode.calls kd A2 c2 rt 0 _ _ _ _ _ _ _ _ _ (Kd.R_reads' HR2.out).2.2 (Kd.R_reads' HR2.out).2.1 HKD.out).mono ?_; rintro e w3 ⟨rfl, hb3⟩; have HB3 := hid hb3; clear hb3)
    | (go_at_call 9; refine (HE2.out _).mono ?_; rintro e w4 ⟨v4, rfl, hb4⟩; have HX4 := hid ((hb4.block _ (by simp)).trans (heap_alloc_new w3 (.cells #[.int .i64 3, .int .i64 5, .int .i64 0, .int .i64 0, .int .i64 0, .string ⟨#[97]⟩] 23))); have HB4 := hid (HB3.out.trans ((((Below.refl w3.heap.size w3).alloc (Nat.le_refl _) (.cells #[.int .i64 3, .int .i64 5, .int .i64 0, .int .i64 0, .int .i64 0, .string ⟨#[97]⟩] 23)).trans (hb4.mono (by simp))).mono HB3.out.size)); clear hb4)
    | ((with_reducible refine gate_dst (N := 35) rfl ?_); refine Kd.R_lit (Kd.int .u8) _ 5 rfl (N := 35) rfl (xs := ([] : List Int)) (inner := []) (ok := fun _ => True) (okp := fun _ => False) (by first | (go_simp; done) | (go_simp; rfl)) (Reps.none _ _) (fun _ hk => hk.elim) trivial (Below.refl _ _) (Nat.le_refl _) (by simp) ?_; intro v5 w5 ho hb _ _; have HO5 := hid ho; have HB5 := hid hb; clear ho hb)
    | (at_builtin; refine Kd.R_append_rows (Kd.int .u8) (w0 := w4) w4.heap.size rfl (.tmp 35) (.tmp 36) 24 5 (.int .u8 0) 1 rfl Try.underlying24 infoU8e rfl (by decide) (by decide) _ [] rt _ _ _ (fun _ => True) (fun _ => False) rfl rfl HO5.out (Kd.C_below (Kd.R_reads' HR2.out).2.2 (HB4.out.trans (HB5.out.mono HB4.out.size))) (fun _ _ h => h) (fun _ h => h.elim) (fun _ _ => trivial) HB5.out HB5.out.size (by rw [HLT.out]; decide) ?_; intro v6 w6 ho hb _ _; rw [List.nil_append] at ho; obtain ⟨A6, n6, c6, rfl⟩ := R_slice3 ho; have HO6 := hid ho; have HB6 := hid hb; have HO7 := hid (C_two w6); have HB7 := hid ((Below.refl w6.heap.size w6).alloc (Nat.le_refl _) (.cells #[.int .u8 7, .int .u8 3] 5)); clear ho hb)
    | (at_builtin; refine Kd.R_append_rows (Kd.int .u8) (w0 := w4) w4.heap.size rfl (.tmp 37) (.tmp 38) 24 5 (.int .u8 0) 1 rfl Try.underlying24 infoU8e rfl (by decide) (by decide) _ rt [7, 3] _ _ _ (fun _ => True) (fun _ => False) rfl rfl (Kd.R_below HO6.out HB7.out) HO7.out (fun _ _ h => h) (fun _ h => h.elim) (fun _ _ => trivial) (HB6.out.trans (HB7.out.mono HB6.out.size)) (Nat.le_trans HB6.out.size HB7.out.size) (by rw [HLT.out]; decide) ?_; intro v8 w8 ho hb _ _; obtain ⟨A8, n8, c8, rfl⟩ := R_slice3 ho; have HO8 := hid ho; have HB8 := hid hb; clear ho hb)
    | (go_at_call 13; refine (HSC.out _ A8 n8 c8 HO8.out).mono ?_; rintro e w9 ⟨v9, rfl, hr9, hb9⟩; obtain ⟨A9, n9, c9, rfl⟩ := R_slice3 hr9; have HR9 := hid hr9; have HB9 := hid (HB8.out.trans (hb9.mono HB8.out.size)); clear hr9 hb9)
    | (go_at_call 17; refine (new_calls _).mono ?_; rintro e w10 ⟨d, S, rfl, hd, hb10, hS⟩; have HD := hid hd; have HSS := hid hS; have HB910 := hid hb10; have HB10 := hid (HB9.out.trans (hb10.mono HB9.out.size)); clear hd hS hb10))
  obtain ⟨hn9, _, _⟩ := Kd.R_reads' HR9.out
  obtain rfl : n9 = 1 := hn9
  have HB4T := hid (show Below w4.heap.size w4 w10 from HB10.out)
  have hxb := (HB10.out.block _ (Array.getElem?_eq_some_iff.1 HX4.out).1).trans HX4.out
  have hx0 := cell_blk hxb 0
  have hx1 := cell_blk hxb 1
  have hx2 := cell_blk hxb 2
  have hx3 := cell_blk hxb 3
  have hx4 := cell_blk hxb 4
  have hx5 := cell_blk hxb 5
  simp only [List.getElem?_toArray] at hx0 hx1 hx2 hx3 hx4 hx5
  have hlen : ((rt.length : Int) != 12) = false := by rw [HLT.out]; rfl
  have hle8 : 8 ≤ c2 := by have := (Kd.R_reads' HR2.out).2.1; rw [HLT.out] at this; omega
  have hle8i : (8 : Int) ≤ (c2 : Int) := by omega
  have hle8j : ¬ ((c2 : Int) < 8) := by omega
  have HCV := hid (fun (wz : World) (hb : Below w10.heap.size w10 wz) => (show (convert 24 9 (.slice A2 8 c2)).run Try.prog wz = Result.ok (Value.string ⟨#[7, 3, 5, 0, 0, 0, 1, 97]⟩) wz by
    have hc := Kd.C_take (m := 8) (Kd.C_below (Kd.R_reads' HR2.out).2.2 ((HB4.out.trans (HB10.out.mono HB4.out.size)).trans (hb.mono (Nat.le_trans HB4.out.size HB10.out.size)))) (by rw [HLT.out]; decide)
    have h8 : (rt.take 8).length = 8 := by rw [List.length_take, HLT.out]; rfl
    rw [h8, HHT.out] at hc
    exact (Kd.C_string (src := 24) (dst := 9) (c := c2) Try.underlying24 Try.underlying5 Try.underlying9 hc).trans (by congr 1)))
  have hcv := HCV.out _ (Below.refl w10.heap.size w10).drew
  go_cut [86] (fun s86 wx => s86 = .bool false ∧ Hid (Below w10.heap.size w10 wx))
  case first =>
    go_region_held3 (fun wq => wq.cell? ⟨w3.heap.size, 0, none⟩ = some (.int .i64 3) ∧ wq.cell? ⟨w3.heap.size, 1, none⟩ = some (.int .i64 5) ∧ wq.cell? ⟨w3.heap.size, 2, none⟩ = some (.int .i64 0) ∧ wq.cell? ⟨w3.heap.size, 3, none⟩ = some (.int .i64 0) ∧ wq.cell? ⟨w3.heap.size, 4, none⟩ = some (.int .i64 0) ∧ wq.cell? ⟨w3.heap.size, 5, none⟩ = some (.string ⟨#[97]⟩) ∧ (convert 24 9 (.slice A2 8 c2)).run Try.prog wq = .ok (.string ⟨#[7, 3, 5, 0, 0, 0, 1, 97]⟩) wq) (first | exact ⟨hx0, hx1, hx2, hx3, hx4, hx5, hcv⟩ | exact ⟨y0, y1, y2, y3, y4, y5, HCV.out _ HBT.out⟩) (first
      | (go_at_call 22; refine (HTG.out _).mono ?_; rintro e wt ⟨rfl, hbt⟩; have HBT := hid ((Below.refl w10.heap.size w10).drew.trans hbt); have y0 := pw_cell_below HBT.out hx0; have y1 := pw_cell_below HBT.out hx1; have y2 := pw_cell_below HBT.out hx2; have y3 := pw_cell_below HBT.out hx3; have y4 := pw_cell_below HBT.out hx4; have y5 := pw_cell_below HBT.out hx5; clear hbt))
    all_goals (go_wp2_with fail; go_meet; exact ⟨rfl, HBT.out⟩)
  case rest =>
    obtain ⟨rfl, HBC⟩ := hcut
    have HBc := hid (show Below w9.heap.size w9 wc from HB910.out.trans (HBC.out.mono HB910.out.size))
    have HW9 := hid (show Below w.heap.size w w9 from HB2.out.trans ((HB4.out.trans (HB9.out.mono HB4.out.size)).mono HB2.out.size))
    have HO1 := hid (show Calls Try.prog 18 #[.pointer (some ⟨d, 0, none⟩), .string ⟨#[108, 111, 103]⟩] wc fun e w' => ∃ v : Value, e = .returned (.tuple #[v, .int .i64 0]) ∧ Opened wc w' d σa S v [] by
      have := open_calls d St.new S 0 logN wc (HD.out.below HBC.out) St.Sound.new (by decide) (by decide)
      rw [open1] at this
      exact this)
    have HO2 := hid (fun (wz : World) (S1 : Nat → Prop) (hd : DiskAt wz d σa S1) => (show Calls Try.prog 20 #[.pointer (some ⟨d, 0, none⟩), .string ⟨#[108, 111, 103]⟩, .agg #[.int .i64 3, .int .i64 5, .int .i64 0, .int .i64 0, .int .i64 0, .string ⟨#[97]⟩]] wz fun e w' => e = .returned (.int .i64 0) ∧ Moved wz w' d σb S1 by
      have := logAppend_calls d σa S1 logN tagE wz hd soundA.ok (fun f hf => by have := (soundA.file f hf).2.1; omega) small_tag
      rw [append1] at this
      exact this))
    have HO3 := hid (fun (wz : World) (S1 : Nat → Prop) (hd : DiskAt wz d σb S1) => (show Calls Try.prog 21 #[.pointer (some ⟨d, 0, none⟩), .int .i64 0, .slice none 0 0] wz fun e w' => e = .returned (.tuple #[]) ∧ Moved wz w' d σc S1 from
      crash_calls d σb S1 0 [] none 0 wz hd soundB.ok (fun f hf => ⟨(soundB.file f hf).1, by have := (soundB.file f hf).2.1; omega⟩) (Kd.C_nil _ _) (by have := soundB.sum; omega) soundB.pname (by have := soundB.sum; omega)))
    have HO4 := hid (fun (wz : World) (S1 : Nat → Prop) (hd : DiskAt wz d σc S1) => (show Calls Try.prog 18 #[.pointer (some ⟨d, 0, none⟩), .string ⟨#[108, 111, 103]⟩] wz fun e w' => ∃ v : Value, e = .returned (.tuple #[v, .int .i64 0]) ∧ Opened wz w' d (openS σc logN).1 S1 v [tagE] by
      have := open_calls d σc S1 32000097 logN wz hd soundC (by decide) (by decide)
      rw [open2] at this
      exact this))
    have HEQ := hid (fun (_ : Unit) (A : Option Addr) (n c : Nat) (wt : World) {base : Nat} {ok : Nat → Prop} (hr : Kd.R k23 23 wt base ok (.slice A n c) [tagE]) => (show Calls Try.prog 15 #[.slice A n c, .slice (some ⟨wt.heap.size, 0, none⟩) 1 1] (wt.alloc (.cells #[.int .i64 3, .int .i64 5, .int .i64 0, .int .i64 0, .int .i64 0, .string ⟨#[97]⟩] 23)) fun e w' => e = .returned (.bool true) ∧ Below wt.heap.size wt w' by
      obtain ⟨h1, h2, h3⟩ := Kd.R_reads' hr
      subst h1
      obtain ⟨ke, hke⟩ := (equal_same [tagE] (by decide)).get
      refine (laminaref24_Equal.calls ke A c [tagE] (some ⟨wt.heap.size, 0, none⟩) 1 [tagE] true _ (Kd.C_alloc h3 _) h2 (C_tag wt) (Nat.le_refl _) hke).mono fun e w' ⟨h4, h5⟩ => ⟨h4, ((Below.refl wt.heap.size wt).alloc (Nat.le_refl _) _).trans (h5.below.mono (by simp))⟩))
    clear hx0 hx1 hx2 hx3 hx4 hx5 hcv HCV HSC HE1 HE2 HO5 HO6 HO7 HO8 HR2 HR9 HX4 hxb hlen hle8 hle8i hle8j
    go_wp2_with (first
      | (go_at_call_of 18 (Value.pointer none); refine (open_nil _ _).mono ?_; rintro e w15 ⟨rfl, hb15⟩; have HB15 := hid hb15; have HBF15 := hid (HBF14.out.trans (hb15.mono HBF14.out.size)); clear hb15)
      | (go_at_call 18; refine HO1.out.mono ?_; rintro e w11 ⟨v11, rfl, h11⟩; obtain ⟨b11, k11, S11, s11, d11, r11⟩ := h11; obtain ⟨A11, n11, c11, rfl⟩ := R_slice3 r11; obtain rfl : n11 = 0 := (Kd.R_reads' r11).1; have HD11 := hid d11; have HS11 := hid (fun k hk => sub_le HSS.out HBc.out (s11 k hk)); have HBF11 := hid (step_below HBc.out b11 k11 HSS.out); clear b11 k11 s11 d11 r11 HO1)
      | (go_at_call 22; refine (HTG.out _).mono ?_; rintro e wt ⟨rfl, hbt⟩; have HBT := hid hbt; clear hbt)
      | (go_at_call 20; refine (HO2.out _ S11 (HD11.out.below HBT.out)).mono ?_; rintro e w12 ⟨rfl, b12, k12, S12, s12, d12⟩; have HD12 := hid d12; have HBFt := HBF11.out.trans (HBT.out.mono HBF11.out.size); have HS12 := hid (fun k hk => sub_le HS11.out HBFt (s12 k hk)); have HBF12 := hid (step_below HBFt b12 k12 HS11.out); clear b12 k12 s12 d12 HBFt HBT HO2)
      | (go_at_call 21; refine (HO3.out _ S12 HD12.out).mono ?_; rintro e w13 ⟨rfl, b13, k13, S13, s13, d13⟩; have HD13 := hid d13; have HS13 := hid (fun k hk => sub_le HS12.out HBF12.out (s13 k hk)); have HBF13 := hid (step_below HBF12.out b13 k13 HS12.out); clear b13 k13 s13 d13)
      | (go_at_call_of 18 (Value.pointer (some ⟨d, 0, none⟩)); refine (HO4.out _ S13 HD13.out).mono ?_; rintro e w14 ⟨v14, rfl, h14⟩; obtain ⟨b14, k14, S14, s14, d14, r14⟩ := h14; obtain ⟨A14, n14, c14, rfl⟩ := R_slice3 r14; have HR14 := hid r14; have HBF14 := hid (step_below HBF13.out b14 k14 HS13.out); clear b14 k14 s14 d14 r14)
      | (go_at_call 15; refine (HEQ.out () A14 n14 c14 wt (Kd.R_below HR14.out (HB15.out.trans (HBT.out.mono HB15.out.size)))).mono ?_; rintro e w16 ⟨rfl, hb16⟩; have HBF16 := hid ((HBF15.out.trans (HBT.out.mono HBF15.out.size)).trans (hb16.mono (Nat.le_trans HBF15.out.size HBT.out.size))); clear hb16 HBT)
      | (go_at_call_of 20 (Value.pointer none); refine (append_nil _ tagE _).mono ?_; rintro e w17 ⟨rfl, hb17⟩; have HBF17 := hid ((HBF16.out.trans (HBT.out.mono HBF16.out.size)).trans (hb17.mono (Nat.le_trans HBF16.out.size HBT.out.size))); clear hb17 HBT)
      | (go_at_call 23; refine (rewrite_nil _ _).mono ?_; rintro e w18 ⟨rfl, hb18⟩; have HBF18 := hid (HBF17.out.trans (hb18.mono HBF17.out.size)); clear hb18))
    go_ret
    exact ⟨rfl, HW9.out.trans (HBF18.out.mono HW9.out.size)⟩
end Go.Proofs.Ytfkgpmidcbjlbaa.H
namespace Go.Proofs.Ytfkgpmidcbjlbaa.P
open Go.RowKit Go.Proofs.Ytfkgpmidcbjlbaa.H Go.Proofs.YtfkgpmidcbjlbaaW.PrintWords
end Go.Proofs.Ytfkgpmidcbjlbaa.P
end
section
set_option linter.unusedVariables false
set_option linter.unusedSimpArgs false
/- Arguments of a law, opened: bytes, an entry, rows of entries and of what is said about files. -/
namespace Go.Proofs.Ytfkgpmidcbjlbaa.H
open Go.Joins Go.ChangeShapes Go.WideShapes Go.RowKit Go.Deep Go.Proofs.Ytfkgpmidcbjlbaa.P Go.Proofs.YtfkgpmidcbjlbaaW.PrintWords
section
variable {H : Type} {enc : TypeId × Value → H} {P : Program} {w : World} {base : Nat} {spare : Nat → Bool} {held : Bool}
theorem open_slice_fields {t e : TypeId} {fs : Array Field} {fuel : Nat} {cs : List Value} {x : DataW H × List MemPlace} (ht : P.underlying t = some (.slice e)) (he : P.underlying e = some (.struct fs))
    (hone : oneCellFields P fs = true) (hC : P.cellsOf e = fs.size) (h : DataW.trod enc P w base spare held fuel t cs = some x) :
    (cs = [.slice none 0 0] ∧ x = (.nil, [])) ∨
    ∃ (a : Addr) (len cap m : Nat) (D : Nat → DataW H) (Pl : Nat → List MemPlace), cs = [.slice (some a) len cap] ∧ base ≤ a.block ∧ len ≤ cap ∧ cap ≤ maxLen ∧ m = (if spare a.block then cap else len) ∧
      x = (.slice ((List.range len).map D) ((List.range (m - len)).map fun j => D (len + j)), MemPlace.row a (m * fs.size) ++ (List.range m).flatMap Pl) ∧
      ∀ i, i < m → ∃ (ys : List (DataW H × List MemPlace)) (n : Nat), D i = .agg (ys.map (·.1)) ∧ Pl i = ys.flatMap (·.2) ∧ ys.length = fs.size ∧
        ∀ (j : Nat) (f : Field), fs[j]? = some f → ∃ (v : Value) (y : DataW H × List MemPlace), w.cell? (a.add (i * fs.size + j)) = some v ∧ ys[j]? = some y ∧ DataW.trod enc P w base spare held n f.type [v] = some y := by
  rcases open_slice ht h with h0 | ⟨a, len, cap, m, n, D, Pl, hcs, hb, hl, hm, hmm, hx, hi⟩
  · exact .inl h0
  · refine .inr ⟨a, len, cap, m, D, Pl, hcs, hb, hl, hm, hmm, by rw [hC] at hx; exact hx, fun i him => ?_⟩
    obtain ⟨cs', hc, ht'⟩ := hi i him
    rw [hC] at hc
    obtain ⟨ys, n', hn', hy, hlen, hyl, hf⟩ := DataW.trod_struct he ht'
    obtain ⟨_, hcl, hat⟩ := World.cells?_some hc
    simp only [Prod.mk.injEq] at hy
    refine ⟨ys, n', hy.1, hy.2, hyl, fun j f hj => ?_⟩
    obtain ⟨ho, hk⟩ := hone_of hone j f hj
    have hjl : j < fs.size := (Array.getElem?_eq_some_iff.1 hj).1
    have hcell := hat j hjl
    have hv : cs'[j]? = some (cs'[j]'(by omega)) := List.getElem?_eq_getElem (by omega)
    have h1 := hf j f hj
    rw [ho, hk] at h1
    have hone' : (cs'.drop j).take 1 = [cs'[j]'(by omega)] := by
      rw [List.drop_eq_getElem_cons (by omega)]
      rfl
    rw [hone'] at h1
    have hys : ys[j]? = some (ys[j]'(by omega)) := List.getElem?_eq_getElem (by omega)
    refine ⟨_, _, ?_, hys, h1.trans hys⟩
    rw [← Go.Deep.add_add, hcell, hv]
end
/-- an entry's numbers are int64, its name is a string -/
structure EWf (x : LE) : Prop where
  k : (Lit.int .i64 x.f0).wf = true
  i : (Lit.int .i64 x.f1).wf = true
  p : (Lit.int .i64 x.f2).wf = true
  m : (Lit.int .i64 x.f3).wf = true
  t : (Lit.int .i64 x.f4).wf = true
  n : x.f5.size ≤ maxLen
theorem wf_lt {n : Int} (h : (Lit.int .i64 n).wf = true) : n < 9223372036854775808 := by
  have := bounds_i64 h
  omega
theorem EWf.small {x : LE} (h : EWf x) : Small x := ⟨wf_lt h.i, wf_lt h.p, wf_lt h.m, wf_lt h.t⟩
section
variable {H : Type} {enc : TypeId × Value → H} {w : World} {base : Nat} {spare : Nat → Bool} {held : Bool}
/-- a row of cells, as a row of structs -/
theorem rowC {α : Type} {k : Kd α} {a : Addr} {len : Nat} (f : Nat → α) (hl : len ≤ 9223372036854775807) (h : ∀ i, i < len → ∃ cs : List Value, cs.length = k.sz ∧ k.K w (f i) cs ∧ ∀ j u, cs[j]? = some u → w.cell? (a.add (i * k.sz + j)) = some u) :
    Kd.C k w (some a) ((List.range len).map f).length ((List.range len).map f) := by
  refine ⟨rfl, by simpa using hl, fun _ => ⟨a, rfl, fun j p hj => ?_⟩⟩
  rw [List.getElem?_map] at hj
  have hj2 : j < len ∧ f j = p := by
    by_cases hlt : j < len
    · rw [List.getElem?_range hlt] at hj
      exact ⟨hlt, Option.some.inj hj⟩
    · rw [List.getElem?_eq_none (by simp; omega)] at hj
      cases hj
  obtain ⟨cs, h1, h2, h3⟩ := h j hj2.1
  rw [hj2.2] at h2
  exact ⟨cs, h1, h2, h3⟩
set_option maxRecDepth 100000 in
theorem open_entries {r : Reach} {b0 : Nat} {v : Value} {d : DataW H} {p : List MemPlace} (hv : Value.okWide Try.prog w r b0 36 v) (h : DataW.Trod enc Try.prog w base (fun _ => true) held 36 v d p) :
    ∃ (A : Option Addr) (c : Nat) (l : List LE), v = .slice A l.length c ∧ l.length ≤ c ∧ Kd.C k23 w A l.length l ∧ ∀ x ∈ l, EWf x := by
  obtain ⟨a0, len0, cap0, rfl⟩ := okWide_slice Try.underlying36 hv
  obtain ⟨fuel, hf⟩ := h
  rcases open_slice_fields Try.underlying36 Try.underlying23 (by kernel_rfl) (by kernel_rfl) hf with ⟨hcs, _⟩ | ⟨a, len, cap, m, D, Pl, hcs, _, hl, hm, hmm, _, hi⟩
  · simp [Value.cells] at hcs
    obtain ⟨rfl, rfl, rfl⟩ := hcs
    exact ⟨none, 0, [], rfl, Nat.le_refl _, Kd.C_nil _ _, fun x hx => (by cases hx)⟩
  · simp [Value.cells] at hcs
    obtain ⟨rfl, rfl, rfl⟩ := hcs
    obtain rfl : m = cap0 := by simpa using hmm
    clear hmm
    have hrow : ∀ i, ∃ x : LE, i < len0 → EWf x ∧ ∀ j u, (rowE x).toList[j]? = some u → w.cell? (a.add (i * 6 + j)) = some u := fun i => by
      by_cases hlt : i < len0
      · obtain ⟨ys, n, _, _, hy, hj⟩ := hi i (by omega)
        obtain ⟨v0, y0, c0, _, h0⟩ := hj 0 _ rfl
        obtain ⟨v1, y1, c1, _, h1⟩ := hj 1 _ rfl
        obtain ⟨v2, y2, c2, _, h2⟩ := hj 2 _ rfl
        obtain ⟨v3, y3, c3, _, h3⟩ := hj 3 _ rfl
        obtain ⟨v4, y4, c4, _, h4⟩ := hj 4 _ rfl
        obtain ⟨v5, y5, c5, _, h5⟩ := hj 5 _ rfl
        obtain ⟨n0, e0, _, w0⟩ := DataW.trod_int Try.underlying3 h0
        obtain ⟨n1, e1, _, w1⟩ := DataW.trod_int Try.underlying2 h1
        obtain ⟨n2, e2, _, w2⟩ := DataW.trod_int Try.underlying2 h2
        obtain ⟨n3, e3, _, w3⟩ := DataW.trod_int Try.underlying2 h3
        obtain ⟨n4, e4, _, w4⟩ := DataW.trod_int Try.underlying2 h4
        obtain ⟨s, e5, _, w5⟩ := DataW.trod_string Try.underlying9 h5
        simp only [List.cons.injEq, and_true] at e0 e1 e2 e3 e4 e5
        subst e0 e1 e2 e3 e4 e5
        refine ⟨⟨n0, n1, n2, n3, n4, s⟩, fun _ => ⟨⟨w0, w1, w2, w3, w4, w5⟩, fun j u hu => ?_⟩⟩
        match j, hu with
        | 0, hu => obtain rfl := Option.some.inj hu; exact c0
        | 1, hu => obtain rfl := Option.some.inj hu; exact c1
        | 2, hu => obtain rfl := Option.some.inj hu; exact c2
        | 3, hu => obtain rfl := Option.some.inj hu; exact c3
        | 4, hu => obtain rfl := Option.some.inj hu; exact c4
        | 5, hu => obtain rfl := Option.some.inj hu; exact c5
        | j + 6, hu => cases hu
      · exact ⟨⟨0, 0, 0, 0, 0, ⟨#[]⟩⟩, fun h => absurd h hlt⟩
    obtain ⟨f, hf⟩ := Classical.axiomOfChoice hrow
    have hlen : ((List.range len0).map f).length = len0 := by simp
    refine ⟨some a, _, (List.range len0).map f, by rw [hlen], by rw [hlen]; exact hl, rowC f (by unfold maxLen at hm; omega) (fun i hlt => ⟨(rowE (f i)).toList, rfl, k23_mk w (f i), (hf i hlt).2⟩), fun x hx => ?_⟩
    obtain ⟨i, hi2, rfl⟩ := List.mem_map.1 hx
    exact (hf i (List.mem_range.1 hi2)).1
set_option maxRecDepth 100000 in
theorem open_crash {r : Reach} {b0 : Nat} {v : Value} {d : DataW H} {p : List MemPlace} (hv : Value.okWide Try.prog w r b0 43 v) (h : DataW.Trod enc Try.prog w base (fun _ => true) held 43 v d p) :
    ∃ (A : Option Addr) (c : Nat) (l : List (Int × Bool)), v = .slice A l.length c ∧ l.length ≤ c ∧ Kd.C (Kd.raw 2) w A l.length (l.map cfRow) := by
  obtain ⟨a0, len0, cap0, rfl⟩ := okWide_slice Try.underlying43 hv
  obtain ⟨fuel, hf⟩ := h
  rcases open_slice_fields Try.underlying43 Try.underlying92 (by kernel_rfl) (by kernel_rfl) hf with ⟨hcs, _⟩ | ⟨a, len, cap, m, D, Pl, hcs, _, hl, hm, hmm, _, hi⟩
  · simp [Value.cells] at hcs
    obtain ⟨rfl, rfl, rfl⟩ := hcs
    exact ⟨none, 0, [], rfl, Nat.le_refl _, Kd.C_nil _ _⟩
  · simp [Value.cells] at hcs
    obtain ⟨rfl, rfl, rfl⟩ := hcs
    obtain rfl : m = cap0 := by simpa using hmm
    clear hmm
    have hrow : ∀ i, ∃ x : Int × Bool, i < len0 → ∀ j u, (cfRow x)[j]? = some u → w.cell? (a.add (i * 2 + j)) = some u := fun i => by
      by_cases hlt : i < len0
      · obtain ⟨ys, n, _, _, hy, hj⟩ := hi i (by omega)
        obtain ⟨v0, y0, c0, _, h0⟩ := hj 0 _ rfl
        obtain ⟨v1, y1, c1, _, h1⟩ := hj 1 _ rfl
        obtain ⟨n0, e0, _, w0⟩ := DataW.trod_int Try.underlying3 h0
        obtain ⟨n1, e1, _⟩ := DataW.trod_bool Try.underlying4 h1
        simp only [List.cons.injEq, and_true] at e0 e1
        subst e0 e1
        refine ⟨(n0, n1), fun _ j u hu => ?_⟩
        match j, hu with
        | 0, hu => obtain rfl := Option.some.inj hu; exact c0
        | 1, hu => obtain rfl := Option.some.inj hu; exact c1
        | j + 2, hu => cases hu
      · exact ⟨(0, false), fun h => absurd h hlt⟩
    obtain ⟨f, hf⟩ := Classical.axiomOfChoice hrow
    have hlen : ((List.range len0).map f).length = len0 := by simp
    have hc := rowC (w := w) (k := Kd.raw 2) (a := a) (len := len0) (fun i => cfRow (f i)) (by unfold maxLen at hm; omega) (fun i hlt => ⟨cfRow (f i), rfl, ⟨rfl, rfl, fun u hu => by unfold cfRow at hu; simp at hu; rcases hu with rfl | rfl <;> rfl⟩, hf i hlt⟩)
    refine ⟨some a, _, (List.range len0).map f, by rw [hlen], by rw [hlen]; exact hl, ?_⟩
    rw [List.map_map, hlen]
    rw [List.length_map, List.length_range] at hc
    exact hc
end
end Go.Proofs.Ytfkgpmidcbjlbaa.H
end
section
set_option linter.unusedVariables false
set_option linter.unusedSimpArgs false
/- laminalaw24.CommitlogDurable, walked. -/
namespace Go.Proofs.Ytfkgpmidcbjlbaa.H
open Go.RowKit Go.Proofs.Ytfkgpmidcbjlbaa.U Go.Proofs.YtfkgpmidcbjlbaaW.PrintWords Go.Proofs.Ytfkgpmidcbjlbaa.P

theorem refValid_calls (x : LE) (w : World) : Calls Try.prog 16 #[.agg (rowE x)] w fun e w' => e = .returned (.bool (vE x)) ∧ Below w.heap.size w w' := by
  obtain ⟨k, hk⟩ := (valid_ref x.f0 x.f1 x.f2 x.f3 x.f4 x.f5).get
  exact laminaref24_Valid.calls k _ _ _ _ _ _ _ w hk
theorem row_rd {E : List LE} {j : Nat} (hj : j < E.length) : rd_T23 E (j : Int) = E[j] := by
  unfold rd_T23
  rw [Int.toNat_natCast, List.getD_eq_getElem?_getD, List.getElem?_eq_getElem hj]; rfl
theorem row_cells {w : World} {E : List LE} {A : Option Addr} (h : Kd.C k23 w A E.length E) {j : Nat} (hj : j < E.length) :
    ∃ ad, A = some ad ∧ w.cell? (ad.add (j * 6)) = some (.int .i64 E[j].f0) ∧ w.cell? ⟨(ad.add (j * 6)).block, (ad.add (j * 6)).off + 1, none⟩ = some (.int .i64 E[j].f1) ∧ w.cell? ⟨(ad.add (j * 6)).block, (ad.add (j * 6)).off + 2, none⟩ = some (.int .i64 E[j].f2) ∧ w.cell? ⟨(ad.add (j * 6)).block, (ad.add (j * 6)).off + 3, none⟩ = some (.int .i64 E[j].f3) ∧ w.cell? ⟨(ad.add (j * 6)).block, (ad.add (j * 6)).off + 4, none⟩ = some (.int .i64 E[j].f4) ∧ w.cell? ⟨(ad.add (j * 6)).block, (ad.add (j * 6)).off + 5, none⟩ = some (.string E[j].f5) := by
  have := at_T23 h (j : Int) (by omega) (by omega)
  rw [row_rd hj, Int.toNat_natCast] at this
  exact this
set_option maxRecDepth 100000 in
set_option maxHeartbeats 4000000 in
theorem durable_lives (A0 : Option Addr) (n0 c0 : Nat) (ops n : Int) (A3 : Option Addr) (n3 c3 : Nat) (w : World) (h : (20 : Int) < (n0 : Int) ∨ (10 : Int) < (n3 : Int)) :
    Calls Try.prog 7 #[.slice A0 n0 c0, .int .i64 ops, .int .i64 n, .slice A3 n3 c3] w fun e w' => e = .returned (.bool true) ∧ Below w.heap.size w w' := by
  by_cases h1 : (20 : Int) < (n0 : Int)
  · have h1b : decide ((20 : Int) < (n0 : Int)) = true := decide_eq_true h1
    clear h
    go_enter Try.func7, Try.ntmps7
    go_wp2_with (go_at_call 8; refine (lives_calls _).mono ?_; rintro e w2 ⟨rfl, hb2⟩; have HB2 := hid hb2; clear hb2)
    go_ret
    exact ⟨rfl, HB2.out⟩
  · have h2 : (10 : Int) < (n3 : Int) := h.resolve_left h1
    have h1b : decide ((20 : Int) < (n0 : Int)) = false := decide_eq_false h1
    clear h
    go_enter Try.func7, Try.ntmps7
    go_wp2_with (go_at_call 8; refine (lives_calls _).mono ?_; rintro e w2 ⟨rfl, hb2⟩; have HB2 := hid hb2; clear hb2)
    go_ret
    exact ⟨rfl, HB2.out⟩
set_option maxRecDepth 100000 in
set_option maxHeartbeats 8000000 in
theorem durable_main (A0 : Option Addr) (c0 : Nat) (E : List LE) (ops n : Int) (A3 : Option Addr) (c3 : Nat) (xs : List (Int × Bool)) (w : World) (hc0 : E.length ≤ c0) (hr0 : Kd.C k23 w A0 E.length E) (hE : ∀ x ∈ E, EWf x) (hr3 : Kd.C (Kd.raw 2) w A3 xs.length (xs.map cfRow))
    (h1 : ¬ (20 : Int) < (E.length : Int)) (h2 : ¬ (10 : Int) < (xs.length : Int)) :
    Calls Try.prog 7 #[.slice A0 E.length c0, .int .i64 ops, .int .i64 n, .slice A3 xs.length c3] w fun e w' => e = .returned (.bool true) ∧ Below w.heap.size w w' := by
  have HC := hid hc0
  have HR := hid hr0
  have HR3 := hid hr3
  have HE := hid hE
  have hel : E.length ≤ 20 := by omega
  have h1b : decide ((20 : Int) < (E.length : Int)) = false := decide_eq_false h1
  have h2b : decide ((10 : Int) < (xs.length : Int)) = false := decide_eq_false h2
  clear hc0 hr0 hr3 hE
  go_enter Try.func7, Try.ntmps7
  go_wp2
  go_loopw [9] (fun u wr => ∃ (j : Nat), u = .int .i64 (j : Int) ∧ Hid (j ≤ E.length) ∧ Hid (∀ x ∈ E.take j, GoodE x) ∧ Hid (Below w.heap.size w wr)) (fun u _ => E.length - (intOf u).toNat)
  case atStart => exact ⟨0, rfl, Nat.zero_le _, fun x hx => (by simp at hx), Below.refl _ _⟩
  case round =>
    obtain ⟨j, rfl, HJ, HG, HB⟩ := hrel
    by_cases hlt : (j : Int) < (E.length : Int)
    · have hjl : j < E.length := by omega
      have HLT := hid hlt
      have HTK := hid (List.take_succ_eq_append_getElem hjl)
      have HSX := hid (HE.out _ (List.getElem_mem hjl)).small
      obtain ⟨ad, hAE, hx0, hx1, hx2, hx3, hx4, hx5⟩ := row_cells (Kd.C_below HR.out HB.out) hjl
      subst hAE
      generalize E[j] = x at HTK HSX hx0 hx1 hx2 hx3 hx4 hx5
      clear hjl
      have HV := hid (fun w2 : World => (show Calls Try.prog 16 #[.agg #[.int .i64 x.f0, .int .i64 x.f1, .int .i64 x.f2, .int .i64 x.f3, .int .i64 x.f4, .string x.f5]] w2 fun e w' => e = .returned (.bool (vE x)) ∧ Below w2.heap.size w2 w' from refValid_calls x w2))
      by_cases hnm : (100 : Int) < (x.f5.size : Int)
      · have hnb : decide ((100 : Int) < (x.f5.size : Int)) = true := decide_eq_true hnm
        go_wp2_with (first
          | (go_at_call 8; refine (lives_calls _).mono ?_; rintro e w2 ⟨rfl, hb2⟩; have HB2 := hid (HB.out.trans (hb2.mono HB.out.size)); clear hb2))
        go_ret
        exact ⟨rfl, HB2.out⟩
      · have hnb : decide ((100 : Int) < (x.f5.size : Int)) = false := decide_eq_false hnm
        cases hv : vE x with
        | false =>
          rw [hv] at HV
          clear hv
          go_wp2_with (first
            | (go_at_call 16; refine (HV.out _).mono ?_; rintro e w2 ⟨rfl, hb2⟩; have HB2 := hid (HB.out.trans (hb2.mono HB.out.size)); clear hb2)
            | (go_at_call 8; refine (lives_calls _).mono ?_; rintro e w3 ⟨rfl, hb3⟩; have HB3 := hid (HB2.out.trans (hb3.mono HB2.out.size)); clear hb3))
          go_ret
          exact ⟨rfl, HB3.out⟩
        | true =>
          have HGX := hid (HSX.out.good hv)
          rw [hv] at HV
          clear hv
          go_wp2_with (first
            | (go_at_call 16; refine (HV.out _).mono ?_; rintro e w2 ⟨rfl, hb2⟩; have HB2 := hid (HB.out.trans (hb2.mono HB.out.size)); clear hb2))
          go_roundw
          case rel => exact ⟨j + 1, rfl, hid (by have := HLT.out; omega), hid (by rw [HTK.out]; intro y hy; rcases List.mem_append.1 hy with hy | hy; exact HG.out y hy; rw [List.mem_singleton.1 hy]; exact HGX.out), HB2.out⟩
          case measure => exact less_succ HLT.out (by omega)
    · obtain rfl : j = E.length := by have := HJ.out; omega
      have HGE := hid (show ∀ x ∈ E, GoodE x by have := HG.out; rwa [List.take_length] at this)
      obtain ⟨wo, rfl⟩ : ∃ wo : World, wo = wr := ⟨_, rfl⟩
      clear HG HJ hlt
      go_wp2_with (first
        | (go_at_call 17; refine (new_calls _).mono ?_; rintro e w1 ⟨d, S0, rfl, hd, hb1, hS0⟩; have HD := hid hd; have HSS := hid hS0; have HB1 := hid hb1; clear hd hS0 hb1)
        | (go_at_call 18; refine (show Calls Try.prog 18 #[.pointer (some ⟨d, 0, none⟩), .string ⟨#[108, 111, 103]⟩] w1 (fun e w' => ∃ v : Value, e = .returned (.tuple #[v, .int .i64 0]) ∧ Opened w1 w' d σa S0 v []) by (have := open_calls d St.new S0 0 logN w1 HD.out St.Sound.new (by decide) (by decide); rw [open1] at this; exact this)).mono ?_; rintro e w2 ⟨v2, rfl, b2, k2, S2, s2, d2, r2⟩; have HD2 := hid d2; have HS2 := hid (fun k hk => sub_le HSS.out HB1.out (s2 k hk)); have HB2 := hid (step_below HB1.out b2 k2 HSS.out); clear b2 k2 s2 d2 r2)
        | (go_at_call 19; refine (fail_calls d σa S2 ops _ HD2.out).mono ?_; rintro e w3 ⟨rfl, b3, k3, S3, s3, d3⟩; have HD3 := hid d3; have HS3 := hid (fun k hk => sub_le HS2.out HB2.out (s3 k hk)); have HB3 := hid (step_below HB2.out b3 k3 HS2.out); clear b3 k3 s3 d3))
      have HSO3 := hid (soundA.fail ops)
      have HCL3 := hid (clean_start E ops)
      generalize failS σa ops = σf at HD3 HSO3 HCL3
      clear HD HD2 HSS HS2 HB1 HB2
      go_loopw [13] (fun u wr => ∃ (k : Nat) (σ : St) (S : Nat → Prop), u = .int .i64 (k : Int) ∧ Hid (k ≤ E.length) ∧ Hid (DiskAt wr d σ S) ∧ Hid (Clean E k σ) ∧ Hid (σ.Sound (32000000 + 97 * k)) ∧ Hid (∀ j, S j → wo.heap.size ≤ j) ∧ Hid (Below wo.heap.size wo wr)) (fun u _ => E.length - (intOf u).toNat)
      case atStart => exact ⟨0, σf, S3, rfl, Nat.zero_le _, HD3.out, HCL3.out, HSO3.out, HS3.out, HB3.out⟩
      case round =>
        obtain ⟨k, σ, S, rfl, HK, HDK, HCK, HSK, HSSK, HBK⟩ := hrel
        clear HD3 HCL3 HSO3 HS3 HB3
        by_cases hlt : (k : Int) < (E.length : Int)
        · have hkl : k < E.length := by omega
          have HLT := hid hlt
          have HGX := hid (HGE.out _ (List.getElem_mem hkl))
          obtain ⟨hst1, hst2⟩ := HCK.out.step hkl HGX.out
          have HSX := hid (small_of_good HGX.out)
          obtain ⟨ad, hAE, hx0, hx1, hx2, hx3, hx4, hx5⟩ := row_cells (Kd.C_below HR.out (HB.out.trans (HBK.out.mono HB.out.size))) hkl
          subst hAE
          generalize E[k] = x at hst1 hst2 HSX HGX hx0 hx1 hx2 hx3 hx4 hx5
          have HAP := hid (show Calls Try.prog 20 #[.pointer (some ⟨d, 0, none⟩), .string ⟨#[108, 111, 103]⟩, .agg #[.int .i64 x.f0, .int .i64 x.f1, .int .i64 x.f2, .int .i64 x.f3, .int .i64 x.f4, .string x.f5]] wr fun e w' => e = .returned (.int .i64 (logAppendS σ logN x).2) ∧ Moved wr w' d (logAppendS σ logN x).1 S from
            logAppend_calls d σ S logN x wr HDK.out HSK.out.ok (fun f hf => by have := (HSK.out.file f hf).2.1; omega) HSX.out)
          have HSN := hid (HSK.out.logAppend logN x HSX.out)
          generalize logAppendS σ logN x = r at hst1 hst2 HAP HSN
          obtain ⟨σn, en⟩ := r
          dsimp only at hst1 hst2 HAP HSN
          by_cases hen : en = 0
          · subst hen
            have HCN := hid (hst1 rfl)
            clear hst1 hst2 hkl
            go_wp2_with (first
              | (go_at_call 20; refine HAP.out.mono ?_; rintro e w4 ⟨rfl, b4, k4, S4, s4, d4⟩; have HD4 := hid d4; have HS4 := hid (fun k hk => sub_le HSSK.out HBK.out (s4 k hk)); have HB4 := hid (step_below HBK.out b4 k4 HSSK.out); clear b4 k4 s4 d4))
            go_roundw
            case rel => exact ⟨k + 1, σn, S4, rfl, hid (by have := HLT.out; omega), HD4.out, HCN.out, HSN.out.mono (by omega), HS4.out, HB4.out⟩
            case measure => exact less_succ HLT.out (by omega)
          · rw [if_neg hen] at hst2
            have HDN := hid hst2
            have hbe : (en == 0) = false := by simpa using hen
            clear hst1 hst2 hen hkl
            have hkE : k ≤ E.length := HK.out
            go_upto_region 18 with (first
              | (go_at_call 20; refine HAP.out.mono ?_; rintro e w4 ⟨rfl, b4, k4, S4, s4, d4⟩; have HD4 := hid d4; have HS4 := hid (fun k hk => sub_le HSSK.out HBK.out (s4 k hk)); have HB4 := hid (step_below HBK.out b4 k4 HSSK.out); clear b4 k4 s4 d4))
            obtain ⟨σ1, σ2, j, hj, ho1, ho2⟩ := durable HDN.out hkE HGE.out hel n xs
            have hjE : j ≤ E.length := by omega
            have hjk : k ≤ j := by omega
            have hjk1 : j ≤ k + 1 := by omega
            have HTL := hid (show (E.take j).length = j by rw [List.length_take]; omega)
            have HGJ := hid (show (E.take j).length ≤ 65536 by rw [List.length_take]; omega)
            have HCA := hid (show Calls Try.prog 21 #[.pointer (some ⟨d, 0, none⟩), .int .i64 n, .slice A3 xs.length c3] w4 fun e w' => e = .returned (.tuple #[]) ∧ Moved w4 w' d (crashS σn n xs) S4 from
              crash_calls d σn S4 n xs A3 c3 w4 HD4.out HSN.out.ok (fun f hf => ⟨(HSN.out.file f hf).1, by have := (HSN.out.file f hf).2.1; omega⟩) (Kd.C_below HR3.out (HB.out.trans (HB4.out.mono HB.out.size))) (by have := HSN.out.sum; omega) HSN.out.pname (by have := HSN.out.sum; omega))
            have HSC := hid (HSN.out.crash n xs)
            generalize crashS σn n xs = σc at HCA HSC ho1
            have HSD := hid (HSC.out.open_ logN)
            rw [ho1] at HSD
            have HO1 := hid (fun (wz : World) (Sz : Nat → Prop) (hd : DiskAt wz d σc Sz) => (show Calls Try.prog 18 #[.pointer (some ⟨d, 0, none⟩), .string ⟨#[108, 111, 103]⟩] wz fun e w' => ∃ v : Value, e = .returned (.tuple #[v, .int .i64 0]) ∧ Opened wz w' d σ1 Sz v (E.take j) by
              have := open_calls d σc Sz _ logN wz hd HSC.out (by omega) (by decide)
              rw [ho1] at this
              exact this))
            have HO2 := hid (fun (wz : World) (Sz : Nat → Prop) (hd : DiskAt wz d σ1 Sz) => (show Calls Try.prog 18 #[.pointer (some ⟨d, 0, none⟩), .string ⟨#[108, 111, 103]⟩] wz fun e w' => ∃ v : Value, e = .returned (.tuple #[v, .int .i64 0]) ∧ Opened wz w' d σ2 Sz v (E.take j) by
              have := open_calls d σ1 Sz _ logN wz hd HSD.out (by omega) (by decide)
              rw [ho2] at this
              exact this))
            obtain ⟨kq, hkq⟩ := (equal_same (E.take j) HGJ.out).get
            have HKQ := hid hkq
            have HEQ := hid (fun (wz : World) (A : Option Addr) (nA cA : Nat) (B : Option Addr) (nB cB : Nat) {b1 : Nat} {ok1 : Nat → Prop} (hA : Kd.R k23 23 wz b1 ok1 (.slice A nA cA) (E.take j)) (hB : Kd.C k23 wz B (E.take j).length (E.take j) ∧ nB = (E.take j).length ∧ nB ≤ cB) => (show Calls Try.prog 15 #[.slice A nA cA, .slice B nB cB] wz fun e w' => e = .returned (.bool true) ∧ Drawn0 wz w' by
              obtain ⟨g1, g2, g3⟩ := Kd.R_reads' hA
              obtain ⟨g4, g5, g6⟩ := hB
              subst g1 g5
              exact laminaref24_Equal.calls kq A cA (E.take j) B cB (E.take j) true wz g3 g2 g4 g6 HKQ.out))
            have hj1 : decide ((j : Int) < (k : Int)) = false := decide_eq_false (by omega)
            have hj2 : decide (j < k) = false := decide_eq_false (by omega)
            have hj3 : decide ((k : Int) + 1 < (j : Int)) = false := decide_eq_false (by omega)
            have hj4 : decide ((E.length : Int) < (j : Int)) = false := decide_eq_false (by omega)
            have hj5 : decide (E.length < j) = false := decide_eq_false (by omega)
            have hjc : j ≤ c0 := by have := HC.out; omega
            clear hj ho1 ho2 hkq
            go_wp2_with (first
              | (go_at_call 21; refine HCA.out.mono ?_; rintro e w5 ⟨rfl, b5, k5, S5, s5, d5⟩; have HD5 := hid d5; have HS5 := hid (fun k hk => sub_le HS4.out HB4.out (s5 k hk)); have HB5 := hid (step_below HB4.out b5 k5 HS4.out); clear b5 k5 s5 d5 HCA)
              | (go_at_call 18; refine (HO1.out _ S5 HD5.out).mono ?_; rintro e w6 ⟨v6, rfl, b6, k6, S6, s6, d6, r6⟩; obtain ⟨A6, n6, c6, rfl⟩ := R_slice3 r6; obtain rfl : n6 = j := (Kd.R_reads' r6).1.trans HTL.out; have HR6 := hid r6; have HD6 := hid d6; have HS6 := hid (fun k hk => sub_le HS5.out HB5.out (s6 k hk)); have HB6 := hid (step_below HB5.out b6 k6 HS5.out); clear b6 k6 s6 d6 r6 HD5)
              | (go_at_call 18; refine (HO2.out _ S6 HD6.out).mono ?_; rintro e w7 ⟨v7, rfl, b7, k7, S7, s7, d7, r7⟩; obtain ⟨A7, n7, c7, rfl⟩ := R_slice3 r7; have HR7 := hid r7; have HR67 := hid (row_same rfl HR6.out (fun i hi => k7.2 i (Kd.N_lt (Kd.R_N HR6.out) i hi) (HR6.out.1 i hi))); have HB7 := hid (step_below HB6.out b7 k7 HS6.out); clear b7 k7 s7 d7 r7 HD6)
              | (go_at_call_of 15 (Value.slice A7 n7 c7); refine (HEQ.out _ A7 n7 c7 A6 n6 c6 (Kd.R_below HR7.out HB78.out) ⟨(Kd.R_reads' (Kd.R_below HR67.out HB78.out)).2.2, HTL.out.symm, (Kd.R_reads' HR67.out).2.1⟩).mono ?_; rintro e w9 ⟨rfl, d9⟩; have HB9 := hid (HB8.out.trans (d9.below.mono HB8.out.size)); clear d9)
              | (go_at_call_of 15 (Value.slice A6 n6 c6); refine (HEQ.out _ A6 n6 c6 _ n6 c0 HR67.out ⟨Kd.C_take (Kd.C_below HR.out (HB.out.trans (HB7.out.mono HB.out.size))) hjE, HTL.out.symm, hjc⟩).mono ?_; rintro e w8 ⟨rfl, d8⟩; have HB78 := hid d8.below; have HB8 := hid (HB7.out.trans (d8.below.mono HB7.out.size)); clear d8)
              | (go_at_call 8; refine (lives_calls _).mono ?_; rintro e w10 ⟨rfl, hb10⟩; have HB10 := hid (HB9.out.trans (hb10.mono HB9.out.size)); clear hb10))
            go_ret
            exact ⟨rfl, HB.out.trans (HB10.out.mono HB.out.size)⟩
        · obtain rfl : k = E.length := by have := HK.out; omega
          have hkE : E.length ≤ E.length := Nat.le_refl _
          have HDN := hid HCK.out.dirty
          clear hlt
          obtain ⟨σ1, σ2, j, hj, ho1, ho2⟩ := durable HDN.out hkE HGE.out hel n xs
          have hjE : j ≤ E.length := by omega
          have hjk : E.length ≤ j := by omega
          have hjk1 : j ≤ E.length + 1 := by omega
          have HTL := hid (show (E.take j).length = j by rw [List.length_take]; omega)
          have HGJ := hid (show (E.take j).length ≤ 65536 by rw [List.length_take]; omega)
          have HCA := hid (show Calls Try.prog 21 #[.pointer (some ⟨d, 0, none⟩), .int .i64 n, .slice A3 xs.length c3] wr fun e w' => e = .returned (.tuple #[]) ∧ Moved wr w' d (crashS σ n xs) S from
            crash_calls d σ S n xs A3 c3 wr HDK.out HSK.out.ok (fun f hf => ⟨(HSK.out.file f hf).1, by have := (HSK.out.file f hf).2.1; omega⟩) (Kd.C_below HR3.out (HB.out.trans (HBK.out.mono HB.out.size))) (by have := HSK.out.sum; omega) HSK.out.pname (by have := HSK.out.sum; omega))
          have HSC := hid (HSK.out.crash n xs)
          generalize crashS σ n xs = σc at HCA HSC ho1
          have HSD := hid (HSC.out.open_ logN)
          rw [ho1] at HSD
          have HO1 := hid (fun (wz : World) (Sz : Nat → Prop) (hd : DiskAt wz d σc Sz) => (show Calls Try.prog 18 #[.pointer (some ⟨d, 0, none⟩), .string ⟨#[108, 111, 103]⟩] wz fun e w' => ∃ v : Value, e = .returned (.tuple #[v, .int .i64 0]) ∧ Opened wz w' d σ1 Sz v (E.take j) by
            have := open_calls d σc Sz _ logN wz hd HSC.out (by omega) (by decide)
            rw [ho1] at this
            exact this))
          have HO2 := hid (fun (wz : World) (Sz : Nat → Prop) (hd : DiskAt wz d σ1 Sz) => (show Calls Try.prog 18 #[.pointer (some ⟨d, 0, none⟩), .string ⟨#[108, 111, 103]⟩] wz fun e w' => ∃ v : Value, e = .returned (.tuple #[v, .int .i64 0]) ∧ Opened wz w' d σ2 Sz v (E.take j) by
            have := open_calls d σ1 Sz _ logN wz hd HSD.out (by omega) (by decide)
            rw [ho2] at this
            exact this))
          obtain ⟨kq, hkq⟩ := (equal_same (E.take j) HGJ.out).get
          have HKQ := hid hkq
          have HEQ := hid (fun (wz : World) (A : Option Addr) (nA cA : Nat) (B : Option Addr) (nB cB : Nat) {b1 : Nat} {ok1 : Nat → Prop} (hA : Kd.R k23 23 wz b1 ok1 (.slice A nA cA) (E.take j)) (hB : Kd.C k23 wz B (E.take j).length (E.take j) ∧ nB = (E.take j).length ∧ nB ≤ cB) => (show Calls Try.prog 15 #[.slice A nA cA, .slice B nB cB] wz fun e w' => e = .returned (.bool true) ∧ Drawn0 wz w' by
            obtain ⟨g1, g2, g3⟩ := Kd.R_reads' hA
            obtain ⟨g4, g5, g6⟩ := hB
            subst g1 g5
            exact laminaref24_Equal.calls kq A cA (E.take j) B cB (E.take j) true wz g3 g2 g4 g6 HKQ.out))
          have hj1 : decide ((j : Int) < (E.length : Int)) = false := decide_eq_false (by omega)
          have hj2 : decide (j < E.length) = false := decide_eq_false (by omega)
          have hj3 : decide ((E.length : Int) + 1 < (j : Int)) = false := decide_eq_false (by omega)
          have hj4 : decide ((E.length : Int) < (j : Int)) = false := decide_eq_false (by omega)
          have hj5 : decide (E.length < j) = false := decide_eq_false (by omega)
          have hjc : j ≤ c0 := by have := HC.out; omega
          clear hj ho1 ho2 hkq
          go_wp2_with (first
            | (go_at_call 21; refine HCA.out.mono ?_; rintro e w5 ⟨rfl, b5, k5, S5, s5, d5⟩; have HD5 := hid d5; have HS5 := hid (fun k hk => sub_le HSSK.out HBK.out (s5 k hk)); have HB5 := hid (step_below HBK.out b5 k5 HSSK.out); clear b5 k5 s5 d5 HCA)
            | (go_at_call 18; refine (HO1.out _ S5 HD5.out).mono ?_; rintro e w6 ⟨v6, rfl, b6, k6, S6, s6, d6, r6⟩; obtain ⟨A6, n6, c6, rfl⟩ := R_slice3 r6; obtain rfl : n6 = j := (Kd.R_reads' r6).1.trans HTL.out; have HR6 := hid r6; have HD6 := hid d6; have HS6 := hid (fun k hk => sub_le HS5.out HB5.out (s6 k hk)); have HB6 := hid (step_below HB5.out b6 k6 HS5.out); clear b6 k6 s6 d6 r6 HD5)
            | (go_at_call 18; refine (HO2.out _ S6 HD6.out).mono ?_; rintro e w7 ⟨v7, rfl, b7, k7, S7, s7, d7, r7⟩; obtain ⟨A7, n7, c7, rfl⟩ := R_slice3 r7; have HR7 := hid r7; have HR67 := hid (row_same rfl HR6.out (fun i hi => k7.2 i (Kd.N_lt (Kd.R_N HR6.out) i hi) (HR6.out.1 i hi))); have HB7 := hid (step_below HB6.out b7 k7 HS6.out); clear b7 k7 s7 d7 r7 HD6)
            | (go_at_call_of 15 (Value.slice A7 n7 c7); refine (HEQ.out _ A7 n7 c7 A6 n6 c6 (Kd.R_below HR7.out HB78.out) ⟨(Kd.R_reads' (Kd.R_below HR67.out HB78.out)).2.2, HTL.out.symm, (Kd.R_reads' HR67.out).2.1⟩).mono ?_; rintro e w9 ⟨rfl, d9⟩; have HB9 := hid (HB8.out.trans (d9.below.mono HB8.out.size)); clear d9)
            | (go_at_call_of 15 (Value.slice A6 n6 c6); refine (HEQ.out _ A6 n6 c6 _ n6 c0 HR67.out ⟨Kd.C_take (Kd.C_below HR.out (HB.out.trans (HB7.out.mono HB.out.size))) hjE, HTL.out.symm, hjc⟩).mono ?_; rintro e w8 ⟨rfl, d8⟩; have HB78 := hid d8.below; have HB8 := hid (HB7.out.trans (d8.below.mono HB7.out.size)); clear d8)
            | (go_at_call 8; refine (lives_calls _).mono ?_; rintro e w10 ⟨rfl, hb10⟩; have HB10 := hid (HB9.out.trans (hb10.mono HB9.out.size)); clear hb10))
          go_ret
          exact ⟨rfl, HB.out.trans (HB10.out.mono HB.out.size)⟩
theorem durable_law {w : World} (A0 : Option Addr) (c0 : Nat) (E : List LE) (hc0 : E.length ≤ c0) (hr0 : Kd.C k23 w A0 E.length E) (hE : ∀ x ∈ E, EWf x) (ops : Int) (_ : (Lit.int .i64 ops).wf = true) (n : Int) (_ : (Lit.int .i64 n).wf = true) (A3 : Option Addr) (c3 : Nat) (xs : List (Int × Bool)) (_ : xs.length ≤ c3) (hr3 : Kd.C (Kd.raw 2) w A3 xs.length (xs.map cfRow)) :
    ∀ w', w' = w → Calls Try.prog 7 #[.slice A0 E.length c0, .int .i64 ops, .int .i64 n, .slice A3 xs.length c3] w' fun e w2 => e = .returned (.bool true) ∧ Below w'.heap.size w' w2 := by
  rintro w' rfl
  by_cases h1 : (20 : Int) < (E.length : Int)
  · exact durable_lives _ _ _ _ _ _ _ _ _ (.inl h1)
  · by_cases h2 : (10 : Int) < (xs.length : Int)
    · exact durable_lives _ _ _ _ _ _ _ _ _ (.inr h2)
    · exact durable_main A0 c0 E ops n A3 c3 xs w' hc0 hr0 hE hr3 h1 h2
end Go.Proofs.Ytfkgpmidcbjlbaa.H
end
section
set_option linter.unusedVariables false
set_option linter.unusedSimpArgs false
namespace Go.Proofs.Ytfkgpmidcbjlbaa.commitlogDurable
open Go.ChangeShapes Go.WideShapes Go.ChangeAt Go.RowKit Go.Proofs.Ytfkgpmidcbjlbaa.H
open Go.ChangeMaps (open_string shut_string)
set_option linter.unusedVariables false
theorem own : ownKnob Try.prog.godebug = none := by kernel_rfl
theorem laidOut : laidOutB Try.prog = true := by kernel_rfl
set_option maxRecDepth 100000 in
theorem lifted (os : Os) (started : os.Started) (H : Type) (enc : TypeId × Value → H) :
    ReturnsInHanded {} Try.checked os 7 .any (Rows.commitlogDurableSpec.pre6 enc Try.prog Try.f7 Rows.commitlogDurableRow.domain false) (Rows.commitlogDurableSpec.post enc Try.prog Try.f7 false true false false) := by
  refine returnsInHanded_of_change_sized (C := Try.checked) own started (by kernel_rfl) Try.func7
    (ChangeSpec.witness6 (enc := enc) (C := Try.checked) false ⟨#[], #[.slice none 0 0, .int .i64 0, .int .i64 0, .slice none 0 0], []⟩ 8 (by kernel_rfl) (by kernel_rfl) (by kernel_rfl) (by kernel_rfl)) ?_
  intro W base args ds gs before hval0 hW hcnd hsz0 _
  have hval : ∀ (j : Nat) t v, Try.f7.params[j]? = some t → args[j]? = some v → Value.okWide Try.prog W .any base t v := hval0
  have hW' := hW
  obtain ⟨p, q, hA0, hV, rfl, hfz, hnd⟩ := hW
  have hA : DataW.TrodAll enc Try.prog W 0 (fun _ => true) true Try.f7.params.toList args.toList ds p := hA0
  rw [Try.params7] at hA hval
  obtain ⟨v0, vs0, d0, ds0, p0, q0, hargs, rfl, rfl, h0, r0⟩ := trodAll_cons hA
  obtain ⟨v1, vs1, d1, ds1, p1, q1, rfl, rfl, rfl, h1, r1⟩ := trodAll_cons r0
  obtain ⟨v2, vs2, d2, ds2, p2, q2, rfl, rfl, rfl, h2, r2⟩ := trodAll_cons r1
  obtain ⟨v3, vs3, d3, ds3, p3, q3, rfl, rfl, rfl, h3, r3⟩ := trodAll_cons r2
  obtain ⟨rfl, rfl, rfl⟩ := trodAll_nil r3
  obtain rfl : args = #[v0, v1, v2, v3] := by cases args; simp_all
  obtain ⟨rfl, rfl⟩ := trodVars_none hV
  have k0 := h0
  have lt0 : ∀ x ∈ p0, x.block < W.heap.size := by obtain ⟨m, hm⟩ := k0; exact DataW.trod_lt m _ _ _ hm
  obtain ⟨a0, c0, l0, rfl, y0, w0, u0⟩ := open_entries (hval 0 36 v0 rfl rfl) h0
  obtain ⟨a1, rfl, rfl, rfl, w1⟩ := open_int Try.underlying3 (hval 1 3 v1 rfl rfl) h1
  obtain ⟨a2, rfl, rfl, rfl, w2⟩ := open_int Try.underlying3 (hval 2 3 v2 rfl rfl) h2
  have k3 := h3
  have lt3 : ∀ x ∈ p3, x.block < W.heap.size := by obtain ⟨m, hm⟩ := k3; exact DataW.trod_lt m _ _ _ hm
  obtain ⟨a3, c3, l3, rfl, y3, w3⟩ := open_crash (hval 3 43 v3 rfl rfl) h3
  clear hA0 hval0 hsz0
  refine (durable_law a0 c0 l0 y0 w0 u0 a1 w1 a2 w2 a3 c3 l3 y3 w3 W rfl).mono fun e W' ⟨he, bel⟩ => ?_
  subst he
  exact ⟨_, rfl, _, _, _, [], _, [], hW', trodAll_mk1 (shut_bool Try.underlying4 _), (trodAll_cons_mk (Below.trod laidOut (by kernel_rfl) (of_decide_eq_true (by kernel_rfl)) k0 bel lt0) (trodAll_cons_mk (shut_int Try.underlying3 w1) (trodAll_cons_mk (shut_int Try.underlying3 w2) (trodAll_cons_mk (Below.trod laidOut (by kernel_rfl) (of_decide_eq_true (by kernel_rfl)) k3 bel lt3) trodAll_mk0)))), rfl, bel.frame _, fun h => by cases h⟩
theorem over : Rows.commitlogDurableRow.holds Try.pinned (OpenSpec.ofChange Rows.commitlogDurableSpec) :=
  OpenClaim.holds_of_wide 7 Try.f7 rfl rfl rfl rfl rfl rfl rfl ⟨rfl, rfl, rfl, rfl, rfl⟩ rfl rfl rfl rfl rfl (by kernel_rfl) Try.func7 (by kernel_rfl)
    (of_decide_eq_true (by kernel_rfl)) (by unfold Func.isWrapper; first | (rw [if_pos (by decide +kernel)]; kernel_rfl) | (rw [if_neg (by decide +kernel)]; exact ⟨rfl, rfl⟩))
    (fun os started H enc _ => lifted os started H enc)
theorem proved : Rows.CommitlogDurableSaid := over
end Go.Proofs.Ytfkgpmidcbjlbaa.commitlogDurable
namespace Go.Proofs.Ytfkgpmidcbjlbaa
/-- The row, under a short name, for the claim. -/
theorem commitlogDurable_holds : Rows.CommitlogDurableSaid := commitlogDurable.proved
end Go.Proofs.Ytfkgpmidcbjlbaa
end
