/- Part 5 of a proof; each section was a text of its own. -/
import Derived.Test.YtfkgpmidcbjlbaaDp1
import Derived.Test.YtfkgpmidcbjlbaaDp2
import Derived.Test.YtfkgpmidcbjlbaaDp4
import Derived.Laws.EntriesVeiled
section
set_option linter.unusedVariables false
set_option linter.unusedSimpArgs false
/- commitlog.Rewrite. -/
namespace Go.Proofs.Ytfkgpmidcbjlbaa.H
open Go.RowKit Go.Proofs.Ytfkgpmidcbjlbaa.U Go.Proofs.YtfkgpmidcbjlbaaW.PrintWords Go.Proofs.Ytfkgpmidcbjlbaa.P

structure RW (w wr : World) (d : Nat) (n : ByteArray) (v : Value) (acc : List Int) : Prop where
  b0 : wr.heap[w.heap.size]? = some (.cells #[.pointer (some ⟨d, 0, none⟩)] 45 (0, 0))
  b1 : wr.heap[w.heap.size + 1]? = some (.cells #[.string n] 9 (0, 0))
  b2 : wr.heap[w.heap.size + 2]? = some (.cells #[v] 24 (0, 0))
  row : Kd.R (Kd.int .u8) 5 wr w.heap.size (fun _ => True) v acc
  below : Below w.heap.size w wr
theorem RW.start (w : World) (d : Nat) (n : ByteArray) : RW w (((w.alloc (.cells #[.pointer (some ⟨d, 0, none⟩)] 45)).alloc (.cells #[.string n] 9)).alloc (.cells #[.slice none 0 0] 24)) d n (.slice none 0 0) [] where
  b0 := by
    rw [Below.heap_alloc _ _ _ (by simp; omega), Below.heap_alloc _ _ _ (by simp)]
    exact heap_alloc_new _ _
  b1 := by
    rw [Below.heap_alloc _ _ _ (by simp)]
    have := heap_alloc_new (w.alloc (.cells #[.pointer (some ⟨d, 0, none⟩)] 45)) (.cells #[.string n] 9)
    simpa using this
  b2 := by
    have := heap_alloc_new ((w.alloc (.cells #[.pointer (some ⟨d, 0, none⟩)] 45)).alloc (.cells #[.string n] 9)) (.cells #[.slice none 0 0] 24)
    simpa using this
  row := Kd.R_nil _ _ _ _ _
  below := (((Below.refl _ _).alloc (Nat.le_refl _) _).alloc (by simp) _).alloc (by simp; omega) _
theorem RW.move {w wr w1 : World} {d : Nat} {n : ByteArray} {v : Value} {acc : List Int} (h : RW w wr d n v acc) (hb : Below wr.heap.size wr w1) : RW w w1 d n v acc where
  b0 := (hb.block _ (Array.getElem?_eq_some_iff.1 h.b0).1).trans h.b0
  b1 := (hb.block _ (Array.getElem?_eq_some_iff.1 h.b1).1).trans h.b1
  b2 := (hb.block _ (Array.getElem?_eq_some_iff.1 h.b2).1).trans h.b2
  row := Kd.R_below h.row hb
  below := h.below.trans (hb.mono h.below.size)
theorem RW.step {w wr w1 : World} {d : Nat} {n : ByteArray} {v v1 : Value} {acc acc1 : List Int} (h : RW w wr d n v acc) (hg : wr.grownBy w1 v.ownBlock) (hr : Kd.R (Kd.int .u8) 5 w1 w.heap.size (fun _ => True) v1 acc1) (hb : Below w.heap.size w w1) :
    w1.cell? ⟨w.heap.size + 2, 0, none⟩ = some v ∧ w1.frozen? ⟨w.heap.size + 2, 0, none⟩ = false ∧ RW w (w1.setCell ⟨w.heap.size + 2, 0, none⟩ v1) d n v1 acc1 := by
  have hne : ∀ {k : Nat} {cs : Array Value} {t : Nat} {fr : Nat × Nat}, wr.heap[k]? = some (.cells cs t fr) → t ≠ 5 → w1.heap[k]? = some (.cells cs t fr) := fun {k cs t fr} hk ht => by
    rw [hg.block k (Array.getElem?_eq_some_iff.1 hk).1 (fun e => by
      obtain ⟨c, hc⟩ := row_typed h.row e.symm
      exact ne_type hk hc ht rfl)]
    exact hk
  have h0 := hne h.b0 (by decide)
  have h1 := hne h.b1 (by decide)
  have h2 := hne h.b2 (by decide)
  have hs : ∀ k, k ≠ w.heap.size + 2 → (w1.setCell ⟨w.heap.size + 2, 0, none⟩ v1).heap[k]? = w1.heap[k]? := fun k hk => heap_setCell_other _ _ _ _ hk
  refine ⟨cell_blk h2 0, frozen_of_row _ _ 0 _ _ h2, ⟨(hs _ (by omega)).trans h0, (hs _ (by omega)).trans h1, heap_setCell_same _ _ 0 _ _ v1 h2, ?_, hb.setCell (by show w.heap.size ≤ w.heap.size + 2; omega) _⟩⟩
  refine row_same rfl hr (fun j hj => hs j ?_)
  rintro rfl
  obtain ⟨c, hc⟩ := row_typed hr hj
  exact ne_type h2 hc (by decide) rfl
theorem encAll_drop {E : List LE} {j : Nat} (hj : j < E.length) (acc : List Int) : encAll (E.drop j) acc = if (encE (rd_T23 E (j : Int))).2 = 0 then encAll (E.drop (j + 1)) (acc ++ (encE (rd_T23 E (j : Int))).1) else (acc, (encE (rd_T23 E (j : Int))).2) := by
  have : rd_T23 E (j : Int) = E[j] := by
    unfold rd_T23
    rw [Int.toNat_natCast, List.getD_eq_getElem?_getD, List.getElem?_eq_getElem hj]; rfl
  rw [this, List.drop_eq_getElem_cons hj, encAll]
theorem rd_mem {E : List LE} {j : Nat} (hj : j < E.length) : rd_T23 E (j : Int) ∈ E := by
  unfold rd_T23
  rw [Int.toNat_natCast, List.getD_eq_getElem?_getD, List.getElem?_eq_getElem hj]
  exact List.getElem_mem hj
theorem RW.five {w wo wt wc : World} {d : Nat} {n : ByteArray} {v : Value} {acc : List Int} {S S1 : Nat → Prop} (h : RW w wo d n v acc) (hb : Below wo.heap.size wo wt) (h12 : wt.heap[wo.heap.size]? = some (.cells #[.string (tmpN n)] 9 (0, 0))) (hS : ∀ k, S k → k < w.heap.size) (hk : Kept wt wc S)
    (hs1 : ∀ k, S1 k → S k ∨ wt.heap.size ≤ k) (hlt1 : ∀ k, S1 k → k < wc.heap.size) :
    Five (wc.alloc (.cells #[stepF d w.heap.size (w.heap.size + 1) (w.heap.size + 2) wo.heap.size 0, stepF d w.heap.size (w.heap.size + 1) (w.heap.size + 2) wo.heap.size 1, stepF d w.heap.size (w.heap.size + 1) (w.heap.size + 2) wo.heap.size 2, stepF d w.heap.size (w.heap.size + 1) (w.heap.size + 2) wo.heap.size 3, stepF d w.heap.size (w.heap.size + 1) (w.heap.size + 2) wo.heap.size 4] 95)) d w.heap.size (w.heap.size + 1) (w.heap.size + 2) wo.heap.size wc.heap.size n (tmpN n) v acc S1 := by
  have ht := h.move hb
  have hwo := h.below.size
  have h2lt : w.heap.size + 2 < wo.heap.size := (Array.getElem?_eq_some_iff.1 h.b2).1
  have hwt : wo.heap.size < wt.heap.size := (Array.getElem?_eq_some_iff.1 h12).1
  have hc := hk.1
  have old : ∀ {k : Nat} {o : Obj}, wt.heap[k]? = some o → w.heap.size ≤ k → wc.heap[k]? = some o := fun {k o} hko hle => by
    rw [hk.2 k (Array.getElem?_eq_some_iff.1 hko).1 (fun hs => by have := hS k hs; omega)]; exact hko
  have al : ∀ {k : Nat} {o : Obj} (p : Obj), wc.heap[k]? = some o → (wc.alloc p).heap[k]? = some o := fun {k o} p hko => (Below.heap_alloc _ _ _ (Array.getElem?_eq_some_iff.1 hko).1).trans hko
  have hrow : ∀ j, v.ownBlock = some j → w.heap.size ≤ j ∧ j < wo.heap.size := fun j hj => ⟨Kd.N_base (Kd.R_N h.row) j hj, Kd.N_lt (Kd.R_N h.row) j hj⟩
  exact {
    caps := ⟨cell_blk (al _ (old ht.b0 (Nat.le_refl _))) 0, cell_blk (al _ (old ht.b1 (by omega))) 0, cell_blk (al _ (old ht.b2 (by omega))) 0, cell_blk (al _ (old h12 hwo)) 0⟩
    row := Kd.R_lower (row_same rfl ht.row (fun j hj => by
      have := hrow j hj
      rw [Below.heap_alloc _ _ _ (by omega), hk.2 j (by omega) (fun hs => by have := hS j hs; omega)])) (Nat.zero_le _)
    fns := fun i hi => by
      rw [cell_blk (heap_alloc_new wc _)]
      match i, hi with
      | 0, _ => rfl
      | 1, _ => rfl
      | 2, _ => rfl
      | 3, _ => rfl
      | 4, _ => rfl
    off := fun k hk1 => by
      have h3 := hlt1 k hk1
      rcases hs1 k hk1 with h4 | h4
      · have := hS k h4
        exact ⟨by omega, by omega, by omega, by omega, by omega, fun e => by have := (hrow k e.symm).1; omega⟩
      · exact ⟨by omega, by omega, by omega, by omega, by omega, fun e => by have := (hrow k e.symm).2; omega⟩
    lt := by
      have : (wc.alloc (.cells #[stepF d w.heap.size (w.heap.size + 1) (w.heap.size + 2) wo.heap.size 0, stepF d w.heap.size (w.heap.size + 1) (w.heap.size + 2) wo.heap.size 1, stepF d w.heap.size (w.heap.size + 1) (w.heap.size + 2) wo.heap.size 2, stepF d w.heap.size (w.heap.size + 1) (w.heap.size + 2) wo.heap.size 3, stepF d w.heap.size (w.heap.size + 1) (w.heap.size + 2) wo.heap.size 4] 95)).heap.size = wc.heap.size + 1 := by simp
      rw [this]
      exact ⟨by omega, by omega, by omega, by omega, by omega⟩ }
set_option maxRecDepth 100000 in
set_option maxHeartbeats 4000000 in
theorem rewrite_calls (d : Nat) (σ : St) (S : Nat → Prop) (N : Nat) (n : ByteArray) (E : List LE) (A0 : Option Addr) (k0 : Nat) (w : World) (h : DiskAt w d σ S) (hs : σ.Sound N) (hN : N ≤ 274877906944) (hE : ∀ x ∈ E, Small x) (hn : n.size ≤ 1099511627776) (hr0 : Kd.C k23 w A0 E.length E) (hk0 : E.length ≤ k0) :
    Calls Try.prog 23 #[.pointer (some ⟨d, 0, none⟩), .string n, .slice A0 E.length k0] w fun e w' => e = .returned (.int .i64 (rewriteS σ n E).2) ∧ Moved w w' d (rewriteS σ n E).1 S := by
  have H := hid h
  have HS := hid hs
  have HN := hid hN
  have HE := hid hE
  have HNN := hid hn
  have HR := hid hr0
  have hkm : E.length ≤ 9223372036854775807 := hr0.2.1
  clear h hs hN hE hn hr0
  unfold rewriteS
  by_cases hbig : E.length > 65536
  · rw [if_pos hbig]
    have hB : (E.length : Int) > 65536 := by omega
    clear hbig
    go_enter Try.func23, Try.ntmps23
    go_wp2
    go_ret
    exact ⟨rfl, Moved.stay H.out (((Below.refl _ _).alloc (Nat.le_refl _) _).alloc (by simp) _)⟩
  · rw [if_neg hbig]
    have HBIG := hid (show E.length ≤ 65536 by omega)
    have hB : (E.length : Int) ≤ 65536 := by omega
    clear hbig
    obtain ⟨rb, re, hall⟩ : ∃ rb re, encAll E [] = (rb, re) := ⟨_, _, rfl⟩
    rw [hall]
    dsimp only
    obtain ⟨τ, hτ⟩ : ∃ τ, (if re = 0 then replaceS σ n rb else (σ, re)) = τ := ⟨_, rfl⟩
    rw [hτ]
    have HT := hid hτ
    have HALL := hid hall
    clear hτ
    have HRW0 := hid (RW.start w d n)
    clear hall
    go_enter Try.func23, Try.ntmps23
    go_wp2
    go_loopw [24] (fun u wr => ∃ (j : Nat) (v : Value) (acc : List Int), u = .int .i64 (j : Int) ∧ Hid (j ≤ E.length) ∧ Hid (acc.length ≤ 97 * j) ∧ Hid (RW w wr d n v acc) ∧ Hid (Bytes acc) ∧ Hid (encAll (E.drop j) acc = (rb, re))) (fun u _ => E.length - (intOf u).toNat)
    case atStart => exact ⟨0, .slice none 0 0, [], rfl, Nat.zero_le _, Nat.zero_le _, HRW0.out, fun y hy => (by cases hy), HALL.out⟩
    case round =>
      obtain ⟨j, v, acc, rfl, HJ, HAL, HRW, HBY, HG⟩ := hrel
      clear HALL HRW0
      obtain ⟨Av, nv, cv, rfl⟩ := R_slice3 HRW.out.row
      by_cases hlt : (j : Int) < (E.length : Int)
      · have hjl : j < E.length := by omega
        have HLT := hid hlt
        have HW := hid (wrap_succ hlt hkm)
        have HSM := hid (HE.out _ (rd_mem hjl))
        have HGD := hid ((encAll_drop hjl acc).symm.trans HG.out)
        obtain ⟨ad, rfl, hx0, hx1, hx2, hx3, hx4, hx5⟩ := at_T23 (Kd.C_below HR.out HRW.out.below) (j : Int) (by omega) (by omega)
        have hadl := hid (Kd.C_lt (Kd.C_below HR.out HRW.out.below) (by omega) (by decide))
        rw [Int.toNat_natCast] at hx0 hx1 hx2 hx3 hx4 hx5
        generalize rd_T23 E (j : Int) = x at HSM HGD hx0 hx1 hx2 hx3 hx4 hx5
        have HEN := hid (encE_calls x HSM.out)
        have HEL := hid (encE_len x HSM.out)
        have HEBY := hid (encE_bytes x)
        have HS0 := hid (heap_alloc_new wr (.cells #[.int .i64 0, .int .i64 0, .int .i64 0, .int .i64 0, .int .i64 0, .string ⟨#[]⟩] 23))
        generalize encE x = be at HEN HEL HEBY HGD
        obtain ⟨b, ec⟩ := be
        dsimp only at HEN HEL HEBY HGD
        clear hjl
        by_cases hec : ec = 0
        · subst hec
          have HG2 := hid ((if_pos rfl).symm.trans HGD.out)
          clear HGD
          go_wp2_with (first
            | (refine wpList_store_row rfl 23 (.tmp 9) (.tmp 27) rfl wr.heap.size (rowE x) rfl rfl 23 _ HS0.out (by kernel_rfl) rfl (by kernel_rfl) ?_)
            | (refine wpList_load_row rfl 23 (.tmp 9) rfl wr.heap.size rfl 23 (rowE x) (0, 0) _ (setRow_heap _ _ _ _ _ _ HS0.out) Try.underlying23 rfl (by kernel_rfl) ?_)
            | (go_at_call 9; refine (HEN.out _).mono ?_; rintro e w1 ⟨v0, rfl, hr1, hb1⟩; obtain ⟨A1, k1, rfl⟩ := Kd.R_slice hr1; have HR1 := hid hr1; have hb2 := (below_setRow ((Below.refl wr.heap.size wr).alloc (Nat.le_refl _) _) (Nat.le_refl _) _).trans (hb1.mono (by simp [setRow_size])); have HRW1 := hid (HRW.out.move hb2); have hv2 : w1.cell? ⟨w.heap.size + 1 + 1, 0, none⟩ = some (.slice Av nv cv) := cell_blk HRW1.out.b2 0; clear hr1 hb1 hb2)
            | (at_builtin; refine Kd.R_append_rows (Kd.int .u8) (w0 := w) w.heap.size rfl (.tmp 36) (.tmp 37) 24 5 (.int .u8 0) 1 rfl Try.underlying24 infoU8e rfl (by decide) (by decide) _ acc b _ _ _ (fun _ => True) (fun _ => False) rfl rfl HRW1.out.row (Kd.R_reads' HR1.out).2.2 (fun _ _ h => h) (fun _ h => h.elim) (fun _ _ => trivial) HRW1.out.below HRW1.out.below.size (by have := HAL.out; have := HEL.out; have := HBIG.out; have := HLT.out; omega) ?_; intro v2 w2 ho hb2 hg2 _; have hst := HRW1.out.step hg2 ho hb2; have hv3 : w2.cell? ⟨w.heap.size + 1 + 1, 0, none⟩ = some (.slice Av nv cv) := hst.1; have hz3 : w2.frozen? ⟨w.heap.size + 1 + 1, 0, none⟩ = false := hst.2.1; have HST := hid hst.2.2; obtain ⟨A2, n2, c2, rfl⟩ := R_slice3 ho; clear ho hb2 hg2 hst))
          go_roundw
          case rel => exact ⟨j + 1, _, acc ++ b, rfl, hid (by have := HLT.out; omega), hid (by rw [List.length_append]; have := HAL.out; have := HEL.out; omega), HST.out, HBY.out.app HEBY.out, HG2.out⟩
          case measure => exact less_succ HLT.out (by omega)
        · have hbb : (ec != 0) = true := by simpa using hec
          have hre : encAll [] acc = encAll [] acc ∧ re = ec := ⟨rfl, by have := HGD.out; rw [if_neg hec] at this; exact (congrArg Prod.snd this).symm⟩
          obtain rfl := hre.2
          have HTE := hid (show τ = (σ, re) by rw [← HT.out, if_neg hec])
          clear HGD hre hec
          go_wp2_with (first
            | (refine wpList_store_row rfl 23 (.tmp 9) (.tmp 27) rfl wr.heap.size (rowE x) rfl rfl 23 _ HS0.out (by kernel_rfl) rfl (by kernel_rfl) ?_)
            | (refine wpList_load_row rfl 23 (.tmp 9) rfl wr.heap.size rfl 23 (rowE x) (0, 0) _ (setRow_heap _ _ _ _ _ _ HS0.out) Try.underlying23 rfl (by kernel_rfl) ?_)
            | (go_at_call 9; refine (HEN.out _).mono ?_; rintro e w1 ⟨v0, rfl, hr1, hb1⟩; obtain ⟨A1, nb, k1, rfl⟩ := R_slice3 hr1; have HB1 := hid ((below_setRow ((Below.refl wr.heap.size wr).alloc (Nat.le_refl _) _) (Nat.le_refl _) _).trans (hb1.mono (by simp [setRow_size]))); clear hr1 hb1))
          go_ret
          rw [HTE.out]
          exact ⟨rfl, Moved.stay H.out (HRW.out.below.trans (HB1.out.mono HRW.out.below.size))⟩
      · obtain rfl : j = E.length := by have := HJ.out; omega
        have hgl := HG.out
        rw [List.drop_of_length_le (Nat.le_refl _), encAll] at hgl
        obtain ⟨rfl, rfl⟩ := Prod.mk.inj hgl
        have HTE := hid (show replaceS σ n acc = τ by rw [← HT.out, if_pos rfl])
        have HAC := hid (show acc.length ≤ 6356992 by have := HAL.out; have := HBIG.out; omega)
        clear hgl HG HT hlt HJ HAL hB
        have hv4 : wr.cell? ⟨w.heap.size + 1, 0, none⟩ = some (.string n) := cell_blk HRW.out.b1 0
        have hb := HNN.out
        obtain ⟨wo, rfl⟩ : ∃ wo : World, wo = wr := ⟨_, rfl⟩
        go_upto_region 15 with (fail)
        rw [show (⟨#[116, 109, 112, 45]⟩ ++ n : ByteArray) = tmpN n from rfl]
        obtain ⟨wt, hwt⟩ : ∃ wt, wt = wo.alloc (.cells #[.string (tmpN n)] 9) := ⟨_, rfl⟩
        rw [← hwt]
        have HBT := hid (show Below wo.heap.size wo wt by rw [hwt]; exact (Below.refl _ _).alloc (Nat.le_refl _) _)
        have HB12 := hid (show wt.heap[wo.heap.size]? = some (.cells #[.string (tmpN n)] 9 (0, 0)) by rw [hwt]; exact heap_alloc_new _ _)
        have HRWT := hid (HRW.out.move HBT.out)
        have HDT := hid (H.out.below HRWT.out.below)
        have HLE := hid (show σ.cur.length ≤ 1099511627776 by have := HS.out.cur; have := HN.out; omega)
        have t3 : wt.cell? ⟨w.heap.size, 0, none⟩ = some (.pointer (some ⟨d, 0, none⟩)) := cell_blk HRWT.out.b0 0
        have t12 : wt.cell? ⟨wo.heap.size, 0, none⟩ = some (.string (tmpN n)) := cell_blk HB12.out 0
        have HLI := hid (fun (wz : World) (hb : Below wt.heap.size wt wz) => list_calls d σ S wz (HDT.out.below hb) HLE.out)
        clear hwt hb hv4
        go_cut [45] (fun s45 wx => s45 = .bool (hasN (listS σ) (tmpN n)) ∧ Hid (Below wt.heap.size wt wx))
        case first =>
          go_region_with (first
            | (go_at_call 39; refine (HLI.out _ (Below.refl _ _).drew).mono ?_; rintro e w2 ⟨v2, rfl, hr2, hb2⟩; obtain ⟨A2, n2, c2, rfl⟩ := R_slice3 hr2; have HR2 := hid (Kd.R_lower hr2 (Nat.zero_le _)); have hb3 := (Below.refl wt.heap.size wt).drew.trans hb2; have HB3 := hid hb3; have y12 := pw_cell_below hb3 t12; clear hr2 hb2 hb3)
            | (go_at_call 38; refine (contains_calls _ _ _ (listS σ) (tmpN n) _ HR2.out (by show (σ.cur.map (·.1)).length ≤ _; rw [List.length_map]; exact HLE.out)).mono ?_; rintro e w4 ⟨rfl, hd4⟩; have HB4 := hid (HB3.out.trans (hd4.below.mono HB3.out.size)); clear hd4))
          all_goals (go_wp2_with fail; go_meet; exact ⟨rfl, HB4.out⟩)
        case rest =>
          obtain ⟨rfl, HBC⟩ := hcut
          have HDC := hid (HDT.out.below HBC.out)
          have y3 := pw_cell_below HBC.out t3
          have y12 := pw_cell_below HBC.out t12
          have HPP := hid (show ∀ k, S k → k < w.heap.size from H.out.lt)
          clear t3 t12 HLI
          go_upto_if 45 with (fail)
          go_cut [13] (fun s13 wx => ∃ σ1, Hid (preS (tmpN n) σ = (σ1, 0)) ∧ Hid (Moved wt wx d σ1 S))
          case first =>
            have HRM := hid (remove_calls d σ S (tmpN n) wc HDC.out HLE.out (by have := HS.out.sum; have := HN.out; omega))
            cases hh : hasN (listS σ) (tmpN n) with
            | false =>
              have HP := hid (show preS (tmpN n) σ = (σ, 0) by unfold preS; rw [hh]; rfl)
              clear hh
              go_wp2_with fail
              go_meet
              exact ⟨σ, HP.out, Moved.stay HDT.out HBC.out⟩
            | true =>
              have HP := hid (show preS (tmpN n) σ = removeS σ (tmpN n) by unfold preS; rw [hh]; rfl)
              clear hh
              generalize hrs : removeS σ (tmpN n) = r0 at HP HRM
              obtain ⟨σ1, e1⟩ := r0
              clear hrs
              dsimp only at HRM
              by_cases he1 : e1 = 0
              · subst he1
                go_wp2_with (first
                  | (go_at_call 47; refine HRM.out.mono ?_; rintro e w2 ⟨rfl, hm⟩; have HM := hid (Moved.from_ HBC.out (fun k hk => .inl hk) hm); clear hm))
                go_meet
                exact ⟨σ1, HP.out, HM.out⟩
              · have hbb : (e1 != 0) = true := by simpa using he1
                have HTR := hid (show τ = (σ1, e1) by rw [← HTE.out]; unfold replaceS; rw [HP.out, if_neg he1])
                clear he1
                go_wp2_with (first
                  | (go_at_call 47; refine HRM.out.mono ?_; rintro e w2 ⟨rfl, hm⟩; have HM := hid (Moved.from_ HBC.out (fun k hk => .inl hk) hm); clear hm))
                go_ret
                rw [HTR.out]
                exact ⟨rfl, Moved.from_ HRWT.out.below (fun k hk => .inl hk) HM.out⟩
          case rest =>
            obtain ⟨σ1, HP, HMV⟩ := hcut
            have hmf : ∀ (fn : Fn) (first cap : Array Value) (w : World), (Instr.makeFunc fn first cap).run Try.prog w = .ok (.func fn first cap) w := fun _ _ _ _ => rfl
            obtain ⟨mb, mk, S1, hs1, hd1⟩ := HMV.out
            have HD1 := hid hd1
            have HF := hid (HRW.out.five HBT.out HB12.out HPP.out mk hs1 hd1.lt)
            have y3 : wc.cell? ⟨w.heap.size, 0, none⟩ = some (.pointer (some ⟨d, 0, none⟩)) := cell_blk ((mk.2 _ (Array.getElem?_eq_some_iff.1 HRWT.out.b0).1 (fun hs => Nat.lt_irrefl _ (HPP.out _ hs))).trans HRWT.out.b0) 0
            have HS1 := hid hs1
            have HB5 := hid (show Below wc.heap.size wc (wc.alloc (.cells #[Value.func (Fn.func 48) #[] #[Value.pointer (some ⟨w.heap.size, 0, none⟩), Value.pointer (some ⟨wo.heap.size, 0, none⟩)], Value.func (Fn.func 50) #[] #[Value.pointer (some ⟨w.heap.size, 0, none⟩), Value.pointer (some ⟨wo.heap.size, 0, none⟩), Value.pointer (some ⟨w.heap.size + 1 + 1, 0, none⟩)], Value.func (Fn.func 51) #[] #[Value.pointer (some ⟨w.heap.size, 0, none⟩), Value.pointer (some ⟨wo.heap.size, 0, none⟩)], Value.func (Fn.func 52) #[] #[Value.pointer (some ⟨w.heap.size, 0, none⟩), Value.pointer (some ⟨wo.heap.size, 0, none⟩), Value.pointer (some ⟨w.heap.size + 1, 0, none⟩)], Value.func (Fn.func 54) #[Value.pointer (some ⟨d, 0, none⟩)] #[]] 95)) from (Below.refl _ _).alloc (Nat.le_refl _) _)
            have HF5 : Hid (Five (wc.alloc (.cells #[Value.func (Fn.func 48) #[] #[Value.pointer (some ⟨w.heap.size, 0, none⟩), Value.pointer (some ⟨wo.heap.size, 0, none⟩)], Value.func (Fn.func 50) #[] #[Value.pointer (some ⟨w.heap.size, 0, none⟩), Value.pointer (some ⟨wo.heap.size, 0, none⟩), Value.pointer (some ⟨w.heap.size + 1 + 1, 0, none⟩)], Value.func (Fn.func 51) #[] #[Value.pointer (some ⟨w.heap.size, 0, none⟩), Value.pointer (some ⟨wo.heap.size, 0, none⟩)], Value.func (Fn.func 52) #[] #[Value.pointer (some ⟨w.heap.size, 0, none⟩), Value.pointer (some ⟨wo.heap.size, 0, none⟩), Value.pointer (some ⟨w.heap.size + 1, 0, none⟩)], Value.func (Fn.func 54) #[Value.pointer (some ⟨d, 0, none⟩)] #[]] 95)) d w.heap.size (w.heap.size + 1) (w.heap.size + 2) wo.heap.size wc.heap.size n (tmpN n) (.slice Av nv cv) acc S1) := HF
            clear mb mk hs1 hd1 HDC HF
            go_wp2_with fail
            generalize wc.alloc (.cells #[Value.func (Fn.func 48) #[] #[Value.pointer (some ⟨w.heap.size, 0, none⟩), Value.pointer (some ⟨wo.heap.size, 0, none⟩)], Value.func (Fn.func 50) #[] #[Value.pointer (some ⟨w.heap.size, 0, none⟩), Value.pointer (some ⟨wo.heap.size, 0, none⟩), Value.pointer (some ⟨w.heap.size + 1 + 1, 0, none⟩)], Value.func (Fn.func 51) #[] #[Value.pointer (some ⟨w.heap.size, 0, none⟩), Value.pointer (some ⟨wo.heap.size, 0, none⟩)], Value.func (Fn.func 52) #[] #[Value.pointer (some ⟨w.heap.size, 0, none⟩), Value.pointer (some ⟨wo.heap.size, 0, none⟩), Value.pointer (some ⟨w.heap.size + 1, 0, none⟩)], Value.func (Fn.func 54) #[Value.pointer (some ⟨d, 0, none⟩)] #[]] 95) = w5 at HB5 HF5
            have HM0 := hid (Moved.stay (HD1.out.below HB5.out) (Below.refl _ _))
            have HSP := hid (show σ1.Sound (N + 1) by
              have := HP.out
              unfold preS at this
              split at this
              · have h2 := HS.out.remove (tmpN n); rw [this] at h2; exact h2
              · rw [← (Prod.mk.inj this).1]; exact HS.out.mono (by omega))
            have HRUN0 := hid (show runS n (tmpN n) acc 5 0 σ1 = τ by rw [← HTE.out]; unfold replaceS; rw [HP.out, if_pos rfl])
            have HFIN := hid (show ∀ w', Moved w5 w' d τ.1 S1 → Moved w w' d τ.1 S from fun w' hm => Moved.from_ HRWT.out.below (fun k hk => .inl hk) (HMV.out.trans2 HS1.out (Moved.from_ HB5.out (fun k hk => .inl hk) hm)))
            clear y3 HRW HRWT HMV HP HTE HB5 HB12 HBT HBC HDT HBIG HE HR
            go_loopw [60] (fun u wr => ∃ (i : Nat) (σi : St), u = .int .i64 (i : Int) ∧ Hid (i ≤ 5) ∧ Hid (runS n (tmpN n) acc (5 - i) i σi = τ) ∧ Hid (σi.Sound (N + 1 + i * (acc.length + 1))) ∧ Hid (Moved w5 wr d σi S1)) (fun u _ => 5 - (intOf u).toNat)
            case atStart => exact ⟨0, σ1, rfl, hid (by omega), HRUN0.out, hid (by have := HSP.out; simpa using this), HM0.out⟩
            case round =>
              obtain ⟨i, σi, rfl, HI, HRUN, HSO, HMI⟩ := hrel
              obtain ⟨mb, mk, Si, hsi, hdi⟩ := HMI.out
              have HSI := hid hsi
              have HDI := hid hdi
              have HFV := hid (HF5.out.kept mk)
              have hi6 : i = 0 ∨ i = 1 ∨ i = 2 ∨ i = 3 ∨ i = 4 ∨ i = 5 := by have := HI.out; omega
              clear HRUN0 HSP HM0 mb mk hsi hdi HI
              rcases hi6 with rfl | rfl | rfl | rfl | rfl | rfl
              · have HC := hid (rw1_calls HFV.out.caps HDI.out HSO.out (by have := HN.out; have := HAC.out; omega))
                have hfn := HFV.out.fns 0 (by omega)
                simp only [stepF] at hfn
                have HRU := hid (show (if (stepS n (tmpN n) acc 0 σi).2 = 0 then runS n (tmpN n) acc 4 1 (stepS n (tmpN n) acc 0 σi).1 else stepS n (tmpN n) acc 0 σi) = τ from HRUN.out)
                have HSN := hid (show (stepS n (tmpN n) acc 0 σi).1.Sound (N + 1 + 1 * (acc.length + 1)) from (HSO.out.step n (tmpN n) acc HBY.out 0).mono (by omega))
                replace HC : Hid (Calls _ _ _ _ fun (e : Ending) w' => e = .returned (.int .i64 (stepS n (tmpN n) acc 0 σi).2) ∧ Moved wr w' d (stepS n (tmpN n) acc 0 σi).1 Si) := HC
                generalize stepS n (tmpN n) acc 0 σi = r1 at HC HRU HSN
                obtain ⟨σn, en⟩ := r1
                dsimp only at HC HRU HSN
                clear HRUN HSO
                by_cases hen : en = 0
                · subst hen
                  have HRN := hid ((if_pos rfl).symm.trans HRU.out)
                  clear HRU
                  go_wp2_with (go_at_call 48; refine HC.out.mono ?_; rintro e w6 ⟨rfl, hm6⟩; have HM6 := hid hm6; clear hm6)
                  go_roundw
                  case rel => exact ⟨1, σn, rfl, hid (by omega), HRN.out, HSN.out, HMI.out.trans2 HSI.out HM6.out⟩
                  case measure => simp [intOf]
                · have HTN := hid (show τ = (σn, en) by rw [← HRU.out, if_neg hen])
                  have hbb : (en != 0) = true := by simpa using hen
                  clear hen HRU
                  go_wp2_with (go_at_call 48; refine HC.out.mono ?_; rintro e w6 ⟨rfl, hm6⟩; have HM6 := hid hm6; clear hm6)
                  go_ret
                  have hfin := HFIN.out w6
                  rw [HTN.out] at hfin ⊢
                  exact ⟨rfl, hfin (HMI.out.trans2 HSI.out HM6.out)⟩
              · have HC := hid (rw2_calls HFV.out.caps HDI.out HSO.out (by have := HN.out; have := HAC.out; omega) HFV.out.row)
                have hfn := HFV.out.fns 1 (by omega)
                simp only [stepF] at hfn
                have HRU := hid (show (if (stepS n (tmpN n) acc 1 σi).2 = 0 then runS n (tmpN n) acc 3 2 (stepS n (tmpN n) acc 1 σi).1 else stepS n (tmpN n) acc 1 σi) = τ from HRUN.out)
                have HSN := hid (show (stepS n (tmpN n) acc 1 σi).1.Sound (N + 1 + 2 * (acc.length + 1)) from (HSO.out.step n (tmpN n) acc HBY.out 1).mono (by omega))
                replace HC : Hid (Calls _ _ _ _ fun (e : Ending) w' => e = .returned (.int .i64 (stepS n (tmpN n) acc 1 σi).2) ∧ Moved wr w' d (stepS n (tmpN n) acc 1 σi).1 Si) := HC
                generalize stepS n (tmpN n) acc 1 σi = r1 at HC HRU HSN
                obtain ⟨σn, en⟩ := r1
                dsimp only at HC HRU HSN
                clear HRUN HSO
                by_cases hen : en = 0
                · subst hen
                  have HRN := hid ((if_pos rfl).symm.trans HRU.out)
                  clear HRU
                  go_wp2_with (go_at_call 50; refine HC.out.mono ?_; rintro e w6 ⟨rfl, hm6⟩; have HM6 := hid hm6; clear hm6)
                  go_roundw
                  case rel => exact ⟨2, σn, rfl, hid (by omega), HRN.out, HSN.out, HMI.out.trans2 HSI.out HM6.out⟩
                  case measure => simp [intOf]
                · have HTN := hid (show τ = (σn, en) by rw [← HRU.out, if_neg hen])
                  have hbb : (en != 0) = true := by simpa using hen
                  clear hen HRU
                  go_wp2_with (go_at_call 50; refine HC.out.mono ?_; rintro e w6 ⟨rfl, hm6⟩; have HM6 := hid hm6; clear hm6)
                  go_ret
                  have hfin := HFIN.out w6
                  rw [HTN.out] at hfin ⊢
                  exact ⟨rfl, hfin (HMI.out.trans2 HSI.out HM6.out)⟩
              · have HC := hid (rw3_calls HFV.out.caps HDI.out HSO.out)
                have hfn := HFV.out.fns 2 (by omega)
                simp only [stepF] at hfn
                have HRU := hid (show (if (stepS n (tmpN n) acc 2 σi).2 = 0 then runS n (tmpN n) acc 2 3 (stepS n (tmpN n) acc 2 σi).1 else stepS n (tmpN n) acc 2 σi) = τ from HRUN.out)
                have HSN := hid (show (stepS n (tmpN n) acc 2 σi).1.Sound (N + 1 + 3 * (acc.length + 1)) from (HSO.out.step n (tmpN n) acc HBY.out 2).mono (by omega))
                replace HC : Hid (Calls _ _ _ _ fun (e : Ending) w' => e = .returned (.int .i64 (stepS n (tmpN n) acc 2 σi).2) ∧ Moved wr w' d (stepS n (tmpN n) acc 2 σi).1 Si) := HC
                generalize stepS n (tmpN n) acc 2 σi = r1 at HC HRU HSN
                obtain ⟨σn, en⟩ := r1
                dsimp only at HC HRU HSN
                clear HRUN HSO
                by_cases hen : en = 0
                · subst hen
                  have HRN := hid ((if_pos rfl).symm.trans HRU.out)
                  clear HRU
                  go_wp2_with (go_at_call 51; refine HC.out.mono ?_; rintro e w6 ⟨rfl, hm6⟩; have HM6 := hid hm6; clear hm6)
                  go_roundw
                  case rel => exact ⟨3, σn, rfl, hid (by omega), HRN.out, HSN.out, HMI.out.trans2 HSI.out HM6.out⟩
                  case measure => simp [intOf]
                · have HTN := hid (show τ = (σn, en) by rw [← HRU.out, if_neg hen])
                  have hbb : (en != 0) = true := by simpa using hen
                  clear hen HRU
                  go_wp2_with (go_at_call 51; refine HC.out.mono ?_; rintro e w6 ⟨rfl, hm6⟩; have HM6 := hid hm6; clear hm6)
                  go_ret
                  have hfin := HFIN.out w6
                  rw [HTN.out] at hfin ⊢
                  exact ⟨rfl, hfin (HMI.out.trans2 HSI.out HM6.out)⟩
              · have HC := hid (rw4_calls HFV.out.caps HDI.out HSO.out (by have := HN.out; have := HAC.out; omega))
                have hfn := HFV.out.fns 3 (by omega)
                simp only [stepF] at hfn
                have HRU := hid (show (if (stepS n (tmpN n) acc 3 σi).2 = 0 then runS n (tmpN n) acc 1 4 (stepS n (tmpN n) acc 3 σi).1 else stepS n (tmpN n) acc 3 σi) = τ from HRUN.out)
                have HSN := hid (show (stepS n (tmpN n) acc 3 σi).1.Sound (N + 1 + 4 * (acc.length + 1)) from (HSO.out.step n (tmpN n) acc HBY.out 3).mono (by omega))
                replace HC : Hid (Calls _ _ _ _ fun (e : Ending) w' => e = .returned (.int .i64 (stepS n (tmpN n) acc 3 σi).2) ∧ Moved wr w' d (stepS n (tmpN n) acc 3 σi).1 Si) := HC
                generalize stepS n (tmpN n) acc 3 σi = r1 at HC HRU HSN
                obtain ⟨σn, en⟩ := r1
                dsimp only at HC HRU HSN
                clear HRUN HSO
                by_cases hen : en = 0
                · subst hen
                  have HRN := hid ((if_pos rfl).symm.trans HRU.out)
                  clear HRU
                  go_wp2_with (go_at_call 52; refine HC.out.mono ?_; rintro e w6 ⟨rfl, hm6⟩; have HM6 := hid hm6; clear hm6)
                  go_roundw
                  case rel => exact ⟨4, σn, rfl, hid (by omega), HRN.out, HSN.out, HMI.out.trans2 HSI.out HM6.out⟩
                  case measure => simp [intOf]
                · have HTN := hid (show τ = (σn, en) by rw [← HRU.out, if_neg hen])
                  have hbb : (en != 0) = true := by simpa using hen
                  clear hen HRU
                  go_wp2_with (go_at_call 52; refine HC.out.mono ?_; rintro e w6 ⟨rfl, hm6⟩; have HM6 := hid hm6; clear hm6)
                  go_ret
                  have hfin := HFIN.out w6
                  rw [HTN.out] at hfin ⊢
                  exact ⟨rfl, hfin (HMI.out.trans2 HSI.out HM6.out)⟩
              · have HC := hid (syncDir_calls d σi Si wr HDI.out (by have := HSO.out.cur; have := HN.out; have := HAC.out; omega))
                have hfn := HFV.out.fns 4 (by omega)
                simp only [stepF] at hfn
                have HRU := hid (show (if (stepS n (tmpN n) acc 4 σi).2 = 0 then runS n (tmpN n) acc 0 5 (stepS n (tmpN n) acc 4 σi).1 else stepS n (tmpN n) acc 4 σi) = τ from HRUN.out)
                have HSN := hid (show (stepS n (tmpN n) acc 4 σi).1.Sound (N + 1 + 5 * (acc.length + 1)) from (HSO.out.step n (tmpN n) acc HBY.out 4).mono (by omega))
                replace HC : Hid (Calls _ _ _ _ fun (e : Ending) w' => e = .returned (.int .i64 (stepS n (tmpN n) acc 4 σi).2) ∧ Moved wr w' d (stepS n (tmpN n) acc 4 σi).1 Si) := HC
                generalize stepS n (tmpN n) acc 4 σi = r1 at HC HRU HSN
                obtain ⟨σn, en⟩ := r1
                dsimp only at HC HRU HSN
                clear HRUN HSO
                by_cases hen : en = 0
                · subst hen
                  have HRN := hid ((if_pos rfl).symm.trans HRU.out)
                  clear HRU
                  go_wp2_with (go_at_call 54; refine HC.out.mono ?_; rintro e w6 ⟨rfl, hm6⟩; have HM6 := hid hm6; clear hm6)
                  go_roundw
                  case rel => exact ⟨5, σn, rfl, hid (by omega), HRN.out, HSN.out, HMI.out.trans2 HSI.out HM6.out⟩
                  case measure => simp [intOf]
                · have HTN := hid (show τ = (σn, en) by rw [← HRU.out, if_neg hen])
                  have hbb : (en != 0) = true := by simpa using hen
                  clear hen HRU
                  go_wp2_with (go_at_call 54; refine HC.out.mono ?_; rintro e w6 ⟨rfl, hm6⟩; have HM6 := hid hm6; clear hm6)
                  go_ret
                  have hfin := HFIN.out w6
                  rw [HTN.out] at hfin ⊢
                  exact ⟨rfl, hfin (HMI.out.trans2 HSI.out HM6.out)⟩
              · have HTN := hid (show (σi, (0 : Int)) = τ from HRUN.out)
                clear HRUN
                go_wp2_with fail
                go_ret
                have hfin := HFIN.out wr
                rw [← HTN.out] at hfin ⊢
                exact ⟨rfl, hfin HMI.out⟩
end Go.Proofs.Ytfkgpmidcbjlbaa.H
end
section
set_option linter.unusedVariables false
set_option linter.unusedSimpArgs false
/- commitlog.Open. -/
namespace Go.Proofs.Ytfkgpmidcbjlbaa.H
open Go.RowKit Go.Proofs.Ytfkgpmidcbjlbaa.U Go.Proofs.YtfkgpmidcbjlbaaW.PrintWords Go.Proofs.Ytfkgpmidcbjlbaa.P

def openS (σ : St) (n : ByteArray) : St × List LE × Int :=
  if hasN (listS σ) n = true then
    (if (readS σ n).2 = 0 then
      (if (scanA (readS σ n).1).2 = ((readS σ n).1.length : Int) then (σ, (scanA (readS σ n).1).1, 0)
       else if (scanA (readS σ n).1).1.length = 65536 then (σ, [], 12)
       else if (rewriteS σ n (scanA (readS σ n).1).1).2 = 0 then ((rewriteS σ n (scanA (readS σ n).1).1).1, (scanA (readS σ n).1).1, 0)
       else ((rewriteS σ n (scanA (readS σ n).1).1).1, [], (rewriteS σ n (scanA (readS σ n).1).1).2))
     else (σ, [], (readS σ n).2))
  else ((rewriteS σ n []).1, [], (rewriteS σ n []).2)
/-- what Open leaves: the disk, and a row that is none of it -/
def Opened (w w' : World) (d : Nat) (σ' : St) (S : Nat → Prop) (v : Value) (E : List LE) : Prop :=
  Below 0 w w' ∧ Kept w w' S ∧ ∃ S' : Nat → Prop, (∀ k, S' k → S k ∨ w.heap.size ≤ k) ∧ DiskAt w' d σ' S' ∧ Kd.R k23 23 w' w.heap.size (fun k => ¬ S' k) v E
theorem Opened.nil {w w' : World} {d : Nat} {σ' : St} {S : Nat → Prop} (h : Moved w w' d σ' S) : Opened w w' d σ' S (.slice none 0 0) [] := by
  obtain ⟨h1, h2, S', h3, h4⟩ := h
  exact ⟨h1, h2, S', h3, h4, Kd.R_nil _ _ _ _ _⟩
theorem Opened.row {w w1 w2 : World} {d : Nat} {σ' : St} {S : Nat → Prop} {v : Value} {E : List LE} {base : Nat} (hS : ∀ k, S k → k < w.heap.size) (hb : Below w.heap.size w w1) (hr : Kd.R k23 23 w1 base (fun _ => True) v E) (hle : w.heap.size ≤ base) (h : Moved w1 w2 d σ' S) : Opened w w2 d σ' S v E := by
  obtain ⟨h1, h2, S', h3, h4⟩ := h
  have hrow : ∀ j, v.ownBlock = some j → base ≤ j ∧ j < w1.heap.size := fun j hj => ⟨Kd.N_base (Kd.R_N hr) j hj, Kd.N_lt (Kd.R_N hr) j hj⟩
  refine ⟨(hb.mono (Nat.zero_le _)).trans h1, (Kept.of_below hb S).then_ h2 (fun _ h => .inl h), S', fun k hk => ?_, h4, ?_⟩
  · rcases h3 k hk with h | h
    · exact .inl h
    · exact .inr (Nat.le_trans hb.size h)
  · have h5 := Kd.R_lower (row_same rfl hr (fun j hj => h2.2 j (hrow j hj).2 (fun hs => by have := hS j hs; have := (hrow j hj).1; omega))) hle
    refine Kd.R_reok rfl h5 (fun k hk hs => ?_)
    have := hrow k hk
    rcases h3 k hs with h | h
    · have := hS k h; omega
    · omega
theorem readS_bytes {σ : St} {N : Nat} (h : σ.Sound N) (n : ByteArray) : Bytes (readS σ n).1 ∧ (readS σ n).1.length ≤ N := by
  unfold readS
  split
  · split
    · exact ⟨fun y hy => (by cases hy), Nat.zero_le _⟩
    · next i hi =>
      have := h.file _ (fileAt_mem (Ok_get h.ok hi))
      exact ⟨this.2.2, this.2.1⟩
  · exact ⟨fun y hy => (by cases hy), Nat.zero_le _⟩
set_option maxRecDepth 100000 in
set_option maxHeartbeats 4000000 in
theorem open_calls (d : Nat) (σ : St) (S : Nat → Prop) (N : Nat) (n : ByteArray) (w : World) (h : DiskAt w d σ S) (hs : σ.Sound N) (hN : N ≤ 274877906944) (hn : n.size ≤ 1099511627776) :
    Calls Try.prog 18 #[.pointer (some ⟨d, 0, none⟩), .string n] w fun e w' => ∃ v : Value, e = .returned (.tuple #[v, .int .i64 (openS σ n).2.2]) ∧ Opened w w' d (openS σ n).1 S v (openS σ n).2.1 := by
  have H := hid h
  have HLE := hid (show σ.cur.length ≤ 1099511627776 by have := hs.cur; omega)
  have HLI := hid (list_calls d σ S w h HLE.out)
  have HBY := hid (readS_bytes hs n)
  have HRD := hid (fun (w1 : World) (hb : Below w.heap.size w w1) => read_calls d σ S n w1 (h.below hb) hs.ok (fun f hf => by have := (hs.file f hf).2.1; omega))
  have HRW := hid (fun (E : List LE) (hE : ∀ x ∈ E, Small x) (A0 : Option Addr) (k0 : Nat) (w1 : World) (hb : Below w.heap.size w w1) (hr : Kd.C k23 w1 A0 E.length E) (hk : E.length ≤ k0) => rewrite_calls d σ S N n E A0 k0 w1 (h.below hb) hs hN hE hn hr hk)
  have HLT := hid h.lt
  have HNB := hid hN
  clear h hs hN hn
  unfold openS
  cases hh : hasN (listS σ) n with
  | false =>
    rw [if_neg (by decide)]
    have HC := hid (fun (w1 : World) (hb : Below w.heap.size w w1) => (show Calls Try.prog 23 #[.pointer (some ⟨d, 0, none⟩), .string n, .slice none 0 0] w1 fun e w' => e = .returned (.int .i64 (rewriteS σ n []).2) ∧ Moved w1 w' d (rewriteS σ n []).1 S from HRW.out [] (fun x hx => (by cases hx)) none 0 w1 hb (Kd.C_nil _ _) (Nat.le_refl _)))
    generalize rewriteS σ n [] = r at HC
    clear HRW HRD HBY
    go_enter Try.func18, Try.ntmps18
    go_wp2_with (first
      | (go_at_call 39; refine HLI.out.mono ?_; rintro e w2 ⟨v2, rfl, hr2, hb2⟩; obtain ⟨A2, n2, c2, rfl⟩ := R_slice3 hr2; have HR2 := hid (Kd.R_lower hr2 (Nat.zero_le _)); have HB2 := hid hb2; clear hr2 hb2)
      | (go_at_call 38; refine (contains_calls _ _ _ (listS σ) n _ HR2.out (by show (σ.cur.map (·.1)).length ≤ _; rw [List.length_map]; exact HLE.out)).mono ?_; rw [hh]; rintro e w4 ⟨rfl, hd4⟩; have HB4 := hid (HB2.out.trans (hd4.below.mono HB2.out.size)); clear hd4)
      | (go_at_call 23; refine (HC.out _ HB4.out).mono ?_; rintro e w5 ⟨rfl, hm5⟩; have HM5 := hid hm5; clear hm5))
    go_ret2
    exact ⟨_, rfl, Opened.nil (Moved.from_ HB4.out (fun k hk => .inl hk) HM5.out)⟩
  | true =>
    rw [if_pos rfl]
    by_cases hre : (readS σ n).2 = 0
    · rw [if_pos hre]
      rw [hre] at HRD
      clear hre
      generalize (readS σ n).1 = l at HBY HRD
      have HSC := hid (scanA_ok l HBY.out.1)
      obtain ⟨ks, hks⟩ := (scan_impl l HBY.out.1 (by have := HBY.out.2; have := HNB.out; omega)).get
      have HKS := hid hks
      clear hks
      generalize scanA l = sc at HSC HKS
      obtain ⟨E, en⟩ := sc
      have HES := hid (show ∀ x ∈ E, Small x from fun x hx => by
        obtain ⟨E', e', h1, _, h2, _⟩ := HSC.out
        obtain ⟨rfl, _⟩ := Prod.mk.inj h1
        exact small_of_good (h2 x hx))
      have HEL := hid (show E.length ≤ 65536 by
        obtain ⟨E', e', h1, _, _, _, h2⟩ := HSC.out
        obtain ⟨rfl, _⟩ := Prod.mk.inj h1
        exact h2)
      dsimp only
      clear HSC
      have hel := HEL.out
      by_cases hel1 : en = (l.length : Int)
      · rw [if_pos hel1]
        have HE1 := hid hel1
        subst hel1
        clear HRW
        go_enter Try.func18, Try.ntmps18
        go_wp2_with (first
          | (go_at_call 39; refine HLI.out.mono ?_; rintro e w2 ⟨v2, rfl, hr2, hb2⟩; obtain ⟨A2, n2, c2, rfl⟩ := R_slice3 hr2; have HR2 := hid (Kd.R_lower hr2 (Nat.zero_le _)); have HB2 := hid hb2; clear hr2 hb2)
          | (go_at_call 38; refine (contains_calls _ _ _ (listS σ) n _ HR2.out (by show (σ.cur.map (·.1)).length ≤ _; rw [List.length_map]; exact HLE.out)).mono ?_; rw [hh]; rintro e w4 ⟨rfl, hd4⟩; have HB4 := hid (HB2.out.trans (hd4.below.mono HB2.out.size)); clear hd4)
          | (go_at_call 40; refine (HRD.out _ HB4.out).mono ?_; rintro e w5 ⟨v5, rfl, hr5, hb5⟩; obtain ⟨A5, c5, rfl⟩ := Kd.R_slice hr5; have HR5 := hid hr5; have HB5 := hid (HB4.out.trans (hb5.mono HB4.out.size)); clear hr5 hb5)
          | (go_at_call 13; refine (commitlog_Scan.calls ks A5 c5 l E _ _ (Kd.R_reads' HR5.out).2.2 (Kd.R_reads' HR5.out).2.1 HKS.out).mono ?_; rintro e w6 ⟨v6, rfl, hr6, hb6⟩; obtain ⟨A6, n6, c6, rfl⟩ := R_slice3 hr6; have HR6 := hid hr6; have HB6 := hid (HB5.out.trans (hb6.mono HB5.out.size)); clear hr6 hb6))
        go_ret2
        exact ⟨_, rfl, Opened.row HLT.out HB6.out HR6.out HB5.out.size (Moved.stay (H.out.below HB6.out) (Below.refl _ _))⟩
      · rw [if_neg hel1]
        have hbb : (en == (l.length : Int)) = false := by simpa using hel1
        clear hel1
        by_cases hfull : E.length = 65536
        · rw [if_pos hfull]
          have HF := hid hfull
          clear hfull HRW
          go_enter Try.func18, Try.ntmps18
          go_wp2_with (first
            | (go_at_call 39; refine HLI.out.mono ?_; rintro e w2 ⟨v2, rfl, hr2, hb2⟩; obtain ⟨A2, n2, c2, rfl⟩ := R_slice3 hr2; have HR2 := hid (Kd.R_lower hr2 (Nat.zero_le _)); have HB2 := hid hb2; clear hr2 hb2)
            | (go_at_call 38; refine (contains_calls _ _ _ (listS σ) n _ HR2.out (by show (σ.cur.map (·.1)).length ≤ _; rw [List.length_map]; exact HLE.out)).mono ?_; rw [hh]; rintro e w4 ⟨rfl, hd4⟩; have HB4 := hid (HB2.out.trans (hd4.below.mono HB2.out.size)); clear hd4)
            | (go_at_call 40; refine (HRD.out _ HB4.out).mono ?_; rintro e w5 ⟨v5, rfl, hr5, hb5⟩; obtain ⟨A5, c5, rfl⟩ := Kd.R_slice hr5; have HR5 := hid hr5; have HB5 := hid (HB4.out.trans (hb5.mono HB4.out.size)); clear hr5 hb5)
            | (go_at_call 13; refine (commitlog_Scan.calls ks A5 c5 l E _ _ (Kd.R_reads' HR5.out).2.2 (Kd.R_reads' HR5.out).2.1 HKS.out).mono ?_; rintro e w6 ⟨v6, rfl, hr6, hb6⟩; obtain ⟨A6, n6, c6, rfl⟩ := R_slice3 hr6; have hn6 : ((n6 : Int) == 65536) = true := (by rw [(Kd.R_reads' hr6).1, HF.out]; rfl); have HB6 := hid (HB5.out.trans (hb6.mono HB5.out.size)); clear hr6 hb6))
          go_ret2
          exact ⟨_, rfl, Opened.nil (Moved.stay H.out HB6.out)⟩
        · rw [if_neg hfull]
          have HF := hid hfull
          have HC := hid (HRW.out E HES.out)
          clear hfull HRW
          generalize rewriteS σ n E = r at HC
          obtain ⟨σr, er⟩ := r
          dsimp only at HC ⊢
          by_cases her : er = 0
          · subst her
            rw [if_pos rfl]
            go_enter Try.func18, Try.ntmps18
            go_wp2_with (first
              | (go_at_call 39; refine HLI.out.mono ?_; rintro e w2 ⟨v2, rfl, hr2, hb2⟩; obtain ⟨A2, n2, c2, rfl⟩ := R_slice3 hr2; have HR2 := hid (Kd.R_lower hr2 (Nat.zero_le _)); have HB2 := hid hb2; clear hr2 hb2)
              | (go_at_call 38; refine (contains_calls _ _ _ (listS σ) n _ HR2.out (by show (σ.cur.map (·.1)).length ≤ _; rw [List.length_map]; exact HLE.out)).mono ?_; rw [hh]; rintro e w4 ⟨rfl, hd4⟩; have HB4 := hid (HB2.out.trans (hd4.below.mono HB2.out.size)); clear hd4)
              | (go_at_call 40; refine (HRD.out _ HB4.out).mono ?_; rintro e w5 ⟨v5, rfl, hr5, hb5⟩; obtain ⟨A5, c5, rfl⟩ := Kd.R_slice hr5; have HR5 := hid hr5; have HB5 := hid (HB4.out.trans (hb5.mono HB4.out.size)); clear hr5 hb5)
              | (go_at_call 13; refine (commitlog_Scan.calls ks A5 c5 l E _ _ (Kd.R_reads' HR5.out).2.2 (Kd.R_reads' HR5.out).2.1 HKS.out).mono ?_; rintro e w6 ⟨v6, rfl, hr6, hb6⟩; obtain ⟨A6, c6, rfl⟩ := Kd.R_slice hr6; have hn6 : ((E.length : Int) == 65536) = false := (by have := HF.out; simp; omega); have HR6 := hid hr6; have HB6 := hid (HB5.out.trans (hb6.mono HB5.out.size)); clear hr6 hb6)
              | (go_at_call 23; refine (HC.out A6 c6 _ HB6.out (Kd.R_reads' HR6.out).2.2 (Kd.R_reads' HR6.out).2.1).mono ?_; rintro e w7 ⟨rfl, hm7⟩; have HM7 := hid hm7; clear hm7))
            go_ret2
            exact ⟨_, rfl, Opened.row HLT.out HB6.out HR6.out HB5.out.size HM7.out⟩
          · rw [if_neg her]
            have hbe : (er != 0) = true := by simpa using her
            clear her
            go_enter Try.func18, Try.ntmps18
            go_wp2_with (first
              | (go_at_call 39; refine HLI.out.mono ?_; rintro e w2 ⟨v2, rfl, hr2, hb2⟩; obtain ⟨A2, n2, c2, rfl⟩ := R_slice3 hr2; have HR2 := hid (Kd.R_lower hr2 (Nat.zero_le _)); have HB2 := hid hb2; clear hr2 hb2)
              | (go_at_call 38; refine (contains_calls _ _ _ (listS σ) n _ HR2.out (by show (σ.cur.map (·.1)).length ≤ _; rw [List.length_map]; exact HLE.out)).mono ?_; rw [hh]; rintro e w4 ⟨rfl, hd4⟩; have HB4 := hid (HB2.out.trans (hd4.below.mono HB2.out.size)); clear hd4)
              | (go_at_call 40; refine (HRD.out _ HB4.out).mono ?_; rintro e w5 ⟨v5, rfl, hr5, hb5⟩; obtain ⟨A5, c5, rfl⟩ := Kd.R_slice hr5; have HR5 := hid hr5; have HB5 := hid (HB4.out.trans (hb5.mono HB4.out.size)); clear hr5 hb5)
              | (go_at_call 13; refine (commitlog_Scan.calls ks A5 c5 l E _ _ (Kd.R_reads' HR5.out).2.2 (Kd.R_reads' HR5.out).2.1 HKS.out).mono ?_; rintro e w6 ⟨v6, rfl, hr6, hb6⟩; obtain ⟨A6, c6, rfl⟩ := Kd.R_slice hr6; have hn6 : ((E.length : Int) == 65536) = false := (by have := HF.out; simp; omega); have HR6 := hid hr6; have HB6 := hid (HB5.out.trans (hb6.mono HB5.out.size)); clear hr6 hb6)
              | (go_at_call 23; refine (HC.out A6 c6 _ HB6.out (Kd.R_reads' HR6.out).2.2 (Kd.R_reads' HR6.out).2.1).mono ?_; rintro e w7 ⟨rfl, hm7⟩; have HM7 := hid hm7; clear hm7))
            go_ret2
            exact ⟨_, rfl, Opened.nil (Moved.from_ HB6.out (fun k hk => .inl hk) HM7.out)⟩
    · rw [if_neg hre]
      have hbb : ((readS σ n).2 != 0) = true := by simpa using hre
      generalize readS σ n = r at HRD hbb
      clear hre HRW HBY
      go_enter Try.func18, Try.ntmps18
      go_wp2_with (first
        | (go_at_call 39; refine HLI.out.mono ?_; rintro e w2 ⟨v2, rfl, hr2, hb2⟩; obtain ⟨A2, n2, c2, rfl⟩ := R_slice3 hr2; have HR2 := hid (Kd.R_lower hr2 (Nat.zero_le _)); have HB2 := hid hb2; clear hr2 hb2)
        | (go_at_call 38; refine (contains_calls _ _ _ (listS σ) n _ HR2.out (by show (σ.cur.map (·.1)).length ≤ _; rw [List.length_map]; exact HLE.out)).mono ?_; rw [hh]; rintro e w4 ⟨rfl, hd4⟩; have HB4 := hid (HB2.out.trans (hd4.below.mono HB2.out.size)); clear hd4)
        | (go_at_call 40; refine (HRD.out _ HB4.out).mono ?_; rintro e w5 ⟨v5, rfl, hr5, hb5⟩; have HB5 := hid (HB4.out.trans (hb5.mono HB4.out.size)); clear hr5 hb5))
      go_ret2
      exact ⟨_, rfl, Opened.nil (Moved.stay H.out HB5.out)⟩
end Go.Proofs.Ytfkgpmidcbjlbaa.H
end
section
set_option linter.unusedVariables false
set_option linter.unusedSimpArgs false
/- The bounds behind Rewrite and Open; the sample results of lives, in plain words. -/
namespace Go.Proofs.Ytfkgpmidcbjlbaa.H
open Go.RowKit Go.Proofs.Ytfkgpmidcbjlbaa.U Go.Proofs.YtfkgpmidcbjlbaaW.PrintWords Go.Proofs.Ytfkgpmidcbjlbaa.P

theorem St.Sound.run (n f : ByteArray) (b : List Int) (hb : Bytes b) : ∀ (k i : Nat) (σ : St) (N : Nat), σ.Sound N → (runS n f b k i σ).1.Sound (N + k * (b.length + 1))
  | 0, _, σ, N, h => h.mono (by omega)
  | k + 1, i, σ, N, h => by
    unfold runS
    have h1 := h.step n f b hb i
    split
    · refine (St.Sound.run n f b hb k (i + 1) _ _ h1).mono ?_
      rw [Nat.succ_mul]; omega
    · refine h1.mono ?_
      rw [Nat.succ_mul]; omega
theorem St.Sound.pre {σ : St} {N : Nat} (h : σ.Sound N) (f : ByteArray) : (preS f σ).1.Sound (N + 1) := by
  unfold preS
  split
  · exact h.remove f
  · exact h.mono (by omega)
theorem St.Sound.replace {σ : St} {N : Nat} (h : σ.Sound N) (n : ByteArray) (b : List Int) (hb : Bytes b) : (replaceS σ n b).1.Sound (N + 1 + 5 * (b.length + 1)) := by
  unfold replaceS
  split
  · exact St.Sound.run _ _ _ hb _ _ _ _ (h.pre _)
  · exact (h.pre _).mono (by omega)
theorem encAll_sound : ∀ (E : List LE) (acc : List Int), (∀ x ∈ E, Small x) → Bytes acc → Bytes (encAll E acc).1 ∧ (encAll E acc).1.length ≤ acc.length + 97 * E.length
  | [], acc, _, hb => ⟨hb, by simp [encAll]⟩
  | x :: r, acc, hs, hb => by
    unfold encAll
    split
    · have := encAll_sound r (acc ++ (encE x).1) (fun y hy => hs y (List.mem_cons_of_mem _ hy)) (hb.app (encE_bytes x))
      refine ⟨this.1, Nat.le_trans this.2 ?_⟩
      have h2 := encE_len x (hs x List.mem_cons_self)
      rw [List.length_append, List.length_cons]
      omega
    · exact ⟨hb, by simp⟩
theorem St.Sound.rewrite {σ : St} {N : Nat} (h : σ.Sound N) (n : ByteArray) (E : List LE) (hE : ∀ x ∈ E, Small x) : (rewriteS σ n E).1.Sound (N + 32000000) := by
  unfold rewriteS
  split
  · exact h.mono (by omega)
  · next hl =>
    have hs := encAll_sound E [] hE (fun y hy => (by cases hy))
    split
    · refine (h.replace n _ hs.1).mono ?_
      have := hs.2
      rw [List.length_nil] at this
      omega
    · exact h.mono (by omega)
theorem St.Sound.open_ {σ : St} {N : Nat} (h : σ.Sound N) (n : ByteArray) : (openS σ n).1.Sound (N + 32000000) := by
  unfold openS
  split
  · have hb := readS_bytes h n
    have hsm : ∀ x ∈ (scanA (readS σ n).1).1, Small x := fun x hx => by
      obtain ⟨E, e, h1, _, h2, _⟩ := scanA_ok _ hb.1
      rw [h1] at hx
      exact small_of_good (h2 x hx)
    split
    · split
      · exact h.mono (by omega)
      · split
        · exact h.mono (by omega)
        · split
          · exact h.rewrite n _ hsm
          · exact h.rewrite n _ hsm
    · exact h.mono (by omega)
  · exact h.rewrite n [] (fun x hx => (by cases hx))
/-! the samples -/
def tagE : LE := ⟨3, 5, 0, 0, 0, ⟨#[97]⟩⟩
def logN : ByteArray := ⟨#[108, 111, 103]⟩
def σa : St := (openS St.new logN).1
def σb : St := (logAppendS σa logN tagE).1
def σc : St := crashS σb 0 []
def recT : List Int := (encE tagE).1
def isTag (x : LE) : Bool := decide (x.f0 = 3) && decide (x.f1 = 5) && decide (x.f2 = 0) && decide (x.f3 = 0) && decide (x.f4 = 0) && decide (x.f5.data.toList = [97])
theorem isTag_iff {x : LE} (h : isTag x = true) : x = tagE := by
  unfold isTag at h
  simp only [Bool.and_eq_true, decide_eq_true_eq] at h
  obtain ⟨⟨⟨⟨⟨h0, h1⟩, h2⟩, h3⟩, h4⟩, h5⟩ := h
  cases x
  simp only at h0 h1 h2 h3 h4 h5
  subst h0 h1 h2 h3 h4
  unfold tagE
  congr
  exact ByteArray.ext (Array.toList_inj.1 h5)
theorem only_tag {l : List LE} (h : (l.length == 1 && l.all isTag) = true) : l = [tagE] := by
  simp only [Bool.and_eq_true, beq_iff_eq, List.all_eq_true] at h
  match l, h with
  | [x], ⟨_, h⟩ => rw [isTag_iff (h x (by simp))]
set_option maxRecDepth 100000
theorem small_tag : Small tagE := ⟨by decide +kernel, by decide +kernel, by decide +kernel, by decide +kernel⟩
theorem recT_ok : (encE tagE).2 = 0 := by decide +kernel
theorem recT_len : recT.length = 12 := by decide +kernel
theorem recT_head : recT.take 8 = [7, 3, 5, 0, 0, 0, 1, 97] := by decide +kernel
theorem decT : decodeS recT 0 = (3, 5, 0, 0, 0, ⟨#[97]⟩, 12, 0) := by
  have h : (decide ((decodeS recT 0).1 = 3) && decide ((decodeS recT 0).2.1 = 5) && decide ((decodeS recT 0).2.2.1 = 0) && decide ((decodeS recT 0).2.2.2.1 = 0) && decide ((decodeS recT 0).2.2.2.2.1 = 0) && decide ((decodeS recT 0).2.2.2.2.2.1.data.toList = [97]) && decide ((decodeS recT 0).2.2.2.2.2.2.1 = 12) && decide ((decodeS recT 0).2.2.2.2.2.2.2 = 0)) = true := by decide +kernel
  generalize decodeS recT 0 = r at h
  obtain ⟨a, b, c, d, e, f, g, i⟩ := r
  simp only [Bool.and_eq_true, decide_eq_true_eq] at h
  obtain ⟨⟨⟨⟨⟨⟨⟨h0, h1⟩, h2⟩, h3⟩, h4⟩, h5⟩, h6⟩, h7⟩ := h
  subst h0 h1 h2 h3 h4 h6 h7
  rw [show f = (⟨#[97]⟩ : ByteArray) from ByteArray.ext (Array.toList_inj.1 h5)]
theorem scanT : scanA (recT ++ [7, 3]) = ([tagE], 12) := by
  have h : ((scanA (recT ++ [7, 3])).1.length == 1 && (scanA (recT ++ [7, 3])).1.all isTag) = true := by decide +kernel
  have h2 : (scanA (recT ++ [7, 3])).2 = 12 := by decide +kernel
  exact Prod.ext (only_tag h) h2
theorem open1 : (openS St.new logN).2 = ([], 0) := by
  have h : (openS St.new logN).2.1.length = 0 := by decide +kernel
  have h2 : (openS St.new logN).2.2 = 0 := by decide +kernel
  exact Prod.ext (List.length_eq_zero_iff.1 h) h2
theorem append1 : (logAppendS σa logN tagE).2 = 0 := by decide +kernel
theorem open2 : (openS σc logN).2 = ([tagE], 0) := by
  have h : ((openS σc logN).2.1.length == 1 && (openS σc logN).2.1.all isTag) = true := by decide +kernel
  have h2 : (openS σc logN).2.2 = 0 := by decide +kernel
  exact Prod.ext (only_tag h) h2
theorem soundA : σa.Sound 32000000 := (St.Sound.new.open_ logN).mono (Nat.le_refl _)
theorem soundB : σb.Sound 32000097 := soundA.logAppend logN tagE small_tag
theorem soundC : σc.Sound 32000097 := soundB.crash 0 []
end Go.Proofs.Ytfkgpmidcbjlbaa.H
end
section
set_option linter.unusedVariables false
set_option linter.unusedSimpArgs false
-- Written by a program of this session (a printer of walks).
namespace Go.Proofs.Ytfkgpmidcbjlbaa.P
open Go.RowKit Go.Proofs.YtfkgpmidcbjlbaaW.PrintWords Go.Proofs.YtfkgpmidcbjlbaaW.PrintLast Go.Proofs.YtfkgpmidcbjlbaaW.PrintMore
attribute [local go_sem] max2_int min2_int max_two min_two max_three min_three max_four min_four   -- for this text's walks alone
set_option linter.unusedVariables false
set_option linter.unusedSimpArgs false

/-! ### laminalaw24_tag: function 22 -/
def laminalaw24_tag.f  : Option (Int × Int × Int × Int × Int × ByteArray) := some (3, 5, 0, 0, 0, (⟨#[97]⟩ : ByteArray))
set_option maxHeartbeats 8000000 in
set_option maxRecDepth 100000 in
theorem laminalaw24_tag.calls  (r1 : Int) (r2 : Int) (r3 : Int) (r4 : Int) (r5 : Int) (r6 : ByteArray) (w : World) (h : laminalaw24_tag.f  = some (r1, r2, r3, r4, r5, r6)) :
    Calls Try.prog 22 #[] w fun e w' => e = .returned (.agg #[.int .i64 r1, .int .i64 r2, .int .i64 r3, .int .i64 r4, .int .i64 r5, .string r6]) ∧ Below w.heap.size w w' := by
  have hu23 := Try.underlying23
  have HB := Aside0.mk (Below.refl w.heap.size w)
  have H : (some (3, 5, 0, 0, 0, (⟨#[97]⟩ : ByteArray))) = some (r1, r2, r3, r4, r5, r6) := h
  clear h
  simp only [Option.some.injEq, Prod.mk.injEq] at H
  obtain ⟨rfl, rfl, rfl, rfl, rfl, rfl⟩ := H
  go_enter Try.func22, Try.ntmps22
  go_wp2_with (first | ((with_reducible refine gate_dst (N := 0) rfl ?_); refine box_event ?hg (N := 0) ?hd (cs := #[.int .i64 0, .int .i64 0, .int .i64 0, .int .i64 0, .int .i64 0, .string (⟨#[]⟩ : ByteArray)]) (t := 23) ?hr ?_; (case hd => rfl); (case hg => rfl); (case hr => first | (go_simp; done) | (go_simp; rfl)); intro gb241 hg w1 hbox hb; have n0_ := Aside0.mk (below_step (by repeat (first | (with_reducible first | exact HB.out | apply below_alloc | apply pw_below_drewN | apply below_drew1) | exact HB.out)) hb); have n1_ := Aside0.mk (hbox); have n2_ := Aside0.mk ((by rw [hg]; exact (below_size (by repeat (first | (with_reducible first | exact HB.out | apply below_alloc | apply pw_below_drewN | apply below_drew1) | exact HB.out))) : w.heap.size ≤ gb241)); have n3_ := Aside0.mk ((by rw [hg]; exact (below_size (by repeat (first | (with_reducible first | exact HB.out | apply below_alloc | apply pw_below_drewN | apply below_drew1) | exact HB.out))) : w.heap.size ≤ gb241)); clear HB; have HB := n0_; have BK241 := n1_; have GW241 := n2_; have GE241 := n3_; clear n0_ n1_ n2_ n3_; clear hb hbox hg; have hcz2_0 : w1.cell? ⟨gb241, 0, none⟩ = some (.int .i64 0) := (blk_cell BK241.out 0).trans rfl; have hcz2_1 : w1.cell? ⟨gb241, 1, none⟩ = some (.int .i64 0) := (blk_cell BK241.out 1).trans rfl; have hcz2_2 : w1.cell? ⟨gb241, 2, none⟩ = some (.int .i64 0) := (blk_cell BK241.out 2).trans rfl; have hcz2_3 : w1.cell? ⟨gb241, 3, none⟩ = some (.int .i64 0) := (blk_cell BK241.out 3).trans rfl; have hcz2_4 : w1.cell? ⟨gb241, 4, none⟩ = some (.int .i64 0) := (blk_cell BK241.out 4).trans rfl; have hcz2_5 : w1.cell? ⟨gb241, 5, none⟩ = some (.string (⟨#[]⟩ : ByteArray)) := (blk_cell BK241.out 5).trans rfl; have hfz2_0 := blk_frozen BK241.out 0; have hfz2_1 := blk_frozen BK241.out 1; have hfz2_2 := blk_frozen BK241.out 2; have hfz2_3 := blk_frozen BK241.out 3; have hfz2_4 := blk_frozen BK241.out 4; have hfz2_5 := blk_frozen BK241.out 5))
  refine bodyPost_ret (results_cell_row rfl _ _ gb241 23 #[.int .i64 3, .int .i64 5, .int .i64 0, .int .i64 0, .int .i64 0, .string (⟨#[97]⟩ : ByteArray)] (0, 0) _ rfl (by (with_reducible repeat (first | refine blk_drewN ?_ _ | refine blk_drew ?_ | refine blk_alloc ?_ _)); refine blk_put (cs := #[.int .i64 3, .int .i64 5, .int .i64 0, .int .i64 0, .int .i64 0, .string (⟨#[]⟩ : ByteArray)]) ?_ 5 _ rfl; (with_reducible repeat (first | refine blk_drewN ?_ _ | refine blk_drew ?_ | refine blk_alloc ?_ _)); refine blk_put (cs := #[.int .i64 3, .int .i64 5, .int .i64 0, .int .i64 0, .int .i64 0, .string (⟨#[]⟩ : ByteArray)]) ?_ 4 _ rfl; (with_reducible repeat (first | refine blk_drewN ?_ _ | refine blk_drew ?_ | refine blk_alloc ?_ _)); refine blk_put (cs := #[.int .i64 3, .int .i64 5, .int .i64 0, .int .i64 0, .int .i64 0, .string (⟨#[]⟩ : ByteArray)]) ?_ 3 _ rfl; (with_reducible repeat (first | refine blk_drewN ?_ _ | refine blk_drew ?_ | refine blk_alloc ?_ _)); refine blk_put (cs := #[.int .i64 3, .int .i64 5, .int .i64 0, .int .i64 0, .int .i64 0, .string (⟨#[]⟩ : ByteArray)]) ?_ 2 _ rfl; (with_reducible repeat (first | refine blk_drewN ?_ _ | refine blk_drew ?_ | refine blk_alloc ?_ _)); refine blk_put (cs := #[.int .i64 3, .int .i64 0, .int .i64 0, .int .i64 0, .int .i64 0, .string (⟨#[]⟩ : ByteArray)]) ?_ 1 _ rfl; (with_reducible repeat (first | refine blk_drewN ?_ _ | refine blk_drew ?_ | refine blk_alloc ?_ _)); refine blk_put (cs := #[.int .i64 0, .int .i64 0, .int .i64 0, .int .i64 0, .int .i64 0, .string (⟨#[]⟩ : ByteArray)]) ?_ 0 _ rfl; (with_reducible repeat (first | refine blk_drewN ?_ _ | refine blk_drew ?_ | refine blk_alloc ?_ _)); exact BK241.out) Try.underlying23 rfl (by kernel_rfl)) rfl ?_
  exact ⟨by first | rfl | (simp [errW_none, errW_some] <;> rfl) | (simp [*, errW_none, errW_some] <;> rfl), by repeat (first | (with_reducible first | exact HB.out | apply below_alloc | apply pw_below_drewN | apply below_drew1 | refine below_set ?_ GE241.out) | exact HB.out)⟩

end Go.Proofs.Ytfkgpmidcbjlbaa.P
end
section
set_option linter.unusedVariables false
set_option linter.unusedSimpArgs false
/- commitlog at a nil disk; the tag. -/
namespace Go.Proofs.Ytfkgpmidcbjlbaa.H
open Go.RowKit Go.Proofs.Ytfkgpmidcbjlbaa.U Go.Proofs.YtfkgpmidcbjlbaaW.PrintWords Go.Proofs.Ytfkgpmidcbjlbaa.P

set_option maxHeartbeats 2000000 in
theorem open_nil (n : ByteArray) (w : World) : Calls Try.prog 18 #[.pointer none, .string n] w fun e w' => e = .returned (.tuple #[.slice none 0 0, .int .i64 1]) ∧ Below w.heap.size w w' := by
  go_enter Try.func18, Try.ntmps18
  go_wp2_with fail
  go_ret2
  exact ⟨rfl, Below.refl _ _⟩
set_option maxHeartbeats 2000000 in
theorem append_nil (n : ByteArray) (x : LE) (w : World) : Calls Try.prog 20 #[.pointer none, .string n, .agg (rowE x)] w fun e w' => e = .returned (.int .i64 1) ∧ Below w.heap.size w w' := by
  go_enter Try.func20, Try.ntmps20
  go_wp2_with fail
  go_ret
  exact ⟨rfl, (Below.refl _ _).alloc (Nat.le_refl _) _⟩
set_option maxHeartbeats 2000000 in
theorem rewrite_nil (n : ByteArray) (w : World) : Calls Try.prog 23 #[.pointer none, .string n, .slice none 0 0] w fun e w' => e = .returned (.int .i64 1) ∧ Below w.heap.size w w' := by
  go_enter Try.func23, Try.ntmps23
  go_wp2_with fail
  go_ret
  exact ⟨rfl, ((Below.refl _ _).alloc (Nat.le_refl _) _).alloc (by simp) _⟩
theorem tag_calls (w : World) : Calls Try.prog 22 #[] w fun e w' => e = .returned (.agg (rowE tagE)) ∧ Below w.heap.size w w' :=
  laminalaw24_tag.calls 3 5 0 0 0 ⟨#[97]⟩ w rfl
end Go.Proofs.Ytfkgpmidcbjlbaa.H
end
section
set_option linter.unusedVariables false
set_option linter.unusedSimpArgs false
/- laminalaw24.lives: the sample results. -/
namespace Go.Proofs.Ytfkgpmidcbjlbaa.H
open Go.RowKit Go.Proofs.Ytfkgpmidcbjlbaa.U Go.Proofs.YtfkgpmidcbjlbaaW.PrintWords Go.Proofs.Ytfkgpmidcbjlbaa.P

theorem C_two (w : World) : Kd.C (Kd.int .u8) (w.alloc (.cells #[.int .u8 7, .int .u8 3] 5)) (some ⟨w.heap.size, 0, none⟩) 2 [7, 3] := by
  refine ⟨rfl, by decide, fun _ => ⟨_, rfl, fun j p hj => ?_⟩⟩
  have hc := fun i => cell_blk (heap_alloc_new w (.cells #[.int .u8 7, .int .u8 3] 5)) i
  match j, hj with
  | 0, hj =>
    simp at hj; subst hj
    refine ⟨[.int .u8 7], rfl, rfl, fun i u hu => ?_⟩
    match i, hu with
    | 0, hu => simp at hu; subst hu; exact hc 0
    | i + 1, hu => simp at hu
  | 1, hj =>
    simp at hj; subst hj
    refine ⟨[.int .u8 3], rfl, rfl, fun i u hu => ?_⟩
    match i, hu with
    | 0, hu => simp at hu; subst hu; exact hc 1
    | i + 1, hu => simp at hu
  | j + 2, hj => simp at hj
theorem C_tag (w : World) : Kd.C k23 (w.alloc (.cells #[.int .i64 3, .int .i64 5, .int .i64 0, .int .i64 0, .int .i64 0, .string ⟨#[97]⟩] 23)) (some ⟨w.heap.size, 0, none⟩) [tagE].length [tagE] := by
  refine ⟨rfl, by decide, fun _ => ⟨_, rfl, fun j p hj => ?_⟩⟩
  have hc := fun i => cell_blk (heap_alloc_new w (.cells #[.int .i64 3, .int .i64 5, .int .i64 0, .int .i64 0, .int .i64 0, .string ⟨#[97]⟩] 23)) i
  match j, hj with
  | 0, hj =>
    simp at hj; subst hj
    refine ⟨_, rfl, k23_mk _ tagE, fun i u hu => ?_⟩
    match i, hu with
    | 0, hu => simp at hu; subst hu; exact hc 0
    | 1, hu => simp at hu; subst hu; exact hc 1
    | 2, hu => simp at hu; subst hu; exact hc 2
    | 3, hu => simp at hu; subst hu; exact hc 3
    | 4, hu => simp at hu; subst hu; exact hc 4
    | 5, hu => simp at hu; subst hu; exact hc 5
    | i + 6, hu => simp at hu
  | j + 1, hj => simp at hj
theorem step_below {w9 a b : World} {S : Nat → Prop} (hb : Below w9.heap.size w9 a) (h0 : Below 0 a b) (hk : Kept a b S) (hS : ∀ k, S k → w9.heap.size ≤ k) : Below w9.heap.size w9 b :=
  hb.trans ⟨h0.os, h0.tape, h0.output, h0.size, fun k hlt => hk.2 k (Nat.lt_of_lt_of_le hlt hb.size) (fun hs => by have := hS k hs; omega)⟩
theorem sub_le {w9 a : World} {S : Nat → Prop} (hS : ∀ k, S k → w9.heap.size ≤ k) (hb : Below w9.heap.size w9 a) {k : Nat} (h : S k ∨ a.heap.size ≤ k) : w9.heap.size ≤ k := by
  rcases h with h | h
  · exact hS k h
  · exact Nat.le_trans hb.size h
theorem enc_no : encE ⟨6, 0, 0, 0, 0, ⟨#[97]⟩⟩ = ([], 1) := by
  unfold encE
  rw [if_neg (by decide +kernel)]
set_option maxRecDepth 100000 in
set_option maxHeartbeats 4000000 in
theorem lives_calls (w : World) :
    Calls Try.prog 8 #[] w fun e w' => e = .returned (.bool true) ∧ Below w.heap.size w w' := by
  have HE1 := hid (fun w1 : World => (show Calls Try.prog 9 #[.agg #[.int .i64 3, .int .i64 5, .int .i64 0, .int .i64 0, .int .i64 0, .string ⟨#[97]⟩]] w1 fun e w' => ∃ v0 : Value, e = .returned (.tuple #[v0, .int .i64 0]) ∧ Kd.R (Kd.int .u8) 5 w' w1.heap.size (fun _ => True) v0 recT ∧ Below w1.heap.size w1 w' by
    have := encE_calls tagE small_tag w1
    rw [recT_ok] at this
    exact this))
  have HE2 := hid (fun w1 : World => (show Calls Try.prog 9 #[.agg #[.int .i64 6, .int .i64 0, .int .i64 0, .int .i64 0, .int .i64 0, .string ⟨#[97]⟩]] w1 fun e w' => ∃ v0 : Value, e = .returned (.tuple #[v0, .int .i64 1]) ∧ Below w1.heap.size w1 w' by
    have := encE_calls ⟨6, 0, 0, 0, 0, ⟨#[97]⟩⟩ ⟨by decide +kernel, by decide +kernel, by decide +kernel, by decide +kernel⟩ w1
    rw [enc_no] at this
    exact this.mono fun e w' ⟨v0, h1, _, h2⟩ => ⟨v0, h1, h2⟩))
  have HTG := hid (fun w1 : World => (show Calls Try.prog 22 #[] w1 fun e w' => e = .returned (.agg #[.int .i64 3, .int .i64 5, .int .i64 0, .int .i64 0, .int .i64 0, .string ⟨#[97]⟩]) ∧ Below w1.heap.size w1 w' from tag_calls w1))
  have HBYT := hid (encE_bytes tagE)
  have HLT := hid recT_len
  have HHT := hid recT_head
  obtain ⟨kd, hkd⟩ := (decode_impl recT 0 (encE_bytes tagE) (by rw [recT_len]; decide +kernel)).get
  rw [decT] at hkd
  have HKD := hid hkd
  obtain ⟨ks, hks⟩ := (scan_impl (recT ++ [7, 3]) ((encE_bytes tagE).app (by intro y hy; simp at hy; rcases hy with rfl | rfl <;> decide)) (by rw [List.length_append, recT_len]; decide +kernel)).get
  rw [scanT] at hks
  have HKS := hid hks
  clear hkd hks
  have HSC := hid (fun (w1 : World) (A : Option Addr) (n c : Nat) {base : Nat} (hr : Kd.R (Kd.int .u8) 5 w1 base (fun _ => True) (.slice A n c) (recT ++ [7, 3])) => (show Calls Try.prog 13 #[.slice A n c] w1 fun e w' => ∃ v0 : Value, e = .returned (.tuple #[v0, .int .i64 12]) ∧ Kd.R k23 23 w' w1.heap.size (fun _ => True) v0 [tagE] ∧ Below w1.heap.size w1 w' by
    obtain ⟨h1, h2, h3⟩ := Kd.R_reads' hr
    subst h1
    exact commitlog_Scan.calls ks A c (recT ++ [7, 3]) [tagE] 12 w1 h3 h2 HKS.out))
  generalize recT = rt at *
  go_enter Try.func8, Try.ntmps8
  go_upto_region 6 with (first
    | (go_at_call 22; refine (HTG.out _).mono ?_; rintro e w1 ⟨rfl, hb1⟩; have HB1 := hid hb1; clear hb1)
    | (go_at_call_of 9 (Value.agg #[.int .i64 3, .int .i64 5, .int .i64 0, .int .i64 0, .int .i64 0, .string ⟨#[97]⟩]); refine (HE1.out _).mono ?_; rintro e w2 ⟨v2, rfl, hr2, hb2⟩; obtain ⟨A2, c2, rfl⟩ := Kd.R_slice hr2; have HR2 := hid hr2; have HB2 := hid (HB1.out.trans (hb2.mono HB1.out.size)); clear hr2 hb2)
    | (go_at_call 11; refine (commitlog_Decode.calls kd A2 c2 rt 0 _ _ _ _ _ _ _ _ _ (Kd.R_reads' HR2.out).2.2 (Kd.R_reads' HR2.out).2.1 HKD.out).mono ?_; rintro e w3 ⟨rfl, hb3⟩; have HB3 := hid hb3; clear hb3)
    | (go_at_call 9; refine (HE2.out _).mono ?_; rintro e w4 ⟨v4, rfl, hb4⟩; have HX4 := hid ((hb4.block _ (by simp)).trans (heap_alloc_new w3 (.cells #[.int .i64 3, .int .i64 5, .int .i64 0, .int .i64 0, .int .i64 0, .string ⟨#[97]⟩] 23))); have HB4 := hid (HB3.out.trans ((((Below.refl w3.heap.size w3).alloc (Nat.le_refl _) (.cells #[.int .i64 3, .int .i64 5, .int .i64 0, .int .i64 0, .int .i64 0, .string ⟨#[97]⟩] 23)).trans (hb4.mono (by simp))).mono HB3.out.size)); clear hb4)
    | ((with_reducible refine gate_dst (N := 35) rfl ?_); refine Kd.R_lit (Kd.int .u8) _ 5 rfl (N := 35) rfl (xs := ([] : List Int)) (inner := []) (ok := fun _ => True) (okp := fun _ => False) (by first | (go_simp; done) | (go_simp; rfl)) (Reps.none _ _) (fun _ hk => hk.elim) trivial (Below.refl _ _) (Nat.le_refl _) (by simp) ?_; intro v5 w5 ho hb _ _; have HO5 := hid ho; have HB5 := hid hb; clear ho hb)
    | (at_builtin; refine Kd.R_append_rows (Kd.int .u8) (w0 := w4) w4.heap.size rfl (.tmp 35) (.tmp 36) 24 5 (.int .u8 0) 1 rfl Try.underlying24 infoU8e rfl (by decide) (by decide) _ [] rt _ _ _ (fun _ => True) (fun _ => False) rfl rfl HO5.out (Kd.C_below (Kd.R_reads' HR2.out).2.2 (HB4.out.trans (HB5.out.mono HB4.out.size))) (fun _ _ h => h) (fun _ h => h.elim) (fun _ _ => trivial) HB5.out HB5.out.size (by rw [HLT.out]; decide) ?_; intro v6 w6 ho hb _ _; rw [List.nil_append] at ho; obtain ⟨A6, n6, c6, rfl⟩ := R_slice3 ho; have HO6 := hid ho; have HB6 := hid hb; have HO7 := hid (C_two w6); have HB7 := hid ((Below.refl w6.heap.size w6).alloc (Nat.le_refl _) (.cells #[.int .u8 7, .int .u8 3] 5)); clear ho hb)
    | (at_builtin; refine Kd.R_append_rows (Kd.int .u8) (w0 := w4) w4.heap.size rfl (.tmp 37) (.tmp 38) 24 5 (.int .u8 0) 1 rfl Try.underlying24 infoU8e rfl (by decide) (by decide) _ rt [7, 3] _ _ _ (fun _ => True) (fun _ => False) rfl rfl (Kd.R_below HO6.out HB7.out) HO7.out (fun _ _ h => h) (fun _ h => h.elim) (fun _ _ => trivial) (HB6.out.trans (HB7.out.mono HB6.out.size)) (Nat.le_trans HB6.out.size HB7.out.size) (by rw [HLT.out]; decide) ?_; intro v8 w8 ho hb _ _; obtain ⟨A8, n8, c8, rfl⟩ := R_slice3 ho; have HO8 := hid ho; have HB8 := hid hb; clear ho hb)
    | (go_at_call 13; refine (HSC.out _ A8 n8 c8 HO8.out).mono ?_; rintro e w9 ⟨v9, rfl, hr9, hb9⟩; obtain ⟨A9, n9, c9, rfl⟩ := R_slice3 hr9; have HR9 := hid hr9; have HB9 := hid (HB8.out.trans (hb9.mono HB8.out.size)); clear hr9 hb9)
    | (go_at_call 17; refine (new_calls _).mono ?_; rintro e w10 ⟨d, S, rfl, hd, hb10, hS⟩; have HD := hid hd; have HSS := hid hS; have HB910 := hid hb10; have HB10 := hid (HB9.out.trans (hb10.mono HB9.out.size)); clear hd hS hb10))
  obtain ⟨hn9, _, _⟩ := Kd.R_reads' HR9.out
  obtain rfl : n9 = 1 := hn9
  have HB4T := hid (show Below w4.heap.size w4 w10 from HB10.out)
  have hxb := (HB10.out.block _ (Array.getElem?_eq_some_iff.1 HX4.out).1).trans HX4.out
  have hx0 := cell_blk hxb 0
  have hx1 := cell_blk hxb 1
  have hx2 := cell_blk hxb 2
  have hx3 := cell_blk hxb 3
  have hx4 := cell_blk hxb 4
  have hx5 := cell_blk hxb 5
  simp only [List.getElem?_toArray] at hx0 hx1 hx2 hx3 hx4 hx5
  have hlen : ((rt.length : Int) != 12) = false := by rw [HLT.out]; rfl
  have hle8 : 8 ≤ c2 := by have := (Kd.R_reads' HR2.out).2.1; rw [HLT.out] at this; omega
  have hle8i : (8 : Int) ≤ (c2 : Int) := by omega
  have hle8j : ¬ ((c2 : Int) < 8) := by omega
  have HCV := hid (fun (wz : World) (hb : Below w10.heap.size w10 wz) => (show (convert 24 9 (.slice A2 8 c2)).run Try.prog wz = Result.ok (Value.string ⟨#[7, 3, 5, 0, 0, 0, 1, 97]⟩) wz by
    have hc := Kd.C_take (m := 8) (Kd.C_below (Kd.R_reads' HR2.out).2.2 ((HB4.out.trans (HB10.out.mono HB4.out.size)).trans (hb.mono (Nat.le_trans HB4.out.size HB10.out.size)))) (by rw [HLT.out]; decide)
    have h8 : (rt.take 8).length = 8 := by rw [List.length_take, HLT.out]; rfl
    rw [h8, HHT.out] at hc
    exact (Kd.C_string (src := 24) (dst := 9) (c := c2) Try.underlying24 Try.underlying5 Try.underlying9 hc).trans (by congr 1)))
  have hcv := HCV.out _ (Below.refl w10.heap.size w10).drew
  go_cut [86] (fun s86 wx => s86 = .bool false ∧ Hid (Below w10.heap.size w10 wx))
  case first =>
    go_region_held3 (fun wq => wq.cell? ⟨w3.heap.size, 0, none⟩ = some (.int .i64 3) ∧ wq.cell? ⟨w3.heap.size, 1, none⟩ = some (.int .i64 5) ∧ wq.cell? ⟨w3.heap.size, 2, none⟩ = some (.int .i64 0) ∧ wq.cell? ⟨w3.heap.size, 3, none⟩ = some (.int .i64 0) ∧ wq.cell? ⟨w3.heap.size, 4, none⟩ = some (.int .i64 0) ∧ wq.cell? ⟨w3.heap.size, 5, none⟩ = some (.string ⟨#[97]⟩) ∧ (convert 24 9 (.slice A2 8 c2)).run Try.prog wq = .ok (.string ⟨#[7, 3, 5, 0, 0, 0, 1, 97]⟩) wq) (first | exact ⟨hx0, hx1, hx2, hx3, hx4, hx5, hcv⟩ | exact ⟨y0, y1, y2, y3, y4, y5, HCV.out _ HBT.out⟩) (first
      | (go_at_call 22; refine (HTG.out _).mono ?_; rintro e wt ⟨rfl, hbt⟩; have HBT := hid ((Below.refl w10.heap.size w10).drew.trans hbt); have y0 := pw_cell_below HBT.out hx0; have y1 := pw_cell_below HBT.out hx1; have y2 := pw_cell_below HBT.out hx2; have y3 := pw_cell_below HBT.out hx3; have y4 := pw_cell_below HBT.out hx4; have y5 := pw_cell_below HBT.out hx5; clear hbt))
    all_goals (go_wp2_with fail; go_meet; exact ⟨rfl, HBT.out⟩)
  case rest =>
    obtain ⟨rfl, HBC⟩ := hcut
    have HBc := hid (show Below w9.heap.size w9 wc from HB910.out.trans (HBC.out.mono HB910.out.size))
    have HW9 := hid (show Below w.heap.size w w9 from HB2.out.trans ((HB4.out.trans (HB9.out.mono HB4.out.size)).mono HB2.out.size))
    have HO1 := hid (show Calls Try.prog 18 #[.pointer (some ⟨d, 0, none⟩), .string ⟨#[108, 111, 103]⟩] wc fun e w' => ∃ v : Value, e = .returned (.tuple #[v, .int .i64 0]) ∧ Opened wc w' d σa S v [] by
      have := open_calls d St.new S 0 logN wc (HD.out.below HBC.out) St.Sound.new (by decide) (by decide)
      rw [open1] at this
      exact this)
    have HO2 := hid (fun (wz : World) (S1 : Nat → Prop) (hd : DiskAt wz d σa S1) => (show Calls Try.prog 20 #[.pointer (some ⟨d, 0, none⟩), .string ⟨#[108, 111, 103]⟩, .agg #[.int .i64 3, .int .i64 5, .int .i64 0, .int .i64 0, .int .i64 0, .string ⟨#[97]⟩]] wz fun e w' => e = .returned (.int .i64 0) ∧ Moved wz w' d σb S1 by
      have := logAppend_calls d σa S1 logN tagE wz hd soundA.ok (fun f hf => by have := (soundA.file f hf).2.1; omega) small_tag
      rw [append1] at this
      exact this))
    have HO3 := hid (fun (wz : World) (S1 : Nat → Prop) (hd : DiskAt wz d σb S1) => (show Calls Try.prog 21 #[.pointer (some ⟨d, 0, none⟩), .int .i64 0, .slice none 0 0] wz fun e w' => e = .returned (.tuple #[]) ∧ Moved wz w' d σc S1 from
      crash_calls d σb S1 0 [] none 0 wz hd soundB.ok (fun f hf => ⟨(soundB.file f hf).1, by have := (soundB.file f hf).2.1; omega⟩) (Kd.C_nil _ _) (by have := soundB.sum; omega) soundB.pname (by have := soundB.sum; omega)))
    have HO4 := hid (fun (wz : World) (S1 : Nat → Prop) (hd : DiskAt wz d σc S1) => (show Calls Try.prog 18 #[.pointer (some ⟨d, 0, none⟩), .string ⟨#[108, 111, 103]⟩] wz fun e w' => ∃ v : Value, e = .returned (.tuple #[v, .int .i64 0]) ∧ Opened wz w' d (openS σc logN).1 S1 v [tagE] by
      have := open_calls d σc S1 32000097 logN wz hd soundC (by decide) (by decide)
      rw [open2] at this
      exact this))
    have HEQ := hid (fun (_ : Unit) (A : Option Addr) (n c : Nat) (wt : World) {base : Nat} {ok : Nat → Prop} (hr : Kd.R k23 23 wt base ok (.slice A n c) [tagE]) => (show Calls Try.prog 15 #[.slice A n c, .slice (some ⟨wt.heap.size, 0, none⟩) 1 1] (wt.alloc (.cells #[.int .i64 3, .int .i64 5, .int .i64 0, .int .i64 0, .int .i64 0, .string ⟨#[97]⟩] 23)) fun e w' => e = .returned (.bool true) ∧ Below wt.heap.size wt w' by
      obtain ⟨h1, h2, h3⟩ := Kd.R_reads' hr
      subst h1
      obtain ⟨ke, hke⟩ := (equal_same [tagE] (by decide)).get
      refine (laminaref24_Equal.calls ke A c [tagE] (some ⟨wt.heap.size, 0, none⟩) 1 [tagE] true _ (Kd.C_alloc h3 _) h2 (C_tag wt) (Nat.le_refl _) hke).mono fun e w' ⟨h4, h5⟩ => ⟨h4, ((Below.refl wt.heap.size wt).alloc (Nat.le_refl _) _).trans (h5.below.mono (by simp))⟩))
    clear hx0 hx1 hx2 hx3 hx4 hx5 hcv HCV HSC HE1 HE2 HO5 HO6 HO7 HO8 HR2 HR9 HX4 hxb hlen hle8 hle8i hle8j
    go_wp2_with (first
      | (go_at_call_of 18 (Value.pointer none); refine (open_nil _ _).mono ?_; rintro e w15 ⟨rfl, hb15⟩; have HB15 := hid hb15; have HBF15 := hid (HBF14.out.trans (hb15.mono HBF14.out.size)); clear hb15)
      | (go_at_call 18; refine HO1.out.mono ?_; rintro e w11 ⟨v11, rfl, h11⟩; obtain ⟨b11, k11, S11, s11, d11, r11⟩ := h11; obtain ⟨A11, n11, c11, rfl⟩ := R_slice3 r11; obtain rfl : n11 = 0 := (Kd.R_reads' r11).1; have HD11 := hid d11; have HS11 := hid (fun k hk => sub_le HSS.out HBc.out (s11 k hk)); have HBF11 := hid (step_below HBc.out b11 k11 HSS.out); clear b11 k11 s11 d11 r11 HO1)
      | (go_at_call 22; refine (HTG.out _).mono ?_; rintro e wt ⟨rfl, hbt⟩; have HBT := hid hbt; clear hbt)
      | (go_at_call 20; refine (HO2.out _ S11 (HD11.out.below HBT.out)).mono ?_; rintro e w12 ⟨rfl, b12, k12, S12, s12, d12⟩; have HD12 := hid d12; have HBFt := HBF11.out.trans (HBT.out.mono HBF11.out.size); have HS12 := hid (fun k hk => sub_le HS11.out HBFt (s12 k hk)); have HBF12 := hid (step_below HBFt b12 k12 HS11.out); clear b12 k12 s12 d12 HBFt HBT HO2)
      | (go_at_call 21; refine (HO3.out _ S12 HD12.out).mono ?_; rintro e w13 ⟨rfl, b13, k13, S13, s13, d13⟩; have HD13 := hid d13; have HS13 := hid (fun k hk => sub_le HS12.out HBF12.out (s13 k hk)); have HBF13 := hid (step_below HBF12.out b13 k13 HS12.out); clear b13 k13 s13 d13)
      | (go_at_call_of 18 (Value.pointer (some ⟨d, 0, none⟩)); refine (HO4.out _ S13 HD13.out).mono ?_; rintro e w14 ⟨v14, rfl, h14⟩; obtain ⟨b14, k14, S14, s14, d14, r14⟩ := h14; obtain ⟨A14, n14, c14, rfl⟩ := R_slice3 r14; have HR14 := hid r14; have HBF14 := hid (step_below HBF13.out b14 k14 HS13.out); clear b14 k14 s14 d14 r14)
      | (go_at_call 15; refine (HEQ.out () A14 n14 c14 wt (Kd.R_below HR14.out (HB15.out.trans (HBT.out.mono HB15.out.size)))).mono ?_; rintro e w16 ⟨rfl, hb16⟩; have HBF16 := hid ((HBF15.out.trans (HBT.out.mono HBF15.out.size)).trans (hb16.mono (Nat.le_trans HBF15.out.size HBT.out.size))); clear hb16 HBT)
      | (go_at_call_of 20 (Value.pointer none); refine (append_nil _ tagE _).mono ?_; rintro e w17 ⟨rfl, hb17⟩; have HBF17 := hid ((HBF16.out.trans (HBT.out.mono HBF16.out.size)).trans (hb17.mono (Nat.le_trans HBF16.out.size HBT.out.size))); clear hb17 HBT)
      | (go_at_call 23; refine (rewrite_nil _ _).mono ?_; rintro e w18 ⟨rfl, hb18⟩; have HBF18 := hid (HBF17.out.trans (hb18.mono HBF17.out.size)); clear hb18))
    go_ret
    exact ⟨rfl, HW9.out.trans (HBF18.out.mono HW9.out.size)⟩
end Go.Proofs.Ytfkgpmidcbjlbaa.H
namespace Go.Proofs.Ytfkgpmidcbjlbaa.P
open Go.RowKit Go.Proofs.Ytfkgpmidcbjlbaa.H Go.Proofs.YtfkgpmidcbjlbaaW.PrintWords
def laminalaw24_lives.f : Option Bool := some true
theorem laminalaw24_lives.calls (r : Bool) (w : World) (h : laminalaw24_lives.f = some r) :
    Calls Try.prog 8 #[] w fun e w' => e = .returned (.bool r) ∧ Below w.heap.size w w' := by
  obtain rfl := Option.some.inj h
  exact lives_calls w
end Go.Proofs.Ytfkgpmidcbjlbaa.P
end
