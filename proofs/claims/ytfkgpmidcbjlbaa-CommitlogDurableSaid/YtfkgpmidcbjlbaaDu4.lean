/- Part 4 of a proof; each section was a text of its own. -/
import Derived.Test.YtfkgpmidcbjlbaaDu2
import Derived.Test.YtfkgpmidcbjlbaaDu3
import Derived.Deep.RegionLaw
import Derived.Carry
import Derived.Lib.LazyBuf
section
set_option linter.unusedVariables false
set_option linter.unusedSimpArgs false
/- simdisk: a change of the directory, recorded. -/
namespace Go.Proofs.Ytfkgpmidcbjlbaa.H
open Go.RowKit Go.Proofs.Ytfkgpmidcbjlbaa.U Go.Proofs.YtfkgpmidcbjlbaaW.PrintWords Go.Proofs.Ytfkgpmidcbjlbaa.P

theorem infoOp : (Try.prog.info? 89).map (fun i => (i.zero, i.size, i.bytes)) = some (some (.agg #[.int .i64 0, .string ⟨#[]⟩, .string ⟨#[]⟩, .pointer none]), 4, 48) := by kernel_rfl
theorem opRow_one (fb : Nat → Nat) (o : Opn) : ∀ u ∈ opRow fb o, u.oneCell' = true := by
  cases o <;> simp [opRow, Value.oneCell']
theorem opRow_four (fb : Nat → Nat) (o : Opn) : ∃ a b c d, opRow fb o = [a, b, c, d] := by cases o <;> exact ⟨_, _, _, _, rfl⟩
theorem cell_blk {w : World} {b : Nat} {cs : Array Value} {t : TypeId} {fr : Nat × Nat} (h : w.heap[b]? = some (.cells cs t fr)) (j : Nat) : w.cell? ⟨b, j, none⟩ = cs[j]? := cell_of_row _ _ _ _ _ _ h
theorem R_slice3 {α : Type} {k : Kd α} {e base : Nat} {ok : Nat → Prop} {w : World} {v : Value} {xs : List α} (h : k.R e w base ok v xs) : ∃ A n c, v = .slice A n c := by
  obtain ⟨A, c, e⟩ := Kd.R_slice h
  exact ⟨A, _, c, e⟩
def changeS (σ : St) (o : Opn) : St := doneS { σ with cur := applyS σ.cur o, pend := σ.pend ++ [o] }
set_option maxRecDepth 100000 in
set_option maxHeartbeats 4000000 in
theorem change_calls (d : Nat) (σ : St) (S : Nat → Prop) (fb : Nat → Nat) (fv : Nat → Value) (mc md : Nat) (pv : Value) (o : Opn) (w : World) (h : Disk w d σ S fb fv mc md pv) (hn : ∀ n ∈ o.names, n.size ≤ maxLen) (hc : σ.cur.length < maxLen) (hp : σ.pend.length ≤ 1099511627776) :
    Calls Try.prog 70 #[.pointer (some ⟨d, 0, none⟩), .agg (opRow fb o).toArray] w fun e w' => e = .returned (.int .i64 0) ∧ Moved w w' d (changeS σ o) S := by
  obtain ⟨x0, x1, x2, x3, hrow⟩ := opRow_four fb o
  have hone := opRow_one fb o
  rw [hrow] at hone ⊢
  have HO := hid hrow
  have HONE := hid hone
  have HN := hid hn
  have HCL := hid hc
  have HPL := hid hp
  have H := hid h
  have HX0 := hid (show x0.oneCell' = true from hone x0 (by simp))
  have HX1 := hid (show x1.oneCell' = true from hone x1 (by simp))
  have HX2 := hid (show x2.oneCell' = true from hone x2 (by simp))
  have HX3 := hid (show x3.oneCell' = true from hone x3 (by simp))
  have hdlt := h.lt d h.sd
  have HD : Hid (∀ p, Disk (w.alloc p) d σ S fb fv mc md pv) := hid (fun p => h.move (by simp) (fun k hk => Below.heap_alloc _ _ _ (h.lt k hk)))
  have c0 : (w.alloc (.cells #[x0, x1, x2, x3] 89)).cell? ⟨d, 0, none⟩ = some (.map (some mc)) := cell_blk (HD.out _).blk 0
  have b0 := cell_blk (heap_alloc_new w (.cells #[x0, x1, x2, x3] 89)) 0
  have b1 := cell_blk (heap_alloc_new w (.cells #[x0, x1, x2, x3] 89)) 1
  have b2 := cell_blk (heap_alloc_new w (.cells #[x0, x1, x2, x3] 89)) 2
  have b3 := cell_blk (heap_alloc_new w (.cells #[x0, x1, x2, x3] 89)) 3
  have HW1 : Hid (∀ w1, HasDir w1 mc fb (applyS σ.cur o) → rowSame (w.alloc (.cells #[x0, x1, x2, x3] 89)) w1 mc →
      Disk w1 d { σ with cur := applyS σ.cur o } S fb fv mc md pv ∧ w1.heap[w.heap.size]? = some (.cells #[x0, x1, x2, x3] 89 (0, 0)) ∧ Below 0 w w1 ∧ Kept w w1 S ∧ w.heap.size < w1.heap.size) := hid (fun w1 hd hr => by
    have hsz : w.heap.size < w1.heap.size := by have := hr.1.size; simp at this; omega
    refine ⟨(HD.out _).turnCur hr.1.size (fun k hk hne => hr.2 k (by have := H.out.lt k hk; simp; omega) hne) _ hd, ?_, ((Below.refl 0 w).alloc (Nat.zero_le _) _).trans hr.1, ?_, hsz⟩
    · rw [hr.2 _ (by simp) (Nat.ne_of_gt (H.out.lt mc H.out.sc))]
      exact heap_alloc_new _ _
    · refine ⟨Nat.le_of_lt hsz, fun k hk hS => ?_⟩
      rw [hr.2 k (by simp; omega) (fun e => hS (e ▸ H.out.sc)), Below.heap_alloc _ _ _ hk])
  have HCA : Hid (∀ w1, HasDir w1 mc fb σ.cur → Calls Try.prog 44 #[.map (some mc), .agg #[x0, x1, x2, x3]] w1 fun e w' => e = .returned (.tuple #[]) ∧ HasDir w' mc fb (applyS σ.cur o) ∧ rowSame w1 w' mc) := hid (fun w1 hd => by
    have := apply_calls mc fb σ.cur o w1 hd hn hc
    rw [hrow] at this
    exact this)
  have HDR : Hid (HasDir (w.alloc (.cells #[x0, x1, x2, x3] 89)).drew mc fb σ.cur) := hid ((HD.out _).cur.move rfl)
  clear h hn hc hp hone hrow
  go_enter Try.func70, Try.ntmps70
  go_wp2
  go_region_with (first | (go_at_call 44; refine (HCA.out _ HDR.out).mono ?_; rintro e w1 ⟨rfl, hd1, hs1⟩; have HH := hid (HW1.out w1 hd1 ⟨(Below.refl 0 _).drew.trans hs1.1, hs1.2⟩); clear hd1 hs1))
  all_goals
    obtain ⟨hdk, hbk, hb0, hkp, hsz⟩ := HH.out
    have HDK := hid hdk
    have HBK := hid hbk
    have HB0 := hid hb0
    have HKP := hid hkp
    have HSZ := hid hsz
    have p2 : w1.cell? ⟨d, 2, none⟩ = some pv := cell_blk hdk.blk 2
    have p2a : (w1.alloc (.cells #[x0, x1, x2, x3] 89)).cell? ⟨d, 2, none⟩ = some pv := cell_blk ((Below.heap_alloc _ _ _ (hdk.lt d hdk.sd)).trans hdk.blk) 2
    have b0 : w1.cell? ⟨w.heap.size, 0, none⟩ = some x0 := cell_blk hbk 0
    have b1 : w1.cell? ⟨w.heap.size, 1, none⟩ = some x1 := cell_blk hbk 1
    have b2 : w1.cell? ⟨w.heap.size, 2, none⟩ = some x2 := cell_blk hbk 2
    have b3 : w1.cell? ⟨w.heap.size, 3, none⟩ = some x3 := cell_blk hbk 3
    have HLEN := hid (show (σ.pend.map (opRow fb)).length ≤ 1099511627776 by rw [List.length_map]; exact HPL.out)
    have HPR : Hid ((Kd.raw 4).R 89 w1.drew 0 (fun _ => True) pv (σ.pend.map (opRow fb))) := hid (Kd.raw_any (row_move hdk.pend (fun _ _ => rfl)))
    have HNE : Hid (∀ w2, w1.drew.grownBy w2 pv.ownBlock → w2.heap[d]? = some (.cells #[.map (some mc), .map (some md), pv, .bool σ.lim, .int .i64 σ.left] 79 (0, 0))) := hid (fun w2 hg => by
      rw [hg.block d (hdk.lt d hdk.sd) (fun e => by
        obtain ⟨c, hc⟩ := hdk.pend_ty e.symm
        exact ne_type hdk.blk hc (by decide) rfl)]
      exact hdk.blk)
    have HFIN : Hid (∀ v2 w2, (Kd.raw 4).R 89 w2 0 (fun _ => True) v2 (σ.pend.map (opRow fb) ++ [[x0, x1, x2, x3]]) → Below 0 w1 w2 → w1.drew.grownBy w2 pv.ownBlock → (v2.ownBlock = pv.ownBlock ∨ ∃ b, v2.ownBlock = some b ∧ w1.drew.heap.size ≤ b) →
        ∃ S1 : Nat → Prop, (∀ w4 τ, Moved (w2.setCell ⟨d, 2, none⟩ v2) w4 d τ S1 → Moved w w4 d τ S) ∧ DiskAt (w2.setCell ⟨d, 2, none⟩ v2) d { σ with cur := applyS σ.cur o, pend := σ.pend ++ [o] } S1) := hid (fun v2 w2 hr hb hg hat => by
      have hsz2 : w1.heap.size ≤ w2.heap.size := hg.size
      have hdisk := hdk.turnPend (w' := w2.setCell ⟨d, 2, none⟩ v2) (by rw [setCell_size]; exact hsz2) v2 (by
          rcases hat with hat | ⟨b, hat, hle⟩
          · exact .inl hat
          · obtain ⟨cs, hcs⟩ := row_typed hr hat
            exact .inr (.inr ⟨b, hat, hle, by rw [setCell_size]; exact (Array.getElem?_eq_some_iff.1 hcs).1⟩))
        (fun k hk hne hpv => by
          rw [heap_setCell_other _ _ _ _ hne]
          exact hg.block k (hdk.lt k hk) hpv)
        (heap_setCell_same w2 d 2 _ _ v2 (HNE.out w2 hg)) (σ.pend ++ [o]) (by
          rw [List.map_append, List.map_cons, List.map_nil, HO.out]
          have ht := Kd.raw_tight hr
          refine row_move ht (fun j hj => heap_setCell_other _ _ _ _ ?_)
          obtain ⟨cs, hcs⟩ := row_typed hr hj
          exact (ne_type (HNE.out w2 hg) hcs (by decide)).symm)
      refine ⟨_, fun w4 τ hm => ?_, _, _, _, _, _, hdisk⟩
      obtain ⟨mb, mk, S2, m2, md2⟩ := hm
      refine ⟨(hb0.trans hb).trans ((below_setCell0 _ _ _).trans mb), ?_, S2, fun k hk => ?_, md2⟩
      · refine ((hkp.then_ (S2 := S) (W2 := w2.setCell ⟨d, 2, none⟩ v2) ⟨by rw [setCell_size]; exact hsz2, fun k hk hS => ?_⟩ (fun _ h => .inl h)).then_ mk (fun k hk => ?_))
        · rw [heap_setCell_other _ _ _ _ (show k ≠ d from fun e => hS (by rw [e]; exact hdk.sd))]
          exact hg.block k hk (fun e => hS (hdk.sp k e.symm))
        · rcases hk with hk | hk
          · exact .inl hk
          · exact .inr (by omega)
      · rcases m2 k hk with (h3 | h3) | h3
        · exact .inl h3
        · exact .inr (by omega)
        · exact .inr (by rw [setCell_size] at h3; omega))
    clear hdk hbk hb0 hkp hsz HH
    go_wp2
    go_region_law (refine Kd.R_append_step (Kd.raw 4) (w0 := w1) 0 (by simp [Region.wanted]) (.tmp 15) (.tmp 17) 77 89 (.agg #[.int .i64 0, .string ⟨#[]⟩, .string ⟨#[]⟩, .pointer none]) 48 rfl Try.underlying77 infoOp rfl (by decide) (by decide) pv (σ.pend.map (opRow fb)) [x0, x1, x2, x3] [x0, x1, x2, x3] (fun _ => True) (fun _ => False) rfl (by first | (go_simp; done) | (go_simp; rfl)) ⟨rfl, rfl, HONE.out⟩ (fun _ hk => hk.elim) (fun _ _ => trivial) HPR.out ((Below.refl 0 w1).drew) (Nat.zero_le _) (by have := HLEN.out; omega) ?_; intro v2 w2 hr2 hb2 hg2 hat2; obtain ⟨A2, N2, n2, rfl⟩ := R_slice3 hr2; have hp2 : w2.cell? ⟨d, 2, none⟩ = some pv := cell_blk (HNE.out w2 hg2) 2; have hf2 := frozen_of_row w2 d 2 _ _ (HNE.out w2 hg2); have HR2 := hid hr2; have HB2 := hid hb2; have HG2 := hid hg2; have HAT2 := hid hat2; clear hr2 hb2 hg2 hat2)
    all_goals
      obtain ⟨S1, hS1, hD1⟩ := HFIN.out _ _ HR2.out HB2.out HG2.out HAT2.out
      have HS1 := hid hS1
      have HD1 := hid hD1
      clear hS1 hD1
      go_wp2_with (go_at_call 68; refine (done_calls d _ S1 _ HD1.out).mono ?_; rintro e w4 ⟨rfl, hm⟩; have HM := hid hm; clear hm)
      go_ret
      exact ⟨rfl, HS1.out _ _ HM.out⟩
end Go.Proofs.Ytfkgpmidcbjlbaa.H
end
section
set_option linter.unusedVariables false
set_option linter.unusedSimpArgs false
/- simdisk: Create, Rename, Remove. -/
namespace Go.Proofs.Ytfkgpmidcbjlbaa.H
open Go.RowKit Go.Proofs.Ytfkgpmidcbjlbaa.U Go.Proofs.YtfkgpmidcbjlbaaW.PrintWords Go.Proofs.Ytfkgpmidcbjlbaa.P

theorem C_str1 {w : World} {b : Nat} (n : ByteArray) (h : w.cell? ⟨b, 0, none⟩ = some (.string n)) : Kd.C Kd.string w (some ⟨b, 0, none⟩) [n].length [n] := by
  refine ⟨rfl, by simp, fun _ => ⟨_, rfl, fun j p hj => ?_⟩⟩
  cases j with
  | zero =>
    simp at hj; subst hj
    refine ⟨[.string n], rfl, rfl, fun i u hu => ?_⟩
    cases i with
    | zero => simp at hu; subst hu; exact h
    | succ i => simp at hu
  | succ j => simp at hj
theorem C_str2 {w : World} {b : Nat} (n m : ByteArray) (h : w.cell? ⟨b, 0, none⟩ = some (.string n)) (h1 : w.cell? ⟨b, 1, none⟩ = some (.string m)) : Kd.C Kd.string w (some ⟨b, 0, none⟩) [n, m].length [n, m] := by
  refine ⟨rfl, by simp, fun _ => ⟨_, rfl, fun j p hj => ?_⟩⟩
  cases j with
  | zero =>
    simp at hj; subst hj
    refine ⟨[.string n], rfl, rfl, fun i u hu => ?_⟩
    cases i with
    | zero => simp at hu; subst hu; exact h
    | succ i => simp at hu
  | succ j =>
    cases j with
    | zero =>
      simp at hj; subst hj
      refine ⟨[.string m], rfl, rfl, fun i u hu => ?_⟩
      cases i with
      | zero => simp at hu; subst hu; exact h1
      | succ i => simp at hu
    | succ j => simp at hj
/-- begin at one name, behind the block that holds it -/
theorem begin1 {d : Nat} {σ : St} {S : Nat → Prop} {w : World} (h : DiskAt w d σ S) (n : ByteArray) :
    Calls Try.prog 67 #[.pointer (some ⟨d, 0, none⟩), .slice (some ⟨w.heap.size, 0, none⟩) 1 1] (w.alloc (.cells #[.string n] 9)) fun e w' => e = .returned (.int .i64 (beginS σ [n])) ∧ Below w.heap.size w w' :=
  (begin_calls d σ S (some ⟨w.heap.size, 0, none⟩) 1 [n] _ (h.below ((Below.refl _ _).alloc (Nat.le_refl _) _)) (C_str1 n (by rw [cell_blk (heap_alloc_new w _)]; rfl)) (Nat.le_refl _)).mono (fun e w' ⟨h1, h2⟩ =>
    ⟨h1, ((Below.refl _ _).alloc (Nat.le_refl _) _).trans (h2.below.mono (by simp))⟩)
theorem begin2 {d : Nat} {σ : St} {S : Nat → Prop} {w : World} (h : DiskAt w d σ S) (n m : ByteArray) :
    Calls Try.prog 67 #[.pointer (some ⟨d, 0, none⟩), .slice (some ⟨w.heap.size, 0, none⟩) 2 2] (w.alloc (.cells #[.string n, .string m] 9)) fun e w' => e = .returned (.int .i64 (beginS σ [n, m])) ∧ Below w.heap.size w w' :=
  (begin_calls d σ S (some ⟨w.heap.size, 0, none⟩) 2 [n, m] _ (h.below ((Below.refl _ _).alloc (Nat.le_refl _) _)) (C_str2 n m (by rw [cell_blk (heap_alloc_new w _)]; rfl) (by rw [cell_blk (heap_alloc_new w _)]; rfl)) (Nat.le_refl _)).mono (fun e w' ⟨h1, h2⟩ =>
    ⟨h1, ((Below.refl _ _).alloc (Nat.le_refl _) _).trans (h2.below.mono (by simp))⟩)
theorem begin0_names {σ : St} {ns : List ByteArray} (h : beginS σ ns = 0) : ∀ n ∈ ns, 1 ≤ n.size ∧ n.size ≤ 64 := by
  unfold beginS at h
  split at h
  · cases h
  · split at h
    · rename_i h2
      exact fun n hn => nameB_size n (List.all_eq_true.1 h2 n hn)
    · cases h
def createS (σ : St) (n : ByteArray) : St × Int :=
  if beginS σ [n] = 0 then (match dget σ.cur n with
    | some _ => (σ, 9)
    | none => (changeS { σ with files := σ.files ++ [⟨[], 0⟩] } (.create n σ.files.length), 0))
  else (σ, beginS σ [n])
theorem Moved.from_ {w w1 w2 : World} {d : Nat} {τ : St} {S S2 : Nat → Prop} (hb : Below w.heap.size w w1) (hs : ∀ k, S2 k → S k ∨ w.heap.size ≤ k) (h : Moved w1 w2 d τ S2) : Moved w w2 d τ S := by
  obtain ⟨mb, mk, S3, m3, md3⟩ := h
  refine ⟨(hb.mono (Nat.zero_le _)).trans mb, (Kept.of_below hb S).then_ mk hs, S3, fun k hk => ?_, md3⟩
  rcases m3 k hk with h3 | h3
  · exact hs k h3
  · exact .inr (Nat.le_trans hb.size h3)
theorem create_change {d : Nat} {σ : St} {S : Nat → Prop} {fb : Nat → Nat} {fv : Nat → Value} {mc md : Nat} {pv : Value} {w : World} (h : Disk w d σ S fb fv mc md pv) (ok : σ.Ok) (hc : σ.cur.length ≤ 1099511627776) (hp : σ.pend.length ≤ 1099511627776) (n : ByteArray) (hn : n.size ≤ maxLen) :
    Calls Try.prog 70 #[.pointer (some ⟨d, 0, none⟩), .agg #[.int .i64 0, .string ⟨#[]⟩, .string n, .pointer (some ⟨w.heap.size, 0, none⟩)]] (w.alloc (.cells #[.slice none 0 0, .int .i64 0] 94))
      fun e w' => e = .returned (.int .i64 0) ∧ Moved w w' d (changeS { σ with files := σ.files ++ [⟨[], 0⟩] } (.create n σ.files.length)) S := by
  have hN := h.newFile ok (w' := w.alloc (.cells #[.slice none 0 0, .int .i64 0] 94)) (by simp) (fun k hk => Below.heap_alloc _ _ _ (h.lt k hk)) w.heap.size (Nat.le_refl _) (by simp) (heap_alloc_new _ _)
  have := change_calls d _ _ _ _ mc md pv (.create n σ.files.length) _ hN (fun m hm => by simp [Opn.names] at hm; subst hm; exact hn) (Nat.lt_of_le_of_lt hc (by decide +kernel)) hp
  simp only [opRow, if_true] at this
  exact this.mono (fun e w' ⟨h1, h2⟩ => ⟨h1, Moved.from_ ((Below.refl _ _).alloc (Nat.le_refl _) _) (fun k hk => by
    rcases hk with hk | hk
    · exact .inl hk
    · exact .inr hk.1) h2⟩)
set_option maxRecDepth 100000 in
set_option maxHeartbeats 4000000 in
theorem create_calls (d : Nat) (σ : St) (S : Nat → Prop) (n : ByteArray) (w : World) (h : DiskAt w d σ S) (ok : σ.Ok) (hc : σ.cur.length ≤ 1099511627776) (hp : σ.pend.length ≤ 1099511627776) :
    Calls Try.prog 49 #[.pointer (some ⟨d, 0, none⟩), .string n] w fun e w' => e = .returned (.int .i64 (createS σ n).2) ∧ Moved w w' d (createS σ n).1 S := by
  have H := hid h
  have HB := hid (begin1 h n)
  have HOK := hid ok
  have HC := hid hc
  have HP := hid hp
  clear h ok hc hp
  unfold createS
  by_cases hb : beginS σ [n] = 0
  · rw [if_pos hb]
    have hsz := (begin0_names hb n (by simp)).2
    rw [hb] at HB
    have HS := hid (show n.size ≤ maxLen from Nat.le_trans hsz (by decide +kernel))
    clear hb hsz
    go_enter Try.func49, Try.ntmps49
    cases hg : dget σ.cur n with
    | some i =>
      have HG := hid hg
      clear hg
      go_wp2_with (first
        | (go_at_call 67; refine HB.out.mono ?_; rintro e w1 ⟨rfl, hb1⟩; have HB1 := hid hb1; obtain ⟨fb, fv, mc, md, pv, hd1⟩ := H.out.below hb1; have HD1 := hid hd1; have c0 : w1.cell? ⟨d, 0, none⟩ = some (.map (some mc)) := cell_blk hd1.blk 0; clear hb1 hd1)
        | (at_lookup; refine wpList_look_dir _ rfl (.tmp 19) (.tmp 20) rfl mc fb σ.cur n rfl rfl HD1.out.cur HS.out (some i) HG.out ?_; simp only [lookV]))
      go_ret
      exact ⟨rfl, Moved.stay H.out HB1.out⟩
    | none =>
      have HG := hid hg
      clear hg
      go_wp2_with (first
        | (go_at_call 67; refine HB.out.mono ?_; rintro e w1 ⟨rfl, hb1⟩; have HB1 := hid hb1; obtain ⟨fb, fv, mc, md, pv, hd1⟩ := H.out.below hb1; have HD1 := hid hd1; have c0 : w1.cell? ⟨d, 0, none⟩ = some (.map (some mc)) := cell_blk hd1.blk 0; clear hb1 hd1)
        | (at_lookup; refine wpList_look_dir _ rfl (.tmp 19) (.tmp 20) rfl mc fb σ.cur n rfl rfl HD1.out.cur HS.out none HG.out ?_; simp only [lookV])
        | (go_at_call 70; refine (create_change HD1.out HOK.out HC.out HP.out n HS.out).mono ?_; rintro e w2 ⟨rfl, hm⟩; have HM2 := hid (Moved.from_ HB1.out (fun k hk => .inl hk) hm); clear hm))
      go_ret
      exact ⟨rfl, HM2.out⟩
  · rw [if_neg hb]
    have hbb : (beginS σ [n] != 0) = true := by simpa using hb
    generalize beginS σ [n] = r at HB hbb
    clear hb
    go_enter Try.func49, Try.ntmps49
    go_wp2_with (go_at_call 67; refine HB.out.mono ?_; rintro e w1 ⟨rfl, hb1⟩; have HB1 := hid hb1; clear hb1)
    go_ret
    exact ⟨rfl, Moved.stay H.out HB1.out⟩
def renameS (σ : St) (a b : ByteArray) : St × Int :=
  if beginS σ [a, b] = 0 then (match dget σ.cur a with
    | none => (σ, 15)
    | some _ => if a = b then (doneS σ, 0) else (changeS σ (.rename a b), 0))
  else (σ, beginS σ [a, b])
def removeS (σ : St) (a : ByteArray) : St × Int :=
  if beginS σ [a] = 0 then (match dget σ.cur a with
    | none => (σ, 15)
    | some _ => (changeS σ (.remove a), 0))
  else (σ, beginS σ [a])
theorem remove_change {d : Nat} {σ : St} {S : Nat → Prop} {w : World} (h : DiskAt w d σ S) (hc : σ.cur.length ≤ 1099511627776) (hp : σ.pend.length ≤ 1099511627776) (n : ByteArray) (hn : n.size ≤ maxLen) :
    Calls Try.prog 70 #[.pointer (some ⟨d, 0, none⟩), .agg #[.int .i64 2, .string n, .string ⟨#[]⟩, .pointer none]] w fun e w' => e = .returned (.int .i64 0) ∧ Moved w w' d (changeS σ (.remove n)) S := by
  obtain ⟨fb, fv, mc, md, pv, h⟩ := h
  exact change_calls d _ _ fb fv mc md pv (.remove n) _ h (fun m hm => by simp [Opn.names] at hm; subst hm; exact hn) (Nat.lt_of_le_of_lt hc (by decide +kernel)) hp
theorem rename_change {d : Nat} {σ : St} {S : Nat → Prop} {w : World} (h : DiskAt w d σ S) (hc : σ.cur.length ≤ 1099511627776) (hp : σ.pend.length ≤ 1099511627776) (a b : ByteArray) (ha : a.size ≤ maxLen) (hb : b.size ≤ maxLen) :
    Calls Try.prog 70 #[.pointer (some ⟨d, 0, none⟩), .agg #[.int .i64 1, .string a, .string b, .pointer none]] w fun e w' => e = .returned (.int .i64 0) ∧ Moved w w' d (changeS σ (.rename a b)) S := by
  obtain ⟨fb, fv, mc, md, pv, h⟩ := h
  exact change_calls d _ _ fb fv mc md pv (.rename a b) _ h (fun m hm => by simp [Opn.names] at hm; rcases hm with rfl | rfl <;> assumption) (Nat.lt_of_le_of_lt hc (by decide +kernel)) hp
set_option maxRecDepth 100000 in
set_option maxHeartbeats 4000000 in
theorem remove_calls (d : Nat) (σ : St) (S : Nat → Prop) (n : ByteArray) (w : World) (h : DiskAt w d σ S) (hc : σ.cur.length ≤ 1099511627776) (hp : σ.pend.length ≤ 1099511627776) :
    Calls Try.prog 47 #[.pointer (some ⟨d, 0, none⟩), .string n] w fun e w' => e = .returned (.int .i64 (removeS σ n).2) ∧ Moved w w' d (removeS σ n).1 S := by
  have H := hid h
  have HB := hid (begin1 h n)
  have HC := hid hc
  have HP := hid hp
  clear h hc hp
  unfold removeS
  by_cases hb : beginS σ [n] = 0
  · rw [if_pos hb]
    have hsz := (begin0_names hb n (by simp)).2
    rw [hb] at HB
    have HS := hid (show n.size ≤ maxLen from Nat.le_trans hsz (by decide +kernel))
    clear hb hsz
    go_enter Try.func47, Try.ntmps47
    cases hg : dget σ.cur n with
    | none =>
      have HG := hid hg
      clear hg
      go_wp2_with (first
        | (go_at_call 67; refine HB.out.mono ?_; rintro e w1 ⟨rfl, hb1⟩; have HB1 := hid hb1; obtain ⟨fb, fv, mc, md, pv, hd1⟩ := H.out.below hb1; have HD1 := hid hd1; have c0 : w1.cell? ⟨d, 0, none⟩ = some (.map (some mc)) := cell_blk hd1.blk 0; clear hb1 hd1)
        | (at_lookup; refine wpList_look_dir _ rfl (.tmp 19) (.tmp 20) rfl mc fb σ.cur n rfl rfl HD1.out.cur HS.out none HG.out ?_; simp only [lookV]))
      go_ret
      exact ⟨rfl, Moved.stay H.out HB1.out⟩
    | some i =>
      have HG := hid hg
      clear hg
      go_wp2_with (first
        | (go_at_call 67; refine HB.out.mono ?_; rintro e w1 ⟨rfl, hb1⟩; have HB1 := hid hb1; obtain ⟨fb, fv, mc, md, pv, hd1⟩ := H.out.below hb1; have HD1 := hid hd1; have c0 : w1.cell? ⟨d, 0, none⟩ = some (.map (some mc)) := cell_blk hd1.blk 0; clear hb1 hd1)
        | (at_lookup; refine wpList_look_dir _ rfl (.tmp 19) (.tmp 20) rfl mc fb σ.cur n rfl rfl HD1.out.cur HS.out (some i) HG.out ?_; simp only [lookV])
        | (go_at_call 70; refine (remove_change (H.out.below HB1.out) HC.out HP.out n HS.out).mono ?_; rintro e w2 ⟨rfl, hm⟩; have HM2 := hid (Moved.from_ HB1.out (fun k hk => .inl hk) hm); clear hm))
      go_ret
      exact ⟨rfl, HM2.out⟩
  · rw [if_neg hb]
    have hbb : (beginS σ [n] != 0) = true := by simpa using hb
    generalize beginS σ [n] = r at HB hbb
    clear hb
    go_enter Try.func47, Try.ntmps47
    go_wp2_with (go_at_call 67; refine HB.out.mono ?_; rintro e w1 ⟨rfl, hb1⟩; have HB1 := hid hb1; clear hb1)
    go_ret
    exact ⟨rfl, Moved.stay H.out HB1.out⟩
theorem str_eq (a b : ByteArray) : (a.toList == b.toList) = decide (a = b) := by
  by_cases h : a = b
  · subst h; simp
  · rw [decide_eq_false h, beq_eq_false_iff_ne]
    intro h2
    rw [ByteArray.toList_eq, ByteArray.toList_eq] at h2
    exact h (ByteArray.ext (Array.toList_inj.1 h2))
set_option maxRecDepth 100000 in
set_option maxHeartbeats 4000000 in
theorem rename_calls (d : Nat) (σ : St) (S : Nat → Prop) (a b : ByteArray) (w : World) (h : DiskAt w d σ S) (hc : σ.cur.length ≤ 1099511627776) (hp : σ.pend.length ≤ 1099511627776) :
    Calls Try.prog 53 #[.pointer (some ⟨d, 0, none⟩), .string a, .string b] w fun e w' => e = .returned (.int .i64 (renameS σ a b).2) ∧ Moved w w' d (renameS σ a b).1 S := by
  have H := hid h
  have HB := hid (begin2 h a b)
  have HC := hid hc
  have HP := hid hp
  clear h hc hp
  unfold renameS
  by_cases hb : beginS σ [a, b] = 0
  · rw [if_pos hb]
    have hsz := (begin0_names hb a (by simp)).2
    have hsz2 := (begin0_names hb b (by simp)).2
    rw [hb] at HB
    have HS := hid (show a.size ≤ maxLen from Nat.le_trans hsz (by decide +kernel))
    have HS2 := hid (show b.size ≤ maxLen from Nat.le_trans hsz2 (by decide +kernel))
    clear hb hsz hsz2
    go_enter Try.func53, Try.ntmps53
    cases hg : dget σ.cur a with
    | none =>
      have HG := hid hg
      clear hg
      go_wp2_with (first
        | (go_at_call 67; refine HB.out.mono ?_; rintro e w1 ⟨rfl, hb1⟩; have HB1 := hid hb1; obtain ⟨fb, fv, mc, md, pv, hd1⟩ := H.out.below hb1; have HD1 := hid hd1; have c0 : w1.cell? ⟨d, 0, none⟩ = some (.map (some mc)) := cell_blk hd1.blk 0; clear hb1 hd1)
        | (at_lookup; refine wpList_look_dir _ rfl (.tmp 22) (.tmp 23) rfl mc fb σ.cur a rfl rfl HD1.out.cur HS.out none HG.out ?_; simp only [lookV]))
      go_ret
      exact ⟨rfl, Moved.stay H.out HB1.out⟩
    | some i =>
      have HG := hid hg
      clear hg
      by_cases hab : a = b
      · subst hab
        rw [if_pos rfl]
        have hq : (a.toList == a.toList) = true := by simp
        go_wp2_with (first
          | (go_at_call 67; refine HB.out.mono ?_; rintro e w1 ⟨rfl, hb1⟩; have HB1 := hid hb1; obtain ⟨fb, fv, mc, md, pv, hd1⟩ := H.out.below hb1; have HD1 := hid hd1; have c0 : w1.cell? ⟨d, 0, none⟩ = some (.map (some mc)) := cell_blk hd1.blk 0; clear hb1 hd1)
          | (at_lookup; refine wpList_look_dir _ rfl (.tmp 22) (.tmp 23) rfl mc fb σ.cur a rfl rfl HD1.out.cur HS.out (some i) HG.out ?_; simp only [lookV])
          | (go_at_call 68; refine (done_calls d σ S _ (H.out.below HB1.out)).mono ?_; rintro e w2 ⟨rfl, hm⟩; have HM2 := hid (Moved.from_ HB1.out (fun k hk => .inl hk) hm); clear hm))
        go_ret
        exact ⟨rfl, HM2.out⟩
      · rw [if_neg hab]
        have hq : (a.toList == b.toList) = false := by rw [str_eq, decide_eq_false hab]
        clear hab
        go_wp2_with (first
          | (go_at_call 67; refine HB.out.mono ?_; rintro e w1 ⟨rfl, hb1⟩; have HB1 := hid hb1; obtain ⟨fb, fv, mc, md, pv, hd1⟩ := H.out.below hb1; have HD1 := hid hd1; have c0 : w1.cell? ⟨d, 0, none⟩ = some (.map (some mc)) := cell_blk hd1.blk 0; clear hb1 hd1)
          | (at_lookup; refine wpList_look_dir _ rfl (.tmp 22) (.tmp 23) rfl mc fb σ.cur a rfl rfl HD1.out.cur HS.out (some i) HG.out ?_; simp only [lookV])
          | (go_at_call 70; refine (rename_change (H.out.below HB1.out) HC.out HP.out a b HS.out HS2.out).mono ?_; rintro e w2 ⟨rfl, hm⟩; have HM2 := hid (Moved.from_ HB1.out (fun k hk => .inl hk) hm); clear hm))
        go_ret
        exact ⟨rfl, HM2.out⟩
  · rw [if_neg hb]
    have hbb : (beginS σ [a, b] != 0) = true := by simpa using hb
    generalize beginS σ [a, b] = r at HB hbb
    clear hb
    go_enter Try.func53, Try.ntmps53
    go_wp2_with (go_at_call 67; refine HB.out.mono ?_; rintro e w1 ⟨rfl, hb1⟩; have HB1 := hid hb1; clear hb1)
    go_ret
    exact ⟨rfl, Moved.stay H.out HB1.out⟩
end Go.Proofs.Ytfkgpmidcbjlbaa.H
end
section
set_option linter.unusedVariables false
set_option linter.unusedSimpArgs false
/- simdisk: New, FailAfter, Sync, Append. -/
namespace Go.Proofs.Ytfkgpmidcbjlbaa.H
open Go.RowKit Go.Proofs.Ytfkgpmidcbjlbaa.U Go.Proofs.YtfkgpmidcbjlbaaW.PrintWords Go.Proofs.Ytfkgpmidcbjlbaa.P

def St.new : St := ⟨[], [], [], [], false, 0⟩
set_option maxRecDepth 100000 in
set_option maxHeartbeats 2000000 in
theorem new_calls (w : World) : Calls Try.prog 17 #[] w fun e w' => ∃ (d : Nat) (S : Nat → Prop), e = .returned (.pointer (some ⟨d, 0, none⟩)) ∧ DiskAt w' d St.new S ∧ Below w.heap.size w w' ∧ ∀ k, S k → w.heap.size ≤ k := by
  have hmm := @run_makeMap Try.prog
  go_enter Try.func17, Try.ntmps17
  go_wp2
  go_ret
  have m1 := World.ownsMap_made (H := Unit) w Try.prog 9 fileElem
  have m2 := World.ownsMap_made (H := Unit) (w.alloc (.map #[] 0)) Try.prog 9 fileElem
  have hs1 : (w.alloc (.map #[] 0)).heap.size = w.heap.size + 1 := by simp
  have hs2 : ((w.alloc (.map #[] 0)).alloc (.map #[] 0)).heap.size = w.heap.size + 2 := by simp
  rw [hs1] at m2
  refine ⟨w.heap.size + 2, fun k => w.heap.size ≤ k ∧ k < w.heap.size + 3, rfl, ⟨id, fun _ => .slice none 0 0, w.heap.size, w.heap.size + 1, .slice none 0 0, ?_⟩, (((Below.refl _ _).alloc (Nat.le_refl _) _).alloc (by simp) _).alloc (by simp; omega) _, fun k hk => hk.1⟩
  exact {
    blk := by rw [← hs2]; exact heap_alloc_new _ _
    cur := HasDir.of (n := 0) ((m1.alloc _).alloc _)
    dur := HasDir.of (n := 0) (m2.alloc _)
    ne := by omega
    pend := Kd.R_nil _ _ _ _ _
    file := fun i f hf => by simp [St.new] at hf
    row := fun i f hf => by simp [St.new] at hf
    inj := fun i j hi => by simp [St.new] at hi
    apart := fun i j k hi => by simp [St.new] at hi
    sd := ⟨by omega, by omega⟩
    sc := ⟨by omega, by omega⟩
    sr := ⟨by omega, by omega⟩
    sp := fun k hk => by simp [Value.ownBlock] at hk
    sf := fun i hi => by simp [St.new] at hi
    sv := fun i k hi => by simp [St.new] at hi
    lt := fun k hk => by have := hk.2; simp; omega }
def failS (σ : St) (n : Int) : St := { σ with lim := decide (n ≥ 0), left := n }
set_option maxRecDepth 100000 in
set_option maxHeartbeats 2000000 in
theorem fail_calls (d : Nat) (σ : St) (S : Nat → Prop) (n : Int) (w : World) (h : DiskAt w d σ S) :
    Calls Try.prog 19 #[.pointer (some ⟨d, 0, none⟩), .int .i64 n] w fun e w' => e = .returned (.tuple #[]) ∧ Moved w w' d (failS σ n) S := by
  obtain ⟨fb, fv, mc, md, pv, h⟩ := h
  have H := hid h
  have c3 : w.cell? ⟨d, 3, none⟩ = some (.bool σ.lim) := cell_blk h.blk 3
  have c4 : w.cell? ⟨d, 4, none⟩ = some (.int .i64 σ.left) := cell_blk h.blk 4
  have f3 := frozen_of_row w d 3 _ _ h.blk
  have hb1 := heap_setCell_same w d 3 _ _ (.bool (decide (n ≥ 0))) h.blk
  have d4 : (w.setCell ⟨d, 3, none⟩ (.bool (decide (n ≥ 0)))).cell? ⟨d, 4, none⟩ = some (.int .i64 σ.left) := cell_blk hb1 4
  have g4 := frozen_of_row (w.setCell ⟨d, 3, none⟩ (.bool (decide (n ≥ 0)))) d 4 _ _ hb1
  have HB2 := hid (heap_setCell_same _ d 4 _ _ (.int .i64 n) hb1)
  clear h hb1
  go_enter Try.func19, Try.ntmps19
  go_wp2
  go_end0
  refine ⟨rfl, (below_setCell0 _ _ _).trans (below_setCell0 _ _ _), ((Kept.refl w S).setCell (.inl H.out.sd) _).setCell (.inl H.out.sd) _, S, fun _ hk => .inl hk, fb, fv, mc, md, pv, ?_⟩
  exact H.out.scalar (by rw [setCell_size, setCell_size]; exact Nat.le_refl _) (fun k _ hk => (heap_setCell_other _ _ _ _ hk).trans (heap_setCell_other _ _ _ _ hk)) _ _ HB2.out
def fileAt (σ : St) (i : Nat) : Fl := σ.files.getD i ⟨[], 0⟩
theorem fileAt_some {σ : St} {i : Nat} (h : i < σ.files.length) : σ.files[i]? = some (fileAt σ i) := by
  unfold fileAt
  rw [List.getD_eq_getElem?_getD, List.getElem?_eq_getElem h]; rfl
def syncS (σ : St) (n : ByteArray) : St × Int :=
  if beginS σ [n] = 0 then (match dget σ.cur n with
    | none => (σ, 15)
    | some i => (doneS { σ with files := σ.files.set i ⟨(fileAt σ i).data, (fileAt σ i).data.length⟩ }, 0))
  else (σ, beginS σ [n])
theorem dget_mem {c : Dir} {n : ByteArray} {i : Nat} (h : dget c n = some i) : (n, i) ∈ c := by
  unfold dget at h
  cases hf : c.find? fun p => decide (p.1 = n) with
  | none => rw [hf] at h; cases h
  | some p =>
    rw [hf] at h
    have h1 := List.find?_some hf
    have h2 := List.mem_of_find?_eq_some hf
    simp at h h1
    rw [← h1, ← h]
    exact h2
theorem Ok_get {σ : St} (ok : σ.Ok) {n : ByteArray} {i : Nat} (h : dget σ.cur n = some i) : i < σ.files.length := ok.cur _ (dget_mem h)
theorem moved_two {w w1 w2 w3 : World} {d : Nat} {τ : St} {S S1 : Nat → Prop} (hb : Below w.heap.size w w1) (mb : Below 0 w1 w2) (mk : Kept w1 w2 S) (hs : ∀ k, S1 k → S k ∨ w1.heap.size ≤ k) (hm : Moved w2 w3 d τ S1) : Moved w w3 d τ S := by
  obtain ⟨b3, k3, S3, s3, d3⟩ := hm
  refine ⟨((hb.mono (Nat.zero_le _)).trans mb).trans b3, ((Kept.of_below hb S).then_ mk (fun _ h => .inl h)).then_ k3 (fun k hk => ?_), S3, fun k hk => ?_, d3⟩
  · rcases hs k hk with h | h
    · exact .inl h
    · exact .inr (Nat.le_trans hb.size h)
  · rcases s3 k hk with h | h
    · rcases hs k h with h | h
      · exact .inl h
      · exact .inr (Nat.le_trans hb.size h)
    · exact .inr (Nat.le_trans hb.size (Nat.le_trans mb.size h))
theorem sync_moved {d : Nat} {σ : St} {S : Nat → Prop} {fb : Nat → Nat} {fv : Nat → Value} {mc md : Nat} {pv : Value} {w : World} (h : Disk w d σ S fb fv mc md pv) {i : Nat} (hi : i < σ.files.length) {N : Nat} (hN : N = (fileAt σ i).data.length) :
    Moved w (w.setCell ⟨fb i, 1, none⟩ (.int .i64 (N : Int))) d { σ with files := σ.files.set i ⟨(fileAt σ i).data, (fileAt σ i).data.length⟩ } S := by
  have hf := h.file i _ (fileAt_some hi)
  have hr := h.row i _ (fileAt_some hi)
  subst hN
  refine ⟨below_setCell0 _ _ _, (Kept.refl w S).setCell (.inl (h.sf i hi)) _, _, fun k hk => ?_, _, _, _, _, _, h.turnFile (by rw [setCell_size]; exact Nat.le_refl _) i hi (fv i) ⟨(fileAt σ i).data, (fileAt σ i).data.length⟩ (.inl rfl) (fun k _ hk _ => heap_setCell_other _ _ _ _ hk) (heap_setCell_same w (fb i) 1 _ _ _ hf) ?_⟩
  · rcases hk with hk | hk
    · exact .inl hk
    · exact .inr hk.1
  · refine row_move hr (fun k hk => heap_setCell_other _ _ _ _ ?_)
    obtain ⟨c, hc⟩ := row_typed hr hk
    exact (ne_type hf hc (by decide)).symm
theorem file_cells {d : Nat} {σ : St} {S : Nat → Prop} {fb : Nat → Nat} {fv : Nat → Value} {mc md : Nat} {pv : Value} {w : World} (h : Disk w d σ S fb fv mc md pv) {i : Nat} (hi : i < σ.files.length) :
    ∃ A N c, fv i = .slice A N c ∧ N = (fileAt σ i).data.length ∧ w.cell? ⟨fb i, 0, none⟩ = some (.slice A N c) ∧ w.cell? ⟨fb i, 1, none⟩ = some (.int .i64 ((fileAt σ i).dur : Nat)) ∧ (∀ j, w.frozen? ⟨fb i, j, none⟩ = false) := by
  have hf := h.file i _ (fileAt_some hi)
  have hr := h.row i _ (fileAt_some hi)
  obtain ⟨A, c, e⟩ := Kd.R_slice hr
  exact ⟨A, _, c, e, rfl, by rw [cell_blk hf, e]; rfl, cell_blk hf 1, fun j => frozen_of_row w (fb i) j _ _ hf⟩
set_option maxRecDepth 100000 in
set_option maxHeartbeats 4000000 in
theorem sync_calls (d : Nat) (σ : St) (S : Nat → Prop) (n : ByteArray) (w : World) (h : DiskAt w d σ S) (ok : σ.Ok) :
    Calls Try.prog 42 #[.pointer (some ⟨d, 0, none⟩), .string n] w fun e w' => e = .returned (.int .i64 (syncS σ n).2) ∧ Moved w w' d (syncS σ n).1 S := by
  have H := hid h
  have HB := hid (begin1 h n)
  have HOK := hid ok
  clear h ok
  unfold syncS
  by_cases hb : beginS σ [n] = 0
  · rw [if_pos hb]
    have hsz := (begin0_names hb n (by simp)).2
    rw [hb] at HB
    have HS := hid (show n.size ≤ maxLen from Nat.le_trans hsz (by decide +kernel))
    clear hb hsz
    go_enter Try.func42, Try.ntmps42
    cases hg : dget σ.cur n with
    | none =>
      have HG := hid hg
      clear hg
      go_wp2_with (first
        | (go_at_call 67; refine HB.out.mono ?_; rintro e w1 ⟨rfl, hb1⟩; have HB1 := hid hb1; obtain ⟨fb, fv, mc, md, pv, hd1⟩ := H.out.below hb1; have HD1 := hid hd1; have c0 : w1.cell? ⟨d, 0, none⟩ = some (.map (some mc)) := cell_blk hd1.blk 0; clear hb1 hd1)
        | (at_lookup; refine wpList_look_dir _ rfl (.tmp 19) (.tmp 20) rfl mc fb σ.cur n rfl rfl HD1.out.cur HS.out none HG.out ?_; simp only [lookV]))
      go_ret
      exact ⟨rfl, Moved.stay H.out HB1.out⟩
    | some i =>
      have HG := hid hg
      have HI := hid (Ok_get HOK.out hg)
      clear hg
      go_wp2_with (first
        | (go_at_call 67; refine HB.out.mono ?_; rintro e w1 ⟨rfl, hb1⟩; have HB1 := hid hb1; obtain ⟨fb, fv, mc, md, pv, hd1⟩ := H.out.below hb1; have HD1 := hid hd1; have c0 : w1.cell? ⟨d, 0, none⟩ = some (.map (some mc)) := cell_blk hd1.blk 0; obtain ⟨A, N, c, _, hN, hc0, hc1, hfz⟩ := file_cells hd1 HI.out; have HN := hid hN; have hf1 := hfz 1; clear hb1 hd1 hN hfz)
        | (at_lookup; refine wpList_look_dir _ rfl (.tmp 19) (.tmp 20) rfl mc fb σ.cur n rfl rfl HD1.out.cur HS.out (some i) HG.out ?_; simp only [lookV])
        | (go_at_call 68; obtain ⟨mb, mk, S1, hs1, hd2⟩ := sync_moved HD1.out HI.out HN.out; refine (done_calls d _ S1 _ hd2).mono ?_; rintro e w3 ⟨rfl, hm⟩; have HM2 := hid (moved_two HB1.out mb mk hs1 hm); clear hm mb mk hs1 hd2))
      go_ret
      exact ⟨rfl, HM2.out⟩
  · rw [if_neg hb]
    have hbb : (beginS σ [n] != 0) = true := by simpa using hb
    generalize beginS σ [n] = r at HB hbb
    clear hb
    go_enter Try.func42, Try.ntmps42
    go_wp2_with (go_at_call 67; refine HB.out.mono ?_; rintro e w1 ⟨rfl, hb1⟩; have HB1 := hid hb1; clear hb1)
    go_ret
    exact ⟨rfl, Moved.stay H.out HB1.out⟩
end Go.Proofs.Ytfkgpmidcbjlbaa.H
end
section
set_option linter.unusedVariables false
set_option linter.unusedSimpArgs false
/- simdisk: Append, Read. -/
namespace Go.Proofs.Ytfkgpmidcbjlbaa.H
open Go.RowKit Go.Proofs.Ytfkgpmidcbjlbaa.U Go.Proofs.YtfkgpmidcbjlbaaW.PrintWords Go.Proofs.Ytfkgpmidcbjlbaa.P

def appendS (σ : St) (n : ByteArray) (l : List Int) : St × Int :=
  if beginS σ [n] = 0 then (match dget σ.cur n with
    | none => (σ, 15)
    | some i => (doneS { σ with files := σ.files.set i ⟨(fileAt σ i).data ++ l, (fileAt σ i).dur⟩ }, 0))
  else (σ, beginS σ [n])
theorem append_block {d : Nat} {σ : St} {S : Nat → Prop} {fb : Nat → Nat} {fv : Nat → Value} {mc md : Nat} {pv : Value} {w w2 : World} (h : Disk w d σ S fb fv mc md pv) {i : Nat} (hi : i < σ.files.length) (hg : w.grownBy w2 (fv i).ownBlock) :
    w2.heap[fb i]? = some (.cells #[fv i, .int .i64 ((fileAt σ i).dur : Nat)] 94 (0, 0)) := by
  have hf := h.file i _ (fileAt_some hi)
  rw [hg.block (fb i) (h.lt _ (h.sf i hi)) (fun e => by
    obtain ⟨c, hc⟩ := h.row_ty hi e.symm
    exact ne_type hf hc (by decide) rfl)]
  exact hf
theorem append_moved {d : Nat} {σ : St} {S : Nat → Prop} {fb : Nat → Nat} {fv : Nat → Value} {mc md : Nat} {pv : Value} {w w2 : World} (h : Disk w d σ S fb fv mc md pv) {i : Nat} (hi : i < σ.files.length) {v2 : Value} {l : List Int}
    (hr : (Kd.int .u8).R 5 w2 0 (fun _ => True) v2 ((fileAt σ i).data ++ l)) (hb : Below 0 w w2) (hg : w.grownBy w2 (fv i).ownBlock) (hat : v2.ownBlock = (fv i).ownBlock ∨ ∃ b, v2.ownBlock = some b ∧ w.heap.size ≤ b) :
    Moved w (w2.setCell ⟨fb i, 0, none⟩ v2) d { σ with files := σ.files.set i ⟨(fileAt σ i).data ++ l, (fileAt σ i).dur⟩ } S := by
  have hf2 := append_block h hi hg
  have hsz : w.heap.size ≤ w2.heap.size := hg.size
  refine ⟨hb.trans (below_setCell0 _ _ _), ⟨by rw [setCell_size]; exact hsz, fun k hk hS => ?_⟩, _, fun k hk => ?_, _, _, _, _, _, h.turnFile (by rw [setCell_size]; exact hsz) i hi v2 ⟨(fileAt σ i).data ++ l, (fileAt σ i).dur⟩ ?_ (fun k hk hne hnv => ?_) (heap_setCell_same w2 (fb i) 0 _ _ _ hf2) ?_⟩
  · rw [heap_setCell_other _ _ _ _ (show k ≠ fb i from fun e => hS (by rw [e]; exact h.sf i hi))]
    exact hg.block k hk (fun e => hS (h.sv i k hi e.symm))
  · rcases hk with hk | hk
    · exact .inl hk
    · exact .inr hk.1
  · rcases hat with hat | ⟨b, hat, hle⟩
    · exact .inl hat
    · obtain ⟨cs, hcs⟩ := row_typed hr hat
      exact .inr ⟨b, hat, hle, by rw [setCell_size]; exact (Array.getElem?_eq_some_iff.1 hcs).1⟩
  · rw [heap_setCell_other _ _ _ _ hne]
    exact hg.block k (h.lt k hk) hnv
  · refine row_move (Kd.R_tight rfl hr) (fun k hk => heap_setCell_other _ _ _ _ ?_)
    obtain ⟨c, hc⟩ := row_typed hr hk
    exact (ne_type hf2 hc (by decide)).symm
theorem file_row {d : Nat} {σ : St} {S : Nat → Prop} {fb : Nat → Nat} {fv : Nat → Value} {mc md : Nat} {pv : Value} {w : World} (h : Disk w d σ S fb fv mc md pv) {i : Nat} (hi : i < σ.files.length) : (Kd.int .u8).R 5 w 0 (fun _ => True) (fv i) (fileAt σ i).data :=
  Kd.R_mono (h.row i _ (fileAt_some hi)) (fun _ _ => trivial)
set_option maxRecDepth 100000 in
set_option maxHeartbeats 4000000 in
theorem append_calls (d : Nat) (σ : St) (S : Nat → Prop) (n : ByteArray) (A0 : Option Addr) (k0 : Nat) (l : List Int) (w : World) (h : DiskAt w d σ S) (ok : σ.Ok) (hl : ∀ f ∈ σ.files, f.data.length + l.length ≤ 1099511627776) (hr0 : Kd.C (Kd.int .u8) w A0 l.length l) :
    Calls Try.prog 41 #[.pointer (some ⟨d, 0, none⟩), .string n, .slice A0 l.length k0] w fun e w' => e = .returned (.int .i64 (appendS σ n l).2) ∧ Moved w w' d (appendS σ n l).1 S := by
  have H := hid h
  have HB := hid (begin1 h n)
  have HOK := hid ok
  have HR := hid hr0
  have HLL := hid hl
  clear h ok hr0 hl
  unfold appendS
  by_cases hb : beginS σ [n] = 0
  · rw [if_pos hb]
    have hsz := (begin0_names hb n (by simp)).2
    rw [hb] at HB
    have HS := hid (show n.size ≤ maxLen from Nat.le_trans hsz (by decide +kernel))
    clear hb hsz
    go_enter Try.func41, Try.ntmps41
    cases hg : dget σ.cur n with
    | none =>
      have HG := hid hg
      clear hg
      go_wp2_with (first
        | (go_at_call 67; refine HB.out.mono ?_; rintro e w1 ⟨rfl, hb1⟩; have HB1 := hid hb1; obtain ⟨fb, fv, mc, md, pv, hd1⟩ := H.out.below hb1; have HD1 := hid hd1; have c0 : w1.cell? ⟨d, 0, none⟩ = some (.map (some mc)) := cell_blk hd1.blk 0; clear hb1 hd1)
        | (at_lookup; refine wpList_look_dir _ rfl (.tmp 21) (.tmp 22) rfl mc fb σ.cur n rfl rfl HD1.out.cur HS.out none HG.out ?_; simp only [lookV]))
      go_ret
      exact ⟨rfl, Moved.stay H.out HB1.out⟩
    | some i =>
      have HG := hid hg
      have HI := hid (Ok_get HOK.out hg)
      have HLIM := hid (HLL.out _ (List.mem_of_getElem? (fileAt_some HI.out)))
      clear hg
      go_wp2_with (first
        | (go_at_call 67; refine HB.out.mono ?_; rintro e w1 ⟨rfl, hb1⟩; have HB1 := hid hb1; obtain ⟨fb, fv, mc, md, pv, hd1⟩ := H.out.below hb1; have HD1 := hid hd1; have c0 : w1.cell? ⟨d, 0, none⟩ = some (.map (some mc)) := cell_blk hd1.blk 0; obtain ⟨A, N, c, hfv, hN, hc0, hc1, hfz⟩ := file_cells hd1 HI.out; have HN := hid hN; have HFV := hid hfv; have HFR := hid (file_row hd1 HI.out); rw [hfv] at HFR; clear hb1 hd1 hN hfz hfv)
        | (at_lookup; refine wpList_look_dir _ rfl (.tmp 21) (.tmp 22) rfl mc fb σ.cur n rfl rfl HD1.out.cur HS.out (some i) HG.out ?_; simp only [lookV])
        | (at_builtin; refine Kd.R_append_rows (Kd.int .u8) (w0 := w1) 0 rfl (.tmp 32) (.tmp 33) 24 5 (.int .u8 0) 1 rfl Try.underlying24 infoU8e rfl (by decide) (by decide) _ (fileAt σ i).data l _ _ _ (fun _ => True) (fun _ => False) rfl rfl HFR.out (Kd.C_below HR.out HB1.out) (fun _ _ h => h) (fun _ h => h.elim) (fun _ _ => trivial) (Below.refl 0 w1) (Nat.zero_le _) (by have := HLIM.out; omega) ?_; intro v2 w2 ho hb2 hg2 hat2; rw [← HFV.out] at hg2 hat2; obtain ⟨A2, N2, c2, rfl⟩ := R_slice3 ho; have hfb := append_block HD1.out HI.out hg2; have hd0 : w2.cell? ⟨fb i, 0, none⟩ = some (fv i) := cell_blk hfb 0; have hz0 := frozen_of_row w2 (fb i) 0 _ _ hfb; have HMV := hid (append_moved HD1.out HI.out ho hb2 hg2 hat2); clear ho hb2 hg2 hat2 hfb)
        | (go_at_call 68; obtain ⟨mb, mk, S1, hs1, hd2⟩ := HMV.out; refine (done_calls d _ S1 _ hd2).mono ?_; rintro e w3 ⟨rfl, hm⟩; have HM2 := hid (moved_two HB1.out mb mk hs1 hm); clear hm mb mk hs1 hd2))
      go_ret
      exact ⟨rfl, HM2.out⟩
  · rw [if_neg hb]
    have hbb : (beginS σ [n] != 0) = true := by simpa using hb
    generalize beginS σ [n] = r at HB hbb
    clear hb
    go_enter Try.func41, Try.ntmps41
    go_wp2_with (go_at_call 67; refine HB.out.mono ?_; rintro e w1 ⟨rfl, hb1⟩; have HB1 := hid hb1; clear hb1)
    go_ret
    exact ⟨rfl, Moved.stay H.out HB1.out⟩
end Go.Proofs.Ytfkgpmidcbjlbaa.H
end
section
set_option linter.unusedVariables false
set_option linter.unusedSimpArgs false
/- slices.Clone at bytes; simdisk: Read. -/
namespace Go.Proofs.Ytfkgpmidcbjlbaa.H
open Go.RowKit Go.Proofs.Ytfkgpmidcbjlbaa.U Go.Proofs.YtfkgpmidcbjlbaaW.PrintWords Go.Proofs.Ytfkgpmidcbjlbaa.P

set_option maxRecDepth 100000 in
set_option maxHeartbeats 4000000 in
theorem clone_bytes (A : Option Addr) (c : Nat) (l : List Int) (w : World) (hr : Kd.C (Kd.int .u8) w A l.length l) (hl : l.length ≤ 1099511627776) :
    Calls Try.prog 46 #[.slice A l.length c] w fun e w' => ∃ v0 : Value, e = .returned v0 ∧ Kd.R (Kd.int .u8) 5 w' w.heap.size (fun _ => True) v0 l ∧ Below w.heap.size w w' := by
  have hnil := fun (w : World) (a : Option Addr) (l c : Nat) => Go.run_eql_slice_nil (P := Try.prog) w 24 5 a l c Try.underlying24
  have HR := hid hr
  have HL := hid hl
  clear hr hl
  cases A with
  | none =>
    have hl0 : l = [] := by
      rcases l with _ | ⟨x, xs⟩
      · rfl
      · obtain ⟨_, _, h⟩ := HR.out
        obtain ⟨ad, h1, _⟩ := h (by simp)
        cases h1
    subst hl0
    go_enter Try.func46, Try.ntmps46
    go_wp2
    go_ret
    exact ⟨_, rfl, Kd.R_nil _ _ _ _ _, Below.refl _ _⟩
  | some ad =>
    go_enter Try.func46, Try.ntmps46
    go_wp2_with (first
      | (at_builtin; refine Kd.R_append_rows (Kd.int .u8) (w0 := w) w.heap.size rfl (.tmp 5) (.tmp 6) 24 5 (.int .u8 0) 1 rfl Try.underlying24 infoU8e rfl (by decide) (by decide) _ [] l _ _ _ (fun _ => True) (fun _ => False) rfl rfl HO.out (Kd.C_below HR.out HB.out) (fun _ _ h => h) (fun _ h => h.elim) (fun _ _ => trivial) HB.out HB.out.size (by have := HL.out; simp; omega) ?_; intro v1 w5 ho hb5 _ _; have HO5 := hid ho; have HB5 := hid hb5; clear ho hb5)
      | ((with_reducible refine gate_dst (N := 5) rfl ?_); refine Kd.R_lit (Kd.int .u8) w.heap.size 5 rfl (N := 5) rfl (xs := []) (inner := []) (ok := fun _ => True) (okp := fun _ => False) (by first | (go_simp; done) | (go_simp; rfl)) (Reps.none _ _) (fun _ hk => hk.elim) trivial (Below.refl _ _) (Nat.le_refl _) (by simp) ?_; intro v3 w3 ho hb _ _; have HO := hid ho; have HB := hid hb; clear ho hb))
    go_ret
    exact ⟨_, rfl, HO5.out, HB5.out⟩
def readS (σ : St) (n : ByteArray) : List Int × Int :=
  if nameB n = true then (match dget σ.cur n with
    | none => ([], 15)
    | some i => ((fileAt σ i).data, 0))
  else ([], 8)
set_option maxRecDepth 100000 in
set_option maxHeartbeats 4000000 in
theorem read_calls (d : Nat) (σ : St) (S : Nat → Prop) (n : ByteArray) (w : World) (h : DiskAt w d σ S) (ok : σ.Ok) (hl : ∀ f ∈ σ.files, f.data.length ≤ 1099511627776) :
    Calls Try.prog 40 #[.pointer (some ⟨d, 0, none⟩), .string n] w fun e w' => ∃ v0 : Value, e = .returned (.tuple #[v0, .int .i64 (readS σ n).2]) ∧ Kd.R (Kd.int .u8) 5 w' w.heap.size (fun _ => True) v0 (readS σ n).1 ∧ Below w.heap.size w w' := by
  have H := hid h
  have HOK := hid ok
  have HLL := hid hl
  have HNC := hid (isName_calls n w)
  clear h ok hl
  unfold readS
  cases hnb : nameB n with
  | false =>
    rw [if_neg (by decide)]
    rw [hnb] at HNC
    clear hnb
    go_enter Try.func40, Try.ntmps40
    go_wp2_with (go_at_call 66; refine HNC.out.mono ?_; rintro e w1 ⟨rfl, hb1⟩; have HB1 := hid hb1.below; clear hb1)
    go_ret2
    exact ⟨_, rfl, Kd.R_nil _ _ _ _ _, HB1.out⟩
  | true =>
    rw [if_pos rfl]
    have HS := hid (show n.size ≤ maxLen from Nat.le_trans (nameB_size n hnb).2 (by decide +kernel))
    rw [hnb] at HNC
    clear hnb
    go_enter Try.func40, Try.ntmps40
    cases hg : dget σ.cur n with
    | none =>
      have HG := hid hg
      clear hg
      go_wp2_with (first
        | (go_at_call 66; refine HNC.out.mono ?_; rintro e w1 ⟨rfl, hb1⟩; have HB1 := hid hb1.below; obtain ⟨fb, fv, mc, md, pv, hd1⟩ := H.out.below HB1.out; have HD1 := hid hd1; have c0 : w1.cell? ⟨d, 0, none⟩ = some (.map (some mc)) := cell_blk hd1.blk 0; clear hb1 hd1)
        | (at_lookup; refine wpList_look_dir _ rfl (.tmp 17) (.tmp 18) rfl mc fb σ.cur n rfl rfl HD1.out.cur HS.out none HG.out ?_; simp only [lookV]))
      go_ret2
      exact ⟨_, rfl, Kd.R_nil _ _ _ _ _, HB1.out⟩
    | some i =>
      have HG := hid hg
      have HI := hid (Ok_get HOK.out hg)
      have HLIM := hid (HLL.out _ (List.mem_of_getElem? (fileAt_some HI.out)))
      clear hg
      go_wp2_with (first
        | (go_at_call 66; refine HNC.out.mono ?_; rintro e w1 ⟨rfl, hb1⟩; have HB1 := hid hb1.below; obtain ⟨fb, fv, mc, md, pv, hd1⟩ := H.out.below HB1.out; have HD1 := hid hd1; have c0 : w1.cell? ⟨d, 0, none⟩ = some (.map (some mc)) := cell_blk hd1.blk 0; obtain ⟨A, N, c, hfv, hN, hc0, hc1, hfz⟩ := file_cells hd1 HI.out; have hfr := file_row hd1 HI.out; rw [hfv] at hfr; subst hN; have HC := hid (clone_bytes A c (fileAt σ i).data w1 (Kd.R_reads' hfr).2.2 HLIM.out); clear hb1 hd1 hfz hfv hfr)
        | (at_lookup; refine wpList_look_dir _ rfl (.tmp 17) (.tmp 18) rfl mc fb σ.cur n rfl rfl HD1.out.cur HS.out (some i) HG.out ?_; simp only [lookV])
        | (go_at_call 46; refine HC.out.mono ?_; rintro e w2 ⟨v0, rfl, hr2, hb2⟩; have HR2 := hid hr2; have HB2 := hid hb2; clear hr2 hb2))
      go_ret2
      exact ⟨_, rfl, Kd.R_lower HR2.out HB1.out.size, HB1.out.trans (HB2.out.mono HB1.out.size)⟩
end Go.Proofs.Ytfkgpmidcbjlbaa.H
end
