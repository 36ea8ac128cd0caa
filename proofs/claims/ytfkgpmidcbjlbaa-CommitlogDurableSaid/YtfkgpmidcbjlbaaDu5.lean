/- Part 5 of a proof; each section was a text of its own. -/
import Derived.Test.YtfkgpmidcbjlbaaDu1
import Derived.Test.YtfkgpmidcbjlbaaDu3
import Derived.Test.YtfkgpmidcbjlbaaDu4
import Derived.Ground.NamesProg
import Derived.Shelf.Lay
import Derived.Shelf.Slices.In.SortNone
import Derived.Shelf.Sort.Plain
import Derived.Sort.OwnSorted
import Derived.Maps.Ext
import Derived.StillTailTactics
section
set_option linter.unusedVariables false
set_option linter.unusedSimpArgs false
/- slices.Sort at strings. -/
namespace Go.Proofs.Ytfkgpmidcbjlbaa.H
open Go.RowKit Go.Proofs.Ytfkgpmidcbjlbaa.U Go.Proofs.YtfkgpmidcbjlbaaW.PrintWords Go.Proofs.Ytfkgpmidcbjlbaa.P Go.Shelf Go.Sort
shelf_lay Lays.n190 Nm 190 at Try as sortLay
/-- names as lists of bytes -/
def bysN (ns : List ByteArray) : List (List UInt8) := ns.map fun n => n.data.toList
def sortN (ns : List ByteArray) : List ByteArray := ((bysN ns).mergeSort fun x y => decide (x ≤ y)).map fun b => ⟨b.toArray⟩
theorem encs_eq (bs : List (List UInt8)) : encs Value.string (bs.map fun b => (⟨b.toArray⟩ : ByteArray)) = bs.map encStr := by
  unfold encs
  rw [List.map_map]
  rfl
theorem bysN_back (ns : List ByteArray) : (bysN ns).map (fun b => (⟨b.toArray⟩ : ByteArray)) = ns := by
  unfold bysN
  rw [List.map_map]
  conv => rhs; rw [← List.map_id ns]
  exact List.map_congr_left fun n _ => rfl
theorem sortN_len (ns : List ByteArray) : (sortN ns).length = ns.length := by simp [sortN, bysN]
theorem sort_calls (base : Nat) (ok : Nat → Prop) (v : Value) (ns : List ByteArray) (w : World) (h : Kd.R Kd.string 9 w base ok v ns) (hl : ns.length ≤ 1099511627776) :
    Calls Try.prog 69 #[v] w fun e w' => e = .returned (.tuple #[]) ∧ Kd.R Kd.string 9 w' base ok v (sortN ns) ∧ w.grownBy w' v.ownBlock := by
  have hok := h.1
  have ho := Kd.own_of_R h
  rw [← bysN_back ns, encs_eq, bysN_back] at ho
  have hlen : (bysN ns).length = ns.length := by simp [bysN]
  rcases ho.2 with ⟨hnil, hn0⟩ | ⟨g, cap, cur, hv, hbase, hb, h1, h2, h3, h4⟩
  · subst hnil
    have hns : ns = [] := by
      exact List.length_eq_zero_iff.1 hn0
    subst hns
    have := Any.slices_Sort_string_none sortLay none 0 w
    exact this.mono (fun e w' ⟨he, hw⟩ => by subst hw; exact ⟨he, (by rw [show sortN [] = [] from List.length_eq_zero_iff.1 (sortN_len [])]; exact Kd.R_nil _ _ _ _ _), ⟨rfl, rfl, rfl, Nat.le_refl _, fun _ _ _ => rfl⟩⟩)
  · subst hv
    have hc := Any.slices_Sort_string sortLay g 0 cap (bysN ns) w (holds_of_block hb (by simpa [hlen] using h4)) (Array.getElem?_eq_some_iff.1 hb).1 (by omega)
    rw [hlen] at hc
    refine hc.mono (fun e w' ⟨he, n, os, hw⟩ => ⟨he, ?_, ?_⟩)
    · subst hw
      have hs := ownsRow_sorted (n := n) (os := os) (ss := bysN ns) (ts := (bysN ns).mergeSort fun x y => decide (x ≤ y)) (List.length_mergeSort _) hbase hb (by omega) h2 h3
      rw [← encs_eq, hlen] at hs
      refine Kd.R_of_own ?_ hok
      rw [sortN_len]
      exact hs
    · subst hw
      exact grownBy_sorted _
end Go.Proofs.Ytfkgpmidcbjlbaa.H
end
section
set_option linter.unusedVariables false
set_option linter.unusedSimpArgs false
/- Plain: a rising directory's names. -/
namespace Go.Proofs.Ytfkgpmidcbjlbaa.H
open Go.RowKit Go.Proofs.YtfkgpmidcbjlbaaW.PrintWords

theorem before_lt : ∀ a b : List UInt8, bytesBefore a b = true → a < b
  | [], [], h => by simp [bytesBefore] at h
  | [], b :: s, _ => List.nil_lt_cons b s
  | _ :: _, [], h => by simp [bytesBefore] at h
  | a :: r, b :: s, h => by
    simp only [bytesBefore, Bool.or_eq_true, Bool.and_eq_true, decide_eq_true_eq, beq_iff_eq] at h
    rw [List.cons_lt_cons_iff]
    rcases h with h | ⟨h1, h2⟩
    · exact .inl h
    · exact .inr ⟨h1, before_lt r s h2⟩
theorem Rising.pairwise {c : Dir} (h : Rising c) : c.Pairwise (fun p q => bytesBefore p.1.data.toList q.1.data.toList = true) := by
  have := WideShapes.rising_pairwise _ h
  rw [List.pairwise_map] at this
  exact this
theorem Rising.nodup {c : Dir} (h : Rising c) : (c.map (·.1)).Nodup := by
  rw [List.Nodup, List.pairwise_map]
  refine h.pairwise.imp fun {p q} hb he => ?_
  rw [he, WideAt.bytes_irrefl] at hb
  cases hb
theorem sortN_names {c : Dir} (h : Rising c) (ks : List ByteArray) (hp : ks.Perm (c.map (·.1))) : sortN ks = c.map (·.1) := by
  have e : ((bysN ks).mergeSort fun x y => decide (x ≤ y)) = bysN (c.map (·.1)) := by
    refine List.Perm.eq_of_pairwise (le := fun a b => decide (a ≤ b) = true) (fun a b _ _ h1 h2 => List.le_antisymm (of_decide_eq_true h1) (of_decide_eq_true h2)) ?_ ?_ ?_
    · exact List.pairwise_mergeSort (le := fun x y : List UInt8 => decide (x ≤ y)) (fun a b c h1 h2 => decide_eq_true (List.le_trans (of_decide_eq_true h1) (of_decide_eq_true h2))) (fun a b => by
        rcases (List.le_total a b : a ≤ b ∨ b ≤ a) with h | h
        · rw [decide_eq_true h]; rfl
        · rw [decide_eq_true h, Bool.or_true]) _
    · unfold bysN
      rw [List.pairwise_map, List.pairwise_map]
      exact h.pairwise.imp fun {p q} hb => decide_eq_true (List.le_of_lt (before_lt _ _ hb))
    · exact (List.mergeSort_perm _ _).trans (hp.map _)
  unfold sortN
  rw [e, bysN_back]
theorem mem_names {c : Dir} {n : ByteArray} : n ∈ c.map (·.1) ↔ (dget c n).isSome = true := by
  unfold dget
  rw [Option.isSome_map, List.find?_isSome, List.mem_map]
  constructor
  · rintro ⟨p, hp, rfl⟩; exact ⟨p, hp, by simp⟩
  · rintro ⟨p, hp, hq⟩; exact ⟨p, hp, by simpa using hq⟩
end Go.Proofs.Ytfkgpmidcbjlbaa.H
end
section
set_option linter.unusedVariables false
set_option linter.unusedSimpArgs false
/- simdisk: the names of a directory, sorted; List. -/
namespace Go.Proofs.Ytfkgpmidcbjlbaa.H
open Go.RowKit Go.Proofs.Ytfkgpmidcbjlbaa.U Go.Proofs.YtfkgpmidcbjlbaaW.PrintWords Go.Proofs.Ytfkgpmidcbjlbaa.P

theorem infoStr : (Try.prog.info? 9).map (fun i => (i.zero, i.size, i.bytes)) = some (some (.string ⟨#[]⟩), 1, 16) := by kernel_rfl
/-- what has been collected is what is no more to come -/
def Seen (c : Dir) (left : Lit → Bool) (ks : List ByteArray) : Prop := ks.Nodup ∧ ks.length ≤ c.length ∧ ∀ n, n ∈ ks ↔ (n ∈ c.map (·.1) ∧ left (keyL n) = false)
theorem has_names (fb : Nat → Nat) (c : Dir) (n : ByteArray) : Maps.has (dirD fb c) (keyL n) = true ↔ n ∈ c.map (·.1) := by
  rw [dirD_has, mem_names]
theorem Seen.start (fb : Nat → Nat) (c : Dir) : Seen c (Maps.has (dirD fb c)) [] :=
  ⟨List.nodup_nil, Nat.zero_le _, fun n => ⟨fun h => (by cases h), fun ⟨h1, h2⟩ => by rw [(has_names fb c n).2 h1] at h2; cases h2⟩⟩
theorem nodup_sub_len {α : Type} [DecidableEq α] : ∀ (a b : List α), a.Nodup → a ⊆ b → a.length ≤ b.length
  | [], _, _, _ => Nat.zero_le _
  | x :: xs, b, hn, hs => by
    have hx : x ∈ b := hs (by simp)
    rw [List.nodup_cons] at hn
    have ih := nodup_sub_len xs (b.erase x) hn.2 (fun y hy => (List.mem_erase_of_ne (fun e => hn.1 (by rw [← e]; exact hy))).2 (hs (by simp [hy])))
    rw [List.length_erase_of_mem hx] at ih
    have := List.length_pos_of_mem hx
    simp only [List.length_cons]
    omega
theorem Seen.next {c : Dir} {left : Lit → Bool} {ks : List ByteArray} (h : Seen c left ks) (n : ByteArray) (hl : left (keyL n) = true) (hin : n ∈ c.map (·.1)) : Seen c (fun z => left z && !z.sameKey (keyL n)) (ks ++ [n]) := by
  have hnot : n ∉ ks := fun hm => by
    have := ((h.2.2 n).1 hm).2
    rw [hl] at this; cases this
  have hnd : (ks ++ [n]).Nodup := by
    rw [List.nodup_append]
    exact ⟨h.1, by simp, fun a ha b hb => by simp at hb; subst hb; exact fun e => hnot (e ▸ ha)⟩
  have hmem : ∀ x, x ∈ ks ++ [n] ↔ (x ∈ c.map (·.1) ∧ (left (keyL x) && !(keyL x).sameKey (keyL n)) = false) := fun x => by
    rw [List.mem_append, List.mem_singleton, h.2.2 x, keyL_same]
    by_cases e : x = n
    · subst e
      simp [hin]
    · simp [e]
  refine ⟨hnd, ?_, hmem⟩
  have hsub : ks ++ [n] ⊆ c.map (·.1) := fun x hx => ((hmem x).1 hx).1
  have := nodup_sub_len _ _ hnd hsub
  simpa using this
theorem Seen.all {c : Dir} {left : Lit → Bool} {ks : List ByteArray} (h : Seen c left ks) (hr : Rising c) (hl : ∀ kl, left kl = false) : ks.Perm (c.map (·.1)) :=
  (List.perm_ext_iff_of_nodup h.1 hr.nodup).2 (fun n => by rw [h.2.2 n]; simp [hl])
theorem row_ne {α : Type} {k : Kd α} {e base : Nat} {w : World} {ok : Nat → Prop} {v : Value} {xs : List α} (h : k.R e w base ok v xs) {j : Nat} {o : Obj} (hj : w.heap[j]? = some o) (ho : ∀ c t f, o ≠ .cells c t f) : some j ≠ v.ownBlock := fun he => by
  obtain ⟨c, hc⟩ := row_typed h he.symm
  rw [hj] at hc
  exact ho _ _ _ (Option.some.inj hc)
theorem row_same {α : Type} {k : Kd α} {e base : Nat} {w w1 : World} {ok : Nat → Prop} {v : Value} {xs : List α} (hE : k.E = []) (h : k.R e w base ok v xs) (hm : ∀ j, v.ownBlock = some j → w1.heap[j]? = w.heap[j]?) : k.R e w1 base ok v xs :=
  Kd.R_mono (row_move (Kd.R_tight hE h) hm) (fun j hj => h.1 j hj.symm)
theorem ranges_row {α : Type} {k : Kd α} {e base : Nat} {w : World} {ok : Nat → Prop} {v : Value} {xs : List α} (h : k.R e w base ok v xs) {m r n : Nat} {D : DataW Unit} {left : Lit → Bool} {cnt : Nat} (hr : w.ranges Try.prog 9 fileElem m r n D left cnt) : some m ≠ v.ownBlock ∧ some r ≠ v.ownBlock := by
  obtain ⟨es, clock, since, seen, c0, hb, _, _, _, hr, _⟩ := hr
  exact ⟨row_ne h hb (by simp), row_ne h hr (by simp)⟩
set_option maxRecDepth 100000 in
set_option maxHeartbeats 4000000 in
theorem names_calls (m : Nat) (fb : Nat → Nat) (c : Dir) (w : World) (h : HasDir w m fb c) (hl : c.length ≤ 1099511627776) :
    Calls Try.prog 45 #[.map (some m)] w fun e w' => ∃ v0 : Value, e = .returned v0 ∧ Kd.R Kd.string 9 w' w.heap.size (fun _ => True) v0 (c.map (·.1)) ∧ Below w.heap.size w w' := by
  have H := hid h
  have HL := hid hl
  have HRS := hid h.rising
  clear h hl
  go_enter Try.func45, Try.ntmps45
  go_wp2_with (first | (at_range; refine wpList_range_own _ rfl _ 76 rfl 9 87 keyed Try.underlying76 fileElem m c.length (dirD fb c) rfl H.out ?_; intro w0 hrg0 hg0 hs0; have HRG0 := hid hrg0; have HG0 := hid hg0; have HS0 := hid hs0; clear hrg0 hg0 hs0))
  go_frame
  go_loopw [3] (fun v wr => ∃ (left : Lit → Bool) (cnt : Nat) (ks : List ByteArray), Hid (wr.ranges Try.prog 9 fileElem m w.heap.size c.length (dirD fb c) left cnt) ∧ Hid (Seen c left ks) ∧ Hid (Kd.R Kd.string 9 wr w.heap.size (fun _ => True) v ks) ∧ Hid (Below w.heap.size w wr)) (fun _ wr => wr.rangeLeft m w.heap.size)
  case atStart => exact ⟨_, _, [], HRG0.out, Seen.start fb c, Kd.R_nil _ _ _ _ _, (Below.refl _ _).grown HG0.out (Nat.le_refl _) (by simp)⟩
  case round =>
    obtain ⟨left, cnt, ks, HRG, HSN, HO, HB⟩ := hrel
    obtain ⟨A3, N3, c3, rfl⟩ := R_slice3 HO.out
    go_wp2_with (first
      | (at_next; refine wpList_next_ranges _ rfl _ rfl 9 keyed fileElem Value.string (fun b : Nat => .pointer (some ⟨b, 0, none⟩)) (fun key kl hk => by obtain ⟨n, h1, _⟩ := key_inv hk; exact ⟨n, h1⟩) (fun v y hv => by obtain ⟨b, h1, _⟩ := fileElem_inv hv; exact ⟨b, h1⟩) m w.heap.size c.length _ left cnt rfl HRG.out ?_ ?_))
    · intro _ hl0
      have HP := hid (HSN.out.all HRS.out hl0)
      clear hl0
      go_wp2_with (first
        | (go_at_call 69; refine (sort_calls _ _ _ ks _ HO.out (Nat.le_trans HSN.out.2.1 HL.out)).mono ?_; rintro e w2 ⟨rfl, hr2, hg2⟩; have HR2 := hid hr2; have HB2 := hid (HB.out.grown hg2 HB.out.size (fun j hj => Kd.N_base (Kd.R_N HO.out) j hj)); clear hr2 hg2))
      go_ret
      refine ⟨_, rfl, ?_, HB2.out⟩
      rw [← sortN_names HRS.out ks HP.out]
      exact HR2.out
    · intro x b kl y1 y2 w1 cnt1 hkey hleft _ _ hrg1 hlt hg1 _ hen
      obtain ⟨x', hx', rfl, _⟩ := key_inv hkey
      obtain rfl : x = x' := by simpa using hx'
      have HIN := hid ((has_names fb c x).1 (by
        obtain ⟨es, clock, since, seen, c0, hb, F, hs, hD, _, _, _, _, hl2, _⟩ := HRG.out
        obtain ⟨z, hz, hzk⟩ := hl2 (keyL x) hleft
        rw [hD]
        exact List.any_eq_true.2 ⟨_, mem_sorted.2 (List.mem_map.2 ⟨z, hz, rfl⟩), by rw [hzk, keyL_same, decide_eq_true rfl]⟩))
      have HSN1 := hid (HSN.out.next x hleft HIN.out)
      have HRG1 := hid hrg1
      have HLT := hid hlt
      have hrow := ranges_row HO.out HRG.out
      have HO1 := hid (row_same rfl HO.out (fun j hj => hg1.block j (Kd.N_lt (Kd.R_N HO.out) j hj) (fun e => hrow.2 (e.symm.trans hj.symm))))
      have HB1 := hid (HB.out.grown hg1 HB.out.size (fun j hj => by injection hj with hj; omega))
      have HNL := hid (show ks.length ≤ 1099511627776 from Nat.le_trans HSN.out.2.1 HL.out)
      have HEND := hid (show ∀ v2 w2, Kd.R Kd.string 9 w2 w.heap.size (fun _ => True) v2 (ks ++ [x]) → w1.grownBy w2 (Value.slice A3 N3 c3).ownBlock → w2.ranges Try.prog 9 fileElem m w.heap.size c.length (dirD fb c) (fun z => left z && !z.sameKey (keyL x)) cnt1 ∧ w2.rangeLeft m w.heap.size < wr.rangeLeft m w.heap.size from fun v2 w2 _ hg => by
        have hr1 := ranges_row HO1.out HRG1.out
        have := HRG1.out.kept hg hr1.1 hr1.2
        exact ⟨this, by rw [this.left_eq, HRG.out.left_eq]; exact HLT.out⟩)
      clear hrg1 hlt hg1 hrow hkey hleft
      go_wp2_with (first
        | (at_builtin; refine Kd.R_append Kd.string (w0 := w) w.heap.size rfl (.tmp 11) (.tmp 13) 81 9 (.string ⟨#[]⟩) 16 rfl Try.underlying81 infoStr rfl (by decide) (by decide) _ ks x [.string x] (fun _ => True) (fun _ => False) rfl (by first | (go_simp; done) | (go_simp; rfl)) rfl (fun _ hk => hk.elim) (fun _ _ => trivial) HO1.out HB1.out HB1.out.size (by have := HNL.out; omega) ?_; intro v2 w2 hr2 hb2 hg2 _; have HR2 := hid hr2; have HB2 := hid hb2; have HE2 := hid (HEND.out v2 w2 hr2 hg2); clear hr2 hb2 hg2))
      go_roundw
      case rel => exact ⟨_, cnt1, _, HE2.out.1, HSN1.out, HR2.out, HB2.out⟩
      case measure => exact HE2.out.2
def listS (σ : St) : List ByteArray := σ.cur.map (·.1)
set_option maxRecDepth 100000 in
set_option maxHeartbeats 2000000 in
theorem list_calls (d : Nat) (σ : St) (S : Nat → Prop) (w : World) (h : DiskAt w d σ S) (hl : σ.cur.length ≤ 1099511627776) :
    Calls Try.prog 39 #[.pointer (some ⟨d, 0, none⟩)] w fun e w' => ∃ v0 : Value, e = .returned v0 ∧ Kd.R Kd.string 9 w' w.heap.size (fun _ => True) v0 (listS σ) ∧ Below w.heap.size w w' := by
  obtain ⟨fb, fv, mc, md, pv, h⟩ := h
  have H := hid h
  have HL := hid hl
  have c0 : w.cell? ⟨d, 0, none⟩ = some (.map (some mc)) := cell_blk h.blk 0
  clear h hl
  go_enter Try.func39, Try.ntmps39
  go_wp2_with (go_at_call 45; refine (names_calls mc fb σ.cur w H.out.cur HL.out).mono ?_; rintro e w1 ⟨v0, rfl, hr1, hb1⟩; have HR1 := hid hr1; have HB1 := hid hb1; clear hr1 hb1)
  go_ret
  exact ⟨_, rfl, HR1.out, HB1.out⟩
end Go.Proofs.Ytfkgpmidcbjlbaa.H
end
section
set_option linter.unusedVariables false
set_option linter.unusedSimpArgs false
/- simdisk: a directory's copy; SyncDir. -/
namespace Go.Proofs.Ytfkgpmidcbjlbaa.H
open Go.RowKit Go.Proofs.Ytfkgpmidcbjlbaa.U Go.Proofs.YtfkgpmidcbjlbaaW.PrintWords Go.Proofs.Ytfkgpmidcbjlbaa.P

theorem mem_dins (x p : ByteArray × Nat) (d : Dir) : p ∈ dins x d ↔ p = x ∨ p ∈ d := by
  induction d with
  | nil => simp [dins]
  | cons y r ih =>
    unfold dins
    split
    · simp
    · simp only [List.mem_cons, ih]
      constructor
      · rintro (h | h | h)
        · exact .inr (.inl h)
        · exact .inl h
        · exact .inr (.inr h)
      · rintro (h | h | h)
        · exact .inr (.inl h)
        · exact .inl h
        · exact .inr (.inr h)
theorem mem_dput (d : Dir) (n : ByteArray) (i : Nat) (p : ByteArray × Nat) : p ∈ dput d n i ↔ p = (n, i) ∨ (p ∈ d ∧ p.1 ≠ n) := by
  unfold dput ddel
  rw [mem_dins, List.mem_filter]
  simp
theorem rising_eq {a b : Dir} (ha : Rising a) (hb : Rising b) (h : ∀ p, p ∈ a ↔ p ∈ b) : a = b := by
  have hinj : ∀ p q : ByteArray × Nat, entL id p = entL id q → p = q := fun p q e => by
    unfold entL at e
    simp only [Prod.mk.injEq, DataW.lit.injEq, Lit.int.injEq, true_and, id] at e
    exact Prod.ext (keyL_inj e.1) (by omega)
  have := Maps.eq_of_mem_rising (WideShapes.rising_pairwise _ ha) (WideShapes.rising_pairwise _ hb) (fun p => by
    rw [List.mem_map, List.mem_map]
    constructor
    · rintro ⟨q, hq, rfl⟩; exact ⟨q, (h q).1 hq, rfl⟩
    · rintro ⟨q, hq, rfl⟩; exact ⟨q, (h q).2 hq, rfl⟩)
  have hl : ∀ a b : Dir, a.map (entL id) = b.map (entL id) → a = b := by
    intro a
    induction a with
    | nil => intro b h; cases b with
      | nil => rfl
      | cons y s => cases h
    | cons x r ih => intro b h; cases b with
      | nil => cases h
      | cons y s =>
        simp only [List.map_cons, List.cons.injEq] at h
        rw [hinj x y h.1, ih s h.2]
  exact hl a b this
theorem dget_unique {c : Dir} (hr : Rising c) {n : ByteArray} {i : Nat} (h : dget c n = some i) : ∀ p ∈ c, p.1 = n → p = (n, i) := by
  intro p hp hn
  have hm := dget_mem h
  have hnd := hr.pairwise
  have hpw := List.pairwise_iff_getElem.1 hnd
  obtain ⟨x, hx, ex⟩ := List.mem_iff_getElem.1 hp
  obtain ⟨y, hy, ey⟩ := List.mem_iff_getElem.1 hm
  rcases Nat.lt_trichotomy x y with hlt | heq | hlt
  · have := hpw x y hx hy hlt
    rw [ex, ey, hn, WideAt.bytes_irrefl] at this; cases this
  · subst heq; exact ex.symm.trans ey
  · have := hpw y x hy hx hlt
    rw [ex, ey, hn, WideAt.bytes_irrefl] at this; cases this
/-- what has been copied is what is no more to come -/
def Copied (c : Dir) (left : Lit → Bool) (o : Dir) : Prop := ∀ p, p ∈ o ↔ (p ∈ c ∧ left (keyL p.1) = false)
theorem Copied.next {c : Dir} {left : Lit → Bool} {o : Dir} (h : Copied c left o) (hr : Rising c) {n : ByteArray} {i : Nat} (hg : dget c n = some i) (hl : left (keyL n) = true) : Copied c (fun z => left z && !z.sameKey (keyL n)) (dput o n i) := by
  intro p
  show _ ↔ (p ∈ c ∧ (left (keyL p.1) && !(keyL p.1).sameKey (keyL n)) = false)
  rw [mem_dput, h p, keyL_same]
  by_cases e : p.1 = n
  · constructor
    · rintro (rfl | ⟨_, h2⟩)
      · exact ⟨dget_mem hg, by simp⟩
      · exact absurd e h2
    · rintro ⟨h1, _⟩
      exact .inl (dget_unique hr hg p h1 e)
  · constructor
    · rintro (rfl | ⟨⟨h1, h2⟩, _⟩)
      · exact absurd rfl e
      · exact ⟨h1, by rw [h2]; rfl⟩
    · rintro ⟨h1, h2⟩
      rw [decide_eq_false e] at h2
      exact .inr ⟨⟨h1, by simpa using h2⟩, e⟩
theorem Copied.len {c : Dir} {left : Lit → Bool} {o : Dir} (h : Copied c left o) (ho : Rising o) : o.length ≤ c.length := by
  have := nodup_sub_len (o.map (·.1)) (c.map (·.1)) ho.nodup (fun n hn => by
    obtain ⟨p, hp, rfl⟩ := List.mem_map.1 hn
    exact List.mem_map.2 ⟨p, ((h p).1 hp).1, rfl⟩)
  simpa using this
set_option maxRecDepth 100000 in
set_option maxHeartbeats 4000000 in
theorem clone_dir (m : Nat) (fb : Nat → Nat) (c : Dir) (w : World) (h : HasDir w m fb c) (hl : c.length ≤ 1099511627776) :
    Calls Try.prog 43 #[.map (some m)] w fun e w' => ∃ mo : Nat, e = .returned (.map (some mo)) ∧ HasDir w' mo fb c ∧ w.heap.size ≤ mo ∧ Below w.heap.size w w' := by
  have H := hid h
  have HL := hid hl
  have HRS := hid h.rising
  have HM := hid h.lt
  have HH := hid (h.move (w' := w.alloc (.map #[] 0)) (Below.heap_alloc _ _ _ h.lt))
  have hs : (w.alloc (.map #[] 0)).heap.size = w.heap.size + 1 := by simp
  have HS := hid hs
  have HO0 := hid (HasDir.of (n := 0) (fb := fb) (d := []) (World.ownsMap_made (H := Unit) w Try.prog 9 fileElem))
  have hmm := @run_makeMap Try.prog
  clear h hl hs
  go_enter Try.func43, Try.ntmps43
  go_wp2_with (first | (at_range; refine wpList_range_own _ rfl _ 76 rfl 9 87 keyed Try.underlying76 fileElem m c.length (dirD fb c) rfl HH.out ?_; rw [HS.out]; intro w0 hrg0 hg0 hs0; have HRG0 := hid hrg0; have HG0 := hid hg0; have HS0 := hid hs0; clear hrg0 hg0 hs0))
  go_frame
  clear hmm
  go_loopw [4] (fun _ wr => ∃ (left : Lit → Bool) (cnt : Nat) (o : Dir), Hid (wr.ranges Try.prog 9 fileElem m (w.heap.size + 1) c.length (dirD fb c) left cnt) ∧ Hid (Copied c left o) ∧ Hid (HasDir wr w.heap.size fb o) ∧ Hid (Below w.heap.size w wr)) (fun _ wr => wr.rangeLeft m (w.heap.size + 1))
  case atStart =>
    refine ⟨_, _, [], HRG0.out, fun p => ⟨fun hp => (by cases hp), fun ⟨h1, h2⟩ => ?_⟩, HO0.out.move (HG0.out.block _ (by rw [HS.out]; omega) (by simp)), ((Below.refl _ _).alloc (Nat.le_refl _) _).grown HG0.out (by rw [HS.out]; omega) (by simp)⟩
    rw [(has_names fb c p.1).2 (List.mem_map.2 ⟨p, h1, rfl⟩)] at h2
    cases h2
  case round =>
    obtain ⟨left, cnt, o, HRG, HCP, HO, HB⟩ := hrel
    go_wp2_with (first
      | (at_next; refine wpList_next_ranges _ rfl _ rfl 9 keyed fileElem Value.string (fun b : Nat => .pointer (some ⟨b, 0, none⟩)) (fun key kl hk => by obtain ⟨n, h1, _⟩ := key_inv hk; exact ⟨n, h1⟩) (fun v y hv => by obtain ⟨b, h1, _⟩ := fileElem_inv hv; exact ⟨b, h1⟩) m (w.heap.size + 1) c.length _ left cnt rfl HRG.out ?_ ?_))
    · intro _ hl0
      have HEQ := hid (rising_eq HO.out.rising HRS.out (fun p => by rw [HCP.out p]; simp [hl0]))
      clear hl0
      go_wp2
      go_ret
      exact ⟨w.heap.size, rfl, by rw [← HEQ.out]; exact HO.out, Nat.le_refl _, HB.out⟩
    · intro x b kl y1 y2 w1 cnt1 hkey hleft hR hat hrg1 hlt hg1 hs1 hen
      obtain ⟨x', hx', rfl, hxs⟩ := key_inv hkey
      obtain rfl : x = x' := by simpa using hx'
      obtain ⟨i, hgi, hb⟩ : ∃ i, dget c x = some i ∧ fb i = b := by
        have hy : y1 = .lit (.int .i64 b) := by
          rw [fileElem_mk] at hR
          exact (congrArg Prod.fst (Option.some.inj hR)).symm
        have h1 := hat .nil
        rw [dirD_at, hy] at h1
        cases hg : dget c x with
        | none => rw [hg] at h1; cases h1
        | some i =>
          rw [hg] at h1
          simp only [DataW.lit.injEq, Lit.int.injEq, true_and] at h1
          exact ⟨i, rfl, by omega⟩
      subst hb
      have HXS := hid hxs
      have HCP1 := hid (HCP.out.next HRS.out hgi hleft)
      have hne := HRG.out.ne
      have HO1 := hid (HO.out.move (hg1.block _ (by have := HRG.out.lt; omega) (by simp)))
      have HB1 := hid (HB.out.grown hg1 HB.out.size (fun j hj => by injection hj with hj; omega))
      have HROOM := hid (show o.length < maxLen from Nat.lt_of_le_of_lt (Nat.le_trans (HCP.out.len HO.out.rising) HL.out) (by decide +kernel))
      have HEND := hid (show ∀ w2, w1.mapTurned w2 w.heap.size → w2.ranges Try.prog 9 fileElem m (w.heap.size + 1) c.length (dirD fb c) (fun z => left z && !z.sameKey (keyL x)) cnt1 ∧ w2.rangeLeft m (w.heap.size + 1) < wr.rangeLeft m (w.heap.size + 1) ∧ Below w.heap.size w w2 from fun w2 ht => by
        have hg := ht.grown
        have := hrg1.kept hg (by have := HM.out; simp; omega) (by simp)
        exact ⟨this, by rw [this.left_eq, HRG.out.left_eq]; exact hlt, HB1.out.grown hg HB1.out.size (fun j hj => by injection hj with hj; omega)⟩)
      clear hR hat hrg1 hlt hg1 hs1 hx' hkey hleft hgi hne hxs
      go_wp2_with (first
        | (at_mapUpdate; refine wpList_put_dir _ rfl (.tmp 14) (.tmp 15) (.tmp 16) rfl w.heap.size fb o x i rfl rfl rfl HO1.out HXS.out HROOM.out ?_; intro w2 hd2 ht2; have HD2 := hid hd2; have HE2 := hid (HEND.out w2 ht2); clear hd2 ht2))
      go_roundw
      case rel => exact ⟨_, _, _, _, _, _, _, _, _, _, ⟨_, cnt1, _, HE2.out.1, HCP1.out, HD2.out, HE2.out.2.2⟩, rfl⟩
      case measure => exact HE2.out.2.1
end Go.Proofs.Ytfkgpmidcbjlbaa.H
end
section
set_option linter.unusedVariables false
set_option linter.unusedSimpArgs false
/- simdisk: SyncDir. -/
namespace Go.Proofs.Ytfkgpmidcbjlbaa.H
open Go.RowKit Go.Proofs.Ytfkgpmidcbjlbaa.U Go.Proofs.YtfkgpmidcbjlbaaW.PrintWords Go.Proofs.Ytfkgpmidcbjlbaa.P

/-- the durable directory is another map -/
theorem Disk.turnDur {w w' : World} {d : Nat} {σ : St} {S : Nat → Prop} {fb : Nat → Nat} {fv : Nat → Value} {mc md : Nat} {pv : Value} (h : Disk w d σ S fb fv mc md pv) (hs : w.heap.size ≤ w'.heap.size) (hm : ∀ k, S k → k ≠ d → w'.heap[k]? = w.heap[k]?) (mo : Nat) (hle : w.heap.size ≤ mo) (c : Dir) (hc : HasDir w' mo fb c)
    (hb : w'.heap[d]? = some (.cells #[.map (some mc), .map (some mo), pv, .bool σ.lim, .int .i64 σ.left] 79 (0, 0))) :
    Disk w' d { σ with dur := c } (fun k => S k ∨ (w.heap.size ≤ k ∧ k < w'.heap.size)) fb fv mc mo pv where
  blk := hb
  cur := h.cur.move (hm mc h.sc (h.ne_cur h.blk).symm)
  dur := hc
  ne := by have := h.lt mc h.sc; omega
  pend := row_move h.pend (fun j hj => hm j (h.sp j hj) (by obtain ⟨c, hc⟩ := h.pend_ty hj; exact ne_type hc h.blk (by decide)))
  file := fun i f hf => (hm _ (h.sf i (List.getElem?_eq_some_iff.1 hf).1) (ne_type (h.file i f hf) h.blk (by decide))).trans (h.file i f hf)
  row := fun i f hf => row_move (h.row i f hf) (fun j hj => hm j (h.sv i j (List.getElem?_eq_some_iff.1 hf).1 hj) (by obtain ⟨c, hc⟩ := h.row_ty (List.getElem?_eq_some_iff.1 hf).1 hj; exact ne_type hc h.blk (by decide)))
  inj := h.inj
  apart := h.apart
  sd := .inl h.sd
  sc := .inl h.sc
  sr := .inr ⟨hle, hc.lt⟩
  sp := fun k hk => .inl (h.sp k hk)
  sf := fun i hi => .inl (h.sf i hi)
  sv := fun i k hi hk => .inl (h.sv i k hi hk)
  lt := fun k hk => by
    rcases hk with hk | hk
    · exact Nat.lt_of_lt_of_le (h.lt k hk) hs
    · exact hk.2
def syncDirS (σ : St) : St × Int := if beginS σ [] = 0 then (doneS { σ with dur := σ.cur, pend := [] }, 0) else (σ, beginS σ [])
theorem begin_none {d : Nat} {σ : St} {S : Nat → Prop} {w : World} (h : DiskAt w d σ S) :
    Calls Try.prog 67 #[.pointer (some ⟨d, 0, none⟩), .slice none 0 0] w fun e w' => e = .returned (.int .i64 (beginS σ [])) ∧ Below w.heap.size w w' :=
  (begin_calls d σ S none 0 [] w h (Kd.C_nil _ _) (Nat.le_refl _)).mono (fun e w' ⟨h1, h2⟩ => ⟨h1, h2.below⟩)
/-- both fields written -/
theorem syncDir_moved {d : Nat} {σ : St} {S : Nat → Prop} {fb : Nat → Nat} {fv : Nat → Value} {mc md : Nat} {pv : Value} {w w2 : World} (h : Disk w d σ S fb fv mc md pv) {mo : Nat} (hc : HasDir w2 mo fb σ.cur) (hle : w.heap.size ≤ mo) (hb : Below w.heap.size w w2) :
    Moved w ((w2.setCell ⟨d, 1, none⟩ (.map (some mo))).setCell ⟨d, 2, none⟩ (.slice none 0 0)) d { σ with dur := σ.cur, pend := [] } S := by
  have h2 := h.move hb.size (fun k hk => hb.block k (h.lt k hk))
  have hmd : mo ≠ d := by have := h.lt d h.sd; omega
  have b1 := heap_setCell_same w2 d 1 _ _ (.map (some mo)) h2.blk
  have h3 := h.turnDur (w' := w2.setCell ⟨d, 1, none⟩ (.map (some mo))) (by rw [setCell_size]; exact hb.size) (fun k hk hne => (heap_setCell_other _ _ _ _ hne).trans (hb.block k (h.lt k hk))) mo hle σ.cur (hc.move (heap_setCell_other _ _ _ _ hmd)) b1
  have h4 := h3.turnPend (w' := (w2.setCell ⟨d, 1, none⟩ (.map (some mo))).setCell ⟨d, 2, none⟩ (.slice none 0 0)) (by simp only [setCell_size]; exact Nat.le_refl _) (.slice none 0 0) (.inr (.inl (by simp [Value.ownBlock]))) (fun k _ hne _ => heap_setCell_other _ _ _ _ hne) (heap_setCell_same _ d 2 _ _ _ b1) [] (Kd.R_nil _ _ _ _ _)
  refine ⟨((hb.mono (Nat.zero_le _)).trans (below_setCell0 _ _ _)).trans (below_setCell0 _ _ _), ((Kept.of_below hb S).setCell (.inl h.sd) _).setCell (.inl h.sd) _, _, fun k hk => ?_, _, _, _, _, _, h4⟩
  rcases hk with (hk | hk) | hk
  · exact .inl hk
  · exact .inr hk.1
  · have := hk.1
    rw [setCell_size] at this
    have := hb.size
    exact .inr (by omega)
set_option maxRecDepth 100000 in
set_option maxHeartbeats 4000000 in
theorem syncDir_calls (d : Nat) (σ : St) (S : Nat → Prop) (w : World) (h : DiskAt w d σ S) (hl : σ.cur.length ≤ 1099511627776) :
    Calls Try.prog 54 #[.pointer (some ⟨d, 0, none⟩)] w fun e w' => e = .returned (.int .i64 (syncDirS σ).2) ∧ Moved w w' d (syncDirS σ).1 S := by
  have H := hid h
  have HB := hid (begin_none h)
  have HL := hid hl
  clear h hl
  unfold syncDirS
  by_cases hb : beginS σ [] = 0
  · rw [if_pos hb]
    rw [hb] at HB
    clear hb
    go_enter Try.func54, Try.ntmps54
    go_wp2_with (first
      | (go_at_call 67; refine HB.out.mono ?_; rintro e w1 ⟨rfl, hb1⟩; have HB1 := hid hb1; obtain ⟨fb, fv, mc, md, pv, hd1⟩ := H.out.below hb1; have HD1 := hid hd1; have c0 : w1.cell? ⟨d, 0, none⟩ = some (.map (some mc)) := cell_blk hd1.blk 0; clear hb1 hd1)
      | (go_at_call 43; refine (clone_dir mc fb σ.cur w1 HD1.out.cur HL.out).mono ?_; rintro e w2 ⟨mo, rfl, hc2, hle, hb2⟩; have hd2 := HD1.out.move hb2.size (fun k hk => hb2.block k (HD1.out.lt k hk)); have e1 : w2.cell? ⟨d, 1, none⟩ = some (.map (some md)) := cell_blk hd2.blk 1; have f1 := frozen_of_row w2 d 1 _ _ hd2.blk; have b1 := heap_setCell_same w2 d 1 _ _ (.map (some mo)) hd2.blk; have e2 : (w2.setCell ⟨d, 1, none⟩ (.map (some mo))).cell? ⟨d, 2, none⟩ = some pv := cell_blk b1 2; have f2 := frozen_of_row _ d 2 _ _ b1; have HMV := hid (syncDir_moved HD1.out hc2 hle hb2); clear hc2 hle hb2 hd2 b1)
      | (go_at_call 68; obtain ⟨mb, mk, S1, hs1, hd3⟩ := HMV.out; refine (done_calls d _ S1 _ hd3).mono ?_; rintro e w3 ⟨rfl, hm⟩; have HM2 := hid (moved_two HB1.out mb mk hs1 hm); clear hm mb mk hs1 hd3))
    go_ret
    exact ⟨rfl, HM2.out⟩
  · rw [if_neg hb]
    have hbb : (beginS σ [] != 0) = true := by simpa using hb
    generalize beginS σ [] = r at HB hbb
    clear hb
    go_enter Try.func54, Try.ntmps54
    go_wp2_with (go_at_call 67; refine HB.out.mono ?_; rintro e w1 ⟨rfl, hb1⟩; have HB1 := hid hb1; clear hb1)
    go_ret
    exact ⟨rfl, Moved.stay H.out HB1.out⟩
end Go.Proofs.Ytfkgpmidcbjlbaa.H
end
section
set_option linter.unusedVariables false
set_option linter.unusedSimpArgs false
/- The disk behind a power failure, as a plain function; what holds of every state. -/
namespace Go.Proofs.Ytfkgpmidcbjlbaa.H
open Go.RowKit Go.Proofs.Ytfkgpmidcbjlbaa.U Go.Proofs.YtfkgpmidcbjlbaaW.PrintWords

/-- what a power failure leaves of a file -/
def keptN (f : Fl) (n : Int) : Nat := (min (max 0 n) ((f.data.length : Int) - f.dur)).toNat
def tornL (l : List Int) : List Int := l.set (l.length - 1) (Go.bits .xor .u8 (l.getD (l.length - 1) 0) 255)
def leftF (f : Fl) (x : Int × Bool) : Fl :=
  let b := f.data.take (f.dur + keptN f x.1)
  let c := if x.2 = true ∧ 0 < keptN f x.1 then tornL b else b
  ⟨c, c.length⟩
def cutDir (σ : St) (n : Int) : Dir := (σ.pend.take (min (max 0 n) (σ.pend.length : Int)).toNat).foldl applyS σ.dur
def leftFs (σ : St) (xs : List (Int × Bool)) (c : Dir) : List Fl := c.mapIdx fun i p => leftF (fileAt σ p.2) (xs.getD i (0, false))
def numDir (c : Dir) : Dir := c.mapIdx fun i p => (p.1, i)
def crashS (σ : St) (n : Int) (xs : List (Int × Bool)) : St :=
  ⟨leftFs σ xs (cutDir σ n), numDir (cutDir σ n), numDir (cutDir σ n), [], false, σ.left⟩

/-- what holds of every state, with a bound N on all that is counted -/
structure St.Good (σ : St) (N : Nat) : Prop where
  ok : σ.Ok
  cur : σ.cur.length ≤ N
  dur : σ.dur.length ≤ N
  pend : σ.pend.length ≤ N
  pname : ∀ o ∈ σ.pend, ∀ n ∈ o.names, n.size ≤ 64
  file : ∀ f ∈ σ.files, f.dur ≤ f.data.length ∧ f.data.length ≤ N ∧ Bytes f.data
theorem dins_len (x : ByteArray × Nat) (d : Dir) : (dins x d).length = d.length + 1 := by
  induction d with
  | nil => rfl
  | cons y r ih =>
    unfold dins
    split
    · rfl
    · rw [List.length_cons, ih]; rfl
theorem ddel_len (d : Dir) (n : ByteArray) : (ddel d n).length ≤ d.length := List.length_filter_le _ _
theorem dput_len (d : Dir) (n : ByteArray) (i : Nat) : (dput d n i).length ≤ d.length + 1 := by
  unfold dput
  rw [dins_len]
  have := ddel_len d n
  omega
theorem applyS_len (c : Dir) (o : Opn) : (applyS c o).length ≤ c.length + 1 := by
  cases o with
  | create n i => exact dput_len _ _ _
  | rename a b =>
    simp only [applyS]
    split
    · have := dput_len (ddel c a) b ‹_›
      have := ddel_len c a
      omega
    · omega
  | remove a =>
    have := ddel_len c a
    simp only [applyS]; omega
theorem mem_ddel {d : Dir} {n : ByteArray} {p : ByteArray × Nat} (h : p ∈ ddel d n) : p ∈ d := (List.mem_filter.1 h).1
/-- the numbers that stand in a directory -/
theorem applyS_idx {c : Dir} {o : Opn} {M : Nat} (h : ∀ p ∈ c, p.2 < M) (ho : ∀ n i, o = .create n i → i < M) : ∀ p ∈ applyS c o, p.2 < M := by
  intro p hp
  cases o with
  | create n i =>
    rcases (mem_dput c n i p).1 hp with rfl | ⟨h1, _⟩
    · exact ho n i rfl
    · exact h p h1
  | rename a b =>
    simp only [applyS] at hp
    split at hp
    · rename_i i hi
      rcases (mem_dput _ b i p).1 hp with rfl | ⟨h1, _⟩
      · exact h (a, i) (dget_mem hi)
      · exact h p (mem_ddel h1)
    · exact h p hp
  | remove a => exact h p (mem_ddel hp)
theorem foldl_idx {M : Nat} (os : List Opn) (ho : ∀ n i, Opn.create n i ∈ os → i < M) : ∀ c : Dir, (∀ p ∈ c, p.2 < M) → ∀ p ∈ os.foldl applyS c, p.2 < M := by
  induction os with
  | nil => exact fun c h => h
  | cons o r ih => exact fun c h => ih (fun n i hm => ho n i (by simp [hm])) (applyS c o) (applyS_idx h (fun n i e => ho n i (by simp [e])))
theorem cutDir_idx {σ : St} (ok : σ.Ok) (n : Int) : ∀ p ∈ cutDir σ n, p.2 < σ.files.length :=
  foldl_idx _ (fun m i hm => ok.pend m i (List.mem_of_mem_take hm)) _ ok.dur
theorem dget_of_mem {c : Dir} (hr : Rising c) {p : ByteArray × Nat} (hp : p ∈ c) : dget c p.1 = some p.2 := by
  have : (dget c p.1).isSome = true := mem_names.1 (List.mem_map.2 ⟨p, hp, rfl⟩)
  obtain ⟨i, hi⟩ := Option.isSome_iff_exists.1 this
  have := dget_unique hr hi p hp rfl
  rw [hi, this]
def cfRow (x : Int × Bool) : List Value := [.int .i64 x.1, .bool x.2]
end Go.Proofs.Ytfkgpmidcbjlbaa.H
end
section
set_option linter.unusedVariables false
set_option linter.unusedSimpArgs false
/- simdisk: Crash; the new files, one by one. -/
namespace Go.Proofs.Ytfkgpmidcbjlbaa.H
open Go.RowKit Go.Proofs.Ytfkgpmidcbjlbaa.U Go.Proofs.YtfkgpmidcbjlbaaW.PrintWords Go.Proofs.Ytfkgpmidcbjlbaa.P

/-- the first i files of the new disk are laid -/
structure Part (B : Nat) (wr : World) (ma : Nat) (i : Nat) (c : Dir) (fs : List Fl) (fb : Nat → Nat) (fv : Nat → Value) (o : Dir) : Prop where
  dirm : HasDir wr ma fb o
  mem : ∀ p, p ∈ o ↔ p ∈ (numDir c).take i
  len : fs.length = i
  file : ∀ j f, fs[j]? = some f → wr.heap[fb j]? = some (.cells #[fv j, .int .i64 (f.dur : Nat)] 94 (0, 0))
  row : ∀ j f, fs[j]? = some f → (Kd.int .u8).R 5 wr 0 (fun k => some k = (fv j).ownBlock) (fv j) f.data
  inj : ∀ x y, x < i → y < i → fb x = fb y → x = y
  apart : ∀ x y k, x < i → y < i → (fv x).ownBlock = some k → (fv y).ownBlock = some k → x = y
  new : ∀ j, j < i → B ≤ fb j ∧ fb j < wr.heap.size
  newv : ∀ j k, j < i → (fv j).ownBlock = some k → B ≤ k ∧ k < wr.heap.size
theorem numDir_at (c : Dir) (i : Nat) (hi : i < c.length) : (numDir c)[i]? = some (c[i].1, i) := by
  unfold numDir
  rw [List.getElem?_mapIdx, List.getElem?_eq_getElem hi]; rfl
theorem numDir_len (c : Dir) : (numDir c).length = c.length := List.length_mapIdx
theorem numDir_take (c : Dir) (i : Nat) (hi : i < c.length) : (numDir c).take (i + 1) = (numDir c).take i ++ [(c[i].1, i)] := by
  rw [List.take_succ_eq_append_getElem (by rw [numDir_len]; exact hi)]
  have := numDir_at c i hi
  rw [List.getElem?_eq_getElem (by rw [numDir_len]; exact hi)] at this
  rw [Option.some.inj this]
theorem Part.start (w : World) (B ma : Nat) (c : Dir) (fb : Nat → Nat) (h : HasDir w ma fb []) : Part B w ma 0 c [] fb (fun _ => .slice none 0 0) [] where
  dirm := h
  mem := by simp
  len := rfl
  file := by simp
  row := by simp
  inj := by simp
  apart := by simp
  new := by simp
  newv := by simp
theorem Part.move {B : Nat} {wr w' : World} {ma i : Nat} {c : Dir} {fs : List Fl} {fb : Nat → Nat} {fv : Nat → Value} {o : Dir} (h : Part B wr ma i c fs fb fv o) (hb : Below wr.heap.size wr w') : Part B w' ma i c fs fb fv o where
  dirm := h.dirm.move (hb.block _ h.dirm.lt)
  mem := h.mem
  len := h.len
  file := fun j f hf => (hb.block _ (h.new j (h.len ▸ (List.getElem?_eq_some_iff.1 hf).1)).2).trans (h.file j f hf)
  row := fun j f hf => row_move (h.row j f hf) (fun k hk => hb.block _ (h.newv j k (h.len ▸ (List.getElem?_eq_some_iff.1 hf).1) hk).2)
  inj := h.inj
  apart := h.apart
  new := fun j hj => ⟨(h.new j hj).1, Nat.lt_of_lt_of_le (h.new j hj).2 hb.size⟩
  newv := fun j k hj hk => ⟨(h.newv j k hj hk).1, Nat.lt_of_lt_of_le (h.newv j k hj hk).2 hb.size⟩
theorem map_ne_cells {w : World} {m : Nat} {fb : Nat → Nat} {d : Dir} (h : HasDir w m fb d) {k : Nat} {c : Array Value} {t : TypeId} {f : Nat × Nat} (hk : w.heap[k]? = some (.cells c t f)) : k ≠ m := by
  rintro rfl
  obtain ⟨es, cl, hb, _⟩ := h
  rw [hb] at hk; cases hk
theorem Part.step {B : Nat} {w5 w7 : World} {ma i : Nat} {c : Dir} {fs : List Fl} {fb : Nat → Nat} {fv : Nat → Value} {o : Dir} (h : Part B w5 ma i c fs fb fv o) (hi : i < c.length) (hr : Rising c) (f : Fl) (v5 : Value)
    (hrow : (Kd.int .u8).R 5 w5 0 (fun k => some k = v5.ownBlock) v5 f.data) (hfr : ∀ k, v5.ownBlock = some k → B ≤ k ∧ ∀ j, j < i → (fv j).ownBlock ≠ some k) (hB : B ≤ w5.heap.size)
    (ht : (w5.alloc (.cells #[v5, .int .i64 (f.dur : Nat)] 94)).mapTurned w7 ma) (hd : HasDir w7 ma (fun j => if j = i then w5.heap.size else fb j) (dput o c[i].1 i)) :
    Part B w7 ma (i + 1) c (fs ++ [f]) (fun j => if j = i then w5.heap.size else fb j) (fun j => if j = i then v5 else fv j) (dput o c[i].1 i) := by
  have hg := ht.grown
  have h6 := h.move (w' := w5.alloc (.cells #[v5, .int .i64 (f.dur : Nat)] 94)) ((Below.refl _ _).alloc (Nat.le_refl _) _)
  have hs6 : (w5.alloc (.cells #[v5, .int .i64 (f.dur : Nat)] 94)).heap.size = w5.heap.size + 1 := by simp
  have hs7 : w5.heap.size + 1 ≤ w7.heap.size := by have := hg.size; omega
  have hsame : ∀ (k : Nat) (cs : Array Value) (t : TypeId) (fr : Nat × Nat), (w5.alloc (.cells #[v5, .int .i64 (f.dur : Nat)] 94)).heap[k]? = some (Obj.cells cs t fr) → w7.heap[k]? = some (Obj.cells cs t fr) := fun k cs t fr hk => by
    rw [hg.block k (Array.getElem?_eq_some_iff.1 hk).1 (fun e => map_ne_cells h6.dirm hk (Option.some.inj e))]
    exact hk
  have hidx : ∀ j g, (fs ++ [f])[j]? = some g → (j = i ∧ g = f) ∨ (j ≠ i ∧ j < i ∧ fs[j]? = some g) := fun j g hg => by
    have hl := (List.getElem?_eq_some_iff.1 hg).1
    rw [List.length_append, h.len] at hl
    simp only [List.length_cons, List.length_nil] at hl
    by_cases e : j = i
    · subst e
      rw [List.getElem?_append_right (by rw [h.len]; exact Nat.le_refl _), h.len, Nat.sub_self] at hg
      exact .inl ⟨rfl, (Option.some.inj hg).symm⟩
    · rw [List.getElem?_append_left (by rw [h.len]; omega)] at hg
      exact .inr ⟨e, by omega, hg⟩
  exact {
    dirm := hd
    mem := fun p => by
      rw [mem_dput, h.mem p, numDir_take c i hi, List.mem_append, List.mem_singleton]
      constructor
      · rintro (h1 | ⟨h1, _⟩)
        · exact .inr h1
        · exact .inl h1
      · rintro (h1 | h1)
        · refine .inr ⟨h1, fun e => ?_⟩
          obtain ⟨x, hx, ex⟩ := List.mem_iff_getElem.1 h1
          rw [List.length_take, numDir_len] at hx
          have hx2 := numDir_at c x (by omega)
          rw [List.getElem_take] at ex
          rw [List.getElem?_eq_getElem (by rw [numDir_len]; omega)] at hx2
          have ep : p = (c[x].1, x) := ex.symm.trans (Option.some.inj hx2)
          have := List.pairwise_iff_getElem.1 hr.pairwise x i (by omega) hi (by omega)
          rw [show c[x].1 = c[i].1 from by rw [← e, ep], WideAt.bytes_irrefl] at this
          cases this
        · exact .inl h1
    len := by rw [List.length_append, h.len]; rfl
    file := fun j g hgj => by
      rcases hidx j g hgj with ⟨rfl, rfl⟩ | ⟨e, hlt, hgj⟩
      · simp only [if_true]; exact hsame _ _ _ _ (heap_alloc_new _ _)
      · simp only [if_neg e]; exact hsame _ _ _ _ (h6.file j g hgj)
    row := fun j g hgj => by
      have mv : ∀ {v : Value} {xs : List Int}, (Kd.int .u8).R 5 (w5.alloc (.cells #[v5, .int .i64 (f.dur : Nat)] 94)) 0 (fun k => some k = v.ownBlock) v xs → (Kd.int .u8).R 5 w7 0 (fun k => some k = v.ownBlock) v xs := fun {v xs} hv => row_move hv (fun k hk => by
        obtain ⟨cs, hcs⟩ := row_typed hv hk
        rw [hcs]; exact hsame _ _ _ _ hcs)
      rcases hidx j g hgj with ⟨rfl, rfl⟩ | ⟨e, hlt, hgj⟩
      · simp only [if_true]
        exact mv (row_move hrow (fun k hk => Below.heap_alloc _ _ _ (Kd.N_lt (Kd.R_N hrow) k hk)))
      · simp only [if_neg e]; exact mv (h6.row j g hgj)
    inj := fun x y hx hy he => by
      by_cases ex : x = i
      · by_cases ey : y = i
        · rw [ex, ey]
        · rw [if_pos ex, if_neg ey] at he
          have := (h.new y (by omega)).2; omega
      · by_cases ey : y = i
        · rw [if_neg ex, if_pos ey] at he
          have := (h.new x (by omega)).2; omega
        · rw [if_neg ex, if_neg ey] at he
          exact h.inj x y (by omega) (by omega) he
    apart := fun x y k hx hy hkx hky => by
      by_cases ex : x = i
      · by_cases ey : y = i
        · rw [ex, ey]
        · rw [if_pos ex] at hkx; rw [if_neg ey] at hky
          exact absurd hky ((hfr k hkx).2 y (by omega))
      · by_cases ey : y = i
        · rw [if_neg ex] at hkx; rw [if_pos ey] at hky
          exact absurd hkx ((hfr k hky).2 x (by omega))
        · rw [if_neg ex] at hkx; rw [if_neg ey] at hky
          exact h.apart x y k (by omega) (by omega) hkx hky
    new := fun j hj => by
      by_cases e : j = i
      · rw [if_pos e]; exact ⟨hB, by omega⟩
      · rw [if_neg e]
        have := h.new j (by omega)
        exact ⟨this.1, by omega⟩
    newv := fun j k hj hk => by
      by_cases e : j = i
      · rw [if_pos e] at hk
        exact ⟨(hfr k hk).1, by have := Kd.N_lt (Kd.R_N hrow) k hk; omega⟩
      · rw [if_neg e] at hk
        have := h.newv j k (by omega) hk
        exact ⟨this.1, by omega⟩ }
end Go.Proofs.Ytfkgpmidcbjlbaa.H
end
section
set_option linter.unusedVariables false
set_option linter.unusedSimpArgs false
/- simdisk: Crash; lemmas for the second loop. -/
namespace Go.Proofs.Ytfkgpmidcbjlbaa.H
open Go.RowKit Go.Proofs.Ytfkgpmidcbjlbaa.U Go.Proofs.YtfkgpmidcbjlbaaW.PrintWords Go.Proofs.YtfkgpmidcbjlbaaW.PrintMore Go.Proofs.YtfkgpmidcbjlbaaW.PrintLast Go.Proofs.Ytfkgpmidcbjlbaa.P

theorem HasDir.key_le {w : World} {m : Nat} {fb : Nat → Nat} {d : Dir} (h : HasDir w m fb d) {p : ByteArray × Nat} (hp : p ∈ d) : p.1.size ≤ maxLen := by
  obtain ⟨es, clock, hb, F, hs, hD⟩ := h
  unfold dirD at hD
  rw [DataW.map.injEq] at hD
  have hm : entL fb p ∈ d.map (entL fb) := List.mem_map.2 ⟨p, hp, rfl⟩
  rw [hD] at hm
  obtain ⟨v, hv⟩ := Go.Maps.fit_keys F _ (mem_sorted.1 hm)
  obtain ⟨n, _, hk, hn⟩ := key_inv hv
  rw [show p.1 = n from keyL_inj hk]
  exact hn
theorem leftF_len (f : Fl) (x : Int × Bool) : (leftF f x).dur = (leftF f x).data.length := rfl
theorem leftFs_take (σ : St) (xs : List (Int × Bool)) (c : Dir) (i : Nat) (hi : i < c.length) : (leftFs σ xs c).take (i + 1) = (leftFs σ xs c).take i ++ [leftF (fileAt σ c[i].2) (xs.getD i (0, false))] := by
  have hl : i < (leftFs σ xs c).length := by unfold leftFs; rw [List.length_mapIdx]; exact hi
  rw [List.take_succ_eq_append_getElem hl]
  have : (leftFs σ xs c)[i]? = some (leftF (fileAt σ c[i].2) (xs.getD i (0, false))) := by
    unfold leftFs
    rw [List.getElem?_mapIdx, List.getElem?_eq_getElem hi]; rfl
  rw [List.getElem?_eq_getElem hl] at this
  rw [Option.some.inj this]
theorem leftFs_len (σ : St) (xs : List (Int × Bool)) (c : Dir) : (leftFs σ xs c).length = c.length := List.length_mapIdx
/-- behind a round -/
theorem crash_next {w wq w5 w7 : World} {ma mo i : Nat} {σ : St} {xs : List (Int × Bool)} {c : Dir} {fb fb2 : Nat → Nat} {fv2 : Nat → Value} {o : Dir} {An : Option Addr} {nn cn : Nat} (h : Part w.heap.size wq ma i c ((leftFs σ xs c).take i) fb2 fv2 o) (hi : i < c.length) (hr : Rising c) (f : Fl) {fi : Nat} {nm : ByteArray} (hci : c[i] = (nm, fi)) {x : Int × Bool} (hx : xs.getD i (0, false) = x) (hf : f = leftF (fileAt σ fi) x) (v5 : Value) (X D : Nat) (hX : X = w5.heap.size) (hD : D = f.dur)
    (hb5 : Below wq.heap.size wq w5) (hbq : Below w.heap.size w wq) (hrow : (Kd.int .u8).R 5 w5 wq.heap.size (fun _ => True) v5 f.data)
    (hmq : HasDir wq mo fb c) (hne : mo ≠ ma) (hma : w.heap.size ≤ ma) (hnr : Kd.R Kd.string 9 wq 0 (fun _ => True) (.slice An nn cn) (c.map (·.1)))
    (ht : (w5.alloc (.cells #[v5, .int .i64 (D : Nat)] 94)).mapTurned w7 ma) (hd : HasDir w7 ma (fun j => if j = i then X else fb2 j) (dput o nm i)) :
    Part w.heap.size w7 ma (i + 1) c ((leftFs σ xs c).take (i + 1)) (fun j => if j = i then X else fb2 j) (fun j => if j = i then v5 else fv2 j) (dput o nm i) ∧ HasDir w7 mo fb c ∧ Kd.R Kd.string 9 w7 0 (fun _ => True) (.slice An nn cn) (c.map (·.1)) ∧ Below w.heap.size w w7 := by
  have h5 := h.move hb5
  subst hX hD hx
  have hg := ht.grown
  have hn1 : nm = c[i].1 := (congrArg Prod.fst hci).symm
  have hn2 : fi = c[i].2 := (congrArg Prod.snd hci).symm
  subst hn1 hn2
  have hs6 : (w5.alloc (.cells #[v5, .int .i64 (f.dur : Nat)] 94)).heap.size = w5.heap.size + 1 := by simp
  have hb6 : Below wq.heap.size wq (w5.alloc (.cells #[v5, .int .i64 (f.dur : Nat)] 94)) := hb5.alloc hb5.size _
  have hsame : ∀ k, k < wq.heap.size → k ≠ ma → w7.heap[k]? = wq.heap[k]? := fun k hk hka => by
    rw [hg.block k (by have := hb5.size; omega) (fun e => hka (Option.some.inj e)), hb6.block k hk]
  rw [leftFs_take σ xs c i hi, ← hf]
  refine ⟨h5.step hi hr f v5 ?_ ?_ (Nat.le_trans hbq.size hb5.size) ht hd, hmq.move (hsame mo hmq.lt hne), ?_, ?_⟩
  · exact Kd.R_lower (Kd.R_tight rfl hrow) (Nat.zero_le _)
  · intro k hk
    have := Kd.N_base (Kd.R_N hrow) k hk
    exact ⟨Nat.le_trans hbq.size this, fun j hj e => by have := (h.newv j k hj e).2; omega⟩
  · refine row_same rfl hnr (fun j hj => hsame j (Kd.N_lt (Kd.R_N hnr) j hj) ?_)
    rintro rfl
    obtain ⟨es, cl, hb, _⟩ := h.dirm
    exact row_ne hnr hb (by simp) hj.symm
  · exact (hbq.trans (hb6.mono hbq.size)).grown hg (Nat.le_trans hbq.size hb6.size) (fun j hj => by injection hj with hj; omega)
theorem Part.congr {B : Nat} {wq w6 : World} {ma i : Nat} {c : Dir} {fs : List Fl} {fb2 : Nat → Nat} {fv2 : Nat → Value} {o : Dir} (h : Part B wq ma i c fs fb2 fv2 o) (hb : Below wq.heap.size wq w6) (x : Nat) : HasDir w6 ma (fun j => if j = i then x else fb2 j) o := by
  refine (h.dirm.move (hb.block _ h.dirm.lt)).congr (fun p hp => ?_)
  have := (h.mem p).1 hp
  have hlt : p.2 < i := by
    obtain ⟨y, hy, ey⟩ := List.mem_iff_getElem.1 this
    rw [List.length_take, numDir_len] at hy
    have hx2 := numDir_at c y (by omega)
    rw [List.getElem_take] at ey
    rw [List.getElem?_eq_getElem (by rw [numDir_len]; omega)] at hx2
    rw [← ey, Option.some.inj hx2]
    show y < i
    omega
  rw [if_neg (by omega)]
theorem Part.len_le {B : Nat} {wq : World} {ma i : Nat} {c : Dir} {fs : List Fl} {fb2 : Nat → Nat} {fv2 : Nat → Value} {o : Dir} (h : Part B wq ma i c fs fb2 fv2 o) : o.length ≤ c.length := by
  have := nodup_sub_len (o.map (·.1)) (c.map (·.1)) h.dirm.rising.nodup (fun n hn => by
    obtain ⟨p, hp, rfl⟩ := List.mem_map.1 hn
    have := List.mem_of_mem_take ((h.mem p).1 hp)
    unfold numDir at this
    obtain ⟨j, hj, e⟩ := List.mem_mapIdx.1 this
    exact List.mem_map.2 ⟨c[j], List.getElem_mem hj, by rw [← e]⟩)
  simpa using this
theorem Part.room {B : Nat} {wq : World} {ma i : Nat} {c : Dir} {fs : List Fl} {fb2 : Nat → Nat} {fv2 : Nat → Value} {o : Dir} (h : Part B wq ma i c fs fb2 fv2 o) (hl : c.length ≤ 1099511627776) : o.length < maxLen := by
  have := nodup_sub_len (o.map (·.1)) (c.map (·.1)) h.dirm.rising.nodup (fun n hn => by
    obtain ⟨p, hp, rfl⟩ := List.mem_map.1 hn
    have := List.mem_of_mem_take ((h.mem p).1 hp)
    unfold numDir at this
    obtain ⟨j, hj, e⟩ := List.mem_mapIdx.1 this
    exact List.mem_map.2 ⟨c[j], List.getElem_mem hj, by rw [← e]⟩)
  simp only [List.length_map] at this
  exact Nat.lt_of_le_of_lt (Nat.le_trans this hl) (by decide +kernel)
/-- a kept piece, copied -/
theorem clone_piece {w wz : World} {σ : St} {d : Nat} {S : Nat → Prop} {fb : Nat → Nat} {fv : Nat → Value} {mc md : Nat} {pv : Value} (h : Disk w d σ S fb fv mc md pv) {fi : Nat} (hi : fi < σ.files.length) (hb : Below w.heap.size w wz) {A : Option Addr} {N c : Nat} (hfv : fv fi = .slice A N c) (hlen : (fileAt σ fi).data.length ≤ 1099511627776) {E : Nat} (hE : E ≤ (fileAt σ fi).data.length) :
    Calls Try.prog 46 #[.slice A E c] wz fun e w' => ∃ v0 : Value, e = .returned v0 ∧ Kd.R (Kd.int .u8) 5 w' wz.heap.size (fun _ => True) v0 ((fileAt σ fi).data.take E) ∧ Below wz.heap.size wz w' := by
  have hr := (h.move hb.size (fun k hk => hb.block k (h.lt k hk))).row fi _ (fileAt_some hi)
  rw [hfv] at hr
  have hc := Kd.C_take (Kd.R_reads' hr).2.2 hE
  have hl : ((fileAt σ fi).data.take E).length = E := by rw [List.length_take]; omega
  have := clone_bytes A c _ wz hc (by rw [hl]; omega)
  rw [hl] at this
  exact this
/-- the two cells of what is said about a file -/
theorem cf_cells {w : World} {xs : List (Int × Bool)} {A : Option Addr} (h : Kd.C (Kd.raw 2) w A xs.length (xs.map cfRow)) (j : Nat) (hj : j < xs.length) :
    ∃ ad, A = some ad ∧ (ad.add (j * 2)).block < w.heap.size ∧ w.cell? (ad.add (j * 2)) = some (.int .i64 (xs.getD j (0, false)).1) ∧ w.cell? ⟨(ad.add (j * 2)).block, (ad.add (j * 2)).off + 1, none⟩ = some (.bool (xs.getD j (0, false)).2) := by
  obtain ⟨ad, cs, hA2, hl, hK, hx⟩ := Kd.C_get h [] (j : Int) (by omega) (by omega)
  have hget : (xs.map cfRow).getD (j : Int).toNat [] = cfRow (xs.getD j (0, false)) := by
    rw [Int.toNat_natCast, List.getD_eq_getElem?_getD, List.getElem?_map, List.getD_eq_getElem?_getD, List.getElem?_eq_getElem hj]; rfl
  rw [hget] at hK
  have hcs : cs = cfRow (xs.getD j (0, false)) := hK.1
  subst hcs
  subst hA2
  have h0 := hx 0 _ rfl
  have h1 := hx 1 _ rfl
  rw [Int.toNat_natCast] at h0 h1
  have hlt := Kd.C_lt h (by omega) (by decide)
  refine ⟨ad, rfl, ?_, h0, ?_⟩
  · rw [add_block]; exact hlt
  · rw [← add_field _ _ 1 (by omega)]; exact h1
theorem leftF_plain (f : Fl) (a : Int) (t : Bool) (h : t = false ∨ keptN f a = 0) : (leftF f (a, t)).data = f.data.take (f.dur + keptN f a) := by
  show (if t = true ∧ 0 < keptN f a then _ else _) = _
  rw [if_neg (by rintro ⟨h1, h2⟩; rcases h with h | h; (rw [h] at h1; cases h1); omega)]
theorem leftF_torn (f : Fl) (a : Int) (h : 0 < keptN f a) : (leftF f (a, true)).data = tornL (f.data.take (f.dur + keptN f a)) := by
  show (if true = true ∧ 0 < keptN f a then _ else _) = _
  rw [if_pos ⟨rfl, h⟩]
/-- the last byte, turned -/
theorem torn_cell {w5 : World} {B : Nat} {A : Option Addr} {n c : Nat} {l : List Int} (h : Kd.R (Kd.int .u8) 5 w5 B (fun _ => True) (.slice A n c) l) (hn : 1 ≤ n) :
    ∃ g x, A = some ⟨g, 0, none⟩ ∧ B ≤ g ∧ g < w5.heap.size ∧ w5.cell? ⟨g, n - 1, none⟩ = some (.int .u8 x) ∧ w5.frozen? ⟨g, n - 1, none⟩ = false ∧ Kd.R (Kd.int .u8) 5 (w5.setCell ⟨g, n - 1, none⟩ (.int .u8 (Go.bits .xor .u8 x 255))) B (fun _ => True) (.slice A n c) (tornL l) := by
  have hl := (Kd.R_reads' h).1
  obtain ⟨g, cap, hv, hB, hlt, _⟩ := Kd.N_form (Kd.R_N h) (by omega)
  injection hv with hA _ _
  subst hA
  have h1 := Kd.R_celln 0 h ((n - 1 : Nat) : Int) (by omega) (by omega)
  have h2 := Kd.R_putn h ((n - 1 : Nat) : Int) (Go.bits .xor .u8 (rdOf 0 l ((n - 1 : Nat) : Int)) 255)
  rw [Int.toNat_natCast] at h1 h2
  refine ⟨g, rdOf 0 l ((n - 1 : Nat) : Int), rfl, hB, hlt, h1.1, h1.2, ?_⟩
  have e : tornL l = l.set (n - 1) (Go.bits .xor .u8 (rdOf 0 l ((n - 1 : Nat) : Int)) 255) := by
    unfold tornL rdOf
    rw [← hl, Int.toNat_natCast]
  rw [e]
  exact h2
theorem wpList_put_dirX (w : World) {ops : Array Oper} {rest : List Oper} {o : Oper} {a : Act} {Q : Exit → Act → World → Prop} (hg : o.guard = none) (m x v : Operand) (hop : o.op = Op.mapUpdate 76 m x v) (b : Nat) (X : Nat) (n : ByteArray) (hm : a.eval m = .map (some b)) (hx : a.eval x = .string n) (hv : a.eval v = .pointer (some ⟨X, 0, none⟩)) (fb : Nat → Nat) (d : Dir) (i : Nat) (hX : fb i = X)
    (h : HasDir w b fb d) (hn : n.size ≤ maxLen) (hroom : d.length < maxLen) (hK : ∀ w', HasDir w' b fb (dput d n i) → w.mapTurned w' b → wpList Try.prog ops Q rest (a.put o.dst undef) w') : wpList Try.prog ops Q (o :: rest) a w :=
  wpList_put_dir w hg m x v hop b fb d n i hm hx (hX ▸ hv) h hn hroom hK
theorem still_tail1 {P : Program} {id : Nat} {Q : Exit → Act → World → Prop} {a : Act} {w : World} {l : List Oper} (n : Nat) (hm : P.follows .mixedOrders = true) (hB : Region.lexTailB .any l.toArray n = true)
    (h : ∀ wd, Below w.heap.size w wd → wpStill P l.toArray wd (fun a' => wpList P l.toArray Q (l.drop n) a' wd) (l.take n) a) : (Code.region id l.toArray true).wp P Q a w :=
  wp_region_still_tail n hm hB (h w.drew (Below.refl _ _).drew)
end Go.Proofs.Ytfkgpmidcbjlbaa.H
end
section
set_option linter.unusedVariables false
set_option linter.unusedSimpArgs false
/- simdisk: Crash; the end. -/
namespace Go.Proofs.Ytfkgpmidcbjlbaa.H
open Go.RowKit Go.Proofs.Ytfkgpmidcbjlbaa.U Go.Proofs.YtfkgpmidcbjlbaaW.PrintWords Go.Proofs.Ytfkgpmidcbjlbaa.P

theorem rising_keys : ∀ a b : Dir, a.map (·.1) = b.map (·.1) → DataW.rising (a.map (entL id)) = DataW.rising (b.map (entL id))
  | [], [], _ => rfl
  | [], _ :: _, h => by cases h
  | _ :: _, [], h => by cases h
  | [x], [y], _ => rfl
  | [x], y :: z :: s, h => by simp at h
  | x :: z :: s, [y], h => by simp at h
  | x :: y :: r, x' :: y' :: r', h => by
    simp only [List.map_cons, List.cons.injEq] at h
    have ih := rising_keys (y :: r) (y' :: r') (by simp only [List.map_cons, List.cons.injEq]; exact h.2)
    simp only [List.map_cons] at ih ⊢
    unfold DataW.rising
    rw [ih]
    unfold entL
    rw [h.1, h.2.1]
theorem Rising.num {c : Dir} (h : Rising c) : Rising (numDir c) := by
  unfold Rising at h ⊢
  rw [rising_keys (numDir c) c ?_]
  · exact h
  · unfold numDir
    apply List.ext_getElem?
    intro i
    rw [List.getElem?_map, List.getElem?_mapIdx, List.getElem?_map]
    cases c[i]? <;> rfl
theorem crash_end {w wr w8 : World} {d : Nat} {σ : St} {S : Nat → Prop} {fb fb2 : Nat → Nat} {fv fv2 : Nat → Value} {mc md : Nat} {pv : Value} (H : Disk w d σ S fb fv mc md pv) {n : Int} {xs : List (Int × Bool)} {c o : Dir} (hc : cutDir σ n = c) {ma mo2 i : Nat} (hi : i = c.length)
    (hP : Part w.heap.size wr ma i c ((leftFs σ xs c).take i) fb2 fv2 o) (hma : w.heap.size ≤ ma) (hbr : Below w.heap.size w wr) (h8 : HasDir w8 mo2 fb2 o) (hle : wr.heap.size ≤ mo2) (hb8 : Below wr.heap.size wr w8) (hr : Rising c) :
    Moved w ((((w8.setCell ⟨d, 0, none⟩ (.map (some ma))).setCell ⟨d, 1, none⟩ (.map (some mo2))).setCell ⟨d, 2, none⟩ (.slice none 0 0)).setCell ⟨d, 3, none⟩ (.bool false)) d (crashS σ n xs) S := by
  subst hi
  have hbw : Below w.heap.size w w8 := hbr.trans (hb8.mono hbr.size)
  have hdlt := H.lt d H.sd
  have hP8 := hP.move hb8
  have ho : o = numDir c := rising_eq hP.dirm.rising hr.num (fun p => by rw [hP.mem p, List.take_of_length_le (by rw [numDir_len]; exact Nat.le_refl _)])
  subst ho
  have htk : (leftFs σ xs c).take c.length = leftFs σ xs c := List.take_of_length_le (by rw [leftFs_len]; exact Nat.le_refl _)
  rw [htk] at hP8
  have hfl : (leftFs σ xs c).length = c.length := leftFs_len σ xs c
  have b0 : w8.heap[d]? = some (.cells #[.map (some mc), .map (some md), pv, .bool σ.lim, .int .i64 σ.left] 79 (0, 0)) := (hbw.block d hdlt).trans H.blk
  have b1 := heap_setCell_same w8 d 0 _ _ (.map (some ma)) b0
  have b2 := heap_setCell_same _ d 1 _ _ (.map (some mo2)) b1
  have b3 := heap_setCell_same _ d 2 _ _ (.slice none 0 0) b2
  have b4 := heap_setCell_same _ d 3 _ _ (.bool false) b3
  have hs : ∀ k, k ≠ d → ((((w8.setCell ⟨d, 0, none⟩ (.map (some ma))).setCell ⟨d, 1, none⟩ (.map (some mo2))).setCell ⟨d, 2, none⟩ (.slice none 0 0)).setCell ⟨d, 3, none⟩ (.bool false)).heap[k]? = w8.heap[k]? := fun k hk =>
    (heap_setCell_other _ _ _ _ hk).trans ((heap_setCell_other _ _ _ _ hk).trans ((heap_setCell_other _ _ _ _ hk).trans (heap_setCell_other _ _ _ _ hk)))
  have hsz : ((((w8.setCell ⟨d, 0, none⟩ (.map (some ma))).setCell ⟨d, 1, none⟩ (.map (some mo2))).setCell ⟨d, 2, none⟩ (.slice none 0 0)).setCell ⟨d, 3, none⟩ (.bool false)).heap.size = w8.heap.size := by simp only [setCell_size]
  have hbelow : Below 0 w ((((w8.setCell ⟨d, 0, none⟩ (.map (some ma))).setCell ⟨d, 1, none⟩ (.map (some mo2))).setCell ⟨d, 2, none⟩ (.slice none 0 0)).setCell ⟨d, 3, none⟩ (.bool false)) := ((((hbw.mono (Nat.zero_le _)).trans (below_setCell0 _ _ _)).trans (below_setCell0 _ _ _)).trans (below_setCell0 _ _ _)).trans (below_setCell0 _ _ _)
  generalize ((((w8.setCell ⟨d, 0, none⟩ (.map (some ma))).setCell ⟨d, 1, none⟩ (.map (some mo2))).setCell ⟨d, 2, none⟩ (.slice none 0 0)).setCell ⟨d, 3, none⟩ (.bool false)) = w9 at b4 hs hsz hbelow
  clear b1 b2 b3
  refine ⟨hbelow, ⟨by rw [hsz]; exact hbw.size, fun k hk hS => ?_⟩, fun k => k = d ∨ (w.heap.size ≤ k ∧ k < w9.heap.size), fun k hk => ?_, fb2, fv2, ma, mo2, .slice none 0 0, ?_⟩
  · rw [hs k (fun e => hS (e ▸ H.sd)), hbw.block k hk]
  · rcases hk with rfl | hk
    · exact .inl H.sd
    · exact .inr hk.1
  · have hnew : ∀ k, w.heap.size ≤ k → w9.heap[k]? = w8.heap[k]? := fun k hk => hs k (by omega)
    unfold crashS
    rw [hc]
    exact {
      blk := b4
      cur := hP8.dirm.move (hnew _ hma)
      dur := h8.move (hnew _ (Nat.le_trans hbr.size hle))
      ne := by have := hP.dirm.lt; omega
      pend := Kd.R_nil _ _ _ _ _
      file := fun j f hf => (hnew _ (hP8.new j (hfl ▸ (List.getElem?_eq_some_iff.1 hf).1)).1).trans (hP8.file j f hf)
      row := fun j f hf => row_move (hP8.row j f hf) (fun k hk => hnew k (hP8.newv j k (hfl ▸ (List.getElem?_eq_some_iff.1 hf).1) hk).1)
      inj := fun a b ha hb => hP8.inj a b (hfl ▸ ha) (hfl ▸ hb)
      apart := fun a b k ha hb => hP8.apart a b k (hfl ▸ ha) (hfl ▸ hb)
      sd := .inl rfl
      sc := .inr ⟨hma, by rw [hsz]; exact hP8.dirm.lt⟩
      sr := .inr ⟨Nat.le_trans hbr.size hle, by rw [hsz]; exact h8.lt⟩
      sp := fun k hk => by simp [Value.ownBlock] at hk
      sf := fun j hj => .inr ⟨(hP8.new j (hfl ▸ hj)).1, by rw [hsz]; exact (hP8.new j (hfl ▸ hj)).2⟩
      sv := fun j k hj hk => .inr ⟨(hP8.newv j k (hfl ▸ hj) hk).1, by rw [hsz]; exact (hP8.newv j k (hfl ▸ hj) hk).2⟩
      lt := fun k hk => by
        rcases hk with rfl | hk
        · rw [hsz]; exact Nat.lt_of_lt_of_le hdlt hbw.size
        · exact hk.2 }
end Go.Proofs.Ytfkgpmidcbjlbaa.H
end
section
set_option linter.unusedVariables false
set_option linter.unusedSimpArgs false
/- simdisk: Crash. -/
namespace Go.Proofs.Ytfkgpmidcbjlbaa.H
open Go.RowKit Go.Proofs.Ytfkgpmidcbjlbaa.U Go.Proofs.YtfkgpmidcbjlbaaW.PrintWords Go.Proofs.YtfkgpmidcbjlbaaW.PrintMore Go.Proofs.YtfkgpmidcbjlbaaW.PrintLast Go.Proofs.Ytfkgpmidcbjlbaa.P
attribute [local go_sem] max2_int min2_int max_two min_two

/-- the four cells of a pending operation -/
theorem pend_cells {fb : Nat → Nat} {w : World} {ps : List Opn} {A : Option Addr} {n c : Nat} (h : (Kd.raw 4).R 89 w 0 (fun k => some k = (Value.slice A n c).ownBlock) (.slice A n c) (ps.map (opRow fb))) (j : Nat) (hj : j < ps.length) :
    ∃ g x0 x1 x2 x3, A = some ⟨g, 0, none⟩ ∧ opRow fb ps[j] = [x0, x1, x2, x3] ∧ g < w.heap.size ∧ w.cell? ⟨g, j * 4, none⟩ = some x0 ∧ w.cell? ⟨g, j * 4 + 1, none⟩ = some x1 ∧ w.cell? ⟨g, j * 4 + 2, none⟩ = some x2 ∧ w.cell? ⟨g, j * 4 + 3, none⟩ = some x3 := by
  have hn := (Kd.R_reads' h).1
  rw [List.length_map] at hn
  obtain ⟨g, cap, hv, _, hlt, _⟩ := Kd.N_form (Kd.R_N h) (by rw [List.length_map]; omega)
  injection hv with hA _ _
  obtain ⟨ad, cs, hA2, hl, hK, hx⟩ := Kd.C_get (Kd.R_reads' h).2.2 [] (j : Int) (by omega) (by rw [List.length_map]; omega)
  rw [hA] at hA2
  injection hA2 with hA2
  subst hA2
  have hget : (ps.map (opRow fb)).getD (j : Int).toNat [] = opRow fb ps[j] := by
    rw [Int.toNat_natCast, List.getD_eq_getElem?_getD, List.getElem?_map, List.getElem?_eq_getElem hj]; rfl
  rw [hget] at hK
  obtain ⟨x0, x1, x2, x3, hrow⟩ := opRow_four fb ps[j]
  have hcs : cs = [x0, x1, x2, x3] := hK.1.trans hrow
  subst hcs
  have e : ∀ i u, [x0, x1, x2, x3][i]? = some u → w.cell? ⟨g, j * 4 + i, none⟩ = some u := fun i u hu => by
    have := hx i u hu
    rw [Int.toNat_natCast, show (⟨g, 0, none⟩ : Addr).add (j * (Kd.raw 4).sz + i) = ⟨g, j * 4 + i, none⟩ from by
      show (⟨g, 0, none⟩ : Addr).add (j * 4 + i) = _
      simp only [Addr.add]
      split
      · next h => simp at h ⊢; try omega
      · simp] at this
    exact this
  exact ⟨g, x0, x1, x2, x3, hA, hrow, hlt, e 0 x0 rfl, e 1 x1 rfl, e 2 x2 rfl, e 3 x3 rfl⟩
theorem name_cell {w : World} {ok : Nat → Prop} {ns : List ByteArray} {A : Option Addr} {n c : Nat} (h : Kd.R Kd.string 9 w 0 ok (.slice A n c) ns) (j : Nat) (hj : j < ns.length) :
    ∃ g, A = some ⟨g, 0, none⟩ ∧ g < w.heap.size ∧ w.cell? ⟨g, j, none⟩ = some (.string ns[j]) := by
  have hn := (Kd.R_reads' h).1
  obtain ⟨g, cap, hv, _, hlt, _⟩ := Kd.N_form (Kd.R_N h) (by omega)
  injection hv with hA _ _
  obtain ⟨ad, cs, hA2, hl, hK, hx⟩ := Kd.C_get (Kd.R_reads' h).2.2 ⟨#[]⟩ (j : Int) (by omega) (by omega)
  rw [hA] at hA2
  injection hA2 with hA2
  subst hA2
  refine ⟨g, hA, hlt, ?_⟩
  have hget : ns.getD (j : Int).toNat ⟨#[]⟩ = ns[j] := by
    rw [Int.toNat_natCast, List.getD_eq_getElem?_getD, List.getElem?_eq_getElem hj]; rfl
  rw [hget] at hK
  have hcs : cs = [.string ns[j]] := hK
  subst hcs
  have := hx 0 _ rfl
  rw [Int.toNat_natCast, show (⟨g, 0, none⟩ : Addr).add (j * (Kd.string).sz + 0) = ⟨g, j, none⟩ from by
    show (⟨g, 0, none⟩ : Addr).add (j * 1 + 0) = _
    simp only [Addr.add]
    split
    · next h => simp at h ⊢; try omega
    · simp] at this
  exact this
theorem foldl_len (c : Dir) (os : List Opn) : (os.foldl applyS c).length ≤ c.length + os.length := by
  induction os generalizing c with
  | nil => simp
  | cons o r ih =>
    have h1 := ih (applyS c o)
    have h2 := applyS_len c o
    rw [List.foldl_cons, List.length_cons]
    omega
set_option maxRecDepth 100000 in
set_option maxHeartbeats 4000000 in
theorem crash_calls (d : Nat) (σ : St) (S : Nat → Prop) (n : Int) (xs : List (Int × Bool)) (A0 : Option Addr) (k0 : Nat) (w : World) (h : DiskAt w d σ S) (ok : σ.Ok) (hfile : ∀ f ∈ σ.files, f.dur ≤ f.data.length ∧ f.data.length ≤ 1099511627776) (hxs : Kd.C (Kd.raw 2) w A0 xs.length (xs.map cfRow)) (hdl : σ.dur.length ≤ 549755813888) (hpn : ∀ o ∈ σ.pend, ∀ n ∈ o.names, n.size ≤ 64) (hpl : σ.pend.length ≤ 549755813888) :
    Calls Try.prog 21 #[.pointer (some ⟨d, 0, none⟩), .int .i64 n, .slice A0 xs.length k0] w fun e w' => e = .returned (.tuple #[]) ∧ Moved w w' d (crashS σ n xs) S := by
  obtain ⟨fb, fv, mc, md, pv, h⟩ := h
  have H := hid h
  have HDL := hid hdl
  have HPN := hid hpn
  have HPL := hid hpl
  have HOK := hid ok
  have HFL := hid hfile
  have HXS := hid hxs
  clear hdl hpn hpl ok hfile hxs
  obtain ⟨Ap, cp, hpv⟩ := Kd.R_slice h.pend
  obtain ⟨np, hnp⟩ : ∃ np, np = (σ.pend.map (opRow fb)).length := ⟨_, rfl⟩
  rw [← hnp] at hpv
  subst hpv
  have HNP := hid hnp
  have c1 : w.cell? ⟨d, 1, none⟩ = some (.map (some md)) := cell_blk h.blk 1
  have c2 : w.cell? ⟨d, 2, none⟩ = some (.slice Ap np cp) := cell_blk h.blk 2
  obtain ⟨q, hq⟩ : ∃ q : Int, (if 0 < n then n else 0) = q := ⟨_, rfl⟩
  obtain ⟨K, hK⟩ : ∃ K : Nat, (if (np : Int) < q then (np : Int) else q) = (K : Int) := ⟨(if (np : Int) < q then (np : Int) else q).toNat, by split <;> split at hq <;> omega⟩
  have HQ := hid hq
  have HK := hid hK
  have HKN := hid (show K ≤ np by split at hK <;> omega)
  have HKC := hid (show K ≤ cp from Nat.le_trans HKN.out (Kd.R_reads' h.pend).2.1)
  have HKM := hid (show K ≤ 9223372036854775807 by have := HNP.out; rw [List.length_map] at this; have := HKN.out; have := HPL.out; omega)
  clear h hnp
  go_enter Try.func21, Try.ntmps21
  go_wp2_with (first
    | (go_at_call 43; clear hq hK; refine (clone_dir md fb σ.dur w H.out.dur (Nat.le_trans HDL.out (by decide))).mono ?_; rintro e w1 ⟨mo, rfl, hc1, hle1, hb1⟩; have hd1 := H.out.move hb1.size (fun k hk => hb1.block k (H.out.lt k hk)); have c12 : w1.cell? ⟨d, 2, none⟩ = some (.slice Ap np cp) := cell_blk hd1.blk 2; have HC1 := hid hc1; have HLE1 := hid hle1; have HB1 := hid hb1; have hkc := HKC.out; clear hc1 hle1 hb1 hd1))
  go_loopw [39] (fun v wr => ∃ j : Nat, v = .int .i64 (j : Int) ∧ Hid (j ≤ K) ∧ Hid (HasDir wr mo fb ((σ.pend.take j).foldl applyS σ.dur)) ∧ Hid (Below w.heap.size w wr)) (fun v _ => K - (intOf v).toNat)
  case atStart => exact ⟨0, rfl, Nat.zero_le _, HC1.out, HB1.out⟩
  case round =>
    obtain ⟨j, rfl, HJ, HDJ, HB⟩ := hrel
    by_cases hlt : (j : Int) < (K : Int)
    · have HLT := hid hlt
      have hjp : j < σ.pend.length := by have := HNP.out; rw [List.length_map] at this; have := HKN.out; omega
      have hdw := H.out.move HB.out.size (fun k hk => HB.out.block k (H.out.lt k hk))
      obtain ⟨g, x0, x1, x2, x3, hA, hrow, hg, hx0, hx1, hx2, hx3⟩ := pend_cells hdw.pend j hjp
      have HROW := hid hrow
      have HNM := hid (HPN.out _ (List.getElem_mem hjp))
      have HLEN := hid (foldl_len σ.dur (σ.pend.take j))
      have HW := hid (wrap_succ hlt HKM.out)
      have HNEXT := hid (show (σ.pend.take (j + 1)).foldl applyS σ.dur = applyS ((σ.pend.take j).foldl applyS σ.dur) σ.pend[j] by rw [List.take_succ_eq_append_getElem hjp, List.foldl_append]; rfl)
      have hone := opRow_one fb σ.pend[j]
      rw [hrow] at hone
      have HONE := hid hone
      subst hA
      have hmlt := HDJ.out.lt
      have HCA : Hid (∀ w2, Below wr.heap.size wr w2 → Calls Try.prog 44 #[.map (some mo), .agg #[x0, x1, x2, x3]] w2 fun e w' => e = .returned (.tuple #[]) ∧ HasDir w' mo fb ((σ.pend.take (j + 1)).foldl applyS σ.dur) ∧ Below w.heap.size w w') := hid (fun w2 hb => by
        have := apply_calls mo fb _ σ.pend[j] w2 (HDJ.out.move (hb.block _ hmlt)) (fun n hn => Nat.le_trans (HNM.out n hn) (by decide +kernel)) (Nat.lt_of_le_of_lt HLEN.out (by
          have := HDL.out; have := HPL.out
          have h3 : (σ.pend.take j).length ≤ σ.pend.length := by rw [List.length_take]; omega
          have : (2199023255552 : Nat) < maxLen := by decide +kernel
          omega))
        rw [hrow, ← HNEXT.out] at this
        refine this.mono (fun e w' ⟨h1, h2, h3⟩ => ⟨h1, h2, (HB.out.trans (hb.mono HB.out.size)).trans ⟨h3.1.os, h3.1.tape, h3.1.output, h3.1.size, fun k hk => ?_⟩⟩)
        have s1 := HB.out.size
        have s2 := hb.size
        have s3 := HLE1.out
        exact h3.2 k (by omega) (by omega))
      have HS0 := hid (heap_alloc_new wr (.cells #[.int .i64 0, .string ⟨#[]⟩, .string ⟨#[]⟩, .pointer none] 89))
      clear hrow hone hmlt
      go_wp2_with (first
        | (refine wpList_store_row rfl 89 (.tmp 9) (.tmp 42) rfl wr.heap.size #[x0, x1, x2, x3] rfl rfl 89 _ HS0.out (by kernel_rfl) rfl (by simpa using HONE.out) ?_)
        | (refine wpList_load_row rfl 89 (.tmp 9) rfl wr.heap.size rfl 89 #[x0, x1, x2, x3] (0, 0) _ (setRow_heap _ _ _ _ _ _ HS0.out) Try.underlying89 rfl (by kernel_rfl) ?_)
        | (go_at_call 44; refine (HCA.out _ (below_setRow ((Below.refl _ _).alloc (Nat.le_refl _) _) (Nat.le_refl _) _)).mono ?_; rintro e w3 ⟨rfl, hd3, hb3⟩; have HD3 := hid hd3; have HB3 := hid hb3; clear hd3 hb3))
      go_roundw
      case rel => exact ⟨j + 1, by rw [HW.out], hid (by have := HLT.out; omega), HD3.out, HB3.out⟩
      case measure => exact less_succ HLT.out HW.out
    · obtain rfl : j = K := by have := HJ.out; omega
      obtain ⟨wo, rfl⟩ : ∃ wo : World, wo = wr := ⟨_, rfl⟩
      have HDIR := hid (show (σ.pend.take j).foldl applyS σ.dur = cutDir σ n by
        unfold cutDir
        have h1 := HK.out; have h2 := HQ.out; have h3 := HNP.out
        rw [List.length_map] at h3
        have h4 : (min (max 0 n) (σ.pend.length : Int)).toNat = j := by
          rw [← h3]
          split at h1 <;> split at h2 <;> omega
        rw [h4])
      have HDC := hid (show HasDir wo mo fb (cutDir σ n) by rw [← HDIR.out]; exact HDJ.out)
      have HCL := hid (show (cutDir σ n).length ≤ 1099511627776 by rw [← HDIR.out]; exact Nat.le_trans (foldl_len _ _) (by have := HDL.out; have := HPL.out; rw [List.length_take]; omega))
      have HMM := hid (show HasDir (wo.alloc (.map #[] 0)) mo fb (cutDir σ n) from HDC.out.move (Below.heap_alloc _ _ _ HDC.out.lt))
      have HMA := hid (HasDir.of (n := 0) (fb := id) (d := []) (World.ownsMap_made (H := Unit) wo Try.prog 9 fileElem))
      have hmm := @run_makeMap Try.prog
      clear HC1 HDJ HJ hlt
      go_wp2_with (first
        | (go_at_call 45; refine (names_calls mo fb (cutDir σ n) _ HMM.out HCL.out).mono ?_; rintro e w2 ⟨v2, rfl, hr2, hb2⟩; obtain ⟨An, nn, cn, rfl⟩ := R_slice3 hr2; have HR2 := hid hr2; have HB2 := hid hb2; clear hr2 hb2))
      have HRC := hid HDC.out.rising
      have HMO := hid (HMM.out.move (HB2.out.block _ HMM.out.lt))
      have HP0 := hid (Part.start w2 w.heap.size wo.heap.size (cutDir σ n) id (HMA.out.move (HB2.out.block _ HMA.out.lt)))
      have HBW := hid (show Below w.heap.size w w2 from (HB.out.alloc HB.out.size _).trans (HB2.out.mono (by have := HB.out.size; simp; omega)))
      have HMNE := hid (show w.heap.size ≤ wo.heap.size ∧ mo ≠ wo.heap.size from ⟨HB.out.size, by have := HDC.out.lt; omega⟩)
      have HRN := hid (Kd.R_lower HR2.out (Nat.zero_le _))
      have HLN := hid (show nn = (cutDir σ n).length by have := (Kd.R_reads' HRN.out).1; rw [List.length_map] at this; exact this)
      clear hmm hkc c1 c2 c12 HR2 HB2 HMM HMA HDC HB HDIR
      have HIDX := hid (cutDir_idx HOK.out n)
      generalize hcd : cutDir σ n = c at HCL HRC HMO HP0 HRN HLN HIDX ⊢
      have HCD := hid hcd
      clear hcd
      go_loopw [51] (fun v wq => ∃ (i : Nat) (fb2 : Nat → Nat) (fv2 : Nat → Value) (o : Dir), v = .int .i64 (i : Int) ∧ Hid (i ≤ c.length) ∧ Hid (Part w.heap.size wq wo.heap.size i c ((leftFs σ xs c).take i) fb2 fv2 o) ∧ Hid (HasDir wq mo fb c) ∧ Hid (Kd.R Kd.string 9 wq 0 (fun _ => True) (.slice An nn cn) (c.map (·.1))) ∧ Hid (Below w.heap.size w wq)) (fun v _ => c.length - (intOf v).toNat)
      case atStart => exact ⟨0, id, fun _ => .slice none 0 0, [], rfl, Nat.zero_le _, HP0.out, HMO.out, HRN.out, HBW.out⟩
      case round =>
        obtain ⟨i, fb2, fv2, o, rfl, HI, HPT, HMQ, HRQ, HBQ⟩ := hrel
        by_cases hlt : (i : Int) < (nn : Int)
        · have HLC := hid (show (i : Int) < ((c.length : Nat) : Int) by have := HLN.out; omega)
          have HWS := hid (wrap_succ HLC.out (by have := HCL.out; omega))
          have hic : i < c.length := by have := HLN.out; omega
          have HIC := hid hic
          have HI1 := hid hic
          obtain ⟨g, hAg, hg, hname⟩ := name_cell HRQ.out i (by rw [List.length_map]; exact hic)
          rw [List.getElem_map] at hname
          subst hAg
          obtain ⟨a, t, hat⟩ : ∃ a t, xs.getD i (0, false) = (a, t) := ⟨_, _, rfl⟩
          have HAT := hid hat
          clear hat
          obtain ⟨nm, fi, hci⟩ : ∃ nm fi, c[i] = (nm, fi) := ⟨_, _, rfl⟩
          replace hname : wr.cell? ⟨g, i, none⟩ = some (.string nm) := hname.trans (congrArg (fun p : ByteArray × Nat => some (Value.string p.1)) hci)
          have HCI := hid hci
          have HFI := hid (show fi < σ.files.length from (congrArg (fun p : ByteArray × Nat => p.2 < σ.files.length) hci).mp (HIDX.out _ (List.getElem_mem hic)))
          have HDG := hid (show dget c nm = some fi from (congrArg (fun p : ByteArray × Nat => dget c p.1 = some p.2) hci).mp (dget_of_mem HRC.out (List.getElem_mem hic)))
          have HNM := hid (show nm.size ≤ maxLen from (congrArg (fun p : ByteArray × Nat => p.1.size ≤ maxLen) hci).mp (HMQ.out.key_le (List.getElem_mem hic)))
          clear hci hic
          go_upto_if 60 with (fail)
          go_cut [13] (fun s13 wx => s13 = .pointer (some ⟨wr.heap.size, 0, none⟩) ∧ Hid (wx.heap[wr.heap.size]? = some (.cells #[.int .i64 a, .bool t] 92 (0, 0))) ∧ Hid (Below wr.heap.size wr wx))
          case first =>
            by_cases hx : i < xs.length
            · have hxc := cf_cells (Kd.C_below HXS.out HBQ.out) i hx
              obtain ⟨ad2, hA0, hg2, hx0, hx1⟩ := hxc
              rw [HAT.out] at hx0 hx1
              subst hA0
              have HS0 := hid (heap_alloc_new wr (.cells #[.int .i64 0, .bool false] 92))
              go_wp2_with (first
                | (refine wpList_store_row rfl 92 (.tmp 13) (.tmp 64) rfl wr.heap.size #[.int .i64 a, .bool t] rfl rfl 92 _ HS0.out (by kernel_rfl) rfl (by kernel_rfl) ?_))
              go_meet
              exact ⟨rfl, setRow_heap _ _ _ _ _ _ HS0.out, below_setRow ((Below.refl _ _).alloc (Nat.le_refl _) _) (Nat.le_refl _) _⟩
            · have he : xs.getD i (0, false) = (0, false) := by rw [List.getD_eq_getElem?_getD, List.getElem?_eq_none (by omega)]; rfl
              have hat := HAT.out
              rw [he] at hat
              obtain ⟨rfl, rfl⟩ := Prod.mk.inj hat
              clear hat he
              go_wp2
              go_meet
              exact ⟨rfl, heap_alloc_new _ _, (Below.refl _ _).alloc (Nat.le_refl _) _⟩
          case rest =>
            obtain ⟨rfl, HBK, HBX⟩ := hcut
            have HBW := hid (HBQ.out.trans (HBX.out.mono HBQ.out.size))
            have hdx := H.out.move HBW.out.size (fun k hk => HBW.out.block k (H.out.lt k hk))
            obtain ⟨Af, N, cf, hfv, hN, hf0, hf1, hfz⟩ := file_cells hdx HFI.out
            have hb0 : wc.cell? ⟨wr.heap.size, 0, none⟩ = some (.int .i64 a) := cell_blk HBK.out 0
            have hb1 : wc.cell? ⟨wr.heap.size, 1, none⟩ = some (.bool t) := cell_blk HBK.out 1
            have HMX := hid (HMQ.out.move (HBX.out.block _ HMQ.out.lt))
            obtain ⟨D, hD⟩ : ∃ D, D = (fileAt σ fi).dur := ⟨_, rfl⟩
            rw [← hD] at hf1
            have HFVE := hid hfv
            have HN := hid hN
            have HD := hid hD
            have hDN : D ≤ N := by have := (HFL.out _ (List.mem_of_getElem? (fileAt_some HFI.out))).1; omega
            have hNB : N ≤ 1099511627776 := by have := (HFL.out _ (List.mem_of_getElem? (fileAt_some HFI.out))).2; omega
            obtain ⟨qa, hqa⟩ : ∃ qa : Int, (if 0 < a then a else 0) = qa := ⟨_, rfl⟩
            obtain ⟨Kp, hKp⟩ : ∃ Kp : Nat, (if (N : Int) - (D : Int) < qa then (N : Int) - (D : Int) else qa) = (Kp : Int) := ⟨(if (N : Int) - (D : Int) < qa then (N : Int) - (D : Int) else qa).toNat, by split <;> split at hqa <;> omega⟩
            have HKEPT := hid (show Kp = keptN (fileAt σ fi) a by
              unfold keptN
              rw [← hN, ← hD]
              split at hKp <;> split at hqa <;> omega)
            have hKN : D + Kp ≤ N := by split at hKp <;> omega
            have hwD : IntKind.i64.wrap ((N : Int) - (D : Int)) = (N : Int) - (D : Int) := IntWalk.i64_in _ (by omega)
            obtain ⟨E, hE⟩ : ∃ E : Nat, (D : Int) + (Kp : Int) = (E : Int) := ⟨D + Kp, by omega⟩
            have hEN : E ≤ N := by omega
            have HEE := hid (show E = D + Kp by omega)
            have hwE : IntKind.i64.wrap ((D : Int) + (Kp : Int)) = (E : Int) := by rw [← hE]; exact IntWalk.i64_in _ (by omega)
            have hNC : N ≤ cf := by
              have hr := hdx.row fi _ (fileAt_some HFI.out)
              rw [hfv] at hr
              exact (Kd.R_reads' hr).2.1
            have HEC := hid (show E ≤ cf by omega)
            have HEL := hid (show E ≤ (fileAt σ fi).data.length by omega)
            have HEB := hid (show E ≤ 1099511627776 by omega)
            have HQA := hid hqa
            have HKP := hid hKp
            have HWE := hid hwE
            have HEI := hid hE
            clear hfv hN hD hdx hwE hE hKN hEN hNC
            go_wp2_with (first
              | (refine wpList_look1_dir _ rfl (.tmp 65) (.tmp 66) rfl mo fb c nm rfl rfl HMX.out HNM.out fi HDG.out ?_))
            go_quiet (fail)
            have hwE := HWE.out
            have hec := HEC.out
            clear hwD hDN
            go_wp2_with fail
            refine still_tail1 11 (by kernel_rfl) (by kernel_rfl) (fun wd hbd => ?_)
            simp only [List.take_succ_cons, List.take_zero, List.drop_succ_cons, List.drop_zero]
            have hbd2 : Below wc.heap.size wc wd := (pw_below_drewN (Below.refl _ _) nq).trans hbd
            have hf0d := pw_cell_below hbd2 hf0
            have hf1d := pw_cell_below hbd2 hf1
            have hb1d := pw_cell_below hbd2 hb1
            have HBD := hid hbd2
            clear hbd hbd2 hf0 hf1 hb0 hb1
            repeat still_step
            refine wpStill_nil ?_
            have HCL1 := hid (show ∀ wz, Below wd.heap.size wd wz → Below wr.heap.size wr wz from fun wz hz => (HBX.out.trans (HBD.out.mono HBX.out.size)).trans (hz.mono (Nat.le_trans HBX.out.size HBD.out.size)))
            have HSZ := hid (show wr.heap.size ≤ wd.heap.size from Nat.le_trans HBX.out.size HBD.out.size)
            have HCC := hid (clone_piece H.out HFI.out (HBW.out.trans (HBD.out.mono HBW.out.size)) HFVE.out (HN.out ▸ hNB) HEL.out)
            have hEI := HEI.out
            by_cases hpl : t = false ∨ Kp = 0
            · have HFD := hid (show (leftF (fileAt σ fi) (a, t)).data = (fileAt σ fi).data.take E by rw [leftF_plain _ _ _ (hpl.imp_right (fun h => HKEPT.out.symm.trans h)), ← HKEPT.out, ← HD.out, ← HEE.out])
              have ht2 : t = false ∨ (t = true ∧ Kp = 0) := by cases t <;> simp_all
              clear hpl hEI
              rcases ht2 with rfl | ⟨rfl, rfl⟩
              all_goals
                go_wp2_with (first
                  | (go_at_call 46; refine HCC.out.mono ?_; rintro e w5 ⟨v5, rfl, hr5, hb5⟩; obtain ⟨A5, n5, c5, rfl⟩ := R_slice3 hr5; have HR5 := hid hr5; have HB5 := hid hb5; have hb15 := pw_cell_below hb5 hb1d; clear hr5 hb5)
                  | (at_mapUpdate; refine wpList_put_dirX _ rfl (.tmp 108) (.tmp 109) (.tmp 114) rfl wo.heap.size w5.heap.size nm rfl rfl rfl (fun j => if j = i then w5.heap.size else fb2 j) o i ?_ ?_ ?_ ?_ ?_; exact if_pos rfl; exact HPT.out.congr ((HCL1.out _ HB5.out).alloc (by first | exact Nat.le_trans HSZ.out HB5.out.size | (simp only [setCell_size]; exact Nat.le_trans HSZ.out HB5.out.size)) _) _; exact HNM.out; exact HPT.out.room HCL.out; intro w7 hd7 ht7; have HD7 := hid hd7; have HT7 := hid ht7; clear hd7 ht7))
                go_roundw
                case rel =>
                  have hN5 := (Kd.R_reads' HR5.out).1
                  have hHX := crash_next HPT.out HI1.out HRC.out _ HCI.out HAT.out rfl _ w5.heap.size n5 rfl (by rw [leftF_len, HFD.out]; exact hN5) (HCL1.out _ HB5.out) HBQ.out (by rw [HFD.out]; exact Kd.R_lower HR5.out HSZ.out) HMQ.out HMNE.out.2 HMNE.out.1 HRQ.out HT7.out HD7.out
                  exact ⟨i + 1, _, _, _, by rw [HWS.out], hid (by have := HI1.out; omega), hHX.1, hHX.2.1, hHX.2.2.1, hHX.2.2.2⟩
                case measure => exact less_succ HLC.out HWS.out
            · have hkp : 0 < Kp := by omega
              have htt : t = true := by cases t <;> simp_all
              subst htt
              have HFD := hid (show (leftF (fileAt σ fi) (a, true)).data = tornL ((fileAt σ fi).data.take E) by rw [leftF_torn _ _ (by rw [← HKEPT.out]; exact hkp), ← HKEPT.out, ← HD.out, ← HEE.out])
              have HE1 := hid (show 1 ≤ E by have := HEE.out; omega)
              clear hpl hEI
              go_wp2_with (first
                | (go_at_call 46; refine HCC.out.mono ?_; rintro e w5 ⟨v5, rfl, hr5, hb5⟩; obtain ⟨A5, n5, c5, rfl⟩ := R_slice3 hr5; have HB5 := hid hb5; have hb15 := pw_cell_below hb5 hb1d; have hn5 : n5 = E := by { have := (Kd.R_reads' hr5).1; rw [List.length_take] at this; have := HEL.out; omega }; have HN5 := hid hn5; have hn1 : 1 ≤ n5 := (by have := HE1.out; omega); have hn2 : n5 ≤ 1099511627776 := (by have := HEB.out; omega); obtain ⟨g5, x5, hA5, hB5g, hg5, hc5, hz5, hrt5⟩ := torn_cell hr5 hn1; have HRT5 := hid hrt5; have HBG := hid hB5g; subst hA5; clear hr5 hb5 hn5 hB5g hrt5; have HB5T := hid ((HCL1.out _ HB5.out).setCell (p := ⟨g5, n5 - 1, none⟩) (Nat.le_trans HSZ.out HBG.out) (.int .u8 (Go.bits .xor .u8 x5 255))); have HBT := hid (HB5T.out.alloc (by rw [setCell_size]; exact Nat.le_trans HSZ.out HB5.out.size) (.cells #[.slice (some ⟨g5, 0, none⟩) n5 c5, .int .i64 (n5 : Int)] 94)))
                | (at_mapUpdate; refine wpList_put_dirX _ rfl (.tmp 108) (.tmp 109) (.tmp 114) rfl wo.heap.size w5.heap.size nm rfl rfl rfl (fun j => if j = i then w5.heap.size else fb2 j) o i ?_ ?_ ?_ ?_ ?_; exact if_pos rfl; exact HPT.out.congr HBT.out _; exact HNM.out; exact HPT.out.room HCL.out; intro w7 hd7 ht7; have HD7 := hid hd7; have HT7 := hid ht7; clear hd7 ht7))
              go_roundw
              case rel =>
                have hHX := crash_next HPT.out HI1.out HRC.out _ HCI.out HAT.out rfl _ w5.heap.size n5 (by rw [setCell_size]) (by rw [leftF_len, HFD.out]; exact (Kd.R_reads' HRT5.out).1) HB5T.out HBQ.out (by rw [HFD.out]; exact Kd.R_lower HRT5.out HSZ.out) HMQ.out HMNE.out.2 HMNE.out.1 HRQ.out HT7.out HD7.out
                exact ⟨i + 1, _, _, _, by rw [HWS.out], hid (by have := HI1.out; omega), hHX.1, hHX.2.1, hHX.2.2.1, hHX.2.2.2⟩
              case measure => exact less_succ HLC.out HWS.out
        · obtain rfl : i = nn := by have := HI.out; have := HLN.out; omega
          have HM := hid (fun (w8 : World) (mo2 : Nat) (h8 : HasDir w8 mo2 fb2 o) (hle : wr.heap.size ≤ mo2) (hb8 : Below wr.heap.size wr w8) => crash_end (xs := xs) (S := S) H.out HCD.out HLN.out HPT.out HMNE.out.1 HBQ.out h8 hle hb8 HRC.out)
          have HOL := hid (show o.length ≤ 1099511627776 from Nat.le_trans (HPT.out.len_le) HCL.out)
          clear hlt
          go_wp2_with (first
            | (go_at_call 43; refine (clone_dir wo.heap.size fb2 o wr HPT.out.dirm HOL.out).mono ?_; rintro e w8 ⟨mo2, rfl, hc8, hle8, hb8⟩; have HMV := hid (HM.out w8 mo2 hc8 hle8 hb8); have b0 := (hb8.block d (Nat.lt_of_lt_of_le (H.out.lt d H.out.sd) HBQ.out.size)).trans ((HBQ.out.block d (H.out.lt d H.out.sd)).trans H.out.blk); have b1 := heap_setCell_same w8 d 0 _ _ (.map (some wo.heap.size)) b0; have b2 := heap_setCell_same _ d 1 _ _ (.map (some mo2)) b1; have b3 := heap_setCell_same _ d 2 _ _ (.slice none 0 0) b2; have e0 := cell_blk b0 0; have e1 := cell_blk b1 1; have e2 := cell_blk b2 2; have e3 := cell_blk b3 3; have f0 := frozen_of_row _ d 0 _ _ b0; have f1 := frozen_of_row _ d 1 _ _ b1; have f2 := frozen_of_row _ d 2 _ _ b2; have f3 := frozen_of_row _ d 3 _ _ b3; simp only [List.getElem?_toArray, Array.getElem?_setIfInBounds] at e0 e1 e2 e3; clear b0 b1 b2 b3 hc8 hle8 hb8))
          go_end0
          exact ⟨rfl, HMV.out⟩
end Go.Proofs.Ytfkgpmidcbjlbaa.H
end
section
set_option linter.unusedVariables false
set_option linter.unusedSimpArgs false
/- commitlog: Encode in plain words; Append. -/
namespace Go.Proofs.Ytfkgpmidcbjlbaa.H
open Go.RowKit Go.Proofs.Ytfkgpmidcbjlbaa.U Go.Proofs.YtfkgpmidcbjlbaaW.PrintWords Go.Proofs.Ytfkgpmidcbjlbaa.P

/-- an entry's numbers are int64 -/
structure Small (x : LE) : Prop where
  i : x.f1 < 9223372036854775808
  p : x.f2 < 9223372036854775808
  m : x.f3 < 9223372036854775808
  t : x.f4 < 9223372036854775808
def vE (x : LE) : Bool := validB x.f0 x.f1 x.f2 x.f3 x.f4 x.f5
theorem Small.good {x : LE} (h : Small x) (hv : vE x = true) : GoodE x := ⟨hv, h.i, h.p, h.m, h.t⟩
theorem small_of_good {x : LE} (h : GoodE x) : Small x := ⟨h.i, h.p, h.m, h.t⟩
def encE (x : LE) : List Int × Int := if vE x = true then (recE x, 0) else ([], 1)
def rowE (x : LE) : Array Value := #[.int .i64 x.f0, .int .i64 x.f1, .int .i64 x.f2, .int .i64 x.f3, .int .i64 x.f4, .string x.f5]
theorem encE_len (x : LE) (h : Small x) : (encE x).1.length ≤ 97 := by
  unfold encE
  split
  · next hv => exact (recE_len x (h.good hv)).2
  · simp
theorem encE_bytes (x : LE) : Bytes (encE x).1 := by
  unfold encE
  split
  · exact recE_bytes x
  · intro y hy; cases hy
theorem encE_calls (x : LE) (hs : Small x) (w : World) :
    Calls Try.prog 9 #[.agg (rowE x)] w fun e w' => ∃ v0 : Value, e = .returned (.tuple #[v0, .int .i64 (encE x).2]) ∧ Kd.R (Kd.int .u8) 5 w' w.heap.size (fun _ => True) v0 (encE x).1 ∧ Below w.heap.size w w' := by
  unfold encE
  cases hv : vE x with
  | true =>
    obtain ⟨k, hk⟩ := (rec_impl _ _ _ _ _ _ (hs.good hv)).get
    rw [if_pos rfl]
    exact commitlog_Encode.calls k _ _ _ _ _ _ _ _ w hk
  | false =>
    obtain ⟨k, hk⟩ := (rec_impl_no x.f0 x.f1 x.f2 x.f3 x.f4 x.f5 hv).get
    rw [if_neg (by decide)]
    exact commitlog_Encode.calls k _ _ _ _ _ _ _ _ w hk
def logAppendS (σ : St) (n : ByteArray) (x : LE) : St × Int :=
  if (encE x).2 = 0 then (if (appendS σ n (encE x).1).2 = 0 then syncS (appendS σ n (encE x).1).1 n else appendS σ n (encE x).1) else (σ, (encE x).2)
theorem appendS_ok {σ : St} (ok : σ.Ok) (n : ByteArray) (l : List Int) : (appendS σ n l).1.Ok := by
  unfold appendS
  split
  · split
    · exact ok
    · exact ⟨fun p hp => by show _ < (σ.files.set _ _).length; rw [List.length_set]; exact ok.cur p hp, fun p hp => by show _ < (σ.files.set _ _).length; rw [List.length_set]; exact ok.dur p hp, fun m i hm => by show _ < (σ.files.set _ _).length; rw [List.length_set]; exact ok.pend m i hm⟩
  · exact ok
theorem Moved.trans2 {w w1 w2 : World} {d : Nat} {σ1 σ2 : St} {S : Nat → Prop} (h : Moved w w1 d σ1 S) {S1 : Nat → Prop} (hs : ∀ k, S1 k → S k ∨ w.heap.size ≤ k) (k : Moved w1 w2 d σ2 S1) : Moved w w2 d σ2 S := by
  obtain ⟨hb, hk, _, _, _⟩ := h
  obtain ⟨hb2, hk2, S2, h2, hd2⟩ := k
  refine ⟨hb.trans hb2, hk.then_ hk2 hs, S2, fun j hj => ?_, hd2⟩
  rcases h2 j hj with h3 | h3
  · exact hs j h3
  · exact .inr (Nat.le_trans hb.size h3)
set_option maxRecDepth 100000 in
set_option maxHeartbeats 4000000 in
theorem logAppend_calls (d : Nat) (σ : St) (S : Nat → Prop) (n : ByteArray) (x : LE) (w : World) (h : DiskAt w d σ S) (ok : σ.Ok) (hl : ∀ f ∈ σ.files, f.data.length + 97 ≤ 1099511627776) (hs : Small x) :
    Calls Try.prog 20 #[.pointer (some ⟨d, 0, none⟩), .string n, .agg (rowE x)] w fun e w' => e = .returned (.int .i64 (logAppendS σ n x).2) ∧ Moved w w' d (logAppendS σ n x).1 S := by
  have H := hid h
  have HOK := hid ok
  have HE := hid (encE_calls x hs)
  have HB0 := hid (heap_alloc_new w (.cells (rowE x) 23))
  have HLL := hid (show ∀ f ∈ σ.files, f.data.length + (encE x).1.length ≤ 1099511627776 from fun f hf => by have := hl f hf; have := encE_len x hs; omega)
  clear h ok hl hs
  unfold logAppendS
  generalize encE x = be at HE HLL ⊢
  obtain ⟨b, ec⟩ := be
  dsimp only at HE HLL ⊢
  by_cases hec : ec = 0
  · subst hec
    rw [if_pos rfl]
    have HOK1 := hid (appendS_ok HOK.out n b)
    have HAP := hid (fun (w1 : World) (A0 : Option Addr) (nb k0 : Nat) (hb : Below w.heap.size w w1) (hr : Kd.C (Kd.int .u8) w1 A0 b.length b) (hnb : nb = b.length) => (show Calls Try.prog 41 #[.pointer (some ⟨d, 0, none⟩), .string n, .slice A0 nb k0] w1 fun e w' => e = .returned (.int .i64 (appendS σ n b).2) ∧ Moved w1 w' d (appendS σ n b).1 S by subst hnb; exact append_calls d σ S n A0 k0 b w1 (H.out.below hb) HOK.out HLL.out hr))
    by_cases hap : (appendS σ n b).2 = 0
    · rw [if_pos hap]
      rw [hap] at HAP
      generalize (appendS σ n b).1 = σ1 at HAP HOK1 ⊢
      clear hap
      have HSY := hid (fun (w2 : World) (S1 : Nat → Prop) (h1 : DiskAt w2 d σ1 S1) => sync_calls d σ1 S1 n w2 h1 HOK1.out)
      generalize syncS σ1 n = r at HSY ⊢
      go_enter Try.func20, Try.ntmps20
      go_wp2_with (first
        | (refine wpList_load_row rfl 23 (.tmp 5) rfl w.heap.size rfl 23 (rowE x) (0, 0) _ HB0.out Try.underlying23 rfl (by kernel_rfl) ?_)
        | (go_at_call 9; refine (HE.out _).mono ?_; rintro e w1 ⟨v0, rfl, hr1, hb1⟩; obtain ⟨A0, nb, k0, rfl⟩ := R_slice3 hr1; have HR1 := hid hr1; have HB1 := hid (((Below.refl w.heap.size w).alloc (Nat.le_refl _) (.cells (rowE x) 23)).trans (hb1.mono (by simp))); clear hr1 hb1)
        | (go_at_call 41; refine (HAP.out _ _ _ _ HB1.out (Kd.R_reads' HR1.out).2.2 (Kd.R_reads' HR1.out).1).mono ?_; rintro e w2 ⟨rfl, hm2⟩; have HM2 := hid hm2; obtain ⟨S1, hs1, hd1⟩ := hm2.2.2; have HD1 := hid hd1; have HS1 := hid hs1; clear hm2 hs1 hd1)
        | (go_at_call 42; refine (HSY.out _ S1 HD1.out).mono ?_; rintro e w3 ⟨rfl, hm3⟩; have HM3 := hid hm3; clear hm3))
      go_ret
      exact ⟨rfl, Moved.from_ HB1.out (fun k hk => .inl hk) (HM2.out.trans2 HS1.out HM3.out)⟩
    · rw [if_neg hap]
      have hbb : ((appendS σ n b).2 != 0) = true := by simpa using hap
      generalize appendS σ n b = r at HAP hbb ⊢
      clear hap
      go_enter Try.func20, Try.ntmps20
      go_wp2_with (first
        | (refine wpList_load_row rfl 23 (.tmp 5) rfl w.heap.size rfl 23 (rowE x) (0, 0) _ HB0.out Try.underlying23 rfl (by kernel_rfl) ?_)
        | (go_at_call 9; refine (HE.out _).mono ?_; rintro e w1 ⟨v0, rfl, hr1, hb1⟩; obtain ⟨A0, nb, k0, rfl⟩ := R_slice3 hr1; have HR1 := hid hr1; have HB1 := hid (((Below.refl w.heap.size w).alloc (Nat.le_refl _) (.cells (rowE x) 23)).trans (hb1.mono (by simp))); clear hr1 hb1)
        | (go_at_call 41; refine (HAP.out _ _ _ _ HB1.out (Kd.R_reads' HR1.out).2.2 (Kd.R_reads' HR1.out).1).mono ?_; rintro e w2 ⟨rfl, hm2⟩; have HM2 := hid hm2; clear hm2))
      go_ret
      exact ⟨rfl, Moved.from_ HB1.out (fun k hk => .inl hk) HM2.out⟩
  · rw [if_neg hec]
    have hbb : (ec != 0) = true := by simpa using hec
    clear hec
    go_enter Try.func20, Try.ntmps20
    go_wp2_with (first
      | (refine wpList_load_row rfl 23 (.tmp 5) rfl w.heap.size rfl 23 (rowE x) (0, 0) _ HB0.out Try.underlying23 rfl (by kernel_rfl) ?_)
      | (go_at_call 9; refine (HE.out _).mono ?_; rintro e w1 ⟨v0, rfl, hr1, hb1⟩; obtain ⟨A0, nb, k0, rfl⟩ := R_slice3 hr1; have HR1 := hid hr1; have HB1 := hid (((Below.refl w.heap.size w).alloc (Nat.le_refl _) (.cells (rowE x) 23)).trans (hb1.mono (by simp))); clear hr1 hb1))
    go_ret
    exact ⟨rfl, Moved.stay H.out HB1.out⟩
end Go.Proofs.Ytfkgpmidcbjlbaa.H
end
section
set_option linter.unusedVariables false
set_option linter.unusedSimpArgs false
/- What holds of every state of the disk, with a bound N on all that is counted; kept by every operation. -/
namespace Go.Proofs.Ytfkgpmidcbjlbaa.H
open Go.RowKit Go.Proofs.Ytfkgpmidcbjlbaa.U Go.Proofs.YtfkgpmidcbjlbaaW.PrintWords Go.Proofs.Ytfkgpmidcbjlbaa.P

structure St.Sound (σ : St) (N : Nat) : Prop where
  ok : σ.Ok
  cur : σ.cur.length ≤ N
  sum : σ.dur.length + σ.pend.length ≤ N
  pname : ∀ o ∈ σ.pend, ∀ n ∈ o.names, n.size ≤ 64
  file : ∀ f ∈ σ.files, f.dur ≤ f.data.length ∧ f.data.length ≤ N ∧ Bytes f.data
theorem St.Sound.mono {σ : St} {N M : Nat} (h : σ.Sound N) (hm : N ≤ M) : σ.Sound M :=
  ⟨h.ok, by have := h.cur; omega, by have := h.sum; omega, h.pname, fun f hf => ⟨(h.file f hf).1, Nat.le_trans (h.file f hf).2.1 hm, (h.file f hf).2.2⟩⟩
theorem St.Sound.new : St.new.Sound 0 :=
  ⟨⟨fun p hp => (by cases hp), fun p hp => (by cases hp), fun n i hi => (by cases hi)⟩, Nat.le_refl _, Nat.le_refl _, fun o ho => (by cases ho), fun f hf => (by cases hf)⟩
theorem St.Sound.done {σ : St} {N : Nat} (h : σ.Sound N) : (doneS σ).Sound N := ⟨⟨h.ok.cur, h.ok.dur, h.ok.pend⟩, h.cur, h.sum, h.pname, h.file⟩
theorem St.Sound.fail {σ : St} {N : Nat} (h : σ.Sound N) (n : Int) : (failS σ n).Sound N := ⟨⟨h.ok.cur, h.ok.dur, h.ok.pend⟩, h.cur, h.sum, h.pname, h.file⟩
theorem St.Sound.change {σ : St} {N : Nat} (h : σ.Sound N) (o : Opn) (ho : ∀ n i, o = .create n i → i < σ.files.length) (hn : ∀ n ∈ o.names, n.size ≤ 64) : (changeS σ o).Sound (N + 1) := by
  refine St.Sound.done (σ := { σ with cur := applyS σ.cur o, pend := σ.pend ++ [o] }) ⟨⟨applyS_idx h.ok.cur ho, h.ok.dur, fun n i hm => ?_⟩, ?_, ?_, fun x hx => ?_, fun f hf => ⟨(h.file f hf).1, by have := (h.file f hf).2.1; omega, (h.file f hf).2.2⟩⟩
  · rcases List.mem_append.1 hm with hm | hm
    · exact h.ok.pend n i hm
    · exact ho n i (List.mem_singleton.1 hm).symm
  · have := applyS_len σ.cur o
    have := h.cur
    show (applyS σ.cur o).length ≤ _
    omega
  · show σ.dur.length + (σ.pend ++ [o]).length ≤ _
    have := h.sum
    rw [List.length_append, List.length_singleton]
    omega
  · rcases List.mem_append.1 hx with hx | hx
    · exact h.pname x hx
    · rw [List.mem_singleton.1 hx]; exact hn
theorem St.Sound.files {σ : St} {N : Nat} (h : σ.Sound N) (i : Nat) (f : Fl) (hf : f.dur ≤ f.data.length ∧ f.data.length ≤ N ∧ Bytes f.data) : ({ σ with files := σ.files.set i f } : St).Sound N := by
  have hl : (σ.files.set i f).length = σ.files.length := List.length_set
  refine ⟨⟨fun p hp => ?_, fun p hp => ?_, fun n j hm => ?_⟩, h.cur, h.sum, h.pname, fun g hg => ?_⟩
  · show _ < (σ.files.set i f).length; rw [hl]; exact h.ok.cur p hp
  · show _ < (σ.files.set i f).length; rw [hl]; exact h.ok.dur p hp
  · show _ < (σ.files.set i f).length; rw [hl]; exact h.ok.pend n j hm
  · rcases List.mem_or_eq_of_mem_set hg with hg | rfl
    · exact h.file g hg
    · exact hf
theorem fileAt_mem {σ : St} {i : Nat} (hi : i < σ.files.length) : fileAt σ i ∈ σ.files := List.mem_of_getElem? (fileAt_some hi)
theorem St.Sound.create {σ : St} {N : Nat} (h : σ.Sound N) (n : ByteArray) : (createS σ n).1.Sound (N + 1) := by
  unfold createS
  split
  · next hb =>
    split
    · exact h.mono (by omega)
    · refine St.Sound.change (σ := { σ with files := σ.files ++ [⟨[], 0⟩] }) ⟨⟨fun p hp => ?_, fun p hp => ?_, fun m j hm => ?_⟩, h.cur, h.sum, h.pname, fun g hg => ?_⟩ _ (fun m j e => ?_) (fun m hm => ?_)
      · have := h.ok.cur p hp; simp; omega
      · have := h.ok.dur p hp; simp; omega
      · have := h.ok.pend m j hm; simp; omega
      · rcases List.mem_append.1 hg with hg | hg
        · exact h.file g hg
        · rw [List.mem_singleton.1 hg]; exact ⟨Nat.le_refl _, Nat.zero_le _, fun y hy => (by cases hy)⟩
      · injection e with _ e; simp; omega
      · simp [Opn.names] at hm; subst hm
        exact (begin0_names hb _ (by simp)).2
  · exact h.mono (by omega)
theorem St.Sound.remove {σ : St} {N : Nat} (h : σ.Sound N) (n : ByteArray) : (removeS σ n).1.Sound (N + 1) := by
  unfold removeS
  split
  · next hb =>
    split
    · exact h.mono (by omega)
    · exact h.change _ (fun m j e => by cases e) (fun m hm => by simp [Opn.names] at hm; subst hm; exact (begin0_names hb _ (by simp)).2)
  · exact h.mono (by omega)
theorem St.Sound.rename {σ : St} {N : Nat} (h : σ.Sound N) (a b : ByteArray) : (renameS σ a b).1.Sound (N + 1) := by
  unfold renameS
  split
  · next hb =>
    split
    · exact h.mono (by omega)
    · split
      · exact h.done.mono (by omega)
      · exact h.change _ (fun m j e => by cases e) (fun m hm => by
          simp [Opn.names] at hm
          rcases hm with rfl | rfl
          · exact (begin0_names hb _ (by simp)).2
          · exact (begin0_names hb _ (by simp)).2)
  · exact h.mono (by omega)
theorem St.Sound.append {σ : St} {N : Nat} (h : σ.Sound N) (n : ByteArray) (l : List Int) (hl : Bytes l) : (appendS σ n l).1.Sound (N + l.length) := by
  unfold appendS
  split
  · split
    · exact h.mono (by omega)
    · next i hi =>
      have hf := h.file _ (fileAt_mem (Ok_get h.ok hi))
      refine ((h.mono (Nat.le_add_right N l.length)).files i ⟨(fileAt σ i).data ++ l, (fileAt σ i).dur⟩ ⟨?_, ?_, hf.2.2.app hl⟩).done
      · show _ ≤ ((fileAt σ i).data ++ l).length
        rw [List.length_append]
        exact Nat.le_trans hf.1 (Nat.le_add_right _ _)
      · show ((fileAt σ i).data ++ l).length ≤ _
        rw [List.length_append]
        have := hf.2.1
        omega
  · exact h.mono (by omega)
theorem St.Sound.sync {σ : St} {N : Nat} (h : σ.Sound N) (n : ByteArray) : (syncS σ n).1.Sound N := by
  unfold syncS
  split
  · split
    · exact h
    · next i hi =>
      have hf := h.file _ (fileAt_mem (Ok_get h.ok hi))
      exact (h.files i ⟨(fileAt σ i).data, (fileAt σ i).data.length⟩ ⟨Nat.le_refl _, hf.2⟩).done
  · exact h
theorem St.Sound.syncDir {σ : St} {N : Nat} (h : σ.Sound N) : (syncDirS σ).1.Sound N := by
  unfold syncDirS
  split
  · exact St.Sound.done (σ := { σ with dur := σ.cur, pend := [] }) ⟨⟨h.ok.cur, h.ok.cur, fun n i hi => (by cases hi)⟩, h.cur, h.cur, fun o ho => (by cases ho), h.file⟩
  · exact h
theorem keptN_le (f : Fl) (hf : f.dur ≤ f.data.length) (n : Int) : f.dur + keptN f n ≤ f.data.length := by
  unfold keptN; omega
theorem tornL_bytes {l : List Int} (h : Bytes l) : Bytes (tornL l) := by
  intro y hy
  unfold tornL at hy
  rcases List.mem_or_eq_of_mem_set hy with hy | rfl
  · exact h y hy
  · exact bits_range8 _ _ _
theorem leftF_sound {f : Fl} {N : Nat} (hf : f.dur ≤ f.data.length ∧ f.data.length ≤ N ∧ Bytes f.data) (x : Int × Bool) : (leftF f x).dur ≤ (leftF f x).data.length ∧ (leftF f x).data.length ≤ N ∧ Bytes (leftF f x).data := by
  refine ⟨Nat.le_refl _, ?_, ?_⟩
  · show (if x.2 = true ∧ 0 < keptN f x.1 then tornL _ else _).length ≤ N
    have := keptN_le f hf.1 x.1
    split
    · unfold tornL
      rw [List.length_set, List.length_take]
      have := hf.2.1
      omega
    · rw [List.length_take]
      have := hf.2.1
      omega
  · show Bytes (if x.2 = true ∧ 0 < keptN f x.1 then tornL _ else _)
    split
    · exact tornL_bytes (hf.2.2.take _)
    · exact hf.2.2.take _
theorem St.Sound.crash {σ : St} {N : Nat} (h : σ.Sound N) (n : Int) (xs : List (Int × Bool)) : (crashS σ n xs).Sound N := by
  have hl : (numDir (cutDir σ n)).length ≤ N := by
    rw [numDir_len]
    unfold cutDir
    refine Nat.le_trans (foldl_len _ _) ?_
    rw [List.length_take]
    have := h.sum
    omega
  have hidx : ∀ p ∈ numDir (cutDir σ n), p.2 < (leftFs σ xs (cutDir σ n)).length := fun p hp => by
    rw [leftFs_len]
    unfold numDir at hp
    obtain ⟨j, hj, e⟩ := List.mem_mapIdx.1 hp
    rw [← e]; exact hj
  refine ⟨⟨hidx, hidx, fun m i hi => (by cases hi)⟩, hl, hl, fun o ho => (by cases ho), fun f hf => ?_⟩
  replace hf : f ∈ leftFs σ xs (cutDir σ n) := hf
  unfold leftFs at hf
  obtain ⟨j, hj, e⟩ := List.mem_mapIdx.1 hf
  rw [← e]
  exact leftF_sound (h.file _ (fileAt_mem (cutDir_idx h.ok n _ (List.getElem_mem hj)))) _
theorem St.Sound.logAppend {σ : St} {N : Nat} (h : σ.Sound N) (n : ByteArray) (x : LE) (hs : Small x) : (logAppendS σ n x).1.Sound (N + 97) := by
  have := encE_len x hs
  unfold logAppendS
  split
  · split
    · exact ((h.append n _ (encE_bytes x)).sync n).mono (by omega)
    · exact (h.append n _ (encE_bytes x)).mono (by omega)
  · exact h.mono (by omega)
end Go.Proofs.Ytfkgpmidcbjlbaa.H
end
section
set_option linter.unusedVariables false
set_option linter.unusedSimpArgs false
-- Written by a program of this session (a printer of walks).
namespace Go.Proofs.Ytfkgpmidcbjlbaa.P
open Go.RowKit Go.Proofs.YtfkgpmidcbjlbaaW.PrintWords Go.Proofs.YtfkgpmidcbjlbaaW.PrintLast Go.Proofs.YtfkgpmidcbjlbaaW.PrintMore
attribute [local go_sem] max2_int min2_int max_two min_two max_three min_three max_four min_four   -- for this text's walks alone
set_option linter.unusedVariables false
set_option linter.unusedSimpArgs false

/-! ### slices_Index_string_string: function 65 -/
def slices_Index_string_string.l0 : Nat → List ByteArray → ByteArray → Int → Int → Option (Int)
  | 0, _, _, _, _ => none
  | k + 1, x0, x1, x7, x8 => if x8 < x7 then (if 0 ≤ x8 then (if x8 < (x0.length : Int) then (if x1.toList = (rdOf ByteArray.empty x0 x8).toList then (some x8) else (slices_Index_string_string.l0 k x0 x1 x7 (wrap64 (x8 + 1)))) else (none)) else (none)) else (some (-1))
def slices_Index_string_string.f (k : Nat) (l0 : List ByteArray) (a1 : ByteArray) : Option (Int) := slices_Index_string_string.l0 k l0 a1 (l0.length : Int) 0
theorem slices_Index_string_string.mono_l : ∀ k, (∀ y0 y1 y2 y3, LeO (slices_Index_string_string.l0 k y0 y1 y2 y3) (slices_Index_string_string.l0 (k + 1) y0 y1 y2 y3))
  | 0 => fun _ _ _ _ r h => by simp [slices_Index_string_string.l0] at h
  | k + 1 => by
    have ih0 := slices_Index_string_string.mono_l k
    · intro y0 y1 y2 y3
      unfold slices_Index_string_string.l0
      repeat' first
      | (with_reducible exact ih0 _ _ _ _)
      | (with_reducible exact LeO.refl _)
      | (with_reducible exact LeO.none _)
      | (with_reducible refine LeO.ite ?_ ?_)
      | (with_reducible refine LeO.bind ?_ (fun _ => ?_))
      | exact ih0 _ _ _ _
      | exact LeO.none _
      | refine LeO.ite ?_ ?_
      | refine LeO.bind ?_ (fun _ => ?_)
theorem slices_Index_string_string.mono : ∀ a0 a1 k, LeO (slices_Index_string_string.f k a0 a1) (slices_Index_string_string.f (k + 1) a0 a1) := by
  intro a0 a1 k
  have ih0 := slices_Index_string_string.mono_l k
  unfold slices_Index_string_string.f
  repeat' first
      | (with_reducible exact ih0 _ _ _ _)
      | (with_reducible exact LeO.refl _)
      | (with_reducible exact LeO.none _)
      | (with_reducible refine LeO.ite ?_ ?_)
      | (with_reducible refine LeO.bind ?_ (fun _ => ?_))
      | exact ih0 _ _ _ _
      | exact LeO.none _
      | refine LeO.ite ?_ ?_
      | refine LeO.bind ?_ (fun _ => ?_)
set_option maxHeartbeats 8000000 in
set_option maxRecDepth 100000 in
theorem slices_Index_string_string.calls (k : Nat) (A0 : Option Addr) (c0 : Nat) (l0 : List ByteArray) (a1 : ByteArray) (r : Int) (w : World) (hr0 : Kd.C Kd.string w A0 l0.length l0) (hc0 : l0.length ≤ c0) (h : slices_Index_string_string.f k l0 a1 = some r) :
    Calls Try.prog 65 #[.slice A0 l0.length c0, .string a1] w fun e w' => e = .returned (.int .i64 r) ∧ Drawn0 w w' := by
  have HR0 := Aside0.mk hr0
  have HC0 := Aside0.mk hc0
  clear hr0 hc0
  have H : (slices_Index_string_string.l0 k l0 a1 (l0.length : Int) 0) = some r := h
  clear h
  have H' := Aside0.mk H
  clear H
  go_enter Try.func65, Try.ntmps65
  go_wp2
  go_loopg [8] k (fun kq v8 w' => ∃ (x8_1 : Int), v8 = .int .i64 x8_1 ∧ Aside0 (slices_Index_string_string.l0 kq l0 a1 (l0.length : Int) x8_1 = some r) ∧ Aside0 (kq ≤ k) ∧ Drawn0 w w')
  case atStart => exact ⟨(0), (by first | rfl | (simp; done) | (simp [*]; done)), H', ⟨Nat.le_refl _⟩, by repeat (first | exact Drawn0.refl _ | apply Drawn0.step)⟩
  case round =>
    clear H'
    try clear p2
    obtain ⟨x8_1, rfl, HA, HK1, ⟨m1, rfl⟩⟩ := hrel
    cases gk with
    | zero => exact absurd HA.out (by simp [slices_Index_string_string.l0])
    | succ k1 =>
      have H := HA.out
      clear HA
      simp only [slices_Index_string_string.l0] at H
      by_cases c3 : x8_1 < (l0.length : Int)
      · rw [if_pos c3] at H
        have c3b0 : decide (x8_1 < (l0.length : Int)) = true := decide_eq_true c3
        clear c3
        by_cases c4 : 0 ≤ x8_1
        · rw [if_pos c4] at H
          have c4b0 : decide (0 ≤ x8_1) = true := decide_eq_true c4
          clear c4
          by_cases c5 : x8_1 < (l0.length : Int)
          · rw [if_pos c5] at H
            have c5b0 : decide (x8_1 < (l0.length : Int)) = true := decide_eq_true c5
            clear c5
            by_cases c6 : a1.toList = (rdOf ByteArray.empty l0 x8_1).toList
            · rw [if_pos c6] at H
              have c6b0 : (a1.toList == (rdOf ByteArray.empty l0 x8_1).toList) = true := beq_iff_eq.mpr c6
              have c6b1 : (a1.toList != (rdOf ByteArray.empty l0 x8_1).toList) = false := bne_eq_false_iff_eq.mpr c6
              clear c6
              obtain rfl := Option.some.inj H
              have p119 : 0 ≤ (x8_1 : Int) := of_decide_eq_true (by first | (with_reducible assumption) | assumption)
              have q119 : x8_1 < (l0.length : Int) := of_decide_eq_true (by first | (with_reducible assumption) | assumption)
              obtain ⟨ad119, e119, hx119_0⟩ := Kd.at_string HR0.out x8_1 p119 q119
              cases e119
              replace p119 := eq_true p119
              replace q119 := eq_true q119
              go_wp2
              go_ret
              exact ⟨by first | rfl | (simp; done) | (simp [*]; done), by repeat (first | exact Drawn0.refl _ | apply Drawn0.step)⟩
            · rw [if_neg c6] at H
              have c6b0 : (a1.toList == (rdOf ByteArray.empty l0 x8_1).toList) = false := beq_eq_false_iff_ne.mpr c6
              have c6b1 : (a1.toList != (rdOf ByteArray.empty l0 x8_1).toList) = true := bne_iff_ne.mpr c6
              have H' := Aside0.mk H
              clear H
              have p119 : 0 ≤ (x8_1 : Int) := of_decide_eq_true (by first | (with_reducible assumption) | assumption)
              have q119 : x8_1 < (l0.length : Int) := of_decide_eq_true (by first | (with_reducible assumption) | assumption)
              obtain ⟨ad119, e119, hx119_0⟩ := Kd.at_string HR0.out x8_1 p119 q119
              cases e119
              replace p119 := eq_true p119
              replace q119 := eq_true q119
              go_wp2
              go_roundg k1
              case measure => have := HK1.out; omega
              case rel => exact ⟨(wrap64 (x8_1 + 1)), (by first | rfl | (simp; done) | (simp [*]; done)), H', ⟨by have := HK1.out; omega⟩, by repeat (first | exact Drawn0.refl _ | apply Drawn0.step)⟩
          · rw [if_neg c5] at H
            exact absurd H (by simp)
        · rw [if_neg c4] at H
          exact absurd H (by simp)
      · rw [if_neg c3] at H
        have c3b0 : decide (x8_1 < (l0.length : Int)) = false := decide_eq_false c3
        clear c3
        obtain rfl := Option.some.inj H
        go_wp2
        go_ret
        exact ⟨by first | rfl | (simp; done) | (simp [*]; done), by repeat (first | exact Drawn0.refl _ | apply Drawn0.step)⟩

end Go.Proofs.Ytfkgpmidcbjlbaa.P
end
section
set_option linter.unusedVariables false
set_option linter.unusedSimpArgs false
-- Written by a program of this session (a printer of walks).
namespace Go.Proofs.Ytfkgpmidcbjlbaa.P
open Go.RowKit Go.Proofs.YtfkgpmidcbjlbaaW.PrintWords Go.Proofs.YtfkgpmidcbjlbaaW.PrintLast Go.Proofs.YtfkgpmidcbjlbaaW.PrintMore
attribute [local go_sem] max2_int min2_int max_two min_two max_three min_three max_four min_four   -- for this text's walks alone
set_option linter.unusedVariables false
set_option linter.unusedSimpArgs false

/-! ### slices_Contains_string_string: function 38 -/
def slices_Contains_string_string.f (k : Nat) (l0 : List ByteArray) (a1 : ByteArray) : Option (Bool) := (slices_Index_string_string.f k l0 a1).bind fun t120 => (some (decide (t120 ≥ 0)))
theorem slices_Contains_string_string.mono : ∀ a0 a1 k, LeO (slices_Contains_string_string.f k a0 a1) (slices_Contains_string_string.f (k + 1) a0 a1) := by
  intro a0 a1 k
  unfold slices_Contains_string_string.f
  repeat' first
      | (with_reducible exact slices_Index_string_string.mono _ _ _)
      | (with_reducible exact LeO.refl _)
      | (with_reducible exact LeO.none _)
      | (with_reducible refine LeO.ite ?_ ?_)
      | (with_reducible refine LeO.bind ?_ (fun _ => ?_))
      | exact slices_Index_string_string.mono _ _ _
      | exact LeO.none _
      | refine LeO.ite ?_ ?_
      | refine LeO.bind ?_ (fun _ => ?_)
set_option maxHeartbeats 8000000 in
set_option maxRecDepth 100000 in
theorem slices_Contains_string_string.calls (k : Nat) (A0 : Option Addr) (c0 : Nat) (l0 : List ByteArray) (a1 : ByteArray) (r : Bool) (w : World) (hr0 : Kd.C Kd.string w A0 l0.length l0) (hc0 : l0.length ≤ c0) (h : slices_Contains_string_string.f k l0 a1 = some r) :
    Calls Try.prog 38 #[.slice A0 l0.length c0, .string a1] w fun e w' => e = .returned (.bool r) ∧ Drawn0 w w' := by
  have HR0 := Aside0.mk hr0
  have HC0 := Aside0.mk hc0
  clear hr0 hc0
  have H : ((slices_Index_string_string.f k l0 a1).bind fun t120 => (some (decide (t120 ≥ 0)))) = some r := h
  clear h
  replace H := Option.bind_eq_some_iff.mp H
  obtain ⟨t120, A30, H⟩ := H
  replace H : (some (decide (t120 ≥ 0))) = some r := H
  have A3 := Aside0.mk A30
  clear A30
  obtain rfl := Option.some.inj H
  go_enter Try.func38, Try.ntmps38
  go_wp2_with (first | ((with_reducible refine gate_callee (f := 65) rfl ?_); refine goesL_ (some 7) rfl rfl Try.func65 (by kernel_rfl) rfl #[.slice A0 l0.length c0, .string a1] rfl (by (try simp only [List.map_toArray, List.map_cons, List.map_nil]); first | done | rfl | (simp only [List.length_drop, List.length_take]; rfl)) ?_; (with_reducible refine (slices_Index_string_string.calls k _ _ l0 a1 t120 _ ?side1 ?side2 A3.out).mono ?_); (case side1 => repeat (first | exact HR0.out | (with_reducible refine Kd.C_alloc ?_ _) | (with_reducible refine Kd.C_drewN ?_ _) | (with_reducible refine Kd.C_drew ?_))); (case side2 => exact HC0.out); rintro e w' ⟨rfl, ⟨nd, rfl⟩⟩; refine ⟨_, rfl, ?_⟩))
  go_ret
  exact ⟨by first | rfl | (simp; done) | (simp [*]; done), by repeat (first | exact Drawn0.refl _ | apply Drawn0.step)⟩

end Go.Proofs.Ytfkgpmidcbjlbaa.P
end
section
set_option linter.unusedVariables false
set_option linter.unusedSimpArgs false
/- commitlog.Rewrite: its steps; whether a name is listed. -/
namespace Go.Proofs.Ytfkgpmidcbjlbaa.H
open Go.RowKit Go.Proofs.Ytfkgpmidcbjlbaa.U Go.Proofs.YtfkgpmidcbjlbaaW.PrintWords Go.Proofs.Ytfkgpmidcbjlbaa.P

def hasN (l : List ByteArray) (a : ByteArray) : Bool := l.any fun x => decide (x = a)
theorem hasN_iff (l : List ByteArray) (a : ByteArray) : hasN l a = true ↔ a ∈ l := by
  unfold hasN
  rw [List.any_eq_true]
  constructor
  · rintro ⟨x, hx, e⟩; rw [← of_decide_eq_true e]; exact hx
  · exact fun h => ⟨a, h, decide_eq_true rfl⟩
theorem index_l (l : List ByteArray) (a : ByteArray) (hl : l.length ≤ 1099511627776) : ∀ f i : Nat, i + f = l.length → ∃ r : Int, U.Ev (fun k => slices_Index_string_string.l0 k l a (l.length : Int) (i : Int)) r ∧ (decide (r ≥ 0) = true ↔ a ∈ l.drop i) := by
  intro f
  induction f with
  | zero =>
    intro i hi
    refine ⟨-1, ?_, ?_⟩
    · refine U.Ev.step (G := fun _ => some (-1)) (fun k => ?_) (U.Ev.pure _)
      show (if (i : Int) < (l.length : Int) then _ else some (-1)) = some (-1)
      rw [if_neg (by omega)]
    · rw [List.drop_of_length_le (by omega)]; simp
  | succ f ih =>
    intro i hi
    have hlt : i < l.length := by omega
    obtain ⟨r, hr, hiff⟩ := ih (i + 1) (by omega)
    have hrd : rdOf ByteArray.empty l (i : Int) = l[i] := by
      unfold rdOf
      rw [Int.toNat_natCast, List.getD_eq_getElem?_getD, List.getElem?_eq_getElem hlt]; rfl
    have hd : l.drop i = l[i] :: l.drop (i + 1) := List.drop_eq_getElem_cons hlt
    by_cases e : a = l[i]
    · refine ⟨(i : Int), ?_, ?_⟩
      · refine U.Ev.step (G := fun _ => some (i : Int)) (fun k => ?_) (U.Ev.pure _)
        show (if (i : Int) < (l.length : Int) then (if 0 ≤ (i : Int) then (if (i : Int) < (l.length : Int) then (if a.toList = (rdOf ByteArray.empty l (i : Int)).toList then _ else _) else none) else none) else _) = _
        rw [if_pos (by omega), if_pos (by omega), if_pos (by omega), hrd, if_pos (by rw [← e])]
      · rw [hd, e]
        exact ⟨fun _ => List.mem_cons_self, fun _ => decide_eq_true (by omega)⟩
    · refine ⟨r, ?_, ?_⟩
      · refine U.Ev.step (G := fun k => slices_Index_string_string.l0 k l a (l.length : Int) ((i + 1 : Nat) : Int)) (fun k => ?_) hr
        show (if (i : Int) < (l.length : Int) then (if 0 ≤ (i : Int) then (if (i : Int) < (l.length : Int) then (if a.toList = (rdOf ByteArray.empty l (i : Int)).toList then _ else slices_Index_string_string.l0 k l a (l.length : Int) (wrap64 ((i : Int) + 1))) else none) else none) else _) = _
        rw [if_pos (by omega), if_pos (by omega), if_pos (by omega), hrd, if_neg, w64 _ (by omega) (by omega)]
        · rfl
        · intro h
          rw [ByteArray.toList_eq, ByteArray.toList_eq] at h
          exact e (ByteArray.ext (Array.toList_inj.1 h))
      · rw [hiff, hd, List.mem_cons]
        constructor
        · exact .inr
        · rintro (h | h)
          · exact absurd h e
          · exact h
theorem contains_calls (A : Option Addr) (n c : Nat) (l : List ByteArray) (a : ByteArray) (w : World) (hr : Kd.R Kd.string 9 w 0 (fun _ => True) (.slice A n c) l) (hl : l.length ≤ 1099511627776) :
    Calls Try.prog 38 #[.slice A n c, .string a] w fun e w' => e = .returned (.bool (hasN l a)) ∧ Drawn0 w w' := by
  obtain ⟨r, hr1, hiff⟩ := index_l l a hl l.length 0 (by omega)
  have hev : U.Ev (fun k => slices_Contains_string_string.f k l a) (hasN l a) := by
    refine U.Ev.bind (g := fun k => slices_Index_string_string.f k l a) hr1 ?_
    rw [List.drop_zero] at hiff
    rw [show hasN l a = decide (r ≥ 0) from by rw [Bool.eq_iff_iff, hiff, hasN_iff]]
    exact U.Ev.pure _
  obtain ⟨k, hk⟩ := hev.get
  obtain ⟨h1, h2, h3⟩ := Kd.R_reads' hr
  subst h1
  exact slices_Contains_string_string.calls k A c l a _ w h3 h2 hk
def tmpN (n : ByteArray) : ByteArray := ⟨#[116, 109, 112, 45]⟩ ++ n
/-- what the functions of Rewrite share -/
structure Caps (w : World) (d b3 b4 b7 b12 : Nat) (n f : ByteArray) (v : Value) : Prop where
  c3 : w.cell? ⟨b3, 0, none⟩ = some (.pointer (some ⟨d, 0, none⟩))
  c4 : w.cell? ⟨b4, 0, none⟩ = some (.string n)
  c7 : w.cell? ⟨b7, 0, none⟩ = some v
  c12 : w.cell? ⟨b12, 0, none⟩ = some (.string f)
def stepS (n f : ByteArray) (b : List Int) (i : Nat) (σ : St) : St × Int :=
  match i with
  | 0 => createS σ f
  | 1 => appendS σ f b
  | 2 => syncS σ f
  | 3 => renameS σ f n
  | _ => syncDirS σ
def stepF (d b3 b4 b7 b12 : Nat) (i : Nat) : Value :=
  match i with
  | 0 => .func (Fn.func 48) #[] #[.pointer (some ⟨b3, 0, none⟩), .pointer (some ⟨b12, 0, none⟩)]
  | 1 => .func (Fn.func 50) #[] #[.pointer (some ⟨b3, 0, none⟩), .pointer (some ⟨b12, 0, none⟩), .pointer (some ⟨b7, 0, none⟩)]
  | 2 => .func (Fn.func 51) #[] #[.pointer (some ⟨b3, 0, none⟩), .pointer (some ⟨b12, 0, none⟩)]
  | 3 => .func (Fn.func 52) #[] #[.pointer (some ⟨b3, 0, none⟩), .pointer (some ⟨b12, 0, none⟩), .pointer (some ⟨b4, 0, none⟩)]
  | _ => .func (Fn.func 54) #[.pointer (some ⟨d, 0, none⟩)] #[]
section
variable {w : World} {d b3 b4 b7 b12 : Nat} {n f : ByteArray} {v : Value} {σ : St} {S : Nat → Prop} {N : Nat}
set_option maxHeartbeats 2000000 in
theorem rw1_calls (hc : Caps w d b3 b4 b7 b12 n f v) (h : DiskAt w d σ S) (hs : σ.Sound N) (hN : N ≤ 549755813888) :
    Calls Try.prog 48 #[.pointer (some ⟨b3, 0, none⟩), .pointer (some ⟨b12, 0, none⟩)] w fun e w' => e = .returned (.int .i64 (createS σ f).2) ∧ Moved w w' d (createS σ f).1 S := by
  have c3 := hc.c3
  have c12 := hc.c12
  have HC := hid (create_calls d σ S f w h hs.ok (by have := hs.cur; omega) (by have := hs.sum; omega))
  clear hc h hs hN
  go_enter Try.func48, Try.ntmps48
  go_wp2_with (go_at_call 49; refine HC.out.mono ?_; rintro e w' ⟨rfl, hm⟩; have HM := hid hm; clear hm)
  go_ret
  exact ⟨rfl, HM.out⟩
set_option maxHeartbeats 2000000 in
theorem rw2_calls (hc : Caps w d b3 b4 b7 b12 n f v) (h : DiskAt w d σ S) (hs : σ.Sound N) {b : List Int} (hN : N + b.length ≤ 549755813888) (hr : Kd.R (Kd.int .u8) 5 w 0 (fun _ => True) v b) :
    Calls Try.prog 50 #[.pointer (some ⟨b3, 0, none⟩), .pointer (some ⟨b12, 0, none⟩), .pointer (some ⟨b7, 0, none⟩)] w fun e w' => e = .returned (.int .i64 (appendS σ f b).2) ∧ Moved w w' d (appendS σ f b).1 S := by
  have c3 := hc.c3
  have c12 := hc.c12
  have c7 := hc.c7
  obtain ⟨A, m, c, rfl⟩ := R_slice3 hr
  have HC : Hid (Calls Try.prog 41 #[.pointer (some ⟨d, 0, none⟩), .string f, .slice A m c] w fun e w' => e = .returned (.int .i64 (appendS σ f b).2) ∧ Moved w w' d (appendS σ f b).1 S) := hid (by
    obtain ⟨h1, h2, h3⟩ := Kd.R_reads' hr
    subst h1
    exact append_calls d σ S f A c b w h hs.ok (fun g hg => by have := (hs.file g hg).2.1; omega) h3)
  clear hc h hs hN hr
  go_enter Try.func50, Try.ntmps50
  go_wp2_with (go_at_call 41; refine HC.out.mono ?_; rintro e w' ⟨rfl, hm⟩; have HM := hid hm; clear hm)
  go_ret
  exact ⟨rfl, HM.out⟩
set_option maxHeartbeats 2000000 in
theorem rw3_calls (hc : Caps w d b3 b4 b7 b12 n f v) (h : DiskAt w d σ S) (hs : σ.Sound N) :
    Calls Try.prog 51 #[.pointer (some ⟨b3, 0, none⟩), .pointer (some ⟨b12, 0, none⟩)] w fun e w' => e = .returned (.int .i64 (syncS σ f).2) ∧ Moved w w' d (syncS σ f).1 S := by
  have c3 := hc.c3
  have c12 := hc.c12
  have HC := hid (sync_calls d σ S f w h hs.ok)
  clear hc h hs
  go_enter Try.func51, Try.ntmps51
  go_wp2_with (go_at_call 42; refine HC.out.mono ?_; rintro e w' ⟨rfl, hm⟩; have HM := hid hm; clear hm)
  go_ret
  exact ⟨rfl, HM.out⟩
set_option maxHeartbeats 2000000 in
theorem rw4_calls (hc : Caps w d b3 b4 b7 b12 n f v) (h : DiskAt w d σ S) (hs : σ.Sound N) (hN : N ≤ 549755813888) :
    Calls Try.prog 52 #[.pointer (some ⟨b3, 0, none⟩), .pointer (some ⟨b12, 0, none⟩), .pointer (some ⟨b4, 0, none⟩)] w fun e w' => e = .returned (.int .i64 (renameS σ f n).2) ∧ Moved w w' d (renameS σ f n).1 S := by
  have c3 := hc.c3
  have c4 := hc.c4
  have c12 := hc.c12
  have HC := hid (rename_calls d σ S f n w h (by have := hs.cur; omega) (by have := hs.sum; omega))
  clear hc h hs hN
  go_enter Try.func52, Try.ntmps52
  go_wp2_with (go_at_call 53; refine HC.out.mono ?_; rintro e w' ⟨rfl, hm⟩; have HM := hid hm; clear hm)
  go_ret
  exact ⟨rfl, HM.out⟩
end
theorem St.Sound.step {σ : St} {N : Nat} (h : σ.Sound N) (n f : ByteArray) (b : List Int) (hb : Bytes b) (i : Nat) : (stepS n f b i σ).1.Sound (N + b.length + 1) := by
  unfold stepS
  split
  · exact (h.create f).mono (by omega)
  · exact (h.append f b hb).mono (by omega)
  · exact (h.sync f).mono (by omega)
  · exact (h.rename f n).mono (by omega)
  · exact h.syncDir.mono (by omega)
def runS (n f : ByteArray) (b : List Int) : Nat → Nat → St → St × Int
  | 0, _, σ => (σ, 0)
  | k + 1, i, σ => if (stepS n f b i σ).2 = 0 then runS n f b k (i + 1) (stepS n f b i σ).1 else stepS n f b i σ
def preS (f : ByteArray) (σ : St) : St × Int := if hasN (listS σ) f = true then removeS σ f else (σ, 0)
def replaceS (σ : St) (n : ByteArray) (b : List Int) : St × Int :=
  if (preS (tmpN n) σ).2 = 0 then runS n (tmpN n) b 5 0 (preS (tmpN n) σ).1 else preS (tmpN n) σ
def encAll : List LE → List Int → List Int × Int
  | [], acc => (acc, 0)
  | x :: r, acc => if (encE x).2 = 0 then encAll r (acc ++ (encE x).1) else (acc, (encE x).2)
def rewriteS (σ : St) (n : ByteArray) (E : List LE) : St × Int :=
  if E.length > 65536 then (σ, 18) else if (encAll E []).2 = 0 then replaceS σ n (encAll E []).1 else (σ, (encAll E []).2)
/-- the world in which the five steps are walked -/
structure Five (w : World) (d b3 b4 b7 b12 g : Nat) (n f : ByteArray) (v : Value) (acc : List Int) (S : Nat → Prop) : Prop where
  caps : Caps w d b3 b4 b7 b12 n f v
  row : Kd.R (Kd.int .u8) 5 w 0 (fun _ => True) v acc
  fns : ∀ i, i < 5 → w.cell? ⟨g, i, none⟩ = some (stepF d b3 b4 b7 b12 i)
  off : ∀ k, S k → k ≠ b3 ∧ k ≠ b4 ∧ k ≠ b7 ∧ k ≠ b12 ∧ k ≠ g ∧ some k ≠ v.ownBlock
  lt : b3 < w.heap.size ∧ b4 < w.heap.size ∧ b7 < w.heap.size ∧ b12 < w.heap.size ∧ g < w.heap.size
theorem cell_same {w w1 : World} {b : Nat} (h : w1.heap[b]? = w.heap[b]?) (j : Nat) : w1.cell? ⟨b, j, none⟩ = w.cell? ⟨b, j, none⟩ := World.cell?_of_block (a := ⟨b, j, none⟩) h
theorem Five.kept {w w1 : World} {d b3 b4 b7 b12 g : Nat} {n f : ByteArray} {v : Value} {acc : List Int} {S : Nat → Prop} (h : Five w d b3 b4 b7 b12 g n f v acc S) (hk : Kept w w1 S) : Five w1 d b3 b4 b7 b12 g n f v acc S where
  caps := ⟨(cell_same (hk.2 b3 h.lt.1 (fun hs => (h.off _ hs).1 rfl)) 0).trans h.caps.c3, (cell_same (hk.2 b4 h.lt.2.1 (fun hs => (h.off _ hs).2.1 rfl)) 0).trans h.caps.c4, (cell_same (hk.2 b7 h.lt.2.2.1 (fun hs => (h.off _ hs).2.2.1 rfl)) 0).trans h.caps.c7, (cell_same (hk.2 b12 h.lt.2.2.2.1 (fun hs => (h.off _ hs).2.2.2.1 rfl)) 0).trans h.caps.c12⟩
  row := row_same rfl h.row (fun j hj => hk.2 j (Kd.N_lt (Kd.R_N h.row) j hj) (fun hs => (h.off _ hs).2.2.2.2.2 hj.symm))
  fns := fun i hi => (cell_same (hk.2 g h.lt.2.2.2.2 (fun hs => (h.off _ hs).2.2.2.2.1 rfl)) i).trans (h.fns i hi)
  off := h.off
  lt := ⟨Nat.lt_of_lt_of_le h.lt.1 hk.1, Nat.lt_of_lt_of_le h.lt.2.1 hk.1, Nat.lt_of_lt_of_le h.lt.2.2.1 hk.1, Nat.lt_of_lt_of_le h.lt.2.2.2.1 hk.1, Nat.lt_of_lt_of_le h.lt.2.2.2.2 hk.1⟩
end Go.Proofs.Ytfkgpmidcbjlbaa.H
end
