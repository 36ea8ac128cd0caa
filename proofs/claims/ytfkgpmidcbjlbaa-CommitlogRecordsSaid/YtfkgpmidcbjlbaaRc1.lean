/- For every log entry, byte slice and offset, the law CommitlogRecords of package laminalaw24 returns true and leaves its arguments as they were; no condition. -/
import Derived.Test.YtfkgpmidcbjlbaaB1
import Derived.Lib.SmallJoins
import Derived.Deep.Slices
import Derived.Deep.Fields
import Derived.ChangeSame
import Derived.OpenShut
import Derived.ProofKit
import Derived.Test.YtfkgpmidcbjlbaaB7
import Derived.Test.YtfkgpmidcbjlbaaB8
import Derived.Test.YtfkgpmidcbjlbaaRows
import Derived.WalkKit
import Derived.ShutString
import Derived.ChangeOld
import Derived.Below
import Derived.SizedLaws
import Derived.Carry
section
set_option linter.unusedVariables false
set_option linter.unusedSimpArgs false
/- Arguments of a law, opened: bytes, an entry, rows of entries and of what is said about files. -/
namespace Go.Proofs.Ytfkgpmidcbjlbaa.H
open Go.Joins Go.ChangeShapes Go.WideShapes Go.RowKit Go.Deep Go.Proofs.Ytfkgpmidcbjlbaa.P Go.Proofs.YtfkgpmidcbjlbaaW.PrintWords
section
variable {H : Type} {enc : TypeId × Value → H} {P : Program} {w : World} {base : Nat} {spare : Nat → Bool} {held : Bool}
theorem open_agg6 {r : Reach} {b0 : Nat} {t : TypeId} {f0 f1 f2 f3 f4 f5 : Field} {v : Value} {d : DataW H} {p : List MemPlace} (hs : P.underlying t = some (.struct #[f0, f1, f2, f3, f4, f5])) (hone : oneCellFields P #[f0, f1, f2, f3, f4, f5] = true) (hC : P.cellsOf t = 6)
    (hv : Value.okWide P w r b0 t v) (h : DataW.Trod enc P w base spare held t v d p) :
    ∃ (v0 v1 v2 v3 v4 v5 : Value) (y0 y1 y2 y3 y4 y5 : DataW H × List MemPlace) (n : Nat), v = .agg #[v0, v1, v2, v3, v4, v5] ∧ d = .agg [y0.1, y1.1, y2.1, y3.1, y4.1, y5.1] ∧ p = y0.2 ++ (y1.2 ++ (y2.2 ++ (y3.2 ++ (y4.2 ++ y5.2)))) ∧
      DataW.trod enc P w base spare held n f0.type [v0] = some y0 ∧ DataW.trod enc P w base spare held n f1.type [v1] = some y1 ∧ DataW.trod enc P w base spare held n f2.type [v2] = some y2 ∧ DataW.trod enc P w base spare held n f3.type [v3] = some y3 ∧ DataW.trod enc P w base spare held n f4.type [v4] = some y4 ∧ DataW.trod enc P w base spare held n f5.type [v5] = some y5 := by
  obtain ⟨cs, rfl, hsz⟩ := okWide_struct hs hv
  obtain ⟨l⟩ := cs
  match l, hsz.trans hC with
  | [c0, c1, c2, c3, c4, c5], _ =>
    obtain ⟨fuel, hf⟩ := h
    obtain ⟨xs, n, _, hx, _, hlen, hg⟩ := DataW.trod_struct hs hf
    obtain ⟨o0, k0⟩ := hone_of hone 0 f0 rfl
    obtain ⟨o1, k1⟩ := hone_of hone 1 f1 rfl
    obtain ⟨o2, k2⟩ := hone_of hone 2 f2 rfl
    obtain ⟨o3, k3⟩ := hone_of hone 3 f3 rfl
    obtain ⟨o4, k4⟩ := hone_of hone 4 f4 rfl
    obtain ⟨o5, k5⟩ := hone_of hone 5 f5 rfl
    match xs, hlen with
    | [y0, y1, y2, y3, y4, y5], _ =>
      simp only [Prod.mk.injEq] at hx
      exact ⟨c0, c1, c2, c3, c4, c5, y0, y1, y2, y3, y4, y5, n, rfl, by simpa using hx.1, by simpa using hx.2, by simpa [Value.cells, o0, k0] using hg 0 f0 rfl, by simpa [Value.cells, o1, k1] using hg 1 f1 rfl, by simpa [Value.cells, o2, k2] using hg 2 f2 rfl, by simpa [Value.cells, o3, k3] using hg 3 f3 rfl, by simpa [Value.cells, o4, k4] using hg 4 f4 rfl, by simpa [Value.cells, o5, k5] using hg 5 f5 rfl⟩
theorem open_slice_fields {t e : TypeId} {fs : Array Field} {fuel : Nat} {cs : List Value} {x : DataW H × List MemPlace} (ht : P.underlying t = some (.slice e)) (he : P.underlying e = some (.struct fs))
    (hone : oneCellFields P fs = true) (hC : P.cellsOf e = fs.size) (h : DataW.trod enc P w base spare held fuel t cs = some x) :
    (cs = [.slice none 0 0] ∧ x = (.nil, [])) ∨
    ∃ (a : Addr) (len cap m : Nat) (D : Nat → DataW H) (Pl : Nat → List MemPlace), cs = [.slice (some a) len cap] ∧ base ≤ a.block ∧ len ≤ cap ∧ cap ≤ maxLen ∧ m = (if spare a.block then cap else len) ∧
      x = (.slice ((List.range len).map D) ((List.range (m - len)).map fun j => D (len + j)), MemPlace.row a (m * fs.size) ++ (List.range m).flatMap Pl) ∧
      ∀ i, i < m → ∃ (ys : List (DataW H × List MemPlace)) (n : Nat), D i = .agg (ys.map (·.1)) ∧ Pl i = ys.flatMap (·.2) ∧ ys.length = fs.size ∧
        ∀ (j : Nat) (f : Field), fs[j]? = some f → ∃ (v : Value) (y : DataW H × List MemPlace), w.cell? (a.add (i * fs.size + j)) = some v ∧ ys[j]? = some y ∧ DataW.trod enc P w base spare held n f.type [v] = some y := by
  rcases open_slice ht h with h0 | ⟨a, len, cap, m, n, D, Pl, hcs, hb, hl, hm, hmm, hx, hi⟩
  · exact .inl h0
  · refine .inr ⟨a, len, cap, m, D, Pl, hcs, hb, hl, hm, hmm, by rw [hC] at hx; exact hx, fun i him => ?_⟩
    obtain ⟨cs', hc, ht'⟩ := hi i him
    rw [hC] at hc
    obtain ⟨ys, n', hn', hy, hlen, hyl, hf⟩ := DataW.trod_struct he ht'
    obtain ⟨_, hcl, hat⟩ := World.cells?_some hc
    simp only [Prod.mk.injEq] at hy
    refine ⟨ys, n', hy.1, hy.2, hyl, fun j f hj => ?_⟩
    obtain ⟨ho, hk⟩ := hone_of hone j f hj
    have hjl : j < fs.size := (Array.getElem?_eq_some_iff.1 hj).1
    have hcell := hat j hjl
    have hv : cs'[j]? = some (cs'[j]'(by omega)) := List.getElem?_eq_getElem (by omega)
    have h1 := hf j f hj
    rw [ho, hk] at h1
    have hone' : (cs'.drop j).take 1 = [cs'[j]'(by omega)] := by
      rw [List.drop_eq_getElem_cons (by omega)]
      rfl
    rw [hone'] at h1
    have hys : ys[j]? = some (ys[j]'(by omega)) := List.getElem?_eq_getElem (by omega)
    refine ⟨_, _, ?_, hys, h1.trans hys⟩
    rw [← Go.Deep.add_add, hcell, hv]
end
/-- an entry's numbers are int64, its name is a string -/
structure EWf (x : LE) : Prop where
  k : (Lit.int .i64 x.f0).wf = true
  i : (Lit.int .i64 x.f1).wf = true
  p : (Lit.int .i64 x.f2).wf = true
  m : (Lit.int .i64 x.f3).wf = true
  t : (Lit.int .i64 x.f4).wf = true
  n : x.f5.size ≤ maxLen
theorem wf_lt {n : Int} (h : (Lit.int .i64 n).wf = true) : n < 9223372036854775808 := by
  have := bounds_i64 h
  omega
theorem EWf.small {x : LE} (h : EWf x) : Small x := ⟨wf_lt h.i, wf_lt h.p, wf_lt h.m, wf_lt h.t⟩
section
variable {H : Type} {enc : TypeId × Value → H} {w : World} {base : Nat} {spare : Nat → Bool} {held : Bool}
set_option maxRecDepth 100000 in
theorem open_entry {r : Reach} {b0 : Nat} {v : Value} {d : DataW H} {p : List MemPlace} (hv : Value.okWide Try.prog w r b0 23 v) (h : DataW.Trod enc Try.prog w base spare held 23 v d p) : ∃ x : LE, v = .agg (rowE x) ∧ EWf x := by
  obtain ⟨v0, v1, v2, v3, v4, v5, y0, y1, y2, y3, y4, y5, n, rfl, _, _, h0, h1, h2, h3, h4, h5⟩ := open_agg6 Try.underlying23 (by kernel_rfl) (by kernel_rfl) hv h
  obtain ⟨n0, e0, _, w0⟩ := DataW.trod_int Try.underlying3 h0
  obtain ⟨n1, e1, _, w1⟩ := DataW.trod_int Try.underlying2 h1
  obtain ⟨n2, e2, _, w2⟩ := DataW.trod_int Try.underlying2 h2
  obtain ⟨n3, e3, _, w3⟩ := DataW.trod_int Try.underlying2 h3
  obtain ⟨n4, e4, _, w4⟩ := DataW.trod_int Try.underlying2 h4
  obtain ⟨s, e5, _, w5⟩ := DataW.trod_string Try.underlying9 h5
  simp only [List.cons.injEq, and_true] at e0 e1 e2 e3 e4 e5
  subst e0 e1 e2 e3 e4 e5
  exact ⟨⟨n0, n1, n2, n3, n4, s⟩, rfl, w0, w1, w2, w3, w4, w5⟩
set_option maxRecDepth 100000 in
theorem open_bytes {r : Reach} {b0 : Nat} {v : Value} {d : DataW H} {p : List MemPlace} (hv : Value.okWide Try.prog w r b0 24 v) (h : DataW.Trod enc Try.prog w base (fun _ => true) held 24 v d p) :
    ∃ (A : Option Addr) (c : Nat) (l : List Int), v = .slice A l.length c ∧ l.length ≤ c ∧ Kd.C (Kd.int .u8) w A l.length l ∧ U.Bytes l := by
  obtain ⟨a0, len0, cap0, rfl⟩ := okWide_slice Try.underlying24 hv
  obtain ⟨fuel, hf⟩ := h
  have hrow : ∃ zs : List Int, (a0 = none ∧ len0 = 0 ∧ cap0 = 0 ∧ zs = []) ∨ ∃ x, a0 = some x ∧ len0 ≤ cap0 ∧ cap0 ≤ maxLen ∧ zs.length = cap0 ∧ (∀ i, i < zs.length → w.cell? (x.add i) = some (.int .u8 (zs.getD i 0))) ∧ ∀ n ∈ zs, (Lit.int .u8 n).wf = true := by
    rcases open_ints Try.underlying24 Try.underlying5 (by kernel_rfl) hf with ⟨hcs, _⟩ | ⟨x, l, c, zs, hcs, _, hl, hm, hz, _, hcell, hwz⟩
    · simp [Value.cells] at hcs
      obtain ⟨rfl, rfl, rfl⟩ := hcs
      exact ⟨[], .inl ⟨rfl, rfl, rfl, rfl⟩⟩
    · simp [Value.cells] at hcs
      obtain ⟨rfl, rfl, rfl⟩ := hcs
      exact ⟨zs, .inr ⟨_, rfl, hl, hm, by simpa using hz, hcell, hwz⟩⟩
  obtain ⟨zs, hz⟩ := hrow
  obtain ⟨l, rfl, hr, hm, hw, hc⟩ := ReadsInt.ofRowC hz
  refine ⟨a0, cap0, l, rfl, hc, Kd.C_of_reads (d := (0 : Int)) (h1 := fun _ => rfl) hr, fun n hn => ?_⟩
  have := bounds_u8 (hw n hn)
  omega
/-- a row of cells, as a row of structs -/
theorem rowC {α : Type} {k : Kd α} {a : Addr} {len : Nat} (f : Nat → α) (hl : len ≤ 9223372036854775807) (h : ∀ i, i < len → ∃ cs : List Value, cs.length = k.sz ∧ k.K w (f i) cs ∧ ∀ j u, cs[j]? = some u → w.cell? (a.add (i * k.sz + j)) = some u) :
    Kd.C k w (some a) ((List.range len).map f).length ((List.range len).map f) := by
  refine ⟨rfl, by simpa using hl, fun _ => ⟨a, rfl, fun j p hj => ?_⟩⟩
  rw [List.getElem?_map] at hj
  have hj2 : j < len ∧ f j = p := by
    by_cases hlt : j < len
    · rw [List.getElem?_range hlt] at hj
      exact ⟨hlt, Option.some.inj hj⟩
    · rw [List.getElem?_eq_none (by simp; omega)] at hj
      cases hj
  obtain ⟨cs, h1, h2, h3⟩ := h j hj2.1
  rw [hj2.2] at h2
  exact ⟨cs, h1, h2, h3⟩
set_option maxRecDepth 100000 in
theorem open_entries {r : Reach} {b0 : Nat} {v : Value} {d : DataW H} {p : List MemPlace} (hv : Value.okWide Try.prog w r b0 36 v) (h : DataW.Trod enc Try.prog w base (fun _ => true) held 36 v d p) :
    ∃ (A : Option Addr) (c : Nat) (l : List LE), v = .slice A l.length c ∧ l.length ≤ c ∧ Kd.C k23 w A l.length l ∧ ∀ x ∈ l, EWf x := by
  obtain ⟨a0, len0, cap0, rfl⟩ := okWide_slice Try.underlying36 hv
  obtain ⟨fuel, hf⟩ := h
  rcases open_slice_fields Try.underlying36 Try.underlying23 (by kernel_rfl) (by kernel_rfl) hf with ⟨hcs, _⟩ | ⟨a, len, cap, m, D, Pl, hcs, _, hl, hm, hmm, _, hi⟩
  · simp [Value.cells] at hcs
    obtain ⟨rfl, rfl, rfl⟩ := hcs
    exact ⟨none, 0, [], rfl, Nat.le_refl _, Kd.C_nil _ _, fun x hx => (by cases hx)⟩
  · simp [Value.cells] at hcs
    obtain ⟨rfl, rfl, rfl⟩ := hcs
    obtain rfl : m = cap0 := by simpa using hmm
    clear hmm
    have hrow : ∀ i, ∃ x : LE, i < len0 → EWf x ∧ ∀ j u, (rowE x).toList[j]? = some u → w.cell? (a.add (i * 6 + j)) = some u := fun i => by
      by_cases hlt : i < len0
      · obtain ⟨ys, n, _, _, hy, hj⟩ := hi i (by omega)
        obtain ⟨v0, y0, c0, _, h0⟩ := hj 0 _ rfl
        obtain ⟨v1, y1, c1, _, h1⟩ := hj 1 _ rfl
        obtain ⟨v2, y2, c2, _, h2⟩ := hj 2 _ rfl
        obtain ⟨v3, y3, c3, _, h3⟩ := hj 3 _ rfl
        obtain ⟨v4, y4, c4, _, h4⟩ := hj 4 _ rfl
        obtain ⟨v5, y5, c5, _, h5⟩ := hj 5 _ rfl
        obtain ⟨n0, e0, _, w0⟩ := DataW.trod_int Try.underlying3 h0
        obtain ⟨n1, e1, _, w1⟩ := DataW.trod_int Try.underlying2 h1
        obtain ⟨n2, e2, _, w2⟩ := DataW.trod_int Try.underlying2 h2
        obtain ⟨n3, e3, _, w3⟩ := DataW.trod_int Try.underlying2 h3
        obtain ⟨n4, e4, _, w4⟩ := DataW.trod_int Try.underlying2 h4
        obtain ⟨s, e5, _, w5⟩ := DataW.trod_string Try.underlying9 h5
        simp only [List.cons.injEq, and_true] at e0 e1 e2 e3 e4 e5
        subst e0 e1 e2 e3 e4 e5
        refine ⟨⟨n0, n1, n2, n3, n4, s⟩, fun _ => ⟨⟨w0, w1, w2, w3, w4, w5⟩, fun j u hu => ?_⟩⟩
        match j, hu with
        | 0, hu => obtain rfl := Option.some.inj hu; exact c0
        | 1, hu => obtain rfl := Option.some.inj hu; exact c1
        | 2, hu => obtain rfl := Option.some.inj hu; exact c2
        | 3, hu => obtain rfl := Option.some.inj hu; exact c3
        | 4, hu => obtain rfl := Option.some.inj hu; exact c4
        | 5, hu => obtain rfl := Option.some.inj hu; exact c5
        | j + 6, hu => cases hu
      · exact ⟨⟨0, 0, 0, 0, 0, ⟨#[]⟩⟩, fun h => absurd h hlt⟩
    obtain ⟨f, hf⟩ := Classical.axiomOfChoice hrow
    have hlen : ((List.range len0).map f).length = len0 := by simp
    refine ⟨some a, _, (List.range len0).map f, by rw [hlen], by rw [hlen]; exact hl, rowC f (by unfold maxLen at hm; omega) (fun i hlt => ⟨(rowE (f i)).toList, rfl, k23_mk w (f i), (hf i hlt).2⟩), fun x hx => ?_⟩
    obtain ⟨i, hi2, rfl⟩ := List.mem_map.1 hx
    exact (hf i (List.mem_range.1 hi2)).1
set_option maxRecDepth 100000 in
theorem open_crash {r : Reach} {b0 : Nat} {v : Value} {d : DataW H} {p : List MemPlace} (hv : Value.okWide Try.prog w r b0 43 v) (h : DataW.Trod enc Try.prog w base (fun _ => true) held 43 v d p) :
    ∃ (A : Option Addr) (c : Nat) (l : List (Int × Bool)), v = .slice A l.length c ∧ l.length ≤ c ∧ Kd.C (Kd.raw 2) w A l.length (l.map cfRow) := by
  obtain ⟨a0, len0, cap0, rfl⟩ := okWide_slice Try.underlying43 hv
  obtain ⟨fuel, hf⟩ := h
  rcases open_slice_fields Try.underlying43 Try.underlying92 (by kernel_rfl) (by kernel_rfl) hf with ⟨hcs, _⟩ | ⟨a, len, cap, m, D, Pl, hcs, _, hl, hm, hmm, _, hi⟩
  · simp [Value.cells] at hcs
    obtain ⟨rfl, rfl, rfl⟩ := hcs
    exact ⟨none, 0, [], rfl, Nat.le_refl _, Kd.C_nil _ _⟩
  · simp [Value.cells] at hcs
    obtain ⟨rfl, rfl, rfl⟩ := hcs
    obtain rfl : m = cap0 := by simpa using hmm
    clear hmm
    have hrow : ∀ i, ∃ x : Int × Bool, i < len0 → ∀ j u, (cfRow x)[j]? = some u → w.cell? (a.add (i * 2 + j)) = some u := fun i => by
      by_cases hlt : i < len0
      · obtain ⟨ys, n, _, _, hy, hj⟩ := hi i (by omega)
        obtain ⟨v0, y0, c0, _, h0⟩ := hj 0 _ rfl
        obtain ⟨v1, y1, c1, _, h1⟩ := hj 1 _ rfl
        obtain ⟨n0, e0, _, w0⟩ := DataW.trod_int Try.underlying3 h0
        obtain ⟨n1, e1, _⟩ := DataW.trod_bool Try.underlying4 h1
        simp only [List.cons.injEq, and_true] at e0 e1
        subst e0 e1
        refine ⟨(n0, n1), fun _ j u hu => ?_⟩
        match j, hu with
        | 0, hu => obtain rfl := Option.some.inj hu; exact c0
        | 1, hu => obtain rfl := Option.some.inj hu; exact c1
        | j + 2, hu => cases hu
      · exact ⟨(0, false), fun h => absurd h hlt⟩
    obtain ⟨f, hf⟩ := Classical.axiomOfChoice hrow
    have hlen : ((List.range len0).map f).length = len0 := by simp
    have hc := rowC (w := w) (k := Kd.raw 2) (a := a) (len := len0) (fun i => cfRow (f i)) (by unfold maxLen at hm; omega) (fun i hlt => ⟨cfRow (f i), rfl, ⟨rfl, rfl, fun u hu => by unfold cfRow at hu; simp at hu; rcases hu with rfl | rfl <;> rfl⟩, hf i hlt⟩)
    refine ⟨some a, _, (List.range len0).map f, by rw [hlen], by rw [hlen]; exact hl, ?_⟩
    rw [List.map_map, hlen]
    rw [List.length_map, List.length_range] at hc
    exact hc
end
end Go.Proofs.Ytfkgpmidcbjlbaa.H
end
section
set_option linter.unusedVariables false
set_option linter.unusedSimpArgs false
/- laminalaw24.CommitlogRecords, walked. -/
namespace Go.Proofs.Ytfkgpmidcbjlbaa.H
open Go.RowKit Go.Proofs.Ytfkgpmidcbjlbaa.U Go.Proofs.YtfkgpmidcbjlbaaW.PrintWords Go.Proofs.Ytfkgpmidcbjlbaa.P
attribute [local go_sem high] eqA23

theorem encR_calls (x : LE) (hs : Small x) (w : World) :
    Calls Try.prog 10 #[.agg (rowE x)] w fun e w' => ∃ v0 : Value, e = .returned (.tuple #[v0, .int .i64 (encE x).2]) ∧ Kd.R (Kd.int .u8) 5 w' w.heap.size (fun _ => True) v0 (encE x).1 ∧ Below w.heap.size w w' := by
  unfold encE
  cases hv : vE x with
  | true =>
    obtain ⟨k, hk⟩ := (rec_ref _ _ _ _ _ _ (hs.good hv)).get
    rw [if_pos rfl]
    exact laminaref24_Encode.calls k _ _ _ _ _ _ _ _ w hk
  | false =>
    obtain ⟨k, hk⟩ := (rec_ref_no x.f0 x.f1 x.f2 x.f3 x.f4 x.f5 hv).get
    rw [if_neg (by decide)]
    exact laminaref24_Encode.calls k _ _ _ _ _ _ _ _ w hk
set_option maxRecDepth 100000 in
set_option maxHeartbeats 4000000 in
theorem records_lives (x : LE) (A0 : Option Addr) (n0 c0 : Nat) (off : Int) (w : World) (h : (500 : Int) < (x.f5.size : Int) ∨ (1000 : Int) < (n0 : Int)) :
    Calls Try.prog 3 #[.agg (rowE x), .slice A0 n0 c0, .int .i64 off] w fun e w' => e = .returned (.bool true) ∧ Below w.heap.size w w' := by
  obtain ⟨x0, x1, x2, x3, x4, x5⟩ := x
  dsimp only [rowE] at h ⊢
  by_cases h1 : (500 : Int) < (x5.size : Int)
  · have h1b : decide ((500 : Int) < (x5.size : Int)) = true := decide_eq_true h1
    clear h
    go_enter Try.func3, Try.ntmps3
    go_wp2_with (go_at_call 8; refine (lives_calls _).mono ?_; rintro e w2 ⟨rfl, hb2⟩; have HB2 := hid hb2; clear hb2)
    go_ret
    exact ⟨rfl, ((Below.refl _ _).alloc (Nat.le_refl _) _).trans (HB2.out.mono (by simp))⟩
  · have h2 : (1000 : Int) < (n0 : Int) := h.resolve_left h1
    have h1b : decide ((500 : Int) < (x5.size : Int)) = false := decide_eq_false h1
    clear h
    go_enter Try.func3, Try.ntmps3
    go_wp2_with (go_at_call 8; refine (lives_calls _).mono ?_; rintro e w2 ⟨rfl, hb2⟩; have HB2 := hid hb2; clear hb2)
    go_ret
    exact ⟨rfl, ((Below.refl _ _).alloc (Nat.le_refl _) _).trans (HB2.out.mono (by simp))⟩
set_option maxRecDepth 100000 in
set_option maxHeartbeats 4000000 in
theorem records_main (x : LE) (hs : Small x) (A0 : Option Addr) (c0 : Nat) (l0 : List Int) (off : Int) (w : World) (hr0 : Kd.C (Kd.int .u8) w A0 l0.length l0) (hc0 : l0.length ≤ c0) (hb : Bytes l0) (h1 : ¬ (500 : Int) < (x.f5.size : Int)) (h2 : ¬ (1000 : Int) < (l0.length : Int)) :
    Calls Try.prog 3 #[.agg (rowE x), .slice A0 l0.length c0, .int .i64 off] w fun e w' => e = .returned (.bool true) ∧ Below w.heap.size w w' := by
  have HI := hid (encE_calls x hs)
  have HR := hid (encR_calls x hs)
  have HC := hid hr0
  have HC0 := hid hc0
  obtain ⟨ki, hki⟩ := (decode_impl l0 off hb (by omega)).get
  obtain ⟨kr, hkr⟩ := (decode_ref l0 off hb (by omega)).get
  have HB0 := hid (heap_alloc_new w (.cells (rowE x) 23))
  generalize encE x = be at HI HR
  obtain ⟨b, eb⟩ := be
  generalize decodeS l0 off = D at hki hkr
  obtain ⟨d1, d2, d3, d4, d5, d6, d7, d8⟩ := D
  have HKI := hid hki
  have HKR := hid hkr
  have h1b : decide ((500 : Int) < (x.f5.size : Int)) = false := decide_eq_false h1
  have hx5 : (w.alloc (.cells (rowE x) 23)).cell? ⟨w.heap.size, 5, none⟩ = some (.string x.f5) := cell_blk HB0.out 5
  have hstr : ((strOfNums b).toList == (strOfNums b).toList) = true := by simp
  clear hki hkr hs hr0 hc0 hb h1
  dsimp only at HI HR
  go_enter Try.func3, Try.ntmps3
  go_wp2_with (first
    | (refine wpList_load_row rfl 23 (.tmp 3) rfl w.heap.size rfl 23 (rowE x) (0, 0) _ (by first | exact HB0.out | exact HBK.out) Try.underlying23 rfl (by kernel_rfl) ?_)
    | (go_at_call 9; refine (HI.out _).mono ?_; rintro e w1 ⟨v1, rfl, hr1, hb1⟩; obtain ⟨A1, c1, rfl⟩ := Kd.R_slice hr1; have HR1 := hid hr1; have HB1 := hid (((Below.refl w.heap.size w).alloc (Nat.le_refl _) (.cells (rowE x) 23)).trans (hb1.mono (by simp))); have HBK := hid ((hb1.block _ (by simp)).trans HB0.out); clear hr1 hb1)
    | (go_at_call 10; refine (HR.out _).mono ?_; rintro e w2 ⟨v2, rfl, hr2, hb2⟩; obtain ⟨A2, c2, rfl⟩ := Kd.R_slice hr2; have HR2 := hid hr2; have HB12 := hid hb2; have HB2 := hid (HB1.out.trans (hb2.mono HB1.out.size)); clear hr2 hb2)
    | (go_at_call 11; refine (commitlog_Decode.calls ki A0 c0 l0 off _ _ _ _ _ _ _ _ _ (Kd.C_below HC.out HB2.out) HC0.out HKI.out).mono ?_; rintro e w3 ⟨rfl, hb3⟩; have HB23 := hid hb3; have HB3 := hid (HB2.out.trans (hb3.mono HB2.out.size)); clear hb3)
    | (go_at_call 12; refine (laminaref24_Decode.calls kr A0 c0 l0 off _ _ _ _ _ _ _ _ _ (Kd.C_below HC.out (HB3.out.alloc HB3.out.size _)) HC0.out HKR.out).mono ?_; rintro e w4 ⟨rfl, hb4⟩; have HB34 := hid (((Below.refl w3.heap.size w3).alloc (Nat.le_refl _) (.cells #[.int .i64 d1, .int .i64 d2, .int .i64 d3, .int .i64 d4, .int .i64 d5, .string d6] 23)).trans (hb4.mono (by simp))); have hk4 := (hb4.block _ (by simp)).trans (heap_alloc_new w3 (.cells #[.int .i64 d1, .int .i64 d2, .int .i64 d3, .int .i64 d4, .int .i64 d5, .string d6] 23)); have HK4 := hid hk4; have HB4 := hid (HB3.out.trans (HB34.out.mono HB3.out.size)); have HW14 := hid (HB12.out.trans ((HB23.out.trans (HB34.out.mono HB23.out.size)).mono HB12.out.size)); have HW24 := hid (HB23.out.trans (HB34.out.mono HB23.out.size)); have hv1 := Kd.C_string (src := 24) (dst := 9) (c := c1) Try.underlying24 Try.underlying5 Try.underlying9 (Kd.C_alloc (Kd.C_below (Kd.R_reads' HR1.out).2.2 HW14.out) (.cells #[.int .i64 d1, .int .i64 d2, .int .i64 d3, .int .i64 d4, .int .i64 d5, .string d6] 23)); have hv2 := Kd.C_string (src := 24) (dst := 9) (c := c2) Try.underlying24 Try.underlying5 Try.underlying9 (Kd.C_alloc (Kd.C_below (Kd.R_reads' HR2.out).2.2 HW24.out) (.cells #[.int .i64 d1, .int .i64 d2, .int .i64 d3, .int .i64 d4, .int .i64 d5, .string d6] 23)); have z0 := cell_blk hk4 0; have z1 := cell_blk hk4 1; have z2 := cell_blk hk4 2; have z3 := cell_blk hk4 3; have z4 := cell_blk hk4 4; have z5 := cell_blk hk4 5; simp only [List.getElem?_toArray] at z0 z1 z2 z3 z4 z5; have hl34 : w3.heap.size < w4.heap.size := (by have := hb4.size; simp at this; omega); clear hb4 hk4)
    | (go_at_call 8; refine (lives_calls _).mono ?_; rintro e w5 ⟨rfl, hb5⟩; have HB5 := hid hb5; clear hb5))
  go_ret
  exact ⟨rfl, (HB4.out.alloc HB4.out.size _).trans (HB5.out.mono (by have := HB4.out.size; simp; omega))⟩
theorem records_law (x : LE) (h : EWf x) {w : World} (A : Option Addr) (c : Nat) (l : List Int) (hc : l.length ≤ c) (hr : Kd.C (Kd.int .u8) w A l.length l) (hb : Bytes l) (off : Int) (_ : (Lit.int .i64 off).wf = true) :
    ∀ w', w' = w → Calls Try.prog 3 #[.agg (rowE x), .slice A l.length c, .int .i64 off] w' fun e w2 => e = .returned (.bool true) ∧ Below w'.heap.size w' w2 := by
  rintro w' rfl
  by_cases h1 : (500 : Int) < (x.f5.size : Int)
  · exact records_lives x A l.length c off w' (.inl h1)
  · by_cases h2 : (1000 : Int) < (l.length : Int)
    · exact records_lives x A l.length c off w' (.inr h2)
    · exact records_main x h.small A c l off w' hr hc hb h1 h2
end Go.Proofs.Ytfkgpmidcbjlbaa.H
end
section
set_option linter.unusedVariables false
set_option linter.unusedSimpArgs false
namespace Go.Proofs.Ytfkgpmidcbjlbaa.commitlogRecords
open Go.ChangeShapes Go.WideShapes Go.ChangeAt Go.RowKit Go.Proofs.Ytfkgpmidcbjlbaa.H
open Go.ChangeMaps (open_string shut_string)
set_option linter.unusedVariables false
theorem own : ownKnob Try.prog.godebug = none := by kernel_rfl
theorem laidOut : laidOutB Try.prog = true := by kernel_rfl
set_option maxRecDepth 100000 in
theorem lifted (os : Os) (started : os.Started) (H : Type) (enc : TypeId × Value → H) :
    ReturnsInHanded {} Try.checked os 3 .any (Rows.commitlogRecordsSpec.pre6 enc Try.prog Try.f3 Rows.commitlogRecordsRow.domain false) (Rows.commitlogRecordsSpec.post enc Try.prog Try.f3 false true false false) := by
  refine returnsInHanded_of_change_sized (C := Try.checked) own started (by kernel_rfl) Try.func3
    (ChangeSpec.witness6 (enc := enc) (C := Try.checked) false ⟨#[], #[.agg #[.int .i64 0, .int .i64 0, .int .i64 0, .int .i64 0, .int .i64 0, .string ByteArray.empty], .slice none 0 0, .int .i64 0], []⟩ 8 (by kernel_rfl) (by kernel_rfl) (by kernel_rfl) (by kernel_rfl)) ?_
  intro W base args ds gs before hval0 hW hcnd hsz0 _
  have hval : ∀ (j : Nat) t v, Try.f3.params[j]? = some t → args[j]? = some v → Value.okWide Try.prog W .any base t v := hval0
  have hW' := hW
  obtain ⟨p, q, hA0, hV, rfl, hfz, hnd⟩ := hW
  have hA : DataW.TrodAll enc Try.prog W 0 (fun _ => true) true Try.f3.params.toList args.toList ds p := hA0
  rw [Try.params3] at hA hval
  obtain ⟨v0, vs0, d0, ds0, p0, q0, hargs, rfl, rfl, h0, r0⟩ := trodAll_cons hA
  obtain ⟨v1, vs1, d1, ds1, p1, q1, rfl, rfl, rfl, h1, r1⟩ := trodAll_cons r0
  obtain ⟨v2, vs2, d2, ds2, p2, q2, rfl, rfl, rfl, h2, r2⟩ := trodAll_cons r1
  obtain ⟨rfl, rfl, rfl⟩ := trodAll_nil r2
  obtain rfl : args = #[v0, v1, v2] := by cases args; simp_all
  obtain ⟨rfl, rfl⟩ := trodVars_none hV
  have k0 := h0
  have lt0 : ∀ x ∈ p0, x.block < W.heap.size := by obtain ⟨m, hm⟩ := k0; exact DataW.trod_lt m _ _ _ hm
  obtain ⟨x0, rfl, w0⟩ := open_entry (hval 0 23 v0 rfl rfl) h0
  have k1 := h1
  have lt1 : ∀ x ∈ p1, x.block < W.heap.size := by obtain ⟨m, hm⟩ := k1; exact DataW.trod_lt m _ _ _ hm
  obtain ⟨a1, c1, l1, rfl, y1, w1, u1⟩ := open_bytes (hval 1 24 v1 rfl rfl) h1
  obtain ⟨a2, rfl, rfl, rfl, w2⟩ := open_int Try.underlying3 (hval 2 3 v2 rfl rfl) h2
  clear hA0 hval0 hsz0
  refine (records_law x0 w0 a1 c1 l1 y1 w1 u1 a2 w2 W rfl).mono fun e W' ⟨he, bel⟩ => ?_
  subst he
  exact ⟨_, rfl, _, _, _, [], _, [], hW', trodAll_mk1 (shut_bool Try.underlying4 _), (trodAll_cons_mk (Below.trod laidOut (by kernel_rfl) (of_decide_eq_true (by kernel_rfl)) k0 bel lt0) (trodAll_cons_mk (Below.trod laidOut (by kernel_rfl) (of_decide_eq_true (by kernel_rfl)) k1 bel lt1) (trodAll_cons_mk (shut_int Try.underlying3 w2) trodAll_mk0))), rfl, bel.frame _, fun h => by cases h⟩
theorem over : Rows.commitlogRecordsRow.holds Try.pinned (OpenSpec.ofChange Rows.commitlogRecordsSpec) :=
  OpenClaim.holds_of_wide 3 Try.f3 rfl rfl rfl rfl rfl rfl rfl ⟨rfl, rfl, rfl, rfl, rfl⟩ rfl rfl rfl rfl rfl (by kernel_rfl) Try.func3 (by kernel_rfl)
    (of_decide_eq_true (by kernel_rfl)) (by unfold Func.isWrapper; first | (rw [if_pos (by decide +kernel)]; kernel_rfl) | (rw [if_neg (by decide +kernel)]; exact ⟨rfl, rfl⟩))
    (fun os started H enc _ => lifted os started H enc)
theorem proved : Rows.CommitlogRecordsSaid := over
end Go.Proofs.Ytfkgpmidcbjlbaa.commitlogRecords
namespace Go.Proofs.Ytfkgpmidcbjlbaa
/-- The row, under a short name, for the claim. -/
theorem commitlogRecords_holds : Rows.CommitlogRecordsSaid := commitlogRecords.proved
end Go.Proofs.Ytfkgpmidcbjlbaa
end
