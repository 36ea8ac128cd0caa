/- For all byte slices b and more, the law CommitlogPrefix of package laminalaw24 returns true and leaves its arguments as they were; no condition. -/
import Derived.Test.YtfkgpmidcbjlbaaB1
import Derived.Lib.SmallJoins
import Derived.Deep.Slices
import Derived.Deep.Fields
import Derived.ChangeSame
import Derived.OpenShut
import Derived.ProofKit
import Derived.Test.YtfkgpmidcbjlbaaB7
import Derived.Test.YtfkgpmidcbjlbaaB8
import Derived.Test.YtfkgpmidcbjlbaaRows
import Derived.WalkKit
import Derived.ShutString
import Derived.ChangeOld
import Derived.Below
import Derived.SizedLaws
import Derived.Carry
section
set_option linter.unusedVariables false
set_option linter.unusedSimpArgs false
/- Arguments of a law, opened: bytes, an entry, rows of entries and of what is said about files. -/
namespace Go.Proofs.Ytfkgpmidcbjlbaa.H
open Go.Joins Go.ChangeShapes Go.WideShapes Go.RowKit Go.Deep Go.Proofs.Ytfkgpmidcbjlbaa.P Go.Proofs.YtfkgpmidcbjlbaaW.PrintWords
section
variable {H : Type} {enc : TypeId × Value → H} {P : Program} {w : World} {base : Nat} {spare : Nat → Bool} {held : Bool}
theorem open_agg6 {r : Reach} {b0 : Nat} {t : TypeId} {f0 f1 f2 f3 f4 f5 : Field} {v : Value} {d : DataW H} {p : List MemPlace} (hs : P.underlying t = some (.struct #[f0, f1, f2, f3, f4, f5])) (hone : oneCellFields P #[f0, f1, f2, f3, f4, f5] = true) (hC : P.cellsOf t = 6)
    (hv : Value.okWide P w r b0 t v) (h : DataW.Trod enc P w base spare held t v d p) :
    ∃ (v0 v1 v2 v3 v4 v5 : Value) (y0 y1 y2 y3 y4 y5 : DataW H × List MemPlace) (n : Nat), v = .agg #[v0, v1, v2, v3, v4, v5] ∧ d = .agg [y0.1, y1.1, y2.1, y3.1, y4.1, y5.1] ∧ p = y0.2 ++ (y1.2 ++ (y2.2 ++ (y3.2 ++ (y4.2 ++ y5.2)))) ∧
      DataW.trod enc P w base spare held n f0.type [v0] = some y0 ∧ DataW.trod enc P w base spare held n f1.type [v1] = some y1 ∧ DataW.trod enc P w base spare held n f2.type [v2] = some y2 ∧ DataW.trod enc P w base spare held n f3.type [v3] = some y3 ∧ DataW.trod enc P w base spare held n f4.type [v4] = some y4 ∧ DataW.trod enc P w base spare held n f5.type [v5] = some y5 := by
  obtain ⟨cs, rfl, hsz⟩ := okWide_struct hs hv
  obtain ⟨l⟩ := cs
  match l, hsz.trans hC with
  | [c0, c1, c2, c3, c4, c5], _ =>
    obtain ⟨fuel, hf⟩ := h
    obtain ⟨xs, n, _, hx, _, hlen, hg⟩ := DataW.trod_struct hs hf
    obtain ⟨o0, k0⟩ := hone_of hone 0 f0 rfl
    obtain ⟨o1, k1⟩ := hone_of hone 1 f1 rfl
    obtain ⟨o2, k2⟩ := hone_of hone 2 f2 rfl
    obtain ⟨o3, k3⟩ := hone_of hone 3 f3 rfl
    obtain ⟨o4, k4⟩ := hone_of hone 4 f4 rfl
    obtain ⟨o5, k5⟩ := hone_of hone 5 f5 rfl
    match xs, hlen with
    | [y0, y1, y2, y3, y4, y5], _ =>
      simp only [Prod.mk.injEq] at hx
      exact ⟨c0, c1, c2, c3, c4, c5, y0, y1, y2, y3, y4, y5, n, rfl, by simpa using hx.1, by simpa using hx.2, by simpa [Value.cells, o0, k0] using hg 0 f0 rfl, by simpa [Value.cells, o1, k1] using hg 1 f1 rfl, by simpa [Value.cells, o2, k2] using hg 2 f2 rfl, by simpa [Value.cells, o3, k3] using hg 3 f3 rfl, by simpa [Value.cells, o4, k4] using hg 4 f4 rfl, by simpa [Value.cells, o5, k5] using hg 5 f5 rfl⟩
theorem open_slice_fields {t e : TypeId} {fs : Array Field} {fuel : Nat} {cs : List Value} {x : DataW H × List MemPlace} (ht : P.underlying t = some (.slice e)) (he : P.underlying e = some (.struct fs))
    (hone : oneCellFields P fs = true) (hC : P.cellsOf e = fs.size) (h : DataW.trod enc P w base spare held fuel t cs = some x) :
    (cs = [.slice none 0 0] ∧ x = (.nil, [])) ∨
    ∃ (a : Addr) (len cap m : Nat) (D : Nat → DataW H) (Pl : Nat → List MemPlace), cs = [.slice (some a) len cap] ∧ base ≤ a.block ∧ len ≤ cap ∧ cap ≤ maxLen ∧ m = (if spare a.block then cap else len) ∧
      x = (.slice ((List.range len).map D) ((List.range (m - len)).map fun j => D (len + j)), MemPlace.row a (m * fs.size) ++ (List.range m).flatMap Pl) ∧
      ∀ i, i < m → ∃ (ys : List (DataW H × List MemPlace)) (n : Nat), D i = .agg (ys.map (·.1)) ∧ Pl i = ys.flatMap (·.2) ∧ ys.length = fs.size ∧
        ∀ (j : Nat) (f : Field), fs[j]? = some f → ∃ (v : Value) (y : DataW H × List MemPlace), w.cell? (a.add (i * fs.size + j)) = some v ∧ ys[j]? = some y ∧ DataW.trod enc P w base spare held n f.type [v] = some y := by
  rcases open_slice ht h with h0 | ⟨a, len, cap, m, n, D, Pl, hcs, hb, hl, hm, hmm, hx, hi⟩
  · exact .inl h0
  · refine .inr ⟨a, len, cap, m, D, Pl, hcs, hb, hl, hm, hmm, by rw [hC] at hx; exact hx, fun i him => ?_⟩
    obtain ⟨cs', hc, ht'⟩ := hi i him
    rw [hC] at hc
    obtain ⟨ys, n', hn', hy, hlen, hyl, hf⟩ := DataW.trod_struct he ht'
    obtain ⟨_, hcl, hat⟩ := World.cells?_some hc
    simp only [Prod.mk.injEq] at hy
    refine ⟨ys, n', hy.1, hy.2, hyl, fun j f hj => ?_⟩
    obtain ⟨ho, hk⟩ := hone_of hone j f hj
    have hjl : j < fs.size := (Array.getElem?_eq_some_iff.1 hj).1
    have hcell := hat j hjl
    have hv : cs'[j]? = some (cs'[j]'(by omega)) := List.getElem?_eq_getElem (by omega)
    have h1 := hf j f hj
    rw [ho, hk] at h1
    have hone' : (cs'.drop j).take 1 = [cs'[j]'(by omega)] := by
      rw [List.drop_eq_getElem_cons (by omega)]
      rfl
    rw [hone'] at h1
    have hys : ys[j]? = some (ys[j]'(by omega)) := List.getElem?_eq_getElem (by omega)
    refine ⟨_, _, ?_, hys, h1.trans hys⟩
    rw [← Go.Deep.add_add, hcell, hv]
end
/-- an entry's numbers are int64, its name is a string -/
structure EWf (x : LE) : Prop where
  k : (Lit.int .i64 x.f0).wf = true
  i : (Lit.int .i64 x.f1).wf = true
  p : (Lit.int .i64 x.f2).wf = true
  m : (Lit.int .i64 x.f3).wf = true
  t : (Lit.int .i64 x.f4).wf = true
  n : x.f5.size ≤ maxLen
theorem wf_lt {n : Int} (h : (Lit.int .i64 n).wf = true) : n < 9223372036854775808 := by
  have := bounds_i64 h
  omega
theorem EWf.small {x : LE} (h : EWf x) : Small x := ⟨wf_lt h.i, wf_lt h.p, wf_lt h.m, wf_lt h.t⟩
section
variable {H : Type} {enc : TypeId × Value → H} {w : World} {base : Nat} {spare : Nat → Bool} {held : Bool}
set_option maxRecDepth 100000 in
theorem open_entry {r : Reach} {b0 : Nat} {v : Value} {d : DataW H} {p : List MemPlace} (hv : Value.okWide Try.prog w r b0 23 v) (h : DataW.Trod enc Try.prog w base spare held 23 v d p) : ∃ x : LE, v = .agg (rowE x) ∧ EWf x := by
  obtain ⟨v0, v1, v2, v3, v4, v5, y0, y1, y2, y3, y4, y5, n, rfl, _, _, h0, h1, h2, h3, h4, h5⟩ := open_agg6 Try.underlying23 (by kernel_rfl) (by kernel_rfl) hv h
  obtain ⟨n0, e0, _, w0⟩ := DataW.trod_int Try.underlying3 h0
  obtain ⟨n1, e1, _, w1⟩ := DataW.trod_int Try.underlying2 h1
  obtain ⟨n2, e2, _, w2⟩ := DataW.trod_int Try.underlying2 h2
  obtain ⟨n3, e3, _, w3⟩ := DataW.trod_int Try.underlying2 h3
  obtain ⟨n4, e4, _, w4⟩ := DataW.trod_int Try.underlying2 h4
  obtain ⟨s, e5, _, w5⟩ := DataW.trod_string Try.underlying9 h5
  simp only [List.cons.injEq, and_true] at e0 e1 e2 e3 e4 e5
  subst e0 e1 e2 e3 e4 e5
  exact ⟨⟨n0, n1, n2, n3, n4, s⟩, rfl, w0, w1, w2, w3, w4, w5⟩
set_option maxRecDepth 100000 in
theorem open_bytes {r : Reach} {b0 : Nat} {v : Value} {d : DataW H} {p : List MemPlace} (hv : Value.okWide Try.prog w r b0 24 v) (h : DataW.Trod enc Try.prog w base (fun _ => true) held 24 v d p) :
    ∃ (A : Option Addr) (c : Nat) (l : List Int), v = .slice A l.length c ∧ l.length ≤ c ∧ Kd.C (Kd.int .u8) w A l.length l ∧ U.Bytes l := by
  obtain ⟨a0, len0, cap0, rfl⟩ := okWide_slice Try.underlying24 hv
  obtain ⟨fuel, hf⟩ := h
  have hrow : ∃ zs : List Int, (a0 = none ∧ len0 = 0 ∧ cap0 = 0 ∧ zs = []) ∨ ∃ x, a0 = some x ∧ len0 ≤ cap0 ∧ cap0 ≤ maxLen ∧ zs.length = cap0 ∧ (∀ i, i < zs.length → w.cell? (x.add i) = some (.int .u8 (zs.getD i 0))) ∧ ∀ n ∈ zs, (Lit.int .u8 n).wf = true := by
    rcases open_ints Try.underlying24 Try.underlying5 (by kernel_rfl) hf with ⟨hcs, _⟩ | ⟨x, l, c, zs, hcs, _, hl, hm, hz, _, hcell, hwz⟩
    · simp [Value.cells] at hcs
      obtain ⟨rfl, rfl, rfl⟩ := hcs
      exact ⟨[], .inl ⟨rfl, rfl, rfl, rfl⟩⟩
    · simp [Value.cells] at hcs
      obtain ⟨rfl, rfl, rfl⟩ := hcs
      exact ⟨zs, .inr ⟨_, rfl, hl, hm, by simpa using hz, hcell, hwz⟩⟩
  obtain ⟨zs, hz⟩ := hrow
  obtain ⟨l, rfl, hr, hm, hw, hc⟩ := ReadsInt.ofRowC hz
  refine ⟨a0, cap0, l, rfl, hc, Kd.C_of_reads (d := (0 : Int)) (h1 := fun _ => rfl) hr, fun n hn => ?_⟩
  have := bounds_u8 (hw n hn)
  omega
/-- a row of cells, as a row of structs -/
theorem rowC {α : Type} {k : Kd α} {a : Addr} {len : Nat} (f : Nat → α) (hl : len ≤ 9223372036854775807) (h : ∀ i, i < len → ∃ cs : List Value, cs.length = k.sz ∧ k.K w (f i) cs ∧ ∀ j u, cs[j]? = some u → w.cell? (a.add (i * k.sz + j)) = some u) :
    Kd.C k w (some a) ((List.range len).map f).length ((List.range len).map f) := by
  refine ⟨rfl, by simpa using hl, fun _ => ⟨a, rfl, fun j p hj => ?_⟩⟩
  rw [List.getElem?_map] at hj
  have hj2 : j < len ∧ f j = p := by
    by_cases hlt : j < len
    · rw [List.getElem?_range hlt] at hj
      exact ⟨hlt, Option.some.inj hj⟩
    · rw [List.getElem?_eq_none (by simp; omega)] at hj
      cases hj
  obtain ⟨cs, h1, h2, h3⟩ := h j hj2.1
  rw [hj2.2] at h2
  exact ⟨cs, h1, h2, h3⟩
set_option maxRecDepth 100000 in
theorem open_entries {r : Reach} {b0 : Nat} {v : Value} {d : DataW H} {p : List MemPlace} (hv : Value.okWide Try.prog w r b0 36 v) (h : DataW.Trod enc Try.prog w base (fun _ => true) held 36 v d p) :
    ∃ (A : Option Addr) (c : Nat) (l : List LE), v = .slice A l.length c ∧ l.length ≤ c ∧ Kd.C k23 w A l.length l ∧ ∀ x ∈ l, EWf x := by
  obtain ⟨a0, len0, cap0, rfl⟩ := okWide_slice Try.underlying36 hv
  obtain ⟨fuel, hf⟩ := h
  rcases open_slice_fields Try.underlying36 Try.underlying23 (by kernel_rfl) (by kernel_rfl) hf with ⟨hcs, _⟩ | ⟨a, len, cap, m, D, Pl, hcs, _, hl, hm, hmm, _, hi⟩
  · simp [Value.cells] at hcs
    obtain ⟨rfl, rfl, rfl⟩ := hcs
    exact ⟨none, 0, [], rfl, Nat.le_refl _, Kd.C_nil _ _, fun x hx => (by cases hx)⟩
  · simp [Value.cells] at hcs
    obtain ⟨rfl, rfl, rfl⟩ := hcs
    obtain rfl : m = cap0 := by simpa using hmm
    clear hmm
    have hrow : ∀ i, ∃ x : LE, i < len0 → EWf x ∧ ∀ j u, (rowE x).toList[j]? = some u → w.cell? (a.add (i * 6 + j)) = some u := fun i => by
      by_cases hlt : i < len0
      · obtain ⟨ys, n, _, _, hy, hj⟩ := hi i (by omega)
        obtain ⟨v0, y0, c0, _, h0⟩ := hj 0 _ rfl
        obtain ⟨v1, y1, c1, _, h1⟩ := hj 1 _ rfl
        obtain ⟨v2, y2, c2, _, h2⟩ := hj 2 _ rfl
        obtain ⟨v3, y3, c3, _, h3⟩ := hj 3 _ rfl
        obtain ⟨v4, y4, c4, _, h4⟩ := hj 4 _ rfl
        obtain ⟨v5, y5, c5, _, h5⟩ := hj 5 _ rfl
        obtain ⟨n0, e0, _, w0⟩ := DataW.trod_int Try.underlying3 h0
        obtain ⟨n1, e1, _, w1⟩ := DataW.trod_int Try.underlying2 h1
        obtain ⟨n2, e2, _, w2⟩ := DataW.trod_int Try.underlying2 h2
        obtain ⟨n3, e3, _, w3⟩ := DataW.trod_int Try.underlying2 h3
        obtain ⟨n4, e4, _, w4⟩ := DataW.trod_int Try.underlying2 h4
        obtain ⟨s, e5, _, w5⟩ := DataW.trod_string Try.underlying9 h5
        simp only [List.cons.injEq, and_true] at e0 e1 e2 e3 e4 e5
        subst e0 e1 e2 e3 e4 e5
        refine ⟨⟨n0, n1, n2, n3, n4, s⟩, fun _ => ⟨⟨w0, w1, w2, w3, w4, w5⟩, fun j u hu => ?_⟩⟩
        match j, hu with
        | 0, hu => obtain rfl := Option.some.inj hu; exact c0
        | 1, hu => obtain rfl := Option.some.inj hu; exact c1
        | 2, hu => obtain rfl := Option.some.inj hu; exact c2
        | 3, hu => obtain rfl := Option.some.inj hu; exact c3
        | 4, hu => obtain rfl := Option.some.inj hu; exact c4
        | 5, hu => obtain rfl := Option.some.inj hu; exact c5
        | j + 6, hu => cases hu
      · exact ⟨⟨0, 0, 0, 0, 0, ⟨#[]⟩⟩, fun h => absurd h hlt⟩
    obtain ⟨f, hf⟩ := Classical.axiomOfChoice hrow
    have hlen : ((List.range len0).map f).length = len0 := by simp
    refine ⟨some a, _, (List.range len0).map f, by rw [hlen], by rw [hlen]; exact hl, rowC f (by unfold maxLen at hm; omega) (fun i hlt => ⟨(rowE (f i)).toList, rfl, k23_mk w (f i), (hf i hlt).2⟩), fun x hx => ?_⟩
    obtain ⟨i, hi2, rfl⟩ := List.mem_map.1 hx
    exact (hf i (List.mem_range.1 hi2)).1
set_option maxRecDepth 100000 in
theorem open_crash {r : Reach} {b0 : Nat} {v : Value} {d : DataW H} {p : List MemPlace} (hv : Value.okWide Try.prog w r b0 43 v) (h : DataW.Trod enc Try.prog w base (fun _ => true) held 43 v d p) :
    ∃ (A : Option Addr) (c : Nat) (l : List (Int × Bool)), v = .slice A l.length c ∧ l.length ≤ c ∧ Kd.C (Kd.raw 2) w A l.length (l.map cfRow) := by
  obtain ⟨a0, len0, cap0, rfl⟩ := okWide_slice Try.underlying43 hv
  obtain ⟨fuel, hf⟩ := h
  rcases open_slice_fields Try.underlying43 Try.underlying92 (by kernel_rfl) (by kernel_rfl) hf with ⟨hcs, _⟩ | ⟨a, len, cap, m, D, Pl, hcs, _, hl, hm, hmm, _, hi⟩
  · simp [Value.cells] at hcs
    obtain ⟨rfl, rfl, rfl⟩ := hcs
    exact ⟨none, 0, [], rfl, Nat.le_refl _, Kd.C_nil _ _⟩
  · simp [Value.cells] at hcs
    obtain ⟨rfl, rfl, rfl⟩ := hcs
    obtain rfl : m = cap0 := by simpa using hmm
    clear hmm
    have hrow : ∀ i, ∃ x : Int × Bool, i < len0 → ∀ j u, (cfRow x)[j]? = some u → w.cell? (a.add (i * 2 + j)) = some u := fun i => by
      by_cases hlt : i < len0
      · obtain ⟨ys, n, _, _, hy, hj⟩ := hi i (by omega)
        obtain ⟨v0, y0, c0, _, h0⟩ := hj 0 _ rfl
        obtain ⟨v1, y1, c1, _, h1⟩ := hj 1 _ rfl
        obtain ⟨n0, e0, _, w0⟩ := DataW.trod_int Try.underlying3 h0
        obtain ⟨n1, e1, _⟩ := DataW.trod_bool Try.underlying4 h1
        simp only [List.cons.injEq, and_true] at e0 e1
        subst e0 e1
        refine ⟨(n0, n1), fun _ j u hu => ?_⟩
        match j, hu with
        | 0, hu => obtain rfl := Option.some.inj hu; exact c0
        | 1, hu => obtain rfl := Option.some.inj hu; exact c1
        | j + 2, hu => cases hu
      · exact ⟨(0, false), fun h => absurd h hlt⟩
    obtain ⟨f, hf⟩ := Classical.axiomOfChoice hrow
    have hlen : ((List.range len0).map f).length = len0 := by simp
    have hc := rowC (w := w) (k := Kd.raw 2) (a := a) (len := len0) (fun i => cfRow (f i)) (by unfold maxLen at hm; omega) (fun i hlt => ⟨cfRow (f i), rfl, ⟨rfl, rfl, fun u hu => by unfold cfRow at hu; simp at hu; rcases hu with rfl | rfl <;> rfl⟩, hf i hlt⟩)
    refine ⟨some a, _, (List.range len0).map f, by rw [hlen], by rw [hlen]; exact hl, ?_⟩
    rw [List.map_map, hlen]
    rw [List.length_map, List.length_range] at hc
    exact hc
end
end Go.Proofs.Ytfkgpmidcbjlbaa.H
end
section
set_option linter.unusedVariables false
set_option linter.unusedSimpArgs false
/- laminalaw24.CommitlogPrefix, walked. -/
namespace Go.Proofs.Ytfkgpmidcbjlbaa.H
open Go.RowKit Go.Proofs.Ytfkgpmidcbjlbaa.U Go.Proofs.YtfkgpmidcbjlbaaW.PrintWords Go.Proofs.Ytfkgpmidcbjlbaa.P

theorem scan_calls' (l : List Int) (hb : Bytes l) (hl : l.length ≤ 1099511627776) {base : Nat} {ok : Nat → Prop} (A : Option Addr) (n c : Nat) (w : World) (hr : Kd.R (Kd.int .u8) 5 w base ok (.slice A n c) l) :
    Calls Try.prog 13 #[.slice A n c] w fun e w' => ∃ v0 : Value, e = .returned (.tuple #[v0, .int .i64 (scanA l).2]) ∧ Kd.R k23 23 w' w.heap.size (fun _ => True) v0 (scanA l).1 ∧ Below w.heap.size w w' := by
  obtain ⟨k, hk⟩ := (scan_impl l hb (by omega)).get
  obtain ⟨h1, h2, h3⟩ := Kd.R_reads' hr
  subst h1
  exact commitlog_Scan.calls k A c l _ _ w h3 h2 hk
set_option maxRecDepth 100000 in
set_option maxHeartbeats 4000000 in
theorem prefix_lives (A0 : Option Addr) (n0 c0 : Nat) (A1 : Option Addr) (n1 c1 : Nat) (w : World) (h : (2000 : Int) < (n0 : Int) ∨ (500 : Int) < (n1 : Int)) :
    Calls Try.prog 5 #[.slice A0 n0 c0, .slice A1 n1 c1] w fun e w' => e = .returned (.bool true) ∧ Below w.heap.size w w' := by
  by_cases h1 : (2000 : Int) < (n0 : Int)
  · have h1b : decide ((2000 : Int) < (n0 : Int)) = true := decide_eq_true h1
    clear h
    go_enter Try.func5, Try.ntmps5
    go_wp2_with (go_at_call 8; refine (lives_calls _).mono ?_; rintro e w2 ⟨rfl, hb2⟩; have HB2 := hid hb2; clear hb2)
    go_ret
    exact ⟨rfl, HB2.out⟩
  · have h2 : (500 : Int) < (n1 : Int) := h.resolve_left h1
    have h1b : decide ((2000 : Int) < (n0 : Int)) = false := decide_eq_false h1
    clear h
    go_enter Try.func5, Try.ntmps5
    go_wp2_with (go_at_call 8; refine (lives_calls _).mono ?_; rintro e w2 ⟨rfl, hb2⟩; have HB2 := hid hb2; clear hb2)
    go_ret
    exact ⟨rfl, HB2.out⟩
theorem scan_more (E : List LE) (more : List Int) (hG : ∀ x ∈ E, GoodE x) (hl : E.length ≤ 65536) (hb : Bytes more) : ∃ (M : List LE) (e : Nat), scanA (recsE E ++ more) = (E ++ M, (e : Int)) ∧ (recsE E).length ≤ e := by
  rw [scanA_recs E more hG hl]
  obtain ⟨M, e, h1, h2, _⟩ := scanS_ok (recsE E ++ more) ((recsE_bytes E).app hb) ((recsE E ++ more).length + 1 - E.length) (recsE E).length E (by simp) hl
  exact ⟨M, e, h1, h2⟩
theorem encE_good {x : LE} (h : GoodE x) : encE x = (recE x, 0) := by
  unfold encE
  rw [if_pos (show vE x = true from h.v)]
theorem recsE_take {E : List LE} {j : Nat} (hj : j < E.length) : recsE (E.take (j + 1)) = recsE (E.take j) ++ recE E[j] := by
  unfold recsE
  rw [List.take_succ_eq_append_getElem hj, List.flatMap_append]
  simp
set_option maxRecDepth 100000 in
set_option maxHeartbeats 4000000 in
theorem prefix_main (A0 : Option Addr) (c0 : Nat) (l0 : List Int) (A1 : Option Addr) (c1 : Nat) (l1 : List Int) (w : World) (hc0 : l0.length ≤ c0) (hr0 : Kd.C (Kd.int .u8) w A0 l0.length l0) (hb0 : Bytes l0) (hc1 : l1.length ≤ c1) (hr1 : Kd.C (Kd.int .u8) w A1 l1.length l1) (hb1 : Bytes l1)
    (h1 : ¬ (2000 : Int) < (l0.length : Int)) (h2 : ¬ (500 : Int) < (l1.length : Int)) :
    Calls Try.prog 5 #[.slice A0 l0.length c0, .slice A1 l1.length c1] w fun e w' => e = .returned (.bool true) ∧ Below w.heap.size w w' := by
  obtain ⟨ks, hks⟩ := (scan_impl l0 hb0 (by omega)).get
  obtain ⟨E, e0, hE, he, hG, htk, hEl⟩ := scanA_ok l0 hb0
  rw [hE] at hks
  have HKS := hid hks
  have HC := hid hc0
  have HR := hid hr0
  have HC1 := hid hc1
  have HR1 := hid hr1
  have HG := hid hG
  have HTK := hid htk
  have hel : E.length ≤ 65536 := hEl
  have h1b : decide ((2000 : Int) < (l0.length : Int)) = false := decide_eq_false h1
  have hem : E.length ≤ 9223372036854775807 := by omega
  have h2b : decide ((500 : Int) < (l1.length : Int)) = false := decide_eq_false h2
  have h3b : decide ((e0 : Int) < 0) = false := decide_eq_false (by omega)
  have h4b : decide (l0.length < e0) = false := decide_eq_false (by omega)
  have h5b : decide ((l0.length : Int) < (e0 : Int)) = false := decide_eq_false (by omega)
  have HB1 := hid hb1
  clear hks hc0 hr0 hb0 hc1 hr1 hb1 hE hG htk hEl
  go_enter Try.func5, Try.ntmps5
  go_wp2_with (first
    | (go_at_call 13; refine (commitlog_Scan.calls ks A0 c0 l0 E _ _ HR.out HC.out HKS.out).mono ?_; rintro e w1 ⟨v1, rfl, hr1, hb1⟩; obtain ⟨AE, cE, rfl⟩ := Kd.R_slice hr1; have HRE := hid hr1; have HBE := hid hb1; clear hr1 hb1))
  go_loopw [7, 8] (fun v u wr => ∃ (j : Nat), u = .int .i64 (j : Int) ∧ Hid (j ≤ E.length) ∧ Hid (Kd.R (Kd.int .u8) 5 wr w1.heap.size (fun _ => True) v (recsE (E.take j))) ∧ Hid (Below w1.heap.size w1 wr)) (fun _ u _ => E.length - (intOf u).toNat)
  case atStart => exact ⟨0, rfl, Nat.zero_le _, Kd.R_nil _ _ _ _ _, Below.refl _ _⟩
  case round =>
    obtain ⟨j, rfl, HJ, HO, HB⟩ := hrel
    obtain ⟨Av, nv, cv, rfl⟩ := R_slice3 HO.out
    by_cases hlt : (j : Int) < (E.length : Int)
    · have hjl : j < E.length := by omega
      have HLT := hid hlt
      have HGX := hid (HG.out _ (List.getElem_mem hjl))
      have HTS := hid (recsE_take hjl)
      obtain ⟨ad, hAE, hx0, hx1, hx2, hx3, hx4, hx5⟩ := at_T23 (Kd.C_below (Kd.R_reads' HRE.out).2.2 HB.out) (j : Int) (by omega) (by omega)
      subst hAE
      have hrd : rd_T23 E (j : Int) = E[j] := by
        unfold rd_T23
        rw [Int.toNat_natCast, List.getD_eq_getElem?_getD, List.getElem?_eq_getElem hjl]; rfl
      rw [hrd, Int.toNat_natCast] at hx0 hx1 hx2 hx3 hx4 hx5
      have htl : (E.take j).length ≤ E.length := by rw [List.length_take]; omega
      have HRL := hid (show (recsE (E.take j)).length ≤ 97 * E.length from Nat.le_trans (recsE_len _ (fun x hx => HG.out x (List.mem_of_mem_take hx))) (Nat.mul_le_mul_left 97 htl))
      clear htl
      generalize E[j] = x at HGX HTS hx0 hx1 hx2 hx3 hx4 hx5
      clear hrd hjl
      have HEN := hid (fun (w2 : World) => (show Calls Try.prog 9 #[.agg #[.int .i64 x.f0, .int .i64 x.f1, .int .i64 x.f2, .int .i64 x.f3, .int .i64 x.f4, .string x.f5]] w2 fun e w' => ∃ v0 : Value, e = .returned (.tuple #[v0, .int .i64 0]) ∧ Kd.R (Kd.int .u8) 5 w' w2.heap.size (fun _ => True) v0 (recE x) ∧ Below w2.heap.size w2 w' by
        have := encE_calls x (small_of_good HGX.out) w2
        rw [encE_good HGX.out] at this
        exact this))
      have HXL := hid (recE_len x HGX.out).2
      generalize recE x = b at HEN HTS HXL
      generalize recsE (E.take j) = acc at HTS HO HRL
      go_wp2_with (first
        | (go_at_call 9; refine (HEN.out _).mono ?_; rintro e w2 ⟨v2, rfl, hr2, hb2⟩; obtain ⟨A2, c2, rfl⟩ := Kd.R_slice hr2; have HR2 := hid hr2; have HB2 := hid (HB.out.trans (hb2.mono HB.out.size)); have HB12 := hid hb2; clear hr2 hb2)
        | (at_builtin; refine Kd.R_append_rows (Kd.int .u8) (w0 := w1) w1.heap.size rfl (.tmp 51) (.tmp 52) 24 5 (.int .u8 0) 1 rfl Try.underlying24 infoU8e rfl (by decide) (by decide) _ acc b _ _ _ (fun _ => True) (fun _ => False) rfl rfl (Kd.R_below HO.out HB12.out) (Kd.R_reads' HR2.out).2.2 (fun _ _ h => h) (fun _ h => h.elim) (fun _ _ => trivial) HB2.out HB2.out.size (by have := HRL.out; have := HXL.out; omega) ?_; intro v3 w3 ho hb3 _ _; have HO3 := hid ho; have HB3 := hid hb3; clear ho hb3))
      go_roundw
      case rel => exact ⟨j + 1, rfl, hid (by have := HLT.out; omega), by rw [HTS.out]; exact HO3.out, HB3.out⟩
      case measure => exact less_succ HLT.out (by omega)
    · obtain rfl : j = E.length := by have := HJ.out; omega
      obtain ⟨M, e2, hM, hge⟩ := scan_more E l1 HG.out hel HB1.out
      have hE0 : (l0.take e0).length = e0 := by rw [List.length_take]; omega
      rw [← HTK.out, hE0] at hge
      rw [← HTK.out] at hM
      have HO2 := hid (show Kd.R (Kd.int .u8) 5 wr w1.heap.size (fun _ => True) (.slice Av nv cv) (l0.take e0) by have := HO.out; rw [List.take_length, ← HTK.out] at this; exact this)
      have hby : Bytes (l0.take e0 ++ l1) := by rw [HTK.out]; exact (recsE_bytes E).app HB1.out
      have HL0 := hid (show (l0.take e0).length ≤ 2000 by rw [hE0]; omega)
      have HSC := hid (fun (wz : World) (A : Option Addr) (n c : Nat) {base : Nat} (hr : Kd.R (Kd.int .u8) 5 wz base (fun _ => True) (.slice A n c) (l0.take e0 ++ l1)) => scan_calls' _ hby (by have := HL0.out; rw [List.length_append]; omega) A n c wz hr)
      rw [hM] at HSC
      have hnv : nv = e0 := by rw [(Kd.R_reads' HO2.out).1, hE0]
      subst hnv
      have HCO := hid (show Kd.C (Kd.int .u8) wr Av nv (l0.take nv) by have := (Kd.R_reads' HO2.out).2.2; rw [hE0] at this; exact this)
      have hle0 : nv ≤ c0 := by have := HC.out; omega
      have hge2 : decide (nv ≤ e2) = true := decide_eq_true hge
      have hlm : E.length ≤ (E ++ M).length := by simp
      generalize hEM : E ++ M = EM at HSC hlm
      have HEM := hid hEM
      have HHE := hid hE0
      clear hM hge hE0 hby hlt hEM
      go_upto_region 15 with (first
        | ((with_reducible refine gate_dst (N := 55) rfl ?_); refine Kd.R_lit (Kd.int .u8) _ 5 rfl (N := 55) rfl (xs := ([] : List Int)) (inner := []) (ok := fun _ => True) (okp := fun _ => False) (by first | (go_simp; done) | (go_simp; rfl)) (Reps.none _ _) (fun _ hk => hk.elim) trivial (Below.refl _ _) (Nat.le_refl _) (by simp) ?_; intro v5 w5 ho hb _ _; have HO5 := hid ho; have HB5 := hid hb; clear ho hb)
        | (at_builtin; refine Kd.R_append_rows (Kd.int .u8) (w0 := wr) wr.heap.size rfl (.tmp 55) (.tmp 56) 24 5 (.int .u8 0) 1 rfl Try.underlying24 infoU8e rfl (by decide) (by decide) _ [] (l0.take nv) _ _ _ (fun _ => True) (fun _ => False) rfl rfl HO5.out (Kd.C_below HCO.out HB5.out) (fun _ _ h => h) (fun _ h => h.elim) (fun _ _ => trivial) HB5.out HB5.out.size (by have := HL0.out; have := HHE.out; simp only [List.length_nil]; omega) ?_; intro v6 w6 ho hb _ _; rw [List.nil_append] at ho; obtain ⟨A6, n6, c6, rfl⟩ := R_slice3 ho; have HO6 := hid ho; have HB6 := hid hb; clear ho hb)
        | (at_builtin; refine Kd.R_append_rows (Kd.int .u8) (w0 := wr) wr.heap.size rfl (.tmp 57) (.tmp 58) 24 5 (.int .u8 0) 1 rfl Try.underlying24 infoU8e rfl (by decide) (by decide) _ (l0.take nv) l1 _ _ _ (fun _ => True) (fun _ => False) rfl rfl HO6.out (Kd.C_below HR1.out (HBE.out.trans ((HB.out.trans (HB6.out.mono HB.out.size)).mono HBE.out.size))) (fun _ _ h => h) (fun _ h => h.elim) (fun _ _ => trivial) HB6.out HB6.out.size (by have := HL0.out; omega) ?_; intro v8 w8 ho hb _ _; obtain ⟨A8, n8, c8, rfl⟩ := R_slice3 ho; have HO8 := hid ho; have HB8 := hid hb; clear ho hb)
        | (go_at_call 13; refine (HSC.out _ A8 n8 c8 HO8.out).mono ?_; rintro e w9 ⟨v9, rfl, hr9, hb9⟩; obtain ⟨A9, c9, rfl⟩ := Kd.R_slice hr9; have HR9 := hid hr9; have HB9 := hid (HB8.out.trans (hb9.mono HB8.out.size)); clear hr9 hb9))
      have HW := hid (show Below w.heap.size w w9 from HBE.out.trans ((HB.out.trans (HB9.out.mono HB.out.size)).mono HBE.out.size))
      obtain ⟨st, hst⟩ : ∃ st, strOfNums (l0.take nv) = st := ⟨_, rfl⟩
      have HCVO := hid (fun (wz : World) (hb : Below w9.heap.size w9 wz) => (show (convert 24 9 (.slice Av nv cv)).run Try.prog wz = Result.ok (Value.string st) wz from (Kd.C_string (src := 24) (dst := 9) (c := cv) Try.underlying24 Try.underlying5 Try.underlying9 (Kd.C_below HCO.out (HB9.out.trans (hb.mono HB9.out.size)))).trans (by rw [hst])))
      have HCVB := hid (fun (wz : World) (hb : Below w9.heap.size w9 wz) => (show (convert 24 9 (.slice A0 nv c0)).run Try.prog wz = Result.ok (Value.string st) wz by
        have hc := Kd.C_take (m := nv) (Kd.C_below HR.out (HW.out.trans (hb.mono HW.out.size))) he
        rw [HHE.out] at hc
        exact (Kd.C_string (src := 24) (dst := 9) (c := c0) Try.underlying24 Try.underlying5 Try.underlying9 hc).trans (by rw [hst])))
      have hss : (st.toList == st.toList) = true := by simp
      have hE9 : E.length ≤ c9 := Nat.le_trans hlm (Kd.R_reads' HR9.out).2.1
      have hlmb : decide (E.length ≤ EM.length) = true := decide_eq_true hlm
      obtain ⟨ke, hke⟩ := (equal_same E hel).get
      have HEQ := hid (fun (wz : World) (hb : Below w9.heap.size w9 wz) => (show Calls Try.prog 15 #[.slice A9 E.length c9, .slice AE E.length cE] wz fun e w' => e = .returned (.bool true) ∧ Drawn0 wz w' by
        have hc := Kd.C_take (m := E.length) (Kd.R_reads' (Kd.R_below HR9.out hb)).2.2 hlm
        rw [← HEM.out, List.take_left] at hc
        exact laminaref24_Equal.calls ke A9 c9 E AE cE E true wz hc hE9 (Kd.C_below (Kd.R_reads' HRE.out).2.2 (HB.out.trans ((HB9.out.trans (hb.mono HB9.out.size)).mono HB.out.size))) (Kd.R_reads' HRE.out).2.1 hke))
      have HE9 := hid hE9
      have hi0 : (0 : Int) ≤ (nv : Int) := by omega
      have hi1 : (nv : Int) ≤ (c0 : Int) := by omega
      have hi2 : (E.length : Int) ≤ (c9 : Int) := by omega
      clear hst hke
      go_region_held3 (fun wq => (convert 24 9 (.slice Av nv cv)).run Try.prog wq = .ok (.string st) wq ∧ (convert 24 9 (.slice A0 nv c0)).run Try.prog wq = .ok (.string st) wq) (first | exact ⟨HCVO.out _ (Below.refl _ _).drew, HCVB.out _ (Below.refl _ _).drew⟩ | exact ⟨HCVO.out _ HBL.out, HCVB.out _ HBL.out⟩ | exact ⟨HCVO.out _ HBQ.out, HCVB.out _ HBQ.out⟩) (first
        | (go_at_call 15; refine (HEQ.out _ (Below.refl _ _).drew).mono ?_; rintro e wq ⟨rfl, hdq⟩; have HBQ := hid ((Below.refl w9.heap.size w9).drew.trans hdq.below); clear hdq)
        | (go_at_call 8; refine (lives_calls _).mono ?_; rintro e wl ⟨rfl, hbl⟩; have HBL := hid (HBQ.out.trans (hbl.mono HBQ.out.size)); clear hbl))
      all_goals (go_wp2_with fail; go_ret; exact ⟨rfl, HW.out.trans (HBL.out.mono HW.out.size)⟩)
theorem prefix_law {w : World} (A0 : Option Addr) (c0 : Nat) (l0 : List Int) (hc0 : l0.length ≤ c0) (hr0 : Kd.C (Kd.int .u8) w A0 l0.length l0) (hb0 : Bytes l0) (A1 : Option Addr) (c1 : Nat) (l1 : List Int) (hc1 : l1.length ≤ c1) (hr1 : Kd.C (Kd.int .u8) w A1 l1.length l1) (hb1 : Bytes l1) :
    ∀ w', w' = w → Calls Try.prog 5 #[.slice A0 l0.length c0, .slice A1 l1.length c1] w' fun e w2 => e = .returned (.bool true) ∧ Below w'.heap.size w' w2 := by
  rintro w' rfl
  by_cases h1 : (2000 : Int) < (l0.length : Int)
  · exact prefix_lives _ _ _ _ _ _ _ (.inl h1)
  · by_cases h2 : (500 : Int) < (l1.length : Int)
    · exact prefix_lives _ _ _ _ _ _ _ (.inr h2)
    · exact prefix_main A0 c0 l0 A1 c1 l1 w' hc0 hr0 hb0 hc1 hr1 hb1 h1 h2
end Go.Proofs.Ytfkgpmidcbjlbaa.H
end
section
set_option linter.unusedVariables false
set_option linter.unusedSimpArgs false
namespace Go.Proofs.Ytfkgpmidcbjlbaa.commitlogPrefix
open Go.ChangeShapes Go.WideShapes Go.ChangeAt Go.RowKit Go.Proofs.Ytfkgpmidcbjlbaa.H
open Go.ChangeMaps (open_string shut_string)
set_option linter.unusedVariables false
theorem own : ownKnob Try.prog.godebug = none := by kernel_rfl
theorem laidOut : laidOutB Try.prog = true := by kernel_rfl
set_option maxRecDepth 100000 in
theorem lifted (os : Os) (started : os.Started) (H : Type) (enc : TypeId × Value → H) :
    ReturnsInHanded {} Try.checked os 5 .any (Rows.commitlogPrefixSpec.pre6 enc Try.prog Try.f5 Rows.commitlogPrefixRow.domain false) (Rows.commitlogPrefixSpec.post enc Try.prog Try.f5 false true false false) := by
  refine returnsInHanded_of_change_sized (C := Try.checked) own started (by kernel_rfl) Try.func5
    (ChangeSpec.witness6 (enc := enc) (C := Try.checked) false ⟨#[], #[.slice none 0 0, .slice none 0 0], []⟩ 8 (by kernel_rfl) (by kernel_rfl) (by kernel_rfl) (by kernel_rfl)) ?_
  intro W base args ds gs before hval0 hW hcnd hsz0 _
  have hval : ∀ (j : Nat) t v, Try.f5.params[j]? = some t → args[j]? = some v → Value.okWide Try.prog W .any base t v := hval0
  have hW' := hW
  obtain ⟨p, q, hA0, hV, rfl, hfz, hnd⟩ := hW
  have hA : DataW.TrodAll enc Try.prog W 0 (fun _ => true) true Try.f5.params.toList args.toList ds p := hA0
  rw [Try.params5] at hA hval
  obtain ⟨v0, vs0, d0, ds0, p0, q0, hargs, rfl, rfl, h0, r0⟩ := trodAll_cons hA
  obtain ⟨v1, vs1, d1, ds1, p1, q1, rfl, rfl, rfl, h1, r1⟩ := trodAll_cons r0
  obtain ⟨rfl, rfl, rfl⟩ := trodAll_nil r1
  obtain rfl : args = #[v0, v1] := by cases args; simp_all
  obtain ⟨rfl, rfl⟩ := trodVars_none hV
  have k0 := h0
  have lt0 : ∀ x ∈ p0, x.block < W.heap.size := by obtain ⟨m, hm⟩ := k0; exact DataW.trod_lt m _ _ _ hm
  obtain ⟨a0, c0, l0, rfl, y0, w0, u0⟩ := open_bytes (hval 0 24 v0 rfl rfl) h0
  have k1 := h1
  have lt1 : ∀ x ∈ p1, x.block < W.heap.size := by obtain ⟨m, hm⟩ := k1; exact DataW.trod_lt m _ _ _ hm
  obtain ⟨a1, c1, l1, rfl, y1, w1, u1⟩ := open_bytes (hval 1 24 v1 rfl rfl) h1
  clear hA0 hval0 hsz0
  refine (prefix_law a0 c0 l0 y0 w0 u0 a1 c1 l1 y1 w1 u1 W rfl).mono fun e W' ⟨he, bel⟩ => ?_
  subst he
  exact ⟨_, rfl, _, _, _, [], _, [], hW', trodAll_mk1 (shut_bool Try.underlying4 _), (trodAll_cons_mk (Below.trod laidOut (by kernel_rfl) (of_decide_eq_true (by kernel_rfl)) k0 bel lt0) (trodAll_cons_mk (Below.trod laidOut (by kernel_rfl) (of_decide_eq_true (by kernel_rfl)) k1 bel lt1) trodAll_mk0)), rfl, bel.frame _, fun h => by cases h⟩
theorem over : Rows.commitlogPrefixRow.holds Try.pinned (OpenSpec.ofChange Rows.commitlogPrefixSpec) :=
  OpenClaim.holds_of_wide 5 Try.f5 rfl rfl rfl rfl rfl rfl rfl ⟨rfl, rfl, rfl, rfl, rfl⟩ rfl rfl rfl rfl rfl (by kernel_rfl) Try.func5 (by kernel_rfl)
    (of_decide_eq_true (by kernel_rfl)) (by unfold Func.isWrapper; first | (rw [if_pos (by decide +kernel)]; kernel_rfl) | (rw [if_neg (by decide +kernel)]; exact ⟨rfl, rfl⟩))
    (fun os started H enc _ => lifted os started H enc)
theorem proved : Rows.CommitlogPrefixSaid := over
end Go.Proofs.Ytfkgpmidcbjlbaa.commitlogPrefix
namespace Go.Proofs.Ytfkgpmidcbjlbaa
/-- The row, under a short name, for the claim. -/
theorem commitlogPrefix_holds : Rows.CommitlogPrefixSaid := commitlogPrefix.proved
end Go.Proofs.Ytfkgpmidcbjlbaa
end
