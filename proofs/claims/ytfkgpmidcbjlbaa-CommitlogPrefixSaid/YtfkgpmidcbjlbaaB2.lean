/- Part 2 of a proof; each section was a text of its own. -/
import Derived.Test.YtfkgpmidcbjlbaaB1
import Derived.Laws.CopyOwn
section
set_option linter.unusedVariables false
set_option linter.unusedSimpArgs false
/- Plain: four bytes of a number; a varint read back. -/
namespace Go.Proofs.Ytfkgpmidcbjlbaa.U
open Go.RowKit Go.Proofs.Ytfkgpmidcbjlbaa.P Go.Proofs.YtfkgpmidcbjlbaaW.PrintWords Go.Proofs.YtfkgpmidcbjlbaaW.PrintMore

/-- the j lowest bytes from byte i on -/
def leS (n : Nat) : Nat → List Int
  | 0 => []
  | j + 1 => leS n j ++ [((n / 256 ^ j % 256 : Nat) : Int)]
theorem leS_len (n j : Nat) : (leS n j).length = j := by
  induction j with
  | zero => rfl
  | succ j ih => simp [leS, ih]
theorem leS_bytes (n j : Nat) : Bytes (leS n j) := by
  induction j with
  | zero => exact Bytes.nil
  | succ j ih => exact Bytes.app ih (Bytes.cons (by omega) (by omega) Bytes.nil)
/-- the number of bytes -/
def valS : List Int → Nat
  | [] => 0
  | x :: xs => x.toNat + 256 * valS xs
theorem valS_snoc (l : List Int) (x : Int) : valS (l ++ [x]) = valS l + 256 ^ l.length * x.toNat := by
  induction l with
  | nil => simp [valS]
  | cons y ys ih =>
    simp only [List.cons_append, valS, ih, List.length_cons, Nat.pow_succ]
    rw [Nat.mul_add, ← Nat.mul_assoc, Nat.mul_comm 256 (256 ^ ys.length)]
    omega
theorem valS_le (n j : Nat) : valS (leS n j) = n % 256 ^ j := by
  induction j with
  | zero => simp [leS, valS, Nat.mod_one]
  | succ j ih =>
    rw [leS, valS_snoc, ih, leS_len, Int.toNat_natCast, Nat.pow_succ]
    have h1 := Nat.mod_mul (a := 256 ^ j) (b := 256) (x := n)
    rw [h1]
theorem valS_lt (l : List Int) (hb : Bytes l) : valS l < 256 ^ l.length := by
  induction l with
  | nil => simp [valS]
  | cons x xs ih =>
    have h := ih (fun y hy => hb y (by simp [hy]))
    have hx := hb x (by simp)
    simp only [valS, List.length_cons, Nat.pow_succ]
    omega
theorem leS_cons (n j : Nat) : leS n (j + 1) = ((n % 256 : Nat) : Int) :: leS (n / 256) j := by
  induction j with
  | zero => simp [leS]
  | succ j ih =>
    rw [leS, ih, leS, List.cons_append, Nat.div_div_eq_div_mul, Nat.pow_succ, Nat.mul_comm 256]
theorem leS_val (l : List Int) (hb : Bytes l) : leS (valS l) l.length = l := by
  induction l with
  | nil => rfl
  | cons x xs ih =>
    have hx := hb x (by simp)
    rw [List.length_cons, leS_cons]
    simp only [valS]
    rw [show (x.toNat + 256 * valS xs) / 256 = valS xs from by omega, ih (fun y hy => hb y (by simp [hy])), show (((x.toNat + 256 * valS xs) % 256 : Nat) : Int) = x from by omega]
theorem leS_inj (a b : Nat) (ha : a < 4294967296) (hb : b < 4294967296) (h : leS a 4 = leS b 4) : a = b := by
  have := congrArg valS h
  rw [valS_le, valS_le] at this
  omega

theorem setD (l : List Int) (j : Nat) (x : Int) (m : Nat) (h : l.length = j) : (l ++ List.replicate (m + 1) 0).set j x = (l ++ [x]) ++ List.replicate m 0 := by
  subst h
  rw [List.set_append_right _ _ (Nat.le_refl _), Nat.sub_self, List.replicate_succ, List.set_cons_zero, List.append_assoc]; rfl
theorem shr8 (n i : Nat) (hi : i ≤ 7) : (shr .u64 (n : Int) (wrap64 (8 * (i : Int)))) % 256 = ((n / 256 ^ i % 256 : Nat) : Int) := by
  rw [w64 _ (by omega) (by omega)]
  unfold shr
  rw [show (8 * (i : Int)).toNat = 8 * i from by omega, Nat.min_eq_left (by show 8 * i ≤ 64; omega), Nat.pow_mul 2 8 i |> fun e => show (2 : Int) ^ (8 * i) = ((256 ^ i : Nat) : Int) from by rw [show (256 : Nat) = 2 ^ 8 from rfl, ← e]; simp]
  rw [← Int.natCast_ediv]
  omega
theorem fixed_impl_l (n : Nat) : ∀ m i : Nat, i + m = 4 → Ev (fun k => varint_Fixed.l0 k (n : Int) (leS n i ++ List.replicate m 0) 4 (i : Int)) (leS n 4)
  | 0, i, hi => by
    obtain rfl : i = 4 := by omega
    refine Ev.step (fun k => rfl) (Ev.neg (by decide) (Ev.of fun k => ?_))
    simp
  | m + 1, i, hi => by
    have e8 : wrap64 (8 * (i : Int)) = ((8 * i : Nat) : Int) := by rw [w64 _ (by omega) (by omega)]; omega
    refine Ev.step (fun k => rfl) (Ev.pos (by omega) (Ev.pos (by rw [e8]; omega) (Ev.pos (by omega) (Ev.pos (by simp [leS_len]; omega) ?_))))
    rw [shr8 n i (by omega), Int.toNat_natCast, setD _ _ _ _ (leS_len n i), show wrap64 ((i : Int) + 1) = ((i + 1 : Nat) : Int) from by rw [w64 _ (by omega) (by omega)]; omega]
    exact fixed_impl_l n m (i + 1) (by omega)
theorem fixed_impl (n : Nat) : Ev (fun k => varint_Fixed.f k (n : Int) 4) (leS n 4) := by
  have h : Ev (fun k => varint_Fixed.l0 k (n : Int) (List.replicate 4 0) 4 0) (leS n 4) := fixed_impl_l n 4 0 rfl
  have h2 : Ev (fun k => varint_Fixed.j0 k (n : Int) 4 false) (leS n 4) := Ev.step (fun k => rfl) h
  exact h2.congr fun k => rfl
theorem fixed_ref_l (n : Nat) (hn : n < 18446744073709551616) : ∀ m i : Nat, i + m = 4 → Ev (fun k => laminaref01_Fixed.l0 k ((n / 256 ^ i : Nat) : Int) 4 (leS n i) (i : Int)) (leS n 4)
  | 0, i, hi => by
    obtain rfl : i = 4 := by omega
    exact Ev.step (fun k => rfl) (Ev.neg (by decide) (Ev.pure _))
  | m + 1, i, hi => by
    refine Ev.step (fun k => rfl) (Ev.pos (by omega) (Ev.pos (by rw [leS_len]; omega) ?_))
    have hd : n / 256 ^ i ≤ n := Nat.div_le_self _ _
    have hd2 : n / 256 ^ (i + 1) ≤ n := Nat.div_le_self _ _
    have hq : n / 256 ^ (i + 1) = n / 256 ^ i / 256 := by rw [Nat.pow_succ, ← Nat.div_div_eq_div_mul]
    have e1 : Int.tdiv ((n / 256 ^ i : Nat) : Int) 256 = ((n / 256 ^ (i + 1) : Nat) : Int) := by
      rw [hq]
      generalize n / 256 ^ i = q
      rw [Int.tdiv_eq_ediv_of_nonneg (by omega)]; omega
    have e2 : Int.tmod ((n / 256 ^ i : Nat) : Int) 256 % 256 = ((n / 256 ^ i % 256 : Nat) : Int) := by
      generalize n / 256 ^ i = q
      rw [Int.tmod_eq_emod_of_nonneg (by omega)]; omega
    have e3 : IntKind.u64.wrap ((n / 256 ^ (i + 1) : Nat) : Int) = ((n / 256 ^ (i + 1) : Nat) : Int) := by
      generalize n / 256 ^ (i + 1) = q at hd2
      exact wu64 _ (by omega) (by omega)
    rw [e1, e2, e3, show wrap64 ((i : Int) + 1) = ((i + 1 : Nat) : Int) from by rw [w64 _ (by omega) (by omega)]; omega]
    exact fixed_ref_l n hn m (i + 1) (by omega)
theorem fixed_ref (n : Nat) (hn : n < 18446744073709551616) : Ev (fun k => laminaref01_Fixed.f k (n : Int) 4) (leS n 4) := by
  have := fixed_ref_l n hn 4 0 rfl
  rw [show n / 256 ^ 0 = n from by simp] at this
  have h2 : Ev (fun k => laminaref01_Fixed.j0 k (n : Int) 4 false) (leS n 4) := Ev.step (fun k => rfl) this
  exact h2.congr fun k => rfl
theorem or_shift8 (a b i : Nat) (h : a < 256 ^ i) : a ||| b * 256 ^ i = a + 256 ^ i * b := by
  have h' : a < 2 ^ (8 * i) := by rw [Nat.pow_mul]; exact h
  rw [show 256 ^ i = 2 ^ (8 * i) from by rw [Nat.pow_mul], or_shift _ _ _ h', Nat.mul_comm]
theorem readFixed_l (l : List Int) (p : Nat) (hb : Bytes l) (hl : l.length ≤ 4611686018427387904) (hp : p + 4 ≤ l.length) : ∀ m i : Nat, i + m = 4 →
    Ev (fun k => varint_ReadFixed.l0 k l (p : Int) ((valS ((l.take (p + i)).drop p) : Nat) : Int) 4 (i : Int)) (((valS ((l.take (p + 4)).drop p) : Nat) : Int), 0)
  | 0, i, hi => by
    obtain rfl : i = 4 := by omega
    exact Ev.step (fun k => rfl) (Ev.neg (by decide) (Ev.pure _))
  | m + 1, i, hi => by
    have e0 : wrap64 ((p : Int) + (i : Int)) = ((p + i : Nat) : Int) := by rw [w64 _ (by omega) (by omega)]; omega
    have e8 : wrap64 (8 * (i : Int)) = ((8 * i : Nat) : Int) := by rw [w64 _ (by omega) (by omega)]; omega
    refine Ev.step (fun k => rfl) (Ev.pos (by omega) (Ev.pos (by rw [e0]; omega) (Ev.pos (by rw [e0]; omega) (Ev.pos (by rw [e8]; omega) ?_))))
    have hc := hb.at (p + i) (by omega)
    obtain ⟨c, hcc⟩ : ∃ c : Nat, l.getD (p + i) 0 = (c : Int) := ⟨(l.getD (p + i) 0).toNat, by omega⟩
    rw [hcc] at hc
    have hge : l[p + i]'(by omega) = (c : Int) := by
      rw [← hcc, List.getD_eq_getElem?_getD, List.getElem?_eq_getElem (by omega)]; rfl
    have hbt : Bytes ((l.take (p + i)).drop p) := (hb.take _).drop _
    have hlen : ((l.take (p + i)).drop p).length = i := by simp; omega
    have hv := valS_lt _ hbt
    rw [hlen] at hv
    have hp256 : 256 ^ i ≤ 16777216 := by
      calc 256 ^ i ≤ 256 ^ 3 := Nat.pow_le_pow_right (by decide) (by omega)
        _ = 16777216 := by decide
    have hcm : c * 256 ^ i ≤ 255 * 16777216 := Nat.mul_le_mul (by omega) hp256
    have es : shl .u64 ((c : Nat) : Int) ((8 * i : Nat) : Int) = ((c * 256 ^ i : Nat) : Int) := by
      unfold shl
      rw [Int.toNat_natCast, Nat.min_eq_left (by show 8 * i ≤ 64; omega), show ((2 : Int) ^ (8 * i)) = ((256 ^ i : Nat) : Int) from by rw [show (256 : Nat) = 2 ^ 8 from rfl, ← Nat.pow_mul]; simp, ← Int.natCast_mul, wu64 _ (by omega) (by omega)]
    rw [e0, e8, rdD, hcc, wu64 (c : Int) (by omega) (by omega), es, u64_or_nat _ _ (by omega) (by omega), or_shift8 _ _ _ hv, show wrap64 ((i : Int) + 1) = ((i + 1 : Nat) : Int) from by rw [w64 _ (by omega) (by omega)]; omega]
    have hnext : (l.take (p + (i + 1))).drop p = (l.take (p + i)).drop p ++ [(c : Int)] := by
      rw [← Nat.add_assoc, List.take_succ_eq_append_getElem (by omega), List.drop_append_of_le_length (by simp; omega), hge]
    have ih := readFixed_l l p hb hl hp m (i + 1) (by omega)
    rw [hnext, valS_snoc, hlen, Int.toNat_natCast] at ih
    exact ih
theorem readFixed (l : List Int) (p : Nat) (hb : Bytes l) (hl : l.length ≤ 4611686018427387904) (hp : p + 4 ≤ l.length) :
    Ev (fun k => varint_ReadFixed.f k l (p : Int) 4) (((valS ((l.take (p + 4)).drop p) : Nat) : Int), 0) := by
  refine Ev.neg (by decide) (Ev.neg (by decide) (Ev.neg (by omega) (Ev.step (fun k => rfl) ?_)))
  have := readFixed_l l p hb hl hp 4 0 rfl
  rw [Nat.add_zero, List.drop_eq_nil_of_le (by simp; omega)] at this
  exact Ev.neg (by simp; omega) (Ev.neg (by rw [w64 _ (by omega) (by omega)]; omega) this)

/-! a varint is read back -/
theorem decG_enc (l : List Int) (p : Nat) (suf : List Int) : ∀ f i n m : Nat, i + f = 10 → n < 2 ^ (7 * i) → (0 < i → 0 < m) → n + m * 2 ^ (7 * i) < 18446744073709551616 → p + i ≤ l.length → l.drop (p + i) = encS m ++ suf →
    decG l p f i n = (((n + m * 2 ^ (7 * i) : Nat) : Int), ((p + i + (encS m).length : Nat) : Int), 0)
  | 0, i, n, m, hi, hn, hm, hlt, hpl, h => by
    obtain rfl : i = 10 := by omega
    have := hm (by omega)
    have : 1 * 2 ^ (7 * 10) ≤ m * 2 ^ (7 * 10) := Nat.mul_le_mul_right _ this
    omega
  | f + 1, i, n, m, hi, hn, hm, hlt, hpl, h => by
    have hpos : 0 < 2 ^ (7 * i) := Nat.two_pow_pos _
    have hne : ¬ l.length ≤ p + i := by
      intro hle
      rw [List.drop_eq_nil_of_le hle] at h
      have h2 := encS_pos m
      have h3 := congrArg List.length h
      simp at h3
      omega
    rw [List.drop_eq_getElem_cons (by omega)] at h
    have hget : ∀ c : Int, l[p + i]'(by omega) = c → l.getD (p + i) 0 = c := fun c hc => by
      rw [List.getD_eq_getElem?_getD, List.getElem?_eq_getElem (by omega)]; exact hc
    by_cases hlow : m < 128
    · rw [encS_low m hlow] at h ⊢
      simp only [List.cons_append, List.nil_append, List.cons.injEq] at h
      have hb : ¬ ((i = 9 ∧ 1 < m) ∨ (0 < i ∧ m = 0)) := by
        rintro (⟨h9, h1⟩ | ⟨h9, h1⟩)
        · subst h9
          have : 2 * 2 ^ (7 * 9) ≤ m * 2 ^ (7 * 9) := Nat.mul_le_mul_right _ h1
          omega
        · have := hm h9; omega
      rw [decG_end l p f i n m hne (hget _ h.1) hb hlow]
      simp
    · rw [encS_high m hlow] at h ⊢
      simp only [List.cons_append, List.cons.injEq] at h
      have h9 : i ≤ 8 := by
        rcases Nat.lt_or_ge 8 i with h9 | h9
        · have hi9 : i = 9 := by omega
          subst hi9
          have : 128 * 2 ^ (7 * 9) ≤ m * 2 ^ (7 * 9) := Nat.mul_le_mul_right _ (by omega)
          omega
        · exact h9
      rw [decG_more l p f i n (128 + m % 128) hne (hget _ h.1) (by omega) (by omega)]
      have e1 : (128 + m % 128) % 128 = m % 128 := by omega
      have hsum : n + m % 128 * 2 ^ (7 * i) + m / 128 * 2 ^ (7 * (i + 1)) = n + m * 2 ^ (7 * i) := by
        rw [show 7 * (i + 1) = 7 * i + 7 from by omega, Nat.pow_add, show 2 ^ 7 = 128 from rfl, Nat.mul_comm (2 ^ (7 * i)) 128, ← Nat.mul_assoc, Nat.add_assoc, ← Nat.add_mul]
        congr 2
        omega
      have hs := step7 n m i h9 hn
      have ih := decG_enc l p suf f (i + 1) (n + m % 128 * 2 ^ (7 * i)) (m / 128) (by omega) hs (fun _ => by omega) (by rw [hsum]; exact hlt) (by omega) h.2
      rw [e1, ih, hsum, List.length_cons]
      congr 2
      omega
theorem decS_enc (pre suf : List Int) (m : Nat) (hm : m < 18446744073709551616) : decS (pre ++ encS m ++ suf) (pre.length : Int) = ((m : Int), ((pre.length + (encS m).length : Nat) : Int), 0) := by
  unfold decS
  rw [if_neg (by simp; omega), Int.toNat_natCast, decG_enc (pre ++ encS m ++ suf) pre.length suf 10 0 0 m rfl (by decide) (fun h => absurd h (by decide)) (by simpa using hm) (by simp) (by simp)]
  simp
end Go.Proofs.Ytfkgpmidcbjlbaa.U
end
section
set_option linter.unusedVariables false
set_option linter.unusedSimpArgs false
/- Small facts that the texts by hand share. -/
namespace Go.Proofs.Ytfkgpmidcbjlbaa.H
open Go.RowKit Go.Proofs.YtfkgpmidcbjlbaaW.PrintWords

theorem hid {p : Prop} (h : p) : Hid p := h
theorem ret_bool {a b : Bool} (h : a = b) : Ending.returned (.bool a) = Ending.returned (.bool b) := by rw [h]
theorem ret_int {k : IntKind} {a b : Int} (h : a = b) : Ending.returned (.int k a) = Ending.returned (.int k b) := by rw [h]
theorem toList_data (s : ByteArray) : s.toList = s.data.toList := by
  exact ByteArray.toList_eq s
theorem toList_nil (s : ByteArray) (h : s.size = 0) : s.toList = [] := by
  rw [toList_data]
  exact List.length_eq_zero_iff.1 (by simpa using h)
theorem toList_ne (s : ByteArray) (h : ¬ s.size = 0) : s.toList.isEmpty = false := by
  rw [toList_data, List.isEmpty_eq_false_iff]
  intro h2
  have := congrArg List.length h2
  rw [List.length_nil, Array.length_toList] at this
  exact h this
theorem isEmpty_size (n : ByteArray) : n.toList.isEmpty = decide (n.size = 0) := by
  by_cases h : n.size = 0
  · rw [toList_nil n h, decide_eq_true h]; rfl
  · rw [toList_ne n h, decide_eq_false h]
/-- an element of a row of rows -/
theorem at_row {α : Type} {d : Kd α} {e : Nat} {w : World} {A : Option Addr} {n : Nat} {xs : List (List α)} (h : Kd.C (Kd.slice e d) w A n xs) (i : Nat) (h1 : i < n) :
    ∃ ad A0 c0, A = some ad ∧ w.cell? (ad.add i) = some (.slice A0 (xs.getD i []).length c0) ∧ (xs.getD i []).length ≤ c0 ∧ d.C w A0 (xs.getD i []).length (xs.getD i []) := by
  obtain ⟨ad, c, hA, hl, ⟨A0, c0, rfl, hc, hd⟩, hx⟩ := Kd.C_get h [] (i : Int) (by omega) (by omega)
  simp only [Int.toNat_natCast] at hc hd hx
  refine ⟨ad, A0, c0, hA, ?_, hc, hd⟩
  have hx0 := hx 0 _ rfl
  rw [show i * (Kd.slice e d).sz + 0 = i from by show i * 1 + 0 = i; omega] at hx0
  exact hx0
theorem below_cell {W w1 : World} (hb : Below W.heap.size W w1) : (∀ b o, b < W.heap.size → w1.cell? ⟨b, o, none⟩ = W.cell? ⟨b, o, none⟩) ∧ (∀ b o, b < W.heap.size → w1.frozen? ⟨b, o, none⟩ = W.frozen? ⟨b, o, none⟩) :=
  ⟨fun b o h => hb.cell (p := ⟨b, o, none⟩) h, fun b o h => hb.frozen (p := ⟨b, o, none⟩) h⟩
/-- a block of slices reads as a row of rows -/
theorem C_rows {α : Type} {d : Kd α} {e : Nat} {w : World} {blk : Nat} (xs : List (List α)) (f : Nat → Option Addr × Nat) (hm : xs.length ≤ 9223372036854775807)
    (h : ∀ j p, xs[j]? = some p → w.cell? ⟨blk, j, none⟩ = some (.slice (f j).1 p.length (f j).2) ∧ p.length ≤ (f j).2 ∧ d.C w (f j).1 p.length p) :
    Kd.C (Kd.slice e d) w (some ⟨blk, 0, none⟩) xs.length xs := by
  refine ⟨rfl, hm, fun _ => ⟨_, rfl, fun j p hj => ?_⟩⟩
  obtain ⟨h1, h2, h3⟩ := h j p hj
  refine ⟨[.slice (f j).1 p.length (f j).2], rfl, ⟨_, _, rfl, h2, h3⟩, fun i u hu => ?_⟩
  cases i with
  | zero =>
    simp at hu
    subst hu
    have : (⟨blk, 0, none⟩ : Addr).add (j * (Kd.slice e d).sz + 0) = ⟨blk, j, none⟩ := by
      show (⟨blk, 0, none⟩ : Addr).add (j * 1 + 0) = _
      simp only [Nat.mul_one, Nat.add_zero, Addr.add]
      split
      · next h => rw [h]
      · simp
    rw [this]; exact h1
  | succ i => simp at hu
theorem C_one {α : Type} {d : Kd α} {e : Nat} {w : World} {blk : Nat} {A : Option Addr} {c : Nat} (xs : List α) (h1 : w.cell? ⟨blk, 0, none⟩ = some (.slice A xs.length c)) (h2 : xs.length ≤ c) (h3 : d.C w A xs.length xs) :
    Kd.C (Kd.slice e d) w (some ⟨blk, 0, none⟩) 1 [xs] :=
  C_rows [xs] (fun _ => (A, c)) (by simp) fun j p hj => by
    cases j with
    | zero => simp at hj; subst hj; exact ⟨h1, h2, h3⟩
    | succ j => simp at hj
theorem C_three {α : Type} {d : Kd α} {e : Nat} {w : World} {blk : Nat} {A0 A1 A2 : Option Addr} {c0 c1 c2 : Nat} (x0 x1 x2 : List α)
    (h0 : w.cell? ⟨blk, 0, none⟩ = some (.slice A0 x0.length c0) ∧ x0.length ≤ c0 ∧ d.C w A0 x0.length x0) (h1 : w.cell? ⟨blk, 1, none⟩ = some (.slice A1 x1.length c1) ∧ x1.length ≤ c1 ∧ d.C w A1 x1.length x1)
    (h2 : w.cell? ⟨blk, 2, none⟩ = some (.slice A2 x2.length c2) ∧ x2.length ≤ c2 ∧ d.C w A2 x2.length x2) : Kd.C (Kd.slice e d) w (some ⟨blk, 0, none⟩) 3 [x0, x1, x2] :=
  C_rows [x0, x1, x2] (fun j => if j = 0 then (A0, c0) else if j = 1 then (A1, c1) else (A2, c2)) (by simp) fun j p hj => by
    match j, hj with
    | 0, hj => simp at hj; subst hj; exact h0
    | 1, hj => simp at hj; subst hj; exact h1
    | 2, hj => simp at hj; subst hj; exact h2
    | j + 3, hj => simp at hj
end Go.Proofs.Ytfkgpmidcbjlbaa.H
end
section
set_option linter.unusedVariables false
set_option linter.unusedSimpArgs false
/- checksum.CRC: the table, the bytes. -/
namespace Go.Proofs.Ytfkgpmidcbjlbaa.H
open Go.RowKit Go.Proofs.YtfkgpmidcbjlbaaW.PrintWords

/-- one bit of the division -/
def crc1 (x : Int) : Int := if (Go.bits .and .u32 x 1) = 1 then Go.bits .xor .u32 (x / 2) 2197175160 else x / 2
def crcN : Nat → Int → Int
  | 0, x => x
  | n + 1, x => crc1 (crcN n x)
/-- the table's entries -/
def tabAt (j : Nat) : Int := crcN 8 (j : Int)

def Tab (c : Array Value) (k : Nat) : Prop := c.size = 256 ∧ ∀ j, j < k → c[j]? = some (.int .u32 (tabAt j))
theorem tab_next {c : Array Value} {k : Nat} (h : Tab c k) (hk : k < 256) : Tab (c.setIfInBounds k (.int .u32 (tabAt k))) (k + 1) := by
  refine ⟨by simpa using h.1, fun j hj => ?_⟩
  rw [Array.getElem?_setIfInBounds]
  by_cases e : k = j
  · subst e
    rw [if_pos rfl, if_pos (by rw [h.1]; exact hk)]
  · rw [if_neg e]
    exact h.2 j (by omega)
theorem size_zeros : Try.zeroCells100.size = 256 := by kernel_rfl

/-- the whole table -/
def tabArr : Array Value := ((List.range 256).map fun j => Value.int .u32 (tabAt j)).toArray
theorem tabArr_size : tabArr.size = 256 := by simp [tabArr]
theorem tabArr_at (j : Nat) (h : j < 256) : tabArr[j]? = some (.int .u32 (tabAt j)) := by
  simp [tabArr, h]
theorem tab_whole {c : Array Value} (h : Tab c 256) : c = tabArr := by
  apply Array.ext
  · rw [h.1, tabArr_size]
  · intro i h1 h2
    have a := h.2 i (by rw [h.1] at h1; exact h1)
    have b := tabArr_at i (by rw [h.1] at h1; exact h1)
    rw [Array.getElem?_eq_getElem h1] at a
    rw [Array.getElem?_eq_getElem h2] at b
    exact Option.some.inj (a.trans b.symm)
theorem tabArr_one : tabArr.all (·.oneCell') = true := by
  rw [Array.all_eq_true_iff_forall_mem]
  intro x hx
  simp only [tabArr, List.mem_toArray, List.mem_map] at hx
  obtain ⟨j, _, rfl⟩ := hx
  rfl
theorem crcN_zero (x : Int) : crcN 0 x = x := rfl
theorem crcN_one (n : Nat) (x : Int) (h : (Go.bits .and .u32 (crcN n x) 1 == 1) = true) : Go.bits .xor .u32 (crcN n x / 2) 2197175160 = crcN (n + 1) x := by
  show _ = crc1 _
  rw [crc1, if_pos (by simpa using h)]
theorem crcN_two (n : Nat) (x : Int) (h : (Go.bits .and .u32 (crcN n x) 1 == 1) = false) : crcN n x / 2 = crcN (n + 1) x := by
  show _ = crc1 _
  rw [crc1, if_neg (by simpa using h)]
theorem bits_range (op : BinOp) (x y : Int) : 0 ≤ Go.bits op .u32 x y ∧ Go.bits op .u32 x y < 4294967296 := by
  have e : ∀ n : Int, 0 ≤ IntKind.u32.wrap n ∧ IntKind.u32.wrap n < 4294967296 := fun n => by rw [IntKind.wrap_u32]; omega
  cases op <;> simp [Go.bits, e]
theorem crcN_range (n : Nat) (x : Int) (h : 0 ≤ x ∧ x < 4294967296) : 0 ≤ crcN n x ∧ crcN n x < 4294967296 := by
  induction n with
  | zero => exact h
  | succ n ih =>
    show 0 ≤ crc1 _ ∧ crc1 _ < _
    unfold crc1
    split
    · exact bits_range _ _ _
    · omega

set_option maxRecDepth 100000 in
set_option maxHeartbeats 2000000 in
theorem rem_calls (w : World) :
    Calls Try.prog 58 #[] w fun e w' => e = .returned (.agg tabArr) ∧ Below w.heap.size w w' := by
  go_enter Try.func58, Try.ntmps58
  go_wp2
  go_loopw [4] (fun v w' => ∃ (k : Nat) (c : Array Value), k ≤ 256 ∧ v = .int .i64 k ∧ Hid (Tab c k) ∧ w' = (w.alloc (.cells Try.zeroCells100 100)).alloc (.cells c 100)) (fun v _ => 256 - (intOf v).toNat)
  case atStart => exact ⟨0, _, Nat.zero_le _, rfl, ⟨size_zeros, fun j hj => absurd hj (Nat.not_lt_zero _)⟩, rfl⟩
  case round =>
    obtain ⟨k, c, hk, rfl, HT, rfl⟩ := hrel
    by_cases hlt : k < 256
    · have hsz := HT.out.1
      go_wp2
      go_loop [3, 9] (fun r i => ∃ j : Nat, j ≤ 8 ∧ i = .int .i64 j ∧ r = .int .u32 (crcN j k)) (fun _ i => 8 - (intOf i).toNat)
      case atStart => exact ⟨0, by omega, rfl, rfl⟩
      case round =>
        obtain ⟨j, hj, rfl, rfl⟩ := hrel
        have hr := crcN_range j k (by omega)
        by_cases hj8 : j < 8
        · go_wp2
          all_goals
            go_round
            case rel => exact ⟨j + 1, by omega, by go_num, by first | rw [crcN_one _ _ ‹_›] | rw [crcN_two _ _ ‹_›]⟩
            case measure => simp [intOf]; omega
        · obtain rfl : j = 8 := by omega
          have HT2 := hid (tab_next HT.out hlt)
          go_wp2
          go_roundw
          case rel => exact ⟨k + 1, _, by omega, by go_num, HT2, rfl⟩
          case measure => simp [intOf]; omega
    · obtain rfl : k = 256 := by omega
      have hc := tab_whole HT.out
      subst hc
      clear HT
      go_wp2_with (first
        | (refine wpList_load_row rfl 100 _ rfl (w.heap.size + 1) rfl 100 tabArr (0, 0) _ (heap_alloc2_new _ _ _) Try.underlying100 rfl (by rw [tabArr_size]; kernel_rfl) ?_)
        | (refine wpList_store_row rfl 100 _ _ rfl w.heap.size tabArr rfl rfl 100 Try.zeroCells100 (heap_alloc2_old _ _ _) (by rw [tabArr_size]; kernel_rfl) (by rw [tabArr_size]; exact size_zeros) tabArr_one ?_))
      refine bodyPost_ret (v := .agg tabArr) (results_cell_row rfl _ _ w.heap.size 100 tabArr (0, 0) _ rfl (by rw [setRow_heap _ _ _ _ _ _ (heap_alloc2_old w _ _)]) Try.underlying100 rfl (by rw [tabArr_size]; kernel_rfl)) rfl ⟨rfl, ?_⟩
      exact below_setRow (((Below.refl _ _).alloc (Nat.le_refl _) _).alloc (by simp) _) (Nat.le_refl _) _
theorem bits_range8 (op : BinOp) (x y : Int) : 0 ≤ Go.bits op .u8 x y ∧ Go.bits op .u8 x y < 256 := by
  have e : ∀ n : Int, 0 ≤ IntKind.u8.wrap n ∧ IntKind.u8.wrap n < 256 := fun n => by rw [IntKind.wrap_u8]; omega
  cases op <;> simp [Go.bits, e]
/-- one byte -/
def updI (r b : Int) : Int := Go.bits .xor .u32 (r / 256) (tabAt (Go.bits .xor .u8 (r % 256) b).toNat)
def advI (r : Int) (l : List Int) : Int := l.foldl updI r
theorem advI_succ (l : List Int) (k : Nat) (r : Int) (h : k < l.length) : advI r (l.take (k + 1)) = updI (advI r (l.take k)) (rd l k) := by
  unfold advI
  rw [List.take_succ_eq_append_getElem h, List.foldl_append]
  simp [rd, List.getD_eq_getElem?_getD, h]
theorem advI_range (l : List Int) (k : Nat) (r : Int) (h : 0 ≤ r ∧ r < 4294967296) : 0 ≤ advI r (l.take k) ∧ advI r (l.take k) < 4294967296 := by
  unfold advI
  induction l.take k generalizing r with
  | nil => exact h
  | cons x xs ih => exact ih _ (bits_range _ _ _)
set_option maxRecDepth 100000 in
set_option maxHeartbeats 2000000 in
theorem adv_calls (g : Nat) (fr : Nat × Nat) (r : Int) (A : Option Addr) (c : Nat) (l : List Int) (w : World) (hg : w.heap[g]? = some (.cells tabArr 100 fr)) (hr : Kd.C (Kd.int .u8) w A l.length l) (hc : l.length ≤ c)
    (hl : l.length ≤ 9223372036854775807) (h0 : 0 ≤ r ∧ r < 4294967296) :
    Calls Try.prog 59 #[.pointer (some ⟨g, 0, none⟩), .int .u32 r, .slice A l.length c] w fun e w' => e = .returned (.int .u32 (advI r l)) ∧ w = w' := by
  go_enter Try.func59, Try.ntmps59
  go_wp2
  go_loop [1, 11] (fun v i => ∃ (k : Nat), k ≤ l.length ∧ i = .int .i64 k ∧ v = .int .u32 (advI r (l.take k))) (fun _ i => l.length - (intOf i).toNat)
  case atStart => exact ⟨0, Nat.zero_le _, rfl, rfl⟩
  case round =>
    obtain ⟨k, hk, rfl, rfl⟩ := hrel
    by_cases hlt : k < l.length
    · obtain ⟨ad, rfl, hx⟩ := Kd.at_int hr (k : Int) (by omega) (by omega)
      simp only [Int.toNat_natCast] at hx
      have hb := bits_range8 .xor (advI r (l.take k) % 256) (rd l k)
      have hcell : w.cell? ⟨g, (Go.bits .xor .u8 (advI r (l.take k) % 256) (rd l k)).toNat, none⟩ = some (.int .u32 (tabAt (Go.bits .xor .u8 (advI r (l.take k) % 256) (rd l k)).toNat)) := by
        rw [cell_of_row w g _ tabArr _ fr hg]
        exact tabArr_at _ (by omega)
      have hr2 := advI_range l k r h0
      clear hg
      go_wp2
      go_round
      case rel => exact ⟨k + 1, by omega, by go_num, by rw [advI_succ l k r hlt]; rfl⟩
      case measure => simp [intOf]; omega
    · go_wp2
      go_ret
      exact ⟨by rw [List.take_of_length_le (by omega)]; rfl, rfl⟩

/-- the register behind all parts -/
def advP (r : Int) (ls : List (List Int)) : Int := ls.foldl advI r
theorem advP_succ (ls : List (List Int)) (k : Nat) (r : Int) (h : k < ls.length) : advP r (ls.take (k + 1)) = advI (advP r (ls.take k)) (ls.getD k []) := by
  unfold advP
  rw [List.take_succ_eq_append_getElem h, List.foldl_append]
  simp [List.getD_eq_getElem?_getD, h]
theorem advP_range (ls : List (List Int)) (r : Int) (h : 0 ≤ r ∧ r < 4294967296) : 0 ≤ advP r ls ∧ advP r ls < 4294967296 := by
  unfold advP
  induction ls generalizing r with
  | nil => exact h
  | cons x xs ih =>
    refine ih _ ?_
    have := advI_range x x.length r h
    rwa [List.take_length] at this
def crcI (ls : List (List Int)) : Int := Go.bits .xor .u32 4294967295 (advP 4294967295 ls)
def _root_.Go.Proofs.Ytfkgpmidcbjlbaa.P.checksum_CRC.f (ls : List (List Int)) : Option Int := some (crcI ls)

set_option maxRecDepth 100000 in
set_option maxHeartbeats 2000000 in
theorem crc_calls (A : Option Addr) (c : Nat) (ls : List (List Int)) (w : World) (hr : Kd.C (Kd.slice 5 (Kd.int .u8)) w A ls.length ls) (hc : ls.length ≤ c) :
    Calls Try.prog 28 #[.slice A ls.length c] w fun e w' => e = .returned (.int .u32 (crcI ls)) ∧ Below w.heap.size w w' := by
  have HR := hid hr
  clear hr
  go_enter Try.func28, Try.ntmps28
  have HL := hid (Kd.C_max HR.out)
  go_wp2_with (first
    | (go_at_call 58; refine (rem_calls _).mono ?_; rintro e w1 ⟨rfl, hb⟩; have HB := hid hb; clear hb)
    | (refine wpList_store_row rfl 100 _ _ rfl w1.heap.size tabArr rfl rfl 100 Try.zeroCells100 (heap_alloc_new _ _) (by rw [tabArr_size]; kernel_rfl) (by rw [tabArr_size]; exact size_zeros) tabArr_one ?_))
  obtain ⟨W, hW⟩ : ∃ W, W = (w1.alloc (.cells Try.zeroCells100 100)).setRow w1.heap.size tabArr := ⟨_, rfl⟩
  rw [← hW]
  have HG : Hid (W.heap[w1.heap.size]? = some (.cells tabArr 100 (0, 0))) := by rw [hW]; exact setRow_heap _ _ _ _ _ _ (heap_alloc_new _ _)
  have HBW : Hid (Below w.heap.size w W) := by
    rw [hW]
    exact below_setRow (HB.out.alloc HB.out.size _) HB.out.size _
  have HRW := hid (Kd.C_below HR.out HBW.out)
  clear hW HB HR
  go_wp2
  go_loop [4, 10] (fun v i => ∃ (k : Nat), k ≤ ls.length ∧ i = .int .i64 k ∧ v = .int .u32 (advP 4294967295 (ls.take k))) (fun _ i => ls.length - (intOf i).toNat)
  case atStart => exact ⟨0, Nat.zero_le _, rfl, rfl⟩
  case round =>
    obtain ⟨k, hk, rfl, rfl⟩ := hrel
    have hll := HL.out
    by_cases hlt : k < ls.length
    · obtain ⟨ad, A0, c0, rfl, hx, hc0, hd⟩ := at_row HRW.out k hlt
      have HD := hid hd
      have hl0 : (ls.getD k []).length ≤ 9223372036854775807 := Kd.C_max hd
      clear hd
      have HP := hid (advP_range (ls.take k) 4294967295 (by omega))
      have HX := hid hx
      obtain ⟨l0, hl0e⟩ : ∃ l0, l0 = ls.getD k [] := ⟨_, rfl⟩
      rw [← hl0e] at hx hl0 hc0
      rw [← hl0e] at HD
      have HE := hid hl0e
      clear hl0e HX
      go_wp2_with (go_at_call 59; refine (adv_calls _ (0, 0) _ _ _ l0 _ HG.out HD.out hc0 hl0 HP.out).mono ?_; rintro e w' ⟨rfl, rfl⟩)
      go_round
      case rel => exact ⟨k + 1, by omega, by go_num, by rw [advP_succ ls k _ hlt, HE.out]⟩
      case measure => simp [intOf]; omega
    · go_wp2
      go_ret
      exact ⟨by rw [List.take_of_length_le (by omega)]; rfl, HBW.out⟩
end Go.Proofs.Ytfkgpmidcbjlbaa.H
namespace Go.Proofs.Ytfkgpmidcbjlbaa.P
open Go.RowKit Go.Proofs.Ytfkgpmidcbjlbaa.H Go.Proofs.YtfkgpmidcbjlbaaW.PrintWords
theorem checksum_CRC.calls (A0 : Option Addr) (c0 : Nat) (l0 : List (List Int)) (r : Int) (w : World) (hr0 : Kd.C (Kd.slice 5 (Kd.int .u8)) w A0 l0.length l0) (hc0 : l0.length ≤ c0) (h : checksum_CRC.f l0 = some r) :
    Calls Try.prog 28 #[.slice A0 l0.length c0] w fun e w' => e = .returned (.int .u32 r) ∧ Below w.heap.size w w' := by
  obtain rfl := Option.some.inj h
  exact crc_calls A0 c0 l0 w hr0 hc0
end Go.Proofs.Ytfkgpmidcbjlbaa.P
end
section
set_option linter.unusedVariables false
set_option linter.unusedSimpArgs false
-- Written by a program of this session (a printer of walks).
namespace Go.Proofs.Ytfkgpmidcbjlbaa.P
open Go.RowKit Go.Proofs.YtfkgpmidcbjlbaaW.PrintWords Go.Proofs.YtfkgpmidcbjlbaaW.PrintLast Go.Proofs.YtfkgpmidcbjlbaaW.PrintMore
attribute [local go_sem] max2_int min2_int max_two min_two max_three min_three max_four min_four   -- for this text's walks alone
set_option linter.unusedVariables false
set_option linter.unusedSimpArgs false

/-! ### laminaref02_step: function 74 -/
def laminaref02_step.l0 : Nat → Int → Int → Option (Int)
  | 0, _, _ => none
  | k + 1, x0, x5 => if x5 < 8 then (if (Go.bits .and .u32 x0 1) = 1 then (laminaref02_step.l0 k (Go.bits .xor .u32 (x0 / 2) 2197175160) (wrap64 (x5 + 1))) else (laminaref02_step.l0 k (x0 / 2) (wrap64 (x5 + 1)))) else (some x0)
def laminaref02_step.f (k : Nat) (a0 : Int) (a1 : Int) : Option (Int) := laminaref02_step.l0 k (Go.bits .xor .u32 a0 ((a1) % 4294967296)) 0
theorem laminaref02_step.mono_l : ∀ k, (∀ y0 y1, LeO (laminaref02_step.l0 k y0 y1) (laminaref02_step.l0 (k + 1) y0 y1))
  | 0 => fun _ _ r h => by simp [laminaref02_step.l0] at h
  | k + 1 => by
    have ih0 := laminaref02_step.mono_l k
    · intro y0 y1
      unfold laminaref02_step.l0
      repeat' first
      | (with_reducible exact ih0 _ _)
      | (with_reducible exact LeO.refl _)
      | (with_reducible exact LeO.none _)
      | (with_reducible refine LeO.ite ?_ ?_)
      | (with_reducible refine LeO.bind ?_ (fun _ => ?_))
      | exact ih0 _ _
      | exact LeO.none _
      | refine LeO.ite ?_ ?_
      | refine LeO.bind ?_ (fun _ => ?_)
theorem laminaref02_step.mono : ∀ a0 a1 k, LeO (laminaref02_step.f k a0 a1) (laminaref02_step.f (k + 1) a0 a1) := by
  intro a0 a1 k
  have ih0 := laminaref02_step.mono_l k
  unfold laminaref02_step.f
  repeat' first
      | (with_reducible exact ih0 _ _)
      | (with_reducible exact LeO.refl _)
      | (with_reducible exact LeO.none _)
      | (with_reducible refine LeO.ite ?_ ?_)
      | (with_reducible refine LeO.bind ?_ (fun _ => ?_))
      | exact ih0 _ _
      | exact LeO.none _
      | refine LeO.ite ?_ ?_
      | refine LeO.bind ?_ (fun _ => ?_)
set_option maxHeartbeats 8000000 in
set_option maxRecDepth 100000 in
theorem laminaref02_step.calls (k : Nat) (a0 : Int) (a1 : Int) (r : Int) (w : World) (h : laminaref02_step.f k a0 a1 = some r) :
    Calls Try.prog 74 #[.int .u32 a0, .int .u8 a1] w fun e w' => e = .returned (.int .u32 r) ∧ Drawn0 w w' := by
  have H : (laminaref02_step.l0 k (Go.bits .xor .u32 a0 ((a1) % 4294967296)) 0) = some r := h
  clear h
  have H' := Aside0.mk H
  clear H
  go_enter Try.func74, Try.ntmps74
  go_wp2
  go_loopg [0, 5] k (fun kq v0 v5 w' => ∃ (x0_1 : Int) (x5_1 : Int), v0 = .int .u32 x0_1 ∧ v5 = .int .i64 x5_1 ∧ Aside0 (laminaref02_step.l0 kq x0_1 x5_1 = some r) ∧ Aside0 (kq ≤ k) ∧ Drawn0 w w')
  case atStart => exact ⟨(Go.bits .xor .u32 a0 ((a1) % 4294967296)), (0), (by first | rfl | (simp; done) | (simp [*]; done)), (by first | rfl | (simp; done) | (simp [*]; done)), H', ⟨Nat.le_refl _⟩, by repeat (first | exact Drawn0.refl _ | apply Drawn0.step)⟩
  case round =>
    clear H'
    try clear p2
    obtain ⟨x0_1, x5_1, rfl, rfl, HA, HK1, ⟨m1, rfl⟩⟩ := hrel
    cases gk with
    | zero => exact absurd HA.out (by simp [laminaref02_step.l0])
    | succ k1 =>
      have H := HA.out
      clear HA
      simp only [laminaref02_step.l0] at H
      by_cases c3 : x5_1 < 8
      · rw [if_pos c3] at H
        have c3b0 : decide (x5_1 < 8) = true := decide_eq_true c3
        clear c3
        by_cases c4 : (Go.bits .and .u32 x0_1 1) = 1
        · rw [if_pos c4] at H
          have c4b0 : ((Go.bits .and .u32 x0_1 1) == 1) = true := beq_iff_eq.mpr c4
          have c4b1 : ((Go.bits .and .u32 x0_1 1) != 1) = false := bne_eq_false_iff_eq.mpr c4
          clear c4
          have H' := Aside0.mk H
          clear H
          go_wp2
          go_roundg k1
          case measure => have := HK1.out; omega
          case rel => exact ⟨(Go.bits .xor .u32 (x0_1 / 2) 2197175160), (wrap64 (x5_1 + 1)), (by first | rfl | (simp; done) | (simp [*]; done)), (by first | rfl | (simp; done) | (simp [*]; done)), H', ⟨by have := HK1.out; omega⟩, by repeat (first | exact Drawn0.refl _ | apply Drawn0.step)⟩
        · rw [if_neg c4] at H
          have c4b0 : ((Go.bits .and .u32 x0_1 1) == 1) = false := beq_eq_false_iff_ne.mpr c4
          have c4b1 : ((Go.bits .and .u32 x0_1 1) != 1) = true := bne_iff_ne.mpr c4
          have H' := Aside0.mk H
          clear H
          go_wp2
          go_roundg k1
          case measure => have := HK1.out; omega
          case rel => exact ⟨(x0_1 / 2), (wrap64 (x5_1 + 1)), (by first | rfl | (simp; done) | (simp [*]; done)), (by first | rfl | (simp; done) | (simp [*]; done)), H', ⟨by have := HK1.out; omega⟩, by repeat (first | exact Drawn0.refl _ | apply Drawn0.step)⟩
      · rw [if_neg c3] at H
        have c3b0 : decide (x5_1 < 8) = false := decide_eq_false c3
        clear c3
        obtain rfl := Option.some.inj H
        go_wp2
        go_ret
        exact ⟨by first | rfl | (simp; done) | (simp [*]; done), by repeat (first | exact Drawn0.refl _ | apply Drawn0.step)⟩

end Go.Proofs.Ytfkgpmidcbjlbaa.P
end
section
set_option linter.unusedVariables false
set_option linter.unusedSimpArgs false
-- Written by a program of this session (a printer of walks).
namespace Go.Proofs.Ytfkgpmidcbjlbaa.P
open Go.RowKit Go.Proofs.YtfkgpmidcbjlbaaW.PrintWords Go.Proofs.YtfkgpmidcbjlbaaW.PrintLast Go.Proofs.YtfkgpmidcbjlbaaW.PrintMore
attribute [local go_sem] max2_int min2_int max_two min_two max_three min_three max_four min_four   -- for this text's walks alone
set_option linter.unusedVariables false
set_option linter.unusedSimpArgs false

/-! ### laminaref02_Update: function 71 -/
def laminaref02_Update.l0 : Nat → Int → List Int → Int → Option (Int)
  | 0, _, _, _ => none
  | k + 1, x0, x1, x5 => if x5 < (x1.length : Int) then (if 0 ≤ x5 then ((laminaref02_step.f k x0 (rd x1 x5)).bind fun t246 => (laminaref02_Update.l0 k t246 x1 (wrap64 (x5 + 1)))) else (none)) else (some (Go.bits .xor .u32 4294967295 x0))
def laminaref02_Update.f (k : Nat) (a0 : Int) (l1 : List Int) : Option (Int) := laminaref02_Update.l0 k (Go.bits .xor .u32 4294967295 a0) l1 0
theorem laminaref02_Update.mono_l : ∀ k, (∀ y0 y1 y2, LeO (laminaref02_Update.l0 k y0 y1 y2) (laminaref02_Update.l0 (k + 1) y0 y1 y2))
  | 0 => fun _ _ _ r h => by simp [laminaref02_Update.l0] at h
  | k + 1 => by
    have ih0 := laminaref02_Update.mono_l k
    · intro y0 y1 y2
      unfold laminaref02_Update.l0
      repeat' first
      | (with_reducible exact ih0 _ _ _)
      | (with_reducible exact laminaref02_step.mono _ _ _)
      | (with_reducible exact LeO.refl _)
      | (with_reducible exact LeO.none _)
      | (with_reducible refine LeO.ite ?_ ?_)
      | (with_reducible refine LeO.bind ?_ (fun _ => ?_))
      | exact ih0 _ _ _
      | exact laminaref02_step.mono _ _ _
      | exact LeO.none _
      | refine LeO.ite ?_ ?_
      | refine LeO.bind ?_ (fun _ => ?_)
theorem laminaref02_Update.mono : ∀ a0 a1 k, LeO (laminaref02_Update.f k a0 a1) (laminaref02_Update.f (k + 1) a0 a1) := by
  intro a0 a1 k
  have ih0 := laminaref02_Update.mono_l k
  unfold laminaref02_Update.f
  repeat' first
      | (with_reducible exact ih0 _ _ _)
      | (with_reducible exact laminaref02_step.mono _ _ _)
      | (with_reducible exact LeO.refl _)
      | (with_reducible exact LeO.none _)
      | (with_reducible refine LeO.ite ?_ ?_)
      | (with_reducible refine LeO.bind ?_ (fun _ => ?_))
      | exact ih0 _ _ _
      | exact laminaref02_step.mono _ _ _
      | exact LeO.none _
      | refine LeO.ite ?_ ?_
      | refine LeO.bind ?_ (fun _ => ?_)
set_option maxHeartbeats 8000000 in
set_option maxRecDepth 100000 in
theorem laminaref02_Update.calls (k : Nat) (a0 : Int) (A1 : Option Addr) (c1 : Nat) (l1 : List Int) (r : Int) (w : World) (hr1 : Kd.C (Kd.int .u8) w A1 l1.length l1) (hc1 : l1.length ≤ c1) (h : laminaref02_Update.f k a0 l1 = some r) :
    Calls Try.prog 71 #[.int .u32 a0, .slice A1 l1.length c1] w fun e w' => e = .returned (.int .u32 r) ∧ Drawn0 w w' := by
  have HR1 := Aside0.mk hr1
  have HC1 := Aside0.mk hc1
  clear hr1 hc1
  have H : (laminaref02_Update.l0 k (Go.bits .xor .u32 4294967295 a0) l1 0) = some r := h
  clear h
  have H' := Aside0.mk H
  clear H
  go_enter Try.func71, Try.ntmps71
  go_wp2
  go_loopg [0, 5] k (fun kq v0 v5 w' => ∃ (x0_1 : Int) (x5_1 : Int), v0 = .int .u32 x0_1 ∧ v5 = .int .i64 x5_1 ∧ Aside0 (laminaref02_Update.l0 kq x0_1 l1 x5_1 = some r) ∧ Aside0 (kq ≤ k) ∧ Drawn0 w w')
  case atStart => exact ⟨(Go.bits .xor .u32 4294967295 a0), (0), (by first | rfl | (simp; done) | (simp [*]; done)), (by first | rfl | (simp; done) | (simp [*]; done)), H', ⟨Nat.le_refl _⟩, by repeat (first | exact Drawn0.refl _ | apply Drawn0.step)⟩
  case round =>
    clear H'
    try clear c1
    try clear p2
    obtain ⟨x0_1, x5_1, rfl, rfl, HA, HK1, ⟨m1, rfl⟩⟩ := hrel
    cases gk with
    | zero => exact absurd HA.out (by simp [laminaref02_Update.l0])
    | succ k1 =>
      have H := HA.out
      clear HA
      simp only [laminaref02_Update.l0] at H
      by_cases c3 : x5_1 < (l1.length : Int)
      · rw [if_pos c3] at H
        have c3b0 : decide (x5_1 < (l1.length : Int)) = true := decide_eq_true c3
        clear c3
        by_cases c4 : 0 ≤ x5_1
        · rw [if_pos c4] at H
          have c4b0 : decide (0 ≤ x5_1) = true := decide_eq_true c4
          clear c4
          replace H := Option.bind_eq_some_iff.mp H
          obtain ⟨t246, A50, H⟩ := H
          replace H : (laminaref02_Update.l0 k1 t246 l1 (wrap64 (x5_1 + 1))) = some r := H
          have A5 := Aside0.mk A50
          clear A50
          have H' := Aside0.mk H
          clear H
          have p245 : 0 ≤ (x5_1 : Int) := of_decide_eq_true (by first | (with_reducible assumption) | assumption)
          have q245 : x5_1 < (l1.length : Int) := of_decide_eq_true (by first | (with_reducible assumption) | assumption)
          obtain ⟨ad245, e245, hx245_0⟩ := Kd.at_int HR1.out x5_1 p245 q245
          cases e245
          replace p245 := eq_true p245
          replace q245 := eq_true q245
          go_wp2_with (first | ((with_reducible refine gate_callee (f := 74) rfl ?_); refine goesL_ (some 19) rfl rfl Try.func74 (by kernel_rfl) rfl #[.int .u32 x0_1, .int .u8 (rd l1 x5_1)] rfl (by (try simp only [List.map_toArray, List.map_cons, List.map_nil]); first | done | rfl | (simp only [List.length_drop, List.length_take]; rfl)) ?_; (with_reducible refine (laminaref02_step.calls k1 x0_1 (rd l1 x5_1) t246 _ A5.out).mono ?_); rintro e w' ⟨rfl, ⟨nd, rfl⟩⟩; refine ⟨_, rfl, ?_⟩))
          go_roundg k1
          case measure => have := HK1.out; omega
          case rel => exact ⟨(t246), (wrap64 (x5_1 + 1)), (by first | rfl | (simp; done) | (simp [*]; done)), (by first | rfl | (simp; done) | (simp [*]; done)), H', ⟨by have := HK1.out; omega⟩, by repeat (first | exact Drawn0.refl _ | apply Drawn0.step)⟩
        · rw [if_neg c4] at H
          exact absurd H (by simp)
      · rw [if_neg c3] at H
        have c3b0 : decide (x5_1 < (l1.length : Int)) = false := decide_eq_false c3
        clear c3
        obtain rfl := Option.some.inj H
        go_wp2
        go_ret
        exact ⟨by first | rfl | (simp; done) | (simp [*]; done), by repeat (first | exact Drawn0.refl _ | apply Drawn0.step)⟩

end Go.Proofs.Ytfkgpmidcbjlbaa.P
end
section
set_option linter.unusedVariables false
set_option linter.unusedSimpArgs false
-- Written by a program of this session (a printer of walks).
namespace Go.Proofs.Ytfkgpmidcbjlbaa.P
open Go.RowKit Go.Proofs.YtfkgpmidcbjlbaaW.PrintWords Go.Proofs.YtfkgpmidcbjlbaaW.PrintLast Go.Proofs.YtfkgpmidcbjlbaaW.PrintMore
attribute [local go_sem] max2_int min2_int max_two min_two max_three min_three max_four min_four   -- for this text's walks alone
set_option linter.unusedVariables false
set_option linter.unusedSimpArgs false

/-! ### laminaref02_CRC: function 61 -/
def laminaref02_CRC.l0 : Nat → List (List Int) → Int → Int → Option (Int)
  | 0, _, _, _ => none
  | k + 1, x0, x3, x4 => if x4 < (x0.length : Int) then (if 0 ≤ x4 then ((laminaref02_Update.f k x3 (rd_L4 x0 x4)).bind fun t248 => (laminaref02_CRC.l0 k x0 t248 (wrap64 (x4 + 1)))) else (none)) else (some x3)
def laminaref02_CRC.f (k : Nat) (l0 : List (List Int)) : Option (Int) := laminaref02_CRC.l0 k l0 0 0
theorem laminaref02_CRC.mono_l : ∀ k, (∀ y0 y1 y2, LeO (laminaref02_CRC.l0 k y0 y1 y2) (laminaref02_CRC.l0 (k + 1) y0 y1 y2))
  | 0 => fun _ _ _ r h => by simp [laminaref02_CRC.l0] at h
  | k + 1 => by
    have ih0 := laminaref02_CRC.mono_l k
    · intro y0 y1 y2
      unfold laminaref02_CRC.l0
      repeat' first
      | (with_reducible exact ih0 _ _ _)
      | (with_reducible exact laminaref02_Update.mono _ _ _)
      | (with_reducible exact LeO.refl _)
      | (with_reducible exact LeO.none _)
      | (with_reducible refine LeO.ite ?_ ?_)
      | (with_reducible refine LeO.bind ?_ (fun _ => ?_))
      | exact ih0 _ _ _
      | exact laminaref02_Update.mono _ _ _
      | exact LeO.none _
      | refine LeO.ite ?_ ?_
      | refine LeO.bind ?_ (fun _ => ?_)
theorem laminaref02_CRC.mono : ∀ a0 k, LeO (laminaref02_CRC.f k a0) (laminaref02_CRC.f (k + 1) a0) := by
  intro a0 k
  have ih0 := laminaref02_CRC.mono_l k
  unfold laminaref02_CRC.f
  repeat' first
      | (with_reducible exact ih0 _ _ _)
      | (with_reducible exact laminaref02_Update.mono _ _ _)
      | (with_reducible exact LeO.refl _)
      | (with_reducible exact LeO.none _)
      | (with_reducible refine LeO.ite ?_ ?_)
      | (with_reducible refine LeO.bind ?_ (fun _ => ?_))
      | exact ih0 _ _ _
      | exact laminaref02_Update.mono _ _ _
      | exact LeO.none _
      | refine LeO.ite ?_ ?_
      | refine LeO.bind ?_ (fun _ => ?_)
set_option maxHeartbeats 8000000 in
set_option maxRecDepth 100000 in
theorem laminaref02_CRC.calls (k : Nat) (A0 : Option Addr) (c0 : Nat) (l0 : List (List Int)) (r : Int) (w : World) (hr0 : Kd.C (Kd.slice 5 (Kd.int .u8)) w A0 l0.length l0) (hc0 : l0.length ≤ c0) (h : laminaref02_CRC.f k l0 = some r) :
    Calls Try.prog 61 #[.slice A0 l0.length c0] w fun e w' => e = .returned (.int .u32 r) ∧ Drawn0 w w' := by
  have HR0 := Aside0.mk hr0
  have HC0 := Aside0.mk hc0
  clear hr0 hc0
  have H : (laminaref02_CRC.l0 k l0 0 0) = some r := h
  clear h
  have H' := Aside0.mk H
  clear H
  go_enter Try.func61, Try.ntmps61
  go_wp2
  go_loopg [3, 4] k (fun kq v3 v4 w' => ∃ (x3_1 : Int) (x4_1 : Int), v3 = .int .u32 x3_1 ∧ v4 = .int .i64 x4_1 ∧ Aside0 (laminaref02_CRC.l0 kq l0 x3_1 x4_1 = some r) ∧ Aside0 (kq ≤ k) ∧ Drawn0 w w')
  case atStart => exact ⟨(0), (0), (by first | rfl | (simp; done) | (simp [*]; done)), (by first | rfl | (simp; done) | (simp [*]; done)), H', ⟨Nat.le_refl _⟩, by repeat (first | exact Drawn0.refl _ | apply Drawn0.step)⟩
  case round =>
    clear H'
    obtain ⟨x3_1, x4_1, rfl, rfl, HA, HK1, ⟨m1, rfl⟩⟩ := hrel
    cases gk with
    | zero => exact absurd HA.out (by simp [laminaref02_CRC.l0])
    | succ k1 =>
      have H := HA.out
      clear HA
      simp only [laminaref02_CRC.l0] at H
      by_cases c2 : x4_1 < (l0.length : Int)
      · rw [if_pos c2] at H
        have c2b0 : decide (x4_1 < (l0.length : Int)) = true := decide_eq_true c2
        clear c2
        by_cases c3 : 0 ≤ x4_1
        · rw [if_pos c3] at H
          have c3b0 : decide (0 ≤ x4_1) = true := decide_eq_true c3
          clear c3
          replace H := Option.bind_eq_some_iff.mp H
          obtain ⟨t248, A40, H⟩ := H
          replace H : (laminaref02_CRC.l0 k1 l0 t248 (wrap64 (x4_1 + 1))) = some r := H
          have A4 := Aside0.mk A40
          clear A40
          have H' := Aside0.mk H
          clear H
          have p247 : 0 ≤ (x4_1 : Int) := of_decide_eq_true (by first | (with_reducible assumption) | assumption)
          have q247 : x4_1 < (l0.length : Int) := of_decide_eq_true (by first | (with_reducible assumption) | assumption)
          obtain ⟨ad247, A247_0, c247_0, e247, hx247_0, hl247_0, hi247_0⟩ := at_L4 HR0.out x4_1 p247 q247
          cases e247
          have HR247_0 := Aside0.mk hi247_0
          have HC247_0 := Aside0.mk hl247_0
          clear hi247_0 hl247_0
          replace p247 := eq_true p247
          replace q247 := eq_true q247
          go_wp2_with (first | ((with_reducible refine gate_callee (f := 71) rfl ?_); refine goesL_ (some 16) rfl rfl Try.func71 (by kernel_rfl) rfl #[.int .u32 x3_1, .slice A247_0 (rd_L4 l0 x4_1).length c247_0] rfl (by (try simp only [List.map_toArray, List.map_cons, List.map_nil]); first | done | rfl | (simp only [List.length_drop, List.length_take]; rfl)) ?_; (with_reducible refine (laminaref02_Update.calls k1 x3_1 _ _ (rd_L4 l0 x4_1) t248 _ ?side1 ?side2 A4.out).mono ?_); (case side1 => repeat (first | exact HR247_0.out | (with_reducible refine Kd.C_alloc ?_ _) | (with_reducible refine Kd.C_drewN ?_ _) | (with_reducible refine Kd.C_drew ?_))); (case side2 => exact HC247_0.out); rintro e w' ⟨rfl, ⟨nd, rfl⟩⟩; refine ⟨_, rfl, ?_⟩))
          go_roundg k1
          case measure => have := HK1.out; omega
          case rel => exact ⟨(t248), (wrap64 (x4_1 + 1)), (by first | rfl | (simp; done) | (simp [*]; done)), (by first | rfl | (simp; done) | (simp [*]; done)), H', ⟨by have := HK1.out; omega⟩, by repeat (first | exact Drawn0.refl _ | apply Drawn0.step)⟩
        · rw [if_neg c3] at H
          exact absurd H (by simp)
      · rw [if_neg c2] at H
        have c2b0 : decide (x4_1 < (l0.length : Int)) = false := decide_eq_false c2
        clear c2
        obtain rfl := Option.some.inj H
        go_wp2
        go_ret
        exact ⟨by first | rfl | (simp; done) | (simp [*]; done), by repeat (first | exact Drawn0.refl _ | apply Drawn0.step)⟩

end Go.Proofs.Ytfkgpmidcbjlbaa.P
end
section
set_option linter.unusedVariables false
set_option linter.unusedSimpArgs false
/- Plain: the checksum, the program's by a table and the reference's bit by bit. -/
namespace Go.Proofs.Ytfkgpmidcbjlbaa.U
open Go.RowKit Go.Proofs.Ytfkgpmidcbjlbaa.P Go.Proofs.Ytfkgpmidcbjlbaa.H Go.Proofs.YtfkgpmidcbjlbaaW.PrintWords Go.Proofs.YtfkgpmidcbjlbaaW.PrintMore

theorem xor_eq_zero (x y : Nat) (h : x ^^^ y = 0) : x = y := by
  have e : (x ^^^ y) ^^^ y = 0 ^^^ y := by rw [h]
  rwa [Nat.xor_assoc, Nat.xor_self, Nat.xor_zero, Nat.zero_xor] at e
def crc1N (x : Nat) : Nat := if x % 2 = 1 then (x / 2) ^^^ 2197175160 else x / 2
def crcNN : Nat → Nat → Nat
  | 0, x => x
  | n + 1, x => crc1N (crcNN n x)
theorem half_xor (x y : Nat) : (x ^^^ y) / 2 = (x / 2) ^^^ (y / 2) := by
  simpa [Nat.shiftRight_eq_div_pow] using Nat.shiftRight_xor_distrib (a := x) (b := y) (i := 1)
theorem odd_xor (x y : Nat) : (x ^^^ y) % 2 = (x % 2 + y % 2) % 2 := by
  have h := Nat.testBit_xor x y 0
  simp only [Nat.testBit_zero] at h
  have hx : x % 2 = 0 ∨ x % 2 = 1 := by omega
  have hy : y % 2 = 0 ∨ y % 2 = 1 := by omega
  have hz : (x ^^^ y) % 2 = 0 ∨ (x ^^^ y) % 2 = 1 := by omega
  rcases hx with hx | hx <;> rcases hy with hy | hy <;> rcases hz with hz | hz <;> rw [hx, hy, hz] at h <;> first | (rw [hx, hy, hz]; done) | (rw [hx, hy, hz]; simp at h ⊢; done) | (simp at h)
theorem crc1N_xor (x y : Nat) : crc1N (x ^^^ y) = crc1N x ^^^ crc1N y := by
  unfold crc1N
  rw [odd_xor, half_xor]
  have hx : x % 2 = 0 ∨ x % 2 = 1 := by omega
  have hy : y % 2 = 0 ∨ y % 2 = 1 := by omega
  rcases hx with hx | hx <;> rcases hy with hy | hy <;> rw [hx, hy] <;> simp
  · rw [Nat.xor_assoc]
  · rw [Nat.xor_assoc, Nat.xor_assoc, Nat.xor_comm (y / 2)]
  · rw [Nat.xor_assoc (x / 2), Nat.xor_comm 2197175160, Nat.xor_assoc (y / 2), Nat.xor_self, Nat.xor_zero]
theorem crcNN_xor (n x y : Nat) : crcNN n (x ^^^ y) = crcNN n x ^^^ crcNN n y := by
  induction n with
  | zero => rfl
  | succ n ih => show crc1N _ = _; rw [ih, crc1N_xor]; rfl
theorem crc1N_even (x : Nat) : crc1N (2 * x) = x := by unfold crc1N; rw [if_neg (by omega)]; omega
theorem crcNN_shift (q : Nat) : crcNN 8 (256 * q) = q := by
  show crc1N (crc1N (crc1N (crc1N (crc1N (crc1N (crc1N (crc1N (256 * q)))))))) = q
  rw [show 256 * q = 2 * (128 * q) from by omega, crc1N_even, show 128 * q = 2 * (64 * q) from by omega, crc1N_even, show 64 * q = 2 * (32 * q) from by omega, crc1N_even, show 32 * q = 2 * (16 * q) from by omega, crc1N_even,
    show 16 * q = 2 * (8 * q) from by omega, crc1N_even, show 8 * q = 2 * (4 * q) from by omega, crc1N_even, show 4 * q = 2 * (2 * q) from by omega, crc1N_even, crc1N_even]
theorem split256 (r : Nat) : r = (256 * (r / 256)) ^^^ (r % 256) := by
  have h : 256 * (r / 256) ||| r % 256 = 2 ^ 8 * (r / 256) + r % 256 := (Nat.two_pow_add_eq_or_of_lt (i := 8) (Nat.mod_lt _ (by decide)) (r / 256)).symm
  apply Nat.eq_of_testBit_eq
  intro i
  rw [Nat.testBit_xor]
  have e1 : (256 * (r / 256)).testBit i = (decide (8 ≤ i) && (r / 256).testBit (i - 8)) := by
    rw [show 256 * (r / 256) = 2 ^ 8 * (r / 256) from rfl, Nat.testBit_two_pow_mul]
  have e2 : (r % 256).testBit i = (decide (i < 8) && r.testBit i) := by
    rw [show 256 = 2 ^ 8 from rfl, Nat.testBit_mod_two_pow]
  have e3 : (r / 256).testBit (i - 8) = r.testBit (8 + (i - 8)) := by
    rw [show 256 = 2 ^ 8 from rfl, Nat.testBit_div_two_pow, Nat.add_comm]
  rw [e1, e2, e3]
  by_cases hi : 8 ≤ i
  · rw [decide_eq_true hi, decide_eq_false (by omega), show 8 + (i - 8) = i from by omega]; simp
  · rw [decide_eq_false hi, decide_eq_true (by omega)]; simp
/-- one byte, by the reference -/
def stepN (r b : Nat) : Nat := crcNN 8 (r ^^^ b)
theorem step_tab (r b : Nat) : stepN r b = (r / 256) ^^^ crcNN 8 ((r % 256) ^^^ b) := by
  unfold stepN
  have h : r ^^^ b = (256 * (r / 256)) ^^^ ((r % 256) ^^^ b) := by
    conv => lhs; rw [split256 r]
    rw [Nat.xor_assoc]
  rw [h, crcNN_xor, crcNN_shift]
theorem crc1N_lt (x : Nat) (h : x < 4294967296) : crc1N x < 4294967296 := by
  unfold crc1N
  split
  · exact Nat.xor_lt_two_pow (n := 32) (by omega) (by omega)
  · omega
theorem crcNN_lt (n x : Nat) (h : x < 4294967296) : crcNN n x < 4294967296 := by
  induction n with
  | zero => exact h
  | succ n ih => exact crc1N_lt _ ih
theorem stepN_lt (r b : Nat) (h : r < 4294967296) (hb : b < 256) : stepN r b < 4294967296 :=
  crcNN_lt _ _ (Nat.xor_lt_two_pow (n := 32) h (by omega))
theorem crc1N_zero (x : Nat) (h : x < 4294967296) (h0 : crc1N x = 0) : x = 0 := by
  unfold crc1N at h0
  by_cases ho : x % 2 = 1
  · rw [if_pos ho] at h0
    have := xor_eq_zero _ _ h0
    omega
  · rw [if_neg ho] at h0; omega
theorem crcNN_zero (n x : Nat) (h : x < 4294967296) (h0 : crcNN n x = 0) : x = 0 := by
  induction n with
  | zero => exact h0
  | succ n ih => exact ih (crc1N_zero _ (crcNN_lt n x h) h0)
theorem crcNN_inj (n x y : Nat) (hx : x < 4294967296) (hy : y < 4294967296) (h : crcNN n x = crcNN n y) : x = y := by
  have h0 : crcNN n (x ^^^ y) = 0 := by rw [crcNN_xor, h, Nat.xor_self]
  exact xor_eq_zero _ _ (crcNN_zero n _ (Nat.xor_lt_two_pow (n := 32) hx hy) h0)
theorem xor_cancel (a b c : Nat) (h : a ^^^ b = a ^^^ c) : b = c := by
  have : a ^^^ (a ^^^ b) = a ^^^ (a ^^^ c) := by rw [h]
  rwa [← Nat.xor_assoc, ← Nat.xor_assoc, Nat.xor_self, Nat.zero_xor, Nat.zero_xor] at this
theorem stepN_inj_r (r r' b : Nat) (h : r < 4294967296) (h' : r' < 4294967296) (hb : b < 256) (e : stepN r b = stepN r' b) : r = r' := by
  have := crcNN_inj 8 _ _ (Nat.xor_lt_two_pow (n := 32) h (by omega)) (Nat.xor_lt_two_pow (n := 32) h' (by omega)) e
  rw [Nat.xor_comm r, Nat.xor_comm r'] at this
  exact xor_cancel _ _ _ this
theorem stepN_inj_b (r b b' : Nat) (h : r < 4294967296) (hb : b < 256) (hb' : b' < 256) (e : stepN r b = stepN r b') : b = b' :=
  xor_cancel _ _ _ (crcNN_inj 8 _ _ (Nat.xor_lt_two_pow (n := 32) h (by omega)) (Nat.xor_lt_two_pow (n := 32) h (by omega)) e)
/-- the register behind a list of bytes -/
def advN (r : Nat) (l : List Int) : Nat := l.foldl (fun r b => stepN r b.toNat) r
theorem advN_lt (l : List Int) (hb : Bytes l) : ∀ r, r < 4294967296 → advN r l < 4294967296 := by
  induction l with
  | nil => exact fun r h => h
  | cons x xs ih =>
    intro r h
    have hx := hb x (by simp)
    exact ih (fun y hy => hb y (by simp [hy])) _ (stepN_lt r _ h (by omega))
theorem advN_inj (l : List Int) (hb : Bytes l) : ∀ r r', r < 4294967296 → r' < 4294967296 → advN r l = advN r' l → r = r' := by
  induction l with
  | nil => exact fun r r' _ _ h => h
  | cons x xs ih =>
    intro r r' h h' e
    have hx := hb x (by simp)
    exact stepN_inj_r r r' _ h h' (by omega) (ih (fun y hy => hb y (by simp [hy])) _ _ (stepN_lt r _ h (by omega)) (stepN_lt r' _ h' (by omega)) e)
theorem advN_app (r : Nat) (a b : List Int) : advN r (a ++ b) = advN (advN r a) b := by
  unfold advN
  exact List.foldl_append
theorem advN_cons (r : Nat) (x : Int) (b : List Int) : advN r (x :: b) = advN (stepN r x.toNat) b := by
  unfold advN
  exact List.foldl_cons ..
def ones : Nat := 4294967295
theorem ones_lt : ones < 4294967296 := by decide
theorem xor_lt (x y : Nat) (hx : x < 4294967296) (hy : y < 4294967296) : x ^^^ y < 4294967296 := Nat.xor_lt_two_pow (n := 32) hx hy
/-- the checksum -/
def crcS (l : List Int) : Nat := ones ^^^ advN ones l
theorem crcS_lt (l : List Int) (hb : Bytes l) : crcS l < 4294967296 := xor_lt _ _ ones_lt (advN_lt l hb _ ones_lt)
theorem advN_turned (q : Nat) (hq : q < 4294967296) (a b : List Int) (x y : Int) (ha : Bytes a) (hb : Bytes b) (hx : 0 ≤ x ∧ x < 256) (hy : 0 ≤ y ∧ y < 256) (hne : x ≠ y) (h : advN q (a ++ x :: b) = advN q (a ++ y :: b)) : False := by
  have hl : advN q a < 4294967296 := advN_lt a ha q hq
  have h : advN (stepN (advN q a) x.toNat) b = advN (stepN (advN q a) y.toNat) b := by
    have e1 : advN q (a ++ x :: b) = advN (stepN (advN q a) x.toNat) b := by rw [advN_app]; rfl
    have e2 : advN q (a ++ y :: b) = advN (stepN (advN q a) y.toNat) b := by rw [advN_app]; rfl
    exact e1.symm.trans (h.trans e2)
  generalize advN q a = r at hl h
  obtain ⟨x', rfl⟩ : ∃ x' : Nat, x = (x' : Int) := ⟨x.toNat, by omega⟩
  obtain ⟨y', rfl⟩ : ∃ y' : Nat, y = (y' : Int) := ⟨y.toNat, by omega⟩
  rw [Int.toNat_natCast, Int.toNat_natCast] at h
  have hx' : x' < 256 := by omega
  have hy' : y' < 256 := by omega
  have h2 := advN_inj b hb _ _ (stepN_lt r x' hl hx') (stepN_lt r y' hl hy') h
  have h3 := stepN_inj_b r x' y' hl hx' hy' h2
  exact hne (by rw [h3])
/-- one byte that is another makes another checksum -/
theorem crcS_turned (a b : List Int) (x y : Int) (ha : Bytes a) (hb : Bytes b) (hx : 0 ≤ x ∧ x < 256) (hy : 0 ≤ y ∧ y < 256) (hne : x ≠ y) : crcS (a ++ x :: b) ≠ crcS (a ++ y :: b) :=
  fun h => advN_turned ones ones_lt a b x y ha hb hx hy hne (xor_cancel ones _ _ h)

/-! the program's -/
theorem crc1_nat (x : Nat) (h : x < 4294967296) : crc1 (x : Int) = ((crc1N x : Nat) : Int) := by
  unfold crc1 crc1N
  have e : Go.bits .and .u32 (x : Int) 1 = ((x % 2 : Nat) : Int) := by
    rw [show (1 : Int) = ((1 : Nat) : Int) from rfl, u32_and_nat _ _ h (by decide), Nat.and_one_is_mod]
  rw [e]
  by_cases ho : x % 2 = 1
  · rw [if_pos (by omega), if_pos ho, show ((x : Int) / 2) = ((x / 2 : Nat) : Int) from by omega, show (2197175160 : Int) = ((2197175160 : Nat) : Int) from rfl, u32_xor_nat _ _ (by omega) (by decide)]
  · rw [if_neg (by omega), if_neg ho]; omega
theorem crcN_nat (n x : Nat) (h : x < 4294967296) : crcN n (x : Int) = ((crcNN n x : Nat) : Int) := by
  induction n with
  | zero => rfl
  | succ n ih =>
    show crc1 (crcN n x) = _
    rw [ih, crc1_nat _ (crcNN_lt n x h)]; rfl
theorem updI_nat (r b : Nat) (h : r < 4294967296) (hb : b < 256) : updI (r : Int) (b : Int) = ((stepN r b : Nat) : Int) := by
  unfold updI tabAt
  have e : Go.bits .xor .u8 ((r : Int) % 256) (b : Int) = (((r % 256) ^^^ b : Nat) : Int) := by
    rw [show ((r : Int) % 256) = ((r % 256 : Nat) : Int) from by omega, u8_xor_nat _ _ (by omega) hb]
  have hx : (r % 256) ^^^ b < 256 := Nat.xor_lt_two_pow (n := 8) (by omega) hb
  rw [e, Int.toNat_natCast, crcN_nat _ _ (by omega), show ((r : Int) / 256) = ((r / 256 : Nat) : Int) from by omega, u32_xor_nat _ _ (by omega) (crcNN_lt _ _ (by omega)), step_tab]
theorem advI_nat (l : List Int) (hb : Bytes l) : ∀ r : Nat, r < 4294967296 → advI (r : Int) l = ((advN r l : Nat) : Int) := by
  induction l with
  | nil => exact fun r _ => rfl
  | cons x xs ih =>
    intro r h
    have hx := hb x (by simp)
    obtain ⟨c, rfl⟩ : ∃ c : Nat, x = (c : Int) := ⟨x.toNat, by omega⟩
    show advI (updI r c) xs = _
    rw [updI_nat r c h (by omega), ih (fun y hy => hb y (by simp [hy])) _ (stepN_lt r c h (by omega))]
    rfl
theorem crc_impl (l : List Int) (hb : Bytes l) : crcI [l] = ((crcS l : Nat) : Int) := by
  unfold crcI
  have eo : (4294967295 : Int) = ((ones : Nat) : Int) := rfl
  have e : advP ((ones : Nat) : Int) [l] = ((advN ones l : Nat) : Int) := advI_nat l hb ones ones_lt
  rw [eo, e, u32_xor_nat _ _ ones_lt (advN_lt l hb _ ones_lt)]
  rfl

/-! the reference's -/
theorem step_ref_l (x : Nat) (h : x < 4294967296) : ∀ f i : Nat, i + f = 8 → Ev (fun k => laminaref02_step.l0 k (crcNN i x : Nat) (i : Int)) ((crcNN 8 x : Nat) : Int)
  | 0, i, hi => by
    obtain rfl : i = 8 := by omega
    exact Ev.step (fun k => rfl) (Ev.neg (by decide) (Ev.pure _))
  | f + 1, i, hi => by
    refine Ev.step (fun k => rfl) (Ev.pos (by omega) ?_)
    have hc := crcNN_lt i x h
    have e1 := crc1_nat (crcNN i x) hc
    unfold crc1 at e1
    have ew : wrap64 ((i : Int) + 1) = ((i + 1 : Nat) : Int) := by rw [w64 _ (by omega) (by omega)]; omega
    have ih := step_ref_l x h f (i + 1) (by omega)
    rw [ew]
    refine Ev.ite (fun ho => ?_) (fun ho => ?_)
    · rw [if_pos ho] at e1
      rw [e1]
      exact ih
    · rw [if_neg ho] at e1
      rw [e1]
      exact ih
theorem step_ref (r b : Nat) (h : r < 4294967296) (hb : b < 256) : Ev (fun k => laminaref02_step.f k (r : Int) (b : Int)) ((stepN r b : Nat) : Int) := by
  have e : Go.bits .xor .u32 (r : Int) ((b : Int) % 4294967296) = ((crcNN 0 (r ^^^ b) : Nat) : Int) := by
    rw [show ((b : Int) % 4294967296) = ((b : Nat) : Int) from by omega, u32_xor_nat _ _ h (by omega)]; rfl
  have := step_ref_l (r ^^^ b) (Nat.xor_lt_two_pow (n := 32) h (by omega)) 8 0 rfl
  refine this.congr fun k => ?_
  show laminaref02_step.l0 k _ 0 = _
  rw [e]; rfl
theorem update_ref_l (l : List Int) (hb : Bytes l) (hl : l.length ≤ 4611686018427387904) : ∀ f i r : Nat, i + f = l.length → r < 4294967296 → Ev (fun k => laminaref02_Update.l0 k (r : Int) l (i : Int)) (((ones ^^^ advN r (l.drop i)) : Nat) : Int)
  | 0, i, r, hi, hr => by
    refine Ev.step (fun k => rfl) (Ev.neg (by omega) (Ev.of fun k => ?_))
    rw [List.drop_eq_nil_of_le (by omega), show (4294967295 : Int) = ((ones : Nat) : Int) from rfl, u32_xor_nat _ _ ones_lt hr]
    rfl
  | f + 1, i, r, hi, hr => by
    have hc := hb.at i (by omega)
    obtain ⟨c, hcc⟩ : ∃ c : Nat, l.getD i 0 = (c : Int) := ⟨(l.getD i 0).toNat, by omega⟩
    rw [hcc] at hc
    refine Ev.step (fun k => rfl) (Ev.pos (by omega) (Ev.pos (by omega) ?_))
    have ew : wrap64 ((i : Int) + 1) = ((i + 1 : Nat) : Int) := by rw [w64 _ (by omega) (by omega)]; omega
    rw [rdD, hcc, ew]
    have hge : l[i]'(by omega) = (c : Int) := by
      rw [← hcc, List.getD_eq_getElem?_getD, List.getElem?_eq_getElem (by omega)]; rfl
    have ih := update_ref_l l hb hl f (i + 1) (stepN r c) (by omega) (stepN_lt r c hr (by omega))
    rw [List.drop_eq_getElem_cons (show i < l.length by omega), hge, advN_cons, Int.toNat_natCast]
    exact Ev.bind (step_ref r c hr (by omega)) ih
theorem crc_ref (l : List Int) (hb : Bytes l) (hl : l.length ≤ 4611686018427387904) : Ev (fun k => laminaref02_CRC.f k [l]) ((crcS l : Nat) : Int) := by
  show Ev (fun k => laminaref02_CRC.l0 k [l] 0 0) _
  refine Ev.step (fun k => rfl) (Ev.pos (by simp) (Ev.pos (by omega) ?_))
  have hu : Ev (fun k => laminaref02_Update.f k 0 l) ((crcS l : Nat) : Int) := by
    have e : Go.bits .xor .u32 4294967295 0 = ((ones : Nat) : Int) := by decide +kernel
    refine (update_ref_l l hb hl l.length 0 ones (by omega) ones_lt).congr fun k => ?_
    show laminaref02_Update.l0 k (Go.bits .xor .u32 4294967295 0) l 0 = _
    rw [e]; rfl
  refine Ev.bind (hu.congr fun k => rfl) ?_
  refine Ev.step (fun k => rfl) (Ev.neg (by rw [show wrap64 (0 + 1) = 1 from by decide +kernel]; simp) (Ev.pure _))
end Go.Proofs.Ytfkgpmidcbjlbaa.U
end
section
set_option linter.unusedVariables false
set_option linter.unusedSimpArgs false
/- literal.IsIdent: what the call answers, at every string. -/

namespace Go.Proofs.Ytfkgpmidcbjlbaa.H
open Go.RowKit

/-- A letter, a digit or '_'. -/
def okc (n : Nat) : Bool := (decide (97 ≤ n) && decide (n ≤ 122)) || (decide (48 ≤ n) && decide (n ≤ 57)) || decide (n = 95)
def identB (s : ByteArray) : Bool :=
  decide (1 ≤ s.size) && decide (s.size ≤ 32) && decide (97 ≤ (s.data.toList.getD 0 0).toNat) && decide ((s.data.toList.getD 0 0).toNat ≤ 122) && s.data.toList.all (fun c => okc c.toNat)

theorem all_take_succ (s : ByteArray) (k : Nat) (h : k < s.size) (p : UInt8 → Bool) (ha : (s.data.toList.take k).all p = true) (hp : p s[k] = true) : (s.data.toList.take (k + 1)).all p = true := by
  rw [List.take_succ_eq_append_getElem (by simpa using h)]
  simp only [List.all_append, List.all_cons, List.all_nil, Bool.and_true, Bool.and_eq_true]
  exact ⟨ha, hp⟩

theorem not_all_at (s : ByteArray) (k : Nat) (h : k < s.size) (p : UInt8 → Bool) (hp : p s[k] = false) : s.data.toList.all p = false := by
  rw [List.all_eq_false]
  exact ⟨s[k], List.getElem_mem (h := by simpa using h), by simp [hp]⟩

theorem ident_empty (s : ByteArray) (h : s.size = 0) : identB s = false := by
  unfold identB
  rw [decide_eq_false (by omega)]
  simp
theorem ident_long (s : ByteArray) (h : ¬ s.size ≤ 32) : identB s = false := by
  unfold identB
  rw [decide_eq_false h]
  simp
theorem getD0 (s : ByteArray) (h : 0 < s.size) : s.data.toList.getD 0 0 = s[0]'h := by
  rw [List.getD_eq_getElem?_getD, List.getElem?_eq_getElem (by simpa using h)]
  rfl
theorem ident_low (s : ByteArray) (h : 0 < s.size) (h1 : ¬ 97 ≤ (s[0]'h).toNat) : identB s = false := by
  unfold identB
  rw [getD0 s h, decide_eq_false h1]
  simp
theorem ident_high (s : ByteArray) (h : 0 < s.size) (h1 : ¬ (s[0]'h).toNat ≤ 122) : identB s = false := by
  unfold identB
  rw [getD0 s h, decide_eq_false h1]
  simp
theorem ident_at (s : ByteArray) (pos : Nat) (h : pos < s.size) (h1 : okc (s[pos]'h).toNat = false) : identB s = false := by
  unfold identB
  rw [not_all_at s pos h (fun c => okc c.toNat) h1]
  simp
theorem ident_all (s : ByteArray) (h : 0 < s.size) (h2 : s.size ≤ 32) (h3 : 97 ≤ (s[0]'h).toNat) (h4 : (s[0]'h).toNat ≤ 122) (h5 : s.data.toList.all (fun c => okc c.toNat) = true) : identB s = true := by
  unfold identB
  rw [getD0 s h, h5, decide_eq_true h3, decide_eq_true h4, decide_eq_true h2, decide_eq_true (by omega)]
  rfl

set_option maxRecDepth 100000 in
set_option maxHeartbeats 2000000 in
theorem ident_calls (s : ByteArray) (w : World) :
    Calls Try.prog 56 #[.string s] w fun e w' => e = .returned (.bool (identB s)) ∧ Below w.heap.size w w' := by
  have hnot : ∀ (x : Bool) (w : World), (Op.unary .not (.bool x)).run Try.prog w = .ok (.bool (!x)) w := fun _ _ => rfl
  go_enter Try.func56, Try.ntmps56
  by_cases h0 : s.size = 0
  · have HF := hid (ident_empty s h0)
    have he : s.toList = [] := toList_nil s h0
    go_wp2
    all_goals (go_ret; exact ⟨by rw [HF.out]; rfl, Below.refl _ _⟩)
  · have h0' : 0 < s.size := by omega
    have he : s.toList.isEmpty = false := toList_ne s h0
    by_cases h2 : 32 < s.size
    · have HF := hid (ident_long s (by omega))
      go_wp2
      all_goals (go_ret; exact ⟨by rw [HF.out]; rfl, Below.refl _ _⟩)
    by_cases h3 : (s[0]'h0').toNat < 97
    · have HF := hid (ident_low s h0' (by omega))
      go_wp2
      all_goals (go_ret; exact ⟨by rw [HF.out]; rfl, Below.refl _ _⟩)
    by_cases h4 : 122 < (s[0]'h0').toNat
    · have HF := hid (ident_high s h0' (by omega))
      go_wp2
      all_goals first | (go_ret; exact ⟨by rw [HF.out]; rfl, Below.refl _ _⟩) | (exfalso; omega)
    go_wp2
    rotate_left
    · go_loopw [] (fun w' => ∃ pos : Nat, pos ≤ s.size ∧ w' = w.iter s pos ∧ Hid ((s.data.toList.take pos).all (fun c => okc c.toNat) = true)) (fun w' => s.size - w'.iterPos w.heap.size)
      case atStart => exact ⟨0, Nat.zero_le _, rfl, by simp [Hid]⟩
      case round =>
        obtain ⟨pos, hpos, rfl, HS⟩ := hrel
        by_cases hp : pos < s.size
        · by_cases ha : (s[pos]'hp).toNat < 128
          · have hnx := fun ty => run_next_ascii (P := Try.prog) w s pos ty hp ha
            cases hk : okc (s[pos]'hp).toNat with
            | true =>
              have HS2 := hid (all_take_succ s pos hp _ HS.out hk)
              unfold okc at hk
              generalize (s[pos]'hp).toNat = n at hk hnx ha
              simp only [Bool.or_eq_true, Bool.and_eq_true, decide_eq_true_eq] at hk
              go_wp2
              all_goals first
                | (go_roundw; (case rel => exact ⟨pos + 1, by omega, rfl, HS2⟩); (case measure => rw [World.iterPos_iter, World.iterPos_iter]; omega); done)
                | (exfalso; simp only [Bool.not_eq_eq_eq_not, Bool.not_true, Bool.not_false, decide_eq_false_iff_not, decide_eq_true_eq, bne_iff_ne, bne_eq_false_iff_eq, ne_eq] at *; omega)
            | false =>
              have HF := hid (ident_at s pos hp hk)
              unfold okc at hk
              generalize (s[pos]'hp).toNat = n at hk hnx ha
              simp only [Bool.or_eq_false_iff, Bool.and_eq_false_iff, decide_eq_false_iff_not] at hk
              go_wp2
              all_goals first
                | (go_ret; exact ⟨by rw [HF.out]; rfl, (Below.refl _ _).alloc (Nat.le_refl _) _⟩)
                | (exfalso; simp only [Bool.not_eq_eq_eq_not, Bool.not_true, Bool.not_false, decide_eq_false_iff_not, decide_eq_true_eq, bne_iff_ne, bne_eq_false_iff_eq, ne_eq] at *; omega)
          · have hnx := fun ty => run_next_any (P := Try.prog) w s pos ty hp
            have hh := decode_high s pos hp (by omega)
            have HF := hid (ident_at s pos hp (by unfold okc; simp; omega))
            generalize (Utf8.decode s pos).1 = n at hnx hh
            go_wp2
            all_goals first
              | (go_ret; exact ⟨by rw [HF.out]; rfl, (Below.refl _ _).alloc (Nat.le_refl _) _⟩)
              | (exfalso; simp only [Bool.not_eq_eq_eq_not, Bool.not_true, Bool.not_false, decide_eq_false_iff_not, decide_eq_true_eq, bne_iff_ne, bne_eq_false_iff_eq, ne_eq] at *; omega)
        · have hnx := fun ty => run_next_end (P := Try.prog) w s pos ty hp
          have HT := hid (ident_all s h0' (by omega) (by omega) (by omega) (by have h := HS.out; rwa [List.take_of_length_le (by simp; omega)] at h))
          go_wp2
          go_ret
          exact ⟨by rw [HT.out]; rfl, (Below.refl _ _).alloc (Nat.le_refl _) _⟩
end Go.Proofs.Ytfkgpmidcbjlbaa.H
end
section
set_option linter.unusedVariables false
set_option linter.unusedSimpArgs false
/- commitlog.valid and its two closures. -/
namespace Go.Proofs.Ytfkgpmidcbjlbaa.H
open Go.RowKit Go.Proofs.YtfkgpmidcbjlbaaW.PrintWords

/-- the name fits the kind -/
def namedB (k : Int) (n : ByteArray) : Bool := if k = 6 ∨ k = 7 then decide (n.size = 0) else identB n
/-- the numbers fit the kind -/
def numberedB (k i p m t : Int) : Bool := if k = 1 then true else if (k = 4 ∨ k = 5) ∧ i ≠ 0 then false else decide (p = 0) && decide (m = 0) && decide (t = 0)
def validB (k i p m t : Int) (n : ByteArray) : Bool :=
  decide (1 ≤ k) && decide (k ≤ 7) && decide (0 ≤ i) && decide (0 ≤ p) && decide (0 ≤ m) && decide (0 ≤ t) && namedB k n && numberedB k i p m t

/-- the six cells of an entry at the head of block b -/
def Cells6 (w : World) (b : Nat) (k i p m t : Int) (n : ByteArray) : Prop :=
  w.cell? ⟨b, 0, none⟩ = some (.int .i64 k) ∧ w.cell? ⟨b, 1, none⟩ = some (.int .i64 i) ∧ w.cell? ⟨b, 2, none⟩ = some (.int .i64 p) ∧
  w.cell? ⟨b, 3, none⟩ = some (.int .i64 m) ∧ w.cell? ⟨b, 4, none⟩ = some (.int .i64 t) ∧ w.cell? ⟨b, 5, none⟩ = some (.string n)

set_option maxRecDepth 100000 in
set_option maxHeartbeats 2000000 in
theorem named_calls (b : Nat) (k i p m t : Int) (n : ByteArray) (w : World) (hc : Cells6 w b k i p m t n) :
    Calls Try.prog 55 #[.pointer (some ⟨b, 0, none⟩)] w fun e w' => e = .returned (.bool (namedB k n)) ∧ Below w.heap.size w w' := by
  obtain ⟨h0, h1, h2, h3, h4, h5⟩ := hc
  go_enter Try.func55, Try.ntmps55
  by_cases hk : k = 6
  · subst hk
    go_wp2_with fail
    go_ret
    exact ⟨ret_bool (isEmpty_size n), Below.refl _ _⟩
  by_cases hk2 : k = 7
  · subst hk2
    go_wp2_with fail
    go_ret
    exact ⟨ret_bool (isEmpty_size n), Below.refl _ _⟩
  · have e6 : (k == 6) = false := beq_eq_false_iff_ne.2 hk
    have e7 : (k == 7) = false := beq_eq_false_iff_ne.2 hk2
    have HN := hid (show namedB k n = identB n by unfold namedB; rw [if_neg (by omega)])
    clear hk hk2
    go_wp2_with (go_at_call 56; refine (ident_calls _ _).mono ?_; rintro e w' ⟨rfl, hb⟩)
    go_ret
    exact ⟨ret_bool HN.out.symm, ‹_›⟩

set_option maxRecDepth 100000 in
set_option maxHeartbeats 2000000 in
theorem numbered_calls (b : Nat) (k i p m t : Int) (n : ByteArray) (w : World) (hc : Cells6 w b k i p m t n) :
    Calls Try.prog 57 #[.pointer (some ⟨b, 0, none⟩)] w fun e w' => e = .returned (.bool (numberedB k i p m t)) ∧ w = w' := by
  obtain ⟨h0, h1, h2, h3, h4, h5⟩ := hc
  go_enter Try.func57, Try.ntmps57
  by_cases hk : k = 1
  · subst hk
    go_wp2_with fail
    go_ret
    exact ⟨rfl, rfl⟩
  · go_wp2_with fail
    all_goals (go_ret; refine ⟨ret_bool ?_, rfl⟩; simp_all [numberedB]; try (rw [Bool.eq_iff_iff]; simp))

/-- what an entry's test answers -/
def _root_.Go.Proofs.Ytfkgpmidcbjlbaa.P.commitlog_valid.f (a0 a1 a2 a3 a4 : Int) (a5 : ByteArray) : Option Bool := some (validB a0 a1 a2 a3 a4 a5)

set_option maxRecDepth 100000 in
set_option maxHeartbeats 2000000 in
theorem valid_calls (k i p m t : Int) (n : ByteArray) (w : World) :
    Calls Try.prog 24 #[.agg #[.int .i64 k, .int .i64 i, .int .i64 p, .int .i64 m, .int .i64 t, .string n]] w fun e w' => e = .returned (.bool (validB k i p m t n)) ∧ Below w.heap.size w w' := by
  have hmf : ∀ (fn : Fn) (first cap : Array Value) (w : World), (Instr.makeFunc fn first cap).run Try.prog w = .ok (.func fn first cap) w := fun _ _ _ _ => rfl
  have HV : validB k i p m t n = (decide (1 ≤ k) && decide (k ≤ 7) && decide (0 ≤ i) && decide (0 ≤ p) && decide (0 ≤ m) && decide (0 ≤ t) && namedB k n && numberedB k i p m t) := rfl
  have HV' := hid HV
  clear HV
  go_enter Try.func24, Try.ntmps24
  have hbelow : ∀ o, Below w.heap.size w (w.alloc o) := fun o => (Below.refl _ _).alloc (Nat.le_refl _) o
  have fin : ∀ (c : Bool) (o : Obj), c = validB k i p m t n → Ending.returned (.bool c) = Ending.returned (.bool (validB k i p m t n)) ∧ Below w.heap.size w (w.alloc o) := fun c o h => ⟨ret_bool h, hbelow o⟩
  have FIN := hid fin
  clear fin hbelow
  by_cases hg : 1 ≤ k ∧ k ≤ 7 ∧ 0 ≤ i ∧ 0 ≤ p ∧ 0 ≤ m ∧ 0 ≤ t
  · obtain ⟨g1, g2, g3, g4, g5, g6⟩ := hg
    have HV2 := hid (show validB k i p m t n = (namedB k n && numberedB k i p m t) by rw [HV'.out, decide_eq_true g1, decide_eq_true g2, decide_eq_true g3, decide_eq_true g4, decide_eq_true g5, decide_eq_true g6]; rfl)
    clear HV'
    have HC : Hid (∀ w2, Below (w.alloc (.cells #[.int .i64 k, .int .i64 i, .int .i64 p, .int .i64 m, .int .i64 t, .string n] 23)).heap.size (w.alloc (.cells #[.int .i64 k, .int .i64 i, .int .i64 p, .int .i64 m, .int .i64 t, .string n] 23)) w2 → Cells6 w2 w.heap.size k i p m t n) := hid (fun w2 hb => by
      refine ⟨?_, ?_, ?_, ?_, ?_, ?_⟩ <;> (rw [hb.cell (by simp)]; simp))
    have HB2 : Hid (∀ (o : Obj) w2, Below (w.alloc o).heap.size (w.alloc o) w2 → Below w.heap.size w w2) := hid (fun o w2 hb => ((Below.refl _ _).alloc (Nat.le_refl _) o).trans (hb.mono (by simp)))
    cases hn : namedB k n
    · go_wp2_with (go_at_call 55; refine (named_calls _ k i p m t n _ (HC.out _ (Below.refl _ _))).mono ?_; rw [hn]; rintro e w' ⟨rfl, hb⟩; have HB3 := hid (HB2.out _ _ hb); clear hb)
      go_ret
      exact ⟨ret_bool (by rw [HV2.out, hn]; rfl), HB3.out⟩
    · go_wp2_with (first
        | (go_at_call 55; refine (named_calls _ k i p m t n _ (HC.out _ (Below.refl _ _))).mono ?_; rw [hn]; rintro e w' ⟨rfl, hb⟩; have HB3 := hid (HB2.out _ _ hb); have HC3 := hid (HC.out _ hb); clear hb)
        | (go_at_call 57; refine (numbered_calls _ k i p m t n _ HC3.out).mono ?_; rintro e w' ⟨rfl, rfl⟩))
      go_ret
      exact ⟨ret_bool (by rw [HV2.out, hn]; rfl), HB3.out⟩
  · have HV2 := hid (show validB k i p m t n = false by
      rw [HV'.out]
      simp only [Bool.and_eq_false_iff, decide_eq_false_iff_not]
      omega)
    clear HV'
    go_wp2_with fail
    all_goals (go_ret; exact FIN.out _ _ HV2.out.symm)
end Go.Proofs.Ytfkgpmidcbjlbaa.H
namespace Go.Proofs.Ytfkgpmidcbjlbaa.P
open Go.RowKit Go.Proofs.Ytfkgpmidcbjlbaa.H
theorem commitlog_valid.calls (a0_0 a0_1 a0_2 a0_3 a0_4 : Int) (a0_5 : ByteArray) (r : Bool) (w : World) (h : commitlog_valid.f a0_0 a0_1 a0_2 a0_3 a0_4 a0_5 = some r) :
    Calls Try.prog 24 #[.agg #[.int .i64 a0_0, .int .i64 a0_1, .int .i64 a0_2, .int .i64 a0_3, .int .i64 a0_4, .string a0_5]] w fun e w' => e = .returned (.bool r) ∧ Below w.heap.size w w' := by
  obtain rfl := Option.some.inj h
  exact valid_calls a0_0 a0_1 a0_2 a0_3 a0_4 a0_5 w
end Go.Proofs.Ytfkgpmidcbjlbaa.P
end
section
set_option linter.unusedVariables false
set_option linter.unusedSimpArgs false
-- Written by a program of this session (a printer of walks).
namespace Go.Proofs.Ytfkgpmidcbjlbaa.P
open Go.RowKit Go.Proofs.YtfkgpmidcbjlbaaW.PrintWords Go.Proofs.YtfkgpmidcbjlbaaW.PrintLast Go.Proofs.YtfkgpmidcbjlbaaW.PrintMore
attribute [local go_sem] max2_int min2_int max_two min_two max_three min_three max_four min_four   -- for this text's walks alone
set_option linter.unusedVariables false
set_option linter.unusedSimpArgs false

/-! ### laminaref05_letter: function 63 -/
def laminaref05_letter.f (a0 : Int) : Option (Bool) := if a0 ≥ 97 then (some (decide (a0 ≤ 122))) else (some false)
set_option maxHeartbeats 8000000 in
set_option maxRecDepth 100000 in
theorem laminaref05_letter.calls (a0 : Int) (r : Bool) (w : World) (h : laminaref05_letter.f a0 = some r) :
    Calls Try.prog 63 #[.int .u8 a0] w fun e w' => e = .returned (.bool r) ∧ Drawn0 w w' := by
  have H : (if a0 ≥ 97 then (some (decide (a0 ≤ 122))) else (some false)) = some r := h
  clear h
  by_cases c2 : a0 ≥ 97
  · rw [if_pos c2] at H
    have c2b0 : decide (97 ≤ a0) = true := decide_eq_true c2
    clear c2
    obtain rfl := Option.some.inj H
    go_enter Try.func63, Try.ntmps63
    go_wp2
    go_ret
    exact ⟨by first | rfl | (simp; done) | (simp [*]; done), by repeat (first | exact Drawn0.refl _ | apply Drawn0.step)⟩
  · rw [if_neg c2] at H
    have c2b0 : decide (97 ≤ a0) = false := decide_eq_false c2
    clear c2
    obtain rfl := Option.some.inj H
    go_enter Try.func63, Try.ntmps63
    go_wp2
    go_ret
    exact ⟨by first | rfl | (simp; done) | (simp [*]; done), by repeat (first | exact Drawn0.refl _ | apply Drawn0.step)⟩

end Go.Proofs.Ytfkgpmidcbjlbaa.P
end
section
set_option linter.unusedVariables false
set_option linter.unusedSimpArgs false
-- Written by a program of this session (a printer of walks).
namespace Go.Proofs.Ytfkgpmidcbjlbaa.P
open Go.RowKit Go.Proofs.YtfkgpmidcbjlbaaW.PrintWords Go.Proofs.YtfkgpmidcbjlbaaW.PrintLast Go.Proofs.YtfkgpmidcbjlbaaW.PrintMore
attribute [local go_sem] max2_int min2_int max_two min_two max_three min_three max_four min_four   -- for this text's walks alone
set_option linter.unusedVariables false
set_option linter.unusedSimpArgs false

/-! ### laminaref05_digit: function 64 -/
def laminaref05_digit.f (a0 : Int) : Option (Bool) := if a0 ≥ 48 then (some (decide (a0 ≤ 57))) else (some false)
set_option maxHeartbeats 8000000 in
set_option maxRecDepth 100000 in
theorem laminaref05_digit.calls (a0 : Int) (r : Bool) (w : World) (h : laminaref05_digit.f a0 = some r) :
    Calls Try.prog 64 #[.int .u8 a0] w fun e w' => e = .returned (.bool r) ∧ Drawn0 w w' := by
  have H : (if a0 ≥ 48 then (some (decide (a0 ≤ 57))) else (some false)) = some r := h
  clear h
  by_cases c2 : a0 ≥ 48
  · rw [if_pos c2] at H
    have c2b0 : decide (48 ≤ a0) = true := decide_eq_true c2
    clear c2
    obtain rfl := Option.some.inj H
    go_enter Try.func64, Try.ntmps64
    go_wp2
    go_ret
    exact ⟨by first | rfl | (simp; done) | (simp [*]; done), by repeat (first | exact Drawn0.refl _ | apply Drawn0.step)⟩
  · rw [if_neg c2] at H
    have c2b0 : decide (48 ≤ a0) = false := decide_eq_false c2
    clear c2
    obtain rfl := Option.some.inj H
    go_enter Try.func64, Try.ntmps64
    go_wp2
    go_ret
    exact ⟨by first | rfl | (simp; done) | (simp [*]; done), by repeat (first | exact Drawn0.refl _ | apply Drawn0.step)⟩

end Go.Proofs.Ytfkgpmidcbjlbaa.P
end
section
set_option linter.unusedVariables false
set_option linter.unusedSimpArgs false
-- Written by a program of this session (a printer of walks).
namespace Go.Proofs.Ytfkgpmidcbjlbaa.P
open Go.RowKit Go.Proofs.YtfkgpmidcbjlbaaW.PrintWords Go.Proofs.YtfkgpmidcbjlbaaW.PrintLast Go.Proofs.YtfkgpmidcbjlbaaW.PrintMore
attribute [local go_sem] max2_int min2_int max_two min_two max_three min_three max_four min_four   -- for this text's walks alone
set_option linter.unusedVariables false
set_option linter.unusedSimpArgs false

/-! ### laminaref05_IsIdent: function 37 -/
mutual
def laminaref05_IsIdent.j0 : Nat → ByteArray → Bool → Option (Bool)
  | 0, _, _ => none
  | k + 1, x0, x17 => if x17 = true then (some false) else (laminaref05_IsIdent.l0 k x0 1)
def laminaref05_IsIdent.l0 : Nat → ByteArray → Int → Option (Bool)
  | 0, _, _ => none
  | k + 1, x0, x3 => if x3 < (x0.size : Int) then (if 0 ≤ x3 then ((laminaref05_letter.f (bt x0 x3)).bind fun t258 => (if t258 = true then (laminaref05_IsIdent.l0 k x0 (wrap64 (x3 + 1))) else ((laminaref05_digit.f (bt x0 x3)).bind fun t259 => (if t259 = true then (laminaref05_IsIdent.l0 k x0 (wrap64 (x3 + 1))) else (if (bt x0 x3) = 95 then (laminaref05_IsIdent.l0 k x0 (wrap64 (x3 + 1))) else (some false)))))) else (none)) else (some true)
end
def laminaref05_IsIdent.f (k : Nat) (a0 : ByteArray) : Option (Bool) := if (a0.size : Int) < 1 then (laminaref05_IsIdent.j0 k a0 true) else (if (a0.size : Int) > 32 then (laminaref05_IsIdent.j0 k a0 true) else (if 0 < (a0.size : Int) then ((laminaref05_letter.f (bt a0 0)).bind fun t257 => (laminaref05_IsIdent.j0 k a0 (!t257))) else (none)))
theorem laminaref05_IsIdent.mono_l : ∀ k, (∀ y0 y1, LeO (laminaref05_IsIdent.j0 k y0 y1) (laminaref05_IsIdent.j0 (k + 1) y0 y1)) ∧ (∀ y0 y1, LeO (laminaref05_IsIdent.l0 k y0 y1) (laminaref05_IsIdent.l0 (k + 1) y0 y1))
  | 0 => ⟨fun _ _ r h => by simp [laminaref05_IsIdent.j0] at h, fun _ _ r h => by simp [laminaref05_IsIdent.l0] at h⟩
  | k + 1 => by
    obtain ⟨ih0, ih1⟩ := laminaref05_IsIdent.mono_l k
    refine ⟨?_, ?_⟩
    · intro y0 y1
      unfold laminaref05_IsIdent.j0
      repeat' first
      | (with_reducible exact ih0 _ _)
      | (with_reducible exact ih1 _ _)
      | (with_reducible exact LeO.refl _)
      | (with_reducible exact LeO.none _)
      | (with_reducible refine LeO.ite ?_ ?_)
      | (with_reducible refine LeO.bind ?_ (fun _ => ?_))
      | exact ih0 _ _
      | exact ih1 _ _
      | exact LeO.none _
      | refine LeO.ite ?_ ?_
      | refine LeO.bind ?_ (fun _ => ?_)
    · intro y0 y1
      unfold laminaref05_IsIdent.l0
      repeat' first
      | (with_reducible exact ih0 _ _)
      | (with_reducible exact ih1 _ _)
      | (with_reducible exact LeO.refl _)
      | (with_reducible exact LeO.none _)
      | (with_reducible refine LeO.ite ?_ ?_)
      | (with_reducible refine LeO.bind ?_ (fun _ => ?_))
      | exact ih0 _ _
      | exact ih1 _ _
      | exact LeO.none _
      | refine LeO.ite ?_ ?_
      | refine LeO.bind ?_ (fun _ => ?_)
theorem laminaref05_IsIdent.mono : ∀ a0 k, LeO (laminaref05_IsIdent.f k a0) (laminaref05_IsIdent.f (k + 1) a0) := by
  intro a0 k
  obtain ⟨ih0, ih1⟩ := laminaref05_IsIdent.mono_l k
  unfold laminaref05_IsIdent.f
  repeat' first
      | (with_reducible exact ih0 _ _)
      | (with_reducible exact ih1 _ _)
      | (with_reducible exact LeO.refl _)
      | (with_reducible exact LeO.none _)
      | (with_reducible refine LeO.ite ?_ ?_)
      | (with_reducible refine LeO.bind ?_ (fun _ => ?_))
      | exact ih0 _ _
      | exact ih1 _ _
      | exact LeO.none _
      | refine LeO.ite ?_ ?_
      | refine LeO.bind ?_ (fun _ => ?_)
set_option maxHeartbeats 8000000 in
set_option maxRecDepth 100000 in
theorem laminaref05_IsIdent.calls (k : Nat) (a0 : ByteArray) (r : Bool) (w : World) (h : laminaref05_IsIdent.f k a0 = some r) :
    Calls Try.prog 37 #[.string a0] w fun e w' => e = .returned (.bool r) ∧ Drawn0 w w' := by
  have H : (if (a0.size : Int) < 1 then (laminaref05_IsIdent.j0 k a0 true) else (if (a0.size : Int) > 32 then (laminaref05_IsIdent.j0 k a0 true) else (if 0 < (a0.size : Int) then ((laminaref05_letter.f (bt a0 0)).bind fun t257 => (laminaref05_IsIdent.j0 k a0 (!t257))) else (none)))) = some r := h
  clear h
  have HC2 := Aside0.mk H
  clear H
  go_enter Try.func37, Try.ntmps37
  go_upto_region 1 with (fail)
  go_cut [17] (fun v17 wc => ∃ (kq : Nat) (x17_1 : Bool), v17 = .bool x17_1 ∧ Aside0 (laminaref05_IsIdent.j0 kq a0 x17_1 = some r) ∧ Aside0 (kq ≤ k) ∧ Drawn0 w wc)
  case first =>
    have H := HC2.out
    clear HC2
    by_cases c3 : (a0.size : Int) < 1
    · rw [if_pos c3] at H
      have c3b0 : decide ((a0.size : Int) < 1) = true := decide_eq_true c3
      have c3b1 : decide (a0.size < 1) = true := decide_eq_true (by omega)
      clear c3
      (first | rw [c3b0] | (simp only [i64_w, i32_w]; rw [c3b0]) | skip)
      have H' := Aside0.mk H
      clear H
      go_wp2
      go_meet
      case rel => exact ⟨_, (true), (by first | rfl | (simp; done) | (simp [*]; done)), H', ⟨by first | omega | exact Nat.le_refl _⟩, by repeat (first | exact Drawn0.refl _ | apply Drawn0.step)⟩
    · rw [if_neg c3] at H
      have c3b0 : decide ((a0.size : Int) < 1) = false := decide_eq_false c3
      have c3b1 : decide (a0.size < 1) = false := decide_eq_false (by omega)
      clear c3
      (first | rw [c3b0] | (simp only [i64_w, i32_w]; rw [c3b0]) | skip)
      by_cases c4 : (a0.size : Int) > 32
      · rw [if_pos c4] at H
        have c4b0 : decide (32 < (a0.size : Int)) = true := decide_eq_true c4
        have c4b1 : decide (32 < a0.size) = true := decide_eq_true (by omega)
        clear c4
        have H' := Aside0.mk H
        clear H
        go_wp2
        go_meet
        case rel => exact ⟨_, (true), (by first | rfl | (simp; done) | (simp [*]; done)), H', ⟨by first | omega | exact Nat.le_refl _⟩, by repeat (first | exact Drawn0.refl _ | apply Drawn0.step)⟩
      · rw [if_neg c4] at H
        have c4b0 : decide (32 < (a0.size : Int)) = false := decide_eq_false c4
        have c4b1 : decide (32 < a0.size) = false := decide_eq_false (by omega)
        clear c4
        by_cases c5 : 0 < (a0.size : Int)
        · rw [if_pos c5] at H
          have c5b0 : decide (0 < (a0.size : Int)) = true := decide_eq_true c5
          have c5b1 : decide (0 < a0.size) = true := decide_eq_true (by omega)
          clear c5
          replace H := Option.bind_eq_some_iff.mp H
          obtain ⟨t257, A70, H⟩ := H
          replace H : (laminaref05_IsIdent.j0 k a0 (!t257)) = some r := H
          have A7 := Aside0.mk A70
          clear A70
          have H' := Aside0.mk H
          clear H
          have p6 : 0 ≤ (0 : Int) := (by omega)
          have q6 : 0 < a0.size := (by have : (0 : Int) < (a0.size : Int) := of_decide_eq_true (by first | (with_reducible assumption) | assumption); omega)
          have hx6 : ∀ h : 0 < a0.size, ((a0[0]'h).toNat : Int) = bt a0 0 := bt_at a0 0
          clear p6
          have qi6 : (0 < (a0.size : Int)) = True := eq_true (of_decide_eq_true (by first | (with_reducible assumption) | assumption))
          replace q6 := eq_true q6
          go_wp2_with (first | (go_at_call 63; (with_reducible refine (laminaref05_letter.calls (bt a0 0) t257 _ A7.out).mono ?_); rintro e w' ⟨rfl, ⟨nd, rfl⟩⟩))
          go_meet
          case rel => exact ⟨_, (!t257), (by first | rfl | (simp; done) | (simp [*]; done)), H', ⟨by first | omega | exact Nat.le_refl _⟩, by repeat (first | exact Drawn0.refl _ | apply Drawn0.step)⟩
        · rw [if_neg c5] at H
          exact absurd H (by simp)
  case rest =>
    clear HC2
    try clear p2
    try clear c3
    try clear c3b0
    try clear c3b1
    try clear c4
    try clear c4b0
    try clear c4b1
    try clear c5
    try clear c5b0
    try clear c5b1
    try clear p6
    try clear q6
    try clear hx6
    try clear qi6
    try clear p6
    try clear q6
    obtain ⟨kq, x17_1, rfl, HA, HJ1, ⟨mc1, rfl⟩⟩ := hcut
    cases kq with
    | zero => exact absurd HA.out (by simp [laminaref05_IsIdent.j0])
    | succ kj1 =>
      have H := HA.out
      clear HA
      simp only [laminaref05_IsIdent.j0] at H
      by_cases c8 : x17_1 = true
      · subst c8
        have H1 : (some false) = some r := by rw [if_pos rfl] at H; exact H
        clear H
        have H := H1
        clear H1
        obtain rfl := Option.some.inj H
        go_wp2
        go_ret
        exact ⟨by first | rfl | (simp; done) | (simp [*]; done), by repeat (first | exact Drawn0.refl _ | apply Drawn0.step)⟩
      · replace c8 := Bool.eq_false_iff.mpr c8
        subst c8
        have H1 : (laminaref05_IsIdent.l0 kj1 a0 1) = some r := by rw [if_neg (show ¬ (false = true) by decide)] at H; exact H
        clear H
        have H := H1
        clear H1
        have H' := Aside0.mk H
        clear H
        go_wp2
        go_loopg [3] kj1 (fun kq v3 w' => ∃ (x3_2 : Int), v3 = .int .i64 x3_2 ∧ Aside0 (laminaref05_IsIdent.l0 kq a0 x3_2 = some r) ∧ Aside0 (kq ≤ kj1) ∧ Drawn0 w w')
        case atStart => exact ⟨(1), (by first | rfl | (simp; done) | (simp [*]; done)), H', ⟨Nat.le_refl _⟩, by repeat (first | exact Drawn0.refl _ | apply Drawn0.step)⟩
        case round =>
          clear H'
          try clear c1
          try clear p2
          try clear c3
          try clear c3b0
          try clear c3b1
          try clear c4
          try clear c4b0
          try clear c4b1
          try clear c5
          try clear c5b0
          try clear c5b1
          try clear p6
          try clear q6
          try clear hx6
          try clear qi6
          try clear c8
          try clear p2
          try clear p6
          try clear q6
          obtain ⟨x3_2, rfl, HA, HK2, ⟨m2, rfl⟩⟩ := hrel
          cases gk with
          | zero => exact absurd HA.out (by simp [laminaref05_IsIdent.l0])
          | succ k2 =>
            have H := HA.out
            clear HA
            simp only [laminaref05_IsIdent.l0] at H
            by_cases c9 : x3_2 < (a0.size : Int)
            · rw [if_pos c9] at H
              have c9b0 : decide (x3_2 < (a0.size : Int)) = true := decide_eq_true c9
              clear c9
              by_cases c10 : 0 ≤ x3_2
              · rw [if_pos c10] at H
                have c10b0 : decide (0 ≤ x3_2) = true := decide_eq_true c10
                clear c10
                replace H := Option.bind_eq_some_iff.mp H
                obtain ⟨t258, A120, H⟩ := H
                replace H : (if t258 = true then (laminaref05_IsIdent.l0 k2 a0 (wrap64 (x3_2 + 1))) else ((laminaref05_digit.f (bt a0 x3_2)).bind fun t259 => (if t259 = true then (laminaref05_IsIdent.l0 k2 a0 (wrap64 (x3_2 + 1))) else (if (bt a0 x3_2) = 95 then (laminaref05_IsIdent.l0 k2 a0 (wrap64 (x3_2 + 1))) else (some false))))) = some r := H
                have A12 := Aside0.mk A120
                clear A120
                by_cases c13 : t258 = true
                · subst c13
                  have H1 : (laminaref05_IsIdent.l0 k2 a0 (wrap64 (x3_2 + 1))) = some r := by rw [if_pos rfl] at H; exact H
                  clear H
                  have H := H1
                  clear H1
                  have H' := Aside0.mk H
                  clear H
                  have p11 : 0 ≤ (x3_2 : Int) := of_decide_eq_true (by first | (with_reducible assumption) | assumption)
                  have q11 : x3_2 < (a0.size : Int) := of_decide_eq_true (by first | (with_reducible assumption) | assumption)
                  have hx11 := bt_at a0 x3_2
                  replace p11 := eq_true p11
                  replace q11 := eq_true q11
                  go_wp2_with (first | ((with_reducible refine gate_callee (f := 63) rfl ?_); refine goesL_ (some 27) rfl rfl Try.func63 (by kernel_rfl) rfl #[.int .u8 (bt a0 x3_2)] rfl (by (try simp only [List.map_toArray, List.map_cons, List.map_nil]); first | done | rfl | (simp only [List.length_drop, List.length_take]; rfl)) ?_; (with_reducible refine (laminaref05_letter.calls (bt a0 x3_2) true _ A12.out).mono ?_); rintro e w' ⟨rfl, ⟨nd, rfl⟩⟩; refine ⟨_, rfl, ?_⟩))
                  go_roundg k2
                  case measure => have := HJ1.out; have := HK2.out; omega
                  case rel => exact ⟨(wrap64 (x3_2 + 1)), (by first | rfl | (simp; done) | (simp [*]; done)), H', ⟨by have := HJ1.out; have := HK2.out; omega⟩, by repeat (first | exact Drawn0.refl _ | apply Drawn0.step)⟩
                · replace c13 := Bool.eq_false_iff.mpr c13
                  subst c13
                  have H1 : ((laminaref05_digit.f (bt a0 x3_2)).bind fun t259 => (if t259 = true then (laminaref05_IsIdent.l0 k2 a0 (wrap64 (x3_2 + 1))) else (if (bt a0 x3_2) = 95 then (laminaref05_IsIdent.l0 k2 a0 (wrap64 (x3_2 + 1))) else (some false)))) = some r := by rw [if_neg (show ¬ (false = true) by decide)] at H; exact H
                  clear H
                  have H := H1
                  clear H1
                  replace H := Option.bind_eq_some_iff.mp H
                  obtain ⟨t259, A150, H⟩ := H
                  replace H : (if t259 = true then (laminaref05_IsIdent.l0 k2 a0 (wrap64 (x3_2 + 1))) else (if (bt a0 x3_2) = 95 then (laminaref05_IsIdent.l0 k2 a0 (wrap64 (x3_2 + 1))) else (some false))) = some r := H
                  have A15 := Aside0.mk A150
                  clear A150
                  by_cases c16 : t259 = true
                  · subst c16
                    have H1 : (laminaref05_IsIdent.l0 k2 a0 (wrap64 (x3_2 + 1))) = some r := by rw [if_pos rfl] at H; exact H
                    clear H
                    have H := H1
                    clear H1
                    have H' := Aside0.mk H
                    clear H
                    have p11 : 0 ≤ (x3_2 : Int) := of_decide_eq_true (by first | (with_reducible assumption) | assumption)
                    have q11 : x3_2 < (a0.size : Int) := of_decide_eq_true (by first | (with_reducible assumption) | assumption)
                    have hx11 := bt_at a0 x3_2
                    replace p11 := eq_true p11
                    replace q11 := eq_true q11
                    go_wp2_with (first | ((with_reducible refine gate_callee (f := 63) rfl ?_); refine goesL_ (some 27) rfl rfl Try.func63 (by kernel_rfl) rfl #[.int .u8 (bt a0 x3_2)] rfl (by (try simp only [List.map_toArray, List.map_cons, List.map_nil]); first | done | rfl | (simp only [List.length_drop, List.length_take]; rfl)) ?_; (with_reducible refine (laminaref05_letter.calls (bt a0 x3_2) false _ A12.out).mono ?_); rintro e w' ⟨rfl, ⟨nd, rfl⟩⟩; refine ⟨_, rfl, ?_⟩; have p14 : 0 ≤ (x3_2 : Int) := of_decide_eq_true (by first | (with_reducible assumption) | assumption); have q14 : x3_2 < (a0.size : Int) := of_decide_eq_true (by first | (with_reducible assumption) | assumption); have hx14 := bt_at a0 x3_2; replace p14 := eq_true p14; replace q14 := eq_true q14) | (go_at_call 64; (with_reducible refine (laminaref05_digit.calls (bt a0 x3_2) true _ A15.out).mono ?_); rintro e w' ⟨rfl, ⟨nd, rfl⟩⟩))
                    go_roundg k2
                    case measure => have := HJ1.out; have := HK2.out; omega
                    case rel => exact ⟨(wrap64 (x3_2 + 1)), (by first | rfl | (simp; done) | (simp [*]; done)), H', ⟨by have := HJ1.out; have := HK2.out; omega⟩, by repeat (first | exact Drawn0.refl _ | apply Drawn0.step)⟩
                  · replace c16 := Bool.eq_false_iff.mpr c16
                    subst c16
                    have H1 : (if (bt a0 x3_2) = 95 then (laminaref05_IsIdent.l0 k2 a0 (wrap64 (x3_2 + 1))) else (some false)) = some r := by rw [if_neg (show ¬ (false = true) by decide)] at H; exact H
                    clear H
                    have H := H1
                    clear H1
                    by_cases c18 : (bt a0 x3_2) = 95
                    · rw [if_pos c18] at H
                      have c18b0 : ((bt a0 x3_2) == 95) = true := beq_iff_eq.mpr c18
                      have c18b1 : ((bt a0 x3_2) != 95) = false := bne_eq_false_iff_eq.mpr c18
                      clear c18
                      have H' := Aside0.mk H
                      clear H
                      have p11 : 0 ≤ (x3_2 : Int) := of_decide_eq_true (by first | (with_reducible assumption) | assumption)
                      have q11 : x3_2 < (a0.size : Int) := of_decide_eq_true (by first | (with_reducible assumption) | assumption)
                      have hx11 := bt_at a0 x3_2
                      replace p11 := eq_true p11
                      replace q11 := eq_true q11
                      go_wp2_with (first | ((with_reducible refine gate_callee (f := 63) rfl ?_); refine goesL_ (some 27) rfl rfl Try.func63 (by kernel_rfl) rfl #[.int .u8 (bt a0 x3_2)] rfl (by (try simp only [List.map_toArray, List.map_cons, List.map_nil]); first | done | rfl | (simp only [List.length_drop, List.length_take]; rfl)) ?_; (with_reducible refine (laminaref05_letter.calls (bt a0 x3_2) false _ A12.out).mono ?_); rintro e w' ⟨rfl, ⟨nd, rfl⟩⟩; refine ⟨_, rfl, ?_⟩; have p14 : 0 ≤ (x3_2 : Int) := of_decide_eq_true (by first | (with_reducible assumption) | assumption); have q14 : x3_2 < (a0.size : Int) := of_decide_eq_true (by first | (with_reducible assumption) | assumption); have hx14 := bt_at a0 x3_2; replace p14 := eq_true p14; replace q14 := eq_true q14) | (go_at_call 64; (with_reducible refine (laminaref05_digit.calls (bt a0 x3_2) false _ A15.out).mono ?_); rintro e w' ⟨rfl, ⟨nd, rfl⟩⟩; have p17 : 0 ≤ (x3_2 : Int) := of_decide_eq_true (by first | (with_reducible assumption) | assumption); have q17 : x3_2 < (a0.size : Int) := of_decide_eq_true (by first | (with_reducible assumption) | assumption); have hx17 := bt_at a0 x3_2; replace p17 := eq_true p17; replace q17 := eq_true q17))
                      go_roundg k2
                      case measure => have := HJ1.out; have := HK2.out; omega
                      case rel => exact ⟨(wrap64 (x3_2 + 1)), (by first | rfl | (simp; done) | (simp [*]; done)), H', ⟨by have := HJ1.out; have := HK2.out; omega⟩, by repeat (first | exact Drawn0.refl _ | apply Drawn0.step)⟩
                    · rw [if_neg c18] at H
                      have c18b0 : ((bt a0 x3_2) == 95) = false := beq_eq_false_iff_ne.mpr c18
                      have c18b1 : ((bt a0 x3_2) != 95) = true := bne_iff_ne.mpr c18
                      obtain rfl := Option.some.inj H
                      have p11 : 0 ≤ (x3_2 : Int) := of_decide_eq_true (by first | (with_reducible assumption) | assumption)
                      have q11 : x3_2 < (a0.size : Int) := of_decide_eq_true (by first | (with_reducible assumption) | assumption)
                      have hx11 := bt_at a0 x3_2
                      replace p11 := eq_true p11
                      replace q11 := eq_true q11
                      go_wp2_with (first | ((with_reducible refine gate_callee (f := 63) rfl ?_); refine goesL_ (some 27) rfl rfl Try.func63 (by kernel_rfl) rfl #[.int .u8 (bt a0 x3_2)] rfl (by (try simp only [List.map_toArray, List.map_cons, List.map_nil]); first | done | rfl | (simp only [List.length_drop, List.length_take]; rfl)) ?_; (with_reducible refine (laminaref05_letter.calls (bt a0 x3_2) false _ A12.out).mono ?_); rintro e w' ⟨rfl, ⟨nd, rfl⟩⟩; refine ⟨_, rfl, ?_⟩; have p14 : 0 ≤ (x3_2 : Int) := of_decide_eq_true (by first | (with_reducible assumption) | assumption); have q14 : x3_2 < (a0.size : Int) := of_decide_eq_true (by first | (with_reducible assumption) | assumption); have hx14 := bt_at a0 x3_2; replace p14 := eq_true p14; replace q14 := eq_true q14) | (go_at_call 64; (with_reducible refine (laminaref05_digit.calls (bt a0 x3_2) false _ A15.out).mono ?_); rintro e w' ⟨rfl, ⟨nd, rfl⟩⟩; have p17 : 0 ≤ (x3_2 : Int) := of_decide_eq_true (by first | (with_reducible assumption) | assumption); have q17 : x3_2 < (a0.size : Int) := of_decide_eq_true (by first | (with_reducible assumption) | assumption); have hx17 := bt_at a0 x3_2; replace p17 := eq_true p17; replace q17 := eq_true q17))
                      go_ret
                      exact ⟨by first | rfl | (simp; done) | (simp [*]; done), by repeat (first | exact Drawn0.refl _ | apply Drawn0.step)⟩
              · rw [if_neg c10] at H
                exact absurd H (by simp)
            · rw [if_neg c9] at H
              have c9b0 : decide (x3_2 < (a0.size : Int)) = false := decide_eq_false c9
              clear c9
              obtain rfl := Option.some.inj H
              go_wp2
              go_ret
              exact ⟨by first | rfl | (simp; done) | (simp [*]; done), by repeat (first | exact Drawn0.refl _ | apply Drawn0.step)⟩

end Go.Proofs.Ytfkgpmidcbjlbaa.P
end
