/- What the laws of layer 21 share, part 1. -/
import Derived.Laws.ComplexArith
import Derived.WalkKit
import Derived.Laws.CopyRow
import Derived.Laws.Rows
import Derived.Deep.Draws
import Derived.Below
import Derived.IntWalk
import Derived.BigQuiet
import Derived.Deep.RegionHeld3
import Derived.Deep.AppendLies
import Derived.Maps.AppendAt
import Derived.OwnWalk
import Derived.Laws.BytesArg
import Derived.Laws.MakeOwn
import Derived.Laws.OwnMore
import Derived.Deep.OwnRows
import Derived.Tactics
import Derived.Lib.ConvBytes
import Derived.Laws.Slices
import Derived.KernelRfl
import Derived.RowKit3
import Derived.Deep.LoopGhost
import Derived.Deep.QuietTactic
import Derived.WideLaws
import Derived.Deep.DeepCutAuto
import Derived.Deep.CutBlock
import Derived.Lib.AppendStr
import Derived.ArgAppend
import Derived.Laws.IdiomCopy
import Derived.OrdersHeld
import Derived.Laws.BitsLemmas
import Derived.RowKit
import Derived.ScopeJumps
import Derived.Test.YtkilnknndglmnaaK0
import Derived.Test.YtkilnknndglmnaaProg

section
/- Whole numbers as floats: what a word stands for; sums, differences, products, and the way back are exact below 2^53. -/
namespace Go.Proofs.Ytkilnknndglmnaa

/-- The word x stands for the whole number n. -/
def Rep (x : Nat) (n : Int) : Prop :=
  ∃ (s : Bool) (j : Nat), Ieee.double.read x = .number s (n.natAbs * 2 ^ j) (-(j : Int)) ∧ (s = true → n ≤ 0) ∧ (s = false → 0 ≤ n)

theorem signed_rep {s : Bool} {n : Int} (h1 : s = true → n ≤ 0) (h2 : s = false → 0 ≤ n) (j u : Nat) : Ieee.signed s (n.natAbs * 2 ^ j) u = n * 2 ^ (j + u) := by
  unfold Ieee.signed
  rw [Nat.shiftLeft_eq]
  have e : ((n.natAbs * 2 ^ j * 2 ^ u : Nat) : Int) = (n.natAbs : Int) * 2 ^ (j + u) := by
    rw [Int.pow_add]; simp [Int.mul_assoc]
  rw [e]
  cases s with
  | true =>
    have := h1 rfl
    rw [if_pos rfl, ← Int.neg_mul]
    congr 1
    omega
  | false =>
    have := h2 rfl
    simp only [Bool.false_eq_true, if_false]
    congr 1
    omega

theorem log2_mul_pow {N : Nat} (h : N ≠ 0) (j : Nat) : (N * 2 ^ j).log2 = N.log2 + j := by
  have hp : 0 < 2 ^ j := Nat.two_pow_pos j
  have h0 : N * 2 ^ j ≠ 0 := by
    intro e
    rcases Nat.mul_eq_zero.1 e with e | e <;> omega
  apply (Nat.log2_eq_iff h0).2
  have a := (Nat.log2_eq_iff h).1 rfl
  constructor
  · rw [Nat.pow_add]; exact Nat.mul_le_mul_right _ a.1
  · have e : 2 ^ (N.log2 + j + 1) = 2 ^ (N.log2 + 1) * 2 ^ j := by rw [← Nat.pow_add]; congr 1; omega
    rw [e]
    exact Nat.mul_lt_mul_of_pos_right a.2 hp

theorem cut_exact (way : Ieee.Toward) (s : Bool) (m d : Nat) (h : m = 0 ∨ d ≤ m.log2 + 2) (hd : 2 ^ d ∣ m) : way.cut s m d = m / 2 ^ d := by
  rcases h with rfl | h
  · unfold Ieee.Toward.cut
    have hz : ∀ g : Nat, 0 / g = 0 := Nat.zero_div
    have hz2 : ∀ g : Nat, 0 % g = 0 := Nat.zero_mod
    cases way <;> simp
  · have e : min d (m.log2 + 2) = d := Nat.min_eq_left h
    have h1 : 1 <<< d = 2 ^ d := by rw [Nat.shiftLeft_eq, Nat.one_mul]
    have h2 : m % 2 ^ d = 0 := Nat.mod_eq_zero_of_dvd hd
    have h3 : 2 ^ d ≠ 0 := Nat.ne_of_gt (Nat.two_pow_pos d)
    unfold Ieee.Toward.cut
    simp only [e, h1, h2]
    cases way <;> simp

theorem write_zero (s : Bool) (p : Int) : Ieee.double.read (Ieee.double.write (.number s 0 p)) = .number s 0 (-1074) := by
  show Ieee.double.read (Ieee.double.nearest s 0 p) = _
  unfold Ieee.Format.nearest
  rw [if_pos rfl]
  cases s <;> decide +kernel

theorem leastPlace_double : Ieee.double.leastPlace = -1074 := by decide +kernel
theorem binade_double : Ieee.double.binade = 4503599627370496 := by decide +kernel
theorem infRung_double : Ieee.double.infRung = 9218868437227405312 := by decide +kernel
theorem signWeight_double : Ieee.double.signWeight = 9223372036854775808 := by decide +kernel

theorem read_word (s : Bool) (r : Nat) (h1 : 4503599627370496 ≤ r) (h2 : r < 9218868437227405312) :
    Ieee.double.read (Ieee.double.word s r) = .number s (4503599627370496 + r % 4503599627370496) (-1074 + ((r / 4503599627370496 - 1 : Nat) : Int)) := by
  have e1 : (Ieee.double.word s r / 9223372036854775808 % 2 == 1) = s := by
    unfold Ieee.Format.word
    rw [signWeight_double]
    cases s
    · simp; omega
    · simp; omega
  have e2 : Ieee.double.word s r % 9223372036854775808 = r := by
    unfold Ieee.Format.word
    rw [signWeight_double]
    cases s <;> simp <;> omega
  unfold Ieee.Format.read
  simp only [signWeight_double, binade_double, infRung_double, leastPlace_double, e1, e2]
  rw [if_neg (by omega), if_pos h2]

theorem min_rung {L K : Nat} (h1 : L < 53) (h2 : K < 9007199254740992) : min ((L + 1022) * 4503599627370496 + K) 9218868437227405312 = (L + 1022) * 4503599627370496 + K := by
  apply Nat.min_eq_left
  omega
theorem rung_mod {L K : Nat} (h0 : 4503599627370496 ≤ K) (h2 : K < 9007199254740992) : ((L + 1022) * 4503599627370496 + K) % 4503599627370496 = K - 4503599627370496 := by omega
theorem rung_div {L K : Nat} (h0 : 4503599627370496 ≤ K) (h2 : K < 9007199254740992) : ((L + 1022) * 4503599627370496 + K) / 4503599627370496 = L + 1023 := by omega
theorem rung_lo {L K : Nat} (h0 : 4503599627370496 ≤ K) : 4503599627370496 ≤ (L + 1022) * 4503599627370496 + K := by omega
theorem rung_hi {L K : Nat} (h1 : L < 53) (h2 : K < 9007199254740992) : (L + 1022) * 4503599627370496 + K < 9218868437227405312 := by omega
theorem add_back {K : Nat} (h0 : 4503599627370496 ≤ K) : 4503599627370496 + (K - 4503599627370496) = K := by omega

/-- A number's digits moved to the top of the fraction. -/
theorem top_bounds {N L : Nat} (h1 : 2 ^ L ≤ N) (h2 : N < 2 ^ (L + 1)) (hL : L < 53) : 4503599627370496 ≤ N * 2 ^ (52 - L) ∧ N * 2 ^ (52 - L) < 9007199254740992 := by
  have e1 : 2 ^ L * 2 ^ (52 - L) = 2 ^ 52 := by rw [← Nat.pow_add, show L + (52 - L) = 52 by omega]
  have e2 : 2 ^ (L + 1) * 2 ^ (52 - L) = 2 ^ 53 := by rw [← Nat.pow_add, show L + 1 + (52 - L) = 53 by omega]
  have hq : 0 < 2 ^ (52 - L) := Nat.two_pow_pos _
  have a := Nat.mul_le_mul_right (2 ^ (52 - L)) h1
  have b := Nat.mul_lt_mul_of_pos_right h2 hq
  rw [e1] at a
  rw [e2] at b
  exact ⟨a, b⟩

theorem log_small {N : Nat} (h0 : N ≠ 0) (h : N < 9007199254740992) : N.log2 < 53 := by
  have hL := (Nat.log2_eq_iff h0).1 rfl
  rcases Nat.lt_or_ge N.log2 53 with h' | h'
  · exact h'
  · have h3 : 2 ^ 53 ≤ 2 ^ N.log2 := Nat.pow_le_pow_right (by omega) h'
    have h4 : 2 ^ 53 ≤ N := Nat.le_trans h3 hL.1
    exact absurd (Nat.lt_of_lt_of_le h h4) (Nat.lt_irrefl _)

theorem cut_top (s : Bool) {N j L : Nat} (h0 : N ≠ 0) (hL : N.log2 = L) (h53 : L < 53) :
    Ieee.Toward.even.cut s ((N * 2 ^ j) <<< (-(j : Int) - ((L : Int) - 52)).toNat) (((L : Int) - 52 - -(j : Int)).toNat) = N * 2 ^ (52 - L) := by
  have hlog := log2_mul_pow h0 j
  rw [Nat.shiftLeft_eq]
  by_cases hj : j ≤ 52 - L
  · have d0 : ((L : Int) - 52 - -(j : Int)).toNat = 0 := by omega
    have u0 : (-(j : Int) - ((L : Int) - 52)).toNat = 52 - L - j := by omega
    rw [d0, u0, cut_exact _ _ _ _ (Or.inr (by omega)) (by rw [Nat.pow_zero]; exact Nat.one_dvd _)]
    rw [Nat.pow_zero, Nat.div_one, Nat.mul_assoc, ← Nat.pow_add, show j + (52 - L - j) = 52 - L by omega]
  · have d0 : ((L : Int) - 52 - -(j : Int)).toNat = j - (52 - L) := by omega
    have u0 : (-(j : Int) - ((L : Int) - 52)).toNat = 0 := by omega
    have ej : 2 ^ j = 2 ^ (52 - L) * 2 ^ (j - (52 - L)) := by rw [← Nat.pow_add, show 52 - L + (j - (52 - L)) = j by omega]
    rw [d0, u0, Nat.pow_zero, Nat.mul_one]
    rw [cut_exact _ _ _ _ (Or.inr (by rw [hlog]; omega)) (by rw [ej, ← Nat.mul_assoc]; exact Nat.dvd_mul_left _ _)]
    rw [ej, ← Nat.mul_assoc]
    exact Nat.mul_div_cancel _ (Nat.two_pow_pos _)

theorem nearest_top (s : Bool) {N j L : Nat} (h0 : N ≠ 0) (hL : N.log2 = L) (h53 : L < 53) (hk : N * 2 ^ (52 - L) < 9007199254740992) :
    Ieee.double.nearest s (N * 2 ^ j) (-(j : Int)) = Ieee.double.word s ((L + 1022) * 4503599627370496 + N * 2 ^ (52 - L)) := by
  have hN0 : N * 2 ^ j ≠ 0 := by
    intro e
    have := Nat.two_pow_pos j
    rcases Nat.mul_eq_zero.1 e with e | e <;> omega
  have el : max (-(j : Int) + ((L + j : Nat) : Int) - ((Ieee.double.fractionBits : Nat) : Int)) (-1074) = (L : Int) - 52 := by
    have : ((Ieee.double.fractionBits : Nat) : Int) = 52 := rfl
    rw [this]
    omega
  have e3 : ((L : Int) - 52 - -1074).toNat = L + 1022 := by omega
  unfold Ieee.Format.nearest
  rw [if_neg hN0, log2_mul_pow h0, hL, leastPlace_double, binade_double, infRung_double]
  simp only [el, cut_top s h0 hL h53, e3]
  rw [min_rung h53 hk]

theorem zero_form (s : Bool) {i : Nat} (h : i = 1074) : Ieee.Datum.number s 0 (-1074) = .number s (0 * 2 ^ i) (-(i : Int)) := by
  rw [Nat.zero_mul, h]
  rfl

theorem write_rep (s : Bool) (N j : Nat) (h : N < 9007199254740992) : ∃ i : Nat, Ieee.double.read (Ieee.double.write (.number s (N * 2 ^ j) (-(j : Int)))) = .number s (N * 2 ^ i) (-(i : Int)) := by
  by_cases h0 : N = 0
  · subst h0
    rw [Nat.zero_mul, write_zero]
    exact ⟨_, zero_form s rfl⟩
  have h53 := log_small h0 h
  have hL := (Nat.log2_eq_iff h0).1 rfl
  have hk := top_bounds hL.1 hL.2 h53
  have hn := nearest_top s (j := j) h0 rfl h53 hk.2
  refine ⟨52 - N.log2, ?_⟩
  have e : Ieee.double.write (.number s (N * 2 ^ j) (-(j : Int))) = Ieee.double.nearest s (N * 2 ^ j) (-(j : Int)) := rfl
  have m4 : (-1074 : Int) + ((N.log2 + 1023 - 1 : Nat) : Int) = -((52 - N.log2 : Nat) : Int) := by omega
  rw [e, hn, read_word s _ (rung_lo hk.1) (rung_hi h53 hk.2), rung_mod hk.1 hk.2, rung_div hk.1 hk.2, add_back hk.1, m4]

theorem rep_write {s : Bool} {n : Int} {j : Nat} (h : n.natAbs < 9007199254740992) (h1 : s = true → n ≤ 0) (h2 : s = false → 0 ≤ n) :
    Rep (Ieee.double.write (.number s (n.natAbs * 2 ^ j) (-(j : Int)))) n := by
  obtain ⟨i, hi⟩ := write_rep s n.natAbs j h
  exact ⟨s, i, hi, h1, h2⟩

/-- The float of a whole number. -/
def fl (n : Int) : Nat := floatOfInt .f64 n
theorem rep_fl {n : Int} (h : n.natAbs < 9007199254740992) : Rep (fl n) n := by
  have := rep_write (s := decide (n < 0)) (n := n) (j := 0) h (by simp; omega) (by simp)
  simp only [Nat.pow_zero, Nat.mul_one] at this
  exact this

theorem rep_mul {x y : Nat} {a b : Int} (hx : Rep x a) (hy : Rep y b) (h : (a * b).natAbs < 9007199254740992) : ∃ r, floatBits .mul .f64 x y = some r ∧ Rep r (a * b) := by
  obtain ⟨s, i, ex, s1, s2⟩ := hx
  obtain ⟨t, j, ey, t1, t2⟩ := hy
  have e : Ieee.double.mul x y = some (Ieee.double.write (.number (s ^^ t) ((a * b).natAbs * 2 ^ (i + j)) (-((i + j : Nat) : Int)))) := by
    unfold Ieee.Format.mul
    rw [ex, ey]
    have e1 : a.natAbs * 2 ^ i * (b.natAbs * 2 ^ j) = (a * b).natAbs * 2 ^ (i + j) := by
      rw [Int.natAbs_mul, Nat.pow_add]
      simp only [Nat.mul_assoc, Nat.mul_left_comm]
    have e2 : -(i : Int) + -(j : Int) = -((i + j : Nat) : Int) := by omega
    simp only [Ieee.Datum.product, Option.map_some, e1, e2]
  refine ⟨_, e, rep_write h ?_ ?_⟩
  · intro hs
    cases s with
    | true =>
      cases t with
      | true => simp at hs
      | false => exact Int.mul_nonpos_of_nonpos_of_nonneg (s1 rfl) (t2 rfl)
    | false =>
      cases t with
      | true => exact Int.mul_nonpos_of_nonneg_of_nonpos (s2 rfl) (t1 rfl)
      | false => simp at hs
  · intro hs
    cases s with
    | true =>
      cases t with
      | true => exact Int.mul_nonneg_of_nonpos_of_nonpos (s1 rfl) (t1 rfl)
      | false => simp at hs
    | false =>
      cases t with
      | true => simp at hs
      | false => exact Int.mul_nonneg (s2 rfl) (t2 rfl)

theorem sum_rep {s t : Bool} {i j : Nat} {a b : Int} (s1 : s = true → a ≤ 0) (s2 : s = false → 0 ≤ a) (t1 : t = true → b ≤ 0) (t2 : t = false → 0 ≤ b) :
    ∃ (u : Bool) (k : Nat), (Ieee.Datum.number s (a.natAbs * 2 ^ i) (-(i : Int))).sum (.number t (b.natAbs * 2 ^ j) (-(j : Int))) = some (.number u ((a + b).natAbs * 2 ^ k) (-(k : Int))) ∧ (u = true → a + b ≤ 0) ∧ (u = false → 0 ≤ a + b) := by
  have e0 : min (-(i : Int)) (-(j : Int)) = -((max i j : Nat) : Int) := by omega
  have e1 : (-(i : Int) - -((max i j : Nat) : Int)).toNat = max i j - i := by omega
  have e2 : (-(j : Int) - -((max i j : Nat) : Int)).toNat = max i j - j := by omega
  have f1 : i + (max i j - i) = max i j := by omega
  have f2 : j + (max i j - j) = max i j := by omega
  have hp : (0 : Int) < 2 ^ (max i j) := Int.pow_pos (by omega)
  generalize hk : max i j = k at *
  have tot : Ieee.signed s (a.natAbs * 2 ^ i) (k - i) + Ieee.signed t (b.natAbs * 2 ^ j) (k - j) = (a + b) * 2 ^ k := by
    rw [signed_rep s1 s2, signed_rep t1 t2, f1, f2, Int.add_mul]
  have na : ((a + b) * 2 ^ k).natAbs = (a + b).natAbs * 2 ^ k := by
    rw [Int.natAbs_mul, Int.natAbs_pow]; rfl
  refine ⟨if (a + b) * 2 ^ k = 0 then s && t else decide ((a + b) * 2 ^ k < 0), k, ?_, ?_, ?_⟩
  · simp only [Ieee.Datum.sum, e0, e1, e2, tot, na]
  · intro h
    by_cases hz : (a + b) * 2 ^ k = 0
    · rcases Int.mul_eq_zero.1 hz with h' | h' <;> omega
    · rw [if_neg hz] at h
      have h3 := of_decide_eq_true h
      rcases Int.lt_or_le 0 (a + b) with h4 | h4
      · have := Int.mul_pos h4 hp
        omega
      · exact h4
  · intro h
    by_cases hz : (a + b) * 2 ^ k = 0
    · rcases Int.mul_eq_zero.1 hz with h' | h' <;> omega
    · rw [if_neg hz] at h
      have h3 := of_decide_eq_false h
      rcases Int.lt_or_le (a + b) 0 with h4 | h4
      · have := Int.mul_neg_of_neg_of_pos h4 hp
        omega
      · exact h4

theorem rep_add {x y : Nat} {a b : Int} (hx : Rep x a) (hy : Rep y b) (h : (a + b).natAbs < 9007199254740992) : ∃ r, floatBits .add .f64 x y = some r ∧ Rep r (a + b) := by
  obtain ⟨s, i, ex, s1, s2⟩ := hx
  obtain ⟨t, j, ey, t1, t2⟩ := hy
  obtain ⟨u, k, e, u1, u2⟩ := sum_rep (i := i) (j := j) s1 s2 t1 t2
  refine ⟨Ieee.double.write (.number u ((a + b).natAbs * 2 ^ k) (-(k : Int))), ?_, rep_write h u1 u2⟩
  show Ieee.double.add x y = _
  unfold Ieee.Format.add
  rw [ex, ey, e]
  rfl

theorem rep_sub {x y : Nat} {a b : Int} (hx : Rep x a) (hy : Rep y b) (h : (a - b).natAbs < 9007199254740992) : ∃ r, floatBits .sub .f64 x y = some r ∧ Rep r (a - b) := by
  obtain ⟨s, i, ex, s1, s2⟩ := hx
  obtain ⟨t, j, ey, t1, t2⟩ := hy
  obtain ⟨u, k, e, u1, u2⟩ := sum_rep (i := i) (j := j) (a := a) (b := -b) (t := !t) s1 s2 (by cases t <;> simp at * <;> omega) (by cases t <;> simp at * <;> omega)
  rw [Int.natAbs_neg] at e
  refine ⟨Ieee.double.write (.number u ((a + -b).natAbs * 2 ^ k) (-(k : Int))), ?_, ?_⟩
  · show Ieee.double.sub x y = _
    unfold Ieee.Format.sub
    rw [ex, ey]
    simp only [Ieee.Datum.opposite, e]
    rfl
  · have := rep_write (s := u) (n := a + -b) (j := k) (by rw [← Int.sub_eq_add_neg]; exact h) u1 u2
    rw [← Int.sub_eq_add_neg] at this ⊢
    exact this

theorem rep_int {x : Nat} {n : Int} (h : Rep x n) (h1 : -9223372036854775808 ≤ n) (h2 : n ≤ 9223372036854775807) : floatToIntVal .f64 x .i64 = some n := by
  obtain ⟨s, j, e, s1, s2⟩ := h
  have hd : (FloatKind.decode .f64 x) = .number s (n.natAbs * 2 ^ j) (-(j : Int)) := e
  have hi : (FloatKind.decode .f64 x).toInt .zero = some n := by
    rw [hd]
    unfold Ieee.Datum.toInt Ieee.Datum.integral
    have e1 : (-(j : Int)).toNat = 0 := by omega
    have e2 : (- -(j : Int)).toNat = j := by omega
    simp only [e1, e2, Nat.shiftLeft_zero]
    have hc : Ieee.Toward.zero.cut s (n.natAbs * 2 ^ j) j = n.natAbs := by
      rw [cut_exact]
      · exact Nat.mul_div_cancel _ (Nat.two_pow_pos _)
      · by_cases h0 : n.natAbs = 0
        · left; rw [h0, Nat.zero_mul]
        · right; rw [log2_mul_pow h0]; omega
      · exact Nat.dvd_mul_left _ _
    rw [hc]
    have := signed_rep s1 s2 0 0
    simp only [Nat.pow_zero, Nat.mul_one, Nat.add_zero, Int.pow_zero, Int.mul_one] at this
    rw [this]
  unfold floatToIntVal
  rw [hi]
  have m1 : IntKind.min .i64 = -9223372036854775808 := by decide
  have m2 : IntKind.max .i64 = 9223372036854775807 := by decide
  simp only [m1, m2]
  rw [if_pos ⟨h1, h2⟩]

#print axioms rep_mul
#print axioms rep_sub
#print axioms rep_int
end Go.Proofs.Ytkilnknndglmnaa
end

section
/- Numbers with two whole parts: sums, products, powers; modulo the prime. No Go in sight. -/
namespace Go.Proofs.Ytkilnknndglmnaa

/-- A number with two whole parts. -/
structure G where
  re : Int
  im : Int
deriving DecidableEq

namespace G
theorem ext' {x y : G} (h1 : x.re = y.re) (h2 : x.im = y.im) : x = y := by
  cases x; cases y; simp_all
def add (x y : G) : G := ⟨x.re + y.re, x.im + y.im⟩
def sub (x y : G) : G := ⟨x.re - y.re, x.im - y.im⟩
def mul (x y : G) : G := ⟨x.re * y.re - x.im * y.im, x.re * y.im + x.im * y.re⟩
def neg (x : G) : G := ⟨-x.re, -x.im⟩
def zero : G := ⟨0, 0⟩
def one : G := ⟨1, 0⟩
theorem add_comm (x y : G) : add x y = add y x := ext' (Int.add_comm _ _) (Int.add_comm _ _)
theorem add_assoc (x y z : G) : add (add x y) z = add x (add y z) := ext' (Int.add_assoc _ _ _) (Int.add_assoc _ _ _)
theorem add_zero (x : G) : add x zero = x := ext' (Int.add_zero _) (Int.add_zero _)
theorem zero_add (x : G) : add zero x = x := ext' (Int.zero_add _) (Int.zero_add _)
theorem mul_comm (x y : G) : mul x y = mul y x := by
  apply ext' <;> simp only [mul, Int.mul_comm] <;> omega
theorem mul_assoc (x y z : G) : mul (mul x y) z = mul x (mul y z) := by
  apply ext' <;> simp only [mul] <;> grind
theorem mul_add (x y z : G) : mul x (add y z) = add (mul x y) (mul x z) := by
  apply ext' <;> simp only [mul, add] <;> grind
theorem add_mul (x y z : G) : mul (add x y) z = add (mul x z) (mul y z) := by
  rw [mul_comm, mul_add, mul_comm z x, mul_comm z y]
theorem mul_one (x : G) : mul x one = x := by
  apply ext' <;> simp [mul, one]
theorem one_mul (x : G) : mul one x = x := by rw [mul_comm, mul_one]
theorem mul_zero (x : G) : mul x zero = zero := by
  apply ext' <;> simp [mul, zero]
theorem zero_mul (x : G) : mul zero x = zero := by rw [mul_comm, mul_zero]
theorem mul_neg (x y : G) : mul x (neg y) = neg (mul x y) := by
  apply ext' <;> simp only [mul, neg] <;> grind
theorem sub_eq (x y : G) : sub x y = add x (neg y) := ext' (Int.sub_eq_add_neg) (Int.sub_eq_add_neg)
def pow (x : G) : Nat → G
  | 0 => one
  | n + 1 => mul (pow x n) x
theorem pow_add (x : G) (a b : Nat) : pow x (a + b) = mul (pow x a) (pow x b) := by
  induction b with
  | zero => simp [pow, mul_one]
  | succ b ih => rw [← Nat.add_assoc]; simp only [pow]; rw [ih, mul_assoc]
theorem pow_one (x : G) : pow x 1 = x := by simp [pow, one_mul]
theorem pow_two (x : G) : pow x 2 = mul x x := by simp [pow, one_mul]
theorem one_pow (n : Nat) : pow one n = one := by
  induction n with
  | zero => rfl
  | succ n ih => simp only [pow]; rw [ih, mul_one]
theorem pow_mul (x : G) (a b : Nat) : pow x (a * b) = pow (pow x a) b := by
  induction b with
  | zero => rfl
  | succ b ih => rw [Nat.mul_succ, pow_add, ih]; rfl
theorem mul_mul_mul (a b c d : G) : mul (mul a b) (mul c d) = mul (mul a c) (mul b d) := by
  rw [mul_assoc, ← mul_assoc b c d, mul_comm b c, mul_assoc c b d, ← mul_assoc]
theorem mul_pow (x y : G) (n : Nat) : pow (mul x y) n = mul (pow x n) (pow y n) := by
  induction n with
  | zero => simp [pow, mul_one]
  | succ n ih => simp only [pow]; rw [ih, mul_mul_mul]
end G
open G

/-- A whole number modulo the prime. -/
def md (n : Int) : Int := n % 16777199
theorem md_bound (n : Int) : 0 ≤ md n ∧ md n < 16777199 := by unfold md; omega
theorem md_small {n : Int} (h0 : 0 ≤ n) (h1 : n < 16777199) : md n = n := by unfold md; omega
theorem md_md (n : Int) : md (md n) = md n := by unfold md; omega
theorem md_add (a b : Int) : md (md a + md b) = md (a + b) := by unfold md; omega
theorem md_sub (a b : Int) : md (md a - md b) = md (a - b) := by unfold md; omega
theorem md_add_l (a b : Int) : md (md a + b) = md (a + b) := by unfold md; omega
theorem md_mul (a b : Int) : md (md a * md b) = md (a * b) := by unfold md; rw [← Int.mul_emod]

/-- Both parts modulo the prime. -/
def red (x : G) : G := ⟨md x.re, md x.im⟩
/-- A seal. -/
def IsS (x : G) : Prop := (0 ≤ x.re ∧ x.re < 16777199) ∧ (0 ≤ x.im ∧ x.im < 16777199)
theorem red_isS (x : G) : IsS (red x) := ⟨md_bound _, md_bound _⟩
theorem red_small {x : G} (h : IsS x) : red x = x := ext' (md_small h.1.1 h.1.2) (md_small h.2.1 h.2.2)
theorem red_red (x : G) : red (red x) = red x := red_small (red_isS x)
theorem red_add (x y : G) : red (add (red x) (red y)) = red (add x y) := ext' (md_add _ _) (md_add _ _)
theorem red_sub (x y : G) : red (sub (red x) (red y)) = red (sub x y) := ext' (md_sub _ _) (md_sub _ _)
theorem red_mul (x y : G) : red (mul (red x) (red y)) = red (mul x y) := by
  apply ext' <;> simp only [red, mul]
  · rw [← md_sub, md_mul, md_mul, md_sub]
  · rw [← md_add, md_mul, md_mul, md_add]
theorem red_neg (x : G) : red (neg (red x)) = red (neg x) := by
  apply ext' <;> simp only [red, neg, md] <;> omega
theorem red_one : red one = one := by decide
theorem red_zero : red zero = zero := by decide
theorem add_cong {a b c d : G} (h1 : red a = red b) (h2 : red c = red d) : red (add a c) = red (add b d) := by rw [← red_add, h1, h2, red_add]
theorem mul_cong {a b c d : G} (h1 : red a = red b) (h2 : red c = red d) : red (mul a c) = red (mul b d) := by rw [← red_mul, h1, h2, red_mul]
theorem neg_cong {a b : G} (h1 : red a = red b) : red (neg a) = red (neg b) := by rw [← red_neg, h1, red_neg]
theorem pow_cong {a b : G} (h1 : red a = red b) (n : Nat) : red (pow a n) = red (pow b n) := by
  induction n with
  | zero => rfl
  | succ n ih => exact mul_cong ih h1

/-- Powers, each step modulo the prime. -/
def powR (x : G) : Nat → G
  | 0 => one
  | n + 1 => red (mul (powR x n) x)
theorem powR_eq (x : G) (n : Nat) : powR x n = red (pow x n) := by
  induction n with
  | zero => exact red_one.symm
  | succ n ih =>
    simp only [powR, pow]
    rw [ih]
    exact mul_cong (red_red _) rfl

#print axioms red_mul
#print axioms powR_eq
end Go.Proofs.Ytkilnknndglmnaa
end

section
/- Laws for values of many cells stored into a block and loaded out of it: worlds stay letters, what is known of them are their blocks. No program in sight. -/
namespace Go.Proofs.Ytkilnknndglmnaa
open Go.RowKit

/-- A fact kept from the walk. -/
theorem hid {p : Prop} (h : p) : Hid p := h

theorem below_drewN' {B : Nat} {a w : World} (h : Below B a w) (n : Nat) : Below B a (w.drewN n) := ⟨h.os, h.tape, h.output, h.size, h.block⟩

/-- From here on the world is a letter; of it these facts are kept. -/
theorem abstract_world {G : World → Prop} {w0 : World} (F : World → Prop) (hf : F w0) (h : ∀ w, F w → G w) : G w0 := h w0 hf

/-- Some cells of a row, written over. -/
def splice (cur : Array Value) (o : Nat) (vs : List Value) : Array Value := (cur.toList.take o ++ vs ++ cur.toList.drop (o + vs.length)).toArray

/-- Of w only block g has turned; it holds this row now. -/
structure RowSet (w : World) (g : Nat) (row : Array Value) (t : TypeId) (w1 : World) : Prop where
  os : w1.os = w.os
  tape : w1.tape = w.tape
  output : w1.output = w.output
  size : w1.heap.size = w.heap.size
  row : w1.heap[g]? = some (.cells row t (0, 0))
  other : ∀ k, k ≠ g → w1.heap[k]? = w.heap[k]?

theorem RowSet.below {w w1 : World} {g : Nat} {row : Array Value} {t : TypeId} (h : RowSet w g row t w1) {B : Nat} (hB : B ≤ g) : Below B w w1 :=
  ⟨h.os, h.tape, h.output, by rw [h.size]; exact Nat.le_refl _, fun k hk => h.other k (by omega)⟩

theorem rowSet_of {w : World} {g : Nat} {cur row : Array Value} {t : TypeId} (hg : w.heap[g]? = some (.cells cur t (0, 0))) : RowSet w g row t (w.setRow g row) :=
  ⟨rfl, rfl, rfl, by simp, setRow_heap w g cur row t (0, 0) hg, fun k hk => setRow_other w g k row hk⟩

section
variable {P : Program}

theorem run_storeVar_at (w : World) (g o : Nat) (ty : TypeId) (cells cur : Array Value) (t : TypeId) (hg : w.heap[g]? = some (.cells cur t (0, 0))) (hl : o + cells.size ≤ cur.size)
    (hi : (P.info? ty).map (·.size) = some cells.size) (h1 : cells.all (·.oneCell') = true) : (storeVar ty ⟨g, o, none⟩ (.agg cells)).run P w = .ok () (w.setRow g (splice cur o cells.toList)) := by
  have := run_storeCells_at (P := P) g o t cells.toList 0 cur w hg (by simpa using hl) (fun v hv => (Array.all_eq_true_iff_forall_mem.1 h1) v (by simpa using hv))
  cases hq : P.info? ty with
  | none => simp [hq] at hi
  | some i =>
    have hs : cells.size = i.size := by simp [hq] at hi; omega
    simp only [Nat.add_zero] at this
    simp [storeVar, sizeOf, typeInfo, hq, Value.cells, hs, this, splice]

theorem wpList_store_at {ops : Array Oper} {rest : List Oper} {op : Oper} {a : Act} {w : World} {Q : Exit → Act → World → Prop} (hgd : op.guard = none) (ty : TypeId) (x y : Operand) (ho : op.op = .store ty x y)
    (g o : Nat) (cells : Array Value) (hx : a.eval x = .pointer (some ⟨g, o, none⟩)) (hy : a.eval y = .agg cells) (cur : Array Value) (t : TypeId)
    (hg : w.heap[g]? = some (.cells cur t (0, 0))) (hl : o + cells.size ≤ cur.size) (hi : (P.info? ty).map (·.size) = some cells.size) (h1 : cells.all (·.oneCell') = true)
    (h : ∀ w1, RowSet w g (splice cur o cells.toList) t w1 → wpList P ops Q rest (a.put op.dst undef) w1) : wpList P ops Q (op :: rest) a w :=
  wpList_plain hgd fun K hK => by
    have hr := run_storeVar_at (P := P) w g o ty cells cur t hg hl hi h1
    unfold Oper.wp execOp
    simp only [ho, hx, hy, Instr.storeAt, Instr.sureAddr, Sem.run_bind, Sem.run_pure, Result.andThen_ok, hr]
    exact hK _ _ (h _ (rowSet_of hg))

/-- A function of two results, the first a value of many cells in memory, the second a slot. -/
theorem results_row_tmp {fn : Func} {p q : Tmp} {ty : TypeId} (h : fn.results = #[.cell p ty, .tmp q]) (tmps : Array Value) (w : World) (g : Nat) (t : TypeId) (cs : Array Value) (fr : Nat × Nat) (d : TypeDesc)
    (hp : tmps.getD p undef = .pointer (some ⟨g, 0, none⟩)) (hg : w.heap[g]? = some (.cells cs t fr))
    (hu : P.underlying ty = some d) (hd : (match d with | .struct _ | .array _ _ => true | _ => false) = true) (hi : (P.info? ty).map (·.size) = some cs.size) :
    (results fn tmps).run P w = .ok (.tuple #[.agg cs, tmps.getD q undef]) w := by
  have hp' : tmps[p]?.getD undef = .pointer (some ⟨g, 0, none⟩) := by simpa using hp
  simp [results, h, hp', asAddr, run_loadVar_row w g t ty cs fr d hg hu hd hi]
end

theorem heap_alloc_same (w : World) (o : Obj) : (w.alloc o).heap[w.heap.size]? = some o := heap_alloc_new w o
theorem heap_alloc_keep (w : World) (o : Obj) {i : Nat} {x : Obj} (h : w.heap[i]? = some x) : (w.alloc o).heap[i]? = some x := by
  have : i < w.heap.size := by
    rcases Nat.lt_or_ge i w.heap.size with h1 | h1
    · exact h1
    · rw [Array.getElem?_eq_none h1] at h; cases h
  rw [Below.heap_alloc w o i this, h]

end Go.Proofs.Ytkilnknndglmnaa
end

section
/- Contracts of package seal: a seal as a complex number, and back; products and powers. -/
namespace Go.Proofs.Ytkilnknndglmnaa
open Go.RowKit

theorem number_any (a b : Int) (w : World) : Calls Try.prog 40 #[.agg #[.int .i64 a, .int .i64 b]] w fun e w' => e = .returned (.complex .f64 (fl a) (fl b)) ∧ Below w.heap.size w w' := by
  go_enter Try.func40, Try.ntmps40
  go_wp2
  go_ret
  exact ⟨rfl, (Below.refl _ _).alloc (Nat.le_refl _) _⟩

theorem part_num {n : Int} : ((n.tmod 16777199) + 16777199).tmod 16777199 = md n := by
  unfold md
  rcases Int.le_total 0 n with h | h
  · rw [Int.tmod_eq_emod_of_nonneg h, Int.tmod_eq_emod_of_nonneg (by omega)]
    omega
  · have e : n.tmod 16777199 = -((-n) % 16777199) := by
      have := Int.neg_tmod (-n) 16777199
      rw [Int.neg_neg] at this
      rw [this, Int.tmod_eq_emod_of_nonneg (by omega)]
    rw [e, Int.tmod_eq_emod_of_nonneg (by omega)]
    omega

theorem part_any (x : Nat) (n : Int) (w : World) (hx : Rep x n) (h1 : -9007199254740992 < n) (h2 : n < 9007199254740992) : Calls Try.prog 51 #[.float .f64 x] w fun e w' => e = .returned (.int .i64 (md n)) ∧ w = w' := by
  have hi := rep_int hx (by omega) (by omega)
  have hc : ∀ W, (convert 71 3 (.float .f64 x)).run Try.prog W = .ok (.int .i64 n) W := fun W => run_convert_float_int W 71 3 .f64 .i64 x n (by rw [Try.underlying71]; rfl) Try.underlying3 hi
  have hm := part_num (n := n)
  have hb : -16777199 < n.tmod 16777199 ∧ n.tmod 16777199 < 16777199 := by
    constructor
    · have := Int.lt_tmod_of_pos n (b := 16777199) (by omega); omega
    · exact Int.tmod_lt_of_pos n (by omega)
  generalize hq : n.tmod 16777199 = q at *
  go_enter Try.func51, Try.ntmps51
  go_wp2
  go_ret
  exact ⟨rfl, rfl⟩

theorem seal_any (x y : Nat) (z : G) (w : World) (hx : Rep x z.re) (hy : Rep y z.im) (h1 : -9007199254740992 < z.re ∧ z.re < 9007199254740992) (h2 : -9007199254740992 < z.im ∧ z.im < 9007199254740992) :
    Calls Try.prog 38 #[.complex .f64 x y] w fun e w' => e = .returned (.agg #[.int .i64 (red z).re, .int .i64 (red z).im]) ∧ Below w.heap.size w w' := by
  have P1 := hid fun W => part_any x z.re W hx h1.1 h1.2
  have P2 := hid fun W => part_any y z.im W hy h2.1 h2.2
  show Calls Try.prog 38 #[.complex .f64 x y] w fun e w' => e = .returned (.agg #[.int .i64 (md z.re), .int .i64 (md z.im)]) ∧ Below w.heap.size w w'
  clear hx hy h1 h2
  generalize md z.re = a at *
  generalize md z.im = b at *
  go_enter Try.func38, Try.ntmps38
  go_wp2_with fail
  refine (P1.out _).mono ?_
  rintro e w1 ⟨rfl, rfl⟩
  go_wp2_with fail
  refine (P2.out _).mono ?_
  rintro e w1 ⟨rfl, rfl⟩
  go_wp2_with fail
  exact bodyPost_ret (v := .agg #[.int .i64 a, .int .i64 b]) (by simp [results, Try.results38, go_sem]) rfl ⟨rfl, (Below.refl _ _).alloc (Nat.le_refl _) _⟩

/-- A part of what is reckoned with. -/
def Sm (a : Int) : Prop := -16777216 < a ∧ a < 16777216
theorem sm_mul {a b : Int} (ha : Sm a) (hb : Sm b) : (a * b).natAbs < 281474976710656 := by
  rw [Int.natAbs_mul]
  have h1 : a.natAbs < 16777216 := by unfold Sm at ha; omega
  have h2 : b.natAbs < 16777216 := by unfold Sm at hb; omega
  calc a.natAbs * b.natAbs ≤ a.natAbs * 16777216 := Nat.mul_le_mul_left _ (by omega)
    _ < 16777216 * 16777216 := Nat.mul_lt_mul_of_pos_right h1 (by omega)
theorem cmul_rep {x1 x2 y1 y2 : Nat} {u v : G} (hx1 : Rep x1 u.re) (hx2 : Rep x2 u.im) (hy1 : Rep y1 v.re) (hy2 : Rep y2 v.im) (h1 : Sm u.re) (h2 : Sm u.im) (h3 : Sm v.re) (h4 : Sm v.im) :
    ∃ re im, cMulBits x1 x2 y1 y2 = some (re, im) ∧ Rep re (G.mul u v).re ∧ Rep im (G.mul u v).im := by
  have b1 := sm_mul h1 h3
  have b2 := sm_mul h2 h4
  have b3 := sm_mul h1 h4
  have b4 := sm_mul h2 h3
  obtain ⟨ac, e1, r1⟩ := rep_mul hx1 hy1 (by omega)
  obtain ⟨bd, e2, r2⟩ := rep_mul hx2 hy2 (by omega)
  obtain ⟨re, e3, r3⟩ := rep_sub r1 r2 (by omega)
  obtain ⟨ad, e4, r4⟩ := rep_mul hx1 hy2 (by omega)
  obtain ⟨bc, e5, r5⟩ := rep_mul hx2 hy1 (by omega)
  obtain ⟨im, e6, r6⟩ := rep_add r4 r5 (by omega)
  refine ⟨re, im, ?_, r3, r6⟩
  unfold cMulBits
  simp only [e1, e2, e3, e4, e5, e6, Option.bind_some]
theorem mul_in {u v : G} (h1 : Sm u.re) (h2 : Sm u.im) (h3 : Sm v.re) (h4 : Sm v.im) : (-9007199254740992 < (G.mul u v).re ∧ (G.mul u v).re < 9007199254740992) ∧ (-9007199254740992 < (G.mul u v).im ∧ (G.mul u v).im < 9007199254740992) := by
  have b1 := sm_mul h1 h3
  have b2 := sm_mul h2 h4
  have b3 := sm_mul h1 h4
  have b4 := sm_mul h2 h3
  simp only [G.mul]
  omega
theorem isS_sm {u : G} (h : IsS u) : Sm u.re ∧ Sm u.im := by unfold IsS at h; unfold Sm; omega
theorem rep_isS {u : G} (h : IsS u) : Rep (fl u.re) u.re ∧ Rep (fl u.im) u.im := by
  unfold IsS at h
  exact ⟨rep_fl (by omega), rep_fl (by omega)⟩

/-- The product of two seals as numbers, and what seal makes of it. -/
structure Prod2 (u v : G) (r1 r2 : Nat) : Prop where
  run : ∀ t W, (binOp .mul t (.complex .f64 (fl u.re) (fl u.im)) (.complex .f64 (fl v.re) (fl v.im))).run Try.prog W = .ok (.complex .f64 r1 r2) W
  call : ∀ w, Calls Try.prog 38 #[.complex .f64 r1 r2] w fun e w' => e = .returned (.agg #[.int .i64 (red (G.mul u v)).re, .int .i64 (red (G.mul u v)).im]) ∧ Below w.heap.size w w'
  rep : Rep r1 (G.mul u v).re ∧ Rep r2 (G.mul u v).im
theorem prod2 {u v : G} (hu : IsS u) (hv : IsS v) : ∃ r1 r2, Prod2 u v r1 r2 := by
  have su := isS_sm hu
  have sv := isS_sm hv
  have ru := rep_isS hu
  have rv := rep_isS hv
  obtain ⟨r1, r2, e, h1, h2⟩ := cmul_rep ru.1 ru.2 rv.1 rv.2 su.1 su.2 sv.1 sv.2
  have hb := mul_in su.1 su.2 sv.1 sv.2
  exact ⟨r1, r2, fun t W => run_complex_mul W t _ _ _ _ _ _ e, fun w => seal_any r1 r2 _ w h1 h2 hb.1 hb.2, h1, h2⟩

/-- One round of the power. -/
theorem pow_odd {x o : G} {m : Nat} (h : m % 2 = 1) : red (G.mul (red (G.mul o x)) (G.pow (red (G.mul x x)) (m / 2))) = red (G.mul o (G.pow x m)) := by
  have e : m = 2 * (m / 2) + 1 := by omega
  rw [mul_cong (red_red _) (pow_cong (red_red _) _)]
  have e2 : G.pow x m = G.mul (G.pow (G.mul x x) (m / 2)) x := by
    rw [← G.pow_two, ← G.pow_mul]
    exact (congrArg (G.pow x) e).trans rfl
  rw [e2, G.mul_assoc, G.mul_comm x]
theorem pow_even {x o : G} {m : Nat} (h : m % 2 = 0) : red (G.mul o (G.pow (red (G.mul x x)) (m / 2))) = red (G.mul o (G.pow x m)) := by
  have e : m = 2 * (m / 2) := by omega
  rw [mul_cong rfl (pow_cong (red_red _) _)]
  have e2 : G.pow x m = G.pow (G.mul x x) (m / 2) := by
    rw [← G.pow_two, ← G.pow_mul]
    exact congrArg (G.pow x) e
  rw [e2]
theorem below_next {a w w' : World} (h : Below a.heap.size a w) (hb : Below w.heap.size w w') : Below a.heap.size a w' := h.trans (hb.mono h.size)

/-- What the power's loop holds. -/
def PowAt (w : World) (z : G) (n : Nat) (v0 v1 v5 : Value) (wr : World) : Prop :=
  ∃ (x o : G) (m : Int), v0 = .complex .f64 (fl x.re) (fl x.im) ∧ v1 = .int .i64 m ∧ v5 = .complex .f64 (fl o.re) (fl o.im) ∧ IsS x ∧ IsS o ∧ 0 ≤ m ∧ m ≤ 9223372036854775807 ∧ red (G.mul o (G.pow x m.toNat)) = red (G.pow z n) ∧ Below w.heap.size w wr

set_option maxHeartbeats 1000000 in
theorem power_any (z : G) (n : Int) (w : World) (hz : IsS z) (h0 : 0 ≤ n) (h1 : n ≤ 9223372036854775807) :
    Calls Try.prog 39 #[.complex .f64 (fl z.re) (fl z.im), .int .i64 n] w fun e w' => e = .returned (.complex .f64 (fl (red (G.pow z n.toNat)).re) (fl (red (G.pow z n.toNat)).im)) ∧ Below w.heap.size w w' := by
  have START := hid (show ∀ v0 v1 v5, v0 = .complex .f64 (fl z.re) (fl z.im) → v1 = .int .i64 n → v5 = .complex .f64 (fl 1) (fl 0) → PowAt w z n.toNat v0 v1 v5 w from fun v0 v1 v5 e0 e1 e5 =>
    ⟨z, G.one, n, e0, e1, e5, hz, by simp [IsS, G.one], h0, h1, by rw [G.one_mul], Below.refl _ _⟩)
  have E1 := hid (show fl 1 = 4607182418800017408 by decide +kernel)
  have E0 := hid (show fl 0 = 0 by decide +kernel)
  clear hz h0 h1
  generalize hn : n.toNat = k at *
  clear hn
  go_enter Try.func39, Try.ntmps39
  go_wp2_with fail
  go_loopw [0, 1, 5] (fun v0 v1 v5 wr => PowAt w z k v0 v1 v5 wr) (fun _ v1 _ _ => (intOf v1).toNat)
  case atStart => exact START.out _ _ _ rfl rfl (by rw [E1.out, E0.out])
  case round =>
    obtain ⟨x, o, m, rfl, rfl, rfl, hx, ho, hm0, hm1, he, hB⟩ := hrel
    have HB := hid hB
    have HE := hid he
    have HX := hid hx
    have HO := hid ho
    clear hB he hx ho
    by_cases hlt : 0 < m
    · obtain ⟨p1, p2, hp⟩ := prod2 HO.out HX.out
      obtain ⟨q1, q2, hq⟩ := prod2 HX.out HX.out
      have hpr := fun W => hp.run 57 W
      have hqr := fun W => hq.run 57 W
      have HP := hid hp.call
      have HQ := hid hq.call
      clear hp hq
      have hdm : 0 ≤ m / 2 ∧ m / 2 ≤ 9223372036854775807 ∧ (m / 2).toNat = m.toNat / 2 ∧ (m / 2).toNat < m.toNat := by omega
      have HDM := hid hdm
      clear hdm
      cases hpar : (m % 2 == 1) with
      | true =>
        have ODD := hid (pow_odd (x := x) (o := o) (m := m.toNat) (by have := of_decide_eq_true hpar; omega))
        have I1 := hid (red_isS (G.mul o x))
        have I2 := hid (red_isS (G.mul x x))
        generalize hro : red (G.mul o x) = o' at *
        generalize hrx : red (G.mul x x) = x' at *
        clear hro hrx
        go_wp2_with fail
        refine (HP.out _).mono ?_
        rintro e w1 ⟨rfl, hb1⟩
        have B1 := hid (below_next HB.out hb1)
        clear hb1
        go_wp2_with fail
        refine (number_any _ _ _).mono ?_
        rintro e w2 ⟨rfl, hb2⟩
        have B2 := hid (below_next B1.out hb2)
        clear hb2
        go_wp2_with fail
        refine (HQ.out _).mono ?_
        rintro e w3 ⟨rfl, hb3⟩
        have B3 := hid (below_next B2.out hb3)
        clear hb3
        go_wp2_with fail
        refine (number_any _ _ _).mono ?_
        rintro e w4 ⟨rfl, hb4⟩
        have B4 := hid (below_next B3.out hb4)
        clear hb4
        go_wp2_with fail
        go_roundw
        case rel => exact ⟨x', o', m / 2, rfl, rfl, rfl, I2.out, I1.out, HDM.out.1, HDM.out.2.1, by rw [HDM.out.2.2.1, ODD.out]; exact HE.out, B4.out⟩
        case measure => exact HDM.out.2.2.2
      | false =>
        have EVEN := hid (pow_even (x := x) (o := o) (m := m.toNat) (by have : ¬ m % 2 = 1 := by simpa using hpar
                                                                        omega))
        have I2 := hid (red_isS (G.mul x x))
        generalize hrx : red (G.mul x x) = x' at *
        clear hrx
        go_wp2_with fail
        refine (HQ.out _).mono ?_
        rintro e w3 ⟨rfl, hb3⟩
        have B3 := hid (below_next HB.out hb3)
        clear hb3
        go_wp2_with fail
        refine (number_any _ _ _).mono ?_
        rintro e w4 ⟨rfl, hb4⟩
        have B4 := hid (below_next B3.out hb4)
        clear hb4
        go_wp2_with fail
        go_roundw
        case rel => exact ⟨x', o, m / 2, rfl, rfl, rfl, I2.out, HO.out, HDM.out.1, HDM.out.2.1, by rw [HDM.out.2.2.1, EVEN.out]; exact HE.out, B4.out⟩
        case measure => exact HDM.out.2.2.2
    · have e0 : m = 0 := by omega
      subst e0
      have hfin : o = red (G.pow z k) := by
        have := HE.out
        rw [show ((0 : Int).toNat) = 0 from rfl] at this
        simp only [G.pow] at this
        rw [G.mul_one, red_small HO.out] at this
        exact this
      have HF := hid hfin
      clear hfin
      go_wp2_with fail
      go_ret
      exact ⟨by rw [← HF.out]; rfl, HB.out⟩


#print axioms power_any
end Go.Proofs.Ytkilnknndglmnaa
end

section
/- Numbers with two whole parts as a kind of values: how they are held, read, reckoned with. -/
namespace Go.Proofs.Ytkilnknndglmnaa
open Go.RowKit Go.Proofs.YtkilnknndglmnaaW.PrintWords

/-- As the program holds it. -/
def encC (g : G) : Value := .complex .f64 (fl g.re) (fl g.im)
/-- Its kind. -/
def kcx : Kd G := Kd.scalar encC (fun _ => rfl)
theorem at_cx {w : World} {A : Option Addr} {n : Nat} {xs : List G} (h : kcx.C w A n xs) (i : Int) (h0 : 0 ≤ i) (h1 : i < n) : ∃ ad, A = some ad ∧ w.cell? (ad.add i.toNat) = some (.complex .f64 (fl (rdOf G.zero xs i).re) (fl (rdOf G.zero xs i).im)) :=
  ReadsOf.at_ (Kd.reads_of_C (enc := encC) (d := G.zero) (h1 := fun _ => rfl) h) i h0 h1

/-- Both are seals, so that all is exact. -/
def isSB (x : G) : Bool := decide ((0 ≤ x.re ∧ x.re < 16777199) ∧ (0 ≤ x.im ∧ x.im < 16777199))
theorem isSB_iff {x : G} : isSB x = true ↔ IsS x := by unfold isSB IsS; exact decide_eq_true_iff
def okC (x y : G) : Bool := isSB x && isSB y
theorem okC_iff {x y : G} : okC x y = true ↔ IsS x ∧ IsS y := by simp [okC, isSB_iff]
/-- Within what is exact. -/
def okF (n : Int) : Bool := decide (-9007199254740992 < n ∧ n < 9007199254740992)
theorem okF_iff {n : Int} : okF n = true ↔ -9007199254740992 < n ∧ n < 9007199254740992 := by simp [okF]

/-! ### What comes out is the float of the exact number -/
theorem read_fl {n : Int} (h : n.natAbs < 9007199254740992) : ∃ j : Nat, Ieee.double.read (fl n) = .number (decide (n < 0)) (n.natAbs * 2 ^ j) (-(j : Int)) := by
  obtain ⟨i, hi⟩ := write_rep (decide (n < 0)) n.natAbs 0 h
  simp only [Nat.pow_zero, Nat.mul_one] at hi
  exact ⟨i, hi⟩
theorem write_fl {n : Int} (h : n.natAbs < 9007199254740992) (j : Nat) : Ieee.double.write (.number (decide (n < 0)) (n.natAbs * 2 ^ j) (-(j : Int))) = fl n := by
  have e0 : fl n = Ieee.double.nearest (decide (n < 0)) (n.natAbs * 2 ^ 0) (-((0 : Nat) : Int)) := by rw [Nat.pow_zero, Nat.mul_one]; rfl
  show Ieee.double.nearest _ _ _ = _
  by_cases h0 : n.natAbs = 0
  · rw [e0, h0, Nat.zero_mul, Nat.zero_mul]
    unfold Ieee.Format.nearest
    rw [if_pos rfl, if_pos rfl]
  · have h53 := log_small h0 h
    have hL := (Nat.log2_eq_iff h0).1 rfl
    have hk := top_bounds hL.1 hL.2 h53
    rw [e0, nearest_top _ (j := j) h0 rfl h53 hk.2, nearest_top _ (j := 0) h0 rfl h53 hk.2]

theorem fl_mul {a b : Int} (ha : 0 ≤ a) (hb : 0 ≤ b) (h1 : a.natAbs < 9007199254740992) (h2 : b.natAbs < 9007199254740992) (h : (a * b).natAbs < 9007199254740992) : floatBits .mul .f64 (fl a) (fl b) = some (fl (a * b)) := by
  obtain ⟨i, ex⟩ := read_fl h1
  obtain ⟨j, ey⟩ := read_fl h2
  have hab := Int.mul_nonneg ha hb
  rw [decide_eq_false (show ¬ a < 0 by omega)] at ex
  rw [decide_eq_false (show ¬ b < 0 by omega)] at ey
  have hw := write_fl h (i + j)
  rw [decide_eq_false (show ¬ a * b < 0 by omega)] at hw
  show Ieee.double.mul _ _ = _
  unfold Ieee.Format.mul
  rw [ex, ey]
  have e1 : a.natAbs * 2 ^ i * (b.natAbs * 2 ^ j) = (a * b).natAbs * 2 ^ (i + j) := by
    rw [Int.natAbs_mul, Nat.pow_add]
    simp only [Nat.mul_assoc, Nat.mul_left_comm]
  have e2 : -(i : Int) + -(j : Int) = -((i + j : Nat) : Int) := by omega
  simp only [Ieee.Datum.product, Option.map_some, e1, e2, Bool.xor_false, hw]

theorem sum_fl {s t : Bool} {i j : Nat} {a b : Int} (s1 : s = true → a ≤ 0) (s2 : s = false → 0 ≤ a) (t1 : t = true → b ≤ 0) (t2 : t = false → 0 ≤ b) (hz : a + b = 0 → (s && t) = false) :
    ∃ k : Nat, (Ieee.Datum.number s (a.natAbs * 2 ^ i) (-(i : Int))).sum (.number t (b.natAbs * 2 ^ j) (-(j : Int))) = some (.number (decide (a + b < 0)) ((a + b).natAbs * 2 ^ k) (-(k : Int))) := by
  have e0 : min (-(i : Int)) (-(j : Int)) = -((max i j : Nat) : Int) := by omega
  have e1 : (-(i : Int) - -((max i j : Nat) : Int)).toNat = max i j - i := by omega
  have e2 : (-(j : Int) - -((max i j : Nat) : Int)).toNat = max i j - j := by omega
  have f1 : i + (max i j - i) = max i j := by omega
  have f2 : j + (max i j - j) = max i j := by omega
  have hp : (0 : Int) < 2 ^ (max i j) := Int.pow_pos (by omega)
  generalize hk : max i j = k at *
  have tot : Ieee.signed s (a.natAbs * 2 ^ i) (k - i) + Ieee.signed t (b.natAbs * 2 ^ j) (k - j) = (a + b) * 2 ^ k := by
    rw [signed_rep s1 s2, signed_rep t1 t2, f1, f2, Int.add_mul]
  have na : ((a + b) * 2 ^ k).natAbs = (a + b).natAbs * 2 ^ k := by
    rw [Int.natAbs_mul, Int.natAbs_pow]; rfl
  refine ⟨k, ?_⟩
  simp only [Ieee.Datum.sum, e0, e1, e2, tot, na]
  congr 2
  by_cases h0 : a + b = 0
  · rw [h0, Int.zero_mul, if_pos rfl, hz h0]; rfl
  · have hne : ¬ (a + b) * 2 ^ k = 0 := fun e => by rcases Int.mul_eq_zero.1 e with e | e <;> omega
    rw [if_neg hne]
    by_cases hlt : a + b < 0
    · have := Int.mul_neg_of_neg_of_pos hlt hp
      rw [decide_eq_true hlt, decide_eq_true this]
    · have := Int.mul_nonneg (show 0 ≤ a + b by omega) (Int.le_of_lt hp)
      rw [decide_eq_false hlt, decide_eq_false (by omega)]

theorem fl_add {a b : Int} (h1 : a.natAbs < 9007199254740992) (h2 : b.natAbs < 9007199254740992) (h : (a + b).natAbs < 9007199254740992) : floatBits .add .f64 (fl a) (fl b) = some (fl (a + b)) := by
  obtain ⟨i, ex⟩ := read_fl h1
  obtain ⟨j, ey⟩ := read_fl h2
  obtain ⟨k, e⟩ := sum_fl (s := decide (a < 0)) (t := decide (b < 0)) (i := i) (j := j) (a := a) (b := b) (fun h => by have := of_decide_eq_true h; omega) (fun h => by have := of_decide_eq_false h; omega) (fun h => by have := of_decide_eq_true h; omega) (fun h => by have := of_decide_eq_false h; omega) (fun h => by simp; omega)
  show Ieee.double.add _ _ = _
  unfold Ieee.Format.add
  rw [ex, ey, e, Option.map_some, write_fl h]
theorem fl_sub {a b : Int} (h1 : a.natAbs < 9007199254740992) (h2 : b.natAbs < 9007199254740992) (h : (a - b).natAbs < 9007199254740992) : floatBits .sub .f64 (fl a) (fl b) = some (fl (a - b)) := by
  obtain ⟨i, ex⟩ := read_fl h1
  obtain ⟨j, ey⟩ := read_fl h2
  obtain ⟨k, e⟩ := sum_fl (s := decide (a < 0)) (t := !decide (b < 0)) (i := i) (j := j) (a := a) (b := -b) (fun h => by have := of_decide_eq_true h; omega) (fun h => by have := of_decide_eq_false h; omega) (fun h => by simp at h; omega) (fun h => by simp at h; omega) (fun h => by simp; omega)
  rw [Int.natAbs_neg] at e
  rw [Int.sub_eq_add_neg] at h ⊢
  show Ieee.double.sub _ _ = _
  unfold Ieee.Format.sub
  rw [ex, ey]
  simp only [Ieee.Datum.opposite]
  rw [e, Option.map_some, write_fl h]

theorem cmul_fl {u v : G} (hu : IsS u) (hv : IsS v) : cMulBits (fl u.re) (fl u.im) (fl v.re) (fl v.im) = some (fl (G.mul u v).re, fl (G.mul u v).im) := by
  have su := isS_sm hu
  have sv := isS_sm hv
  have b1 := sm_mul su.1 sv.1
  have b2 := sm_mul su.2 sv.2
  have b3 := sm_mul su.1 sv.2
  have b4 := sm_mul su.2 sv.1
  unfold IsS at hu hv
  unfold cMulBits
  rw [fl_mul hu.1.1 hv.1.1 (by omega) (by omega) (by omega), Option.bind_some, fl_mul hu.2.1 hv.2.1 (by omega) (by omega) (by omega), Option.bind_some, fl_sub (by omega) (by omega) (by omega), Option.bind_some,
    fl_mul hu.1.1 hv.2.1 (by omega) (by omega) (by omega), Option.bind_some, fl_mul hu.2.1 hv.1.1 (by omega) (by omega) (by omega), Option.bind_some, fl_add (by omega) (by omega) (by omega), Option.bind_some]
  rfl
section
variable {P : Program}
theorem run_cmul {u v : G} (h : okC u v = true) (t : TypeId) (w : World) : (binOp .mul t (.complex .f64 (fl u.re) (fl u.im)) (.complex .f64 (fl v.re) (fl v.im))).run P w = .ok (.complex .f64 (fl (G.mul u v).re) (fl (G.mul u v).im)) w :=
  run_complex_mul w t _ _ _ _ _ _ (cmul_fl (okC_iff.1 h).1 (okC_iff.1 h).2)
theorem run_cadd {u v : G} (h : okC u v = true) (t : TypeId) (w : World) : (binOp .add t (.complex .f64 (fl u.re) (fl u.im)) (.complex .f64 (fl v.re) (fl v.im))).run P w = .ok (.complex .f64 (fl (G.add u v).re) (fl (G.add u v).im)) w := by
  obtain ⟨hu, hv⟩ := okC_iff.1 h
  unfold IsS at hu hv
  refine run_complex_sum w .add (Or.inl rfl) t .f64 _ _ _ _ _ _ ?_
  unfold cSumBits
  rw [fl_add (by omega) (by omega) (by omega), Option.bind_some, fl_add (by omega) (by omega) (by omega), Option.bind_some]
  rfl
theorem run_csub {u v : G} (h : okC u v = true) (t : TypeId) (w : World) : (binOp .sub t (.complex .f64 (fl u.re) (fl u.im)) (.complex .f64 (fl v.re) (fl v.im))).run P w = .ok (.complex .f64 (fl (G.sub u v).re) (fl (G.sub u v).im)) w := by
  obtain ⟨hu, hv⟩ := okC_iff.1 h
  unfold IsS at hu hv
  refine run_complex_sum w .sub (Or.inr rfl) t .f64 _ _ _ _ _ _ ?_
  unfold cSumBits
  rw [fl_sub (by omega) (by omega) (by omega), Option.bind_some, fl_sub (by omega) (by omega) (by omega), Option.bind_some]
  rfl
theorem run_fint {n : Int} (h : okF n = true) (src dst : TypeId) (w : World) (hs : (P.underlying src).isSome = true) (hd : P.underlying dst = some (.int .i64)) : (convert src dst (.float .f64 (fl n))).run P w = .ok (.int .i64 n) w := by
  have hb := okF_iff.1 h
  exact run_convert_float_int w src dst .f64 .i64 _ n hs hd (rep_int (rep_fl (by omega)) (by omega) (by omega))
end
theorem fl_one : (4607182418800017408 : Nat) = fl G.one.re := by decide +kernel
theorem fl_zero : (0 : Nat) = fl G.zero.re := by decide +kernel
theorem lit_one : Value.complex .f64 4607182418800017408 0 = .complex .f64 (fl G.one.re) (fl G.one.im) := by
  have h1 : fl G.one.re = 4607182418800017408 := by decide +kernel
  have h2 : fl G.one.im = 0 := by decide +kernel
  rw [h1, h2]
theorem lit_zero : Value.complex .f64 0 0 = .complex .f64 (fl G.zero.re) (fl G.zero.im) := by
  have h1 : fl G.zero.re = 0 := by decide +kernel
  have h2 : fl G.zero.im = 0 := by decide +kernel
  rw [h1, h2]

theorem run_store_cx {P : Program} {w : World} {a : Addr} {m : Mode} (k : FloatKind) (x y : Nat) : (store a (.complex k x y) m).run P w = stored P w a (.complex k x y) m := run_store P w a _ m rfl
theorem tdiv_32 (a : Int) : Int.tdiv 32 a = 32 / a := Int.tdiv_eq_ediv_of_nonneg (by omega)

#print axioms run_cmul
#print axioms run_csub
#print axioms run_fint
end Go.Proofs.Ytkilnknndglmnaa
end

section
-- Laid by given.py, a program of this seat, with the kit's printer.
namespace Go.Proofs.YtkilnknndglmnaaP
open Go.Proofs.Ytkilnknndglmnaa (G fl IsS isSB okC okF okC_iff encC kcx at_cx md red run_cmul run_cadd run_csub run_fint lit_one lit_zero tdiv_32 run_store_cx)
attribute [local go_sem] run_cmul run_cadd run_csub run_fint lit_one lit_zero tdiv_32 run_store_cx
open Go.RowKit Go.Proofs.YtkilnknndglmnaaW.PrintWords Go.Proofs.YtkilnknndglmnaaW.PrintLast Go.Proofs.YtkilnknndglmnaaW.PrintMore
attribute [local go_sem] max2_int min2_int max_two min_two max_three min_three max_four min_four   -- for this text's walks alone
set_option linter.unusedVariables false
set_option linter.unusedSimpArgs false



def errW : Option Int → Value
  | none => .nilIface
  | some c => .iface 0 (.int .i64 c)
theorem errW_none : errW none = .nilIface := rfl
theorem errW_some (c : Int) : errW (some c) = .iface 0 (.int .i64 c) := rfl

theorem info3 : (Try.prog.info? 3).map (fun i => (i.zero, i.size, i.bytes)) = some (some (.int .i64 0), 1, 8) := by kernel_rfl
theorem info26 : (Try.prog.info? 26).map (fun i => (i.zero, i.size, i.bytes)) = some (some (.agg #[(.int .i64 0), (.int .i64 0)]), 2, 16) := by kernel_rfl
theorem info49 : (Try.prog.info? 49).map (fun i => (i.zero, i.size, i.bytes)) = some (some (.agg #[(.int .i64 0), (.string ⟨#[]⟩), (.int .i64 0), (.int .i64 0)]), 4, 40) := by kernel_rfl
theorem info57 : (Try.prog.info? 57).map (fun i => (i.zero, i.size, i.bytes)) = some (some (.complex .f64 0 0), 1, 16) := by kernel_rfl
-- the values' own types
/-! #### struct type 26 -/
structure S26 where
  f0 : Int
  f1 : Int
def z26 : S26 := ⟨(0 : Int), (0 : Int)⟩
def k26 : Kd S26 := Kd.iso (Kd.pair (Kd.int .i64) (Kd.int .i64)) (fun x : S26 => (x.f0, x.f1))
theorem k26_open {w : World} {x : S26} {cs : List Value} (h : k26.K w x cs) : cs = [.int .i64 x.f0, .int .i64 x.f1] := by
  obtain ⟨_, _, rfl, rfl, rfl⟩ := h
  exact rfl
theorem k26_openM {w : World} {base : Nat} {ok : Nat → Prop} {x : S26} {cs : List Value} (h : k26.M w base ok x cs) : cs = [.int .i64 x.f0, .int .i64 x.f1] := by
  obtain ⟨_, _, rfl, rfl, rfl⟩ := h
  exact rfl
theorem k26_mk (w : World) (x : S26)  : k26.K w x [.int .i64 x.f0, .int .i64 x.f1] := ⟨[.int .i64 x.f0], [.int .i64 x.f1], rfl, rfl, rfl⟩
theorem k26_mkM (w : World) (base : Nat) (ok : Nat → Prop) (x : S26)  : k26.M w base ok x [.int .i64 x.f0, .int .i64 x.f1] := ⟨[.int .i64 x.f0], [.int .i64 x.f1], rfl, rfl, rfl⟩
def rd_T26 (xs : List S26) (i : Int) : S26 := xs.getD i.toNat z26
theorem at_T26 {w : World} {A : Option Addr} {n : Nat} {xs : List S26} (h : Kd.C k26 w A n xs) (i : Int) (h0 : 0 ≤ i) (h1 : i < n) : ∃ ad , A = some ad ∧ w.cell? (ad.add (i.toNat * 2)) = some (.int .i64 (rd_T26 xs i).f0) ∧ w.cell? ⟨(ad.add (i.toNat * 2)).block, (ad.add (i.toNat * 2)).off + 1, none⟩ = some (.int .i64 (rd_T26 xs i).f1) := by
  obtain ⟨ad, c, e, _, hK, hc0⟩ := Kd.C_get h z26 i h0 h1
  have hc : ∀ j u, c[j]? = some u → w.cell? (ad.add (i.toNat * 2 + j)) = some u := hc0
  obtain rfl := k26_open hK
  exact ⟨ad, e, hc 0 _ rfl, by rw [← add_field _ _ 1 (by omega)]; exact hc 1 _ rfl⟩

/-! #### struct type 49 -/
structure S49 where
  f0 : Int
  f1 : ByteArray
  f2 : Int
  f3 : Int
def z49 : S49 := ⟨(0 : Int), (⟨#[]⟩ : ByteArray), (0 : Int), (0 : Int)⟩
def k49 : Kd S49 := Kd.iso (Kd.pair (Kd.int .i64) (Kd.pair Kd.string (Kd.pair (Kd.int .i64) (Kd.int .i64)))) (fun x : S49 => (x.f0, x.f1, x.f2, x.f3))
theorem k49_open {w : World} {x : S49} {cs : List Value} (h : k49.K w x cs) : cs = [.int .i64 x.f0, .string x.f1, .int .i64 x.f2, .int .i64 x.f3] := by
  obtain ⟨_, _, rfl, rfl, ⟨_, _, rfl, rfl, ⟨_, _, rfl, rfl, rfl⟩⟩⟩ := h
  exact rfl
theorem k49_openM {w : World} {base : Nat} {ok : Nat → Prop} {x : S49} {cs : List Value} (h : k49.M w base ok x cs) : cs = [.int .i64 x.f0, .string x.f1, .int .i64 x.f2, .int .i64 x.f3] := by
  obtain ⟨_, _, rfl, rfl, ⟨_, _, rfl, rfl, ⟨_, _, rfl, rfl, rfl⟩⟩⟩ := h
  exact rfl
theorem k49_mk (w : World) (x : S49)  : k49.K w x [.int .i64 x.f0, .string x.f1, .int .i64 x.f2, .int .i64 x.f3] := ⟨[.int .i64 x.f0], [.string x.f1, .int .i64 x.f2, .int .i64 x.f3], rfl, rfl, ⟨[.string x.f1], [.int .i64 x.f2, .int .i64 x.f3], rfl, rfl, ⟨[.int .i64 x.f2], [.int .i64 x.f3], rfl, rfl, rfl⟩⟩⟩
theorem k49_mkM (w : World) (base : Nat) (ok : Nat → Prop) (x : S49)  : k49.M w base ok x [.int .i64 x.f0, .string x.f1, .int .i64 x.f2, .int .i64 x.f3] := ⟨[.int .i64 x.f0], [.string x.f1, .int .i64 x.f2, .int .i64 x.f3], rfl, rfl, ⟨[.string x.f1], [.int .i64 x.f2, .int .i64 x.f3], rfl, rfl, ⟨[.int .i64 x.f2], [.int .i64 x.f3], rfl, rfl, rfl⟩⟩⟩
def rd_T49 (xs : List S49) (i : Int) : S49 := xs.getD i.toNat z49
theorem at_T49 {w : World} {A : Option Addr} {n : Nat} {xs : List S49} (h : Kd.C k49 w A n xs) (i : Int) (h0 : 0 ≤ i) (h1 : i < n) : ∃ ad , A = some ad ∧ w.cell? (ad.add (i.toNat * 4)) = some (.int .i64 (rd_T49 xs i).f0) ∧ w.cell? ⟨(ad.add (i.toNat * 4)).block, (ad.add (i.toNat * 4)).off + 1, none⟩ = some (.string (rd_T49 xs i).f1) ∧ w.cell? ⟨(ad.add (i.toNat * 4)).block, (ad.add (i.toNat * 4)).off + 2, none⟩ = some (.int .i64 (rd_T49 xs i).f2) ∧ w.cell? ⟨(ad.add (i.toNat * 4)).block, (ad.add (i.toNat * 4)).off + 3, none⟩ = some (.int .i64 (rd_T49 xs i).f3) := by
  obtain ⟨ad, c, e, _, hK, hc0⟩ := Kd.C_get h z49 i h0 h1
  have hc : ∀ j u, c[j]? = some u → w.cell? (ad.add (i.toNat * 4 + j)) = some u := hc0
  obtain rfl := k49_open hK
  exact ⟨ad, e, hc 0 _ rfl, by rw [← add_field _ _ 1 (by omega)]; exact hc 1 _ rfl, by rw [← add_field _ _ 2 (by omega)]; exact hc 2 _ rfl, by rw [← add_field _ _ 3 (by omega)]; exact hc 3 _ rfl⟩

end Go.Proofs.YtkilnknndglmnaaP
end

section
/- Contracts of package beat's small functions; these and package seal's, told in the form of the functions that a printer tells. -/
namespace Go.Proofs.Ytkilnknndglmnaa
open Go.RowKit

theorem number35_any (a b : Int) (w : World) : Calls Try.prog 35 #[.agg #[.int .i64 a, .int .i64 b]] w fun e w' => e = .returned (.complex .f64 (fl a) (fl b)) ∧ Below w.heap.size w w' := by
  go_enter Try.func35, Try.ntmps35
  go_wp2
  go_ret
  exact ⟨rfl, (Below.refl _ _).alloc (Nat.le_refl _) _⟩

theorem part55_any (n : Int) (w : World) (h1 : -9007199254740992 < n) (h2 : n < 9007199254740992) : Calls Try.prog 55 #[.float .f64 (fl n)] w fun e w' => e = .returned (.float .f64 (fl (md n))) ∧ w = w' := by
  have hi := rep_int (rep_fl (n := n) (by omega)) (by omega) (by omega)
  have hc : ∀ W, (convert 71 3 (.float .f64 (fl n))).run Try.prog W = .ok (.int .i64 n) W := fun W => run_convert_float_int W 71 3 .f64 .i64 (fl n) n (by rw [Try.underlying71]; rfl) Try.underlying3 hi
  have hm := part_num (n := n)
  have hb : -16777199 < n.tmod 16777199 ∧ n.tmod 16777199 < 16777199 := by
    constructor
    · have := Int.lt_tmod_of_pos n (b := 16777199) (by omega); omega
    · exact Int.tmod_lt_of_pos n (by omega)
  generalize hq : n.tmod 16777199 = q at *
  go_enter Try.func55, Try.ntmps55
  go_wp2
  go_ret
  exact ⟨rfl, rfl⟩

theorem rest_any (z : G) (w : World) (h1 : -9007199254740992 < z.re ∧ z.re < 9007199254740992) (h2 : -9007199254740992 < z.im ∧ z.im < 9007199254740992) :
    Calls Try.prog 50 #[.complex .f64 (fl z.re) (fl z.im)] w fun e w' => e = .returned (.complex .f64 (fl (red z).re) (fl (red z).im)) ∧ w = w' := by
  have P1 := hid fun W => part55_any z.re W h1.1 h1.2
  have P2 := hid fun W => part55_any z.im W h2.1 h2.2
  show Calls Try.prog 50 #[.complex .f64 (fl z.re) (fl z.im)] w fun e w' => e = .returned (.complex .f64 (fl (md z.re)) (fl (md z.im))) ∧ w = w'
  clear h1 h2
  generalize md z.re = a at *
  generalize md z.im = b at *
  go_enter Try.func50, Try.ntmps50
  go_wp2_with fail
  refine (P1.out _).mono ?_
  rintro e w1 ⟨rfl, rfl⟩
  go_wp2_with fail
  refine (P2.out _).mono ?_
  rintro e w1 ⟨rfl, rfl⟩
  go_wp2_with fail
  go_ret
  exact ⟨rfl, rfl⟩

/-- Both parts within what is exact. -/
def okG (z : G) : Bool := okF z.re && okF z.im
theorem okG_iff {z : G} : okG z = true ↔ (-9007199254740992 < z.re ∧ z.re < 9007199254740992) ∧ (-9007199254740992 < z.im ∧ z.im < 9007199254740992) := by simp [okG, okF_iff]
end Go.Proofs.Ytkilnknndglmnaa

namespace Go.Proofs.YtkilnknndglmnaaP
open Go.RowKit Go.Proofs.Ytkilnknndglmnaa
set_option linter.unusedVariables false

def seal_number.f (a0_0 : Int) (a0_1 : Int) : Option (G) := some ⟨a0_0, a0_1⟩
theorem seal_number.calls (a0_0 : Int) (a0_1 : Int) (r : G) (w : World) (h : seal_number.f a0_0 a0_1 = some r) :
    Calls Try.prog 40 #[.agg #[.int .i64 a0_0, .int .i64 a0_1]] w fun e w' => e = .returned (.complex .f64 (fl r.re) (fl r.im)) ∧ Below w.heap.size w w' := by
  obtain rfl := Option.some.inj h
  exact number_any a0_0 a0_1 w
def beat_number.f (a0_0 : Int) (a0_1 : Int) : Option (G) := some ⟨a0_0, a0_1⟩
theorem beat_number.calls (a0_0 : Int) (a0_1 : Int) (r : G) (w : World) (h : beat_number.f a0_0 a0_1 = some r) :
    Calls Try.prog 35 #[.agg #[.int .i64 a0_0, .int .i64 a0_1]] w fun e w' => e = .returned (.complex .f64 (fl r.re) (fl r.im)) ∧ Below w.heap.size w w' := by
  obtain rfl := Option.some.inj h
  exact number35_any a0_0 a0_1 w
def seal_seal.f (a0 : G) : Option (Int × Int) := if okG a0 = true then some ((red a0).re, (red a0).im) else none
theorem seal_seal.calls (a0 : G) (r1 : Int) (r2 : Int) (w : World) (h : seal_seal.f a0 = some (r1, r2)) :
    Calls Try.prog 38 #[.complex .f64 (fl a0.re) (fl a0.im)] w fun e w' => e = .returned (.agg #[.int .i64 r1, .int .i64 r2]) ∧ Below w.heap.size w w' := by
  unfold seal_seal.f at h
  split at h
  · rename_i hg
    have hb := okG_iff.1 hg
    have H := Option.some.inj h
    simp only [Prod.mk.injEq] at H
    obtain ⟨rfl, rfl⟩ := H
    exact seal_any _ _ a0 w (rep_fl (by omega)) (rep_fl (by omega)) hb.1 hb.2
  · cases h
def beat_rest.f (a0 : G) : Option (G) := if okG a0 = true then some (red a0) else none
theorem beat_rest.calls (a0 : G) (r : G) (w : World) (h : beat_rest.f a0 = some r) :
    Calls Try.prog 50 #[.complex .f64 (fl a0.re) (fl a0.im)] w fun e w' => e = .returned (.complex .f64 (fl r.re) (fl r.im)) ∧ Below w.heap.size w w' := by
  unfold beat_rest.f at h
  split at h
  · rename_i hg
    have hb := okG_iff.1 hg
    obtain rfl := Option.some.inj h
    exact (rest_any a0 w hb.1 hb.2).mono fun e w' ⟨h1, h2⟩ => ⟨h1, by rw [← h2]; exact Below.refl _ _⟩
  · cases h
def seal_power.f (a0 : G) (a1 : Int) : Option (G) := if isSB a0 = true ∧ 0 ≤ a1 ∧ a1 ≤ 9223372036854775807 then some (red (G.pow a0 a1.toNat)) else none
theorem seal_power.calls (a0 : G) (a1 : Int) (r : G) (w : World) (h : seal_power.f a0 a1 = some r) :
    Calls Try.prog 39 #[.complex .f64 (fl a0.re) (fl a0.im), .int .i64 a1] w fun e w' => e = .returned (.complex .f64 (fl r.re) (fl r.im)) ∧ Below w.heap.size w w' := by
  unfold seal_power.f at h
  split at h
  · rename_i hg
    obtain rfl := Option.some.inj h
    exact power_any a0 a1 w (isSB_iff.1 hg.1) hg.2.1 hg.2.2
  · cases h
end Go.Proofs.YtkilnknndglmnaaP
end

section
-- Laid by given.py, a program of this seat, with the kit's printer.
namespace Go.Proofs.YtkilnknndglmnaaP
open Go.Proofs.Ytkilnknndglmnaa (G fl IsS isSB okC okF okC_iff encC kcx at_cx md red run_cmul run_cadd run_csub run_fint lit_one lit_zero tdiv_32 run_store_cx)
attribute [local go_sem] run_cmul run_cadd run_csub run_fint lit_one lit_zero tdiv_32 run_store_cx
open Go.RowKit Go.Proofs.YtkilnknndglmnaaW.PrintWords Go.Proofs.YtkilnknndglmnaaW.PrintLast Go.Proofs.YtkilnknndglmnaaW.PrintMore
attribute [local go_sem] max2_int min2_int max_two min_two max_three min_three max_four min_four   -- for this text's walks alone
set_option linter.unusedVariables false
set_option linter.unusedSimpArgs false

/-! ### seal_Right: function 37 -/
def seal_Right.f (a0_0 : Int) (a0_1 : Int) : Option (Bool) := if a0_0 ≥ 0 then (if a0_0 < 16777199 then (if a0_1 ≥ 0 then (some (decide (a0_1 < 16777199))) else (some false)) else (some false)) else (some false)
set_option maxHeartbeats 8000000 in
set_option maxRecDepth 100000 in
theorem seal_Right.calls (a0_0 : Int) (a0_1 : Int) (r : Bool) (w : World) (h : seal_Right.f a0_0 a0_1 = some r) :
  Calls Try.prog 37 #[.agg #[.int .i64 a0_0, .int .i64 a0_1]] w fun e w' => e = .returned (.bool r) ∧ Below w.heap.size w w' := by
 have hu26 := Try.underlying26
 have HB := Aside0.mk (Below.refl w.heap.size w)
 have H : (if a0_0 ≥ 0 then (if a0_0 < 16777199 then (if a0_1 ≥ 0 then (some (decide (a0_1 < 16777199))) else (some false)) else (some false)) else (some false)) = some r := h
 clear h
 by_cases c2 : a0_0 ≥ 0
 ·rw [if_pos c2] at H
  have c2b0 : decide (0 ≤ a0_0) = true := decide_eq_true c2
  clear c2
  by_cases c3 : a0_0 < 16777199
  ·rw [if_pos c3] at H
   have c3b0 : decide (a0_0 < 16777199) = true := decide_eq_true c3
   clear c3
   by_cases c4 : a0_1 ≥ 0
   ·rw [if_pos c4] at H
    have c4b0 : decide (0 ≤ a0_1) = true := decide_eq_true c4
    clear c4
    obtain rfl := Option.some.inj H
    go_enter Try.func37, Try.ntmps37
    go_wp2_with (first | ((with_reducible refine gate_dst (N := 1) rfl ?_); refine box_event ?hg (N := 1) ?hd (cs := #[.int .i64 a0_0, .int .i64 a0_1]) (t := 26) ?hr ?_; (case hd => rfl); (case hg => rfl); (case hr => first | (go_simp; done) | (go_simp; rfl)); intro gb101 hg w5 hbox hb; have n0_ := Aside0.mk (below_step (by repeat (first | (with_reducible first | exact HB.out | apply below_alloc | apply pw_below_drewN | apply below_drew1) | exact HB.out)) hb); have n1_ := Aside0.mk (hbox); have n2_ := Aside0.mk ((by rw [hg]; exact (below_size (by repeat (first | (with_reducible first | exact HB.out | apply below_alloc | apply pw_below_drewN | apply below_drew1) | exact HB.out))) : w.heap.size ≤ gb101)); have n3_ := Aside0.mk ((by rw [hg]; exact (below_size (by repeat (first | (with_reducible first | exact HB.out | apply below_alloc | apply pw_below_drewN | apply below_drew1) | exact HB.out))) : w.heap.size ≤ gb101)); clear HB; have HB := n0_; have BK101 := n1_; have GW101 := n2_; have GE101 := n3_; clear n0_ n1_ n2_ n3_; clear hb hbox hg; have hcz6_0 : w5.cell? ⟨gb101, 0, none⟩ = some (.int .i64 a0_0) := (blk_cell BK101.out 0).trans rfl; have hcz6_1 : w5.cell? ⟨gb101, 1, none⟩ = some (.int .i64 a0_1) := (blk_cell BK101.out 1).trans rfl; have hfz6_0 := blk_frozen BK101.out 0; have hfz6_1 := blk_frozen BK101.out 1))
    go_ret
    exact ⟨by first | rfl | (simp [errW_none, errW_some] <;> rfl) | (simp [*, errW_none, errW_some] <;> rfl), by repeat (first | (with_reducible first | exact HB.out | apply below_alloc | apply pw_below_drewN | apply below_drew1 | refine below_set ?_ GE101.out) | exact HB.out)⟩
   ·rw [if_neg c4] at H
    have c4b0 : decide (0 ≤ a0_1) = false := decide_eq_false c4
    clear c4
    obtain rfl := Option.some.inj H
    go_enter Try.func37, Try.ntmps37
    go_wp2_with (first | ((with_reducible refine gate_dst (N := 1) rfl ?_); refine box_event ?hg (N := 1) ?hd (cs := #[.int .i64 a0_0, .int .i64 a0_1]) (t := 26) ?hr ?_; (case hd => rfl); (case hg => rfl); (case hr => first | (go_simp; done) | (go_simp; rfl)); intro gb101 hg w7 hbox hb; have n0_ := Aside0.mk (below_step (by repeat (first | (with_reducible first | exact HB.out | apply below_alloc | apply pw_below_drewN | apply below_drew1) | exact HB.out)) hb); have n1_ := Aside0.mk (hbox); have n2_ := Aside0.mk ((by rw [hg]; exact (below_size (by repeat (first | (with_reducible first | exact HB.out | apply below_alloc | apply pw_below_drewN | apply below_drew1) | exact HB.out))) : w.heap.size ≤ gb101)); have n3_ := Aside0.mk ((by rw [hg]; exact (below_size (by repeat (first | (with_reducible first | exact HB.out | apply below_alloc | apply pw_below_drewN | apply below_drew1) | exact HB.out))) : w.heap.size ≤ gb101)); clear HB; have HB := n0_; have BK101 := n1_; have GW101 := n2_; have GE101 := n3_; clear n0_ n1_ n2_ n3_; clear hb hbox hg; have hcz8_0 : w7.cell? ⟨gb101, 0, none⟩ = some (.int .i64 a0_0) := (blk_cell BK101.out 0).trans rfl; have hcz8_1 : w7.cell? ⟨gb101, 1, none⟩ = some (.int .i64 a0_1) := (blk_cell BK101.out 1).trans rfl; have hfz8_0 := blk_frozen BK101.out 0; have hfz8_1 := blk_frozen BK101.out 1))
    go_ret
    exact ⟨by first | rfl | (simp [errW_none, errW_some] <;> rfl) | (simp [*, errW_none, errW_some] <;> rfl), by repeat (first | (with_reducible first | exact HB.out | apply below_alloc | apply pw_below_drewN | apply below_drew1 | refine below_set ?_ GE101.out) | exact HB.out)⟩
  ·rw [if_neg c3] at H
   have c3b0 : decide (a0_0 < 16777199) = false := decide_eq_false c3
   clear c3
   obtain rfl := Option.some.inj H
   go_enter Try.func37, Try.ntmps37
   go_wp2_with (first | ((with_reducible refine gate_dst (N := 1) rfl ?_); refine box_event ?hg (N := 1) ?hd (cs := #[.int .i64 a0_0, .int .i64 a0_1]) (t := 26) ?hr ?_; (case hd => rfl); (case hg => rfl); (case hr => first | (go_simp; done) | (go_simp; rfl)); intro gb101 hg w9 hbox hb; have n0_ := Aside0.mk (below_step (by repeat (first | (with_reducible first | exact HB.out | apply below_alloc | apply pw_below_drewN | apply below_drew1) | exact HB.out)) hb); have n1_ := Aside0.mk (hbox); have n2_ := Aside0.mk ((by rw [hg]; exact (below_size (by repeat (first | (with_reducible first | exact HB.out | apply below_alloc | apply pw_below_drewN | apply below_drew1) | exact HB.out))) : w.heap.size ≤ gb101)); have n3_ := Aside0.mk ((by rw [hg]; exact (below_size (by repeat (first | (with_reducible first | exact HB.out | apply below_alloc | apply pw_below_drewN | apply below_drew1) | exact HB.out))) : w.heap.size ≤ gb101)); clear HB; have HB := n0_; have BK101 := n1_; have GW101 := n2_; have GE101 := n3_; clear n0_ n1_ n2_ n3_; clear hb hbox hg; have hcz10_0 : w9.cell? ⟨gb101, 0, none⟩ = some (.int .i64 a0_0) := (blk_cell BK101.out 0).trans rfl; have hcz10_1 : w9.cell? ⟨gb101, 1, none⟩ = some (.int .i64 a0_1) := (blk_cell BK101.out 1).trans rfl; have hfz10_0 := blk_frozen BK101.out 0; have hfz10_1 := blk_frozen BK101.out 1))
   go_ret
   exact ⟨by first | rfl | (simp [errW_none, errW_some] <;> rfl) | (simp [*, errW_none, errW_some] <;> rfl), by repeat (first | (with_reducible first | exact HB.out | apply below_alloc | apply pw_below_drewN | apply below_drew1 | refine below_set ?_ GE101.out) | exact HB.out)⟩
 ·rw [if_neg c2] at H
  have c2b0 : decide (0 ≤ a0_0) = false := decide_eq_false c2
  clear c2
  obtain rfl := Option.some.inj H
  go_enter Try.func37, Try.ntmps37
  go_wp2_with (first | ((with_reducible refine gate_dst (N := 1) rfl ?_); refine box_event ?hg (N := 1) ?hd (cs := #[.int .i64 a0_0, .int .i64 a0_1]) (t := 26) ?hr ?_; (case hd => rfl); (case hg => rfl); (case hr => first | (go_simp; done) | (go_simp; rfl)); intro gb101 hg w11 hbox hb; have n0_ := Aside0.mk (below_step (by repeat (first | (with_reducible first | exact HB.out | apply below_alloc | apply pw_below_drewN | apply below_drew1) | exact HB.out)) hb); have n1_ := Aside0.mk (hbox); have n2_ := Aside0.mk ((by rw [hg]; exact (below_size (by repeat (first | (with_reducible first | exact HB.out | apply below_alloc | apply pw_below_drewN | apply below_drew1) | exact HB.out))) : w.heap.size ≤ gb101)); have n3_ := Aside0.mk ((by rw [hg]; exact (below_size (by repeat (first | (with_reducible first | exact HB.out | apply below_alloc | apply pw_below_drewN | apply below_drew1) | exact HB.out))) : w.heap.size ≤ gb101)); clear HB; have HB := n0_; have BK101 := n1_; have GW101 := n2_; have GE101 := n3_; clear n0_ n1_ n2_ n3_; clear hb hbox hg; have hcz12_0 : w11.cell? ⟨gb101, 0, none⟩ = some (.int .i64 a0_0) := (blk_cell BK101.out 0).trans rfl; have hcz12_1 : w11.cell? ⟨gb101, 1, none⟩ = some (.int .i64 a0_1) := (blk_cell BK101.out 1).trans rfl; have hfz12_0 := blk_frozen BK101.out 0; have hfz12_1 := blk_frozen BK101.out 1))
  go_ret
  exact ⟨by first | rfl | (simp [errW_none, errW_some] <;> rfl) | (simp [*, errW_none, errW_some] <;> rfl), by repeat (first | (with_reducible first | exact HB.out | apply below_alloc | apply pw_below_drewN | apply below_drew1 | refine below_set ?_ GE101.out) | exact HB.out)⟩

/-! ### seal_Power: function 14 -/
def seal_Power.f (a0_0 : Int) (a0_1 : Int) (a1 : Int) : Option (Int × Int × Int) := (seal_Right.f a0_0 a0_1).bind fun t104 => (if t104 = true then (if a1 < 0 then (some (0, 0, 1)) else ((seal_number.f a0_0 a0_1).bind fun t105 => ((seal_power.f t105 a1).bind fun t106 => ((seal_seal.f t106).bind fun bt107 => (some (bt107.1, bt107.2, 0)))))) else (some (0, 0, 20)))
set_option maxHeartbeats 8000000 in
set_option maxRecDepth 100000 in
theorem seal_Power.calls (a0_0 : Int) (a0_1 : Int) (a1 : Int) (r1 : Int) (r2 : Int) (r3 : Int) (w : World) (h : seal_Power.f a0_0 a0_1 a1 = some (r1, r2, r3)) :
  Calls Try.prog 14 #[.agg #[.int .i64 a0_0, .int .i64 a0_1], .int .i64 a1] w fun e w' => e = .returned (.tuple #[.agg #[.int .i64 r1, .int .i64 r2], .int .i64 r3]) ∧ Below w.heap.size w w' := by
 have hu26 := Try.underlying26
 have HB := Aside0.mk (Below.refl w.heap.size w)
 have H : ((seal_Right.f a0_0 a0_1).bind fun t104 => (if t104 = true then (if a1 < 0 then (some (0, 0, 1)) else ((seal_number.f a0_0 a0_1).bind fun t105 => ((seal_power.f t105 a1).bind fun t106 => ((seal_seal.f t106).bind fun bt107 => (some (bt107.1, bt107.2, 0)))))) else (some (0, 0, 20)))) = some (r1, r2, r3) := h
 clear h
 replace H := Option.bind_eq_some_iff.mp H
 obtain ⟨t104, A30, H⟩ := H
 replace H : (if t104 = true then (if a1 < 0 then (some (0, 0, 1)) else ((seal_number.f a0_0 a0_1).bind fun t105 => ((seal_power.f t105 a1).bind fun t106 => ((seal_seal.f t106).bind fun bt107 => (some (bt107.1, bt107.2, 0)))))) else (some (0, 0, 20))) = some (r1, r2, r3) := H
 have A3 := Aside0.mk A30
 clear A30
 by_cases c4 : t104 = true
 ·subst c4
  have H1 : (if a1 < 0 then (some (0, 0, 1)) else ((seal_number.f a0_0 a0_1).bind fun t105 => ((seal_power.f t105 a1).bind fun t106 => ((seal_seal.f t106).bind fun bt107 => (some (bt107.1, bt107.2, 0)))))) = some (r1, r2, r3) := by rw [if_pos rfl] at H; exact H
  clear H
  have H := H1
  clear H1
  by_cases c5 : a1 < 0
  ·rw [if_pos c5] at H
   have c5b0 : decide (a1 < 0) = true := decide_eq_true c5
   clear c5
   simp only [Option.some.injEq, Prod.mk.injEq] at H
   obtain ⟨rfl, rfl, rfl⟩ := H
   go_enter Try.func14, Try.ntmps14
   go_wp2_with (first | ((with_reducible refine gate_dst (N := 2) rfl ?_); refine box_event ?hg (N := 2) ?hd (cs := #[.int .i64 a0_0, .int .i64 a0_1]) (t := 26) ?hr ?_; (case hd => rfl); (case hg => rfl); (case hr => first | (go_simp; done) | (go_simp; rfl)); intro gb102 hg w6 hbox hb; have n0_ := Aside0.mk (below_step (by repeat (first | (with_reducible first | exact HB.out | apply below_alloc | apply pw_below_drewN | apply below_drew1) | exact HB.out)) hb); have n1_ := Aside0.mk (hbox); have n2_ := Aside0.mk ((by rw [hg]; exact (below_size (by repeat (first | (with_reducible first | exact HB.out | apply below_alloc | apply pw_below_drewN | apply below_drew1) | exact HB.out))) : w.heap.size ≤ gb102)); have n3_ := Aside0.mk ((by rw [hg]; exact (below_size (by repeat (first | (with_reducible first | exact HB.out | apply below_alloc | apply pw_below_drewN | apply below_drew1) | exact HB.out))) : w.heap.size ≤ gb102)); clear HB; have HB := n0_; have BK102 := n1_; have GW102 := n2_; have GE102 := n3_; clear n0_ n1_ n2_ n3_; clear hb hbox hg) | ((with_reducible refine gate_dst (N := 4) rfl ?_); refine box_event ?hg (N := 4) ?hd (cs := #[.int .i64 0, .int .i64 0]) (t := 26) ?hr ?_; (case hd => rfl); (case hg => rfl); (case hr => first | (go_simp; done) | (go_simp; rfl)); intro gb103 hg w7 hbox hb; have n0_ := Aside0.mk (blk_below (g := gb102) (o := .cells #[.int .i64 a0_0, .int .i64 a0_1] 26 (0, 0)) (by (with_reducible repeat (first | refine blk_drewN ?_ _ | refine blk_drew ?_ | refine blk_alloc ?_ _)); exact BK102.out) hb); have n1_ := Aside0.mk (below_step (by repeat (first | (with_reducible first | exact HB.out | apply below_alloc | apply pw_below_drewN | apply below_drew1 | refine below_set ?_ GE102.out) | exact HB.out)) hb); have n2_ := Aside0.mk (hbox); have n3_ := Aside0.mk ((by rw [hg]; exact (below_size (by repeat (first | (with_reducible first | exact HB.out | apply below_alloc | apply pw_below_drewN | apply below_drew1 | refine below_set ?_ GE102.out) | exact HB.out))) : w.heap.size ≤ gb103)); have n4_ := Aside0.mk ((by rw [hg]; exact (below_size (by repeat (first | (with_reducible first | exact HB.out | apply below_alloc | apply pw_below_drewN | apply below_drew1 | refine below_set ?_ GE102.out) | exact HB.out))) : w.heap.size ≤ gb103)); have n5_ := Aside0.mk ((by rw [hg]; exact Nat.ne_of_lt (blk_lt (g := gb102) (o := .cells #[.int .i64 a0_0, .int .i64 a0_1] 26 (0, 0)) (by (with_reducible repeat (first | refine blk_drewN ?_ _ | refine blk_drew ?_ | refine blk_alloc ?_ _)); exact BK102.out)) : gb102 ≠ gb103)); have n6_ := Aside0.mk ((by rw [hg]; exact Nat.ne_of_gt (blk_lt (g := gb102) (o := .cells #[.int .i64 a0_0, .int .i64 a0_1] 26 (0, 0)) (by (with_reducible repeat (first | refine blk_drewN ?_ _ | refine blk_drew ?_ | refine blk_alloc ?_ _)); exact BK102.out)) : gb103 ≠ gb102)); clear BK102; clear HB; have BK102 := n0_; have HB := n1_; have BK103 := n2_; have GW103 := n3_; have GE103 := n4_; have NB102_103 := n5_; have NB103_102 := n6_; clear n0_ n1_ n2_ n3_ n4_ n5_ n6_; clear hb hbox hg; have hnb8 := NB102_103.out; have hnc8 := NB103_102.out; have hcz9_0 : w7.cell? ⟨gb102, 0, none⟩ = some (.int .i64 a0_0) := (blk_cell BK102.out 0).trans rfl; have hcz9_1 : w7.cell? ⟨gb102, 1, none⟩ = some (.int .i64 a0_1) := (blk_cell BK102.out 1).trans rfl; have hfz9_0 := blk_frozen BK102.out 0; have hfz9_1 := blk_frozen BK102.out 1) | ((with_reducible refine gate_callee (f := 37) rfl ?_); refine goesL_ (some 7) rfl rfl Try.func37 (by kernel_rfl) rfl #[.agg #[.int .i64 a0_0, .int .i64 a0_1]] rfl (by (try simp only [List.map_toArray, List.map_cons, List.map_nil]); first | done | rfl | (simp only [List.length_drop, List.length_take]; rfl)) ?_; (with_reducible refine (seal_Right.calls a0_0 a0_1 true _ A3.out).mono ?_); rintro e w10 ⟨rfl, hb⟩; refine ⟨_, rfl, ?_⟩; have n0_ := Aside0.mk (blk_below (g := gb102) (o := .cells #[.int .i64 a0_0, .int .i64 a0_1] 26 (0, 0)) (by (with_reducible repeat (first | refine blk_drewN ?_ _ | refine blk_drew ?_ | refine blk_alloc ?_ _)); exact BK102.out) hb); have n1_ := Aside0.mk (blk_below (g := gb103) (o := .cells #[.int .i64 0, .int .i64 0] 26 (0, 0)) (by (with_reducible repeat (first | refine blk_drewN ?_ _ | refine blk_drew ?_ | refine blk_alloc ?_ _)); exact BK103.out) hb); have n2_ := Aside0.mk (below_step (by repeat (first | (with_reducible first | exact HB.out | apply below_alloc | apply pw_below_drewN | apply below_drew1 | refine below_set ?_ GE102.out | refine below_set ?_ GE103.out) | exact HB.out)) hb); clear BK102; clear BK103; clear HB; have BK102 := n0_; have BK103 := n1_; have HB := n2_; clear n0_ n1_ n2_; (try clear hb); (try clear hb2); (try clear hk); (try clear hi); have hcz11_0 : w10.cell? ⟨gb103, 0, none⟩ = some (.int .i64 0) := (blk_cell BK103.out 0).trans rfl; have hcz11_1 : w10.cell? ⟨gb103, 1, none⟩ = some (.int .i64 0) := (blk_cell BK103.out 1).trans rfl; have hfz11_0 := blk_frozen BK103.out 0; have hfz11_1 := blk_frozen BK103.out 1))
   refine bodyPost_ret (results_ct rfl _ _ gb103 26 #[.int .i64 0, .int .i64 0] (0, 0) _ rfl (by (with_reducible repeat (first | refine blk_drewN ?_ _ | refine blk_drew ?_ | refine blk_alloc ?_ _)); refine blk_put (cs := #[.int .i64 0, .int .i64 0]) ?_ 1 _ rfl; (with_reducible repeat (first | refine blk_drewN ?_ _ | refine blk_drew ?_ | refine blk_alloc ?_ _)); refine blk_put (cs := #[.int .i64 0, .int .i64 0]) ?_ 0 _ rfl; (with_reducible repeat (first | refine blk_drewN ?_ _ | refine blk_drew ?_ | refine blk_alloc ?_ _)); exact BK103.out) Try.underlying26 rfl (by kernel_rfl)) rfl ?_
   exact ⟨by first | rfl | (simp [errW_none, errW_some] <;> rfl) | (simp [*, errW_none, errW_some] <;> rfl), by repeat (first | (with_reducible first | exact HB.out | apply below_alloc | apply pw_below_drewN | apply below_drew1 | refine below_set ?_ GE102.out | refine below_set ?_ GE103.out) | exact HB.out)⟩
  ·rw [if_neg c5] at H
   have c5b0 : decide (a1 < 0) = false := decide_eq_false c5
   clear c5
   replace H := Option.bind_eq_some_iff.mp H
   obtain ⟨t105, A120, H⟩ := H
   replace H : ((seal_power.f t105 a1).bind fun t106 => ((seal_seal.f t106).bind fun bt107 => (some (bt107.1, bt107.2, 0)))) = some (r1, r2, r3) := H
   have A12 := Aside0.mk A120
   clear A120
   replace H := Option.bind_eq_some_iff.mp H
   obtain ⟨t106, A130, H⟩ := H
   replace H : ((seal_seal.f t106).bind fun bt107 => (some (bt107.1, bt107.2, 0))) = some (r1, r2, r3) := H
   have A13 := Aside0.mk A130
   clear A130
   replace H := Option.bind_eq_some_iff.mp H
   obtain ⟨⟨t107, t108⟩, A140, H⟩ := H
   replace H : (some (t107, t108, 0)) = some (r1, r2, r3) := H
   have A14 := Aside0.mk A140
   clear A140
   simp only [Option.some.injEq, Prod.mk.injEq] at H
   obtain ⟨rfl, rfl, rfl⟩ := H
   go_enter Try.func14, Try.ntmps14
   go_wp2_with (first | ((with_reducible refine gate_dst (N := 2) rfl ?_); refine box_event ?hg (N := 2) ?hd (cs := #[.int .i64 a0_0, .int .i64 a0_1]) (t := 26) ?hr ?_; (case hd => rfl); (case hg => rfl); (case hr => first | (go_simp; done) | (go_simp; rfl)); intro gb102 hg w15 hbox hb; have n0_ := Aside0.mk (below_step (by repeat (first | (with_reducible first | exact HB.out | apply below_alloc | apply pw_below_drewN | apply below_drew1) | exact HB.out)) hb); have n1_ := Aside0.mk (hbox); have n2_ := Aside0.mk ((by rw [hg]; exact (below_size (by repeat (first | (with_reducible first | exact HB.out | apply below_alloc | apply pw_below_drewN | apply below_drew1) | exact HB.out))) : w.heap.size ≤ gb102)); have n3_ := Aside0.mk ((by rw [hg]; exact (below_size (by repeat (first | (with_reducible first | exact HB.out | apply below_alloc | apply pw_below_drewN | apply below_drew1) | exact HB.out))) : w.heap.size ≤ gb102)); clear HB; have HB := n0_; have BK102 := n1_; have GW102 := n2_; have GE102 := n3_; clear n0_ n1_ n2_ n3_; clear hb hbox hg) | ((with_reducible refine gate_dst (N := 4) rfl ?_); refine box_event ?hg (N := 4) ?hd (cs := #[.int .i64 0, .int .i64 0]) (t := 26) ?hr ?_; (case hd => rfl); (case hg => rfl); (case hr => first | (go_simp; done) | (go_simp; rfl)); intro gb103 hg w16 hbox hb; have n0_ := Aside0.mk (blk_below (g := gb102) (o := .cells #[.int .i64 a0_0, .int .i64 a0_1] 26 (0, 0)) (by (with_reducible repeat (first | refine blk_drewN ?_ _ | refine blk_drew ?_ | refine blk_alloc ?_ _)); exact BK102.out) hb); have n1_ := Aside0.mk (below_step (by repeat (first | (with_reducible first | exact HB.out | apply below_alloc | apply pw_below_drewN | apply below_drew1 | refine below_set ?_ GE102.out) | exact HB.out)) hb); have n2_ := Aside0.mk (hbox); have n3_ := Aside0.mk ((by rw [hg]; exact (below_size (by repeat (first | (with_reducible first | exact HB.out | apply below_alloc | apply pw_below_drewN | apply below_drew1 | refine below_set ?_ GE102.out) | exact HB.out))) : w.heap.size ≤ gb103)); have n4_ := Aside0.mk ((by rw [hg]; exact (below_size (by repeat (first | (with_reducible first | exact HB.out | apply below_alloc | apply pw_below_drewN | apply below_drew1 | refine below_set ?_ GE102.out) | exact HB.out))) : w.heap.size ≤ gb103)); have n5_ := Aside0.mk ((by rw [hg]; exact Nat.ne_of_lt (blk_lt (g := gb102) (o := .cells #[.int .i64 a0_0, .int .i64 a0_1] 26 (0, 0)) (by (with_reducible repeat (first | refine blk_drewN ?_ _ | refine blk_drew ?_ | refine blk_alloc ?_ _)); exact BK102.out)) : gb102 ≠ gb103)); have n6_ := Aside0.mk ((by rw [hg]; exact Nat.ne_of_gt (blk_lt (g := gb102) (o := .cells #[.int .i64 a0_0, .int .i64 a0_1] 26 (0, 0)) (by (with_reducible repeat (first | refine blk_drewN ?_ _ | refine blk_drew ?_ | refine blk_alloc ?_ _)); exact BK102.out)) : gb103 ≠ gb102)); clear BK102; clear HB; have BK102 := n0_; have HB := n1_; have BK103 := n2_; have GW103 := n3_; have GE103 := n4_; have NB102_103 := n5_; have NB103_102 := n6_; clear n0_ n1_ n2_ n3_ n4_ n5_ n6_; clear hb hbox hg; have hnb17 := NB102_103.out; have hnc17 := NB103_102.out; have hcz18_0 : w16.cell? ⟨gb102, 0, none⟩ = some (.int .i64 a0_0) := (blk_cell BK102.out 0).trans rfl; have hcz18_1 : w16.cell? ⟨gb102, 1, none⟩ = some (.int .i64 a0_1) := (blk_cell BK102.out 1).trans rfl; have hfz18_0 := blk_frozen BK102.out 0; have hfz18_1 := blk_frozen BK102.out 1) | ((with_reducible refine gate_callee (f := 37) rfl ?_); refine goesL_ (some 7) rfl rfl Try.func37 (by kernel_rfl) rfl #[.agg #[.int .i64 a0_0, .int .i64 a0_1]] rfl (by (try simp only [List.map_toArray, List.map_cons, List.map_nil]); first | done | rfl | (simp only [List.length_drop, List.length_take]; rfl)) ?_; (with_reducible refine (seal_Right.calls a0_0 a0_1 true _ A3.out).mono ?_); rintro e w19 ⟨rfl, hb⟩; refine ⟨_, rfl, ?_⟩; have n0_ := Aside0.mk (blk_below (g := gb102) (o := .cells #[.int .i64 a0_0, .int .i64 a0_1] 26 (0, 0)) (by (with_reducible repeat (first | refine blk_drewN ?_ _ | refine blk_drew ?_ | refine blk_alloc ?_ _)); exact BK102.out) hb); have n1_ := Aside0.mk (blk_below (g := gb103) (o := .cells #[.int .i64 0, .int .i64 0] 26 (0, 0)) (by (with_reducible repeat (first | refine blk_drewN ?_ _ | refine blk_drew ?_ | refine blk_alloc ?_ _)); exact BK103.out) hb); have n2_ := Aside0.mk (below_step (by repeat (first | (with_reducible first | exact HB.out | apply below_alloc | apply pw_below_drewN | apply below_drew1 | refine below_set ?_ GE102.out | refine below_set ?_ GE103.out) | exact HB.out)) hb); clear BK102; clear BK103; clear HB; have BK102 := n0_; have BK103 := n1_; have HB := n2_; clear n0_ n1_ n2_; (try clear hb); (try clear hb2); (try clear hk); (try clear hi); have hcz20_0 : w19.cell? ⟨gb102, 0, none⟩ = some (.int .i64 a0_0) := (blk_cell BK102.out 0).trans rfl; have hcz20_1 : w19.cell? ⟨gb102, 1, none⟩ = some (.int .i64 a0_1) := (blk_cell BK102.out 1).trans rfl; have hfz20_0 := blk_frozen BK102.out 0; have hfz20_1 := blk_frozen BK102.out 1) | ((with_reducible refine gate_callee (f := 40) rfl ?_); refine goesL_ (some 14) rfl rfl Try.func40 (by kernel_rfl) rfl #[.agg #[.int .i64 a0_0, .int .i64 a0_1]] rfl (by (try simp only [List.map_toArray, List.map_cons, List.map_nil]); first | done | rfl | (simp only [List.length_drop, List.length_take]; rfl)) ?_; (with_reducible refine (seal_number.calls a0_0 a0_1 t105 _ A12.out).mono ?_); rintro e w21 ⟨rfl, hb⟩; refine ⟨_, rfl, ?_⟩; have n0_ := Aside0.mk (blk_below (g := gb102) (o := .cells #[.int .i64 a0_0, .int .i64 a0_1] 26 (0, 0)) (by (with_reducible repeat (first | refine blk_drewN ?_ _ | refine blk_drew ?_ | refine blk_alloc ?_ _)); exact BK102.out) hb); have n1_ := Aside0.mk (blk_below (g := gb103) (o := .cells #[.int .i64 0, .int .i64 0] 26 (0, 0)) (by (with_reducible repeat (first | refine blk_drewN ?_ _ | refine blk_drew ?_ | refine blk_alloc ?_ _)); exact BK103.out) hb); have n2_ := Aside0.mk (below_step (by repeat (first | (with_reducible first | exact HB.out | apply below_alloc | apply pw_below_drewN | apply below_drew1 | refine below_set ?_ GE102.out | refine below_set ?_ GE103.out) | exact HB.out)) hb); clear BK102; clear BK103; clear HB; have BK102 := n0_; have BK103 := n1_; have HB := n2_; clear n0_ n1_ n2_; (try clear hb); (try clear hb2); (try clear hk); (try clear hi)) | ((with_reducible refine gate_callee (f := 39) rfl ?_); refine goesL_ (some 16) rfl rfl Try.func39 (by kernel_rfl) rfl #[.complex .f64 (fl t105.re) (fl t105.im), .int .i64 a1] rfl (by (try simp only [List.map_toArray, List.map_cons, List.map_nil]); first | done | rfl | (simp only [List.length_drop, List.length_take]; rfl)) ?_; (with_reducible refine (seal_power.calls t105 a1 t106 _ A13.out).mono ?_); rintro e w22 ⟨rfl, hb⟩; refine ⟨_, rfl, ?_⟩; have n0_ := Aside0.mk (blk_below (g := gb102) (o := .cells #[.int .i64 a0_0, .int .i64 a0_1] 26 (0, 0)) (by (with_reducible repeat (first | refine blk_drewN ?_ _ | refine blk_drew ?_ | refine blk_alloc ?_ _)); exact BK102.out) hb); have n1_ := Aside0.mk (blk_below (g := gb103) (o := .cells #[.int .i64 0, .int .i64 0] 26 (0, 0)) (by (with_reducible repeat (first | refine blk_drewN ?_ _ | refine blk_drew ?_ | refine blk_alloc ?_ _)); exact BK103.out) hb); have n2_ := Aside0.mk (below_step (by repeat (first | (with_reducible first | exact HB.out | apply below_alloc | apply pw_below_drewN | apply below_drew1 | refine below_set ?_ GE102.out | refine below_set ?_ GE103.out) | exact HB.out)) hb); clear BK102; clear BK103; clear HB; have BK102 := n0_; have BK103 := n1_; have HB := n2_; clear n0_ n1_ n2_; (try clear hb); (try clear hb2); (try clear hk); (try clear hi)) | ((with_reducible refine gate_callee (f := 38) rfl ?_); refine goesL_ (some 17) rfl rfl Try.func38 (by kernel_rfl) rfl #[.complex .f64 (fl t106.re) (fl t106.im)] rfl (by (try simp only [List.map_toArray, List.map_cons, List.map_nil]); first | done | rfl | (simp only [List.length_drop, List.length_take]; rfl)) ?_; (with_reducible refine (seal_seal.calls t106 t107 t108 _ A14.out).mono ?_); rintro e w23 ⟨rfl, hb⟩; refine ⟨_, rfl, ?_⟩; have n0_ := Aside0.mk (blk_below (g := gb102) (o := .cells #[.int .i64 a0_0, .int .i64 a0_1] 26 (0, 0)) (by (with_reducible repeat (first | refine blk_drewN ?_ _ | refine blk_drew ?_ | refine blk_alloc ?_ _)); exact BK102.out) hb); have n1_ := Aside0.mk (blk_below (g := gb103) (o := .cells #[.int .i64 0, .int .i64 0] 26 (0, 0)) (by (with_reducible repeat (first | refine blk_drewN ?_ _ | refine blk_drew ?_ | refine blk_alloc ?_ _)); exact BK103.out) hb); have n2_ := Aside0.mk (below_step (by repeat (first | (with_reducible first | exact HB.out | apply below_alloc | apply pw_below_drewN | apply below_drew1 | refine below_set ?_ GE102.out | refine below_set ?_ GE103.out) | exact HB.out)) hb); clear BK102; clear BK103; clear HB; have BK102 := n0_; have BK103 := n1_; have HB := n2_; clear n0_ n1_ n2_; (try clear hb); (try clear hb2); (try clear hk); (try clear hi); have hcz24_0 : w23.cell? ⟨gb103, 0, none⟩ = some (.int .i64 0) := (blk_cell BK103.out 0).trans rfl; have hcz24_1 : w23.cell? ⟨gb103, 1, none⟩ = some (.int .i64 0) := (blk_cell BK103.out 1).trans rfl; have hfz24_0 := blk_frozen BK103.out 0; have hfz24_1 := blk_frozen BK103.out 1))
   refine bodyPost_ret (results_ct rfl _ _ gb103 26 #[.int .i64 t107, .int .i64 t108] (0, 0) _ rfl (by (with_reducible repeat (first | refine blk_drewN ?_ _ | refine blk_drew ?_ | refine blk_alloc ?_ _)); refine blk_put (cs := #[.int .i64 t107, .int .i64 0]) ?_ 1 _ rfl; (with_reducible repeat (first | refine blk_drewN ?_ _ | refine blk_drew ?_ | refine blk_alloc ?_ _)); refine blk_put (cs := #[.int .i64 0, .int .i64 0]) ?_ 0 _ rfl; (with_reducible repeat (first | refine blk_drewN ?_ _ | refine blk_drew ?_ | refine blk_alloc ?_ _)); exact BK103.out) Try.underlying26 rfl (by kernel_rfl)) rfl ?_
   exact ⟨by first | rfl | (simp [errW_none, errW_some] <;> rfl) | (simp [*, errW_none, errW_some] <;> rfl), by repeat (first | (with_reducible first | exact HB.out | apply below_alloc | apply pw_below_drewN | apply below_drew1 | refine below_set ?_ GE102.out | refine below_set ?_ GE103.out) | exact HB.out)⟩
 ·replace c4 := Bool.eq_false_iff.mpr c4
  subst c4
  have H1 : (some (0, 0, 20)) = some (r1, r2, r3) := by rw [if_neg (show ¬ (false = true) by decide)] at H; exact H
  clear H
  have H := H1
  clear H1
  simp only [Option.some.injEq, Prod.mk.injEq] at H
  obtain ⟨rfl, rfl, rfl⟩ := H
  go_enter Try.func14, Try.ntmps14
  go_wp2_with (first | ((with_reducible refine gate_dst (N := 2) rfl ?_); refine box_event ?hg (N := 2) ?hd (cs := #[.int .i64 a0_0, .int .i64 a0_1]) (t := 26) ?hr ?_; (case hd => rfl); (case hg => rfl); (case hr => first | (go_simp; done) | (go_simp; rfl)); intro gb102 hg w25 hbox hb; have n0_ := Aside0.mk (below_step (by repeat (first | (with_reducible first | exact HB.out | apply below_alloc | apply pw_below_drewN | apply below_drew1) | exact HB.out)) hb); have n1_ := Aside0.mk (hbox); have n2_ := Aside0.mk ((by rw [hg]; exact (below_size (by repeat (first | (with_reducible first | exact HB.out | apply below_alloc | apply pw_below_drewN | apply below_drew1) | exact HB.out))) : w.heap.size ≤ gb102)); have n3_ := Aside0.mk ((by rw [hg]; exact (below_size (by repeat (first | (with_reducible first | exact HB.out | apply below_alloc | apply pw_below_drewN | apply below_drew1) | exact HB.out))) : w.heap.size ≤ gb102)); clear HB; have HB := n0_; have BK102 := n1_; have GW102 := n2_; have GE102 := n3_; clear n0_ n1_ n2_ n3_; clear hb hbox hg) | ((with_reducible refine gate_dst (N := 4) rfl ?_); refine box_event ?hg (N := 4) ?hd (cs := #[.int .i64 0, .int .i64 0]) (t := 26) ?hr ?_; (case hd => rfl); (case hg => rfl); (case hr => first | (go_simp; done) | (go_simp; rfl)); intro gb103 hg w26 hbox hb; have n0_ := Aside0.mk (blk_below (g := gb102) (o := .cells #[.int .i64 a0_0, .int .i64 a0_1] 26 (0, 0)) (by (with_reducible repeat (first | refine blk_drewN ?_ _ | refine blk_drew ?_ | refine blk_alloc ?_ _)); exact BK102.out) hb); have n1_ := Aside0.mk (below_step (by repeat (first | (with_reducible first | exact HB.out | apply below_alloc | apply pw_below_drewN | apply below_drew1 | refine below_set ?_ GE102.out) | exact HB.out)) hb); have n2_ := Aside0.mk (hbox); have n3_ := Aside0.mk ((by rw [hg]; exact (below_size (by repeat (first | (with_reducible first | exact HB.out | apply below_alloc | apply pw_below_drewN | apply below_drew1 | refine below_set ?_ GE102.out) | exact HB.out))) : w.heap.size ≤ gb103)); have n4_ := Aside0.mk ((by rw [hg]; exact (below_size (by repeat (first | (with_reducible first | exact HB.out | apply below_alloc | apply pw_below_drewN | apply below_drew1 | refine below_set ?_ GE102.out) | exact HB.out))) : w.heap.size ≤ gb103)); have n5_ := Aside0.mk ((by rw [hg]; exact Nat.ne_of_lt (blk_lt (g := gb102) (o := .cells #[.int .i64 a0_0, .int .i64 a0_1] 26 (0, 0)) (by (with_reducible repeat (first | refine blk_drewN ?_ _ | refine blk_drew ?_ | refine blk_alloc ?_ _)); exact BK102.out)) : gb102 ≠ gb103)); have n6_ := Aside0.mk ((by rw [hg]; exact Nat.ne_of_gt (blk_lt (g := gb102) (o := .cells #[.int .i64 a0_0, .int .i64 a0_1] 26 (0, 0)) (by (with_reducible repeat (first | refine blk_drewN ?_ _ | refine blk_drew ?_ | refine blk_alloc ?_ _)); exact BK102.out)) : gb103 ≠ gb102)); clear BK102; clear HB; have BK102 := n0_; have HB := n1_; have BK103 := n2_; have GW103 := n3_; have GE103 := n4_; have NB102_103 := n5_; have NB103_102 := n6_; clear n0_ n1_ n2_ n3_ n4_ n5_ n6_; clear hb hbox hg; have hnb27 := NB102_103.out; have hnc27 := NB103_102.out; have hcz28_0 : w26.cell? ⟨gb102, 0, none⟩ = some (.int .i64 a0_0) := (blk_cell BK102.out 0).trans rfl; have hcz28_1 : w26.cell? ⟨gb102, 1, none⟩ = some (.int .i64 a0_1) := (blk_cell BK102.out 1).trans rfl; have hfz28_0 := blk_frozen BK102.out 0; have hfz28_1 := blk_frozen BK102.out 1) | ((with_reducible refine gate_callee (f := 37) rfl ?_); refine goesL_ (some 7) rfl rfl Try.func37 (by kernel_rfl) rfl #[.agg #[.int .i64 a0_0, .int .i64 a0_1]] rfl (by (try simp only [List.map_toArray, List.map_cons, List.map_nil]); first | done | rfl | (simp only [List.length_drop, List.length_take]; rfl)) ?_; (with_reducible refine (seal_Right.calls a0_0 a0_1 false _ A3.out).mono ?_); rintro e w29 ⟨rfl, hb⟩; refine ⟨_, rfl, ?_⟩; have n0_ := Aside0.mk (blk_below (g := gb102) (o := .cells #[.int .i64 a0_0, .int .i64 a0_1] 26 (0, 0)) (by (with_reducible repeat (first | refine blk_drewN ?_ _ | refine blk_drew ?_ | refine blk_alloc ?_ _)); exact BK102.out) hb); have n1_ := Aside0.mk (blk_below (g := gb103) (o := .cells #[.int .i64 0, .int .i64 0] 26 (0, 0)) (by (with_reducible repeat (first | refine blk_drewN ?_ _ | refine blk_drew ?_ | refine blk_alloc ?_ _)); exact BK103.out) hb); have n2_ := Aside0.mk (below_step (by repeat (first | (with_reducible first | exact HB.out | apply below_alloc | apply pw_below_drewN | apply below_drew1 | refine below_set ?_ GE102.out | refine below_set ?_ GE103.out) | exact HB.out)) hb); clear BK102; clear BK103; clear HB; have BK102 := n0_; have BK103 := n1_; have HB := n2_; clear n0_ n1_ n2_; (try clear hb); (try clear hb2); (try clear hk); (try clear hi); have hcz30_0 : w29.cell? ⟨gb103, 0, none⟩ = some (.int .i64 0) := (blk_cell BK103.out 0).trans rfl; have hcz30_1 : w29.cell? ⟨gb103, 1, none⟩ = some (.int .i64 0) := (blk_cell BK103.out 1).trans rfl; have hfz30_0 := blk_frozen BK103.out 0; have hfz30_1 := blk_frozen BK103.out 1))
  refine bodyPost_ret (results_ct rfl _ _ gb103 26 #[.int .i64 0, .int .i64 0] (0, 0) _ rfl (by (with_reducible repeat (first | refine blk_drewN ?_ _ | refine blk_drew ?_ | refine blk_alloc ?_ _)); refine blk_put (cs := #[.int .i64 0, .int .i64 0]) ?_ 1 _ rfl; (with_reducible repeat (first | refine blk_drewN ?_ _ | refine blk_drew ?_ | refine blk_alloc ?_ _)); refine blk_put (cs := #[.int .i64 0, .int .i64 0]) ?_ 0 _ rfl; (with_reducible repeat (first | refine blk_drewN ?_ _ | refine blk_drew ?_ | refine blk_alloc ?_ _)); exact BK103.out) Try.underlying26 rfl (by kernel_rfl)) rfl ?_
  exact ⟨by first | rfl | (simp [errW_none, errW_some] <;> rfl) | (simp [*, errW_none, errW_some] <;> rfl), by repeat (first | (with_reducible first | exact HB.out | apply below_alloc | apply pw_below_drewN | apply below_drew1 | refine below_set ?_ GE102.out | refine below_set ?_ GE103.out) | exact HB.out)⟩

/-! ### beat_turns: function 36 -/
def beat_turns.f (a0 : Int) : Option (Bool) := if a0 ≥ 1 then (if a0 ≤ 32 then (some ((Go.bits .and .i64 a0 (wrap64 (a0 - 1))) == 0)) else (some false)) else (some false)
set_option maxHeartbeats 8000000 in
set_option maxRecDepth 100000 in
theorem beat_turns.calls (a0 : Int) (r : Bool) (w : World) (h : beat_turns.f a0 = some r) :
  Calls Try.prog 36 #[.int .i64 a0] w fun e w' => e = .returned (.bool r) ∧ Drawn0 w w' := by
 have H : (if a0 ≥ 1 then (if a0 ≤ 32 then (some ((Go.bits .and .i64 a0 (wrap64 (a0 - 1))) == 0)) else (some false)) else (some false)) = some r := h
 clear h
 by_cases c2 : a0 ≥ 1
 ·rw [if_pos c2] at H
  have c2b0 : decide (1 ≤ a0) = true := decide_eq_true c2
  clear c2
  by_cases c3 : a0 ≤ 32
  ·rw [if_pos c3] at H
   have c3b0 : decide (a0 ≤ 32) = true := decide_eq_true c3
   clear c3
   obtain rfl := Option.some.inj H
   go_enter Try.func36, Try.ntmps36
   go_wp2
   go_ret
   exact ⟨by first | rfl | (simp; done) | (simp [*]; done), by repeat (first | exact Drawn0.refl _ | apply Drawn0.step)⟩
  ·rw [if_neg c3] at H
   have c3b0 : decide (a0 ≤ 32) = false := decide_eq_false c3
   clear c3
   obtain rfl := Option.some.inj H
   go_enter Try.func36, Try.ntmps36
   go_wp2
   go_ret
   exact ⟨by first | rfl | (simp; done) | (simp [*]; done), by repeat (first | exact Drawn0.refl _ | apply Drawn0.step)⟩
 ·rw [if_neg c2] at H
  have c2b0 : decide (1 ≤ a0) = false := decide_eq_false c2
  clear c2
  obtain rfl := Option.some.inj H
  go_enter Try.func36, Try.ntmps36
  go_wp2
  go_ret
  exact ⟨by first | rfl | (simp; done) | (simp [*]; done), by repeat (first | exact Drawn0.refl _ | apply Drawn0.step)⟩

/-! ### beat_Root: function 13 -/
def beat_Root.f (a0 : Int) : Option (Int × Int × Int) := (beat_turns.f a0).bind fun t110 => (if t110 = true then (if a0 = 0 then (none) else ((seal_Power.f 6054027 3622869 (wrap64 ((32 : Int) / a0))).bind fun bt111 => (some (bt111.1, bt111.2.1, bt111.2.2)))) else (some (0, 0, 210)))
set_option maxHeartbeats 8000000 in
set_option maxRecDepth 100000 in
theorem beat_Root.calls (a0 : Int) (r1 : Int) (r2 : Int) (r3 : Int) (w : World) (h : beat_Root.f a0 = some (r1, r2, r3)) :
  Calls Try.prog 13 #[.int .i64 a0] w fun e w' => e = .returned (.tuple #[.agg #[.int .i64 r1, .int .i64 r2], .int .i64 r3]) ∧ Below w.heap.size w w' := by
 have hu26 := Try.underlying26
 have HB := Aside0.mk (Below.refl w.heap.size w)
 have H : ((beat_turns.f a0).bind fun t110 => (if t110 = true then (if a0 = 0 then (none) else ((seal_Power.f 6054027 3622869 (wrap64 ((32 : Int) / a0))).bind fun bt111 => (some (bt111.1, bt111.2.1, bt111.2.2)))) else (some (0, 0, 210)))) = some (r1, r2, r3) := h
 clear h
 replace H := Option.bind_eq_some_iff.mp H
 obtain ⟨t110, A20, H⟩ := H
 replace H : (if t110 = true then (if a0 = 0 then (none) else ((seal_Power.f 6054027 3622869 (wrap64 ((32 : Int) / a0))).bind fun bt111 => (some (bt111.1, bt111.2.1, bt111.2.2)))) else (some (0, 0, 210))) = some (r1, r2, r3) := H
 have A2 := Aside0.mk A20
 clear A20
 by_cases c3 : t110 = true
 ·subst c3
  have H1 : (if a0 = 0 then (none) else ((seal_Power.f 6054027 3622869 (wrap64 ((32 : Int) / a0))).bind fun bt111 => (some (bt111.1, bt111.2.1, bt111.2.2)))) = some (r1, r2, r3) := by rw [if_pos rfl] at H; exact H
  clear H
  have H := H1
  clear H1
  by_cases c4 : a0 = 0
  ·rw [if_pos c4] at H
   exact absurd H (by simp)
  ·rw [if_neg c4] at H
   have c4b0 : (a0 == 0) = false := beq_eq_false_iff_ne.mpr c4
   have c4b1 : (a0 != 0) = true := bne_iff_ne.mpr c4
   replace H := Option.bind_eq_some_iff.mp H
   obtain ⟨⟨t111, t112, t113⟩, A50, H⟩ := H
   replace H : (some (t111, t112, t113)) = some (r1, r2, r3) := H
   have A5 := Aside0.mk A50
   clear A50
   simp only [Option.some.injEq, Prod.mk.injEq] at H
   obtain ⟨rfl, rfl, rfl⟩ := H
   go_enter Try.func13, Try.ntmps13
   go_wp2_with (first | ((with_reducible refine gate_dst (N := 2) rfl ?_); refine box_event ?hg (N := 2) ?hd (cs := #[.int .i64 0, .int .i64 0]) (t := 26) ?hr ?_; (case hd => rfl); (case hg => rfl); (case hr => first | (go_simp; done) | (go_simp; rfl)); intro gb109 hg w6 hbox hb; have n0_ := Aside0.mk (below_step (by repeat (first | (with_reducible first | exact HB.out | apply below_alloc | apply pw_below_drewN | apply below_drew1) | exact HB.out)) hb); have n1_ := Aside0.mk (hbox); have n2_ := Aside0.mk ((by rw [hg]; exact (below_size (by repeat (first | (with_reducible first | exact HB.out | apply below_alloc | apply pw_below_drewN | apply below_drew1) | exact HB.out))) : w.heap.size ≤ gb109)); have n3_ := Aside0.mk ((by rw [hg]; exact (below_size (by repeat (first | (with_reducible first | exact HB.out | apply below_alloc | apply pw_below_drewN | apply below_drew1) | exact HB.out))) : w.heap.size ≤ gb109)); clear HB; have HB := n0_; have BK109 := n1_; have GW109 := n2_; have GE109 := n3_; clear n0_ n1_ n2_ n3_; clear hb hbox hg) | ((with_reducible refine gate_callee (f := 36) rfl ?_); refine goesL_ (some 5) rfl rfl Try.func36 (by kernel_rfl) rfl #[.int .i64 a0] rfl (by (try simp only [List.map_toArray, List.map_cons, List.map_nil]); first | done | rfl | (simp only [List.length_drop, List.length_take]; rfl)) ?_; (with_reducible refine (beat_turns.calls a0 true _ A2.out).mono ?_); rintro e w' ⟨rfl, ⟨nd, rfl⟩⟩; refine ⟨_, rfl, ?_⟩; (try (rw [drewN_self w6]; generalize hq_ : World.drewN w6 _ = w6; have n0_ : Aside0 (w6.heap[gb109]? = some (.cells #[.int .i64 0, .int .i64 0] 26 (0, 0))) := ⟨by rw [← hq_]; exact (by (with_reducible repeat (first | refine blk_drewN ?_ _ | refine blk_drew ?_ | refine blk_alloc ?_ _)); exact BK109.out)⟩; have n1_ : Aside0 (Below w.heap.size w w6) := ⟨by rw [← hq_]; exact (by repeat (first | (with_reducible first | exact HB.out | apply below_alloc | apply pw_below_drewN | apply below_drew1 | refine below_set ?_ GE109.out) | exact HB.out))⟩; clear BK109 HB hq_; have BK109 := n0_; have HB := n1_; clear n0_ n1_))) | ((with_reducible refine gate_callee (f := 14) rfl ?_); refine goesL_ (some 11) rfl rfl Try.func14 (by kernel_rfl) rfl #[.agg #[.int .i64 6054027, .int .i64 3622869], .int .i64 (wrap64 ((32 : Int) / a0))] rfl (by (try simp only [List.map_toArray, List.map_cons, List.map_nil]); first | done | rfl | (simp only [List.length_drop, List.length_take]; rfl)) ?_; (with_reducible refine (seal_Power.calls 6054027 3622869 (wrap64 ((32 : Int) / a0)) t111 t112 t113 _ A5.out).mono ?_); rintro e w7 ⟨rfl, hb⟩; refine ⟨_, rfl, ?_⟩; have n0_ := Aside0.mk (blk_below (g := gb109) (o := .cells #[.int .i64 0, .int .i64 0] 26 (0, 0)) (by (with_reducible repeat (first | refine blk_drewN ?_ _ | refine blk_drew ?_ | refine blk_alloc ?_ _)); exact BK109.out) hb); have n1_ := Aside0.mk (below_step (by repeat (first | (with_reducible first | exact HB.out | apply below_alloc | apply pw_below_drewN | apply below_drew1 | refine below_set ?_ GE109.out) | exact HB.out)) hb); clear BK109; clear HB; have BK109 := n0_; have HB := n1_; clear n0_ n1_; (try clear hb); (try clear hb2); (try clear hk); (try clear hi); have hcz8_0 : w7.cell? ⟨gb109, 0, none⟩ = some (.int .i64 0) := (blk_cell BK109.out 0).trans rfl; have hcz8_1 : w7.cell? ⟨gb109, 1, none⟩ = some (.int .i64 0) := (blk_cell BK109.out 1).trans rfl; have hfz8_0 := blk_frozen BK109.out 0; have hfz8_1 := blk_frozen BK109.out 1))
   refine bodyPost_ret (results_ct rfl _ _ gb109 26 #[.int .i64 t111, .int .i64 t112] (0, 0) _ rfl (by (with_reducible repeat (first | refine blk_drewN ?_ _ | refine blk_drew ?_ | refine blk_alloc ?_ _)); refine blk_put (cs := #[.int .i64 t111, .int .i64 0]) ?_ 1 _ rfl; (with_reducible repeat (first | refine blk_drewN ?_ _ | refine blk_drew ?_ | refine blk_alloc ?_ _)); refine blk_put (cs := #[.int .i64 0, .int .i64 0]) ?_ 0 _ rfl; (with_reducible repeat (first | refine blk_drewN ?_ _ | refine blk_drew ?_ | refine blk_alloc ?_ _)); exact BK109.out) Try.underlying26 rfl (by kernel_rfl)) rfl ?_
   exact ⟨by first | rfl | (simp [errW_none, errW_some] <;> rfl) | (simp [*, errW_none, errW_some] <;> rfl), by repeat (first | (with_reducible first | exact HB.out | apply below_alloc | apply pw_below_drewN | apply below_drew1 | refine below_set ?_ GE109.out) | exact HB.out)⟩
 ·replace c3 := Bool.eq_false_iff.mpr c3
  subst c3
  have H1 : (some (0, 0, 210)) = some (r1, r2, r3) := by rw [if_neg (show ¬ (false = true) by decide)] at H; exact H
  clear H
  have H := H1
  clear H1
  simp only [Option.some.injEq, Prod.mk.injEq] at H
  obtain ⟨rfl, rfl, rfl⟩ := H
  go_enter Try.func13, Try.ntmps13
  go_wp2_with (first | ((with_reducible refine gate_dst (N := 2) rfl ?_); refine box_event ?hg (N := 2) ?hd (cs := #[.int .i64 0, .int .i64 0]) (t := 26) ?hr ?_; (case hd => rfl); (case hg => rfl); (case hr => first | (go_simp; done) | (go_simp; rfl)); intro gb109 hg w9 hbox hb; have n0_ := Aside0.mk (below_step (by repeat (first | (with_reducible first | exact HB.out | apply below_alloc | apply pw_below_drewN | apply below_drew1) | exact HB.out)) hb); have n1_ := Aside0.mk (hbox); have n2_ := Aside0.mk ((by rw [hg]; exact (below_size (by repeat (first | (with_reducible first | exact HB.out | apply below_alloc | apply pw_below_drewN | apply below_drew1) | exact HB.out))) : w.heap.size ≤ gb109)); have n3_ := Aside0.mk ((by rw [hg]; exact (below_size (by repeat (first | (with_reducible first | exact HB.out | apply below_alloc | apply pw_below_drewN | apply below_drew1) | exact HB.out))) : w.heap.size ≤ gb109)); clear HB; have HB := n0_; have BK109 := n1_; have GW109 := n2_; have GE109 := n3_; clear n0_ n1_ n2_ n3_; clear hb hbox hg) | ((with_reducible refine gate_callee (f := 36) rfl ?_); refine goesL_ (some 5) rfl rfl Try.func36 (by kernel_rfl) rfl #[.int .i64 a0] rfl (by (try simp only [List.map_toArray, List.map_cons, List.map_nil]); first | done | rfl | (simp only [List.length_drop, List.length_take]; rfl)) ?_; (with_reducible refine (beat_turns.calls a0 false _ A2.out).mono ?_); rintro e w' ⟨rfl, ⟨nd, rfl⟩⟩; refine ⟨_, rfl, ?_⟩; (try (rw [drewN_self w9]; generalize hq_ : World.drewN w9 _ = w9; have n0_ : Aside0 (w9.heap[gb109]? = some (.cells #[.int .i64 0, .int .i64 0] 26 (0, 0))) := ⟨by rw [← hq_]; exact (by (with_reducible repeat (first | refine blk_drewN ?_ _ | refine blk_drew ?_ | refine blk_alloc ?_ _)); exact BK109.out)⟩; have n1_ : Aside0 (Below w.heap.size w w9) := ⟨by rw [← hq_]; exact (by repeat (first | (with_reducible first | exact HB.out | apply below_alloc | apply pw_below_drewN | apply below_drew1 | refine below_set ?_ GE109.out) | exact HB.out))⟩; clear BK109 HB hq_; have BK109 := n0_; have HB := n1_; clear n0_ n1_)); have hcz10_0 : w9.cell? ⟨gb109, 0, none⟩ = some (.int .i64 0) := (blk_cell BK109.out 0).trans rfl; have hcz10_1 : w9.cell? ⟨gb109, 1, none⟩ = some (.int .i64 0) := (blk_cell BK109.out 1).trans rfl; have hfz10_0 := blk_frozen BK109.out 0; have hfz10_1 := blk_frozen BK109.out 1))
  refine bodyPost_ret (results_ct rfl _ _ gb109 26 #[.int .i64 0, .int .i64 0] (0, 0) _ rfl (by (with_reducible repeat (first | refine blk_drewN ?_ _ | refine blk_drew ?_ | refine blk_alloc ?_ _)); refine blk_put (cs := #[.int .i64 0, .int .i64 0]) ?_ 1 _ rfl; (with_reducible repeat (first | refine blk_drewN ?_ _ | refine blk_drew ?_ | refine blk_alloc ?_ _)); refine blk_put (cs := #[.int .i64 0, .int .i64 0]) ?_ 0 _ rfl; (with_reducible repeat (first | refine blk_drewN ?_ _ | refine blk_drew ?_ | refine blk_alloc ?_ _)); exact BK109.out) Try.underlying26 rfl (by kernel_rfl)) rfl ?_
  exact ⟨by first | rfl | (simp [errW_none, errW_some] <;> rfl) | (simp [*, errW_none, errW_some] <;> rfl), by repeat (first | (with_reducible first | exact HB.out | apply below_alloc | apply pw_below_drewN | apply below_drew1 | refine below_set ?_ GE109.out) | exact HB.out)⟩

end Go.Proofs.YtkilnknndglmnaaP
end

section
-- Laid by given.py, a program of this seat, with the kit's printer.
namespace Go.Proofs.YtkilnknndglmnaaP
open Go.Proofs.Ytkilnknndglmnaa (G fl IsS isSB okC okF okC_iff encC kcx at_cx md red run_cmul run_cadd run_csub run_fint lit_one lit_zero tdiv_32 run_store_cx)
attribute [local go_sem] run_cmul run_cadd run_csub run_fint lit_one lit_zero tdiv_32 run_store_cx
open Go.RowKit Go.Proofs.YtkilnknndglmnaaW.PrintWords Go.Proofs.YtkilnknndglmnaaW.PrintLast Go.Proofs.YtkilnknndglmnaaW.PrintMore
attribute [local go_sem] max2_int min2_int max_two min_two max_three min_three max_four min_four   -- for this text's walks alone
set_option linter.unusedVariables false
set_option linter.unusedSimpArgs false

/-! ### beat_numbers: function 32 -/
def beat_numbers.l0 : Nat → List G → List (S26) → Int → Int → Option (List G × Int)
 | 0, _, _, _, _ => none
 | k + 1, x4, x11, x12, x13 => if x13 < x12 then (if 0 ≤ x13 then (if x13 < (x11.length : Int) then ((seal_Right.f ((rd_T26 x11 x13).f0) ((rd_T26 x11 x13).f1)).bind fun t117 => (if t117 = true then ((beat_number.f ((rd_T26 x11 x13).f0) ((rd_T26 x11 x13).f1)).bind fun t118 => (if x4.length < 8796093022208 then (beat_numbers.l0 k (x4 ++ [t118]) x11 x12 (wrap64 (x13 + 1))) else (none))) else (some (([] : List G), 20)))) else (none)) else (none)) else (some (x4, 0))
def beat_numbers.f (k : Nat) (l0 : List (S26)) : Option (List G × Int) := (beat_turns.f (l0.length : Int)).bind fun t114 => (if t114 = true then (beat_numbers.l0 k ([] : List G) l0 (l0.length : Int) 0) else (some (([] : List G), 210)))
theorem beat_numbers.mono_l : ∀ k, (∀ y0 y1 y2 y3, LeO (beat_numbers.l0 k y0 y1 y2 y3) (beat_numbers.l0 (k + 1) y0 y1 y2 y3))
 | 0 => fun _ _ _ _ r h => by simp [beat_numbers.l0] at h
 | k + 1 => by
  have ih0 := beat_numbers.mono_l k
  ·intro y0 y1 y2 y3
   unfold beat_numbers.l0
   repeat' first
   | (with_reducible exact ih0 _ _ _ _)
   | (with_reducible exact LeO.refl _)
   | (with_reducible exact LeO.none _)
   | (with_reducible refine LeO.ite ?_ ?_)
   | (with_reducible refine LeO.bind ?_ (fun _ => ?_))
   | exact ih0 _ _ _ _
   | exact LeO.none _
   | refine LeO.ite ?_ ?_
   | refine LeO.bind ?_ (fun _ => ?_)
theorem beat_numbers.mono : ∀ a0 k, LeO (beat_numbers.f k a0) (beat_numbers.f (k + 1) a0) := by
 intro a0 k
 have ih0 := beat_numbers.mono_l k
 unfold beat_numbers.f
 repeat' first
   | (with_reducible exact ih0 _ _ _ _)
   | (with_reducible exact LeO.refl _)
   | (with_reducible exact LeO.none _)
   | (with_reducible refine LeO.ite ?_ ?_)
   | (with_reducible refine LeO.bind ?_ (fun _ => ?_))
   | exact ih0 _ _ _ _
   | exact LeO.none _
   | refine LeO.ite ?_ ?_
   | refine LeO.bind ?_ (fun _ => ?_)
set_option maxHeartbeats 8000000 in
set_option maxRecDepth 100000 in
theorem beat_numbers.calls (k : Nat) (A0 : Option Addr) (c0 : Nat) (l0 : List (S26)) (r1 : List G) (r2 : Int) (w : World) (hr0 : Kd.C k26 w A0 l0.length l0) (hc0 : l0.length ≤ c0) (h : beat_numbers.f k l0 = some (r1, r2)) :
  Calls Try.prog 32 #[.slice A0 l0.length c0] w fun e w' => ∃ v0_ : Value, e = .returned (.tuple #[v0_, .int .i64 r2]) ∧ Kd.R kcx 57 w' w.heap.size (fun _ => True) v0_ r1 ∧ Below w.heap.size w w' := by
 have hu26 := Try.underlying26
 have HR0 := Aside0.mk hr0
 have HC0 := Aside0.mk hc0
 clear hr0 hc0
 have HB := Aside0.mk (Below.refl w.heap.size w)
 have H : ((beat_turns.f (l0.length : Int)).bind fun t114 => (if t114 = true then (beat_numbers.l0 k ([] : List G) l0 (l0.length : Int) 0) else (some (([] : List G), 210)))) = some (r1, r2) := h
 clear h
 replace H := Option.bind_eq_some_iff.mp H
 obtain ⟨t114, A20, H⟩ := H
 replace H : (if t114 = true then (beat_numbers.l0 k ([] : List G) l0 (l0.length : Int) 0) else (some (([] : List G), 210))) = some (r1, r2) := H
 have A2 := Aside0.mk A20
 clear A20
 by_cases c3 : t114 = true
 ·subst c3
  have H1 : (beat_numbers.l0 k ([] : List G) l0 (l0.length : Int) 0) = some (r1, r2) := by rw [if_pos rfl] at H; exact H
  clear H
  have H := H1
  clear H1
  have H' := Aside0.mk H
  clear H
  go_enter Try.func32, Try.ntmps32
  go_wp2_with (first | ((with_reducible refine gate_callee (f := 36) rfl ?_); refine goesL_ (some 9) rfl rfl Try.func36 (by kernel_rfl) rfl #[.int .i64 (l0.length : Int)] rfl (by (try simp only [List.map_toArray, List.map_cons, List.map_nil]); first | done | rfl | (simp only [List.length_drop, List.length_take]; rfl)) ?_; (with_reducible refine (beat_turns.calls (l0.length : Int) true _ A2.out).mono ?_); rintro e w' ⟨rfl, ⟨nd, rfl⟩⟩; refine ⟨_, rfl, ?_⟩))
  go_loopg [4, 13] k (fun kq v4 v13 w' => ∃ (x4_1 : List G) (x13_1 : Int), v13 = .int .i64 x13_1 ∧ Aside0 (beat_numbers.l0 kq x4_1 l0 (l0.length : Int) x13_1 = some (r1, r2)) ∧ Aside0 (kq ≤ k) ∧ Aside0 (Kd.R kcx 57 w' w.heap.size (fun _ => True) v4 x4_1) ∧ Aside0 (Below w.heap.size w w'))
  case atStart => exact ⟨(([] : List G)), (0), (by first | rfl | (simp; done) | (simp [*]; done) | (simp [Int.tdiv_eq_ediv_of_nonneg]; done)), H', ⟨Nat.le_refl _⟩, ⟨by first | exact Kd.R_nil _ _ _ _ _ | exact Kd.N_nil _ _ _ _ _ | exact Kd.V_nil _ _ _ _ _ | exact Kd.Q_nil _ _ _ _ _ | exact Kd.S_nil _ _ _ _ _⟩, ⟨by repeat (first | (with_reducible first | exact HB.out | apply below_alloc | apply pw_below_drewN | apply below_drew1) | exact HB.out)⟩⟩
  case round =>
   clear H'
   try clear p2
   try clear c3
   obtain ⟨x4_1, x13_1, rfl, HA, HK1, HO_4, HB⟩ := hrel
   cases gk with
   | zero => exact absurd HA.out (by simp [beat_numbers.l0])
   | succ k1 =>
    have H := HA.out
    clear HA
    simp only [beat_numbers.l0] at H
    by_cases c4 : x13_1 < (l0.length : Int)
    ·rw [if_pos c4] at H
     have c4b0 : decide (x13_1 < (l0.length : Int)) = true := decide_eq_true c4
     clear c4
     by_cases c5 : 0 ≤ x13_1
     ·rw [if_pos c5] at H
      have c5b0 : decide (0 ≤ x13_1) = true := decide_eq_true c5
      clear c5
      by_cases c6 : x13_1 < (l0.length : Int)
      ·rw [if_pos c6] at H
       have c6b0 : decide (x13_1 < (l0.length : Int)) = true := decide_eq_true c6
       clear c6
       replace H := Option.bind_eq_some_iff.mp H
       obtain ⟨t117, A70, H⟩ := H
       replace H : (if t117 = true then ((beat_number.f ((rd_T26 l0 x13_1).f0) ((rd_T26 l0 x13_1).f1)).bind fun t118 => (if x4_1.length < 8796093022208 then (beat_numbers.l0 k1 (x4_1 ++ [t118]) l0 (l0.length : Int) (wrap64 (x13_1 + 1))) else (none))) else (some (([] : List G), 20))) = some (r1, r2) := H
       have A7 := Aside0.mk A70
       clear A70
       by_cases c8 : t117 = true
       ·subst c8
        have H1 : ((beat_number.f ((rd_T26 l0 x13_1).f0) ((rd_T26 l0 x13_1).f1)).bind fun t118 => (if x4_1.length < 8796093022208 then (beat_numbers.l0 k1 (x4_1 ++ [t118]) l0 (l0.length : Int) (wrap64 (x13_1 + 1))) else (none))) = some (r1, r2) := by rw [if_pos rfl] at H; exact H
        clear H
        have H := H1
        clear H1
        replace H := Option.bind_eq_some_iff.mp H
        obtain ⟨t118, A90, H⟩ := H
        replace H : (if x4_1.length < 8796093022208 then (beat_numbers.l0 k1 (x4_1 ++ [t118]) l0 (l0.length : Int) (wrap64 (x13_1 + 1))) else (none)) = some (r1, r2) := H
        have A9 := Aside0.mk A90
        clear A90
        by_cases c10 : x4_1.length < 8796093022208
        ·rw [if_pos c10] at H
         have LMc10 := Aside0.mk c10
         clear c10
         obtain ⟨y119, hy119⟩ : ∃ y_ : List G, y_ = (x4_1 ++ [t118]) := ⟨_, rfl⟩
         replace H : (beat_numbers.l0 k1 y119 l0 (l0.length : Int) (wrap64 (x13_1 + 1))) = some (r1, r2) := by first | (rw [hy119]; with_reducible exact H) | (have H2_ := (Option.bind_some _ _).symm.trans H; rw [hy119]; with_reducible exact H2_) | (have H2_ := (Option.bind_some _ _).symm.trans H; with_reducible exact H2_) | with_reducible exact H | (rw [hy119]; exact H) | exact H
         have Ny119 := Aside0.mk hy119
         clear hy119
         have H' := Aside0.mk H
         clear H
         have p115 : 0 ≤ (x13_1 : Int) := of_decide_eq_true (by first | (with_reducible assumption) | assumption)
         have q115 : x13_1 < (l0.length : Int) := of_decide_eq_true (by first | (with_reducible assumption) | assumption)
         obtain ⟨ad115, e115, hx115_0, hx115_1⟩ := at_T26 HR0.out x13_1 p115 q115
         cases e115
         replace hx115_0 := (HB.out.cell (World.block_lt_of_cell? w _ hx115_0)).trans hx115_0
         replace hx115_1 := (HB.out.cell (World.block_lt_of_cell? w _ hx115_1)).trans hx115_1
         replace p115 := eq_true p115
         replace q115 := eq_true q115
         go_wp2_with (first | ((with_reducible refine gate_dst (N := 6) rfl ?_); refine box_event ?hg (N := 6) ?hd (cs := #[.int .i64 0, .int .i64 0]) (t := 26) ?hr ?_; (case hd => rfl); (case hg => rfl); (case hr => first | (go_simp; done) | (go_simp; rfl)); intro gb116 hg w11 hbox hb; have n0_ := Aside0.mk (Kd.R_below (by (with_reducible repeat (first | apply Kd.R_alloc | apply Kd.R_drewN | apply Kd.R_drew)); exact HO_4.out) hb); have n1_ := Aside0.mk (below_step (by repeat (first | (with_reducible first | exact HB.out | apply below_alloc | apply pw_below_drewN | apply below_drew1) | exact HB.out)) hb); have n2_ := Aside0.mk (hbox); have n3_ := Aside0.mk ((by rw [hg]; exact (below_size (by repeat (first | (with_reducible first | exact HB.out | apply below_alloc | apply pw_below_drewN | apply below_drew1) | exact HB.out))) : w.heap.size ≤ gb116)); have n4_ := Aside0.mk ((by rw [hg]; exact (below_size (by repeat (first | (with_reducible first | exact HB.out | apply below_alloc | apply pw_below_drewN | apply below_drew1) | exact HB.out))) : w.heap.size ≤ gb116)); clear HO_4; clear HB; have HO_4 := n0_; have HB := n1_; have BK116 := n2_; have GW116 := n3_; have GE116 := n4_; clear n0_ n1_ n2_ n3_ n4_; clear hb hbox hg; have hcz12_0 : w11.cell? ⟨gb116, 0, none⟩ = some (.int .i64 0) := (blk_cell BK116.out 0).trans rfl; have hcz12_1 : w11.cell? ⟨gb116, 1, none⟩ = some (.int .i64 0) := (blk_cell BK116.out 1).trans rfl; have hfz12_0 := blk_frozen BK116.out 0; have hfz12_1 := blk_frozen BK116.out 1) | ((with_reducible refine gate_callee (f := 37) rfl ?_); refine goesL_ (some 18) rfl rfl Try.func37 (by kernel_rfl) rfl #[.agg #[.int .i64 ((rd_T26 l0 x13_1).f0), .int .i64 ((rd_T26 l0 x13_1).f1)]] rfl (by (try simp only [List.map_toArray, List.map_cons, List.map_nil]); first | done | rfl | (simp only [List.length_drop, List.length_take]; rfl)) ?_; (with_reducible refine (seal_Right.calls ((rd_T26 l0 x13_1).f0) ((rd_T26 l0 x13_1).f1) true _ A7.out).mono ?_); rintro e w13 ⟨rfl, hb⟩; refine ⟨_, rfl, ?_⟩; have n0_ := Aside0.mk (Kd.R_below (by (with_reducible repeat (first | apply Kd.R_alloc | apply Kd.R_drewN | apply Kd.R_drew)); exact (Kd.R_mono (Kd.R_far (p := ⟨gb116, 1, none⟩) (Kd.R_far (p := ⟨gb116, 0, none⟩) (Kd.R_types HO_4.out BK116.out (by decide)) (fun _ hk => hk.2) (.int .i64 ((rd_T26 l0 x13_1).f0))) (fun _ hk => hk.2) (.int .i64 ((rd_T26 l0 x13_1).f1))) (fun _ h_ => h_.1))) hb); have n1_ := Aside0.mk (blk_below (g := gb116) (o := .cells #[.int .i64 ((rd_T26 l0 x13_1).f0), .int .i64 ((rd_T26 l0 x13_1).f1)] 26 (0, 0)) (by (with_reducible repeat (first | refine blk_drewN ?_ _ | refine blk_drew ?_ | refine blk_alloc ?_ _)); refine blk_put (cs := #[.int .i64 ((rd_T26 l0 x13_1).f0), .int .i64 0]) ?_ 1 _ rfl; (with_reducible repeat (first | refine blk_drewN ?_ _ | refine blk_drew ?_ | refine blk_alloc ?_ _)); refine blk_put (cs := #[.int .i64 0, .int .i64 0]) ?_ 0 _ rfl; (with_reducible repeat (first | refine blk_drewN ?_ _ | refine blk_drew ?_ | refine blk_alloc ?_ _)); exact BK116.out) hb); have n2_ := Aside0.mk (below_step (by repeat (first | (with_reducible first | exact HB.out | apply below_alloc | apply pw_below_drewN | apply below_drew1 | refine below_set ?_ GE116.out) | exact HB.out)) hb); clear HO_4; clear BK116; clear HB; have HO_4 := n0_; have BK116 := n1_; have HB := n2_; clear n0_ n1_ n2_; (try clear hb); (try clear hb2); (try clear hk); (try clear hi); have hcz14_0 : w13.cell? ⟨gb116, 0, none⟩ = some (.int .i64 ((rd_T26 l0 x13_1).f0)) := (blk_cell BK116.out 0).trans rfl; have hcz14_1 : w13.cell? ⟨gb116, 1, none⟩ = some (.int .i64 ((rd_T26 l0 x13_1).f1)) := (blk_cell BK116.out 1).trans rfl; have hfz14_0 := blk_frozen BK116.out 0; have hfz14_1 := blk_frozen BK116.out 1) | ((with_reducible refine gate_callee (f := 35) rfl ?_); refine goesL_ (some 22) rfl rfl Try.func35 (by kernel_rfl) rfl #[.agg #[.int .i64 ((rd_T26 l0 x13_1).f0), .int .i64 ((rd_T26 l0 x13_1).f1)]] rfl (by (try simp only [List.map_toArray, List.map_cons, List.map_nil]); first | done | rfl | (simp only [List.length_drop, List.length_take]; rfl)) ?_; (with_reducible refine (beat_number.calls ((rd_T26 l0 x13_1).f0) ((rd_T26 l0 x13_1).f1) t118 _ A9.out).mono ?_); rintro e w15 ⟨rfl, hb⟩; refine ⟨_, rfl, ?_⟩; have n0_ := Aside0.mk (Kd.R_below (by (with_reducible repeat (first | apply Kd.R_alloc | apply Kd.R_drewN | apply Kd.R_drew)); exact HO_4.out) hb); have n1_ := Aside0.mk (blk_below (g := gb116) (o := .cells #[.int .i64 ((rd_T26 l0 x13_1).f0), .int .i64 ((rd_T26 l0 x13_1).f1)] 26 (0, 0)) (by (with_reducible repeat (first | refine blk_drewN ?_ _ | refine blk_drew ?_ | refine blk_alloc ?_ _)); exact BK116.out) hb); have n2_ := Aside0.mk (below_step (by repeat (first | (with_reducible first | exact HB.out | apply below_alloc | apply pw_below_drewN | apply below_drew1 | refine below_set ?_ GE116.out) | exact HB.out)) hb); clear HO_4; clear BK116; clear HB; have HO_4 := n0_; have BK116 := n1_; have HB := n2_; clear n0_ n1_ n2_; (try clear hb); (try clear hb2); (try clear hk); (try clear hi)) | ((with_reducible refine gate_builtin (b := .append) (xs := #[.tmp 20, .tmp 23]) rfl ?_); at_builtin; refine Kd.R_append kcx (w0 := w) w.heap.size rfl (.tmp 20) (.tmp 23) 52 57 (.complex .f64 0 0) 16 rfl Try.underlying52 info57 rfl (by decide) (by omega) u4 x4_1 t118 [.complex .f64 (fl t118.re) (fl t118.im)] (fun _ => True) (fun _ => False) rfl rfl ?aP (fun _ hk => hk.elim) ?aF ?aO ?aB ?aS ?aL ?_; (case aP => exact rfl); (case aB => exact (by repeat (first | (with_reducible first | exact HB.out | apply below_alloc | apply pw_below_drewN | apply below_drew1 | refine below_set ?_ GE116.out) | exact HB.out))); (case aF => exact (fun _ _ => trivial)); (case aO => exact (by (with_reducible repeat (first | apply Kd.R_alloc | apply Kd.R_drewN | apply Kd.R_drew)); exact HO_4.out)); (case aS => exact (below_size (by repeat (first | (with_reducible first | exact HB.out | apply below_alloc | apply pw_below_drewN | apply below_drew1 | refine below_set ?_ GE116.out) | exact HB.out)))); (case aL => have := LMc10.out; omega); intro v120 w16 ho hb hg hat; rw [← Ny119.out] at ho; have n0_ := Aside0.mk (blk_grown (g := gb116) (o := .cells #[.int .i64 ((rd_T26 l0 x13_1).f0), .int .i64 ((rd_T26 l0 x13_1).f1)] 26 (0, 0)) (by (with_reducible repeat (first | refine blk_drewN ?_ _ | refine blk_drew ?_ | refine blk_alloc ?_ _)); exact BK116.out) hg (Kd.R_ne HO_4.out BK116.out (by decide))); have n1_ := Aside0.mk (hb); have n2_ := Aside0.mk (ho); clear BK116; clear HB; clear HO_4; have BK116 := n0_; have HB := n1_; have HO121 := n2_; clear n0_ n1_ n2_; clear ho hb hg hat))
         go_roundg k1
         case measure => have := HK1.out; omega
         case rel => exact ⟨(y119), (wrap64 (x13_1 + 1)), (by first | rfl | (simp; done) | (simp [*]; done) | (simp [Int.tdiv_eq_ediv_of_nonneg]; done)), H', ⟨by have := HK1.out; omega⟩, ⟨by (with_reducible repeat (first | apply Kd.R_alloc | apply Kd.R_drewN | apply Kd.R_drew)); exact HO121.out⟩, ⟨by repeat (first | (with_reducible first | exact HB.out | apply below_alloc | apply pw_below_drewN | apply below_drew1 | refine below_set ?_ GE116.out) | exact HB.out)⟩⟩
        ·rw [if_neg c10] at H
         exact absurd H (by simp)
       ·replace c8 := Bool.eq_false_iff.mpr c8
        subst c8
        have H1 : (some (([] : List G), 20)) = some (r1, r2) := by rw [if_neg (show ¬ (false = true) by decide)] at H; exact H
        clear H
        have H := H1
        clear H1
        simp only [Option.some.injEq, Prod.mk.injEq] at H
        obtain ⟨rfl, rfl⟩ := H
        have p115 : 0 ≤ (x13_1 : Int) := of_decide_eq_true (by first | (with_reducible assumption) | assumption)
        have q115 : x13_1 < (l0.length : Int) := of_decide_eq_true (by first | (with_reducible assumption) | assumption)
        obtain ⟨ad115, e115, hx115_0, hx115_1⟩ := at_T26 HR0.out x13_1 p115 q115
        cases e115
        replace hx115_0 := (HB.out.cell (World.block_lt_of_cell? w _ hx115_0)).trans hx115_0
        replace hx115_1 := (HB.out.cell (World.block_lt_of_cell? w _ hx115_1)).trans hx115_1
        replace p115 := eq_true p115
        replace q115 := eq_true q115
        go_wp2_with (first | ((with_reducible refine gate_dst (N := 6) rfl ?_); refine box_event ?hg (N := 6) ?hd (cs := #[.int .i64 0, .int .i64 0]) (t := 26) ?hr ?_; (case hd => rfl); (case hg => rfl); (case hr => first | (go_simp; done) | (go_simp; rfl)); intro gb116 hg w17 hbox hb; have n0_ := Aside0.mk (Kd.R_below (by (with_reducible repeat (first | apply Kd.R_alloc | apply Kd.R_drewN | apply Kd.R_drew)); exact HO_4.out) hb); have n1_ := Aside0.mk (below_step (by repeat (first | (with_reducible first | exact HB.out | apply below_alloc | apply pw_below_drewN | apply below_drew1) | exact HB.out)) hb); have n2_ := Aside0.mk (hbox); have n3_ := Aside0.mk ((by rw [hg]; exact (below_size (by repeat (first | (with_reducible first | exact HB.out | apply below_alloc | apply pw_below_drewN | apply below_drew1) | exact HB.out))) : w.heap.size ≤ gb116)); have n4_ := Aside0.mk ((by rw [hg]; exact (below_size (by repeat (first | (with_reducible first | exact HB.out | apply below_alloc | apply pw_below_drewN | apply below_drew1) | exact HB.out))) : w.heap.size ≤ gb116)); clear HO_4; clear HB; have HO_4 := n0_; have HB := n1_; have BK116 := n2_; have GW116 := n3_; have GE116 := n4_; clear n0_ n1_ n2_ n3_ n4_; clear hb hbox hg; have hcz18_0 : w17.cell? ⟨gb116, 0, none⟩ = some (.int .i64 0) := (blk_cell BK116.out 0).trans rfl; have hcz18_1 : w17.cell? ⟨gb116, 1, none⟩ = some (.int .i64 0) := (blk_cell BK116.out 1).trans rfl; have hfz18_0 := blk_frozen BK116.out 0; have hfz18_1 := blk_frozen BK116.out 1) | ((with_reducible refine gate_callee (f := 37) rfl ?_); refine goesL_ (some 18) rfl rfl Try.func37 (by kernel_rfl) rfl #[.agg #[.int .i64 ((rd_T26 l0 x13_1).f0), .int .i64 ((rd_T26 l0 x13_1).f1)]] rfl (by (try simp only [List.map_toArray, List.map_cons, List.map_nil]); first | done | rfl | (simp only [List.length_drop, List.length_take]; rfl)) ?_; (with_reducible refine (seal_Right.calls ((rd_T26 l0 x13_1).f0) ((rd_T26 l0 x13_1).f1) false _ A7.out).mono ?_); rintro e w19 ⟨rfl, hb⟩; refine ⟨_, rfl, ?_⟩; have n0_ := Aside0.mk (Kd.R_below (by (with_reducible repeat (first | apply Kd.R_alloc | apply Kd.R_drewN | apply Kd.R_drew)); exact (Kd.R_mono (Kd.R_far (p := ⟨gb116, 1, none⟩) (Kd.R_far (p := ⟨gb116, 0, none⟩) (Kd.R_types HO_4.out BK116.out (by decide)) (fun _ hk => hk.2) (.int .i64 ((rd_T26 l0 x13_1).f0))) (fun _ hk => hk.2) (.int .i64 ((rd_T26 l0 x13_1).f1))) (fun _ h_ => h_.1))) hb); have n1_ := Aside0.mk (blk_below (g := gb116) (o := .cells #[.int .i64 ((rd_T26 l0 x13_1).f0), .int .i64 ((rd_T26 l0 x13_1).f1)] 26 (0, 0)) (by (with_reducible repeat (first | refine blk_drewN ?_ _ | refine blk_drew ?_ | refine blk_alloc ?_ _)); refine blk_put (cs := #[.int .i64 ((rd_T26 l0 x13_1).f0), .int .i64 0]) ?_ 1 _ rfl; (with_reducible repeat (first | refine blk_drewN ?_ _ | refine blk_drew ?_ | refine blk_alloc ?_ _)); refine blk_put (cs := #[.int .i64 0, .int .i64 0]) ?_ 0 _ rfl; (with_reducible repeat (first | refine blk_drewN ?_ _ | refine blk_drew ?_ | refine blk_alloc ?_ _)); exact BK116.out) hb); have n2_ := Aside0.mk (below_step (by repeat (first | (with_reducible first | exact HB.out | apply below_alloc | apply pw_below_drewN | apply below_drew1 | refine below_set ?_ GE116.out) | exact HB.out)) hb); clear HO_4; clear BK116; clear HB; have HO_4 := n0_; have BK116 := n1_; have HB := n2_; clear n0_ n1_ n2_; (try clear hb); (try clear hb2); (try clear hk); (try clear hi)))
        go_ret2
        exact ⟨_, by first | rfl | (simp [errW_none, errW_some] <;> rfl) | (simp [*, errW_none, errW_some] <;> rfl), by first | exact Kd.R_nil _ _ _ _ _ | exact Kd.N_nil _ _ _ _ _ | exact Kd.V_nil _ _ _ _ _ | exact Kd.Q_nil _ _ _ _ _ | exact Kd.S_nil _ _ _ _ _, by repeat (first | (with_reducible first | exact HB.out | apply below_alloc | apply pw_below_drewN | apply below_drew1 | refine below_set ?_ GE116.out) | exact HB.out)⟩
      ·rw [if_neg c6] at H
       exact absurd H (by simp)
     ·rw [if_neg c5] at H
      exact absurd H (by simp)
    ·rw [if_neg c4] at H
     have c4b0 : decide (x13_1 < (l0.length : Int)) = false := decide_eq_false c4
     clear c4
     simp only [Option.some.injEq, Prod.mk.injEq] at H
     obtain ⟨rfl, rfl⟩ := H
     go_wp2
     go_ret2
     exact ⟨_, by first | rfl | (simp [errW_none, errW_some] <;> rfl) | (simp [*, errW_none, errW_some] <;> rfl), by (with_reducible repeat (first | apply Kd.R_alloc | apply Kd.R_drewN | apply Kd.R_drew)); exact HO_4.out, by repeat (first | (with_reducible first | exact HB.out | apply below_alloc | apply pw_below_drewN | apply below_drew1) | exact HB.out)⟩
 ·replace c3 := Bool.eq_false_iff.mpr c3
  subst c3
  have H1 : (some (([] : List G), 210)) = some (r1, r2) := by rw [if_neg (show ¬ (false = true) by decide)] at H; exact H
  clear H
  have H := H1
  clear H1
  simp only [Option.some.injEq, Prod.mk.injEq] at H
  obtain ⟨rfl, rfl⟩ := H
  go_enter Try.func32, Try.ntmps32
  go_wp2_with (first | ((with_reducible refine gate_callee (f := 36) rfl ?_); refine goesL_ (some 9) rfl rfl Try.func36 (by kernel_rfl) rfl #[.int .i64 (l0.length : Int)] rfl (by (try simp only [List.map_toArray, List.map_cons, List.map_nil]); first | done | rfl | (simp only [List.length_drop, List.length_take]; rfl)) ?_; (with_reducible refine (beat_turns.calls (l0.length : Int) false _ A2.out).mono ?_); rintro e w' ⟨rfl, ⟨nd, rfl⟩⟩; refine ⟨_, rfl, ?_⟩))
  go_ret2
  exact ⟨_, by first | rfl | (simp [errW_none, errW_some] <;> rfl) | (simp [*, errW_none, errW_some] <;> rfl), by first | exact Kd.R_nil _ _ _ _ _ | exact Kd.N_nil _ _ _ _ _ | exact Kd.V_nil _ _ _ _ _ | exact Kd.Q_nil _ _ _ _ _ | exact Kd.S_nil _ _ _ _ _, by repeat (first | (with_reducible first | exact HB.out | apply below_alloc | apply pw_below_drewN | apply below_drew1) | exact HB.out)⟩

/-! ### beat_seals: function 33 -/
def beat_seals.l0 : Nat → List (S26) → List G → Int → Int → Option ((List (S26)))
 | 0, _, _, _, _ => none
 | k + 1, x3, x6, x7, x8 => if x8 < x7 then (if 0 ≤ x8 then (if x8 < (x6.length : Int) then ((beat_rest.f (rdOf G.zero x6 x8)).bind fun t123 => (if okF t123.re = true then (if okF t123.im = true then (if x3.length < 8796093022208 then (beat_seals.l0 k (x3 ++ [(⟨t123.re, t123.im⟩ : S26)]) x6 x7 (wrap64 (x8 + 1))) else (none)) else (none)) else (none))) else (none)) else (none)) else (some x3)
def beat_seals.f (k : Nat) (l0 : List G) : Option ((List (S26))) := beat_seals.l0 k ([] : List (S26)) l0 (l0.length : Int) 0
theorem beat_seals.mono_l : ∀ k, (∀ y0 y1 y2 y3, LeO (beat_seals.l0 k y0 y1 y2 y3) (beat_seals.l0 (k + 1) y0 y1 y2 y3))
 | 0 => fun _ _ _ _ r h => by simp [beat_seals.l0] at h
 | k + 1 => by
  have ih0 := beat_seals.mono_l k
  ·intro y0 y1 y2 y3
   unfold beat_seals.l0
   repeat' first
   | (with_reducible exact ih0 _ _ _ _)
   | (with_reducible exact LeO.refl _)
   | (with_reducible exact LeO.none _)
   | (with_reducible refine LeO.ite ?_ ?_)
   | (with_reducible refine LeO.bind ?_ (fun _ => ?_))
   | exact ih0 _ _ _ _
   | exact LeO.none _
   | refine LeO.ite ?_ ?_
   | refine LeO.bind ?_ (fun _ => ?_)
theorem beat_seals.mono : ∀ a0 k, LeO (beat_seals.f k a0) (beat_seals.f (k + 1) a0) := by
 intro a0 k
 have ih0 := beat_seals.mono_l k
 unfold beat_seals.f
 repeat' first
   | (with_reducible exact ih0 _ _ _ _)
   | (with_reducible exact LeO.refl _)
   | (with_reducible exact LeO.none _)
   | (with_reducible refine LeO.ite ?_ ?_)
   | (with_reducible refine LeO.bind ?_ (fun _ => ?_))
   | exact ih0 _ _ _ _
   | exact LeO.none _
   | refine LeO.ite ?_ ?_
   | refine LeO.bind ?_ (fun _ => ?_)
set_option maxHeartbeats 8000000 in
set_option maxRecDepth 100000 in
theorem beat_seals.calls (k : Nat) (A0 : Option Addr) (c0 : Nat) (l0 : List G) (r : List (S26)) (w : World) (hr0 : Kd.C kcx w A0 l0.length l0) (hc0 : l0.length ≤ c0) (h : beat_seals.f k l0 = some r) :
  Calls Try.prog 33 #[.slice A0 l0.length c0] w fun e w' => ∃ v0_ : Value, e = .returned (v0_) ∧ Kd.R k26 26 w' w.heap.size (fun _ => True) v0_ r ∧ Below w.heap.size w w' := by
 have hu26 := Try.underlying26
 have HR0 := Aside0.mk hr0
 have HC0 := Aside0.mk hc0
 clear hr0 hc0
 have HB := Aside0.mk (Below.refl w.heap.size w)
 have H : (beat_seals.l0 k ([] : List (S26)) l0 (l0.length : Int) 0) = some r := h
 clear h
 have H' := Aside0.mk H
 clear H
 go_enter Try.func33, Try.ntmps33
 go_wp2
 go_loopg [3, 8] k (fun kq v3 v8 w' => ∃ (x3_1 : List (S26)) (x8_1 : Int), v8 = .int .i64 x8_1 ∧ Aside0 (beat_seals.l0 kq x3_1 l0 (l0.length : Int) x8_1 = some r) ∧ Aside0 (kq ≤ k) ∧ Aside0 (Kd.R k26 26 w' w.heap.size (fun _ => True) v3 x3_1) ∧ Aside0 (Below w.heap.size w w'))
 case atStart => exact ⟨(([] : List (S26))), (0), (by first | rfl | (simp; done) | (simp [*]; done) | (simp [Int.tdiv_eq_ediv_of_nonneg]; done)), H', ⟨Nat.le_refl _⟩, ⟨by first | exact Kd.R_nil _ _ _ _ _ | exact Kd.N_nil _ _ _ _ _ | exact Kd.V_nil _ _ _ _ _ | exact Kd.Q_nil _ _ _ _ _ | exact Kd.S_nil _ _ _ _ _⟩, ⟨by repeat (first | (with_reducible first | exact HB.out | apply below_alloc | apply pw_below_drewN | apply below_drew1) | exact HB.out)⟩⟩
 case round =>
  clear H'
  obtain ⟨x3_1, x8_1, rfl, HA, HK1, HO_3, HB⟩ := hrel
  cases gk with
  | zero => exact absurd HA.out (by simp [beat_seals.l0])
  | succ k1 =>
   have H := HA.out
   clear HA
   simp only [beat_seals.l0] at H
   by_cases c2 : x8_1 < (l0.length : Int)
   ·rw [if_pos c2] at H
    have c2b0 : decide (x8_1 < (l0.length : Int)) = true := decide_eq_true c2
    clear c2
    by_cases c3 : 0 ≤ x8_1
    ·rw [if_pos c3] at H
     have c3b0 : decide (0 ≤ x8_1) = true := decide_eq_true c3
     clear c3
     by_cases c4 : x8_1 < (l0.length : Int)
     ·rw [if_pos c4] at H
      have c4b0 : decide (x8_1 < (l0.length : Int)) = true := decide_eq_true c4
      clear c4
      replace H := Option.bind_eq_some_iff.mp H
      obtain ⟨t123, A50, H⟩ := H
      replace H : (if okF t123.re = true then (if okF t123.im = true then (if x3_1.length < 8796093022208 then (beat_seals.l0 k1 (x3_1 ++ [(⟨t123.re, t123.im⟩ : S26)]) l0 (l0.length : Int) (wrap64 (x8_1 + 1))) else (none)) else (none)) else (none)) = some r := H
      have A5 := Aside0.mk A50
      clear A50
      by_cases c6 : okF t123.re = true
      ·rw [if_pos c6] at H
       have c6b0 := eq_true c6
       have c6b1 : decide (okF t123.re = true) = true := decide_eq_true c6
       clear c6
       by_cases c7 : okF t123.im = true
       ·rw [if_pos c7] at H
        have c7b0 := eq_true c7
        have c7b1 : decide (okF t123.im = true) = true := decide_eq_true c7
        clear c7
        by_cases c8 : x3_1.length < 8796093022208
        ·rw [if_pos c8] at H
         have LMc8 := Aside0.mk c8
         clear c8
         obtain ⟨y124, hy124⟩ : ∃ y_ : List (S26), y_ = (x3_1 ++ [(⟨t123.re, t123.im⟩ : S26)]) := ⟨_, rfl⟩
         replace H : (beat_seals.l0 k1 y124 l0 (l0.length : Int) (wrap64 (x8_1 + 1))) = some r := by first | (rw [hy124]; with_reducible exact H) | (have H2_ := (Option.bind_some _ _).symm.trans H; rw [hy124]; with_reducible exact H2_) | (have H2_ := (Option.bind_some _ _).symm.trans H; with_reducible exact H2_) | with_reducible exact H | (rw [hy124]; exact H) | exact H
         have Ny124 := Aside0.mk hy124
         clear hy124
         have H' := Aside0.mk H
         clear H
         have p122 : 0 ≤ (x8_1 : Int) := of_decide_eq_true (by first | (with_reducible assumption) | assumption)
         have q122 : x8_1 < (l0.length : Int) := of_decide_eq_true (by first | (with_reducible assumption) | assumption)
         obtain ⟨ad122, e122, hx122_0⟩ := at_cx HR0.out x8_1 p122 q122
         cases e122
         replace hx122_0 := (HB.out.cell (World.block_lt_of_cell? w _ hx122_0)).trans hx122_0
         replace p122 := eq_true p122
         replace q122 := eq_true q122
         go_wp2_with (first | ((with_reducible refine gate_callee (f := 50) rfl ?_); refine goesL_ (some 13) rfl rfl Try.func50 (by kernel_rfl) rfl #[.complex .f64 (fl (rdOf G.zero l0 x8_1).re) (fl (rdOf G.zero l0 x8_1).im)] rfl (by (try simp only [List.map_toArray, List.map_cons, List.map_nil]); first | done | rfl | (simp only [List.length_drop, List.length_take]; rfl)) ?_; (with_reducible refine (beat_rest.calls (rdOf G.zero l0 x8_1) t123 _ A5.out).mono ?_); rintro e w9 ⟨rfl, hb⟩; refine ⟨_, rfl, ?_⟩; have n0_ := Aside0.mk (Kd.R_below (by (with_reducible repeat (first | apply Kd.R_alloc | apply Kd.R_drewN | apply Kd.R_drew)); exact HO_3.out) hb); have n1_ := Aside0.mk (below_step (by repeat (first | (with_reducible first | exact HB.out | apply below_alloc | apply pw_below_drewN | apply below_drew1) | exact HB.out)) hb); clear HO_3; clear HB; have HO_3 := n0_; have HB := n1_; clear n0_ n1_; (try clear hb); (try clear hb2); (try clear hk); (try clear hi)) | ((with_reducible refine gate_builtin (b := .append) (xs := #[.tmp 14, .tmp 22]) rfl ?_); at_builtin; refine Kd.R_append k26 (w0 := w) w.heap.size rfl (.tmp 14) (.tmp 22) 22 26 (.agg #[(.int .i64 0), (.int .i64 0)]) 16 rfl Try.underlying22 info26 rfl (by decide) (by omega) u3 x3_1 (⟨t123.re, t123.im⟩ : S26) [.int .i64 t123.re, .int .i64 t123.im] (fun _ => True) (fun _ => False) rfl rfl ?aP (fun _ hk => hk.elim) ?aF ?aO ?aB ?aS ?aL ?_; (case aP => exact k26_mkM _ _ _ (⟨t123.re, t123.im⟩ : S26)); (case aB => exact (by repeat (first | (with_reducible first | exact HB.out | apply below_alloc | apply pw_below_drewN | apply below_drew1) | exact HB.out))); (case aF => exact (fun _ _ => trivial)); (case aO => exact (by (with_reducible repeat (first | apply Kd.R_alloc | apply Kd.R_drewN | apply Kd.R_drew)); exact HO_3.out)); (case aS => exact (below_size (by repeat (first | (with_reducible first | exact HB.out | apply below_alloc | apply pw_below_drewN | apply below_drew1) | exact HB.out)))); (case aL => have := LMc8.out; omega); intro v125 w10 ho hb hg hat; rw [← Ny124.out] at ho; have n0_ := Aside0.mk (hb); have n1_ := Aside0.mk (ho); clear HB; clear HO_3; have HB := n0_; have HO126 := n1_; clear n0_ n1_; clear ho hb hg hat))
         go_roundg k1
         case measure => have := HK1.out; omega
         case rel => exact ⟨(y124), (wrap64 (x8_1 + 1)), (by first | rfl | (simp; done) | (simp [*]; done) | (simp [Int.tdiv_eq_ediv_of_nonneg]; done)), H', ⟨by have := HK1.out; omega⟩, ⟨by (with_reducible repeat (first | apply Kd.R_alloc | apply Kd.R_drewN | apply Kd.R_drew)); exact HO126.out⟩, ⟨by repeat (first | (with_reducible first | exact HB.out | apply below_alloc | apply pw_below_drewN | apply below_drew1) | exact HB.out)⟩⟩
        ·rw [if_neg c8] at H
         exact absurd H (by simp)
       ·rw [if_neg c7] at H
        exact absurd H (by simp)
      ·rw [if_neg c6] at H
       exact absurd H (by simp)
     ·rw [if_neg c4] at H
      exact absurd H (by simp)
    ·rw [if_neg c3] at H
     exact absurd H (by simp)
   ·rw [if_neg c2] at H
    have c2b0 : decide (x8_1 < (l0.length : Int)) = false := decide_eq_false c2
    clear c2
    obtain rfl := Option.some.inj H
    go_wp2
    go_ret
    exact ⟨_, by first | rfl | (simp [errW_none, errW_some] <;> rfl) | (simp [*, errW_none, errW_some] <;> rfl), by (with_reducible repeat (first | apply Kd.R_alloc | apply Kd.R_drewN | apply Kd.R_drew)); exact HO_3.out, by repeat (first | (with_reducible first | exact HB.out | apply below_alloc | apply pw_below_drewN | apply below_drew1) | exact HB.out)⟩

end Go.Proofs.YtkilnknndglmnaaP
end

section
/- Laws for a scope in which the run jumps back to one label: the label's rest is a loop. No program in sight. -/
namespace Go.Proofs.Ytkilnknndglmnaa

section
variable {P : Program} {Q : Exit → Act → World → Prop}

theorem jump_mono {l : Nat} {J J' : Act → World → Prop} (h : ∀ a w, J a w → J' a w) {e : Exit} {a : Act} {w : World} (hq : Exit.jump l J Q e a w) : Exit.jump l J' Q e a w := by
  cases e with
  | goto l' => exact ⟨hq.1, h _ _ hq.2⟩
  | normal => exact hq
  | exit id => exact hq
  | ret => exact hq
  | panic ch => exact hq
  | outgrown => exact hq
theorem wp_mono' {c : Code} {Q' : Exit → Act → World → Prop} {a : Act} {w : World} (h : c.wp P Q a w) (hq : ∀ e a w, Q e a w → Q' e a w) : c.wp P Q' a w := fun b k cs => by
  obtain ⟨e, a₁, w₁, h1, h2⟩ := h b k cs
  exact ⟨e, a₁, w₁, hq _ _ _ h1, h2⟩

/-- From here at most n jumps to the label lead to the end. -/
def Jumps (P : Program) (rest : Code) (l : Nat) (Q : Exit → Act → World → Prop) : Nat → Act → World → Prop
  | 0 => fun a w => rest.wp P (Exit.jump l (fun _ _ => False) Q) a w
  | n + 1 => fun a w => rest.wp P (Exit.jump l (Jumps P rest l Q n) Q) a w
theorem jumps_more {rest : Code} {l : Nat} {n : Nat} : ∀ {a : Act} {w : World}, Jumps P rest l Q n a w → Jumps P rest l Q (n + 1) a w := by
  induction n with
  | zero => exact fun h => wp_mono' h fun e a w hq => jump_mono (fun _ _ hf => hf.elim) hq
  | succ n ih => exact fun h => wp_mono' h fun e a w hq => jump_mono (fun _ _ hf => ih hf) hq
theorem jumps_le {rest : Code} {l : Nat} {n m : Nat} (h : n ≤ m) {a : Act} {w : World} (hj : Jumps P rest l Q n a w) : Jumps P rest l Q m a w := by
  induction h with
  | refl => exact hj
  | step _ ih => exact jumps_more ih
theorem wp_scope_label {c rest : Code} {l : Nat} (hf : findLabel c l = some rest) {a : Act} {w : World} (first : c.wp P (Exit.jump l (fun a w => ∃ n, Jumps P rest l Q n a w) Q) a w) : (Code.scope c).wp P Q a w := by
  refine wp_scope_jumps l (fun a w => ∃ n, Jumps P rest l Q n a w) (fun a w => leastOf fun n => Jumps P rest l Q n a w) hf first ?_
  intro a w hJ
  obtain ⟨h1, h2⟩ := leastOf_spec hJ
  generalize (leastOf fun n => Jumps P rest l Q n a w) = m at *
  cases m with
  | zero => exact wp_mono' h1 fun e a w hq => jump_mono (fun _ _ hf => hf.elim) hq
  | succ m => exact wp_mono' h1 fun e a' w' hq => jump_mono (fun a'' w'' hj => ⟨⟨m, hj⟩, Nat.lt_succ_of_le ((leastOf_spec ⟨m, hj⟩).2 m hj)⟩) hq

theorem label_loop {rest : Code} {l : Nat} (I : Nat → Act → World → Prop) (round : ∀ k a w, I k a w → rest.wp P (Exit.jump l (fun a' w' => ∃ k', k' < k ∧ I k' a' w') Q) a w) : ∀ k a w, I k a w → Jumps P rest l Q k a w := by
  intro k
  induction k using Nat.strongRecOn with
  | _ k ih =>
    intro a w hI
    have h := round k a w hI
    cases k with
    | zero => exact wp_mono' h fun e a w hq => jump_mono (fun _ _ ⟨k', hlt, _⟩ => absurd hlt (Nat.not_lt_zero _)) hq
    | succ k => exact wp_mono' h fun e a w hq => jump_mono (fun _ _ ⟨k', hlt, hI'⟩ => jumps_le (Nat.le_of_lt_succ hlt) (ih k' hlt _ _ hI')) hq
/-- At the label: what holds there at each time, and one time through. -/
theorem wp_at_label {rest : Code} {l : Nat} (I : Nat → Act → World → Prop) (n : Nat) {a : Act} {w : World} (start : I n a w) (round : ∀ k a w, I k a w → rest.wp P (Exit.jump l (fun a' w' => ∃ k', k' < k ∧ I k' a' w') Q) a w) :
    rest.wp P (Exit.jump l (fun a w => ∃ n, Jumps P rest l Q n a w) Q) a w := by
  have h := label_loop I round n a w start
  cases n with
  | zero => exact wp_mono' h fun e a w hq => jump_mono (fun _ _ hf => hf.elim) hq
  | succ n => exact wp_mono' h fun e a w hq => jump_mono (fun _ _ hj => ⟨n, hj⟩) hq
theorem wp_skip_seq {rest : Code} {a : Act} {w : World} (h : rest.wp P Q a w) : (Code.skip.seq rest).wp P Q a w := wp_seq (wp_skip h)
theorem wp_at_label_skip {rest : Code} {l : Nat} (I : Nat → Act → World → Prop) (n : Nat) {a : Act} {w : World} (start : I n a w) (round : ∀ k a w, I k a w → rest.wp P (Exit.jump l (fun a' w' => ∃ k', k' < k ∧ I k' a' w') Q) a w) :
    rest.wp P (Exit.jump l (fun a w => ∃ n, Jumps P (Code.skip.seq rest) l Q n a w) Q) a w := by
  have h := round n a w start
  exact wp_mono' h fun e a' w' hq => jump_mono (fun a'' w'' ⟨k', _, hI'⟩ => ⟨k', label_loop (rest := Code.skip.seq rest) I (fun k a w hI => wp_skip_seq (round k a w hI)) k' a'' w'' hI'⟩) hq
theorem jump_ret {l : Nat} {J : Act → World → Prop} {a : Act} {w : World} : Exit.jump l J Q .ret a w = Q .ret a w := rfl
theorem then_jump_goto {l : Nat} {K J : Act → World → Prop} {a : Act} {w : World} (h : J a w) : Exit.then K (Exit.jump l J Q) (.goto l) a w := ⟨rfl, h⟩
theorem jump_goto {l : Nat} {J : Act → World → Prop} {a : Act} {w : World} (h : J a w) : Exit.jump l J Q (.goto l) a w := ⟨rfl, h⟩
end

#print axioms wp_scope_label
#print axioms wp_at_label
end Go.Proofs.Ytkilnknndglmnaa
end

section
-- Laid by given.py, a program of this seat, with the kit's printer.
namespace Go.Proofs.YtkilnknndglmnaaP
open Go.Proofs.Ytkilnknndglmnaa (wp_scope_label wp_at_label_skip jump_ret jump_goto then_jump_goto G fl IsS isSB okC okF okC_iff encC kcx at_cx md red run_cmul run_cadd run_csub run_fint lit_one lit_zero tdiv_32 run_store_cx)
attribute [local go_sem] run_cmul run_cadd run_csub run_fint lit_one lit_zero tdiv_32 run_store_cx
open Go.RowKit Go.Proofs.YtkilnknndglmnaaW.PrintWords Go.Proofs.YtkilnknndglmnaaW.PrintLast Go.Proofs.YtkilnknndglmnaaW.PrintMore
attribute [local go_sem] max2_int min2_int max_two min_two max_three min_three max_four min_four   -- for this text's walks alone
set_option linter.unusedVariables false
set_option linter.unusedSimpArgs false

/-! ### beat_halve: function 34 -/
mutual
def beat_halve.l0 : Nat → G → Int → List G → List G → List G → Int → Int → Option (List G)
 | 0, _, _, _, _, _, _, _ => none
 | k + 1, x1, x5, x6, x7, x20, x21, x22 => if x22 < x21 then (if 0 ≤ x22 then (if x22 < (x20.length : Int) then (if (Int.tmod x22 2) = 0 then (if x6.length < 8796093022208 then (beat_halve.l0 k x1 x5 (x6 ++ [rdOf G.zero x20 x22]) x7 x20 x21 (wrap64 (x22 + 1))) else (none)) else (if x7.length < 8796093022208 then (beat_halve.l0 k x1 x5 x6 (x7 ++ [rdOf G.zero x20 x22]) x20 x21 (wrap64 (x22 + 1))) else (none))) else (none)) else (none)) else (if okC x1 x1 = true then ((beat_rest.f (G.mul x1 x1)).bind fun t134 => ((beat_halve.f k x6 t134).bind fun t135 => ((beat_halve.f k x7 t134).bind fun t138 => (if 0 ≤ x5 then (if (x5 : Int).toNat ≤ 17592186044416 then (beat_halve.l1 k x1 x5 t135 t138 (List.replicate (x5 : Int).toNat G.zero) G.one 0) else (none)) else (none))))) else (none))
def beat_halve.l1 : Nat → G → Int → List G → List G → List G → G → Int → Option (List G)
 | 0, _, _, _, _, _, _, _ => none
 | k + 1, x1, x5, x6, x7, x11, x12, x13 => if 0 ≤ x13 then (if x13 < (x7.length : Int) then (if okC x12 (rdOf G.zero x7 x13) = true then ((beat_rest.f (G.mul x12 (rdOf G.zero x7 x13))).bind fun t145 => (if x13 < (x6.length : Int) then (if okC (rdOf G.zero x6 x13) t145 = true then ((beat_rest.f (G.add (rdOf G.zero x6 x13) t145)).bind fun t147 => ((beat_rest.f (G.sub (rdOf G.zero x6 x13) t145)).bind fun t149 => (if x13 < (x11.length : Int) then (if 0 ≤ (wrap64 (x13 + (wrap64 (Int.tdiv x5 2)))) then (if (wrap64 (x13 + (wrap64 (Int.tdiv x5 2)))) < (x11.length : Int) then ((some ((x11.set (x13 : Int).toNat t147).set ((wrap64 (x13 + (wrap64 (Int.tdiv x5 2)))) : Int).toNat t149 : List G)).bind fun y151 => (if okC x12 x1 = true then ((beat_rest.f (G.mul x12 x1)).bind fun t152 => (if (wrap64 (x13 + 1)) < (wrap64 (Int.tdiv x5 2)) then (beat_halve.l1 k x1 x5 x6 x7 y151 t152 (wrap64 (x13 + 1))) else (some y151))) else (none))) else (none)) else (none)) else (none)))) else (none)) else (none))) else (none)) else (none)) else (none)
def beat_halve.f : Nat → List G → G → Option (List G)
 | 0, _, _ => none
 | k + 1, l0, a1 => if (l0.length : Int) = 1 then (some l0) else (beat_halve.l0 k a1 (l0.length : Int) ([] : List G) ([] : List G) l0 (l0.length : Int) 0)
end
theorem beat_halve.mono_l : ∀ k, (∀ y0 y1, LeO (beat_halve.f k y0 y1) (beat_halve.f (k + 1) y0 y1)) ∧ (∀ y0 y1 y2 y3 y4 y5 y6, LeO (beat_halve.l0 k y0 y1 y2 y3 y4 y5 y6) (beat_halve.l0 (k + 1) y0 y1 y2 y3 y4 y5 y6)) ∧ (∀ y0 y1 y2 y3 y4 y5 y6, LeO (beat_halve.l1 k y0 y1 y2 y3 y4 y5 y6) (beat_halve.l1 (k + 1) y0 y1 y2 y3 y4 y5 y6))
 | 0 => ⟨fun _ _ r h => by simp [beat_halve.f] at h, fun _ _ _ _ _ _ _ r h => by simp [beat_halve.l0] at h, fun _ _ _ _ _ _ _ r h => by simp [beat_halve.l1] at h⟩
 | k + 1 => by
  obtain ⟨ih0, ih1, ih2⟩ := beat_halve.mono_l k
  refine ⟨?_, ?_, ?_⟩
  ·intro y0 y1
   unfold beat_halve.f
   repeat' first
   | (with_reducible exact ih0 _ _)
   | (with_reducible exact ih1 _ _ _ _ _ _ _)
   | (with_reducible exact ih2 _ _ _ _ _ _ _)
   | (with_reducible exact LeO.refl _)
   | (with_reducible exact LeO.none _)
   | (with_reducible refine LeO.ite ?_ ?_)
   | (with_reducible refine LeO.bind ?_ (fun _ => ?_))
   | exact ih0 _ _
   | exact ih1 _ _ _ _ _ _ _
   | exact ih2 _ _ _ _ _ _ _
   | exact LeO.none _
   | refine LeO.ite ?_ ?_
   | refine LeO.bind ?_ (fun _ => ?_)
  ·intro y0 y1 y2 y3 y4 y5 y6
   unfold beat_halve.l0
   repeat' first
   | (with_reducible exact ih0 _ _)
   | (with_reducible exact ih1 _ _ _ _ _ _ _)
   | (with_reducible exact ih2 _ _ _ _ _ _ _)
   | (with_reducible exact LeO.refl _)
   | (with_reducible exact LeO.none _)
   | (with_reducible refine LeO.ite ?_ ?_)
   | (with_reducible refine LeO.bind ?_ (fun _ => ?_))
   | exact ih0 _ _
   | exact ih1 _ _ _ _ _ _ _
   | exact ih2 _ _ _ _ _ _ _
   | exact LeO.none _
   | refine LeO.ite ?_ ?_
   | refine LeO.bind ?_ (fun _ => ?_)
  ·intro y0 y1 y2 y3 y4 y5 y6
   unfold beat_halve.l1
   repeat' first
   | (with_reducible exact ih0 _ _)
   | (with_reducible exact ih1 _ _ _ _ _ _ _)
   | (with_reducible exact ih2 _ _ _ _ _ _ _)
   | (with_reducible exact LeO.refl _)
   | (with_reducible exact LeO.none _)
   | (with_reducible refine LeO.ite ?_ ?_)
   | (with_reducible refine LeO.bind ?_ (fun _ => ?_))
   | exact ih0 _ _
   | exact ih1 _ _ _ _ _ _ _
   | exact ih2 _ _ _ _ _ _ _
   | exact LeO.none _
   | refine LeO.ite ?_ ?_
   | refine LeO.bind ?_ (fun _ => ?_)
theorem beat_halve.mono : ∀ a0 a1 k, LeO (beat_halve.f k a0 a1) (beat_halve.f (k + 1) a0 a1) := by
 intro a0 a1 k
 obtain ⟨ih0, ih1, ih2⟩ := beat_halve.mono_l k
 exact ih0 a0 a1
def beat_halve.T17 : Bool × List (List Nat × List Nat) := (true, [([], []), ([], []), ([], []), ([], []), ([], []), ([4], [4]), ([3, 5], [3, 5]), ([], []), ([], []), ([7, 8], [7, 8]), ([9], [9]), ([], []), ([10, 11], [10, 11]), ([12], [12]), ([], []), ([], []), ([14, 15], [14, 15]), ([16], [16]), ([], []), ([17, 18], [17, 18]), ([19, 13], [19]), ([0, 1, 0, 1, 7, 8, 9, 10, 11, 12, 13, 17, 20], [0, 1]), ([21, 13, 20, 0, 1, 7, 8, 9, 10, 11, 12, 13, 17, 20], [13, 21]), ([2, 6, 0, 1, 2, 3, 4, 5, 6, 7, 8, 9, 10, 11, 12, 13, 14, 15, 16, 17, 18, 19, 20, 21, 22], [2, 6]), ([23, 20, 22, 0, 1, 2, 3, 4, 5, 6, 7, 8, 9, 10, 11, 12, 13, 14, 15, 16, 17, 18, 19, 20, 21, 22], [20, 23])])
def beat_halve.B17 : List Nat := [0, 0, 0, 0, 0, 16, 56, 0, 0, 384, 896, 0, 3968, 8064, 0, 0, 49152, 114688, 0, 507904, 1048448, 2097027, 4194179, 8388607, 16777215]
theorem beat_halve.tab17 : rtab .any (opsOf Try.f34 17) = beat_halve.T17 := by kernel_rfl
theorem beat_halve.bits17 : waitsOk beat_halve.T17.2 beat_halve.B17 = true := by kernel_rfl
set_option maxHeartbeats 8000000 in
set_option maxRecDepth 100000 in
theorem beat_halve.calls (k : Nat) : ∀ (P0_ : Nat → Prop) (u9000_ : Value) (l0 : List G) (a1 : G) (r : List G) (w0 w : World) (hB : Below w0.heap.size w0 w) (ho0 : Kd.R kcx 57 w w0.heap.size P0_ u9000_ l0) (h : beat_halve.f k l0 a1 = some r),
  Calls Try.prog 34 #[u9000_, .complex .f64 (fl a1.re) (fl a1.im)] w fun e w' => ∃ v0_ : Value, e = .returned (v0_) ∧ Kd.R kcx 57 w' w0.heap.size (fun k_ => (P0_ k_ ∨ w.heap.size ≤ k_)) v0_ r ∧ Below w0.heap.size w0 w' ∧ Kept w w' (fun k_ => P0_ k_) := by
 induction k using Nat.strongRecOn with
 | _ k ih =>
 intro P0_ u9000_ l0 a1 r w0 w hB ho0 h
 cases k with
 | zero => exact absurd h (by simp [beat_halve.f])
 | succ k =>
 simp only [beat_halve.f] at h
 have HO0 := Aside0.mk (show Kd.R kcx 57 w w0.heap.size (fun k_ => (P0_ k_ ∨ w.heap.size ≤ k_)) u9000_ l0 from Kd.R_mono ho0 (fun k_ hk => (.inl hk)))
 have HK := Aside0.mk (Kept.refl w (fun k_ => P0_ k_))
 have HW0 := Aside0.mk hB.size
 have HB := Aside0.mk hB
 clear hB
 have H : (if (l0.length : Int) = 1 then (some l0) else (beat_halve.l0 k a1 (l0.length : Int) ([] : List G) ([] : List G) l0 (l0.length : Int) 0)) = some r := h
 clear h
 by_cases c3 : (l0.length : Int) = 1
 ·rw [if_pos c3] at H
  have c3b0 : ((l0.length : Int) == 1) = true := beq_iff_eq.mpr c3
  have c3b1 : ((l0.length : Int) != 1) = false := bne_eq_false_iff_eq.mpr c3
  clear c3
  obtain rfl := Option.some.inj H
  obtain ⟨Ao4, co4, eo4⟩ := Kd.R_slice HO0.out
  subst eo4
  go_enter Try.func34, Try.ntmps34
  go_wp2
  refine wp_scope_label (l := 0) rfl ?_
  go_wp2
  try rw [jump_ret]
  go_ret
  exact ⟨_, by first | rfl | (simp [errW_none, errW_some] <;> rfl) | (simp [*, errW_none, errW_some] <;> rfl), by (with_reducible repeat (first | apply Kd.R_alloc | apply Kd.R_drewN | apply Kd.R_drew)); exact HO0.out, by repeat (first | (with_reducible first | exact HB.out | apply below_alloc | apply pw_below_drewN | apply below_drew1) | exact HB.out), by repeat (first | (with_reducible first | exact HK.out | apply Kept.alloc | apply Kept.drewN | apply Kept.drew) | exact HK.out)⟩
 ·rw [if_neg c3] at H
  have c3b0 : ((l0.length : Int) == 1) = false := beq_eq_false_iff_ne.mpr c3
  have c3b1 : ((l0.length : Int) != 1) = true := bne_iff_ne.mpr c3
  have H' := Aside0.mk H
  clear H
  obtain ⟨Ao5, co5, eo5⟩ := Kd.R_slice HO0.out
  subst eo5
  go_enter Try.func34, Try.ntmps34
  go_wp2
  refine wp_scope_label (l := 0) rfl ?_
  go_wp2
  go_loopg [6, 7, 22] k (fun kq v6 v7 v22 w' => ∃ (x6_1 : List G) (x7_1 : List G) (x22_1 : Int), v22 = .int .i64 x22_1 ∧ Aside0 (beat_halve.l0 kq a1 (l0.length : Int) x6_1 x7_1 l0 (l0.length : Int) x22_1 = some r) ∧ Aside0 (kq ≤ k) ∧ Aside0 (Kd.R kcx 57 w' w0.heap.size (fun k_ => (P0_ k_ ∨ w.heap.size ≤ k_) ∧ some k_ ≠ (v7 : Value).ownBlock ∧ some k_ ≠ ((.slice Ao5 l0.length co5) : Value).ownBlock) v6 x6_1) ∧ Aside0 (Kd.R kcx 57 w' w0.heap.size (fun k_ => (P0_ k_ ∨ w.heap.size ≤ k_) ∧ some k_ ≠ (v6 : Value).ownBlock ∧ some k_ ≠ ((.slice Ao5 l0.length co5) : Value).ownBlock) v7 x7_1) ∧ Aside0 (Kd.R kcx 57 w' w0.heap.size (fun k_ => (P0_ k_ ∨ w.heap.size ≤ k_) ∧ some k_ ≠ (v6 : Value).ownBlock ∧ some k_ ≠ (v7 : Value).ownBlock) (.slice Ao5 l0.length co5) l0) ∧ Aside0 (Kept w w' (fun k_ => P0_ k_)) ∧ Aside0 (Below w0.heap.size w0 w'))
  case atStart => exact ⟨(([] : List G)), (([] : List G)), (0), (by first | rfl | (simp; done) | (simp [*]; done) | (simp [Int.tdiv_eq_ediv_of_nonneg]; done)), H', ⟨Nat.le_refl _⟩, ⟨by first | exact Kd.R_nil _ _ _ _ _ | exact Kd.N_nil _ _ _ _ _ | exact Kd.V_nil _ _ _ _ _ | exact Kd.Q_nil _ _ _ _ _ | exact Kd.S_nil _ _ _ _ _⟩, ⟨by first | exact Kd.R_nil _ _ _ _ _ | exact Kd.N_nil _ _ _ _ _ | exact Kd.V_nil _ _ _ _ _ | exact Kd.Q_nil _ _ _ _ _ | exact Kd.S_nil _ _ _ _ _⟩, ⟨by (with_reducible repeat (first | apply Kd.R_alloc | apply Kd.R_drewN | apply Kd.R_drew)); exact Kd.R_mono HO0.out (fun _ hk => ⟨hk, ⟨(by simp [Value.ownBlock]), (by simp [Value.ownBlock])⟩⟩)⟩, ⟨by repeat (first | (with_reducible first | exact HK.out | apply Kept.alloc | apply Kept.drewN | apply Kept.drew) | exact HK.out)⟩, ⟨by repeat (first | (with_reducible first | exact HB.out | apply below_alloc | apply pw_below_drewN | apply below_drew1) | exact HB.out)⟩⟩
  case round =>
   clear H'
   try clear p2
   try clear c3
   try clear c3b0
   try clear c3b1
   obtain ⟨x6_1, x7_1, x22_1, rfl, HA, HK1, HO_6, HO_7, HO_20, HK, HB⟩ := hrel
   cases gk with
   | zero => exact absurd HA.out (by simp [beat_halve.l0])
   | succ k1 =>
    have H := HA.out
    clear HA
    simp only [beat_halve.l0] at H
    by_cases c6 : x22_1 < (l0.length : Int)
    ·rw [if_pos c6] at H
     have c6b0 : decide (x22_1 < (l0.length : Int)) = true := decide_eq_true c6
     clear c6
     by_cases c7 : 0 ≤ x22_1
     ·rw [if_pos c7] at H
      have c7b0 : decide (0 ≤ x22_1) = true := decide_eq_true c7
      clear c7
      by_cases c8 : x22_1 < (l0.length : Int)
      ·rw [if_pos c8] at H
       have c8b0 : decide (x22_1 < (l0.length : Int)) = true := decide_eq_true c8
       clear c8
       by_cases c9 : (Int.tmod x22_1 2) = 0
       ·rw [if_pos c9] at H
        have c9b0 : ((Int.tmod x22_1 2) == 0) = true := beq_iff_eq.mpr c9
        have c9b1 : ((Int.tmod x22_1 2) != 0) = false := bne_eq_false_iff_eq.mpr c9
        clear c9
        by_cases c10 : x6_1.length < 8796093022208
        ·rw [if_pos c10] at H
         have LMc10 := Aside0.mk c10
         clear c10
         obtain ⟨y128, hy128⟩ : ∃ y_ : List G, y_ = (x6_1 ++ [rdOf G.zero l0 x22_1]) := ⟨_, rfl⟩
         replace H : (beat_halve.l0 k1 a1 (l0.length : Int) y128 x7_1 l0 (l0.length : Int) (wrap64 (x22_1 + 1))) = some r := by first | (rw [hy128]; with_reducible exact H) | (have H2_ := (Option.bind_some _ _).symm.trans H; rw [hy128]; with_reducible exact H2_) | (have H2_ := (Option.bind_some _ _).symm.trans H; with_reducible exact H2_) | with_reducible exact H | (rw [hy128]; exact H) | exact H
         have Ny128 := Aside0.mk hy128
         clear hy128
         have H' := Aside0.mk H
         clear H
         have p127 : 0 ≤ (x22_1 : Int) := of_decide_eq_true (by first | (with_reducible assumption) | assumption)
         have q127 : x22_1 < (l0.length : Int) := of_decide_eq_true (by first | (with_reducible assumption) | assumption)
         obtain ⟨ad127, e127, hx127_0⟩ := at_cx (Kd.R_reads' HO_20.out).2.2 x22_1 p127 q127
         cases e127
         replace p127 := eq_true p127
         replace q127 := eq_true q127
         go_wp2_with (first | ((with_reducible refine gate_builtin (b := .append) (xs := #[.tmp 30, .tmp 32]) rfl ?_); at_builtin; refine Kd.R_append kcx (w0 := w0) w0.heap.size rfl (.tmp 30) (.tmp 32) 52 57 (.complex .f64 0 0) 16 rfl Try.underlying52 info57 rfl (by decide) (by omega) u6 x6_1 (rdOf G.zero l0 x22_1) [.complex .f64 (fl (rdOf G.zero l0 x22_1).re) (fl (rdOf G.zero l0 x22_1).im)] (fun k_ => (P0_ k_ ∨ w.heap.size ≤ k_) ∧ some k_ ≠ (u7 : Value).ownBlock ∧ some k_ ≠ (.slice (some ad127) l0.length co5 : Value).ownBlock) (fun _ => False) rfl rfl ?aP (fun _ hk => hk.elim) ?aF ?aO ?aB ?aS ?aL ?_; (case aP => exact rfl); (case aB => exact (by repeat (first | (with_reducible first | exact HB.out | apply below_alloc | apply pw_below_drewN | apply below_drew1) | exact HB.out))); (case aF => exact (fun k_ hk => ⟨(.inr (Nat.le_trans (by first | exact HK.out.1 | exact (show Kept w _ (fun k_ => P0_ k_) from by repeat (first | (with_reducible first | exact HK.out | apply Kept.alloc | apply Kept.drewN | apply Kept.drew) | exact HK.out)).1) hk)), Kd.fresh' (Kd.R_lt (by (with_reducible repeat (first | apply Kd.R_alloc | apply Kd.R_drewN | apply Kd.R_drew)); exact HO_7.out)) k_ hk, Kd.fresh' (Kd.R_lt (by (with_reducible repeat (first | apply Kd.R_alloc | apply Kd.R_drewN | apply Kd.R_drew)); exact HO_20.out)) k_ hk⟩)); (case aO => exact (by (with_reducible repeat (first | apply Kd.R_alloc | apply Kd.R_drewN | apply Kd.R_drew)); exact HO_6.out)); (case aS => exact (below_size (by repeat (first | (with_reducible first | exact HB.out | apply below_alloc | apply pw_below_drewN | apply below_drew1) | exact HB.out)))); (case aL => have := LMc10.out; omega); intro v129 w11 ho hb hg hat; rw [← Ny128.out] at ho; have n0_ := Aside0.mk (Kd.R_after (ok := (fun k_ => (P0_ k_ ∨ w.heap.size ≤ k_) ∧ some k_ ≠ (.slice (some ad127) l0.length co5 : Value).ownBlock)) (by (with_reducible repeat (first | apply Kd.R_alloc | apply Kd.R_drewN | apply Kd.R_drew)); exact Kd.R_mono HO_7.out (fun _ hk => ⟨⟨hk.1, hk.2.2⟩, hk.2.1⟩)) hg hat); have n1_ := Aside0.mk (Kd.R_after (ok := (fun k_ => (P0_ k_ ∨ w.heap.size ≤ k_) ∧ some k_ ≠ (u7 : Value).ownBlock)) (by (with_reducible repeat (first | apply Kd.R_alloc | apply Kd.R_drewN | apply Kd.R_drew)); exact Kd.R_mono HO_20.out (fun _ hk => ⟨⟨hk.1, hk.2.2⟩, hk.2.1⟩)) hg hat); have n2_ := Aside0.mk (hb); have n3_ := Aside0.mk (Kept.of_grown (S := (fun k_ => P0_ k_)) hg (by repeat (first | (with_reducible first | exact HK.out | apply Kept.alloc | apply Kept.drewN | apply Kept.drew) | exact HK.out)) (fun k_ e_ => (HO_6.out.1 k_ e_).1)); have n4_ := Aside0.mk (ho); clear HO_7; clear HO_20; clear HB; clear HK; clear HO_6; have HO_7 := n0_; have HO_20 := n1_; have HB := n2_; have HK := n3_; have HO130 := n4_; clear n0_ n1_ n2_ n3_ n4_; clear ho hb hg hat))
         go_roundg k1
         case measure => have := HK1.out; omega
         case rel => exact ⟨(y128), (x7_1), (wrap64 (x22_1 + 1)), (by first | rfl | (simp; done) | (simp [*]; done) | (simp [Int.tdiv_eq_ediv_of_nonneg]; done)), H', ⟨by have := HK1.out; omega⟩, ⟨by (with_reducible repeat (first | apply Kd.R_alloc | apply Kd.R_drewN | apply Kd.R_drew)); exact HO130.out⟩, ⟨by (with_reducible repeat (first | apply Kd.R_alloc | apply Kd.R_drewN | apply Kd.R_drew)); exact Kd.R_mono HO_7.out (fun _ hk => ⟨hk.1.1, ⟨hk.2, hk.1.2⟩⟩)⟩, ⟨by (with_reducible repeat (first | apply Kd.R_alloc | apply Kd.R_drewN | apply Kd.R_drew)); exact Kd.R_mono HO_20.out (fun _ hk => ⟨hk.1.1, ⟨hk.2, hk.1.2⟩⟩)⟩, ⟨by repeat (first | (with_reducible first | exact HK.out | apply Kept.alloc | apply Kept.drewN | apply Kept.drew) | exact HK.out)⟩, ⟨by repeat (first | (with_reducible first | exact HB.out | apply below_alloc | apply pw_below_drewN | apply below_drew1) | exact HB.out)⟩⟩
        ·rw [if_neg c10] at H
         exact absurd H (by simp)
       ·rw [if_neg c9] at H
        have c9b0 : ((Int.tmod x22_1 2) == 0) = false := beq_eq_false_iff_ne.mpr c9
        have c9b1 : ((Int.tmod x22_1 2) != 0) = true := bne_iff_ne.mpr c9
        by_cases c12 : x7_1.length < 8796093022208
        ·rw [if_pos c12] at H
         have LMc12 := Aside0.mk c12
         clear c12
         obtain ⟨y131, hy131⟩ : ∃ y_ : List G, y_ = (x7_1 ++ [rdOf G.zero l0 x22_1]) := ⟨_, rfl⟩
         replace H : (beat_halve.l0 k1 a1 (l0.length : Int) x6_1 y131 l0 (l0.length : Int) (wrap64 (x22_1 + 1))) = some r := by first | (rw [hy131]; with_reducible exact H) | (have H2_ := (Option.bind_some _ _).symm.trans H; rw [hy131]; with_reducible exact H2_) | (have H2_ := (Option.bind_some _ _).symm.trans H; with_reducible exact H2_) | with_reducible exact H | (rw [hy131]; exact H) | exact H
         have Ny131 := Aside0.mk hy131
         clear hy131
         have H' := Aside0.mk H
         clear H
         have p127 : 0 ≤ (x22_1 : Int) := of_decide_eq_true (by first | (with_reducible assumption) | assumption)
         have q127 : x22_1 < (l0.length : Int) := of_decide_eq_true (by first | (with_reducible assumption) | assumption)
         obtain ⟨ad127, e127, hx127_0⟩ := at_cx (Kd.R_reads' HO_20.out).2.2 x22_1 p127 q127
         cases e127
         replace p127 := eq_true p127
         replace q127 := eq_true q127
         go_wp2_with (first | ((with_reducible refine gate_builtin (b := .append) (xs := #[.tmp 34, .tmp 36]) rfl ?_); at_builtin; refine Kd.R_append kcx (w0 := w0) w0.heap.size rfl (.tmp 34) (.tmp 36) 52 57 (.complex .f64 0 0) 16 rfl Try.underlying52 info57 rfl (by decide) (by omega) u7 x7_1 (rdOf G.zero l0 x22_1) [.complex .f64 (fl (rdOf G.zero l0 x22_1).re) (fl (rdOf G.zero l0 x22_1).im)] (fun k_ => (P0_ k_ ∨ w.heap.size ≤ k_) ∧ some k_ ≠ (u6 : Value).ownBlock ∧ some k_ ≠ (.slice (some ad127) l0.length co5 : Value).ownBlock) (fun _ => False) rfl rfl ?aP (fun _ hk => hk.elim) ?aF ?aO ?aB ?aS ?aL ?_; (case aP => exact rfl); (case aB => exact (by repeat (first | (with_reducible first | exact HB.out | apply below_alloc | apply pw_below_drewN | apply below_drew1) | exact HB.out))); (case aF => exact (fun k_ hk => ⟨(.inr (Nat.le_trans (by first | exact HK.out.1 | exact (show Kept w _ (fun k_ => P0_ k_) from by repeat (first | (with_reducible first | exact HK.out | apply Kept.alloc | apply Kept.drewN | apply Kept.drew) | exact HK.out)).1) hk)), Kd.fresh' (Kd.R_lt (by (with_reducible repeat (first | apply Kd.R_alloc | apply Kd.R_drewN | apply Kd.R_drew)); exact HO_6.out)) k_ hk, Kd.fresh' (Kd.R_lt (by (with_reducible repeat (first | apply Kd.R_alloc | apply Kd.R_drewN | apply Kd.R_drew)); exact HO_20.out)) k_ hk⟩)); (case aO => exact (by (with_reducible repeat (first | apply Kd.R_alloc | apply Kd.R_drewN | apply Kd.R_drew)); exact HO_7.out)); (case aS => exact (below_size (by repeat (first | (with_reducible first | exact HB.out | apply below_alloc | apply pw_below_drewN | apply below_drew1) | exact HB.out)))); (case aL => have := LMc12.out; omega); intro v132 w13 ho hb hg hat; rw [← Ny131.out] at ho; have n0_ := Aside0.mk (Kd.R_after (ok := (fun k_ => (P0_ k_ ∨ w.heap.size ≤ k_) ∧ some k_ ≠ (.slice (some ad127) l0.length co5 : Value).ownBlock)) (by (with_reducible repeat (first | apply Kd.R_alloc | apply Kd.R_drewN | apply Kd.R_drew)); exact Kd.R_mono HO_6.out (fun _ hk => ⟨⟨hk.1, hk.2.2⟩, hk.2.1⟩)) hg hat); have n1_ := Aside0.mk (Kd.R_after (ok := (fun k_ => (P0_ k_ ∨ w.heap.size ≤ k_) ∧ some k_ ≠ (u6 : Value).ownBlock)) (by (with_reducible repeat (first | apply Kd.R_alloc | apply Kd.R_drewN | apply Kd.R_drew)); exact Kd.R_mono HO_20.out (fun _ hk => ⟨⟨hk.1, hk.2.1⟩, hk.2.2⟩)) hg hat); have n2_ := Aside0.mk (hb); have n3_ := Aside0.mk (Kept.of_grown (S := (fun k_ => P0_ k_)) hg (by repeat (first | (with_reducible first | exact HK.out | apply Kept.alloc | apply Kept.drewN | apply Kept.drew) | exact HK.out)) (fun k_ e_ => (HO_7.out.1 k_ e_).1)); have n4_ := Aside0.mk (ho); clear HO_6; clear HO_20; clear HB; clear HK; clear HO_7; have HO_6 := n0_; have HO_20 := n1_; have HB := n2_; have HK := n3_; have HO133 := n4_; clear n0_ n1_ n2_ n3_ n4_; clear ho hb hg hat))
         go_roundg k1
         case measure => have := HK1.out; omega
         case rel => exact ⟨(x6_1), (y131), (wrap64 (x22_1 + 1)), (by first | rfl | (simp; done) | (simp [*]; done) | (simp [Int.tdiv_eq_ediv_of_nonneg]; done)), H', ⟨by have := HK1.out; omega⟩, ⟨by (with_reducible repeat (first | apply Kd.R_alloc | apply Kd.R_drewN | apply Kd.R_drew)); exact Kd.R_mono HO_6.out (fun _ hk => ⟨hk.1.1, ⟨hk.2, hk.1.2⟩⟩)⟩, ⟨by (with_reducible repeat (first | apply Kd.R_alloc | apply Kd.R_drewN | apply Kd.R_drew)); exact HO133.out⟩, ⟨by (with_reducible repeat (first | apply Kd.R_alloc | apply Kd.R_drewN | apply Kd.R_drew)); exact Kd.R_mono HO_20.out (fun _ hk => ⟨hk.1.1, ⟨hk.1.2, hk.2⟩⟩)⟩, ⟨by repeat (first | (with_reducible first | exact HK.out | apply Kept.alloc | apply Kept.drewN | apply Kept.drew) | exact HK.out)⟩, ⟨by repeat (first | (with_reducible first | exact HB.out | apply below_alloc | apply pw_below_drewN | apply below_drew1) | exact HB.out)⟩⟩
        ·rw [if_neg c12] at H
         exact absurd H (by simp)
      ·rw [if_neg c8] at H
       exact absurd H (by simp)
     ·rw [if_neg c7] at H
      exact absurd H (by simp)
    ·rw [if_neg c6] at H
     have c6b0 : decide (x22_1 < (l0.length : Int)) = false := decide_eq_false c6
     clear c6
     by_cases c14 : okC a1 a1 = true
     ·rw [if_pos c14] at H
      have c14b0 := eq_true c14
      have c14b1 : decide (okC a1 a1 = true) = true := decide_eq_true c14
      clear c14
      replace H := Option.bind_eq_some_iff.mp H
      obtain ⟨t134, A150, H⟩ := H
      replace H : ((beat_halve.f k1 x6_1 t134).bind fun t135 => ((beat_halve.f k1 x7_1 t134).bind fun t138 => (if 0 ≤ (l0.length : Int) then (if ((l0.length : Int) : Int).toNat ≤ 17592186044416 then (beat_halve.l1 k1 a1 (l0.length : Int) t135 t138 (List.replicate ((l0.length : Int) : Int).toNat G.zero) G.one 0) else (none)) else (none)))) = some r := H
      have A15 := Aside0.mk A150
      clear A150
      replace H := Option.bind_eq_some_iff.mp H
      obtain ⟨t135, A160, H⟩ := H
      replace H : ((beat_halve.f k1 x7_1 t134).bind fun t138 => (if 0 ≤ (l0.length : Int) then (if ((l0.length : Int) : Int).toNat ≤ 17592186044416 then (beat_halve.l1 k1 a1 (l0.length : Int) t135 t138 (List.replicate ((l0.length : Int) : Int).toNat G.zero) G.one 0) else (none)) else (none))) = some r := H
      have A16 := Aside0.mk A160
      clear A160
      replace H := Option.bind_eq_some_iff.mp H
      obtain ⟨t138, A170, H⟩ := H
      replace H : (if 0 ≤ (l0.length : Int) then (if ((l0.length : Int) : Int).toNat ≤ 17592186044416 then (beat_halve.l1 k1 a1 (l0.length : Int) t135 t138 (List.replicate ((l0.length : Int) : Int).toNat G.zero) G.one 0) else (none)) else (none)) = some r := H
      have A17 := Aside0.mk A170
      clear A170
      by_cases c18 : 0 ≤ (l0.length : Int)
      ·rw [if_pos c18] at H
       have c18b0 := eq_true c18
       have c18b1 : decide (0 ≤ (l0.length : Int)) = true := decide_eq_true c18
       clear c18
       by_cases c19 : ((l0.length : Int) : Int).toNat ≤ 17592186044416
       ·rw [if_pos c19] at H
        have c19b0 := eq_true c19
        have c19b1 : decide (((l0.length : Int) : Int).toNat ≤ 17592186044416) = true := decide_eq_true c19
        clear c19
        obtain ⟨y141, hy141⟩ : ∃ y_ : List G, y_ = (List.replicate ((l0.length : Int) : Int).toNat G.zero) := ⟨_, rfl⟩
        replace H : (beat_halve.l1 k1 a1 (l0.length : Int) t135 t138 y141 G.one 0) = some r := by first | (rw [hy141]; with_reducible exact H) | (have H2_ := (Option.bind_some _ _).symm.trans H; rw [hy141]; with_reducible exact H2_) | (have H2_ := (Option.bind_some _ _).symm.trans H; with_reducible exact H2_) | with_reducible exact H | (rw [hy141]; exact H) | exact H
        have Ny141 := Aside0.mk hy141
        clear hy141
        have H' := Aside0.mk H
        clear H
        go_wp2_with (first | ((with_reducible refine gate_callee (f := 50) rfl ?_); refine goesL_ (some 42) rfl rfl Try.func50 (by kernel_rfl) rfl #[.complex .f64 (fl (G.mul a1 a1).re) (fl (G.mul a1 a1).im)] rfl (by (try simp only [List.map_toArray, List.map_cons, List.map_nil]); first | done | rfl | (simp only [List.length_drop, List.length_take]; rfl)) ?_; (with_reducible refine (beat_rest.calls (G.mul a1 a1) t134 _ A15.out).mono ?_); rintro e w20 ⟨rfl, hb⟩; refine ⟨_, rfl, ?_⟩; have n0_ := Aside0.mk (Kd.R_below (by (with_reducible repeat (first | apply Kd.R_alloc | apply Kd.R_drewN | apply Kd.R_drew)); exact HO_6.out) hb); have n1_ := Aside0.mk (Kd.R_below (by (with_reducible repeat (first | apply Kd.R_alloc | apply Kd.R_drewN | apply Kd.R_drew)); exact HO_7.out) hb); have n2_ := Aside0.mk (Kd.R_below (by (with_reducible repeat (first | apply Kd.R_alloc | apply Kd.R_drewN | apply Kd.R_drew)); exact HO_20.out) hb); have n3_ := Aside0.mk (Kept.below (S := (fun k_ => P0_ k_)) (by repeat (first | (with_reducible first | exact HK.out | apply Kept.alloc | apply Kept.drewN | apply Kept.drew) | exact HK.out)) hb); have n4_ := Aside0.mk (below_step (by repeat (first | (with_reducible first | exact HB.out | apply below_alloc | apply pw_below_drewN | apply below_drew1) | exact HB.out)) hb); clear HO_6; clear HO_7; clear HO_20; clear HK; clear HB; have HO_6 := n0_; have HO_7 := n1_; have HO_20 := n2_; have HK := n3_; have HB := n4_; clear n0_ n1_ n2_ n3_ n4_; (try clear hb); (try clear hb2); (try clear hk); (try clear hi); obtain ⟨Ao21, co21, eo21⟩ := Kd.R_slice HO_6.out; subst eo21) | ((with_reducible refine gate_callee (f := 34) rfl ?_); refine goesL_ (some 45) rfl rfl Try.func34 (by kernel_rfl) rfl #[.slice Ao21 x6_1.length co21, .complex .f64 (fl t134.re) (fl t134.im)] rfl (by (try simp only [List.map_toArray, List.map_cons, List.map_nil]); first | done | rfl | (simp only [List.length_drop, List.length_take]; rfl)) ?_; (with_reducible refine (ih k1 (by have := HK1.out; omega) (fun k_ => some k_ = (.slice Ao21 x6_1.length co21 : Value).ownBlock) (.slice Ao21 x6_1.length co21) x6_1 t134 t135 w0 _ ?side1 ?side2 A16.out).mono ?_); (case side1 => repeat (first | (with_reducible first | exact HB.out | apply below_alloc | apply pw_below_drewN | apply below_drew1) | exact HB.out)); (case side2 => exact Kd.R_tight rfl HO_6.out); rintro e w22 ⟨v136, rfl, ho0, hb, hkp⟩; refine ⟨_, rfl, ?_⟩; have n0_ := Aside0.mk (Kd.R_mono (ok' := fun k_ => (P0_ k_ ∨ w.heap.size ≤ k_) ∧ some k_ ≠ (.slice Ao5 l0.length co5 : Value).ownBlock ∧ some k_ ≠ (v136 : Value).ownBlock) (Kd.R_keptB (HO_7.out) hkp (fun k_ hk_ hs_ => (hk_.2.1) hs_)) (fun k_ hk_ => ⟨hk_.1.1, hk_.1.2.2, fun e_ => Or.elim (ho0.1 k_ e_.symm) (fun hs_ => hk_.2.1 hs_) (fun hn_ => Nat.not_le.2 hk_.2.2 hn_)⟩)); have n1_ := Aside0.mk (Kd.R_mono (ok' := fun k_ => (P0_ k_ ∨ w.heap.size ≤ k_) ∧ some k_ ≠ (u7 : Value).ownBlock ∧ some k_ ≠ (v136 : Value).ownBlock) (Kd.R_keptB (HO_20.out) hkp (fun k_ hk_ hs_ => (hk_.2.1) hs_)) (fun k_ hk_ => ⟨hk_.1.1, hk_.1.2.2, fun e_ => Or.elim (ho0.1 k_ e_.symm) (fun hs_ => hk_.2.1 hs_) (fun hn_ => Nat.not_le.2 hk_.2.2 hn_)⟩)); have n2_ := Aside0.mk (Kd.R_mono (ok' := fun k_ => (P0_ k_ ∨ w.heap.size ≤ k_) ∧ some k_ ≠ (u7 : Value).ownBlock ∧ some k_ ≠ (.slice Ao5 l0.length co5 : Value).ownBlock) ho0 (fun k_ hk_ => ⟨Or.elim hk_ (fun hs_ => (HO_6.out.1 k_ (hs_).symm).1) (fun hn_ => (.inr (Nat.le_trans (by first | exact HK.out.1 | exact (show Kept w _ (fun k_ => P0_ k_) from by repeat (first | (with_reducible first | exact HK.out | apply Kept.alloc | apply Kept.drewN | apply Kept.drew) | exact HK.out)).1) hn_))), Or.elim hk_ (fun hs_ => fun e_ => (((HO_7.out).1 k_ e_.symm).2.1) hs_) (fun hn_ => (Kd.fresh' (Kd.R_lt (by (with_reducible repeat (first | apply Kd.R_alloc | apply Kd.R_drewN | apply Kd.R_drew)); exact HO_7.out)) k_ hn_)), Or.elim hk_ (fun hs_ => fun e_ => (((HO_20.out).1 k_ e_.symm).2.1) hs_) (fun hn_ => (Kd.fresh' (Kd.R_lt (by (with_reducible repeat (first | apply Kd.R_alloc | apply Kd.R_drewN | apply Kd.R_drew)); exact HO_20.out)) k_ hn_))⟩)); have n3_ := Aside0.mk (Kept.then_ (S := (fun k_ => P0_ k_)) (by repeat (first | (with_reducible first | exact HK.out | apply Kept.alloc | apply Kept.drewN | apply Kept.drew) | exact HK.out)) hkp (fun k_ hs_ => (fun e_ => (HO_6.out.1 k_ e_.symm).1) hs_)); have n4_ := Aside0.mk (hb); clear HO_7; clear HO_20; clear HK; clear HB; clear HO_6; have HO_7 := n0_; have HO_20 := n1_; have HO137 := n2_; have HK := n3_; have HB := n4_; clear n0_ n1_ n2_ n3_ n4_; (try clear hb); (try clear hkp); (try clear ho0); obtain ⟨Ao23, co23, eo23⟩ := Kd.R_slice HO_7.out; subst eo23) | ((with_reducible refine gate_callee (f := 34) rfl ?_); refine goesL_ (some 48) rfl rfl Try.func34 (by kernel_rfl) rfl #[.slice Ao23 x7_1.length co23, .complex .f64 (fl t134.re) (fl t134.im)] rfl (by (try simp only [List.map_toArray, List.map_cons, List.map_nil]); first | done | rfl | (simp only [List.length_drop, List.length_take]; rfl)) ?_; (with_reducible refine (ih k1 (by have := HK1.out; omega) (fun k_ => some k_ = (.slice Ao23 x7_1.length co23 : Value).ownBlock) (.slice Ao23 x7_1.length co23) x7_1 t134 t138 w0 _ ?side1 ?side2 A17.out).mono ?_); (case side1 => repeat (first | (with_reducible first | exact HB.out | apply below_alloc | apply pw_below_drewN | apply below_drew1) | exact HB.out)); (case side2 => exact Kd.R_tight rfl HO_7.out); rintro e w24 ⟨v139, rfl, ho0, hb, hkp⟩; refine ⟨_, rfl, ?_⟩; have n0_ := Aside0.mk (Kd.R_mono (ok' := fun k_ => (P0_ k_ ∨ w.heap.size ≤ k_) ∧ some k_ ≠ (v136 : Value).ownBlock ∧ some k_ ≠ (v139 : Value).ownBlock) (Kd.R_keptB (HO_20.out) hkp (fun k_ hk_ hs_ => (hk_.2.1) hs_)) (fun k_ hk_ => ⟨hk_.1.1, hk_.1.2.2, fun e_ => Or.elim (ho0.1 k_ e_.symm) (fun hs_ => hk_.2.1 hs_) (fun hn_ => Nat.not_le.2 hk_.2.2 hn_)⟩)); have n1_ := Aside0.mk (Kd.R_mono (ok' := fun k_ => (P0_ k_ ∨ w.heap.size ≤ k_) ∧ some k_ ≠ (.slice Ao5 l0.length co5 : Value).ownBlock ∧ some k_ ≠ (v139 : Value).ownBlock) (Kd.R_keptB (HO137.out) hkp (fun k_ hk_ hs_ => (hk_.2.1) hs_)) (fun k_ hk_ => ⟨hk_.1.1, hk_.1.2.2, fun e_ => Or.elim (ho0.1 k_ e_.symm) (fun hs_ => hk_.2.1 hs_) (fun hn_ => Nat.not_le.2 hk_.2.2 hn_)⟩)); have n2_ := Aside0.mk (Kd.R_mono (ok' := fun k_ => (P0_ k_ ∨ w.heap.size ≤ k_) ∧ some k_ ≠ (.slice Ao5 l0.length co5 : Value).ownBlock ∧ some k_ ≠ (v136 : Value).ownBlock) ho0 (fun k_ hk_ => ⟨Or.elim hk_ (fun hs_ => (HO_7.out.1 k_ (hs_).symm).1) (fun hn_ => (.inr (Nat.le_trans (by first | exact HK.out.1 | exact (show Kept w _ (fun k_ => P0_ k_) from by repeat (first | (with_reducible first | exact HK.out | apply Kept.alloc | apply Kept.drewN | apply Kept.drew) | exact HK.out)).1) hn_))), Or.elim hk_ (fun hs_ => fun e_ => (((HO_20.out).1 k_ e_.symm).2.1) hs_) (fun hn_ => (Kd.fresh' (Kd.R_lt (by (with_reducible repeat (first | apply Kd.R_alloc | apply Kd.R_drewN | apply Kd.R_drew)); exact HO_20.out)) k_ hn_)), Or.elim hk_ (fun hs_ => fun e_ => (((HO137.out).1 k_ e_.symm).2.1) hs_) (fun hn_ => (Kd.fresh' (Kd.R_lt (by (with_reducible repeat (first | apply Kd.R_alloc | apply Kd.R_drewN | apply Kd.R_drew)); exact HO137.out)) k_ hn_))⟩)); have n3_ := Aside0.mk (Kept.then_ (S := (fun k_ => P0_ k_)) (by repeat (first | (with_reducible first | exact HK.out | apply Kept.alloc | apply Kept.drewN | apply Kept.drew) | exact HK.out)) hkp (fun k_ hs_ => (fun e_ => (HO_7.out.1 k_ e_.symm).1) hs_)); have n4_ := Aside0.mk (hb); clear HO_20; clear HO137; clear HK; clear HB; clear HO_7; have HO_20 := n0_; have HO137 := n1_; have HO140 := n2_; have HK := n3_; have HB := n4_; clear n0_ n1_ n2_ n3_ n4_; (try clear hb); (try clear hkp); (try clear ho0)) | ((with_reducible refine gate_dst (N := 50) rfl ?_); refine Kd.R_make kcx _ 57 rfl (N := 50) rfl 52 _ _ rfl (l0.length : Int) rfl rfl Try.underlying52 (.complex .f64 0 0) 16 info57 rfl (by decide) (by omega) G.zero (ok := fun _ => True) (okp := fun _ => True) rfl (fun _ hk => hk) trivial (of_decide_eq_true (by first | (with_reducible assumption) | assumption)) (Nat.le_trans (Nat.mul_le_mul_right _ (of_decide_eq_true (by first | (with_reducible assumption) | assumption) : (l0.length : Int).toNat ≤ 17592186044416)) (by omega)) (Below.refl _ _) (Nat.le_refl _) ?_; intro v142 w25 ho26 hb hg_ hnew_; clear hg_ hnew_; (first | rw [← Ny141.out] at ho26 | (simp only [Int.reduceToNat] at ho26; rw [← Ny141.out] at ho26)); have n0_ := Aside0.mk (Kd.R_elder' (by (with_reducible repeat (first | apply Kd.R_alloc | apply Kd.R_drewN | apply Kd.R_drew)); exact HO_20.out) (Kd.R_base ho26) hb); have n1_ := Aside0.mk (Kd.R_elder' (by (with_reducible repeat (first | apply Kd.R_alloc | apply Kd.R_drewN | apply Kd.R_drew)); exact HO137.out) (Kd.R_base ho26) hb); have n2_ := Aside0.mk (Kd.R_elder' (by (with_reducible repeat (first | apply Kd.R_alloc | apply Kd.R_drewN | apply Kd.R_drew)); exact HO140.out) (Kd.R_base ho26) hb); have n3_ := Aside0.mk (Kd.R_lower (Kd.R_new' (Kd.R_new' (Kd.R_new' (Kd.R_newM (M := fun k_ => (P0_ k_ ∨ w.heap.size ≤ k_)) ho26 (by first | exact HK.out.1 | exact (show Kept w _ (fun k_ => P0_ k_) from by repeat (first | (with_reducible first | exact HK.out | apply Kept.alloc | apply Kept.drewN | apply Kept.drew) | exact HK.out)).1) (fun k_ h_ => .inr h_)) (Kd.R_lt (by (with_reducible repeat (first | apply Kd.R_alloc | apply Kd.R_drewN | apply Kd.R_drew)); exact HO_20.out))) (Kd.R_lt (by (with_reducible repeat (first | apply Kd.R_alloc | apply Kd.R_drewN | apply Kd.R_drew)); exact HO137.out))) (Kd.R_lt (by (with_reducible repeat (first | apply Kd.R_alloc | apply Kd.R_drewN | apply Kd.R_drew)); exact HO140.out))) (below_size (by repeat (first | (with_reducible first | exact HB.out | apply below_alloc | apply pw_below_drewN | apply below_drew1) | exact HB.out)))); have n4_ := Aside0.mk (Kept.below (S := (fun k_ => P0_ k_)) (by repeat (first | (with_reducible first | exact HK.out | apply Kept.alloc | apply Kept.drewN | apply Kept.drew) | exact HK.out)) hb); have n5_ := Aside0.mk (below_step (by repeat (first | (with_reducible first | exact HB.out | apply below_alloc | apply pw_below_drewN | apply below_drew1) | exact HB.out)) hb); clear HO_20; clear HO137; clear HO140; clear HK; clear HB; have HO_20 := n0_; have HO137 := n1_; have HO140 := n2_; have HO143 := n3_; have HK := n4_; have HB := n5_; clear n0_ n1_ n2_ n3_ n4_ n5_; clear hb ho26))
        go_step3
        rename_i hK_
        refine hK_ _ _ ?_
        refine wp_at_label_skip (fun kq a' w' => ∃ (u4 u12 u13 u14 u51 u52 u53 u54 u55 u56 u57 u58 u59 u60 u61 u62 u63 u64 u65 u66 u67 u68 u69 u70 u71 u72 u73 u74 u75 u76 u77 u78 u79 u80 u81 u82 u83 u84 u85 u86 u87 u88 u89 u90 u91 : Value), (∃ (x11_2 : List G) (x12_2 : G) (x13_2 : Int), u12 = .complex .f64 (fl x12_2.re) (fl x12_2.im) ∧ u13 = .int .i64 x13_2 ∧ Aside0 (beat_halve.l1 kq a1 (l0.length : Int) t135 t138 x11_2 x12_2 x13_2 = some r) ∧ Aside0 (kq ≤ k1) ∧ Aside0 (Kd.R kcx 57 w' w0.heap.size (fun k_ => (P0_ k_ ∨ w.heap.size ≤ k_) ∧ some k_ ≠ (v139 : Value).ownBlock ∧ some k_ ≠ (v142 : Value).ownBlock) v136 t135) ∧ Aside0 (Kd.R kcx 57 w' w0.heap.size (fun k_ => (P0_ k_ ∨ w.heap.size ≤ k_) ∧ some k_ ≠ (v136 : Value).ownBlock ∧ some k_ ≠ (v142 : Value).ownBlock) v139 t138) ∧ Aside0 (Kd.R kcx 57 w' w0.heap.size (fun k_ => (P0_ k_ ∨ w.heap.size ≤ k_) ∧ some k_ ≠ (v136 : Value).ownBlock ∧ some k_ ≠ (v139 : Value).ownBlock) v142 x11_2) ∧ Aside0 (Kept w w' (fun k_ => P0_ k_)) ∧ Aside0 (Below w0.heap.size w0 w')) ∧ a' = { tmps := #[.slice Ao5 l0.length co5, .complex .f64 (fl a1.re) (fl a1.im), undef, undef, u4, .int .i64 (l0.length : Int), v136, v139, u8, u9, .complex .f64 (fl t134.re) (fl t134.im), v142, u12, u13, u14, .slice Ao5 l0.length co5, .int .i64 (l0.length : Int), .int .i64 (l0.length : Int), .bool false, undef, .slice Ao5 l0.length co5, .int .i64 (l0.length : Int), .int .i64 x22_1, .bool false, u24, u25, u26, u27, u28, u29, u30, u31, u32, u33, u34, u35, u36, u37, u38, .complex .f64 (fl a1.re) (fl a1.im), .complex .f64 (fl a1.re) (fl a1.im), .complex .f64 (fl (G.mul a1 a1).re) (fl (G.mul a1 a1).im), .complex .f64 (fl t134.re) (fl t134.im), .slice Ao21 x6_1.length co21, .complex .f64 (fl t134.re) (fl t134.im), v136, .slice Ao23 x7_1.length co23, .complex .f64 (fl t134.re) (fl t134.im), v139, .int .i64 (l0.length : Int), v142, u51, u52, u53, u54, u55, u56, u57, u58, u59, u60, u61, u62, u63, u64, u65, u66, u67, u68, u69, u70, u71, u72, u73, u74, u75, u76, u77, u78, u79, u80, u81, u82, u83, u84, u85, u86, u87, u88, u89, u90, u91], defers := [] }) k1 ?_ ?_
        rotate_left
        ·intro gk a' wr hinv
         obtain ⟨u4, u12, u13, u14, u51, u52, u53, u54, u55, u56, u57, u58, u59, u60, u61, u62, u63, u64, u65, u66, u67, u68, u69, u70, u71, u72, u73, u74, u75, u76, u77, u78, u79, u80, u81, u82, u83, u84, u85, u86, u87, u88, u89, u90, u91, hrel, rfl⟩ := hinv
         clear H'
         try clear c1
         try clear p1
         try clear q1
         try clear hx1
         try clear p2
         try clear c3
         try clear c3b0
         try clear c3b1
         try clear c5
         try clear c6
         try clear c6b0
         try clear p6
         try clear c7
         try clear c7b0
         try clear c8
         try clear c8b0
         try clear c9
         try clear c9b0
         try clear c9b1
         try clear c10
         try clear c12
         try clear p12
         try clear q12
         try clear hx12
         try clear c14
         try clear c14b0
         try clear c14b1
         try clear c18
         try clear c18b0
         try clear c18b1
         try clear c19
         try clear c19b0
         try clear c19b1
         try clear hx127_0
         try clear p127
         try clear p2
         try clear q127
         obtain ⟨x11_2, x12_2, x13_2, rfl, rfl, HA, HK2, HO_6, HO_7, HO_11, HK, HB⟩ := hrel
         cases gk with
         | zero => exact absurd HA.out (by simp [beat_halve.l1])
         | succ k2 =>
          have H := HA.out
          clear HA
          simp only [beat_halve.l1] at H
          simp only [show Int.tdiv (l0.length : Int) 2 = (l0.length : Int) / 2 from Int.tdiv_eq_ediv_of_nonneg (by omega)] at H
          by_cases c27 : 0 ≤ x13_2
          ·rw [if_pos c27] at H
           have c27b0 : decide (0 ≤ x13_2) = true := decide_eq_true c27
           clear c27
           by_cases c28 : x13_2 < (t138.length : Int)
           ·rw [if_pos c28] at H
            have c28b0 : decide (x13_2 < (t138.length : Int)) = true := decide_eq_true c28
            clear c28
            by_cases c29 : okC x12_2 (rdOf G.zero t138 x13_2) = true
            ·rw [if_pos c29] at H
             have c29b0 := eq_true c29
             have c29b1 : decide (okC x12_2 (rdOf G.zero t138 x13_2) = true) = true := decide_eq_true c29
             clear c29
             replace H := Option.bind_eq_some_iff.mp H
             obtain ⟨t145, A300, H⟩ := H
             replace H : (if x13_2 < (t135.length : Int) then (if okC (rdOf G.zero t135 x13_2) t145 = true then ((beat_rest.f (G.add (rdOf G.zero t135 x13_2) t145)).bind fun t147 => ((beat_rest.f (G.sub (rdOf G.zero t135 x13_2) t145)).bind fun t149 => (if x13_2 < (x11_2.length : Int) then (if 0 ≤ (wrap64 (x13_2 + (wrap64 ((l0.length : Int) / 2)))) then (if (wrap64 (x13_2 + (wrap64 ((l0.length : Int) / 2)))) < (x11_2.length : Int) then ((some ((x11_2.set (x13_2 : Int).toNat t147).set ((wrap64 (x13_2 + (wrap64 ((l0.length : Int) / 2)))) : Int).toNat t149 : List G)).bind fun y151 => (if okC x12_2 a1 = true then ((beat_rest.f (G.mul x12_2 a1)).bind fun t152 => (if (wrap64 (x13_2 + 1)) < (wrap64 ((l0.length : Int) / 2)) then (beat_halve.l1 k2 a1 (l0.length : Int) t135 t138 y151 t152 (wrap64 (x13_2 + 1))) else (some y151))) else (none))) else (none)) else (none)) else (none)))) else (none)) else (none)) = some r := H
             have A30 := Aside0.mk A300
             clear A300
             by_cases c31 : x13_2 < (t135.length : Int)
             ·rw [if_pos c31] at H
              have c31b0 : decide (x13_2 < (t135.length : Int)) = true := decide_eq_true c31
              clear c31
              by_cases c32 : okC (rdOf G.zero t135 x13_2) t145 = true
              ·rw [if_pos c32] at H
               have c32b0 := eq_true c32
               have c32b1 : decide (okC (rdOf G.zero t135 x13_2) t145 = true) = true := decide_eq_true c32
               clear c32
               replace H := Option.bind_eq_some_iff.mp H
               obtain ⟨t147, A330, H⟩ := H
               replace H : ((beat_rest.f (G.sub (rdOf G.zero t135 x13_2) t145)).bind fun t149 => (if x13_2 < (x11_2.length : Int) then (if 0 ≤ (wrap64 (x13_2 + (wrap64 ((l0.length : Int) / 2)))) then (if (wrap64 (x13_2 + (wrap64 ((l0.length : Int) / 2)))) < (x11_2.length : Int) then ((some ((x11_2.set (x13_2 : Int).toNat t147).set ((wrap64 (x13_2 + (wrap64 ((l0.length : Int) / 2)))) : Int).toNat t149 : List G)).bind fun y151 => (if okC x12_2 a1 = true then ((beat_rest.f (G.mul x12_2 a1)).bind fun t152 => (if (wrap64 (x13_2 + 1)) < (wrap64 ((l0.length : Int) / 2)) then (beat_halve.l1 k2 a1 (l0.length : Int) t135 t138 y151 t152 (wrap64 (x13_2 + 1))) else (some y151))) else (none))) else (none)) else (none)) else (none))) = some r := H
               have A33 := Aside0.mk A330
               clear A330
               replace H := Option.bind_eq_some_iff.mp H
               obtain ⟨t149, A340, H⟩ := H
               replace H : (if x13_2 < (x11_2.length : Int) then (if 0 ≤ (wrap64 (x13_2 + (wrap64 ((l0.length : Int) / 2)))) then (if (wrap64 (x13_2 + (wrap64 ((l0.length : Int) / 2)))) < (x11_2.length : Int) then ((some ((x11_2.set (x13_2 : Int).toNat t147).set ((wrap64 (x13_2 + (wrap64 ((l0.length : Int) / 2)))) : Int).toNat t149 : List G)).bind fun y151 => (if okC x12_2 a1 = true then ((beat_rest.f (G.mul x12_2 a1)).bind fun t152 => (if (wrap64 (x13_2 + 1)) < (wrap64 ((l0.length : Int) / 2)) then (beat_halve.l1 k2 a1 (l0.length : Int) t135 t138 y151 t152 (wrap64 (x13_2 + 1))) else (some y151))) else (none))) else (none)) else (none)) else (none)) = some r := H
               have A34 := Aside0.mk A340
               clear A340
               by_cases c35 : x13_2 < (x11_2.length : Int)
               ·rw [if_pos c35] at H
                have c35b0 : decide (x13_2 < (x11_2.length : Int)) = true := decide_eq_true c35
                clear c35
                obtain ⟨y150, hy150⟩ : ∃ y_ : List G, y_ = (x11_2.set (x13_2 : Int).toNat t147) := ⟨_, rfl⟩
                replace H : (if 0 ≤ (wrap64 (x13_2 + (wrap64 ((l0.length : Int) / 2)))) then (if (wrap64 (x13_2 + (wrap64 ((l0.length : Int) / 2)))) < (x11_2.length : Int) then ((some (y150.set ((wrap64 (x13_2 + (wrap64 ((l0.length : Int) / 2)))) : Int).toNat t149 : List G)).bind fun y151 => (if okC x12_2 a1 = true then ((beat_rest.f (G.mul x12_2 a1)).bind fun t152 => (if (wrap64 (x13_2 + 1)) < (wrap64 ((l0.length : Int) / 2)) then (beat_halve.l1 k2 a1 (l0.length : Int) t135 t138 y151 t152 (wrap64 (x13_2 + 1))) else (some y151))) else (none))) else (none)) else (none)) = some r := by first | (rw [hy150]; with_reducible exact H) | (have H2_ := (Option.bind_some _ _).symm.trans H; rw [hy150]; with_reducible exact H2_) | (have H2_ := (Option.bind_some _ _).symm.trans H; with_reducible exact H2_) | with_reducible exact H | (rw [hy150]; exact H) | exact H
                have Ny150 := Aside0.mk hy150
                clear hy150
                obtain ⟨ji37, hji37⟩ : ∃ j_ : Int, (wrap64 (x13_2 + (wrap64 ((l0.length : Int) / 2)))) = j_ := ⟨_, rfl⟩
                replace H : (if 0 ≤ (ji37) then (if (ji37) < (x11_2.length : Int) then ((some (y150.set ((ji37) : Int).toNat t149 : List G)).bind fun y151 => (if okC x12_2 a1 = true then ((beat_rest.f (G.mul x12_2 a1)).bind fun t152 => (if (wrap64 (x13_2 + 1)) < (wrap64 ((l0.length : Int) / 2)) then (beat_halve.l1 k2 a1 (l0.length : Int) t135 t138 y151 t152 (wrap64 (x13_2 + 1))) else (some y151))) else (none))) else (none)) else (none)) = some r := by first | (rw [hji37] at H; exact H) | (simp only [hji37] at H ⊢; exact H)
                (try rw [hji37] at A30)
                (try rw [hji37] at A33)
                (try rw [hji37] at A34)
                have hji37w : (IntKind.i64.wrap (x13_2 + (wrap64 ((l0.length : Int) / 2)))) = ji37 := (i64_w _).trans hji37
                by_cases c38 : 0 ≤ (ji37)
                ·rw [if_pos c38] at H
                 have c38b0 : decide (0 ≤ (ji37)) = true := decide_eq_true c38
                 clear c38
                 by_cases c39 : (ji37) < (x11_2.length : Int)
                 ·rw [if_pos c39] at H
                  have c39b0 : decide ((ji37) < (x11_2.length : Int)) = true := decide_eq_true c39
                  clear c39
                  obtain ⟨y151, hy151⟩ : ∃ y_ : List G, y_ = (y150.set ((ji37) : Int).toNat t149) := ⟨_, rfl⟩
                  replace H : (if okC x12_2 a1 = true then ((beat_rest.f (G.mul x12_2 a1)).bind fun t152 => (if (wrap64 (x13_2 + 1)) < (wrap64 ((l0.length : Int) / 2)) then (beat_halve.l1 k2 a1 (l0.length : Int) t135 t138 y151 t152 (wrap64 (x13_2 + 1))) else (some y151))) else (none)) = some r := by first | (rw [hy151]; with_reducible exact H) | (have H2_ := (Option.bind_some _ _).symm.trans H; rw [hy151]; with_reducible exact H2_) | (have H2_ := (Option.bind_some _ _).symm.trans H; with_reducible exact H2_) | with_reducible exact H | (rw [hy151]; exact H) | exact H
                  have Ny151 := Aside0.mk hy151
                  clear hy151
                  by_cases c41 : okC x12_2 a1 = true
                  ·rw [if_pos c41] at H
                   have c41b0 := eq_true c41
                   have c41b1 : decide (okC x12_2 a1 = true) = true := decide_eq_true c41
                   clear c41
                   replace H := Option.bind_eq_some_iff.mp H
                   obtain ⟨t152, A420, H⟩ := H
                   replace H : (if (wrap64 (x13_2 + 1)) < (wrap64 ((l0.length : Int) / 2)) then (beat_halve.l1 k2 a1 (l0.length : Int) t135 t138 y151 t152 (wrap64 (x13_2 + 1))) else (some y151)) = some r := H
                   have A42 := Aside0.mk A420
                   clear A420
                   by_cases c43 : (wrap64 (x13_2 + 1)) < (wrap64 ((l0.length : Int) / 2))
                   ·rw [if_pos c43] at H
                    have c43b0 : decide ((wrap64 (x13_2 + 1)) < (wrap64 ((l0.length : Int) / 2))) = true := decide_eq_true c43
                    clear c43
                    have H' := Aside0.mk H
                    clear H
                    obtain ⟨Ao44, co44, eo44⟩ := Kd.R_slice HO_7.out
                    subst eo44
                    have p144 : 0 ≤ (x13_2 : Int) := of_decide_eq_true (by first | (with_reducible assumption) | assumption)
                    have q144 : x13_2 < (t138.length : Int) := of_decide_eq_true (by first | (with_reducible assumption) | assumption)
                    obtain ⟨ad144, e144, hx144_0⟩ := at_cx (Kd.R_reads' HO_7.out).2.2 x13_2 p144 q144
                    cases e144
                    replace p144 := eq_true p144
                    replace q144 := eq_true q144
                    try go_wp2_with (first | ((with_reducible refine gate_callee (f := 50) rfl ?_); refine goesL_ (some 57) rfl rfl Try.func50 (by kernel_rfl) rfl #[.complex .f64 (fl (G.mul x12_2 (rdOf G.zero t138 x13_2)).re) (fl (G.mul x12_2 (rdOf G.zero t138 x13_2)).im)] rfl (by (try simp only [List.map_toArray, List.map_cons, List.map_nil]); first | done | rfl | (simp only [List.length_drop, List.length_take]; rfl)) ?_; (with_reducible refine (beat_rest.calls (G.mul x12_2 (rdOf G.zero t138 x13_2)) t145 _ A30.out).mono ?_); rintro e w45 ⟨rfl, hb⟩; refine ⟨_, rfl, ?_⟩; have n0_ := Aside0.mk (Kd.R_below (by (with_reducible repeat (first | apply Kd.R_alloc | apply Kd.R_drewN | apply Kd.R_drew)); exact HO_6.out) hb); have n1_ := Aside0.mk (Kd.R_below (by (with_reducible repeat (first | apply Kd.R_alloc | apply Kd.R_drewN | apply Kd.R_drew)); exact HO_7.out) hb); have n2_ := Aside0.mk (Kd.R_below (by (with_reducible repeat (first | apply Kd.R_alloc | apply Kd.R_drewN | apply Kd.R_drew)); exact HO_11.out) hb); have n3_ := Aside0.mk (Kept.below (S := (fun k_ => P0_ k_)) (by repeat (first | (with_reducible first | exact HK.out | apply Kept.alloc | apply Kept.drewN | apply Kept.drew) | exact HK.out)) hb); have n4_ := Aside0.mk (below_step (by repeat (first | (with_reducible first | exact HB.out | apply below_alloc | apply pw_below_drewN | apply below_drew1) | exact HB.out)) hb); clear HO_6; clear HO_7; clear HO_11; clear HK; clear HB; have HO_6 := n0_; have HO_7 := n1_; have HO_11 := n2_; have HK := n3_; have HB := n4_; clear n0_ n1_ n2_ n3_ n4_; (try clear hb); (try clear hb2); (try clear hk); (try clear hi)))
                    have n0_ := Aside0.mk (Kd.R_drew HO_6.out)
                    have n1_ := Aside0.mk (Kd.R_drew HO_7.out)
                    have n2_ := Aside0.mk (Kd.R_drew HO_11.out)
                    have n3_ := Aside0.mk (Kept.drew HK.out)
                    have n4_ := Aside0.mk (below_drew1 HB.out)
                    clear HO_6
                    clear HO_7
                    clear HO_11
                    clear HK
                    clear HB
                    have HO_6 := n0_
                    have HO_7 := n1_
                    have HO_11 := n2_
                    have HK := n3_
                    have HB := n4_
                    clear n0_ n1_ n2_ n3_ n4_
                    obtain ⟨Ao47, co47, eo47⟩ := Kd.R_slice HO_6.out
                    (first | subst eo47 | (injection eo47 with f1_ f2_ f3_; have f4_ := f1_.symm; have f5_ := f3_.symm; clear f1_ f2_ f3_; subst f4_; subst f5_))
                    have p146 : 0 ≤ (x13_2 : Int) := of_decide_eq_true (by first | (with_reducible assumption) | assumption)
                    have q146 : x13_2 < (t135.length : Int) := of_decide_eq_true (by first | (with_reducible assumption) | assumption)
                    obtain ⟨ad146, e146, hx146_0⟩ := at_cx (Kd.R_reads' HO_6.out).2.2 x13_2 p146 q146
                    cases e146
                    replace p146 := eq_true p146
                    replace q146 := eq_true q146
                    have p148 : 0 ≤ (x13_2 : Int) := of_decide_eq_true (by first | (with_reducible assumption) | assumption)
                    have q148 : x13_2 < (t135.length : Int) := of_decide_eq_true (by first | (with_reducible assumption) | assumption)
                    obtain ⟨ad148, e148, hx148_0⟩ := at_cx (Kd.R_reads' HO_6.out).2.2 x13_2 p148 q148
                    obtain rfl : ad146 = ad148 := (by injection e148)
                    replace p148 := eq_true p148
                    replace q148 := eq_true q148
                    refine start_ (n := 25) (S := fun w' => w'.cell? (ad146.add (x13_2).toNat) = some (.complex .f64 (fl (rdOf G.zero t135 x13_2).re) (fl (rdOf G.zero t135 x13_2).im)) ∧ w'.cell? (ad146.add (x13_2).toNat) = some (.complex .f64 (fl (rdOf G.zero t135 x13_2).re) (fl (rdOf G.zero t135 x13_2).im))) (ds := [22, 24]) #[false, false, false, false, false, false, false, false, false, false, false, false, false, false, false, false, false, false, false, false, false, false, false, false, false] (by kernel_rfl) rfl rfl ⟨hx146_0, hx148_0⟩ (fun hHeld => ?_); refine with_tabW beat_halve.tab17 beat_halve.bits17 (fun HT_ HW_ => ?_)
                    generalize w45.drew = w46 at HO_6 HO_7 HO_11 HK HB hx146_0 hx148_0 hHeld ⊢
                    refine pure_ (i := 0) (N := some 58) (v := ?_) (a' := ?_) #[true, false, false, false, false, false, false, false, false, false, false, false, false, false, false, false, false, false, false, false, false, false, false, false, false] rfl rfl (any_of HT_.out (by kernel_rfl)) (fun _ _ _ h => h) (Or.inl ⟨by rfl, ?_⟩) ?_ ?_
                    rotate_left
                    ·intro w'
                     go_simp
                     with_reducible rfl
                    rotate_left
                    ·simp only [Act.put, List.setIfInBounds_toArray, List.set_cons_zero, List.set_cons_succ, i64_w, i32_w]
                     rfl
                    refine pure_ (i := 1) (N := some 59) (v := ?_) (a' := ?_) #[true, true, false, false, false, false, false, false, false, false, false, false, false, false, false, false, false, false, false, false, false, false, false, false, false] rfl rfl (any_of HT_.out (by kernel_rfl)) (fun _ _ _ h => h) (Or.inl ⟨by rfl, ?_⟩) ?_ ?_
                    rotate_left
                    ·intro w'
                     go_simp
                     with_reducible rfl
                    rotate_left
                    ·simp only [Act.put, List.setIfInBounds_toArray, List.set_cons_zero, List.set_cons_succ, i64_w, i32_w]
                     rfl
                    refine pure_ (i := 2) (N := some 60) (v := ?_) (a' := ?_) #[true, true, true, false, false, false, false, false, false, false, false, false, false, false, false, false, false, false, false, false, false, false, false, false, false] rfl rfl (any_of HT_.out (by kernel_rfl)) (fun _ _ _ h => h) (Or.inl ⟨by rfl, ?_⟩) ?_ ?_
                    rotate_left
                    ·intro w'
                     go_simp
                     with_reducible rfl
                    rotate_left
                    ·simp only [Act.put, List.setIfInBounds_toArray, List.set_cons_zero, List.set_cons_succ, i64_w, i32_w]
                     rfl
                    refine pure_ (i := 3) (N := some 61) (v := ?_) (a' := ?_) #[true, true, true, true, false, false, false, false, false, false, false, false, false, false, false, false, false, false, false, false, false, false, false, false, false] rfl rfl (any_of HT_.out (by kernel_rfl)) (fun _ _ _ h => h) (Or.inl ⟨by rfl, ?_⟩) ?_ ?_
                    rotate_left
                    ·intro w'
                     go_simp
                     with_reducible rfl
                    rotate_left
                    ·simp only [Act.put, List.setIfInBounds_toArray, List.set_cons_zero, List.set_cons_succ, i64_w, i32_w]
                     rfl
                    refine pure_ (i := 4) (N := some 62) (v := ?_) (a' := ?_) #[true, true, true, true, true, false, false, false, false, false, false, false, false, false, false, false, false, false, false, false, false, false, false, false, false] rfl rfl (any_of HT_.out (by kernel_rfl)) (fun _ _ _ h => h) (Or.inl ⟨by rfl, ?_⟩) ?_ ?_
                    rotate_left
                    ·intro w'
                     go_simp
                     with_reducible rfl
                    rotate_left
                    ·simp only [Act.put, List.setIfInBounds_toArray, List.set_cons_zero, List.set_cons_succ, i64_w, i32_w]
                     rfl
                    refine pure_ (i := 5) (N := some 63) (v := ?_) (a' := ?_) #[true, true, true, true, true, true, false, false, false, false, false, false, false, false, false, false, false, false, false, false, false, false, false, false, false] rfl rfl (any_of HT_.out (by kernel_rfl)) (fun _ _ _ h => h) (Or.inl ⟨by rfl, ?_⟩) ?_ ?_
                    rotate_left
                    ·intro w'
                     go_simp
                     with_reducible rfl
                    rotate_left
                    ·simp only [Act.put, List.setIfInBounds_toArray, List.set_cons_zero, List.set_cons_succ, i64_w, i32_w]
                     rfl
                    refine pure_ (i := 6) (N := some 64) (v := ?_) (a' := ?_) #[true, true, true, true, true, true, true, false, false, false, false, false, false, false, false, false, false, false, false, false, false, false, false, false, false] rfl rfl (any_of HT_.out (by kernel_rfl)) (fun _ _ _ h => h) (Or.inl ⟨by rfl, ?_⟩) ?_ ?_
                    rotate_left
                    ·intro w'
                     go_simp
                     with_reducible rfl
                    rotate_left
                    ·simp only [Act.put, List.setIfInBounds_toArray, List.set_cons_zero, List.set_cons_succ, i64_w, i32_w]
                     rfl
                    refine pure_ (i := 7) (N := some 65) (v := ?_) (a' := ?_) #[true, true, true, true, true, true, true, true, false, false, false, false, false, false, false, false, false, false, false, false, false, false, false, false, false] rfl rfl (any_of HT_.out (by kernel_rfl)) (fun _ _ _ h => h) (Or.inl ⟨by rfl, ?_⟩) ?_ ?_
                    rotate_left
                    ·intro w'
                     go_simp
                     with_reducible rfl
                    rotate_left
                    ·simp only [Act.put, List.setIfInBounds_toArray, List.set_cons_zero, List.set_cons_succ, i64_w, i32_w]
                     rfl
                    refine pure_ (i := 8) (N := some 66) (v := ?_) (a' := ?_) #[true, true, true, true, true, true, true, true, true, false, false, false, false, false, false, false, false, false, false, false, false, false, false, false, false] rfl rfl (any_of HT_.out (by kernel_rfl)) (fun _ _ _ h => h) (Or.inl ⟨by rfl, ?_⟩) ?_ ?_
                    rotate_left
                    ·intro w'
                     go_simp
                     with_reducible rfl
                    rotate_left
                    ·simp only [Act.put, List.setIfInBounds_toArray, List.set_cons_zero, List.set_cons_succ, i64_w, i32_w]
                     rfl
                    refine pure_ (i := 9) (N := some 67) (v := ?_) (a' := ?_) #[true, true, true, true, true, true, true, true, true, true, false, false, false, false, false, false, false, false, false, false, false, false, false, false, false] rfl rfl (any_of HT_.out (by kernel_rfl)) (fun _ _ _ h => h) (Or.inl ⟨by rfl, ?_⟩) ?_ ?_
                    rotate_left
                    ·intro w'
                     go_simp
                     with_reducible rfl
                    rotate_left
                    ·simp only [Act.put, List.setIfInBounds_toArray, List.set_cons_zero, List.set_cons_succ, i64_w, i32_w]
                     rfl
                    refine pure_ (i := 11) (N := some 69) (v := ?_) (a' := ?_) #[true, true, true, true, true, true, true, true, true, true, false, true, false, false, false, false, false, false, false, false, false, false, false, false, false] rfl rfl (any_of HT_.out (by kernel_rfl)) (fun _ _ _ h => h) (Or.inl ⟨by rfl, ?_⟩) ?_ ?_
                    rotate_left
                    ·intro w'
                     go_simp
                     with_reducible rfl
                    rotate_left
                    ·simp only [Act.put, List.setIfInBounds_toArray, List.set_cons_zero, List.set_cons_succ, i64_w, i32_w]
                     rfl
                    refine pure_ (i := 14) (N := some 72) (v := ?_) (a' := ?_) #[true, true, true, true, true, true, true, true, true, true, false, true, false, false, true, false, false, false, false, false, false, false, false, false, false] rfl rfl (any_of HT_.out (by kernel_rfl)) (fun _ _ _ h => h) (Or.inl ⟨by rfl, ?_⟩) ?_ ?_
                    rotate_left
                    ·intro w'
                     go_simp
                     with_reducible rfl
                    rotate_left
                    ·simp only [Act.put, List.setIfInBounds_toArray, List.set_cons_zero, List.set_cons_succ, i64_w, i32_w]
                     rfl
                    refine pure_ (i := 15) (N := some 73) (v := ?_) (a' := ?_) #[true, true, true, true, true, true, true, true, true, true, false, true, false, false, true, true, false, false, false, false, false, false, false, false, false] rfl rfl (any_of HT_.out (by kernel_rfl)) (fun _ _ _ h => h) (Or.inl ⟨by rfl, ?_⟩) ?_ ?_
                    rotate_left
                    ·intro w'
                     go_simp
                     with_reducible rfl
                    rotate_left
                    ·simp only [Act.put, List.setIfInBounds_toArray, List.set_cons_zero, List.set_cons_succ, i64_w, i32_w]
                     rfl
                    refine pure_ (i := 16) (N := some 74) (v := ?_) (a' := ?_) #[true, true, true, true, true, true, true, true, true, true, false, true, false, false, true, true, true, false, false, false, false, false, false, false, false] rfl rfl (any_of HT_.out (by kernel_rfl)) (fun _ _ _ h => h) (Or.inl ⟨by rfl, ?_⟩) ?_ ?_
                    rotate_left
                    ·intro w'
                     go_simp
                     with_reducible rfl
                    rotate_left
                    ·simp only [Act.put, List.setIfInBounds_toArray, List.set_cons_zero, List.set_cons_succ, i64_w, i32_w]
                     rfl
                    refine pure_ (i := 18) (N := some 76) (v := ?_) (a' := ?_) #[true, true, true, true, true, true, true, true, true, true, false, true, false, false, true, true, true, false, true, false, false, false, false, false, false] rfl rfl (any_of HT_.out (by kernel_rfl)) (fun _ _ _ h => h) (Or.inl ⟨by rfl, ?_⟩) ?_ ?_
                    rotate_left
                    ·intro w'
                     go_simp
                     with_reducible rfl
                    rotate_left
                    ·simp only [Act.put, List.setIfInBounds_toArray, List.set_cons_zero, List.set_cons_succ, i64_w, i32_w]
                     rfl
                    refine take_ (i := 10) (N := some 68) (v := ?_) (a' := ?_) #[true, true, true, true, true, true, true, true, true, true, true, true, false, false, true, true, true, false, true, false, false, false, false, false, false] rfl rfl (take_ofW HT_.out HW_.out (by kernel_rfl)) (fun _ _ _ h => h) (Or.inl ⟨by rfl, ?_⟩) hHeld ?_ ?_
                    rotate_left
                    ·rintro w' ⟨s0, s1⟩
                     go_simp
                     with_reducible rfl
                    rotate_left
                    ·simp only [Act.put, List.setIfInBounds_toArray, List.set_cons_zero, List.set_cons_succ, i64_w, i32_w]
                     rfl
                    refine pure_ (i := 12) (N := some 70) (v := ?_) (a' := ?_) #[true, true, true, true, true, true, true, true, true, true, true, true, true, false, true, true, true, false, true, false, false, false, false, false, false] rfl rfl (any_of HT_.out (by kernel_rfl)) (fun _ _ _ h => h) (Or.inl ⟨by rfl, ?_⟩) ?_ ?_
                    rotate_left
                    ·intro w'
                     go_simp
                     with_reducible rfl
                    rotate_left
                    ·simp only [Act.put, List.setIfInBounds_toArray, List.set_cons_zero, List.set_cons_succ, i64_w, i32_w]
                     rfl
                    refine take_ (i := 17) (N := some 75) (v := ?_) (a' := ?_) #[true, true, true, true, true, true, true, true, true, true, true, true, true, false, true, true, true, true, true, false, false, false, false, false, false] rfl rfl (take_ofW HT_.out HW_.out (by kernel_rfl)) (fun _ _ _ h => h) (Or.inl ⟨by rfl, ?_⟩) hHeld ?_ ?_
                    rotate_left
                    ·rintro w' ⟨s0, s1⟩
                     go_simp
                     with_reducible rfl
                    rotate_left
                    ·simp only [Act.put, List.setIfInBounds_toArray, List.set_cons_zero, List.set_cons_succ, i64_w, i32_w]
                     rfl
                    refine pure_ (i := 19) (N := some 77) (v := ?_) (a' := ?_) #[true, true, true, true, true, true, true, true, true, true, true, true, true, false, true, true, true, true, true, true, false, false, false, false, false] rfl rfl (any_of HT_.out (by kernel_rfl)) (fun _ _ _ h => h) (Or.inl ⟨by rfl, ?_⟩) ?_ ?_
                    rotate_left
                    ·intro w'
                     go_simp
                     with_reducible rfl
                    rotate_left
                    ·simp only [Act.put, List.setIfInBounds_toArray, List.set_cons_zero, List.set_cons_succ, i64_w, i32_w]
                     rfl
                    refine one_ (i := 13) (N := some 71) #[true, true, true, true, true, true, true, true, true, true, true, true, true, true, true, true, true, true, true, true, false, false, false, false, false] rfl rfl (one_of HT_.out (by kernel_rfl)) (by decide) (fun K hK => ?_)
                    refine goes_ Try.func50 (by kernel_rfl) rfl #[.complex .f64 (fl (G.add (rdOf G.zero t135 x13_2) t145).re) (fl (G.add (rdOf G.zero t135 x13_2) t145).im)] (by rfl) rfl rfl (by (try simp only [List.map_toArray, List.map_cons, List.map_nil]); first | done | rfl | (simp only [List.length_drop, List.length_take]; rfl)) ?_
                    with_reducible refine (beat_rest.calls (G.add (rdOf G.zero t135 x13_2) t145) t147 _ A33.out).mono ?_
                    rintro e w48 ⟨rfl, hb⟩
                    have HS0_ := (hb.cell (World.block_lt_of_cell? _ _ (hHeld.1))).trans (hHeld.1)
                    have HS1_ := (hb.cell (World.block_lt_of_cell? _ _ (hHeld.2))).trans (hHeld.2)
                    refine ⟨_, rfl, ?_⟩
                    have n0_ := Aside0.mk (Kd.R_below (by (with_reducible repeat (first | apply Kd.R_alloc | apply Kd.R_drewN | apply Kd.R_drew)); exact HO_6.out) hb)
                    have n1_ := Aside0.mk (Kd.R_below (by (with_reducible repeat (first | apply Kd.R_alloc | apply Kd.R_drewN | apply Kd.R_drew)); exact HO_7.out) hb)
                    have n2_ := Aside0.mk (Kd.R_below (by (with_reducible repeat (first | apply Kd.R_alloc | apply Kd.R_drewN | apply Kd.R_drew)); exact HO_11.out) hb)
                    have n3_ := Aside0.mk (Kept.below (S := (fun k_ => P0_ k_)) (by repeat (first | (with_reducible first | exact HK.out | apply Kept.alloc | apply Kept.drewN | apply Kept.drew) | exact HK.out)) hb)
                    have n4_ := Aside0.mk (below_step (by repeat (first | (with_reducible first | exact HB.out | apply below_alloc | apply pw_below_drewN | apply below_drew1) | exact HB.out)) hb)
                    clear HO_6
                    clear HO_7
                    clear HO_11
                    clear HK
                    clear HB
                    have HO_6 := n0_
                    have HO_7 := n1_
                    have HO_11 := n2_
                    have HK := n3_
                    have HB := n4_
                    clear n0_ n1_ n2_ n3_ n4_
                    (try clear hb)
                    (try clear hb2)
                    (try clear hk)
                    (try clear hi)
                    refine hK.out _ _ ⟨HS0_, HS1_⟩ (fun hHeld => ?_)
                    clear hK K
                    refine norm_ (a' := ?_) ?_ ?_
                    rotate_left
                    ·show Act.put _ (some 71) _ = _
                     simp only [Act.put, List.setIfInBounds_toArray, List.set_cons_zero, List.set_cons_succ, i64_w, i32_w]
                     rfl
                    refine one_ (i := 20) (N := some 78) #[true, true, true, true, true, true, true, true, true, true, true, true, true, true, true, true, true, true, true, true, true, false, false, false, false] rfl rfl (one_of HT_.out (by kernel_rfl)) (by decide) (fun K hK => ?_)
                    refine goes_ Try.func50 (by kernel_rfl) rfl #[.complex .f64 (fl (G.sub (rdOf G.zero t135 x13_2) t145).re) (fl (G.sub (rdOf G.zero t135 x13_2) t145).im)] (by rfl) rfl rfl (by (try simp only [List.map_toArray, List.map_cons, List.map_nil]); first | done | rfl | (simp only [List.length_drop, List.length_take]; rfl)) ?_
                    with_reducible refine (beat_rest.calls (G.sub (rdOf G.zero t135 x13_2) t145) t149 _ A34.out).mono ?_
                    rintro e w49 ⟨rfl, hb⟩
                    have HS0_ := (hb.cell (World.block_lt_of_cell? _ _ (hHeld.1))).trans (hHeld.1)
                    have HS1_ := (hb.cell (World.block_lt_of_cell? _ _ (hHeld.2))).trans (hHeld.2)
                    refine ⟨_, rfl, ?_⟩
                    have n0_ := Aside0.mk (Kd.R_below (by (with_reducible repeat (first | apply Kd.R_alloc | apply Kd.R_drewN | apply Kd.R_drew)); exact HO_6.out) hb)
                    have n1_ := Aside0.mk (Kd.R_below (by (with_reducible repeat (first | apply Kd.R_alloc | apply Kd.R_drewN | apply Kd.R_drew)); exact HO_7.out) hb)
                    have n2_ := Aside0.mk (Kd.R_below (by (with_reducible repeat (first | apply Kd.R_alloc | apply Kd.R_drewN | apply Kd.R_drew)); exact HO_11.out) hb)
                    have n3_ := Aside0.mk (Kept.below (S := (fun k_ => P0_ k_)) (by repeat (first | (with_reducible first | exact HK.out | apply Kept.alloc | apply Kept.drewN | apply Kept.drew) | exact HK.out)) hb)
                    have n4_ := Aside0.mk (below_step (by repeat (first | (with_reducible first | exact HB.out | apply below_alloc | apply pw_below_drewN | apply below_drew1) | exact HB.out)) hb)
                    clear HO_6
                    clear HO_7
                    clear HO_11
                    clear HK
                    clear HB
                    have HO_6 := n0_
                    have HO_7 := n1_
                    have HO_11 := n2_
                    have HK := n3_
                    have HB := n4_
                    clear n0_ n1_ n2_ n3_ n4_
                    (try clear hb)
                    (try clear hb2)
                    (try clear hk)
                    (try clear hi)
                    have p36 : 0 ≤ (x13_2 : Int) := of_decide_eq_true (by first | (with_reducible assumption) | assumption)
                    have q36 : (x13_2 : Int) < ((x11_2.length : Int) : Int) := of_decide_eq_true (by first | (with_reducible assumption) | assumption)
                    obtain ⟨go36, co36, eo36, gb36, gl36, cl36, HG36⟩ := Kd.R_form HO_11.out (by omega)
                    (first | cases eo36 | (injection eo36 with ea_ en_ ec_; (first | subst ea_ | (injection ea_ with ea_; subst ea_)); subst ec_; clear en_))
                    have GB36 := Aside0.mk gb36
                    have GG36 := Aside0.mk HG36
                    clear gb36 gl36 HG36
                    have HMgo36 := Aside0.mk (show (P0_ go36 ∨ w.heap.size ≤ go36) from (HO_11.out.1 _ rfl).1)
                    obtain ⟨hx36_0, hf36_0⟩ := Kd.R_celln G.zero HO_11.out (x13_2 : Int) p36 q36
                    try simp only [encC] at hx36_0
                    try simp only [encC] at hf36_0
                    replace p36 := eq_true p36
                    replace q36 := eq_true q36
                    have HP50 := Kd.R_putn HO_11.out (x13_2 : Int) t147
                    rw [← Ny150.out] at HP50
                    have HQ50 := Aside0.mk HP50
                    clear HP50
                    have p40 : 0 ≤ ((ji37) : Int) := of_decide_eq_true (by first | (with_reducible assumption) | assumption)
                    have q40 : ((ji37) : Int) < ((x11_2.length : Int) : Int) := of_decide_eq_true (by first | (with_reducible assumption) | assumption)
                    obtain ⟨hx40_0, hf40_0⟩ := Kd.R_celln G.zero HQ50.out ((ji37) : Int) p40 q40
                    try simp only [encC] at hx40_0
                    try simp only [encC] at hf40_0
                    replace p40 := eq_true p40
                    replace q40 := eq_true q40
                    have HP51 := Kd.R_putn HQ50.out ((ji37) : Int) t149
                    rw [← Ny151.out] at HP51
                    have HQ51 := Aside0.mk HP51
                    clear HP51
                    refine hK.out _ _ ⟨HS0_, HS1_⟩ (fun hHeld => ?_)
                    clear hK K
                    refine norm_ (a' := ?_) ?_ ?_
                    rotate_left
                    ·show Act.put _ (some 78) _ = _
                     simp only [Act.put, List.setIfInBounds_toArray, List.set_cons_zero, List.set_cons_succ, i64_w, i32_w]
                     rfl
                    refine pure_ (i := 21) (N := some 79) (v := ?_) (a' := ?_) #[true, true, true, true, true, true, true, true, true, true, true, true, true, true, true, true, true, true, true, true, true, true, false, false, false] rfl rfl (any_of HT_.out (by kernel_rfl)) (fun _ _ _ h => h) (Or.inl ⟨by rfl, ?_⟩) ?_ ?_
                    rotate_left
                    ·intro w'
                     go_simp
                     with_reducible rfl
                    rotate_left
                    ·simp only [Act.put, List.setIfInBounds_toArray, List.set_cons_zero, List.set_cons_succ, i64_w, i32_w]
                     rfl
                    refine last_ (i := 22) (N := none) #[true, true, true, true, true, true, true, true, true, true, true, true, true, true, true, true, true, true, true, true, true, true, true, false, false] rfl rfl (one_of HT_.out (by kernel_rfl)) (by decide) (fun K hK => ?_)
                    refine skip_ (w1 := ?_) (by rfl) rfl ?_ ?_
                    rotate_left
                    ·go_simp
                     rfl
                    refine hK.out _ _ ?_
                    clear hK K
                    refine pure_ (i := 23) (N := some 80) (v := ?_) (a' := ?_) #[true, true, true, true, true, true, true, true, true, true, true, true, true, true, true, true, true, true, true, true, true, true, true, true, false] rfl rfl (any_of HT_.out (by kernel_rfl)) (fun _ _ _ h => h) (Or.inl ⟨by rfl, ?_⟩) ?_ ?_
                    rotate_left
                    ·intro w'
                     go_simp
                     with_reducible rfl
                    rotate_left
                    ·simp only [Act.put, List.setIfInBounds_toArray, List.set_cons_zero, List.set_cons_succ, i64_w, i32_w]
                     rfl
                    refine last_ (i := 24) (N := none) #[true, true, true, true, true, true, true, true, true, true, true, true, true, true, true, true, true, true, true, true, true, true, true, true, true] rfl rfl (one_of HT_.out (by kernel_rfl)) (by decide) (fun K hK => ?_)
                    refine skip_ (w1 := ?_) (by rfl) rfl ?_ ?_
                    rotate_left
                    ·go_simp
                     rfl
                    refine hK.out _ _ ?_
                    clear hK K
                    refine done_ (done_of HT_.out (by kernel_rfl)) ?_
                    try go_wp2_with (first | ((with_reducible refine gate_callee (f := 50) rfl ?_); refine goesL_ (some 84) rfl rfl Try.func50 (by kernel_rfl) rfl #[.complex .f64 (fl (G.mul x12_2 a1).re) (fl (G.mul x12_2 a1).im)] rfl (by (try simp only [List.map_toArray, List.map_cons, List.map_nil]); first | done | rfl | (simp only [List.length_drop, List.length_take]; rfl)) ?_; (with_reducible refine (beat_rest.calls (G.mul x12_2 a1) t152 _ A42.out).mono ?_); rintro e w52 ⟨rfl, hb⟩; refine ⟨_, rfl, ?_⟩; have n0_ := Aside0.mk (Kd.R_below (by (with_reducible repeat (first | apply Kd.R_alloc | apply Kd.R_drewN | apply Kd.R_drew)); exact (Kd.R_mono (Kd.R_far (p := ⟨go36, ((ji37) : Int).toNat, none⟩) (Kd.R_far (p := ⟨go36, (x13_2 : Int).toNat, none⟩) (Kd.R_mono HO_6.out (fun k_ hk => (⟨hk, fun e_ => hk.2.2 (by rw [e_]; rfl)⟩ : _ ∧ k_ ≠ go36))) (fun _ hk => hk.2) (.complex .f64 (fl t147.re) (fl t147.im))) (fun _ hk => hk.2) (.complex .f64 (fl t149.re) (fl t149.im))) (fun _ h_ => h_.1))) hb); have n1_ := Aside0.mk (Kd.R_below (by (with_reducible repeat (first | apply Kd.R_alloc | apply Kd.R_drewN | apply Kd.R_drew)); exact (Kd.R_mono (Kd.R_far (p := ⟨go36, ((ji37) : Int).toNat, none⟩) (Kd.R_far (p := ⟨go36, (x13_2 : Int).toNat, none⟩) (Kd.R_mono HO_7.out (fun k_ hk => (⟨hk, fun e_ => hk.2.2 (by rw [e_]; rfl)⟩ : _ ∧ k_ ≠ go36))) (fun _ hk => hk.2) (.complex .f64 (fl t147.re) (fl t147.im))) (fun _ hk => hk.2) (.complex .f64 (fl t149.re) (fl t149.im))) (fun _ h_ => h_.1))) hb); have n2_ := Aside0.mk (Kd.R_below (by (with_reducible repeat (first | apply Kd.R_alloc | apply Kd.R_drewN | apply Kd.R_drew)); exact HQ51.out) hb); have n3_ := Aside0.mk (Kept.below (S := (fun k_ => P0_ k_)) (by repeat (first | (with_reducible first | exact HK.out | apply Kept.alloc | apply Kept.drewN | apply Kept.drew | refine Kept.setCell ?_ HMgo36.out _ | refine Kept.setCell ?_ HMgo36.out _) | exact HK.out)) hb); have n4_ := Aside0.mk (below_step (by repeat (first | (with_reducible first | exact HB.out | apply below_alloc | apply pw_below_drewN | apply below_drew1 | refine below_set ?_ GB36.out | refine below_set ?_ GB36.out) | exact HB.out)) hb); clear HO_6; clear HO_7; clear HO_11; clear HK; clear HB; have HO_6 := n0_; have HO_7 := n1_; have HO_11 := n2_; have HK := n3_; have HB := n4_; clear n0_ n1_ n2_ n3_ n4_; (try clear hb); (try clear hb2); (try clear hk); (try clear hi)))
                    go_step3
                    refine then_jump_goto ?_
                    refine ⟨k2, ?measure, ?_⟩
                    rotate_left
                    (repeat apply Exists.intro)
                    refine ⟨?rel, rfl⟩
                    case measure => have := HK1.out; have := HK2.out; omega
                    case rel => exact ⟨(y151), (t152), (wrap64 (x13_2 + 1)), (by first | rfl | (simp; done) | (simp [*]; done) | (simp [Int.tdiv_eq_ediv_of_nonneg]; done)), (by first | rfl | (simp; done) | (simp [*]; done) | (simp [Int.tdiv_eq_ediv_of_nonneg]; done)), H', ⟨by have := HK1.out; have := HK2.out; omega⟩, ⟨by (with_reducible repeat (first | apply Kd.R_alloc | apply Kd.R_drewN | apply Kd.R_drew)); exact HO_6.out⟩, ⟨by (with_reducible repeat (first | apply Kd.R_alloc | apply Kd.R_drewN | apply Kd.R_drew)); exact HO_7.out⟩, ⟨by (with_reducible repeat (first | apply Kd.R_alloc | apply Kd.R_drewN | apply Kd.R_drew)); exact HO_11.out⟩, ⟨by repeat (first | (with_reducible first | exact HK.out | apply Kept.alloc | apply Kept.drewN | apply Kept.drew) | exact HK.out)⟩, ⟨by repeat (first | (with_reducible first | exact HB.out | apply below_alloc | apply pw_below_drewN | apply below_drew1) | exact HB.out)⟩⟩
                   ·rw [if_neg c43] at H
                    have c43b0 : decide ((wrap64 (x13_2 + 1)) < (wrap64 ((l0.length : Int) / 2))) = false := decide_eq_false c43
                    clear c43
                    obtain rfl := Option.some.inj H
                    obtain ⟨Ao53, co53, eo53⟩ := Kd.R_slice HO_7.out
                    subst eo53
                    have p144 : 0 ≤ (x13_2 : Int) := of_decide_eq_true (by first | (with_reducible assumption) | assumption)
                    have q144 : x13_2 < (t138.length : Int) := of_decide_eq_true (by first | (with_reducible assumption) | assumption)
                    obtain ⟨ad144, e144, hx144_0⟩ := at_cx (Kd.R_reads' HO_7.out).2.2 x13_2 p144 q144
                    cases e144
                    replace p144 := eq_true p144
                    replace q144 := eq_true q144
                    try go_wp2_with (first | ((with_reducible refine gate_callee (f := 50) rfl ?_); refine goesL_ (some 57) rfl rfl Try.func50 (by kernel_rfl) rfl #[.complex .f64 (fl (G.mul x12_2 (rdOf G.zero t138 x13_2)).re) (fl (G.mul x12_2 (rdOf G.zero t138 x13_2)).im)] rfl (by (try simp only [List.map_toArray, List.map_cons, List.map_nil]); first | done | rfl | (simp only [List.length_drop, List.length_take]; rfl)) ?_; (with_reducible refine (beat_rest.calls (G.mul x12_2 (rdOf G.zero t138 x13_2)) t145 _ A30.out).mono ?_); rintro e w54 ⟨rfl, hb⟩; refine ⟨_, rfl, ?_⟩; have n0_ := Aside0.mk (Kd.R_below (by (with_reducible repeat (first | apply Kd.R_alloc | apply Kd.R_drewN | apply Kd.R_drew)); exact HO_6.out) hb); have n1_ := Aside0.mk (Kd.R_below (by (with_reducible repeat (first | apply Kd.R_alloc | apply Kd.R_drewN | apply Kd.R_drew)); exact HO_7.out) hb); have n2_ := Aside0.mk (Kd.R_below (by (with_reducible repeat (first | apply Kd.R_alloc | apply Kd.R_drewN | apply Kd.R_drew)); exact HO_11.out) hb); have n3_ := Aside0.mk (Kept.below (S := (fun k_ => P0_ k_)) (by repeat (first | (with_reducible first | exact HK.out | apply Kept.alloc | apply Kept.drewN | apply Kept.drew) | exact HK.out)) hb); have n4_ := Aside0.mk (below_step (by repeat (first | (with_reducible first | exact HB.out | apply below_alloc | apply pw_below_drewN | apply below_drew1) | exact HB.out)) hb); clear HO_6; clear HO_7; clear HO_11; clear HK; clear HB; have HO_6 := n0_; have HO_7 := n1_; have HO_11 := n2_; have HK := n3_; have HB := n4_; clear n0_ n1_ n2_ n3_ n4_; (try clear hb); (try clear hb2); (try clear hk); (try clear hi)))
                    have n0_ := Aside0.mk (Kd.R_drew HO_6.out)
                    have n1_ := Aside0.mk (Kd.R_drew HO_7.out)
                    have n2_ := Aside0.mk (Kd.R_drew HO_11.out)
                    have n3_ := Aside0.mk (Kept.drew HK.out)
                    have n4_ := Aside0.mk (below_drew1 HB.out)
                    clear HO_6
                    clear HO_7
                    clear HO_11
                    clear HK
                    clear HB
                    have HO_6 := n0_
                    have HO_7 := n1_
                    have HO_11 := n2_
                    have HK := n3_
                    have HB := n4_
                    clear n0_ n1_ n2_ n3_ n4_
                    obtain ⟨Ao56, co56, eo56⟩ := Kd.R_slice HO_6.out
                    (first | subst eo56 | (injection eo56 with f1_ f2_ f3_; have f4_ := f1_.symm; have f5_ := f3_.symm; clear f1_ f2_ f3_; subst f4_; subst f5_))
                    have p146 : 0 ≤ (x13_2 : Int) := of_decide_eq_true (by first | (with_reducible assumption) | assumption)
                    have q146 : x13_2 < (t135.length : Int) := of_decide_eq_true (by first | (with_reducible assumption) | assumption)
                    obtain ⟨ad146, e146, hx146_0⟩ := at_cx (Kd.R_reads' HO_6.out).2.2 x13_2 p146 q146
                    cases e146
                    replace p146 := eq_true p146
                    replace q146 := eq_true q146
                    have p148 : 0 ≤ (x13_2 : Int) := of_decide_eq_true (by first | (with_reducible assumption) | assumption)
                    have q148 : x13_2 < (t135.length : Int) := of_decide_eq_true (by first | (with_reducible assumption) | assumption)
                    obtain ⟨ad148, e148, hx148_0⟩ := at_cx (Kd.R_reads' HO_6.out).2.2 x13_2 p148 q148
                    obtain rfl : ad146 = ad148 := (by injection e148)
                    replace p148 := eq_true p148
                    replace q148 := eq_true q148
                    refine start_ (n := 25) (S := fun w' => w'.cell? (ad146.add (x13_2).toNat) = some (.complex .f64 (fl (rdOf G.zero t135 x13_2).re) (fl (rdOf G.zero t135 x13_2).im)) ∧ w'.cell? (ad146.add (x13_2).toNat) = some (.complex .f64 (fl (rdOf G.zero t135 x13_2).re) (fl (rdOf G.zero t135 x13_2).im))) (ds := [22, 24]) #[false, false, false, false, false, false, false, false, false, false, false, false, false, false, false, false, false, false, false, false, false, false, false, false, false] (by kernel_rfl) rfl rfl ⟨hx146_0, hx148_0⟩ (fun hHeld => ?_); refine with_tabW beat_halve.tab17 beat_halve.bits17 (fun HT_ HW_ => ?_)
                    generalize w54.drew = w55 at HO_6 HO_7 HO_11 HK HB hx146_0 hx148_0 hHeld ⊢
                    refine pure_ (i := 0) (N := some 58) (v := ?_) (a' := ?_) #[true, false, false, false, false, false, false, false, false, false, false, false, false, false, false, false, false, false, false, false, false, false, false, false, false] rfl rfl (any_of HT_.out (by kernel_rfl)) (fun _ _ _ h => h) (Or.inl ⟨by rfl, ?_⟩) ?_ ?_
                    rotate_left
                    ·intro w'
                     go_simp
                     with_reducible rfl
                    rotate_left
                    ·simp only [Act.put, List.setIfInBounds_toArray, List.set_cons_zero, List.set_cons_succ, i64_w, i32_w]
                     rfl
                    refine pure_ (i := 1) (N := some 59) (v := ?_) (a' := ?_) #[true, true, false, false, false, false, false, false, false, false, false, false, false, false, false, false, false, false, false, false, false, false, false, false, false] rfl rfl (any_of HT_.out (by kernel_rfl)) (fun _ _ _ h => h) (Or.inl ⟨by rfl, ?_⟩) ?_ ?_
                    rotate_left
                    ·intro w'
                     go_simp
                     with_reducible rfl
                    rotate_left
                    ·simp only [Act.put, List.setIfInBounds_toArray, List.set_cons_zero, List.set_cons_succ, i64_w, i32_w]
                     rfl
                    refine pure_ (i := 2) (N := some 60) (v := ?_) (a' := ?_) #[true, true, true, false, false, false, false, false, false, false, false, false, false, false, false, false, false, false, false, false, false, false, false, false, false] rfl rfl (any_of HT_.out (by kernel_rfl)) (fun _ _ _ h => h) (Or.inl ⟨by rfl, ?_⟩) ?_ ?_
                    rotate_left
                    ·intro w'
                     go_simp
                     with_reducible rfl
                    rotate_left
                    ·simp only [Act.put, List.setIfInBounds_toArray, List.set_cons_zero, List.set_cons_succ, i64_w, i32_w]
                     rfl
                    refine pure_ (i := 3) (N := some 61) (v := ?_) (a' := ?_) #[true, true, true, true, false, false, false, false, false, false, false, false, false, false, false, false, false, false, false, false, false, false, false, false, false] rfl rfl (any_of HT_.out (by kernel_rfl)) (fun _ _ _ h => h) (Or.inl ⟨by rfl, ?_⟩) ?_ ?_
                    rotate_left
                    ·intro w'
                     go_simp
                     with_reducible rfl
                    rotate_left
                    ·simp only [Act.put, List.setIfInBounds_toArray, List.set_cons_zero, List.set_cons_succ, i64_w, i32_w]
                     rfl
                    refine pure_ (i := 4) (N := some 62) (v := ?_) (a' := ?_) #[true, true, true, true, true, false, false, false, false, false, false, false, false, false, false, false, false, false, false, false, false, false, false, false, false] rfl rfl (any_of HT_.out (by kernel_rfl)) (fun _ _ _ h => h) (Or.inl ⟨by rfl, ?_⟩) ?_ ?_
                    rotate_left
                    ·intro w'
                     go_simp
                     with_reducible rfl
                    rotate_left
                    ·simp only [Act.put, List.setIfInBounds_toArray, List.set_cons_zero, List.set_cons_succ, i64_w, i32_w]
                     rfl
                    refine pure_ (i := 5) (N := some 63) (v := ?_) (a' := ?_) #[true, true, true, true, true, true, false, false, false, false, false, false, false, false, false, false, false, false, false, false, false, false, false, false, false] rfl rfl (any_of HT_.out (by kernel_rfl)) (fun _ _ _ h => h) (Or.inl ⟨by rfl, ?_⟩) ?_ ?_
                    rotate_left
                    ·intro w'
                     go_simp
                     with_reducible rfl
                    rotate_left
                    ·simp only [Act.put, List.setIfInBounds_toArray, List.set_cons_zero, List.set_cons_succ, i64_w, i32_w]
                     rfl
                    refine pure_ (i := 6) (N := some 64) (v := ?_) (a' := ?_) #[true, true, true, true, true, true, true, false, false, false, false, false, false, false, false, false, false, false, false, false, false, false, false, false, false] rfl rfl (any_of HT_.out (by kernel_rfl)) (fun _ _ _ h => h) (Or.inl ⟨by rfl, ?_⟩) ?_ ?_
                    rotate_left
                    ·intro w'
                     go_simp
                     with_reducible rfl
                    rotate_left
                    ·simp only [Act.put, List.setIfInBounds_toArray, List.set_cons_zero, List.set_cons_succ, i64_w, i32_w]
                     rfl
                    refine pure_ (i := 7) (N := some 65) (v := ?_) (a' := ?_) #[true, true, true, true, true, true, true, true, false, false, false, false, false, false, false, false, false, false, false, false, false, false, false, false, false] rfl rfl (any_of HT_.out (by kernel_rfl)) (fun _ _ _ h => h) (Or.inl ⟨by rfl, ?_⟩) ?_ ?_
                    rotate_left
                    ·intro w'
                     go_simp
                     with_reducible rfl
                    rotate_left
                    ·simp only [Act.put, List.setIfInBounds_toArray, List.set_cons_zero, List.set_cons_succ, i64_w, i32_w]
                     rfl
                    refine pure_ (i := 8) (N := some 66) (v := ?_) (a' := ?_) #[true, true, true, true, true, true, true, true, true, false, false, false, false, false, false, false, false, false, false, false, false, false, false, false, false] rfl rfl (any_of HT_.out (by kernel_rfl)) (fun _ _ _ h => h) (Or.inl ⟨by rfl, ?_⟩) ?_ ?_
                    rotate_left
                    ·intro w'
                     go_simp
                     with_reducible rfl
                    rotate_left
                    ·simp only [Act.put, List.setIfInBounds_toArray, List.set_cons_zero, List.set_cons_succ, i64_w, i32_w]
                     rfl
                    refine pure_ (i := 9) (N := some 67) (v := ?_) (a' := ?_) #[true, true, true, true, true, true, true, true, true, true, false, false, false, false, false, false, false, false, false, false, false, false, false, false, false] rfl rfl (any_of HT_.out (by kernel_rfl)) (fun _ _ _ h => h) (Or.inl ⟨by rfl, ?_⟩) ?_ ?_
                    rotate_left
                    ·intro w'
                     go_simp
                     with_reducible rfl
                    rotate_left
                    ·simp only [Act.put, List.setIfInBounds_toArray, List.set_cons_zero, List.set_cons_succ, i64_w, i32_w]
                     rfl
                    refine pure_ (i := 11) (N := some 69) (v := ?_) (a' := ?_) #[true, true, true, true, true, true, true, true, true, true, false, true, false, false, false, false, false, false, false, false, false, false, false, false, false] rfl rfl (any_of HT_.out (by kernel_rfl)) (fun _ _ _ h => h) (Or.inl ⟨by rfl, ?_⟩) ?_ ?_
                    rotate_left
                    ·intro w'
                     go_simp
                     with_reducible rfl
                    rotate_left
                    ·simp only [Act.put, List.setIfInBounds_toArray, List.set_cons_zero, List.set_cons_succ, i64_w, i32_w]
                     rfl
                    refine pure_ (i := 14) (N := some 72) (v := ?_) (a' := ?_) #[true, true, true, true, true, true, true, true, true, true, false, true, false, false, true, false, false, false, false, false, false, false, false, false, false] rfl rfl (any_of HT_.out (by kernel_rfl)) (fun _ _ _ h => h) (Or.inl ⟨by rfl, ?_⟩) ?_ ?_
                    rotate_left
                    ·intro w'
                     go_simp
                     with_reducible rfl
                    rotate_left
                    ·simp only [Act.put, List.setIfInBounds_toArray, List.set_cons_zero, List.set_cons_succ, i64_w, i32_w]
                     rfl
                    refine pure_ (i := 15) (N := some 73) (v := ?_) (a' := ?_) #[true, true, true, true, true, true, true, true, true, true, false, true, false, false, true, true, false, false, false, false, false, false, false, false, false] rfl rfl (any_of HT_.out (by kernel_rfl)) (fun _ _ _ h => h) (Or.inl ⟨by rfl, ?_⟩) ?_ ?_
                    rotate_left
                    ·intro w'
                     go_simp
                     with_reducible rfl
                    rotate_left
                    ·simp only [Act.put, List.setIfInBounds_toArray, List.set_cons_zero, List.set_cons_succ, i64_w, i32_w]
                     rfl
                    refine pure_ (i := 16) (N := some 74) (v := ?_) (a' := ?_) #[true, true, true, true, true, true, true, true, true, true, false, true, false, false, true, true, true, false, false, false, false, false, false, false, false] rfl rfl (any_of HT_.out (by kernel_rfl)) (fun _ _ _ h => h) (Or.inl ⟨by rfl, ?_⟩) ?_ ?_
                    rotate_left
                    ·intro w'
                     go_simp
                     with_reducible rfl
                    rotate_left
                    ·simp only [Act.put, List.setIfInBounds_toArray, List.set_cons_zero, List.set_cons_succ, i64_w, i32_w]
                     rfl
                    refine pure_ (i := 18) (N := some 76) (v := ?_) (a' := ?_) #[true, true, true, true, true, true, true, true, true, true, false, true, false, false, true, true, true, false, true, false, false, false, false, false, false] rfl rfl (any_of HT_.out (by kernel_rfl)) (fun _ _ _ h => h) (Or.inl ⟨by rfl, ?_⟩) ?_ ?_
                    rotate_left
                    ·intro w'
                     go_simp
                     with_reducible rfl
                    rotate_left
                    ·simp only [Act.put, List.setIfInBounds_toArray, List.set_cons_zero, List.set_cons_succ, i64_w, i32_w]
                     rfl
                    refine take_ (i := 10) (N := some 68) (v := ?_) (a' := ?_) #[true, true, true, true, true, true, true, true, true, true, true, true, false, false, true, true, true, false, true, false, false, false, false, false, false] rfl rfl (take_ofW HT_.out HW_.out (by kernel_rfl)) (fun _ _ _ h => h) (Or.inl ⟨by rfl, ?_⟩) hHeld ?_ ?_
                    rotate_left
                    ·rintro w' ⟨s0, s1⟩
                     go_simp
                     with_reducible rfl
                    rotate_left
                    ·simp only [Act.put, List.setIfInBounds_toArray, List.set_cons_zero, List.set_cons_succ, i64_w, i32_w]
                     rfl
                    refine pure_ (i := 12) (N := some 70) (v := ?_) (a' := ?_) #[true, true, true, true, true, true, true, true, true, true, true, true, true, false, true, true, true, false, true, false, false, false, false, false, false] rfl rfl (any_of HT_.out (by kernel_rfl)) (fun _ _ _ h => h) (Or.inl ⟨by rfl, ?_⟩) ?_ ?_
                    rotate_left
                    ·intro w'
                     go_simp
                     with_reducible rfl
                    rotate_left
                    ·simp only [Act.put, List.setIfInBounds_toArray, List.set_cons_zero, List.set_cons_succ, i64_w, i32_w]
                     rfl
                    refine take_ (i := 17) (N := some 75) (v := ?_) (a' := ?_) #[true, true, true, true, true, true, true, true, true, true, true, true, true, false, true, true, true, true, true, false, false, false, false, false, false] rfl rfl (take_ofW HT_.out HW_.out (by kernel_rfl)) (fun _ _ _ h => h) (Or.inl ⟨by rfl, ?_⟩) hHeld ?_ ?_
                    rotate_left
                    ·rintro w' ⟨s0, s1⟩
                     go_simp
                     with_reducible rfl
                    rotate_left
                    ·simp only [Act.put, List.setIfInBounds_toArray, List.set_cons_zero, List.set_cons_succ, i64_w, i32_w]
                     rfl
                    refine pure_ (i := 19) (N := some 77) (v := ?_) (a' := ?_) #[true, true, true, true, true, true, true, true, true, true, true, true, true, false, true, true, true, true, true, true, false, false, false, false, false] rfl rfl (any_of HT_.out (by kernel_rfl)) (fun _ _ _ h => h) (Or.inl ⟨by rfl, ?_⟩) ?_ ?_
                    rotate_left
                    ·intro w'
                     go_simp
                     with_reducible rfl
                    rotate_left
                    ·simp only [Act.put, List.setIfInBounds_toArray, List.set_cons_zero, List.set_cons_succ, i64_w, i32_w]
                     rfl
                    refine one_ (i := 13) (N := some 71) #[true, true, true, true, true, true, true, true, true, true, true, true, true, true, true, true, true, true, true, true, false, false, false, false, false] rfl rfl (one_of HT_.out (by kernel_rfl)) (by decide) (fun K hK => ?_)
                    refine goes_ Try.func50 (by kernel_rfl) rfl #[.complex .f64 (fl (G.add (rdOf G.zero t135 x13_2) t145).re) (fl (G.add (rdOf G.zero t135 x13_2) t145).im)] (by rfl) rfl rfl (by (try simp only [List.map_toArray, List.map_cons, List.map_nil]); first | done | rfl | (simp only [List.length_drop, List.length_take]; rfl)) ?_
                    with_reducible refine (beat_rest.calls (G.add (rdOf G.zero t135 x13_2) t145) t147 _ A33.out).mono ?_
                    rintro e w57 ⟨rfl, hb⟩
                    have HS0_ := (hb.cell (World.block_lt_of_cell? _ _ (hHeld.1))).trans (hHeld.1)
                    have HS1_ := (hb.cell (World.block_lt_of_cell? _ _ (hHeld.2))).trans (hHeld.2)
                    refine ⟨_, rfl, ?_⟩
                    have n0_ := Aside0.mk (Kd.R_below (by (with_reducible repeat (first | apply Kd.R_alloc | apply Kd.R_drewN | apply Kd.R_drew)); exact HO_6.out) hb)
                    have n1_ := Aside0.mk (Kd.R_below (by (with_reducible repeat (first | apply Kd.R_alloc | apply Kd.R_drewN | apply Kd.R_drew)); exact HO_7.out) hb)
                    have n2_ := Aside0.mk (Kd.R_below (by (with_reducible repeat (first | apply Kd.R_alloc | apply Kd.R_drewN | apply Kd.R_drew)); exact HO_11.out) hb)
                    have n3_ := Aside0.mk (Kept.below (S := (fun k_ => P0_ k_)) (by repeat (first | (with_reducible first | exact HK.out | apply Kept.alloc | apply Kept.drewN | apply Kept.drew) | exact HK.out)) hb)
                    have n4_ := Aside0.mk (below_step (by repeat (first | (with_reducible first | exact HB.out | apply below_alloc | apply pw_below_drewN | apply below_drew1) | exact HB.out)) hb)
                    clear HO_6
                    clear HO_7
                    clear HO_11
                    clear HK
                    clear HB
                    have HO_6 := n0_
                    have HO_7 := n1_
                    have HO_11 := n2_
                    have HK := n3_
                    have HB := n4_
                    clear n0_ n1_ n2_ n3_ n4_
                    (try clear hb)
                    (try clear hb2)
                    (try clear hk)
                    (try clear hi)
                    refine hK.out _ _ ⟨HS0_, HS1_⟩ (fun hHeld => ?_)
                    clear hK K
                    refine norm_ (a' := ?_) ?_ ?_
                    rotate_left
                    ·show Act.put _ (some 71) _ = _
                     simp only [Act.put, List.setIfInBounds_toArray, List.set_cons_zero, List.set_cons_succ, i64_w, i32_w]
                     rfl
                    refine one_ (i := 20) (N := some 78) #[true, true, true, true, true, true, true, true, true, true, true, true, true, true, true, true, true, true, true, true, true, false, false, false, false] rfl rfl (one_of HT_.out (by kernel_rfl)) (by decide) (fun K hK => ?_)
                    refine goes_ Try.func50 (by kernel_rfl) rfl #[.complex .f64 (fl (G.sub (rdOf G.zero t135 x13_2) t145).re) (fl (G.sub (rdOf G.zero t135 x13_2) t145).im)] (by rfl) rfl rfl (by (try simp only [List.map_toArray, List.map_cons, List.map_nil]); first | done | rfl | (simp only [List.length_drop, List.length_take]; rfl)) ?_
                    with_reducible refine (beat_rest.calls (G.sub (rdOf G.zero t135 x13_2) t145) t149 _ A34.out).mono ?_
                    rintro e w58 ⟨rfl, hb⟩
                    have HS0_ := (hb.cell (World.block_lt_of_cell? _ _ (hHeld.1))).trans (hHeld.1)
                    have HS1_ := (hb.cell (World.block_lt_of_cell? _ _ (hHeld.2))).trans (hHeld.2)
                    refine ⟨_, rfl, ?_⟩
                    have n0_ := Aside0.mk (Kd.R_below (by (with_reducible repeat (first | apply Kd.R_alloc | apply Kd.R_drewN | apply Kd.R_drew)); exact HO_6.out) hb)
                    have n1_ := Aside0.mk (Kd.R_below (by (with_reducible repeat (first | apply Kd.R_alloc | apply Kd.R_drewN | apply Kd.R_drew)); exact HO_7.out) hb)
                    have n2_ := Aside0.mk (Kd.R_below (by (with_reducible repeat (first | apply Kd.R_alloc | apply Kd.R_drewN | apply Kd.R_drew)); exact HO_11.out) hb)
                    have n3_ := Aside0.mk (Kept.below (S := (fun k_ => P0_ k_)) (by repeat (first | (with_reducible first | exact HK.out | apply Kept.alloc | apply Kept.drewN | apply Kept.drew) | exact HK.out)) hb)
                    have n4_ := Aside0.mk (below_step (by repeat (first | (with_reducible first | exact HB.out | apply below_alloc | apply pw_below_drewN | apply below_drew1) | exact HB.out)) hb)
                    clear HO_6
                    clear HO_7
                    clear HO_11
                    clear HK
                    clear HB
                    have HO_6 := n0_
                    have HO_7 := n1_
                    have HO_11 := n2_
                    have HK := n3_
                    have HB := n4_
                    clear n0_ n1_ n2_ n3_ n4_
                    (try clear hb)
                    (try clear hb2)
                    (try clear hk)
                    (try clear hi)
                    have p36 : 0 ≤ (x13_2 : Int) := of_decide_eq_true (by first | (with_reducible assumption) | assumption)
                    have q36 : (x13_2 : Int) < ((x11_2.length : Int) : Int) := of_decide_eq_true (by first | (with_reducible assumption) | assumption)
                    obtain ⟨go36, co36, eo36, gb36, gl36, cl36, HG36⟩ := Kd.R_form HO_11.out (by omega)
                    (first | cases eo36 | (injection eo36 with ea_ en_ ec_; (first | subst ea_ | (injection ea_ with ea_; subst ea_)); subst ec_; clear en_))
                    have GB36 := Aside0.mk gb36
                    have GG36 := Aside0.mk HG36
                    clear gb36 gl36 HG36
                    have HMgo36 := Aside0.mk (show (P0_ go36 ∨ w.heap.size ≤ go36) from (HO_11.out.1 _ rfl).1)
                    obtain ⟨hx36_0, hf36_0⟩ := Kd.R_celln G.zero HO_11.out (x13_2 : Int) p36 q36
                    try simp only [encC] at hx36_0
                    try simp only [encC] at hf36_0
                    replace p36 := eq_true p36
                    replace q36 := eq_true q36
                    have HP59 := Kd.R_putn HO_11.out (x13_2 : Int) t147
                    rw [← Ny150.out] at HP59
                    have HQ59 := Aside0.mk HP59
                    clear HP59
                    have p40 : 0 ≤ ((ji37) : Int) := of_decide_eq_true (by first | (with_reducible assumption) | assumption)
                    have q40 : ((ji37) : Int) < ((x11_2.length : Int) : Int) := of_decide_eq_true (by first | (with_reducible assumption) | assumption)
                    obtain ⟨hx40_0, hf40_0⟩ := Kd.R_celln G.zero HQ59.out ((ji37) : Int) p40 q40
                    try simp only [encC] at hx40_0
                    try simp only [encC] at hf40_0
                    replace p40 := eq_true p40
                    replace q40 := eq_true q40
                    have HP60 := Kd.R_putn HQ59.out ((ji37) : Int) t149
                    rw [← Ny151.out] at HP60
                    have HQ60 := Aside0.mk HP60
                    clear HP60
                    refine hK.out _ _ ⟨HS0_, HS1_⟩ (fun hHeld => ?_)
                    clear hK K
                    refine norm_ (a' := ?_) ?_ ?_
                    rotate_left
                    ·show Act.put _ (some 78) _ = _
                     simp only [Act.put, List.setIfInBounds_toArray, List.set_cons_zero, List.set_cons_succ, i64_w, i32_w]
                     rfl
                    refine pure_ (i := 21) (N := some 79) (v := ?_) (a' := ?_) #[true, true, true, true, true, true, true, true, true, true, true, true, true, true, true, true, true, true, true, true, true, true, false, false, false] rfl rfl (any_of HT_.out (by kernel_rfl)) (fun _ _ _ h => h) (Or.inl ⟨by rfl, ?_⟩) ?_ ?_
                    rotate_left
                    ·intro w'
                     go_simp
                     with_reducible rfl
                    rotate_left
                    ·simp only [Act.put, List.setIfInBounds_toArray, List.set_cons_zero, List.set_cons_succ, i64_w, i32_w]
                     rfl
                    refine last_ (i := 22) (N := none) #[true, true, true, true, true, true, true, true, true, true, true, true, true, true, true, true, true, true, true, true, true, true, true, false, false] rfl rfl (one_of HT_.out (by kernel_rfl)) (by decide) (fun K hK => ?_)
                    refine skip_ (w1 := ?_) (by rfl) rfl ?_ ?_
                    rotate_left
                    ·go_simp
                     rfl
                    refine hK.out _ _ ?_
                    clear hK K
                    refine pure_ (i := 23) (N := some 80) (v := ?_) (a' := ?_) #[true, true, true, true, true, true, true, true, true, true, true, true, true, true, true, true, true, true, true, true, true, true, true, true, false] rfl rfl (any_of HT_.out (by kernel_rfl)) (fun _ _ _ h => h) (Or.inl ⟨by rfl, ?_⟩) ?_ ?_
                    rotate_left
                    ·intro w'
                     go_simp
                     with_reducible rfl
                    rotate_left
                    ·simp only [Act.put, List.setIfInBounds_toArray, List.set_cons_zero, List.set_cons_succ, i64_w, i32_w]
                     rfl
                    refine last_ (i := 24) (N := none) #[true, true, true, true, true, true, true, true, true, true, true, true, true, true, true, true, true, true, true, true, true, true, true, true, true] rfl rfl (one_of HT_.out (by kernel_rfl)) (by decide) (fun K hK => ?_)
                    refine skip_ (w1 := ?_) (by rfl) rfl ?_ ?_
                    rotate_left
                    ·go_simp
                     rfl
                    refine hK.out _ _ ?_
                    clear hK K
                    refine done_ (done_of HT_.out (by kernel_rfl)) ?_
                    try go_wp2_with (first | ((with_reducible refine gate_callee (f := 50) rfl ?_); refine goesL_ (some 84) rfl rfl Try.func50 (by kernel_rfl) rfl #[.complex .f64 (fl (G.mul x12_2 a1).re) (fl (G.mul x12_2 a1).im)] rfl (by (try simp only [List.map_toArray, List.map_cons, List.map_nil]); first | done | rfl | (simp only [List.length_drop, List.length_take]; rfl)) ?_; (with_reducible refine (beat_rest.calls (G.mul x12_2 a1) t152 _ A42.out).mono ?_); rintro e w61 ⟨rfl, hb⟩; refine ⟨_, rfl, ?_⟩; have n0_ := Aside0.mk (Kd.R_below (by (with_reducible repeat (first | apply Kd.R_alloc | apply Kd.R_drewN | apply Kd.R_drew)); exact (Kd.R_mono (Kd.R_far (p := ⟨go36, ((ji37) : Int).toNat, none⟩) (Kd.R_far (p := ⟨go36, (x13_2 : Int).toNat, none⟩) (Kd.R_mono HO_6.out (fun k_ hk => (⟨hk, fun e_ => hk.2.2 (by rw [e_]; rfl)⟩ : _ ∧ k_ ≠ go36))) (fun _ hk => hk.2) (.complex .f64 (fl t147.re) (fl t147.im))) (fun _ hk => hk.2) (.complex .f64 (fl t149.re) (fl t149.im))) (fun _ h_ => h_.1))) hb); have n1_ := Aside0.mk (Kd.R_below (by (with_reducible repeat (first | apply Kd.R_alloc | apply Kd.R_drewN | apply Kd.R_drew)); exact (Kd.R_mono (Kd.R_far (p := ⟨go36, ((ji37) : Int).toNat, none⟩) (Kd.R_far (p := ⟨go36, (x13_2 : Int).toNat, none⟩) (Kd.R_mono HO_7.out (fun k_ hk => (⟨hk, fun e_ => hk.2.2 (by rw [e_]; rfl)⟩ : _ ∧ k_ ≠ go36))) (fun _ hk => hk.2) (.complex .f64 (fl t147.re) (fl t147.im))) (fun _ hk => hk.2) (.complex .f64 (fl t149.re) (fl t149.im))) (fun _ h_ => h_.1))) hb); have n2_ := Aside0.mk (Kd.R_below (by (with_reducible repeat (first | apply Kd.R_alloc | apply Kd.R_drewN | apply Kd.R_drew)); exact HQ60.out) hb); have n3_ := Aside0.mk (Kept.below (S := (fun k_ => P0_ k_)) (by repeat (first | (with_reducible first | exact HK.out | apply Kept.alloc | apply Kept.drewN | apply Kept.drew | refine Kept.setCell ?_ HMgo36.out _ | refine Kept.setCell ?_ HMgo36.out _) | exact HK.out)) hb); have n4_ := Aside0.mk (below_step (by repeat (first | (with_reducible first | exact HB.out | apply below_alloc | apply pw_below_drewN | apply below_drew1 | refine below_set ?_ GB36.out | refine below_set ?_ GB36.out) | exact HB.out)) hb); clear HO_6; clear HO_7; clear HO_11; clear HK; clear HB; have HO_6 := n0_; have HO_7 := n1_; have HO_11 := n2_; have HK := n3_; have HB := n4_; clear n0_ n1_ n2_ n3_ n4_; (try clear hb); (try clear hb2); (try clear hk); (try clear hi)))
                    try rw [jump_ret]
                    go_ret
                    exact ⟨_, by first | rfl | (simp [errW_none, errW_some] <;> rfl) | (simp only [← hji37]; first | rfl | (simp [errW_none, errW_some] <;> rfl)) | (simp [*, errW_none, errW_some] <;> rfl), by (with_reducible repeat (first | apply Kd.R_alloc | apply Kd.R_drewN | apply Kd.R_drew)); exact Kd.R_mono HO_11.out (fun _ hk => hk.1), by repeat (first | (with_reducible first | exact HB.out | apply below_alloc | apply pw_below_drewN | apply below_drew1) | exact HB.out), by repeat (first | (with_reducible first | exact HK.out | apply Kept.alloc | apply Kept.drewN | apply Kept.drew) | exact HK.out)⟩
                  ·rw [if_neg c41] at H
                   exact absurd H (by simp)
                 ·rw [if_neg c39] at H
                  exact absurd H (by simp)
                ·rw [if_neg c38] at H
                 exact absurd H (by simp)
               ·rw [if_neg c35] at H
                exact absurd H (by simp)
              ·rw [if_neg c32] at H
               exact absurd H (by simp)
             ·rw [if_neg c31] at H
              exact absurd H (by simp)
            ·rw [if_neg c29] at H
             exact absurd H (by simp)
           ·rw [if_neg c28] at H
            exact absurd H (by simp)
          ·rw [if_neg c27] at H
           exact absurd H (by simp)
        ·(repeat apply Exists.intro)
         refine ⟨?rel0, rfl⟩
         exact ⟨(y141), (G.one), (0), lit_one, (by first | rfl | (simp; done) | (simp [*]; done) | (simp [Int.tdiv_eq_ediv_of_nonneg]; done)), H', ⟨Nat.le_refl _⟩, ⟨by (with_reducible repeat (first | apply Kd.R_alloc | apply Kd.R_drewN | apply Kd.R_drew)); exact Kd.R_mono HO137.out (fun _ hk => ⟨hk.1.1, ⟨hk.1.2.2, hk.2⟩⟩)⟩, ⟨by (with_reducible repeat (first | apply Kd.R_alloc | apply Kd.R_drewN | apply Kd.R_drew)); exact Kd.R_mono HO140.out (fun _ hk => ⟨hk.1.1, ⟨hk.1.2.2, hk.2⟩⟩)⟩, ⟨by (with_reducible repeat (first | apply Kd.R_alloc | apply Kd.R_drewN | apply Kd.R_drew)); exact Kd.R_mono HO143.out (fun _ hk => ⟨hk.1.1.1.1, ⟨hk.1.2, hk.2⟩⟩)⟩, ⟨by repeat (first | (with_reducible first | exact HK.out | apply Kept.alloc | apply Kept.drewN | apply Kept.drew) | exact HK.out)⟩, ⟨by repeat (first | (with_reducible first | exact HB.out | apply below_alloc | apply pw_below_drewN | apply below_drew1) | exact HB.out)⟩⟩
       ·rw [if_neg c19] at H
        exact absurd H (by simp)
      ·rw [if_neg c18] at H
       exact absurd H (by simp)
     ·rw [if_neg c14] at H
      exact absurd H (by simp)

end Go.Proofs.YtkilnknndglmnaaP
end

section
-- Laid by given.py, a program of this seat, with the kit's printer.
namespace Go.Proofs.YtkilnknndglmnaaP
open Go.Proofs.Ytkilnknndglmnaa (G fl IsS isSB okC okF okC_iff encC kcx at_cx md red run_cmul run_cadd run_csub run_fint lit_one lit_zero tdiv_32 run_store_cx)
attribute [local go_sem] run_cmul run_cadd run_csub run_fint lit_one lit_zero tdiv_32 run_store_cx
open Go.RowKit Go.Proofs.YtkilnknndglmnaaW.PrintWords Go.Proofs.YtkilnknndglmnaaW.PrintLast Go.Proofs.YtkilnknndglmnaaW.PrintMore
attribute [local go_sem] max2_int min2_int max_two min_two max_three min_three max_four min_four   -- for this text's walks alone
set_option linter.unusedVariables false
set_option linter.unusedSimpArgs false

/-! ### beat_Turn: function 12 -/
def beat_Turn.f (k : Nat) (l0 : List (S26)) : Option ((List (S26)) × Int) := (beat_numbers.f k l0).bind fun bt153 => (if bt153.2 = 0 then ((beat_Root.f (l0.length : Int)).bind fun bt157 => ((beat_number.f bt157.1 bt157.2.1).bind fun t161 => ((beat_halve.f k bt153.1 t161).bind fun t162 => ((beat_seals.f k t162).bind fun t165 => (some (t165, bt157.2.2)))))) else (some (([] : List (S26)), bt153.2)))
theorem beat_Turn.mono : ∀ a0 k, LeO (beat_Turn.f k a0) (beat_Turn.f (k + 1) a0) := by
 intro a0 k
 unfold beat_Turn.f
 repeat' first
   | (with_reducible exact beat_halve.mono _ _ _)
   | (with_reducible exact beat_numbers.mono _ _)
   | (with_reducible exact beat_seals.mono _ _)
   | (with_reducible exact LeO.refl _)
   | (with_reducible exact LeO.none _)
   | (with_reducible refine LeO.ite ?_ ?_)
   | (with_reducible refine LeO.bind ?_ (fun _ => ?_))
   | exact beat_halve.mono _ _ _
   | exact beat_numbers.mono _ _
   | exact beat_seals.mono _ _
   | exact LeO.none _
   | refine LeO.ite ?_ ?_
   | refine LeO.bind ?_ (fun _ => ?_)
set_option maxHeartbeats 8000000 in
set_option maxRecDepth 100000 in
theorem beat_Turn.calls (k : Nat) (A0 : Option Addr) (c0 : Nat) (l0 : List (S26)) (r1 : List (S26)) (r2 : Int) (w : World) (hr0 : Kd.C k26 w A0 l0.length l0) (hc0 : l0.length ≤ c0) (h : beat_Turn.f k l0 = some (r1, r2)) :
  Calls Try.prog 12 #[.slice A0 l0.length c0] w fun e w' => ∃ v0_ : Value, e = .returned (.tuple #[v0_, .int .i64 r2]) ∧ Kd.R k26 26 w' w.heap.size (fun _ => True) v0_ r1 ∧ Below w.heap.size w w' := by
 have hu26 := Try.underlying26
 have HR0 := Aside0.mk hr0
 have HC0 := Aside0.mk hc0
 clear hr0 hc0
 have HB := Aside0.mk (Below.refl w.heap.size w)
 have H : ((beat_numbers.f k l0).bind fun bt153 => (if bt153.2 = 0 then ((beat_Root.f (l0.length : Int)).bind fun bt157 => ((beat_number.f bt157.1 bt157.2.1).bind fun t161 => ((beat_halve.f k bt153.1 t161).bind fun t162 => ((beat_seals.f k t162).bind fun t165 => (some (t165, bt157.2.2)))))) else (some (([] : List (S26)), bt153.2)))) = some (r1, r2) := h
 clear h
 replace H := Option.bind_eq_some_iff.mp H
 obtain ⟨⟨t153, t154⟩, A20, H⟩ := H
 replace H : (if t154 = 0 then ((beat_Root.f (l0.length : Int)).bind fun bt157 => ((beat_number.f bt157.1 bt157.2.1).bind fun t161 => ((beat_halve.f k t153 t161).bind fun t162 => ((beat_seals.f k t162).bind fun t165 => (some (t165, bt157.2.2)))))) else (some (([] : List (S26)), t154))) = some (r1, r2) := H
 have A2 := Aside0.mk A20
 clear A20
 by_cases c3 : t154 = 0
 ·rw [if_pos c3] at H
  have c3b0 : (t154 == 0) = true := beq_iff_eq.mpr c3
  have c3b1 : (t154 != 0) = false := bne_eq_false_iff_eq.mpr c3
  clear c3
  replace H := Option.bind_eq_some_iff.mp H
  obtain ⟨⟨t157, t158, t159⟩, A40, H⟩ := H
  replace H : ((beat_number.f t157 t158).bind fun t161 => ((beat_halve.f k t153 t161).bind fun t162 => ((beat_seals.f k t162).bind fun t165 => (some (t165, t159))))) = some (r1, r2) := H
  have A4 := Aside0.mk A40
  clear A40
  replace H := Option.bind_eq_some_iff.mp H
  obtain ⟨t161, A50, H⟩ := H
  replace H : ((beat_halve.f k t153 t161).bind fun t162 => ((beat_seals.f k t162).bind fun t165 => (some (t165, t159)))) = some (r1, r2) := H
  have A5 := Aside0.mk A50
  clear A50
  replace H := Option.bind_eq_some_iff.mp H
  obtain ⟨t162, A60, H⟩ := H
  replace H : ((beat_seals.f k t162).bind fun t165 => (some (t165, t159))) = some (r1, r2) := H
  have A6 := Aside0.mk A60
  clear A60
  replace H := Option.bind_eq_some_iff.mp H
  obtain ⟨t165, A70, H⟩ := H
  replace H : (some (t165, t159)) = some (r1, r2) := H
  have A7 := Aside0.mk A70
  clear A70
  simp only [Option.some.injEq, Prod.mk.injEq] at H
  obtain ⟨rfl, rfl⟩ := H
  go_enter Try.func12, Try.ntmps12
  go_wp2_with (first | ((with_reducible refine gate_callee (f := 32) rfl ?_); refine goesL_ (some 9) rfl rfl Try.func32 (by kernel_rfl) rfl #[.slice A0 l0.length c0] rfl (by (try simp only [List.map_toArray, List.map_cons, List.map_nil]); first | done | rfl | (simp only [List.length_drop, List.length_take]; rfl)) ?_; (with_reducible refine (beat_numbers.calls k _ _ l0 t153 t154 _ ?side1 ?side2 A2.out).mono ?_); (case side1 => repeat (first | exact HR0.out | (with_reducible refine Kd.C_alloc ?_ _) | (with_reducible refine Kd.C_drewN ?_ _) | (with_reducible refine Kd.C_drew ?_))); (case side2 => exact HC0.out); rintro e w8 ⟨v155, rfl, ho0, hb⟩; refine ⟨_, rfl, ?_⟩; have n0_ := Aside0.mk (Kd.R_lower ho0 (below_size (by repeat (first | (with_reducible first | exact HB.out | apply below_alloc | apply pw_below_drewN | apply below_drew1) | exact HB.out)))); have n1_ := Aside0.mk (below_step (by repeat (first | (with_reducible first | exact HB.out | apply below_alloc | apply pw_below_drewN | apply below_drew1) | exact HB.out)) hb); clear HB; have HO156 := n0_; have HB := n1_; clear n0_ n1_; (try clear hb); (try clear hb2); (try clear hk); (try clear hi); (try clear ho0)) | ((with_reducible refine gate_callee (f := 13) rfl ?_); refine goesL_ (some 18) rfl rfl Try.func13 (by kernel_rfl) rfl #[.int .i64 (l0.length : Int)] rfl (by (try simp only [List.map_toArray, List.map_cons, List.map_nil]); first | done | rfl | (simp only [List.length_drop, List.length_take]; rfl)) ?_; (with_reducible refine (beat_Root.calls (l0.length : Int) t157 t158 t159 _ A4.out).mono ?_); rintro e w9 ⟨rfl, hb⟩; refine ⟨_, rfl, ?_⟩; have n0_ := Aside0.mk (Kd.R_below (by (with_reducible repeat (first | apply Kd.R_alloc | apply Kd.R_drewN | apply Kd.R_drew)); exact HO156.out) hb); have n1_ := Aside0.mk (below_step (by repeat (first | (with_reducible first | exact HB.out | apply below_alloc | apply pw_below_drewN | apply below_drew1) | exact HB.out)) hb); clear HO156; clear HB; have HO156 := n0_; have HB := n1_; clear n0_ n1_; (try clear hb); (try clear hb2); (try clear hk); (try clear hi)) | ((with_reducible refine gate_dst (N := 6) rfl ?_); refine box_event ?hg (N := 6) ?hd (cs := #[.int .i64 0, .int .i64 0]) (t := 26) ?hr ?_; (case hd => rfl); (case hg => rfl); (case hr => first | (go_simp; done) | (go_simp; rfl)); intro gb160 hg w10 hbox hb; have n0_ := Aside0.mk (Kd.R_below (by (with_reducible repeat (first | apply Kd.R_alloc | apply Kd.R_drewN | apply Kd.R_drew)); exact HO156.out) hb); have n1_ := Aside0.mk (below_step (by repeat (first | (with_reducible first | exact HB.out | apply below_alloc | apply pw_below_drewN | apply below_drew1) | exact HB.out)) hb); have n2_ := Aside0.mk (hbox); have n3_ := Aside0.mk ((by rw [hg]; exact (below_size (by repeat (first | (with_reducible first | exact HB.out | apply below_alloc | apply pw_below_drewN | apply below_drew1) | exact HB.out))) : w.heap.size ≤ gb160)); have n4_ := Aside0.mk ((by rw [hg]; exact (below_size (by repeat (first | (with_reducible first | exact HB.out | apply below_alloc | apply pw_below_drewN | apply below_drew1) | exact HB.out))) : w.heap.size ≤ gb160)); clear HO156; clear HB; have HO156 := n0_; have HB := n1_; have BK160 := n2_; have GW160 := n3_; have GE160 := n4_; clear n0_ n1_ n2_ n3_ n4_; clear hb hbox hg; have hcz11_0 : w10.cell? ⟨gb160, 0, none⟩ = some (.int .i64 0) := (blk_cell BK160.out 0).trans rfl; have hcz11_1 : w10.cell? ⟨gb160, 1, none⟩ = some (.int .i64 0) := (blk_cell BK160.out 1).trans rfl; have hfz11_0 := blk_frozen BK160.out 0; have hfz11_1 := blk_frozen BK160.out 1) | ((with_reducible refine gate_callee (f := 35) rfl ?_); refine goesL_ (some 23) rfl rfl Try.func35 (by kernel_rfl) rfl #[.agg #[.int .i64 t157, .int .i64 t158]] rfl (by (try simp only [List.map_toArray, List.map_cons, List.map_nil]); first | done | rfl | (simp only [List.length_drop, List.length_take]; rfl)) ?_; (with_reducible refine (beat_number.calls t157 t158 t161 _ A5.out).mono ?_); rintro e w12 ⟨rfl, hb⟩; refine ⟨_, rfl, ?_⟩; have n0_ := Aside0.mk (Kd.R_below (by (with_reducible repeat (first | apply Kd.R_alloc | apply Kd.R_drewN | apply Kd.R_drew)); exact (Kd.R_mono (Kd.R_far (p := ⟨gb160, 1, none⟩) (Kd.R_far (p := ⟨gb160, 0, none⟩) (Kd.R_types HO156.out BK160.out (by decide)) (fun _ hk => hk.2) (.int .i64 t157)) (fun _ hk => hk.2) (.int .i64 t158)) (fun _ h_ => h_.1))) hb); have n1_ := Aside0.mk (blk_below (g := gb160) (o := .cells #[.int .i64 t157, .int .i64 t158] 26 (0, 0)) (by (with_reducible repeat (first | refine blk_drewN ?_ _ | refine blk_drew ?_ | refine blk_alloc ?_ _)); refine blk_put (cs := #[.int .i64 t157, .int .i64 0]) ?_ 1 _ rfl; (with_reducible repeat (first | refine blk_drewN ?_ _ | refine blk_drew ?_ | refine blk_alloc ?_ _)); refine blk_put (cs := #[.int .i64 0, .int .i64 0]) ?_ 0 _ rfl; (with_reducible repeat (first | refine blk_drewN ?_ _ | refine blk_drew ?_ | refine blk_alloc ?_ _)); exact BK160.out) hb); have n2_ := Aside0.mk (below_step (by repeat (first | (with_reducible first | exact HB.out | apply below_alloc | apply pw_below_drewN | apply below_drew1 | refine below_set ?_ GE160.out) | exact HB.out)) hb); clear HO156; clear BK160; clear HB; have HO156 := n0_; have BK160 := n1_; have HB := n2_; clear n0_ n1_ n2_; (try clear hb); (try clear hb2); (try clear hk); (try clear hi); obtain ⟨Ao13, co13, eo13⟩ := Kd.R_slice HO156.out; subst eo13) | ((with_reducible refine gate_callee (f := 34) rfl ?_); refine goesL_ (some 24) rfl rfl Try.func34 (by kernel_rfl) rfl #[.slice Ao13 t153.length co13, .complex .f64 (fl t161.re) (fl t161.im)] rfl (by (try simp only [List.map_toArray, List.map_cons, List.map_nil]); first | done | rfl | (simp only [List.length_drop, List.length_take]; rfl)) ?_; (with_reducible refine (beat_halve.calls k (fun k_ => some k_ = (.slice Ao13 t153.length co13 : Value).ownBlock) (.slice Ao13 t153.length co13) t153 t161 t162 w _ ?side1 ?side2 A6.out).mono ?_); (case side1 => repeat (first | (with_reducible first | exact HB.out | apply below_alloc | apply pw_below_drewN | apply below_drew1 | refine below_set ?_ GE160.out) | exact HB.out)); (case side2 => exact Kd.R_tight rfl HO156.out); rintro e w14 ⟨v163, rfl, ho0, hb, hkp⟩; refine ⟨_, rfl, ?_⟩; have n0_ := Aside0.mk (blk_kept (by (with_reducible repeat (first | refine blk_drewN ?_ _ | refine blk_drew ?_ | refine blk_alloc ?_ _)); exact BK160.out) hkp (fun hs_ => (fun e_ => (Kd.R_ne HO156.out BK160.out (by decide)) e_) hs_)); have n1_ := Aside0.mk (Kd.R_mono (ok' := fun k_ => True) ho0 (fun k_ hk_ => trivial)); have n2_ := Aside0.mk (hb); clear BK160; clear HB; clear HO156; have BK160 := n0_; have HO164 := n1_; have HB := n2_; clear n0_ n1_ n2_; (try clear hb); (try clear hkp); (try clear ho0); obtain ⟨Ao15, co15, eo15⟩ := Kd.R_slice HO164.out; subst eo15) | ((with_reducible refine gate_callee (f := 33) rfl ?_); refine goesL_ (some 25) rfl rfl Try.func33 (by kernel_rfl) rfl #[.slice Ao15 t162.length co15] rfl (by (try simp only [List.map_toArray, List.map_cons, List.map_nil]); first | done | rfl | (simp only [List.length_drop, List.length_take]; rfl)) ?_; (with_reducible refine (beat_seals.calls k _ _ t162 t165 _ ?side1 ?side2 A7.out).mono ?_); (case side1 => repeat (first | exact (Kd.R_reads' HO164.out).2.2 | (with_reducible refine Kd.C_alloc ?_ _) | (with_reducible refine Kd.C_drewN ?_ _) | (with_reducible refine Kd.C_drew ?_))); (case side2 => exact (Kd.R_reads' HO164.out).2.1); rintro e w16 ⟨v166, rfl, ho0, hb⟩; refine ⟨_, rfl, ?_⟩; have n0_ := Aside0.mk (Kd.R_below (by (with_reducible repeat (first | apply Kd.R_alloc | apply Kd.R_drewN | apply Kd.R_drew)); exact HO164.out) hb); have n1_ := Aside0.mk (Kd.R_lower (Kd.R_newB ho0 (g := gb160) (o := .cells #[.int .i64 t157, .int .i64 t158] 26 (0, 0)) (by (with_reducible repeat (first | refine blk_drewN ?_ _ | refine blk_drew ?_ | refine blk_alloc ?_ _)); exact BK160.out)) (below_size (by repeat (first | (with_reducible first | exact HB.out | apply below_alloc | apply pw_below_drewN | apply below_drew1 | refine below_set ?_ GE160.out) | exact HB.out)))); have n2_ := Aside0.mk (blk_below (g := gb160) (o := .cells #[.int .i64 t157, .int .i64 t158] 26 (0, 0)) (by (with_reducible repeat (first | refine blk_drewN ?_ _ | refine blk_drew ?_ | refine blk_alloc ?_ _)); exact BK160.out) hb); have n3_ := Aside0.mk (below_step (by repeat (first | (with_reducible first | exact HB.out | apply below_alloc | apply pw_below_drewN | apply below_drew1 | refine below_set ?_ GE160.out) | exact HB.out)) hb); clear HO164; clear BK160; clear HB; have HO164 := n0_; have HO167 := n1_; have BK160 := n2_; have HB := n3_; clear n0_ n1_ n2_ n3_; (try clear hb); (try clear hb2); (try clear hk); (try clear hi); (try clear ho0)))
  go_ret2
  exact ⟨_, by first | rfl | (simp [errW_none, errW_some] <;> rfl) | (simp [*, errW_none, errW_some] <;> rfl), by (with_reducible repeat (first | apply Kd.R_alloc | apply Kd.R_drewN | apply Kd.R_drew)); exact Kd.R_mono HO167.out (fun _ hk => trivial), by repeat (first | (with_reducible first | exact HB.out | apply below_alloc | apply pw_below_drewN | apply below_drew1 | refine below_set ?_ GE160.out) | exact HB.out)⟩
 ·rw [if_neg c3] at H
  have c3b0 : (t154 == 0) = false := beq_eq_false_iff_ne.mpr c3
  have c3b1 : (t154 != 0) = true := bne_iff_ne.mpr c3
  simp only [Option.some.injEq, Prod.mk.injEq] at H
  obtain ⟨rfl, rfl⟩ := H
  go_enter Try.func12, Try.ntmps12
  go_wp2_with (first | ((with_reducible refine gate_callee (f := 32) rfl ?_); refine goesL_ (some 9) rfl rfl Try.func32 (by kernel_rfl) rfl #[.slice A0 l0.length c0] rfl (by (try simp only [List.map_toArray, List.map_cons, List.map_nil]); first | done | rfl | (simp only [List.length_drop, List.length_take]; rfl)) ?_; (with_reducible refine (beat_numbers.calls k _ _ l0 t153 t154 _ ?side1 ?side2 A2.out).mono ?_); (case side1 => repeat (first | exact HR0.out | (with_reducible refine Kd.C_alloc ?_ _) | (with_reducible refine Kd.C_drewN ?_ _) | (with_reducible refine Kd.C_drew ?_))); (case side2 => exact HC0.out); rintro e w17 ⟨v155, rfl, ho0, hb⟩; refine ⟨_, rfl, ?_⟩; have n0_ := Aside0.mk (Kd.R_lower ho0 (below_size (by repeat (first | (with_reducible first | exact HB.out | apply below_alloc | apply pw_below_drewN | apply below_drew1) | exact HB.out)))); have n1_ := Aside0.mk (below_step (by repeat (first | (with_reducible first | exact HB.out | apply below_alloc | apply pw_below_drewN | apply below_drew1) | exact HB.out)) hb); clear HB; have HO156 := n0_; have HB := n1_; clear n0_ n1_; (try clear hb); (try clear hb2); (try clear hk); (try clear hi); (try clear ho0)))
  go_ret2
  exact ⟨_, by first | rfl | (simp [errW_none, errW_some] <;> rfl) | (simp [*, errW_none, errW_some] <;> rfl), by first | exact Kd.R_nil _ _ _ _ _ | exact Kd.N_nil _ _ _ _ _ | exact Kd.V_nil _ _ _ _ _ | exact Kd.Q_nil _ _ _ _ _ | exact Kd.S_nil _ _ _ _ _, by repeat (first | (with_reducible first | exact HB.out | apply below_alloc | apply pw_below_drewN | apply below_drew1) | exact HB.out)⟩

end Go.Proofs.YtkilnknndglmnaaP
end
