/- Plain numbers: a sliding window as it counts, moved, asked, taken from. No Go in sight. -/
import Derived.Test.YtkcnenekmjgmgaaM
namespace Go.Proofs.Ytkcnenekmjgmgaa

/-- A window: the bucket it stands at, and what stands in each. -/
structure Win where
  g : Int
  l : List Int

/-- A window's policy that may be. -/
def meansW (p : Pol) : Bool := (p.k == 2) && okB p
theorem meansW_kind {p : Pol} (h : (p.k == 2) = false) : meansW p = false := by simp [meansW, h]
theorem meansW_yes {p : Pol} (h : p.k = 2) (h2 : okB p = true) : meansW p = true := by simp [meansW, h, h2]
theorem meansW_no {p : Pol} (h2 : okB p = false) : meansW p = false := by simp [meansW, h2]
theorem meansW_bounds {p : Pol} (h : meansW p = true) : p.k = 2 ∧ (1 ≤ p.cap ∧ p.cap ≤ 1048576) ∧ (1 ≤ p.width ∧ p.width ≤ 1048576) ∧ (1 ≤ p.count ∧ p.count ≤ 32) := by
  simp [meansW, okB, allB, bucketB, windowB, within] at h
  omega

/-- The bucket of a tick. -/
def gridN (p : Pol) (t : Int) : Int := (clipI t 1099511627776).tdiv p.width
def gridP (p : Pol) (t : Int) : Int := if meansW p then gridN p t else 0
theorem gridP_yes {p : Pol} (h : meansW p = true) (t : Int) : gridP p t = gridN p t := by simp [gridP, h]
theorem gridP_no {p : Pol} (h : meansW p = false) (t : Int) : gridP p t = 0 := by simp [gridP, h]

def zeros (n : Nat) : List Int := List.replicate n 0
def noWin : Win := ⟨0, []⟩
def freshN (p : Pol) (t : Int) : Win := ⟨gridN p t, zeros p.count.toNat⟩
def freshP (p : Pol) (t : Int) : Win := if meansW p then freshN p t else noWin

/-- A number that no bucket may hold. -/
def badN (n : Int) : Bool := decide (n < 0 ∨ 1099511627776 < n)
theorem badN_low {n : Int} (h : n < 0) : badN n = true := by simp [badN]; omega
theorem badN_high {n : Int} (h : 1099511627776 < n) : badN n = true := by simp [badN]; omega
theorem badN_not {n : Int} (h0 : 0 ≤ n) (h : n ≤ 1099511627776) : badN n = false := by simp [badN]; omega
theorem badN_iff {n : Int} : badN n = false ↔ 0 ≤ n ∧ n ≤ 1099511627776 := by simp [badN]

/-- A window that may be, as it is; else an empty one. -/
def goodP (p : Pol) (s : Win) : Bool := decide (0 ≤ s.g ∧ s.g ≤ gridN p 1099511627776 ∧ (s.l.length : Int) = p.count ∧ s.l.any badN = false)
def countsN (p : Pol) (s : Win) : Win := if goodP p s then s else freshN p 0

def shiftL (l : List Int) (k : Nat) : List Int := l.drop k ++ zeros (min k l.length)
def moveN (p : Pol) (s : Win) (t : Int) : Win :=
  if gridN p t ≤ (countsN p s).g then countsN p s else ⟨gridN p t, shiftL (countsN p s).l (gridN p t - (countsN p s).g).toNat⟩
def moveP (p : Pol) (s : Win) (t : Int) : Win := if meansW p then moveN p s t else noWin

def sumN : List Int → Int
  | [] => 0
  | x :: l => clipI x 1099511627776 + sumN l
theorem sumN_append (a b : List Int) : sumN (a ++ b) = sumN a + sumN b := by
  induction a with
  | nil => simp [sumN]
  | cons x a ih => simp [sumN, ih]; omega
theorem sumN_bound (l : List Int) : 0 ≤ sumN l ∧ sumN l ≤ 1099511627776 * l.length := by
  induction l with
  | nil => simp [sumN]
  | cons x l ih =>
    have := clipI_bound x (m := 1099511627776) (by omega)
    simp only [sumN, List.length_cons]
    omega
def totalN (s : Win) : Int := if 32 < s.l.length then 0 else sumN s.l
theorem totalN_bound (s : Win) : 0 ≤ totalN s ∧ totalN s ≤ 35184372088832 := by
  unfold totalN
  have := sumN_bound s.l
  split <;> omega

def mayW (p : Pol) (s : Win) (c : Int) : Bool := meansW p && within c 1 1048576 && decide (totalN (countsN p s) + c ≤ p.cap)

def lastSet (l : List Int) (c : Int) : List Int := l.set (l.length - 1) (min (l.getD (l.length - 1) 0 + c) 1099511627776)
def takeN (p : Pol) (s : Win) (c : Int) : Win :=
  if within c 1 1048576 then ⟨(countsN p s).g, lastSet (countsN p s).l c⟩ else countsN p s
def takeW (p : Pol) (s : Win) (c : Int) : Win := if meansW p then takeN p s c else noWin

theorem gridN_bound {p : Pol} (hm : meansW p = true) (t : Int) : 0 ≤ gridN p t ∧ gridN p t ≤ 1099511627776 := by
  have hb := clipI_bound t (m := 1099511627776) (by omega)
  have hw := (meansW_bounds hm).2.2.1
  unfold gridN
  rw [Int.tdiv_eq_ediv_of_nonneg hb.1]
  constructor
  · exact Int.ediv_nonneg hb.1 (by omega)
  · exact Int.le_trans (Int.ediv_le_self _ hb.1) hb.2
theorem gridN_mono {p : Pol} (hm : meansW p = true) {a b : Int} (h : a ≤ b) : gridN p a ≤ gridN p b := by
  have ha := clipI_bound a (m := 1099511627776) (by omega)
  have hb := clipI_bound b (m := 1099511627776) (by omega)
  have hw := (meansW_bounds hm).2.2.1
  unfold gridN
  rw [Int.tdiv_eq_ediv_of_nonneg ha.1, Int.tdiv_eq_ediv_of_nonneg hb.1]
  apply Int.ediv_le_ediv (by omega)
  unfold clipI
  split <;> split <;> (try split) <;> (try split) <;> omega
theorem gridN_zero (p : Pol) : gridN p 0 = 0 := by simp [gridN, clipI]
theorem gridN_top {p : Pol} (hm : meansW p = true) (t : Int) : gridN p t ≤ gridN p 1099511627776 := by
  rcases Int.lt_or_le 1099511627776 t with h | h
  · have : gridN p t = gridN p 1099511627776 := by unfold gridN; rw [clipI_high (by omega) h, clipI_mid (by omega) (by omega)]
    omega
  · exact gridN_mono hm h

/-- A window that may be. -/
structure Good (p : Pol) (s : Win) : Prop where
  lo : 0 ≤ s.g
  hi : s.g ≤ gridN p 1099511627776
  len : s.l.length = p.count.toNat
  ok : ∀ x ∈ s.l, 0 ≤ x ∧ x ≤ 1099511627776
theorem goodP_iff {p : Pol} (hm : meansW p = true) {s : Win} : goodP p s = true ↔ Good p s := by
  have hc := (meansW_bounds hm).2.2.2
  constructor
  · intro h
    simp [goodP] at h
    exact ⟨h.1, h.2.1, by omega, fun x hx => badN_iff.1 (h.2.2.2 x hx)⟩
  · intro h
    have := h.len
    simp [goodP]
    exact ⟨h.lo, h.hi, by omega, fun x hx => badN_iff.2 (h.ok x hx)⟩
theorem countsN_self {p : Pol} (hm : meansW p = true) {s : Win} (h : Good p s) : countsN p s = s := by simp [countsN, (goodP_iff hm).2 h]
theorem fresh_good {p : Pol} (hm : meansW p = true) (t : Int) : Good p (freshN p t) :=
  ⟨(gridN_bound hm t).1, gridN_top hm t, by simp [freshN, zeros], fun x hx => by simp [freshN, zeros] at hx; omega⟩
theorem counts_good {p : Pol} (hm : meansW p = true) (s : Win) : Good p (countsN p s) := by
  unfold countsN
  split
  · exact (goodP_iff hm).1 (by assumption)
  · exact fresh_good hm 0
theorem getD_mem {l : List Int} {i : Nat} (h : i < l.length) : l.getD i 0 ∈ l := by
  have e : l.getD i 0 = l[i] := by simp [h]
  rw [e]; exact List.getElem_mem h
theorem zeros_length (n : Nat) : (zeros n).length = n := by simp [zeros]
theorem shiftL_length (l : List Int) (k : Nat) : (shiftL l k).length = l.length := by simp [shiftL, zeros_length]; omega
theorem shiftL_ok {l : List Int} (h : ∀ x ∈ l, 0 ≤ x ∧ x ≤ 1099511627776) (k : Nat) : ∀ x ∈ shiftL l k, 0 ≤ x ∧ x ≤ 1099511627776 := by
  intro x hx
  simp [shiftL, zeros] at hx
  rcases hx with hx | hx
  · exact h x (List.mem_of_mem_drop hx)
  · omega
theorem move_good {p : Pol} (hm : meansW p = true) (s : Win) (t : Int) : Good p (moveN p s t) := by
  have hg := counts_good hm s
  unfold moveN
  split
  · exact hg
  · exact ⟨(gridN_bound hm t).1, gridN_top hm t, by simp [shiftL_length, hg.len], shiftL_ok hg.ok _⟩
theorem lastSet_length (l : List Int) (c : Int) : (lastSet l c).length = l.length := by simp [lastSet]
theorem take_good {p : Pol} (hm : meansW p = true) (s : Win) (c : Int) : Good p (takeN p s c) := by
  have hg := counts_good hm s
  unfold takeN
  split
  · rename_i hc
    have hc2 := within_iff.1 hc
    refine ⟨hg.lo, hg.hi, by simp [lastSet_length, hg.len], fun x hx => ?_⟩
    unfold lastSet at hx
    rcases List.mem_or_eq_of_mem_set hx with h | h
    · exact hg.ok x h
    · have hcc := (meansW_bounds hm).2.2.2
      have hl := hg.len
      have : 0 ≤ (countsN p s).l.getD ((countsN p s).l.length - 1) 0 := by
        have hlt : (countsN p s).l.length - 1 < (countsN p s).l.length := by omega
        exact (hg.ok _ (getD_mem hlt)).1
      omega
  · exact hg

#print axioms take_good
end Go.Proofs.Ytkcnenekmjgmgaa
