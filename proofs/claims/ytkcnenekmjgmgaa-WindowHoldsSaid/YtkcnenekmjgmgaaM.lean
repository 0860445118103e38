/- Plain numbers: a number between two bounds; a number clipped; a policy that may be. No Go in sight. -/
namespace Go.Proofs.Ytkcnenekmjgmgaa

/-- A number between two bounds. -/
def within (n lo hi : Int) : Bool := decide (lo ≤ n ∧ n ≤ hi)
theorem within_yes {n lo hi : Int} (h1 : lo ≤ n) (h2 : n ≤ hi) : within n lo hi = true := by simp [within, h1, h2]
theorem within_low {n lo hi : Int} (h1 : n < lo) : within n lo hi = false := by simp [within]; omega
theorem within_high {n lo hi : Int} (h1 : hi < n) : within n lo hi = false := by simp [within]; omega
theorem within_iff {n lo hi : Int} : within n lo hi = true ↔ lo ≤ n ∧ n ≤ hi := by simp [within]
theorem within_not {n lo hi : Int} (h : within n lo hi = false) : n < lo ∨ hi < n := by simp [within] at h; omega

/-- A number clipped to 0 and a bound. -/
def clipI (n most : Int) : Int := if n < 0 then 0 else if most < n then most else n
theorem clipI_low {n m : Int} (h : n < 0) : clipI n m = 0 := by simp [clipI, h]
theorem clipI_high {n m : Int} (h0 : 0 ≤ n) (h : m < n) : clipI n m = m := by unfold clipI; rw [if_neg (by omega), if_pos h]
theorem clipI_mid {n m : Int} (h0 : 0 ≤ n) (h : n ≤ m) : clipI n m = n := by unfold clipI; rw [if_neg (by omega), if_neg (by omega)]
theorem clipI_bound (n : Int) {m : Int} (hm : 0 ≤ m) : 0 ≤ clipI n m ∧ clipI n m ≤ m := by unfold clipI; split; omega; split <;> omega

/-- A policy's ten numbers. -/
structure Pol where
  k : Int
  cap : Int
  num : Int
  den : Int
  width : Int
  count : Int
  keys : Int
  slots : Int
  every : Int
  seg : Int

/-- The fields that both kinds have. -/
def allB (p : Pol) : Bool := within p.cap 1 1048576 && within p.keys 1 1000 && within p.slots 1 64 && within p.every 0 1000 && within p.seg 1 1000
def bucketB (p : Pol) : Bool := (p.k == 1) && within p.num 1 65536 && within p.den 1 65536 && (p.width == 0) && (p.count == 0)
def windowB (p : Pol) : Bool := (p.k == 2) && within p.width 1 1048576 && within p.count 1 32 && (p.num == 0) && (p.den == 0)
/-- A policy that may be. -/
def okB (p : Pol) : Bool := allB p && (bucketB p || windowB p)

/-- What Right answers: 0, or 40. -/
def rightN (p : Pol) : Int := if okB p then 0 else 40
theorem rightN_yes {p : Pol} (h : okB p = true) : rightN p = 0 := by simp [rightN, h]
theorem rightN_no {p : Pol} (h : okB p = false) : rightN p = 40 := by simp [rightN, h]

/-- A bucket's policy that may be. -/
def meansB (p : Pol) : Bool := (p.k == 1) && okB p
theorem meansB_kind {p : Pol} (h : (p.k == 1) = false) : meansB p = false := by simp [meansB, h]
theorem meansB_yes {p : Pol} (h : p.k = 1) (h2 : okB p = true) : meansB p = true := by simp [meansB, h, h2]
theorem meansB_no {p : Pol} (h2 : okB p = false) : meansB p = false := by simp [meansB, h2]
theorem rightN_not {p : Pol} (h1 : (p.k == 1) = false) (h2 : (p.k == 2) = false) : rightN p = 40 := rightN_no (by simp [okB, bucketB, windowB, h1, h2])

/-- What is known of a bucket's policy that may be. -/
theorem meansB_bounds {p : Pol} (h : meansB p = true) : p.k = 1 ∧ (1 ≤ p.cap ∧ p.cap ≤ 1048576) ∧ (1 ≤ p.num ∧ p.num ≤ 65536) ∧ (1 ≤ p.den ∧ p.den ≤ 65536) := by
  simp [meansB, okB, allB, bucketB, windowB, within] at h
  omega

end Go.Proofs.Ytkcnenekmjgmgaa
