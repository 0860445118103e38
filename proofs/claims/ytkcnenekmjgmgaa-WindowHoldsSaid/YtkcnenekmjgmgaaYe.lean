/- Plain laws: Count buckets later nothing is left; a bucket ahead of that just what was taken last is. -/
import Derived.Test.YtkcnenekmjgmgaaY
namespace Go.Proofs.Ytkcnenekmjgmgaa

theorem grid_at {p : Pol} (hm : meansW p = true) {k : Int} (h0 : 0 ≤ k) (h : k ≤ (1099511627776 : Int).tdiv p.width) : k * p.width ≤ 1099511627776 ∧ gridN p (k * p.width) = k ∧ (1 ≤ k → gridN p (k * p.width - 1) = k - 1) := by
  have hw := (meansW_bounds hm).2.2.1
  have hwp : 0 < p.width := by omega
  rw [Int.tdiv_eq_ediv_of_nonneg (by omega)] at h
  have h1 : k * p.width ≤ 1099511627776 := (Int.le_ediv_iff_mul_le hwp).1 h
  have h2 : 0 ≤ k * p.width := Int.mul_nonneg h0 (by omega)
  refine ⟨h1, ?_, fun hk => ?_⟩
  · unfold gridN
    rw [clipI_mid h2 h1, Int.tdiv_eq_ediv_of_nonneg h2, Int.mul_ediv_cancel _ (by omega)]
  · have h3 : p.width ≤ k * p.width := by
      have := Int.mul_le_mul_of_nonneg_right hk (show 0 ≤ p.width by omega)
      omega
    unfold gridN
    rw [clipI_mid (by omega) (by omega), Int.tdiv_eq_ediv_of_nonneg (by omega)]
    have e : k * p.width - 1 = (p.width - 1) + p.width * (k - 1) := by
      rw [Int.mul_sub, Int.mul_comm p.width k]; omega
    rw [e, Int.add_mul_ediv_left _ _ (by omega), Int.ediv_eq_zero_of_lt (by omega) (by omega)]
    omega

theorem empties_gone {p : Pol} {x : Win} (hm : meansW p = true) (hg : Good p x) (h : x.g + p.count ≤ (1099511627776 : Int).tdiv p.width) : totalN (moveP p x ((x.g + p.count) * p.width)) = 0 := by
  have hcc := (meansW_bounds hm).2.2.2
  have hlo := hg.lo
  have hlen := hg.len
  have hgr := (grid_at hm (by omega) h).2.1
  rw [totalN_good hm (moveP_good hm x _), moveP_yes hm]
  unfold moveN
  rw [countsN_self hm hg, hgr, if_neg (by omega)]
  show sumN (shiftL _ _) = 0
  unfold shiftL
  rw [List.drop_of_length_le (by omega), List.nil_append, sumN_zeros]

theorem drop_last {l : List Int} (h : 0 < l.length) : l.drop (l.length - 1) = [l.getD (l.length - 1) 0] := by
  have hlt : l.length - 1 < l.length := by omega
  rw [List.drop_eq_getElem_cons hlt, List.drop_of_length_le (by omega)]
  simp [hlt]

theorem empties_left {p : Pol} {x : Win} (hm : meansW p = true) (hg : Good p x) (h : x.g + p.count ≤ (1099511627776 : Int).tdiv p.width) :
    totalN (moveP p x ((x.g + p.count) * p.width - 1)) = x.l.getD (x.l.length - 1) 0 := by
  have hcc := (meansW_bounds hm).2.2.2
  have hlo := hg.lo
  have hlen := hg.len
  have hl0 : 0 < x.l.length := by omega
  have hgr := (grid_at hm (show 0 ≤ x.g + p.count by omega) h).2.2 (by omega)
  have hx := hg.ok _ (getD_mem (show x.l.length - 1 < x.l.length by omega))
  rw [totalN_good hm (moveP_good hm x _), moveP_yes hm]
  unfold moveN
  rw [countsN_self hm hg, hgr]
  have key : sumN (shiftL x.l (x.l.length - 1)) = x.l.getD (x.l.length - 1) 0 := by
    unfold shiftL
    rw [drop_last hl0, sumN_append, sumN_zeros]
    simp only [sumN]
    rw [clipI_mid hx.1 hx.2]
    omega
  by_cases h1 : p.count = 1
  · rw [if_pos (by omega)]
    have e1 : x.l.length - 1 = 0 := by omega
    rw [e1, shift_zero] at key
    rw [e1]
    exact key
  · rw [if_neg (by omega)]
    show sumN (shiftL _ _) = _
    rw [show (x.g + p.count - 1 - x.g).toNat = x.l.length - 1 by omega]
    exact key

#print axioms empties_gone
#print axioms empties_left
end Go.Proofs.Ytkcnenekmjgmgaa
