/- Plain laws of windows: time in two parts is time in one; what may be taken leaves no more than there is room for. -/
import Derived.Test.YtkcnenekmjgmgaaU
namespace Go.Proofs.Ytkcnenekmjgmgaa

theorem zeros_drop (n k : Nat) : (zeros n).drop k = zeros (n - k) := by simp [zeros]
theorem zeros_add (a b : Nat) : zeros a ++ zeros b = zeros (a + b) := by simp [zeros]
theorem shift_shift (l : List Int) (a b : Nat) : shiftL (shiftL l a) b = shiftL l (a + b) := by
  unfold shiftL
  have hl : (l.drop a ++ zeros (min a l.length)).length = l.length := by simp [zeros]; omega
  rw [hl, List.drop_append, List.drop_drop, zeros_drop, List.append_assoc, zeros_add]
  congr 2
  · simp; omega
theorem shift_zero (l : List Int) : shiftL l 0 = l := by simp [shiftL, zeros]
theorem move_move {p : Pol} (hm : meansW p = true) (s : Win) {a b : Int} (h : a ≤ b) : moveP p (moveP p s a) b = moveP p s b := by
  have hg := gridN_mono hm h
  have hx := move_good hm s a
  rw [moveP_yes hm, moveP_yes hm, moveP_yes hm]
  have e : moveN p (moveN p s a) b = if gridN p b ≤ (moveN p s a).g then moveN p s a else ⟨gridN p b, shiftL (moveN p s a).l (gridN p b - (moveN p s a).g).toNat⟩ := by
    show (if gridN p b ≤ (countsN p (moveN p s a)).g then countsN p (moveN p s a) else _) = _
    rw [countsN_self hm hx]
  rw [e]
  unfold moveN
  generalize countsN p s = q
  by_cases h1 : gridN p a ≤ q.g
  · simp only [h1, if_true]
  · have h2 : ¬ gridN p b ≤ q.g := by omega
    simp only [h1, h2, if_false]
    split
    · have : gridN p b = gridN p a := by omega
      rw [this]
    · rw [shift_shift]
      congr 2
      omega

theorem sumN_set (l : List Int) (i : Nat) (v : Int) (h : i < l.length) : sumN (l.set i v) = sumN l - clipI (l.getD i 0) 1099511627776 + clipI v 1099511627776 := by
  induction l generalizing i with
  | nil => simp at h
  | cons x l ih =>
    cases i with
    | zero => simp [sumN]; omega
    | succ i =>
      have := ih i (by simpa using h)
      simp only [List.set_cons_succ, sumN, List.getD_cons_succ]
      omega
theorem take_succ_le (l : List Int) (i : Nat) (h : i < l.length) : clipI (l.getD i 0) 1099511627776 ≤ sumN l := by
  induction l generalizing i with
  | nil => simp at h
  | cons x l ih =>
    have hb := sumN_bound l
    have hx := clipI_bound x (m := 1099511627776) (by omega)
    cases i with
    | zero => simp [sumN]; omega
    | succ i =>
      have := ih i (by simpa using h)
      simp only [sumN, List.getD_cons_succ]
      omega
theorem sumN_mem (l : List Int) (i : Nat) (h : i < l.length) : clipI (l.getD i 0) 1099511627776 ≤ sumN l := by
  have e := take_succ_le l i h
  exact e

theorem take_total {p : Pol} {y : Win} (hm : meansW p = true) (hg : Good p y) {c : Int} (hc : mayW p y c = true) : totalN (takeW p y c) = totalN y + c ∧ totalN y + c ≤ p.cap := by
  have hcap := (meansW_bounds hm).2.1
  have hcc := (meansW_bounds hm).2.2.2
  rw [mayW_good hm hg] at hc
  simp only [Bool.and_eq_true, decide_eq_true_eq] at hc
  have hw := within_iff.1 hc.1
  have hlen := hg.len
  have hlt : y.l.length - 1 < y.l.length := by omega
  have hx := hg.ok _ (getD_mem hlt)
  have hs := sumN_mem y.l _ hlt
  rw [clipI_mid hx.1 hx.2] at hs
  rw [totalN_good hm (takeW_good hm y c), totalN_good hm hg, takeW_yes hm]
  refine ⟨?_, hc.2⟩
  unfold takeN
  rw [if_pos hc.1, countsN_self hm hg]
  show sumN (lastSet y.l c) = _
  unfold lastSet
  rw [sumN_set _ _ _ hlt, clipI_mid hx.1 hx.2]
  have hmin : min (y.l.getD (y.l.length - 1) 0 + c) 1099511627776 = y.l.getD (y.l.length - 1) 0 + c := by omega
  rw [hmin, clipI_mid (by omega) (by omega)]
  omega

#print axioms take_total
#print axioms move_move
end Go.Proofs.Ytkcnenekmjgmgaa
