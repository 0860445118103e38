/- Plain laws: what a window holds of what was taken; in any Count buckets no more than there is room for. -/
import Derived.Test.YtkcnenekmjgmgaaYe
namespace Go.Proofs.Ytkcnenekmjgmgaa

/-- Of pairs (bucket, cost): the costs in the buckets from m on, n of them. -/
def win : List (Int × Int) → Int → Int → Int
  | [], _, _ => 0
  | q :: L, m, n => (if m ≤ q.1 ∧ q.1 < m + n then q.2 else 0) + win L m n

theorem win_append (A B : List (Int × Int)) (m n : Int) : win (A ++ B) m n = win A m n + win B m n := by
  induction A with
  | nil => simp [win]
  | cons q A ih => simp only [List.cons_append, win, ih]; omega
theorem win_nonneg {L : List (Int × Int)} (h : ∀ q ∈ L, 0 ≤ q.2) (m n : Int) : 0 ≤ win L m n := by
  induction L with
  | nil => simp [win]
  | cons q L ih =>
    have h1 := h q (by simp)
    have h2 := ih fun z hz => h z (by simp [hz])
    simp only [win]
    split <;> omega
theorem win_split (L : List (Int × Int)) (m : Int) {a b : Int} (ha : 0 ≤ a) (hb : 0 ≤ b) : win L m (a + b) = win L m a + win L (m + a) b := by
  induction L with
  | nil => simp [win]
  | cons q L ih =>
    simp only [win, ih]
    by_cases h1 : m ≤ q.1 ∧ q.1 < m + a
    · rw [if_pos h1, if_pos (show m ≤ q.1 ∧ q.1 < m + (a + b) by omega), if_neg (by omega)]; omega
    · by_cases h2 : m + a ≤ q.1 ∧ q.1 < m + a + b
      · rw [if_neg h1, if_pos h2, if_pos (show m ≤ q.1 ∧ q.1 < m + (a + b) by omega)]; omega
      · rw [if_neg h1, if_neg h2, if_neg (by omega)]; omega
theorem win_le {L : List (Int × Int)} (h : ∀ q ∈ L, 0 ≤ q.2) {m n m' n' : Int} (hi : ∀ q ∈ L, m ≤ q.1 ∧ q.1 < m + n → m' ≤ q.1 ∧ q.1 < m' + n') : win L m n ≤ win L m' n' := by
  induction L with
  | nil => simp [win]
  | cons q L ih =>
    have h1 := h q (by simp)
    have h2 := ih (fun z hz => h z (by simp [hz])) fun z hz => hi z (by simp [hz])
    have h3 := hi q (by simp)
    simp only [win]
    by_cases hc : m ≤ q.1 ∧ q.1 < m + n
    · rw [if_pos hc, if_pos (h3 hc)]; omega
    · rw [if_neg hc]; split <;> omega
theorem win_none {L : List (Int × Int)} {m : Int} (h : ∀ q ∈ L, q.1 < m) (n : Int) : win L m n = 0 := by
  induction L with
  | nil => rfl
  | cons q L ih =>
    have h1 := h q (by simp)
    simp only [win, ih fun z hz => h z (by simp [hz])]
    rw [if_neg (by omega)]; omega

/-- What stands in the buckets from m on, n of them. -/
def buckets (L : List (Int × Int)) : Int → Nat → List Int
  | _, 0 => []
  | m, n + 1 => win L m 1 :: buckets L (m + 1) n
theorem buckets_length (L : List (Int × Int)) (m : Int) (n : Nat) : (buckets L m n).length = n := by
  induction n generalizing m with
  | zero => rfl
  | succ n ih => simp [buckets, ih]
theorem buckets_sum {L : List (Int × Int)} (h : ∀ q ∈ L, 0 ≤ q.2) (m : Int) (n : Nat) (hw : win L m n ≤ 1099511627776) : sumN (buckets L m n) = win L m n := by
  induction n generalizing m with
  | zero => have := win_nonneg h m 0; simp only [buckets, sumN]; have e : win L m ((0 : Nat) : Int) = 0 := by
              clear hw this
              induction L with
              | nil => rfl
              | cons q L ih => simp only [win, ih fun z hz => h z (by simp [hz])]; rw [if_neg (by omega)]; rfl
            exact e.symm
  | succ n ih =>
    have e := win_split L m (a := 1) (b := (n : Int)) (by omega) (by omega)
    have h1 := win_nonneg h m 1
    have h2 := win_nonneg h (m + 1) n
    have e2 : ((n + 1 : Nat) : Int) = 1 + (n : Int) := by omega
    rw [e2] at hw ⊢
    rw [e] at hw ⊢
    simp only [buckets, sumN]
    rw [clipI_mid h1 (by omega), ih (m + 1) (by omega)]
theorem buckets_add (L : List (Int × Int)) (m : Int) (a b : Nat) : buckets L m (a + b) = buckets L m a ++ buckets L (m + a) b := by
  induction a generalizing m with
  | zero => simp [buckets]
  | succ a ih =>
    rw [show a + 1 + b = (a + b) + 1 by omega]
    simp only [buckets, List.cons_append, ih]
    rw [show m + 1 + (a : Int) = m + ((a + 1 : Nat) : Int) by omega]
theorem buckets_zero {L : List (Int × Int)} {m : Int} (h : ∀ q ∈ L, q.1 < m) (n : Nat) : buckets L m n = zeros n := by
  induction n generalizing m with
  | zero => rfl
  | succ n ih =>
    simp only [buckets, win_none h]
    rw [ih fun q hq => by have := h q hq; omega]
    simp [zeros, List.replicate_succ]
theorem buckets_shift {L : List (Int × Int)} {m : Int} {n : Nat} (h : ∀ q ∈ L, q.1 < m + n) (d : Nat) : shiftL (buckets L m n) d = buckets L (m + d) n := by
  unfold shiftL
  rw [buckets_length]
  by_cases hd : d ≤ n
  · have e1 : buckets L m n = buckets L m d ++ buckets L (m + d) (n - d) := by rw [← buckets_add]; congr 1; omega
    have e2 : buckets L (m + d) n = buckets L (m + d) (n - d) ++ buckets L (m + n) d := by
      have := buckets_add L (m + d) (n - d) d
      rw [show n - d + d = n by omega] at this
      rw [this, show m + (d : Int) + ((n - d : Nat) : Int) = m + n by omega]
    rw [e2, e1, List.drop_left' (buckets_length _ _ _), Nat.min_eq_left hd, buckets_zero h d]
  · rw [List.drop_of_length_le (by rw [buckets_length]; omega), Nat.min_eq_right (by omega), buckets_zero (fun q hq => by have := h q hq; omega)]
    rfl
theorem buckets_other (L : List (Int × Int)) {m x c : Int} {n : Nat} (h : m + n ≤ x) : buckets (L ++ [(x, c)]) m n = buckets L m n := by
  induction n generalizing m with
  | zero => rfl
  | succ n ih =>
    simp only [buckets]
    rw [ih (by omega), win_append]
    simp only [win]
    rw [if_neg (by omega)]
    congr 1
    omega
theorem buckets_last (L : List (Int × Int)) (m : Int) (n : Nat) : buckets L m (n + 1) = buckets L m n ++ [win L (m + n) 1] := by
  rw [buckets_add]; rfl
theorem buckets_take (L : List (Int × Int)) {m c : Int} {n : Nat} (h : win L (m + n) 1 + c ≤ 1099511627776) : lastSet (buckets L m (n + 1)) c = buckets (L ++ [(m + n, c)]) m (n + 1) := by
  unfold lastSet
  rw [buckets_length, buckets_last, buckets_last, buckets_other L (by omega), win_append]
  have hl := buckets_length L m n
  simp only [win]
  rw [if_pos (by omega), Nat.add_sub_cancel]
  have e1 : (buckets L m n ++ [win L (m + n) 1]).getD n 0 = win L (m + n) 1 := by simp [List.getD, hl]
  rw [e1, List.set_append, if_neg (by omega), hl, Nat.sub_self]
  simp only [List.set_cons_zero]
  congr 2
  omega

/-- A window and what was taken by it so far. -/
structure Holds (p : Pol) (s : Win) (L : List (Int × Int)) (tick : Int) : Prop where
  t0 : 0 ≤ tick
  g : s.g = gridN p tick
  l : s.l = buckets L (s.g - p.count + 1) p.count.toNat
  at_ : ∀ q ∈ L, q.1 ≤ s.g
  cost : ∀ q ∈ L, 1 ≤ q.2
  room : ∀ x, win L x p.count ≤ p.cap
  up : L.Pairwise fun a b => a.1 ≤ b.1

theorem Holds.good {p : Pol} {s : Win} {L : List (Int × Int)} {tick : Int} (hm : meansW p = true) (h : Holds p s L tick) : Good p s := by
  have hcc := (meansW_bounds hm).2.2.2
  have hcap := (meansW_bounds hm).2.1
  have hL : ∀ q ∈ L, 0 ≤ q.2 := fun q hq => by have := h.cost q hq; omega
  refine ⟨by rw [h.g]; exact (gridN_bound hm _).1, by rw [h.g]; exact gridN_top hm _, by rw [h.l, buckets_length], ?_⟩
  have hb : ∀ (n : Nat) (m : Int), (n : Int) ≤ p.count → ∀ x ∈ buckets L m n, 0 ≤ x ∧ x ≤ 1099511627776 := by
    intro n
    induction n with
    | zero => intro m _ x hx; simp [buckets] at hx
    | succ n ih =>
      intro m hn x hx
      simp only [buckets, List.mem_cons] at hx
      rcases hx with rfl | hx
      · have h1 := win_nonneg hL m 1
        have h2 : win L m 1 ≤ win L m p.count := win_le hL fun q _ hq => by omega
        have h3 := h.room m
        omega
      · exact ih (m + 1) (by omega) x hx
  rw [h.l]
  exact hb _ _ (by omega)
theorem Holds.total {p : Pol} {s : Win} {L : List (Int × Int)} {tick : Int} (hm : meansW p = true) (h : Holds p s L tick) : sumN s.l = win L (s.g - p.count + 1) p.count := by
  have hcc := (meansW_bounds hm).2.2.2
  have hcap := (meansW_bounds hm).2.1
  have hL : ∀ q ∈ L, 0 ≤ q.2 := fun q hq => by have := h.cost q hq; omega
  have hr := h.room (s.g - p.count + 1)
  have e : ((p.count.toNat : Nat) : Int) = p.count := by omega
  rw [h.l, buckets_sum hL _ _ (by rw [e]; omega), e]
theorem Holds.begin {p : Pol} (hm : meansW p = true) : Holds p (freshN p 0) [] 0 := by
  have hcap := (meansW_bounds hm).2.1
  refine ⟨by omega, rfl, ?_, by simp, by simp, fun x => by simp [win]; omega, List.Pairwise.nil⟩
  rw [buckets_zero (by simp)]
  rfl
theorem Holds.move {p : Pol} {s : Win} {L : List (Int × Int)} {tick t : Int} (hm : meansW p = true) (h : Holds p s L tick) (ht : tick ≤ t) : Holds p (moveP p s t) L t := by
  have hcc := (meansW_bounds hm).2.2.2
  have hgr := gridN_mono hm ht
  have hg := h.good hm
  have h1 := h.g
  rw [moveP_yes hm]
  unfold moveN
  rw [countsN_self hm hg]
  have t0 := h.t0
  by_cases hle : gridN p t ≤ s.g
  · rw [if_pos hle]
    exact ⟨by omega, by omega, h.l, h.at_, h.cost, h.room, h.up⟩
  · rw [if_neg hle]
    refine ⟨by omega, rfl, ?_, fun q hq => by have := h.at_ q hq; show q.1 ≤ gridN p t; omega, h.cost, h.room, h.up⟩
    show shiftL s.l _ = buckets L (gridN p t - p.count + 1) p.count.toNat
    rw [h.l, buckets_shift (fun q hq => by have := h.at_ q hq; omega)]
    congr 1
    omega
theorem Holds.take {p : Pol} {s : Win} {L : List (Int × Int)} {tick c : Int} (hm : meansW p = true) (h : Holds p s L tick) (hc : mayW p s c = true) : Holds p (takeW p s c) (L ++ [(s.g, c)]) tick := by
  have hcc := (meansW_bounds hm).2.2.2
  have hcap := (meansW_bounds hm).2.1
  have hg := h.good hm
  have hL : ∀ q ∈ L, 0 ≤ q.2 := fun q hq => by have := h.cost q hq; omega
  rw [mayW_good hm hg] at hc
  simp only [Bool.and_eq_true, decide_eq_true_eq] at hc
  have hw := within_iff.1 hc.1
  have htot := h.total hm
  rw [takeW_yes hm]
  unfold takeN
  rw [if_pos hc.1, countsN_self hm hg]
  refine ⟨h.t0, h.g, ?_, ?_, ?_, ?_, ?_⟩
  · show lastSet s.l c = buckets (L ++ [(s.g, c)]) (s.g - p.count + 1) p.count.toNat
    obtain ⟨n, hn⟩ : ∃ n, p.count.toNat = n + 1 := ⟨p.count.toNat - 1, by omega⟩
    have hlast : win L (s.g - p.count + 1 + n) 1 ≤ win L (s.g - p.count + 1) p.count := win_le hL fun q _ hq => by omega
    have e : s.g = s.g - p.count + 1 + n := by omega
    rw [h.l, hn, buckets_take L (by omega), ← e]
  · intro q hq
    rcases List.mem_append.1 hq with hq | hq
    · exact h.at_ q hq
    · simp at hq; subst hq; show s.g ≤ s.g; omega
  · intro q hq
    rcases List.mem_append.1 hq with hq | hq
    · exact h.cost q hq
    · simp at hq; subst hq; exact hw.1
  · intro x
    rw [win_append]
    have hx := h.room x
    simp only [win]
    by_cases hin : x ≤ s.g ∧ s.g < x + p.count
    · rw [if_pos hin]
      have : win L x p.count ≤ win L (s.g - p.count + 1) p.count := win_le hL fun q hq hqx => by have := h.at_ q hq; omega
      omega
    · rw [if_neg hin]; omega
  · rw [List.pairwise_append]
    refine ⟨h.up, List.pairwise_singleton _ _, fun a ha b hb => ?_⟩
    simp at hb
    subst hb
    exact h.at_ a ha

#print axioms Holds.take
#print axioms Holds.move
end Go.Proofs.Ytkcnenekmjgmgaa
