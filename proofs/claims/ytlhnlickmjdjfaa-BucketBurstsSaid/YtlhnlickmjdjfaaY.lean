/- Plain numbers: time in two parts; less is easier; later is easier. No Go in sight. -/
import Derived.Test.YtlhnlickmjdjfaaQ
namespace Go.Proofs.Ytlhnlickmjdjfaa

theorem decayP_bounds (p : Pol) (o t : Int) : 0 ≤ decayP p o t ∧ decayP p o t ≤ 4611686018427387903 := by
  unfold decayP decayI
  split
  · exact clipI_bound _ (by omega)
  · omega

/-- What is left, without the upper clip. -/
theorem decayP_eq {p : Pol} (hm : meansB p = true) {o t : Int} (h0 : 0 ≤ t) (h1 : t ≤ 1099511627776) : decayP p o t = max 0 (clipI o 4611686018427387903 - t * p.num) := by
  obtain ⟨_, _, hnum, _⟩ := meansB_bounds hm
  have bo := clipI_bound o (m := 4611686018427387903) (by omega)
  have ht : 0 ≤ t * p.num := Int.mul_nonneg h0 (by omega)
  simp only [decayP, hm, if_true, decayI, clipI_mid h0 h1]
  by_cases hneg : clipI o 4611686018427387903 - t * p.num < 0
  · rw [clipI_low hneg]; omega
  · rw [clipI_mid (by omega) (by omega)]; omega

theorem clip_decayP (p : Pol) (o t : Int) : clipI (decayP p o t) 4611686018427387903 = decayP p o t := by
  have := decayP_bounds p o t
  exact clipI_mid this.1 this.2

/-- TIME IN TWO PARTS IS TIME IN ONE. -/
theorem decayP_two {p : Pol} (hm : meansB p = true) {o a b : Int} (ha : 0 ≤ a) (hb : 0 ≤ b) (hab : a + b ≤ 1099511627776) : decayP p (decayP p o a) b = decayP p o (a + b) := by
  obtain ⟨_, _, hnum, _⟩ := meansB_bounds hm
  have hx : 0 ≤ a * p.num := Int.mul_nonneg ha (by omega)
  have hy : 0 ≤ b * p.num := Int.mul_nonneg hb (by omega)
  rw [decayP_eq hm (o := decayP p o a) hb (by omega), clip_decayP, decayP_eq hm ha (by omega), decayP_eq hm (show 0 ≤ a + b by omega) hab, Int.add_mul]
  omega

/-- WHAT MAY BE TAKEN LEAVES NO MORE THAN THERE IS ROOM FOR. -/
theorem take_may {p : Pol} {x c : Int} (h0 : 0 ≤ x) (h1 : x ≤ 4611686018427387903) (h : mayP p x c = true) : takeP p x c = x + c * p.den ∧ x + c * p.den ≤ p.cap * p.den ∧ 1 ≤ c ∧ c ≤ 1048576 := by
  simp only [mayP, mayB, Bool.and_eq_true, decide_eq_true_eq] at h
  obtain ⟨hm, hc, hr⟩ := h
  obtain ⟨_, hcap, _, hden⟩ := meansB_bounds hm
  have hw := within_iff.1 hc
  rw [clipI_mid h0 h1] at hr
  have hp := mul_bounds (show 0 ≤ p.cap by omega) hcap.2 (show 0 ≤ p.den by omega) hden.2
  have hq : 0 ≤ c * p.den := Int.mul_nonneg (by omega) (by omega)
  refine ⟨?_, hr, hw.1, hw.2⟩
  simp only [takeP, hm, if_true, takeI, hc, clipI_mid h0 h1]
  exact clipI_mid (by omega) (by omega)

theorem clipI_mono {a b m : Int} (h : a ≤ b) (hm : 0 ≤ m) : clipI a m ≤ clipI b m := by
  unfold clipI
  split <;> split <;> (try split) <;> (try split) <;> omega

theorem mayP_owed {p : Pol} {x y c : Int} (h : clipI y 4611686018427387903 ≤ clipI x 4611686018427387903) (hx : mayP p x c = true) : mayP p y c = true := by
  simp only [mayP, mayB, Bool.and_eq_true, decide_eq_true_eq] at hx ⊢
  exact ⟨hx.1, hx.2.1, by omega⟩

theorem mayP_cost {p : Pol} {x c d : Int} (hd : 1 ≤ d) (h : d ≤ c) (hx : mayP p x c = true) : mayP p x d = true := by
  simp only [mayP, mayB, Bool.and_eq_true, decide_eq_true_eq] at hx ⊢
  obtain ⟨hm, hc, hr⟩ := hx
  obtain ⟨_, _, _, hden⟩ := meansB_bounds hm
  have hw := within_iff.1 hc
  have : d * p.den ≤ c * p.den := Int.mul_le_mul_of_nonneg_right h (by omega)
  exact ⟨hm, within_yes hd (by omega), by omega⟩

theorem decayP_mono {p : Pol} {x y t : Int} (h : y ≤ x) : decayP p y t ≤ decayP p x t := by
  unfold decayP decayI
  split
  · refine clipI_mono ?_ (by omega)
    have := clipI_mono (m := 4611686018427387903) h (by omega)
    omega
  · omega

theorem decayP_less (p : Pol) (o t : Int) : decayP p o t ≤ clipI o 4611686018427387903 := by
  have bo := clipI_bound o (m := 4611686018427387903) (by omega)
  by_cases hm : meansB p = true
  · obtain ⟨_, _, hnum, _⟩ := meansB_bounds hm
    have bt := clipI_bound t (m := 1099511627776) (by omega)
    have ht : 0 ≤ clipI t 1099511627776 * p.num := Int.mul_nonneg bt.1 (by omega)
    simp only [decayP, hm, if_true, decayI]
    have := clipI_mono (a := clipI o 4611686018427387903 - clipI t 1099511627776 * p.num) (b := clipI o 4611686018427387903) (m := 4611686018427387903) (by omega) (by omega)
    rw [clipI_mid bo.1 bo.2] at this
    exact this
  · simp only [decayP, if_neg hm]; omega

theorem mayP_later {p : Pol} {o t c : Int} (h : mayP p o c = true) : mayP p (decayP p o t) c = true :=
  mayP_owed (by rw [clip_decayP]; exact decayP_less p o t) h

theorem whenP_law (p : Pol) (o c : Int) :
    (whenP p o c = -1 ∧ ∀ t, 0 ≤ t → t ≤ 1099511627776 → mayP p (decayP p o t) c = false) ∨
    (0 ≤ whenP p o c ∧ whenP p o c ≤ 1099511627776 ∧ ∀ t, 0 ≤ t → t ≤ 1099511627776 → mayP p (decayP p o t) c = decide (whenP p o c ≤ t)) := by
  cases hm : meansB p with
  | false => exact .inl ⟨by simp [whenP, hm], fun t _ _ => by simp [mayP, hm]⟩
  | true =>
    obtain ⟨_, _, hnum, hden⟩ := meansB_bounds hm
    have ew : whenP p o c = whenI p.cap p.num p.den o c := by simp [whenP, hm]
    have em : ∀ t, mayP p (decayP p o t) c = mayB p.cap p.den (decayI p.num o t) c := fun t => by simp [mayP, decayP, hm]
    rw [ew]
    simp only [em]
    exact whenI_law hnum.1 hden.1

/-- Who may behind t ticks waits no longer. -/
theorem whenP_le {p : Pol} {o c t : Int} (h0 : 0 ≤ t) (h1 : t ≤ 1099511627776) (h : mayP p (decayP p o t) c = true) : 0 ≤ whenP p o c ∧ whenP p o c ≤ t := by
  rcases whenP_law p o c with ⟨_, h3⟩ | ⟨h2, _, h3⟩
  · rw [h3 t h0 h1] at h; cases h
  · rw [h3 t h0 h1] at h; exact ⟨h2, by simpa using h⟩

/-- LESS IS EASIER. -/
theorem whenP_more {p : Pol} {o less c d : Int} (hl : less ≤ o) (hd : 1 ≤ d) (hdc : d ≤ c) (ht : 0 ≤ whenP p o c) :
    (0 ≤ whenP p o d ∧ whenP p o d ≤ whenP p o c) ∧ (0 ≤ whenP p less c ∧ whenP p less c ≤ whenP p o c) := by
  rcases whenP_law p o c with ⟨h2, _⟩ | ⟨h2, h4, h3⟩
  · omega
  · have hmay : mayP p (decayP p o (whenP p o c)) c = true := by rw [h3 _ h2 h4]; simp
    exact ⟨whenP_le h2 h4 (mayP_cost hd hdc hmay), whenP_le h2 h4 (mayP_owed (by rw [clip_decayP, clip_decayP]; exact decayP_mono hl) hmay)⟩

/-- TIME WAITED IS TIME LESS TO WAIT. -/
theorem whenP_later {p : Pol} (hm : meansB p = true) {o k c : Int} (ht : 0 ≤ whenP p o c) (hk : 0 ≤ k) : whenP p (decayP p o k) c = max 0 (whenP p o c - min k 1099511627776) := by
  have hk' : decayP p o k = decayP p o (min k 1099511627776) := by
    by_cases h : k ≤ 1099511627776
    · rw [Int.min_eq_left h]
    · rw [Int.min_eq_right (by omega)]
      simp only [decayP, decayI, clipI_high hk (show 1099511627776 < k by omega), clipI_mid (show (0 : Int) ≤ 1099511627776 by omega) (Int.le_refl _)]
  rw [hk']
  have hj0 : 0 ≤ min k 1099511627776 := by omega
  have hj1 : min k 1099511627776 ≤ 1099511627776 := by omega
  generalize min k 1099511627776 = j at hj0 hj1 ⊢
  rcases whenP_law p o c with ⟨h2, _⟩ | ⟨h2, h4, h3⟩
  · omega
  · have e : ∀ s, 0 ≤ s → j + s ≤ 1099511627776 → mayP p (decayP p (decayP p o j) s) c = decide (whenP p o c ≤ j + s) := fun s a b => by
      rw [decayP_two hm hj0 a b, h3 _ (by omega) b]
    have h5 := whenP_le (p := p) (o := decayP p o j) (c := c) (t := max 0 (whenP p o c - j)) (by omega) (by omega) (by rw [e _ (by omega) (by omega)]; simp; omega)
    rcases whenP_law p (decayP p o j) c with ⟨h6, _⟩ | ⟨h6, h7, h8⟩
    · omega
    · by_cases hlt : whenP p (decayP p o j) c < max 0 (whenP p o c - j)
      · have h9 := h8 (whenP p (decayP p o j) c) h6 h7
        rw [e _ h6 (by omega)] at h9
        simp at h9
        omega
      · omega

end Go.Proofs.Ytlhnlickmjdjfaa
