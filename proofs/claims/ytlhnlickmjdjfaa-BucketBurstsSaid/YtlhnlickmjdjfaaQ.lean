/- Plain numbers: behind how many ticks a cost may be taken. No Go in sight. -/
import Derived.Test.YtlhnlickmjdjfaaN
namespace Go.Proofs.Ytlhnlickmjdjfaa

theorem ceil_le {x n t : Int} (hn : 1 ≤ n) : (x + n - 1) / n ≤ t ↔ x ≤ t * n := by
  rw [← Int.lt_add_one_iff, Int.ediv_lt_iff_lt_mul (by omega), Int.add_mul]
  omega

theorem whenI_out {cap num den o c : Int} (h : within c 1 1048576 = false ∨ cap < c) : whenI cap num den o c = -1 := by simp [whenI, h]
theorem whenI_zero {cap num den o c : Int} (h1 : within c 1 1048576 = true) (h2 : c ≤ cap) (h : overI cap den o c ≤ 0) : whenI cap num den o c = 0 := by
  unfold whenI; rw [if_neg (by simp [h1]; omega), if_pos h]
theorem whenI_far {cap num den o c : Int} (h1 : within c 1 1048576 = true) (h2 : c ≤ cap) (h : ¬ overI cap den o c ≤ 0) (h3 : 1099511627776 < (overI cap den o c + num - 1) / num) : whenI cap num den o c = -1 := by
  unfold whenI; rw [if_neg (by simp [h1]; omega), if_neg h, if_pos h3]
theorem whenI_near {cap num den o c : Int} (h1 : within c 1 1048576 = true) (h2 : c ≤ cap) (h : ¬ overI cap den o c ≤ 0) (h3 : ¬ 1099511627776 < (overI cap den o c + num - 1) / num) : whenI cap num den o c = (overI cap den o c + num - 1) / num := by
  unfold whenI; rw [if_neg (by simp [h1]; omega), if_neg h, if_neg h3]

/-- Behind t ticks it may be taken just if what is owed above the room has been given back. -/
theorem may_behind {cap num den o c t : Int} (hn : 1 ≤ num) (hd : 1 ≤ den) (hc : within c 1 1048576 = true) (hcc : c ≤ cap) (h0 : 0 ≤ t) (h1 : t ≤ 1099511627776) :
    mayB cap den (decayI num o t) c = decide (overI cap den o c ≤ t * num) := by
  have bo := clipI_bound o (m := 4611686018427387903) (by omega)
  have hcw := within_iff.1 hc
  have hp : 0 ≤ (cap - c) * den := Int.mul_nonneg (by omega) (by omega)
  have ht : 0 ≤ t * num := Int.mul_nonneg h0 (by omega)
  have e : cap * den = (cap - c) * den + c * den := by rw [← Int.add_mul]; congr 1; omega
  unfold mayB decayI overI
  rw [clipI_mid h0 h1, hc, Bool.true_and, decide_eq_decide, e]
  have bd := clipI_bound (clipI o 4611686018427387903 - t * num) (m := 4611686018427387903) (by omega)
  rw [clipI_mid bd.1 bd.2]
  by_cases hneg : clipI o 4611686018427387903 - t * num < 0
  · rw [clipI_low hneg]; omega
  · rw [clipI_mid (by omega) (by omega)]; omega

/-- Where the cost may not be, or is above the room, it may at no time. -/
theorem may_never {cap den o c : Int} (hd : 1 ≤ den) (h : within c 1 1048576 = false ∨ cap < c) : mayB cap den o c = false := by
  unfold mayB
  rcases h with h | h
  · simp [h]
  · have bo := clipI_bound o (m := 4611686018427387903) (by omega)
    have : cap * den < c * den := Int.mul_lt_mul_of_pos_right h (by omega)
    simp
    intro _
    omega

/-- THE LAW OF When: never, where it is -1; else the least time. -/
theorem whenI_law {cap num den o c : Int} (hn : 1 ≤ num) (hd : 1 ≤ den) :
    (whenI cap num den o c = -1 ∧ ∀ t, 0 ≤ t → t ≤ 1099511627776 → mayB cap den (decayI num o t) c = false) ∨
    (0 ≤ whenI cap num den o c ∧ whenI cap num den o c ≤ 1099511627776 ∧ ∀ t, 0 ≤ t → t ≤ 1099511627776 → mayB cap den (decayI num o t) c = decide (whenI cap num den o c ≤ t)) := by
  by_cases h1 : within c 1 1048576 = false ∨ cap < c
  · exact .inl ⟨whenI_out h1, fun t _ _ => may_never hd h1⟩
  · have hw : within c 1 1048576 = true := by cases h : within c 1 1048576 <;> simp_all
    have hc : c ≤ cap := by
      have : ¬ cap < c := fun h => h1 (.inr h)
      omega
    by_cases h2 : overI cap den o c ≤ 0
    · refine .inr ?_
      rw [whenI_zero hw hc h2]
      refine ⟨by omega, by omega, fun t h0 h3 => ?_⟩
      have ht : 0 ≤ t * num := Int.mul_nonneg h0 (by omega)
      rw [may_behind hn hd hw hc h0 h3, decide_eq_decide]
      omega
    · have key : ∀ t, (overI cap den o c + num - 1) / num ≤ t ↔ overI cap den o c ≤ t * num := fun t => ceil_le hn
      by_cases h3 : 1099511627776 < (overI cap den o c + num - 1) / num
      · refine .inl ⟨whenI_far hw hc h2 h3, fun t h0 h4 => ?_⟩
        rw [may_behind hn hd hw hc h0 h4, decide_eq_false_iff_not, ← key]
        omega
      · refine .inr ?_
        rw [whenI_near hw hc h2 h3]
        refine ⟨Int.ediv_nonneg (by omega) (by omega), by omega, fun t h0 h4 => ?_⟩
        rw [may_behind hn hd hw hc h0 h4, decide_eq_decide, key]

end Go.Proofs.Ytlhnlickmjdjfaa
