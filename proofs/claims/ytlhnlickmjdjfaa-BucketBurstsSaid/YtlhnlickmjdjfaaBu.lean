/- Plain numbers: a burst: of all that was taken between two ticks no more than the room and what was given back. No Go in sight. -/
import Derived.Test.YtlhnlickmjdjfaaY
namespace Go.Proofs.Ytlhnlickmjdjfaa

/-- The sum of the costs from place a to b, b itself left out. -/
def part (l : List Int) (a b : Nat) : Int := ((l.take b).drop a).sum
theorem part_self (l : List Int) (a : Nat) : part l a a = 0 := by unfold part; rw [List.drop_eq_nil_of_le (by simp; omega)]; rfl
theorem part_snoc {l : List Int} {a b : Nat} (hab : a ≤ b) (hb : b < l.length) : part l a (b + 1) = part l a b + l.getD b 0 := by
  unfold part
  rw [List.take_succ_eq_append_getElem hb, List.drop_append_of_le_length (by simp; omega), List.sum_append]
  simp [hb]
theorem part_append {l : List Int} {x : Int} {a b : Nat} (hb : b ≤ l.length) : part (l ++ [x]) a b = part l a b := by
  unfold part; rw [List.take_append_of_le_length hb]

/-- What holds all along: the lists of ticks and costs that were taken; what is owed; the tick. -/
structure Burst (p : Pol) (owed tick : Int) (ats tks : List Int) : Prop where
  len : ats.length = tks.length
  cost : ∀ i, i < tks.length → 1 ≤ tks.getD i 0 ∧ tks.getD i 0 ≤ 1048576
  at_ : ∀ i, i < tks.length → 0 ≤ ats.getD i 0 ∧ ats.getD i 0 ≤ tick
  rise : ∀ i j, i ≤ j → j < tks.length → ats.getD i 0 ≤ ats.getD j 0
  owed0 : 0 ≤ owed ∧ owed ≤ 4611686018427387903
  now : ∀ a, a < tks.length → part tks a tks.length * p.den ≤ owed + (tick - ats.getD a 0) * p.num
  all : ∀ a b, a ≤ b → b < tks.length → part tks a (b + 1) * p.den ≤ p.cap * p.den + (ats.getD b 0 - ats.getD a 0) * p.num

theorem Burst.begin (p : Pol) : Burst p 0 0 [] [] :=
  ⟨rfl, fun _ h => absurd h (Nat.not_lt_zero _), fun _ h => absurd h (Nat.not_lt_zero _), fun _ _ _ h => absurd h (Nat.not_lt_zero _), by omega, fun _ h => absurd h (Nat.not_lt_zero _), fun _ _ _ h => absurd h (Nat.not_lt_zero _)⟩

/-- Time passes. -/
theorem Burst.wait {p : Pol} {owed tick g : Int} {ats tks : List Int} (hm : meansB p = true) (h : Burst p owed tick ats tks) (h0 : 0 ≤ g) (h1 : g ≤ 1099511627776) : Burst p (decayP p owed g) (tick + g) ats tks := by
  have hd := decayP_eq hm (o := owed) h0 h1
  rw [clipI_mid h.owed0.1 h.owed0.2] at hd
  refine ⟨h.len, h.cost, fun i hi => ?_, h.rise, decayP_bounds _ _ _, fun a ha => ?_, h.all⟩
  · have := h.at_ i hi; omega
  · have := h.now a ha
    rw [show (tick + g - ats.getD a 0) * p.num = (tick - ats.getD a 0) * p.num + g * p.num by rw [← Int.add_mul]; congr 1; omega]
    omega

/-- A cost is taken. -/
theorem Burst.take {p : Pol} {owed tick c : Int} {ats tks : List Int} (h : Burst p owed tick ats tks) (ht : 0 ≤ tick) (hc : mayP p owed c = true) : Burst p (takeP p owed c) tick (ats ++ [tick]) (tks ++ [c]) := by
  have hm : meansB p = true := by simp only [mayP, Bool.and_eq_true] at hc; exact hc.1
  obtain ⟨t1, t2, t3, t4⟩ := take_may h.owed0.1 h.owed0.2 hc
  obtain ⟨-, hcap, hnum, hden⟩ := meansB_bounds hm
  have hq : 0 ≤ c * p.den := Int.mul_nonneg (by omega) (by omega)
  have bq := mul_bounds (show 0 ≤ p.cap by omega) hcap.2 (show 0 ≤ p.den by omega) hden.2
  have hl := h.len
  have gat : ∀ i, i < tks.length → (ats ++ [tick]).getD i 0 = ats.getD i 0 := fun i hi => by simp [List.getElem?_append_left (show i < ats.length by omega)]
  have gatl : (ats ++ [tick]).getD tks.length 0 = tick := by simp [← hl]
  have gtk : ∀ i, i < tks.length → (tks ++ [c]).getD i 0 = tks.getD i 0 := fun i hi => by simp [List.getElem?_append_left hi]
  have gtkl : (tks ++ [c]).getD tks.length 0 = c := by simp
  have plast : ∀ a, a ≤ tks.length → part (tks ++ [c]) a (tks.length + 1) = part tks a tks.length + c := fun a ha => by
    rw [part_snoc ha (by simp), part_append (Nat.le_refl _), gtkl]
  have key : ∀ a, a ≤ tks.length → part (tks ++ [c]) a (tks.length + 1) * p.den ≤ takeP p owed c + (tick - (ats ++ [tick]).getD a 0) * p.num := fun a ha => by
    rw [plast a ha, t1, Int.add_mul]
    by_cases e : a = tks.length
    · rw [e, gatl, part_self]
      have := h.owed0.1
      simp
      omega
    · have := h.now a (by omega)
      rw [gat a (by omega)]
      omega
  refine ⟨by simp [hl], fun i hi => ?_, fun i hi => ?_, fun i j hij hj => ?_, ⟨by rw [t1]; have := h.owed0; omega, by rw [t1]; omega⟩, fun a ha => ?_, fun a b hab hb => ?_⟩
  · simp at hi
    by_cases e : i = tks.length
    · rw [e, gtkl]; exact ⟨t3, t4⟩
    · rw [gtk i (by omega)]; exact h.cost i (by omega)
  · simp at hi
    by_cases e : i = tks.length
    · rw [e, gatl]; omega
    · rw [gat i (by omega)]; exact h.at_ i (by omega)
  · simp at hj
    by_cases e : j = tks.length
    · rw [e, gatl]
      by_cases e2 : i = tks.length
      · rw [e2, gatl]; omega
      · rw [gat i (by omega)]; exact (h.at_ i (by omega)).2
    · rw [gat j (by omega), gat i (by omega)]; exact h.rise i j hij (by omega)
  · simp at ha
    rw [List.length_append, List.length_singleton]
    exact key a (by omega)
  · simp at hb
    by_cases e : b = tks.length
    · rw [e]
      have := key a (by omega)
      rw [gatl]
      rw [t1] at this
      omega
    · rw [part_append (by omega), gat b (by omega), gat a (by omega)]
      exact h.all a b hab (by omega)

/-- Parts are not great. -/
theorem part_bounds {l : List Int} (h : ∀ i, i < l.length → 1 ≤ l.getD i 0 ∧ l.getD i 0 ≤ 1048576) (a : Nat) : ∀ d, a + d ≤ l.length → 0 ≤ part l a (a + d) ∧ part l a (a + d) ≤ d * 1048576
  | 0, _ => by rw [Nat.add_zero, part_self]; simp
  | d + 1, hd => by
    have := part_bounds h a d (by omega)
    have hc := h (a + d) (by omega)
    rw [← Nat.add_assoc, part_snoc (by omega) (by omega)]
    omega

end Go.Proofs.Ytlhnlickmjdjfaa
