/- The reference's Decay, May, Take. -/
import Derived.Test.YtlhnlickmjdjfaaI
namespace Go.Proofs.Ytlhnlickmjdjfaa
open Go.RowKit

theorem refClip_quiet (x m : Int) (W : World) (n : Nat) :
    Calls Try.prog 24 #[.int .i64 x, .int .i64 m] (W.drewN n) fun e w'' => e = .returned (.int .i64 (clipI x m)) ∧ ∃ k, w'' = W.drewN k :=
  quiet_left (refClip_any x m (W.drewN n))

theorem refDecay_no (p : Pol) (o t : Int) (hm : meansB p = false) (w : World) :
    Calls Try.prog 13 #[.agg #[.int .i64 p.k, .int .i64 p.cap, .int .i64 p.num, .int .i64 p.den, .int .i64 p.width, .int .i64 p.count, .int .i64 p.keys, .int .i64 p.slots, .int .i64 p.every, .int .i64 p.seg], .int .i64 o, .int .i64 t] w
      fun e w' => e = .returned (.int .i64 0) ∧ Below w.heap.size w w' := by
  have hr := refMeans_any p
  rw [hm] at hr
  obtain ⟨k, cap, num, den, width, count, keys, slots, every, seg⟩ := p
  dsimp only at *
  have HR := hid hr
  clear hr hm
  go_enter Try.func13, Try.ntmps13
  go_wp2_with (go_at_call 23; refine (HR.out _).mono ?_; rintro e w1 ⟨rfl, hb⟩)
  go_ret
  exact ⟨rfl, ((Below.refl _ _).alloc (Nat.le_refl _) _).trans (hb.mono (by simp))⟩

set_option maxHeartbeats 1000000 in
theorem refDecay_yes (p : Pol) (o t : Int) (hm : meansB p = true) (w : World) :
    Calls Try.prog 13 #[.agg #[.int .i64 p.k, .int .i64 p.cap, .int .i64 p.num, .int .i64 p.den, .int .i64 p.width, .int .i64 p.count, .int .i64 p.keys, .int .i64 p.slots, .int .i64 p.every, .int .i64 p.seg], .int .i64 o, .int .i64 t] w
      fun e w' => e = .returned (.int .i64 (decayI p.num o t)) ∧ Below w.heap.size w w' := by
  have hr := refMeans_any p
  rw [hm] at hr
  obtain ⟨hk, _, hnum, _⟩ := meansB_bounds hm
  obtain ⟨k, cap, num, den, width, count, keys, slots, every, seg⟩ := p
  dsimp only at *
  subst hk
  have bo := clipI_bound o (m := 4611686018427387903) (by omega)
  have bt := clipI_bound t (m := 1099511627776) (by omega)
  have bp := mul_bounds bt.1 bt.2 (by omega) hnum.2
  have HR := hid hr
  clear hr hm
  go_enter Try.func13, Try.ntmps13
  go_wp2_with fail
  refine (HR.out _).mono ?_
  rintro e w1 ⟨rfl, hb⟩
  have c2 : w1.cell? ⟨w.heap.size, 2, none⟩ = some (.int .i64 num) := by rw [hb.cell (p := ⟨w.heap.size, 2, none⟩) (by simp)]; simp
  go_upto_region 4 with fail
  have e1 : IntKind.i64.wrap (clipI t 1099511627776 * num) = clipI t 1099511627776 * num := IntWalk.i64_in _ (by omega)
  have e2 : IntKind.i64.wrap (clipI o 4611686018427387903 - clipI t 1099511627776 * num) = clipI o 4611686018427387903 - clipI t 1099511627776 * num := IntWalk.i64_in _ (by omega)
  go_quiet ((go_at_call 24; with_reducible exact refClip_quiet _ _ _ _))
  go_wp2_with (go_at_call 24; refine (refClip_any _ _ _).mono ?_; rintro e w' ⟨rfl, rfl⟩)
  go_ret
  exact ⟨rfl, below_drewN' (((Below.refl _ _).alloc (Nat.le_refl _) _).trans (hb.mono (by simp))) _⟩

/-- Decay of the reference. -/
theorem refDecay_call (p : Pol) (o t : Int) (w : World) :
    Calls Try.prog 13 #[.agg #[.int .i64 p.k, .int .i64 p.cap, .int .i64 p.num, .int .i64 p.den, .int .i64 p.width, .int .i64 p.count, .int .i64 p.keys, .int .i64 p.slots, .int .i64 p.every, .int .i64 p.seg], .int .i64 o, .int .i64 t] w
      fun e w' => e = .returned (.int .i64 (decayP p o t)) ∧ Below w.heap.size w w' := by
  cases hm : meansB p with
  | false => simpa [decayP, hm] using refDecay_no p o t hm w
  | true => simpa [decayP, hm] using refDecay_yes p o t hm w

set_option maxHeartbeats 1000000 in
theorem refMay_no (p : Pol) (o c : Int) (hm : meansB p = false) (w : World) :
    Calls Try.prog 14 #[.agg #[.int .i64 p.k, .int .i64 p.cap, .int .i64 p.num, .int .i64 p.den, .int .i64 p.width, .int .i64 p.count, .int .i64 p.keys, .int .i64 p.slots, .int .i64 p.every, .int .i64 p.seg], .int .i64 o, .int .i64 c] w
      fun e w' => e = .returned (.bool false) ∧ Below w.heap.size w w' := by
  have hr := refMeans_any p
  rw [hm] at hr
  obtain ⟨k, cap, num, den, width, count, keys, slots, every, seg⟩ := p
  dsimp only at *
  have HR := hid hr
  clear hr hm
  go_enter Try.func14, Try.ntmps14
  go_wp2_with fail
  refine (HR.out _).mono ?_
  rintro e w1 ⟨rfl, hb⟩
  go_upto_region 2 with fail
  go_quiet (fail)
  go_wp2
  go_ret
  exact ⟨rfl, below_drewN' (((Below.refl _ _).alloc (Nat.le_refl _) _).trans (hb.mono (by simp))) _⟩

set_option maxHeartbeats 1000000 in
theorem refMay_low (p : Pol) (o c : Int) (hm : meansB p = true) (hc : c < 1) (w : World) :
    Calls Try.prog 14 #[.agg #[.int .i64 p.k, .int .i64 p.cap, .int .i64 p.num, .int .i64 p.den, .int .i64 p.width, .int .i64 p.count, .int .i64 p.keys, .int .i64 p.slots, .int .i64 p.every, .int .i64 p.seg], .int .i64 o, .int .i64 c] w
      fun e w' => e = .returned (.bool false) ∧ Below w.heap.size w w' := by
  have hr := refMeans_any p
  rw [hm] at hr
  obtain ⟨k, cap, num, den, width, count, keys, slots, every, seg⟩ := p
  dsimp only at *
  have HR := hid hr
  clear hr hm
  have hd : decide ((1 : Int) ≤ c) = false := by simp; omega
  go_enter Try.func14, Try.ntmps14
  go_wp2_with fail
  refine (HR.out _).mono ?_
  rintro e w1 ⟨rfl, hb⟩
  go_upto_region 2 with fail
  go_quiet (fail)
  go_wp2
  go_ret
  exact ⟨rfl, below_drewN' (((Below.refl _ _).alloc (Nat.le_refl _) _).trans (hb.mono (by simp))) _⟩

set_option maxHeartbeats 1000000 in
theorem refMay_high (p : Pol) (o c : Int) (hm : meansB p = true) (hc : 1048576 < c) (w : World) :
    Calls Try.prog 14 #[.agg #[.int .i64 p.k, .int .i64 p.cap, .int .i64 p.num, .int .i64 p.den, .int .i64 p.width, .int .i64 p.count, .int .i64 p.keys, .int .i64 p.slots, .int .i64 p.every, .int .i64 p.seg], .int .i64 o, .int .i64 c] w
      fun e w' => e = .returned (.bool false) ∧ Below w.heap.size w w' := by
  have hr := refMeans_any p
  rw [hm] at hr
  obtain ⟨k, cap, num, den, width, count, keys, slots, every, seg⟩ := p
  dsimp only at *
  have HR := hid hr
  clear hr hm
  have hd : decide (c ≤ (1048576 : Int)) = false := by simp; omega
  have hd1 : (1 : Int) ≤ c := by omega
  go_enter Try.func14, Try.ntmps14
  go_wp2_with fail
  refine (HR.out _).mono ?_
  rintro e w1 ⟨rfl, hb⟩
  go_upto_region 2 with fail
  go_quiet (fail)
  go_wp2
  go_ret
  exact ⟨rfl, below_drewN' (((Below.refl _ _).alloc (Nat.le_refl _) _).trans (hb.mono (by simp))) _⟩

set_option maxHeartbeats 1000000 in
theorem refMay_yes (p : Pol) (o c : Int) (hm : meansB p = true) (hc1 : 1 ≤ c) (hc2 : c ≤ 1048576) (w : World) :
    Calls Try.prog 14 #[.agg #[.int .i64 p.k, .int .i64 p.cap, .int .i64 p.num, .int .i64 p.den, .int .i64 p.width, .int .i64 p.count, .int .i64 p.keys, .int .i64 p.slots, .int .i64 p.every, .int .i64 p.seg], .int .i64 o, .int .i64 c] w
      fun e w' => e = .returned (.bool (decide (clipI o 4611686018427387903 ≤ p.cap * p.den - c * p.den))) ∧ Below w.heap.size w w' := by
  have hr := refMeans_any p
  rw [hm] at hr
  obtain ⟨hk, hcap, _, hden⟩ := meansB_bounds hm
  obtain ⟨k, cap, num, den, width, count, keys, slots, every, seg⟩ := p
  dsimp only at *
  subst hk
  have bo := clipI_bound o (m := 4611686018427387903) (by omega)
  have bp := mul_bounds (show 0 ≤ c by omega) hc2 (show 0 ≤ den by omega) hden.2
  have bq := mul_bounds (show 0 ≤ cap by omega) hcap.2 (show 0 ≤ den by omega) hden.2
  have HR := hid hr
  clear hr hm
  go_enter Try.func14, Try.ntmps14
  go_wp2_with fail
  refine (HR.out _).mono ?_
  rintro e w1 ⟨rfl, hb⟩
  have d1 : w1.cell? ⟨w.heap.size, 1, none⟩ = some (.int .i64 cap) := by rw [hb.cell (p := ⟨w.heap.size, 1, none⟩) (by simp)]; simp
  have d3 : w1.cell? ⟨w.heap.size, 3, none⟩ = some (.int .i64 den) := by rw [hb.cell (p := ⟨w.heap.size, 3, none⟩) (by simp)]; simp
  go_upto_region 2 with fail
  have e1 : IntKind.i64.wrap (c * den) = c * den := IntWalk.i64_in _ (by omega)
  have e2 : IntKind.i64.wrap (cap * den) = cap * den := IntWalk.i64_in _ (by omega)
  have e3 : IntKind.i64.wrap (cap * den - c * den) = cap * den - c * den := IntWalk.i64_in _ (by omega)
  go_quiet ((go_at_call 24; with_reducible exact refClip_quiet _ _ _ _))
  go_wp2
  go_ret
  exact ⟨rfl, below_drewN' (((Below.refl _ _).alloc (Nat.le_refl _) _).trans (hb.mono (by simp))) _⟩

/-- May of the reference. -/
theorem refMay_call (p : Pol) (o c : Int) (w : World) :
    Calls Try.prog 14 #[.agg #[.int .i64 p.k, .int .i64 p.cap, .int .i64 p.num, .int .i64 p.den, .int .i64 p.width, .int .i64 p.count, .int .i64 p.keys, .int .i64 p.slots, .int .i64 p.every, .int .i64 p.seg], .int .i64 o, .int .i64 c] w
      fun e w' => e = .returned (.bool (mayP p o c)) ∧ Below w.heap.size w w' := by
  cases hm : meansB p with
  | false => simpa [mayP, hm] using refMay_no p o c hm w
  | true =>
    by_cases h1 : c < 1
    · simpa [mayP, mayB, hm, within_low h1] using refMay_low p o c hm h1 w
    · by_cases h2 : 1048576 < c
      · simpa [mayP, mayB, hm, within_high h2] using refMay_high p o c hm h2 w
      · have h := refMay_yes p o c hm (by omega) (by omega) w
        have e : mayP p o c = decide (clipI o 4611686018427387903 ≤ p.cap * p.den - c * p.den) := by
          simp only [mayP, mayB, hm, within_yes (show 1 ≤ c by omega) (show c ≤ 1048576 by omega), Bool.true_and]
          rw [decide_eq_decide]
          omega
        rw [e]; exact h

theorem refTake_no (p : Pol) (o c : Int) (hm : meansB p = false) (w : World) :
    Calls Try.prog 15 #[.agg #[.int .i64 p.k, .int .i64 p.cap, .int .i64 p.num, .int .i64 p.den, .int .i64 p.width, .int .i64 p.count, .int .i64 p.keys, .int .i64 p.slots, .int .i64 p.every, .int .i64 p.seg], .int .i64 o, .int .i64 c] w
      fun e w' => e = .returned (.int .i64 0) ∧ Below w.heap.size w w' := by
  have hr := refMeans_any p
  rw [hm] at hr
  obtain ⟨k, cap, num, den, width, count, keys, slots, every, seg⟩ := p
  dsimp only at *
  have HR := hid hr
  clear hr hm
  go_enter Try.func15, Try.ntmps15
  go_wp2_with (go_at_call 23; refine (HR.out _).mono ?_; rintro e w1 ⟨rfl, hb⟩)
  go_ret
  exact ⟨rfl, ((Below.refl _ _).alloc (Nat.le_refl _) _).trans (hb.mono (by simp))⟩

theorem refTake_out (p : Pol) (o c : Int) (hm : meansB p = true) (hc : c < 1 ∨ 1048576 < c) (w : World) :
    Calls Try.prog 15 #[.agg #[.int .i64 p.k, .int .i64 p.cap, .int .i64 p.num, .int .i64 p.den, .int .i64 p.width, .int .i64 p.count, .int .i64 p.keys, .int .i64 p.slots, .int .i64 p.every, .int .i64 p.seg], .int .i64 o, .int .i64 c] w
      fun e w' => e = .returned (.int .i64 (clipI o 4611686018427387903)) ∧ Below w.heap.size w w' := by
  have hr := refMeans_any p
  rw [hm] at hr
  obtain ⟨k, cap, num, den, width, count, keys, slots, every, seg⟩ := p
  dsimp only at *
  have HR := hid hr
  clear hr hm
  rcases hc with hc | hc
  all_goals
    go_enter Try.func15, Try.ntmps15
    go_wp2_with (first | (go_at_call 23; refine (HR.out _).mono ?_; rintro e w1 ⟨rfl, hb⟩) | (go_at_call 24; refine (refClip_any _ _ _).mono ?_; rintro e w' ⟨rfl, rfl⟩))
    go_ret
    exact ⟨rfl, ((Below.refl _ _).alloc (Nat.le_refl _) _).trans (hb.mono (by simp))⟩

set_option maxHeartbeats 1000000 in
theorem refTake_yes (p : Pol) (o c : Int) (hm : meansB p = true) (hc1 : 1 ≤ c) (hc2 : c ≤ 1048576) (w : World) :
    Calls Try.prog 15 #[.agg #[.int .i64 p.k, .int .i64 p.cap, .int .i64 p.num, .int .i64 p.den, .int .i64 p.width, .int .i64 p.count, .int .i64 p.keys, .int .i64 p.slots, .int .i64 p.every, .int .i64 p.seg], .int .i64 o, .int .i64 c] w
      fun e w' => e = .returned (.int .i64 (clipI (clipI o 4611686018427387903 + c * p.den) 4611686018427387903)) ∧ Below w.heap.size w w' := by
  have hr := refMeans_any p
  rw [hm] at hr
  obtain ⟨hk, _, _, hden⟩ := meansB_bounds hm
  obtain ⟨k, cap, num, den, width, count, keys, slots, every, seg⟩ := p
  dsimp only at *
  subst hk
  have bo := clipI_bound o (m := 4611686018427387903) (by omega)
  have bp := mul_bounds (show 0 ≤ c by omega) hc2 (show 0 ≤ den by omega) hden.2
  have HR := hid hr
  clear hr hm
  by_cases hov : clipI o 4611686018427387903 + c * den ≤ 4611686018427387903
  · rw [clipI_mid (n := clipI o 4611686018427387903 + c * den) (by omega) hov]
    go_enter Try.func15, Try.ntmps15
    go_wp2_with fail
    refine (HR.out _).mono ?_
    rintro e w1 ⟨rfl, hb⟩
    have d3 : w1.cell? ⟨w.heap.size, 3, none⟩ = some (.int .i64 den) := by rw [hb.cell (p := ⟨w.heap.size, 3, none⟩) (by simp)]; simp
    go_wp2_with (go_at_call 24; refine (refClip_any _ _ _).mono ?_; rintro e w' ⟨rfl, rfl⟩)
    go_ret
    exact ⟨rfl, ((Below.refl _ _).alloc (Nat.le_refl _) _).trans (hb.mono (by simp))⟩
  · rw [clipI_high (n := clipI o 4611686018427387903 + c * den) (by omega) (by omega)]
    go_enter Try.func15, Try.ntmps15
    go_wp2_with fail
    refine (HR.out _).mono ?_
    rintro e w1 ⟨rfl, hb⟩
    have d3 : w1.cell? ⟨w.heap.size, 3, none⟩ = some (.int .i64 den) := by rw [hb.cell (p := ⟨w.heap.size, 3, none⟩) (by simp)]; simp
    go_wp2_with (go_at_call 24; refine (refClip_any _ _ _).mono ?_; rintro e w' ⟨rfl, rfl⟩)
    go_ret
    exact ⟨rfl, ((Below.refl _ _).alloc (Nat.le_refl _) _).trans (hb.mono (by simp))⟩

/-- Take of the reference. -/
theorem refTake_call (p : Pol) (o c : Int) (w : World) :
    Calls Try.prog 15 #[.agg #[.int .i64 p.k, .int .i64 p.cap, .int .i64 p.num, .int .i64 p.den, .int .i64 p.width, .int .i64 p.count, .int .i64 p.keys, .int .i64 p.slots, .int .i64 p.every, .int .i64 p.seg], .int .i64 o, .int .i64 c] w
      fun e w' => e = .returned (.int .i64 (takeP p o c)) ∧ Below w.heap.size w w' := by
  cases hm : meansB p with
  | false => simpa [takeP, hm] using refTake_no p o c hm w
  | true =>
    cases hc : within c 1 1048576 with
    | false => simpa [takeP, takeI, hm, hc] using refTake_out p o c hm (within_not hc) w
    | true => simpa [takeP, takeI, hm, hc] using refTake_yes p o c hm (within_iff.1 hc).1 (within_iff.1 hc).2 w

end Go.Proofs.Ytlhnlickmjdjfaa
