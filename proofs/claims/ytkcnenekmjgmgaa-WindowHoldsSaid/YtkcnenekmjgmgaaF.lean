/- Right of whatever policy; which are meant: the program's and the reference's. -/
import Derived.Test.YtkcnenekmjgmgaaE
import Derived.Test.YtkcnenekmjgmgaaW
namespace Go.Proofs.Ytkcnenekmjgmgaa
open Go.RowKit

theorem right_any (p : Pol) (w : World) :
    Calls Try.prog 39 #[.agg #[.int .i64 p.k, .int .i64 p.cap, .int .i64 p.num, .int .i64 p.den, .int .i64 p.width, .int .i64 p.count, .int .i64 p.keys, .int .i64 p.slots, .int .i64 p.every, .int .i64 p.seg]] w
      fun e w' => e = .returned (.int .i64 (rightN p)) ∧ Below w.heap.size w w' := by
  obtain ⟨k, cap, num, den, width, count, keys, slots, every, seg⟩ := p
  by_cases h1 : k = 1
  · subst h1; exact right_bucket cap num den width count keys slots every seg w
  · by_cases h2 : k = 2
    · subst h2; exact right_window cap num den width count keys slots every seg w
    · have e1 : (k == 1) = false := by simp [h1]
      have e2 : (k == 2) = false := by simp [h2]
      rw [rightN_not (p := ⟨k, cap, num, den, width, count, keys, slots, every, seg⟩) e1 e2]
      exact right_other ⟨k, cap, num, den, width, count, keys, slots, every, seg⟩ e1 e2 w

theorem means_any (p : Pol) (w : World) :
    Calls Try.prog 31 #[.agg #[.int .i64 p.k, .int .i64 p.cap, .int .i64 p.num, .int .i64 p.den, .int .i64 p.width, .int .i64 p.count, .int .i64 p.keys, .int .i64 p.slots, .int .i64 p.every, .int .i64 p.seg]] w
      fun e w' => e = .returned (.bool (meansW p)) ∧ Below w.heap.size w w' := by
  cases h1 : p.k == 2 with
  | false =>
    rw [meansW_kind h1]
    obtain ⟨k, cap, num, den, width, count, keys, slots, every, seg⟩ := p
    dsimp only at *
    go_enter Try.func31, Try.ntmps31
    go_wp2_with fail
    go_ret
    exact ⟨rfl, (Below.refl _ _).alloc (Nat.le_refl _) _⟩
  | true =>
    have hk : p.k = 2 := by simpa using h1
    cases h2 : okB p with
    | true =>
      have hr := right_any p
      rw [meansW_yes hk h2, rightN_yes h2] at *
      obtain ⟨k, cap, num, den, width, count, keys, slots, every, seg⟩ := p
      dsimp only at *
      subst hk
      have HR := hid hr
      clear hr h1 h2
      go_enter Try.func31, Try.ntmps31
      go_wp2_with (go_at_call 39; refine (HR.out _).mono ?_; rintro e w1 ⟨rfl, hb⟩)
      go_ret
      exact ⟨rfl, ((Below.refl _ _).alloc (Nat.le_refl _) _).trans (hb.mono (by simp))⟩
    | false =>
      have hr := right_any p
      rw [meansW_no h2, rightN_no h2] at *
      obtain ⟨k, cap, num, den, width, count, keys, slots, every, seg⟩ := p
      dsimp only at *
      subst hk
      have HR := hid hr
      clear hr h1 h2
      go_enter Try.func31, Try.ntmps31
      go_wp2_with (go_at_call 39; refine (HR.out _).mono ?_; rintro e w1 ⟨rfl, hb⟩)
      go_ret
      exact ⟨rfl, ((Below.refl _ _).alloc (Nat.le_refl _) _).trans (hb.mono (by simp))⟩

theorem refMeans_any (p : Pol) (w : World) :
    Calls Try.prog 36 #[.agg #[.int .i64 p.k, .int .i64 p.cap, .int .i64 p.num, .int .i64 p.den, .int .i64 p.width, .int .i64 p.count, .int .i64 p.keys, .int .i64 p.slots, .int .i64 p.every, .int .i64 p.seg]] w
      fun e w' => e = .returned (.bool (meansW p)) ∧ Below w.heap.size w w' := by
  have hr := refRight_any p
  cases h2 : okB p with
  | false =>
    rw [meansW_no h2, rightN_no h2] at *
    obtain ⟨k, cap, num, den, width, count, keys, slots, every, seg⟩ := p
    dsimp only at *
    have HR := hid hr
    clear hr h2
    go_enter Try.func36, Try.ntmps36
    go_wp2_with (go_at_call 10; refine (HR.out _).mono ?_; rintro e w1 ⟨rfl, hb⟩)
    go_ret
    exact ⟨rfl, ((Below.refl _ _).alloc (Nat.le_refl _) _).trans (hb.mono (by simp))⟩
  | true =>
    have hm : meansW p = (p.k == 2) := by simp [meansW, h2]
    rw [hm, rightN_yes h2] at *
    obtain ⟨k, cap, num, den, width, count, keys, slots, every, seg⟩ := p
    dsimp only at *
    have HR := hid hr
    clear hr h2 hm
    go_enter Try.func36, Try.ntmps36
    go_wp2_with fail
    refine (HR.out _).mono ?_
    rintro e w1 ⟨rfl, hb⟩
    have hc : w1.cell? ⟨w.heap.size, 0, none⟩ = some (.int .i64 k) := by rw [hb.cell (p := ⟨w.heap.size, 0, none⟩) (by simp)]; simp
    go_wp2_with fail
    go_ret
    exact ⟨rfl, ((Below.refl _ _).alloc (Nat.le_refl _) _).trans (hb.mono (by simp))⟩

end Go.Proofs.Ytkcnenekmjgmgaa
