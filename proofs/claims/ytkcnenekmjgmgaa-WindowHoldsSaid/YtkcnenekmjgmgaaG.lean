/- Contracts: a tick clipped, the bucket of a tick, a sum of numbers as they count. -/
import Derived.Test.YtkcnenekmjgmgaaF
import Derived.Test.YtkcnenekmjgmgaaL
import Derived.LoopTactic
namespace Go.Proofs.Ytkcnenekmjgmgaa
open Go.RowKit

/-- A slice that reads as these numbers. -/
structure Reads (w : World) (sl : Value) (l : List Int) : Prop where
  form : ∃ A c, sl = .slice A l.length c ∧ (0 < l.length → ∃ g o, A = some ⟨g, o, none⟩ ∧ g < w.heap.size ∧ ∀ i, i < l.length → w.cell? ⟨g, o + i, none⟩ = some (.int .i64 (l.getD i 0)))
theorem Reads.below {w w' : World} {sl : Value} {l : List Int} (h : Reads w sl l) (hb : Below w.heap.size w w') : Reads w' sl l := by
  obtain ⟨A, c, e, h⟩ := h.form
  refine ⟨A, c, e, fun h0 => ?_⟩
  obtain ⟨g, o, e2, hg, hc⟩ := h h0
  exact ⟨g, o, e2, Nat.lt_of_lt_of_le hg hb.size, fun i hi => (hb.cell (p := ⟨g, o + i, none⟩) hg).trans (hc i hi)⟩

theorem clip_any (n : Int) (w : World) : Calls Try.prog 35 #[.int .i64 n] w fun e w' => e = .returned (.int .i64 (clipI n 1099511627776)) ∧ w = w' := by
  by_cases h1 : n < 0
  · go_enter Try.func35, Try.ntmps35
    go_wp2
    go_ret
    exact ⟨by first | (rw [clipI_low (by omega)]; rfl) | (rw [clipI_high (by omega) (by omega)]; rfl) | (rw [clipI_mid (by omega) (by omega)]; rfl), rfl⟩
  · by_cases h2 : 1099511627776 < n
    · go_enter Try.func35, Try.ntmps35
      go_wp2
      go_ret
      exact ⟨by first | (rw [clipI_low (by omega)]; rfl) | (rw [clipI_high (by omega) (by omega)]; rfl) | (rw [clipI_mid (by omega) (by omega)]; rfl), rfl⟩
    · go_enter Try.func35, Try.ntmps35
      go_wp2
      go_ret
      exact ⟨by first | (rw [clipI_low (by omega)]; rfl) | (rw [clipI_high (by omega) (by omega)]; rfl) | (rw [clipI_mid (by omega) (by omega)]; rfl), rfl⟩

theorem clip_quiet (n : Int) (W W' : World) (h : ∃ q, W' = W.drewN q) : Calls Try.prog 35 #[.int .i64 n] W' fun e w' => e = .returned (.int .i64 (clipI n 1099511627776)) ∧ ∃ q, w' = W.drewN q :=
  (clip_any n W').mono fun _ _ ⟨he, hw⟩ => ⟨he, hw ▸ h⟩

theorem grid_any (p : Pol) (t : Int) (w : World) : Calls Try.prog 17 #[.agg #[.int .i64 p.k, .int .i64 p.cap, .int .i64 p.num, .int .i64 p.den, .int .i64 p.width, .int .i64 p.count, .int .i64 p.keys, .int .i64 p.slots, .int .i64 p.every, .int .i64 p.seg], .int .i64 t] w fun e w' => e = .returned (.int .i64 (gridP p t)) ∧ Below w.heap.size w w' := by
  have hr := means_any p
  cases hm : meansW p with
  | false =>
    rw [hm] at hr
    rw [gridP_no hm]
    have HR := hid hr
    clear hr hm
    obtain ⟨k, cap, num, den, width, count, keys, slots, every, seg⟩ := p
    dsimp only at *
    go_enter Try.func17, Try.ntmps17
    go_wp2_with (go_at_call 31; refine (HR.out _).mono ?_; rintro e w1 ⟨rfl, hb⟩)
    go_ret
    exact ⟨rfl, ((Below.refl _ _).alloc (Nat.le_refl _) _).trans (hb.mono (by simp))⟩
  | true =>
    rw [hm] at hr
    rw [gridP_yes hm]
    have hw := (meansW_bounds hm).2.2.1
    have HR := hid hr
    clear hr hm
    unfold gridN
    obtain ⟨k, cap, num, den, width, count, keys, slots, every, seg⟩ := p
    dsimp only at *
    have bc := clipI_bound t (m := 1099511627776) (by omega)
    have HC := hid (fun w => clip_any t w)
    generalize clipI t 1099511627776 = u at *
    go_enter Try.func17, Try.ntmps17
    go_wp2_with fail
    refine (HR.out _).mono ?_
    rintro e w1 ⟨rfl, hb⟩
    have hc : w1.cell? ⟨w.heap.size, 4, none⟩ = some (.int .i64 width) := by rw [hb.cell (p := ⟨w.heap.size, 4, none⟩) (by simp)]; simp
    have hl : w.heap.size < w1.heap.size := by have := hb.size; simp at this; omega
    have hB := hid (((Below.refl _ _).alloc (Nat.le_refl _) _).trans (hb.mono (by simp)))
    clear hb
    go_upto_region 3 with fail
    have x4 := fun x : Later w1 => Later.cell (a := ⟨w.heap.size, 4, none⟩) hl hc x
    have hw0 : width ≠ 0 := by omega
    have hm1 : width ≠ -1 := by omega
    have bd : 0 ≤ u.tdiv width ∧ u.tdiv width ≤ 1099511627776 := by
      rw [Int.tdiv_eq_ediv_of_nonneg bc.1]
      exact ⟨Int.ediv_nonneg bc.1 (by omega), Int.le_trans (Int.ediv_le_self _ bc.1) bc.2⟩
    have ew : IntKind.i64.wrap (u.tdiv width) = u.tdiv width := IntWalk.i64_in _ (by omega)
    refine wp_region_quiet_later (by kernel_rfl) (by kernel_rfl) ?_
    repeat (go_big_quiet_step ((first | (go_at_call 35; refine later_same (v := .int .i64 u) ?_; exact HC.out _))))
    refine wpQuiet_nil ?_
    intro _ hw'
    obtain ⟨x, hw''⟩ := hw'
    subst hw''
    have hx := x.below
    generalize x.world = w4 at hx
    clear x x4
    go_wp2_with fail
    go_ret
    exact ⟨rfl, hB.out.trans (hx.mono hB.out.size)⟩

#print axioms grid_any
end Go.Proofs.Ytkcnenekmjgmgaa
