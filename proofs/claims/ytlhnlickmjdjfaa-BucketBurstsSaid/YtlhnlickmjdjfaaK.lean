/- The program's When. -/
import Derived.Test.YtlhnlickmjdjfaaI
import Derived.Test.YtlhnlickmjdjfaaQ
namespace Go.Proofs.Ytlhnlickmjdjfaa
open Go.RowKit

theorem when_no (p : Pol) (o c : Int) (hm : meansB p = false) (w : World) :
    Calls Try.prog 16 #[.agg #[.int .i64 p.k, .int .i64 p.cap, .int .i64 p.num, .int .i64 p.den, .int .i64 p.width, .int .i64 p.count, .int .i64 p.keys, .int .i64 p.slots, .int .i64 p.every, .int .i64 p.seg], .int .i64 o, .int .i64 c] w
      fun e w' => e = .returned (.int .i64 (-1)) ∧ Below w.heap.size w w' := by
  have hr := means_any p
  rw [hm] at hr
  obtain ⟨k, cap, num, den, width, count, keys, slots, every, seg⟩ := p
  dsimp only at *
  have HR := hid hr
  clear hr hm
  go_enter Try.func16, Try.ntmps16
  go_wp2_with (go_at_call 20; refine (HR.out _).mono ?_; rintro e w1 ⟨rfl, hb⟩)
  go_ret
  exact ⟨rfl, ((Below.refl _ _).alloc (Nat.le_refl _) _).trans (hb.mono (by simp))⟩

theorem when_out (p : Pol) (o c : Int) (hm : meansB p = true) (hc : within c 1 1048576 = false) (w : World) :
    Calls Try.prog 16 #[.agg #[.int .i64 p.k, .int .i64 p.cap, .int .i64 p.num, .int .i64 p.den, .int .i64 p.width, .int .i64 p.count, .int .i64 p.keys, .int .i64 p.slots, .int .i64 p.every, .int .i64 p.seg], .int .i64 o, .int .i64 c] w
      fun e w' => e = .returned (.int .i64 (-1)) ∧ Below w.heap.size w w' := by
  have hr := means_any p
  rw [hm] at hr
  obtain ⟨k, cap, num, den, width, count, keys, slots, every, seg⟩ := p
  dsimp only at *
  have hmay := fun w => may_any c w
  rw [hc] at hmay
  have HR := hid hr
  have HM := hid hmay
  clear hr hm hmay hc
  go_enter Try.func16, Try.ntmps16
  go_wp2_with (first | (go_at_call 20; refine (HR.out _).mono ?_; rintro e w1 ⟨rfl, hb⟩) | (go_at_call 22; refine (HM.out _).mono ?_; rintro e w' ⟨rfl, rfl⟩))
  go_ret
  exact ⟨rfl, ((Below.refl _ _).alloc (Nat.le_refl _) _).trans (hb.mono (by simp))⟩

theorem when_above (p : Pol) (o c : Int) (hm : meansB p = true) (hc : within c 1 1048576 = true) (hcap : p.cap < c) (w : World) :
    Calls Try.prog 16 #[.agg #[.int .i64 p.k, .int .i64 p.cap, .int .i64 p.num, .int .i64 p.den, .int .i64 p.width, .int .i64 p.count, .int .i64 p.keys, .int .i64 p.slots, .int .i64 p.every, .int .i64 p.seg], .int .i64 o, .int .i64 c] w
      fun e w' => e = .returned (.int .i64 (-1)) ∧ Below w.heap.size w w' := by
  have hr := means_any p
  rw [hm] at hr
  obtain ⟨k, cap, num, den, width, count, keys, slots, every, seg⟩ := p
  dsimp only at *
  have hmay := fun w => may_any c w
  rw [hc] at hmay
  have HR := hid hr
  have HM := hid hmay
  clear hr hm hmay hc
  go_enter Try.func16, Try.ntmps16
  go_wp2_with fail
  refine (HR.out _).mono ?_
  rintro e w1 ⟨rfl, hb⟩
  have c1 : w1.cell? ⟨w.heap.size, 1, none⟩ = some (.int .i64 cap) := by rw [hb.cell (p := ⟨w.heap.size, 1, none⟩) (by simp)]; simp
  go_wp2_with (go_at_call 22; refine (HM.out _).mono ?_; rintro e w' ⟨rfl, rfl⟩)
  go_ret
  exact ⟨rfl, ((Below.refl _ _).alloc (Nat.le_refl _) _).trans (hb.mono (by simp))⟩

set_option maxHeartbeats 2000000 in
theorem when_yes (p : Pol) (o c : Int) (hm : meansB p = true) (hc : within c 1 1048576 = true) (hcap : c ≤ p.cap) (w : World) :
    Calls Try.prog 16 #[.agg #[.int .i64 p.k, .int .i64 p.cap, .int .i64 p.num, .int .i64 p.den, .int .i64 p.width, .int .i64 p.count, .int .i64 p.keys, .int .i64 p.slots, .int .i64 p.every, .int .i64 p.seg], .int .i64 o, .int .i64 c] w
      fun e w' => e = .returned (.int .i64 (whenI p.cap p.num p.den o c)) ∧ Below w.heap.size w w' := by
  have hr := means_any p
  rw [hm] at hr
  obtain ⟨hk, hcp, hnum, hden⟩ := meansB_bounds hm
  obtain ⟨k, cap, num, den, width, count, keys, slots, every, seg⟩ := p
  dsimp only at *
  subst hk
  have hmay := fun w => may_any c w
  rw [hc] at hmay
  have hc1 := (within_iff.1 hc).1
  have hc2 := (within_iff.1 hc).2
  have bo := clipI_bound o (m := 4611686018427387903) (by omega)
  have bp := mul_bounds (show 0 ≤ cap - c by omega) (show cap - c ≤ 1048576 by omega) (show 0 ≤ den by omega) hden.2
  have W0 := hid (whenI_zero (num := num) (den := den) (o := o) hc hcap)
  have W1 := hid (whenI_far (num := num) (den := den) (o := o) hc hcap)
  have W2 := hid (whenI_near (num := num) (den := den) (o := o) hc hcap)
  unfold overI at W0 W1 W2
  have HR := hid hr
  have HM := hid hmay
  clear hr hm hmay hc
  go_enter Try.func16, Try.ntmps16
  go_wp2_with fail
  refine (HR.out _).mono ?_
  rintro e w1 ⟨rfl, hb⟩
  have c1 : w1.cell? ⟨w.heap.size, 1, none⟩ = some (.int .i64 cap) := by rw [hb.cell (p := ⟨w.heap.size, 1, none⟩) (by simp)]; simp
  have c2 : w1.cell? ⟨w.heap.size, 2, none⟩ = some (.int .i64 num) := by rw [hb.cell (p := ⟨w.heap.size, 2, none⟩) (by simp)]; simp
  have c3 : w1.cell? ⟨w.heap.size, 3, none⟩ = some (.int .i64 den) := by rw [hb.cell (p := ⟨w.heap.size, 3, none⟩) (by simp)]; simp
  have hz : w.heap.size < w1.heap.size := by have := hb.size; simp at this; omega
  go_wp2_with fail
  refine (HM.out _).mono ?_
  rintro e w' ⟨rfl, rfl⟩
  go_upto_region 3 with fail
  have e1 : IntKind.i64.wrap (cap - c) = cap - c := IntWalk.i64_in _ (by omega)
  have e2 : IntKind.i64.wrap ((cap - c) * den) = (cap - c) * den := IntWalk.i64_in _ (by omega)
  have e3 : IntKind.i64.wrap (clipI o 4611686018427387903 - (cap - c) * den) = clipI o 4611686018427387903 - (cap - c) * den := IntWalk.i64_in _ (by omega)
  have hB : Below w.heap.size w w1 := ((Below.refl _ _).alloc (Nat.le_refl _) _).trans (hb.mono (by simp))
  clear hb
  go_region_held3 (fun w' => w'.cell? ⟨w.heap.size, 1, none⟩ = some (.int .i64 cap) ∧ w'.cell? ⟨w.heap.size, 2, none⟩ = some (.int .i64 num) ∧ w'.cell? ⟨w.heap.size, 3, none⟩ = some (.int .i64 den))
    (go_keep)
    (first | (go_at_call 21; refine (clip_any _ _).mono ?_; rintro e w' ⟨rfl, rfl⟩) | (go_at_call 27; refine (clip1_any _ 4611686018427387903 _ _ (by omega) ?_).mono ?_; (simp); rintro e w' ⟨rfl, rfl⟩))
  refine abstract_world (fun W => Below w.heap.size w W ∧ W.cell? ⟨w.heap.size, 2, none⟩ = some (.int .i64 num)) ?_ ?_
  · exact ⟨(hB.alloc (Nat.le_of_lt hz) _).drew, by simp [World.cell?_alloc_lt, hz, c2]⟩
  · clear e1 e2 e3 c1 c2 c3 hB
    intro W ⟨hB, d2⟩
    by_cases hov : clipI o 4611686018427387903 - (cap - c) * den ≤ 0
    · have FIN := hid (W0.out hov)
      go_wp2
      go_ret
      exact ⟨by rw [FIN.out]; rfl, hB⟩
    · by_cases hfar : 1099511627776 < (clipI o 4611686018427387903 - (cap - c) * den + num - 1) / num
      · have FIN := hid (W1.out (by omega) hfar)
        go_wp2
        go_ret
        exact ⟨by rw [FIN.out]; rfl, hB⟩
      · have FIN := hid (W2.out (by omega) (by omega))
        go_wp2
        go_ret
        exact ⟨by rw [FIN.out]; rfl, hB⟩

/-- When of the program. -/
theorem when_call (p : Pol) (o c : Int) (w : World) :
    Calls Try.prog 16 #[.agg #[.int .i64 p.k, .int .i64 p.cap, .int .i64 p.num, .int .i64 p.den, .int .i64 p.width, .int .i64 p.count, .int .i64 p.keys, .int .i64 p.slots, .int .i64 p.every, .int .i64 p.seg], .int .i64 o, .int .i64 c] w
      fun e w' => e = .returned (.int .i64 (whenP p o c)) ∧ Below w.heap.size w w' := by
  cases hm : meansB p with
  | false => simpa [whenP, hm] using when_no p o c hm w
  | true =>
    cases hc : within c 1 1048576 with
    | false => simpa [whenP, hm, whenI_out (cap := p.cap) (num := p.num) (den := p.den) (o := o) (.inl hc)] using when_out p o c hm hc w
    | true =>
      by_cases hcap : p.cap < c
      · simpa [whenP, hm, whenI_out (cap := p.cap) (num := p.num) (den := p.den) (o := o) (.inr hcap)] using when_above p o c hm hc hcap w
      · simpa [whenP, hm] using when_yes p o c hm hc (by omega) w

end Go.Proofs.Ytlhnlickmjdjfaa
