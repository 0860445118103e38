/- The program's May where it says no; Take; When. -/
import Derived.Test.YtlhnlickmjdjfaaG
import Derived.Test.YtlhnlickmjdjfaaL
namespace Go.Proofs.Ytlhnlickmjdjfaa
open Go.RowKit

set_option maxHeartbeats 2000000 in
theorem may_no (p : Pol) (o c : Int) (hm : meansB p = false) (w : World) :
    Calls Try.prog 11 #[.agg #[.int .i64 p.k, .int .i64 p.cap, .int .i64 p.num, .int .i64 p.den, .int .i64 p.width, .int .i64 p.count, .int .i64 p.keys, .int .i64 p.slots, .int .i64 p.every, .int .i64 p.seg], .int .i64 o, .int .i64 c] w
      fun e w' => e = .returned (.bool false) ∧ Below w.heap.size w w' := by
  have hr := means_any p
  rw [hm] at hr
  obtain ⟨k, cap, num, den, width, count, keys, slots, every, seg⟩ := p
  dsimp only at *
  have HR := hid hr
  clear hr hm
  go_enter Try.func11, Try.ntmps11
  go_upto_region 1 with fail
  refine abstract_world (fun W => Below w.heap.size w W ∧ W.heap.size = w.heap.size + 1 ∧ (W.cell? ⟨w.heap.size, 0, none⟩ = some (.int .i64 k) ∧ W.cell? ⟨w.heap.size, 1, none⟩ = some (.int .i64 cap) ∧ W.cell? ⟨w.heap.size, 2, none⟩ = some (.int .i64 num) ∧ W.cell? ⟨w.heap.size, 3, none⟩ = some (.int .i64 den) ∧ W.cell? ⟨w.heap.size, 4, none⟩ = some (.int .i64 width) ∧ W.cell? ⟨w.heap.size, 5, none⟩ = some (.int .i64 count) ∧ W.cell? ⟨w.heap.size, 6, none⟩ = some (.int .i64 keys) ∧ W.cell? ⟨w.heap.size, 7, none⟩ = some (.int .i64 slots) ∧ W.cell? ⟨w.heap.size, 8, none⟩ = some (.int .i64 every) ∧ W.cell? ⟨w.heap.size, 9, none⟩ = some (.int .i64 seg))) ?_ ?_
  · exact ⟨(Below.refl w.heap.size w).alloc (Nat.le_refl _) _, by simp, by simp⟩
  · intro W ⟨hB, hz, h0, h1, h2, h3, h4, h5, h6, h7, h8, h9⟩
    have hz1 : w.heap.size < W.heap.size := by omega
    have x0 := fun x : Later W => Later.cell (a := ⟨w.heap.size, 0, none⟩) hz1 h0 x
    have x1 := fun x : Later W => Later.cell (a := ⟨w.heap.size, 1, none⟩) hz1 h1 x
    have x2 := fun x : Later W => Later.cell (a := ⟨w.heap.size, 2, none⟩) hz1 h2 x
    have x3 := fun x : Later W => Later.cell (a := ⟨w.heap.size, 3, none⟩) hz1 h3 x
    have x4 := fun x : Later W => Later.cell (a := ⟨w.heap.size, 4, none⟩) hz1 h4 x
    have x5 := fun x : Later W => Later.cell (a := ⟨w.heap.size, 5, none⟩) hz1 h5 x
    have x6 := fun x : Later W => Later.cell (a := ⟨w.heap.size, 6, none⟩) hz1 h6 x
    have x7 := fun x : Later W => Later.cell (a := ⟨w.heap.size, 7, none⟩) hz1 h7 x
    have x8 := fun x : Later W => Later.cell (a := ⟨w.heap.size, 8, none⟩) hz1 h8 x
    have x9 := fun x : Later W => Later.cell (a := ⟨w.heap.size, 9, none⟩) hz1 h9 x
    clear hz h0 h1 h2 h3 h4 h5 h6 h7 h8 h9
    refine wp_region_quiet_later (by kernel_rfl) (by kernel_rfl) ?_
    repeat (go_big_quiet_step ((first | (go_at_call 20; refine later_of (v := .bool false) ?_; exact HR.out _))))
    refine wpQuiet_nil ?_
    intro _ hw'
    obtain ⟨x, hw''⟩ := hw'
    subst hw''
    go_wp2
    go_ret
    exact ⟨rfl, hB.trans (x.below.mono (Nat.le_of_lt hz1))⟩

set_option maxHeartbeats 2000000 in
theorem may_out (p : Pol) (o c : Int) (hm : meansB p = true) (hc : within c 1 1048576 = false) (w : World) :
    Calls Try.prog 11 #[.agg #[.int .i64 p.k, .int .i64 p.cap, .int .i64 p.num, .int .i64 p.den, .int .i64 p.width, .int .i64 p.count, .int .i64 p.keys, .int .i64 p.slots, .int .i64 p.every, .int .i64 p.seg], .int .i64 o, .int .i64 c] w
      fun e w' => e = .returned (.bool false) ∧ Below w.heap.size w w' := by
  have hr := means_any p
  rw [hm] at hr
  obtain ⟨k, cap, num, den, width, count, keys, slots, every, seg⟩ := p
  dsimp only at *
  have hmay := fun w => may_any c w
  rw [hc] at hmay
  have HR := hid hr
  have HM := hid hmay
  clear hr hm hmay hc
  go_enter Try.func11, Try.ntmps11
  go_upto_region 1 with fail
  refine abstract_world (fun W => Below w.heap.size w W ∧ W.heap.size = w.heap.size + 1 ∧ (W.cell? ⟨w.heap.size, 0, none⟩ = some (.int .i64 k) ∧ W.cell? ⟨w.heap.size, 1, none⟩ = some (.int .i64 cap) ∧ W.cell? ⟨w.heap.size, 2, none⟩ = some (.int .i64 num) ∧ W.cell? ⟨w.heap.size, 3, none⟩ = some (.int .i64 den) ∧ W.cell? ⟨w.heap.size, 4, none⟩ = some (.int .i64 width) ∧ W.cell? ⟨w.heap.size, 5, none⟩ = some (.int .i64 count) ∧ W.cell? ⟨w.heap.size, 6, none⟩ = some (.int .i64 keys) ∧ W.cell? ⟨w.heap.size, 7, none⟩ = some (.int .i64 slots) ∧ W.cell? ⟨w.heap.size, 8, none⟩ = some (.int .i64 every) ∧ W.cell? ⟨w.heap.size, 9, none⟩ = some (.int .i64 seg))) ?_ ?_
  · exact ⟨(Below.refl w.heap.size w).alloc (Nat.le_refl _) _, by simp, by simp⟩
  · intro W ⟨hB, hz, h0, h1, h2, h3, h4, h5, h6, h7, h8, h9⟩
    have hz1 : w.heap.size < W.heap.size := by omega
    have x0 := fun x : Later W => Later.cell (a := ⟨w.heap.size, 0, none⟩) hz1 h0 x
    have x1 := fun x : Later W => Later.cell (a := ⟨w.heap.size, 1, none⟩) hz1 h1 x
    have x2 := fun x : Later W => Later.cell (a := ⟨w.heap.size, 2, none⟩) hz1 h2 x
    have x3 := fun x : Later W => Later.cell (a := ⟨w.heap.size, 3, none⟩) hz1 h3 x
    have x4 := fun x : Later W => Later.cell (a := ⟨w.heap.size, 4, none⟩) hz1 h4 x
    have x5 := fun x : Later W => Later.cell (a := ⟨w.heap.size, 5, none⟩) hz1 h5 x
    have x6 := fun x : Later W => Later.cell (a := ⟨w.heap.size, 6, none⟩) hz1 h6 x
    have x7 := fun x : Later W => Later.cell (a := ⟨w.heap.size, 7, none⟩) hz1 h7 x
    have x8 := fun x : Later W => Later.cell (a := ⟨w.heap.size, 8, none⟩) hz1 h8 x
    have x9 := fun x : Later W => Later.cell (a := ⟨w.heap.size, 9, none⟩) hz1 h9 x
    clear hz h0 h1 h2 h3 h4 h5 h6 h7 h8 h9
    refine wp_region_quiet_later (by kernel_rfl) (by kernel_rfl) ?_
    repeat (go_big_quiet_step ((first | (go_at_call 20; refine later_of (v := .bool true) ?_; exact HR.out _) | (go_at_call 22; refine later_same (v := .bool false) ?_; exact HM.out _))))
    refine wpQuiet_nil ?_
    intro _ hw'
    obtain ⟨x, hw''⟩ := hw'
    subst hw''
    go_wp2
    go_ret
    exact ⟨rfl, hB.trans (x.below.mono (Nat.le_of_lt hz1))⟩

/-- May of the program. -/
theorem may_call (p : Pol) (o c : Int) (w : World) :
    Calls Try.prog 11 #[.agg #[.int .i64 p.k, .int .i64 p.cap, .int .i64 p.num, .int .i64 p.den, .int .i64 p.width, .int .i64 p.count, .int .i64 p.keys, .int .i64 p.slots, .int .i64 p.every, .int .i64 p.seg], .int .i64 o, .int .i64 c] w
      fun e w' => e = .returned (.bool (mayP p o c)) ∧ Below w.heap.size w w' := by
  cases hm : meansB p with
  | false => simpa [mayP, hm] using may_no p o c hm w
  | true =>
    cases hc : within c 1 1048576 with
    | false => simpa [mayP, mayB, hm, hc] using may_out p o c hm hc w
    | true => simpa [mayP, mayB, hm, hc] using may_yes p o c hm (within_iff.1 hc).1 (within_iff.1 hc).2 w

/-- Decay of the program. -/
theorem decay_call (p : Pol) (o t : Int) (w : World) :
    Calls Try.prog 10 #[.agg #[.int .i64 p.k, .int .i64 p.cap, .int .i64 p.num, .int .i64 p.den, .int .i64 p.width, .int .i64 p.count, .int .i64 p.keys, .int .i64 p.slots, .int .i64 p.every, .int .i64 p.seg], .int .i64 o, .int .i64 t] w
      fun e w' => e = .returned (.int .i64 (decayP p o t)) ∧ Below w.heap.size w w' := by
  cases hm : meansB p with
  | false => simpa [decayP, hm] using decay_no p o t hm w
  | true => simpa [decayP, hm] using decay_yes p o t hm w

theorem take_no (p : Pol) (o c : Int) (hm : meansB p = false) (w : World) :
    Calls Try.prog 12 #[.agg #[.int .i64 p.k, .int .i64 p.cap, .int .i64 p.num, .int .i64 p.den, .int .i64 p.width, .int .i64 p.count, .int .i64 p.keys, .int .i64 p.slots, .int .i64 p.every, .int .i64 p.seg], .int .i64 o, .int .i64 c] w
      fun e w' => e = .returned (.int .i64 0) ∧ Below w.heap.size w w' := by
  have hr := means_any p
  rw [hm] at hr
  obtain ⟨k, cap, num, den, width, count, keys, slots, every, seg⟩ := p
  dsimp only at *
  have HR := hid hr
  clear hr hm
  go_enter Try.func12, Try.ntmps12
  go_wp2_with fail
  refine (clip_any _ _).mono ?_
  rintro e w' ⟨rfl, rfl⟩
  go_wp2_with fail
  refine (HR.out _).mono ?_
  rintro e w1 ⟨rfl, hb⟩
  go_wp2_with fail
  go_ret
  exact ⟨rfl, (((Below.refl w.heap.size w).alloc (Nat.le_refl _) _).alloc (by simp) _).trans (hb.mono (by simp; omega))⟩

set_option maxHeartbeats 1000000 in
theorem take_out (p : Pol) (o c : Int) (hm : meansB p = true) (hc : within c 1 1048576 = false) (w : World) :
    Calls Try.prog 12 #[.agg #[.int .i64 p.k, .int .i64 p.cap, .int .i64 p.num, .int .i64 p.den, .int .i64 p.width, .int .i64 p.count, .int .i64 p.keys, .int .i64 p.slots, .int .i64 p.every, .int .i64 p.seg], .int .i64 o, .int .i64 c] w
      fun e w' => e = .returned (.int .i64 (clipI o 4611686018427387903)) ∧ Below w.heap.size w w' := by
  have hr := means_any p
  rw [hm] at hr
  obtain ⟨k, cap, num, den, width, count, keys, slots, every, seg⟩ := p
  dsimp only at *
  have hmay := fun w => may_any c w
  rw [hc] at hmay
  have HR := hid hr
  have HM := hid hmay
  clear hr hm hmay hc
  go_enter Try.func12, Try.ntmps12
  go_wp2_with fail
  refine (clip_any _ _).mono ?_
  rintro e w' ⟨rfl, rfl⟩
  go_wp2_with fail
  refine (HR.out _).mono ?_
  rintro e w1 ⟨rfl, hb⟩
  have a1 : w1.cell? ⟨w.heap.size + 1, 0, none⟩ = some (.int .i64 4611686018427387903) := by rw [hb.cell (p := ⟨w.heap.size + 1, 0, none⟩) (by simp)]; simp
  go_wp2_with fail
  refine (HM.out _).mono ?_
  rintro e w' ⟨rfl, rfl⟩
  go_wp2_with fail
  refine (clip1_any _ 4611686018427387903 _ _ (by omega) a1).mono ?_
  rintro e w' ⟨rfl, rfl⟩
  go_wp2_with fail
  go_ret
  exact ⟨rfl, (((Below.refl w.heap.size w).alloc (Nat.le_refl _) _).alloc (by simp) _).trans (hb.mono (by simp; omega))⟩

set_option maxHeartbeats 1000000 in
theorem take_yes (p : Pol) (o c : Int) (hm : meansB p = true) (hc : within c 1 1048576 = true) (w : World) :
    Calls Try.prog 12 #[.agg #[.int .i64 p.k, .int .i64 p.cap, .int .i64 p.num, .int .i64 p.den, .int .i64 p.width, .int .i64 p.count, .int .i64 p.keys, .int .i64 p.slots, .int .i64 p.every, .int .i64 p.seg], .int .i64 o, .int .i64 c] w
      fun e w' => e = .returned (.int .i64 (clipI (clipI o 4611686018427387903 + c * p.den) 4611686018427387903)) ∧ Below w.heap.size w w' := by
  have hr := means_any p
  rw [hm] at hr
  obtain ⟨hk, _, _, hden⟩ := meansB_bounds hm
  obtain ⟨k, cap, num, den, width, count, keys, slots, every, seg⟩ := p
  dsimp only at *
  subst hk
  have hmay := fun w => may_any c w
  rw [hc] at hmay
  have hc1 := (within_iff.1 hc).1
  have hc2 := (within_iff.1 hc).2
  have bo := clipI_bound o (m := 4611686018427387903) (by omega)
  have bp := mul_bounds (show 0 ≤ c by omega) hc2 (show 0 ≤ den by omega) hden.2
  have HR := hid hr
  have HM := hid hmay
  clear hr hm hmay hc
  go_enter Try.func12, Try.ntmps12
  go_wp2_with fail
  refine (clip_any _ _).mono ?_
  rintro e w' ⟨rfl, rfl⟩
  go_wp2_with fail
  refine (HR.out _).mono ?_
  rintro e w1 ⟨rfl, hb⟩
  have a1 : w1.cell? ⟨w.heap.size + 1, 0, none⟩ = some (.int .i64 4611686018427387903) := by rw [hb.cell (p := ⟨w.heap.size + 1, 0, none⟩) (by simp)]; simp
  have d3 : w1.cell? ⟨w.heap.size, 3, none⟩ = some (.int .i64 den) := by rw [hb.cell (p := ⟨w.heap.size, 3, none⟩) (by simp; omega)]; simp
  go_wp2_with fail
  refine (HM.out _).mono ?_
  rintro e w' ⟨rfl, rfl⟩
  go_upto_region 6 with fail
  have H1 := hid (clip1_quiet _ _ w1 (by omega) a1)
  clear a1
  go_quiet ((go_at_call 27; with_reducible exact H1.out _ _))
  go_wp2
  go_ret
  exact ⟨rfl, below_drewN' ((((Below.refl w.heap.size w).alloc (Nat.le_refl _) _).alloc (by simp) _).trans (hb.mono (by simp; omega))) _⟩

/-- Take of the program. -/
theorem take_call (p : Pol) (o c : Int) (w : World) :
    Calls Try.prog 12 #[.agg #[.int .i64 p.k, .int .i64 p.cap, .int .i64 p.num, .int .i64 p.den, .int .i64 p.width, .int .i64 p.count, .int .i64 p.keys, .int .i64 p.slots, .int .i64 p.every, .int .i64 p.seg], .int .i64 o, .int .i64 c] w
      fun e w' => e = .returned (.int .i64 (takeP p o c)) ∧ Below w.heap.size w w' := by
  cases hm : meansB p with
  | false => simpa [takeP, hm] using take_no p o c hm w
  | true =>
    cases hc : within c 1 1048576 with
    | false => simpa [takeP, takeI, hm, hc] using take_out p o c hm hc w
    | true => simpa [takeP, takeI, hm, hc] using take_yes p o c hm hc w

end Go.Proofs.Ytlhnlickmjdjfaa
