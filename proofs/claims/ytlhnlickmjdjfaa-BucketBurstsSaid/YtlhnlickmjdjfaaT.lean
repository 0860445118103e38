/- The policy of the document's example, and the small case that each law begins with. -/
import Derived.Test.YtlhnlickmjdjfaaK
import Derived.Test.YtlhnlickmjdjfaaS
namespace Go.Proofs.Ytlhnlickmjdjfaa
open Go.RowKit

theorem plain_bucket (w : World) : Calls Try.prog 19 #[.int .i64 1] w
    fun e w' => e = .returned (.agg #[.int .i64 1, .int .i64 10, .int .i64 1, .int .i64 2, .int .i64 0, .int .i64 0, .int .i64 5, .int .i64 3, .int .i64 4, .int .i64 6]) ∧ Below w.heap.size w w' := by
  go_enter Try.func19, Try.ntmps19
  go_wp2
  exact bodyPost_ret (v := .agg #[.int .i64 1, .int .i64 10, .int .i64 1, .int .i64 2, .int .i64 0, .int .i64 0, .int .i64 5, .int .i64 3, .int .i64 4, .int .i64 6]) (by simp [results, Try.results19, go_sem]) rfl ⟨rfl, (Below.refl _ _).alloc (Nat.le_refl _) _⟩

def ex : Pol := ⟨1, 10, 1, 2, 0, 0, 5, 3, 4, 6⟩
theorem ex_may1 : mayP ex 2 9 = true := by decide +kernel
theorem ex_may2 : mayP ex 1 10 = false := by decide +kernel
theorem ex_take : takeP ex 2 9 = 20 := by decide +kernel
theorem ex_decay : decayP ex 20 5 = 15 := by decide +kernel
theorem ex_when : whenP ex 20 1 = 2 := by decide +kernel

set_option maxHeartbeats 2000000 in
theorem awake_call (w : World) : Calls Try.prog 9 #[] w fun e w' => e = .returned (.bool true) ∧ Below w.heap.size w w' := by
  have a1 := fun w => may_call ex 2 9 w
  have a2 := fun w => may_call ex 1 10 w
  have a3 := fun w => take_call ex 2 9 w
  have a4 := fun w => decay_call ex 20 5 w
  have a5 := fun w => when_call ex 20 1 w
  rw [ex_may1] at a1
  rw [ex_may2] at a2
  rw [ex_take] at a3
  rw [ex_decay] at a4
  rw [ex_when] at a5
  simp only [ex] at a1 a2 a3 a4 a5
  have A1 := hid a1
  have A2 := hid a2
  have A3 := hid a3
  have A4 := hid a4
  have A5 := hid a5
  clear a1 a2 a3 a4 a5
  go_enter Try.func9, Try.ntmps9
  go_wp2_with fail
  refine (plain_bucket _).mono ?_
  rintro e w1 ⟨rfl, hb0⟩
  go_wp2_with fail
  refine (A1.out _).mono ?_
  rintro e w2 ⟨rfl, hb1⟩
  have HB1 := ((hb0.mono (Nat.le_refl _)).alloc hb0.size _).trans (hb1.mono (Nat.le_trans hb0.size (by simp)))
  have l2 : w1.heap.size < w2.heap.size := by have := hb1.size; simp at this; omega
  have T2 := hid (ten_below (g := w1.heap.size) (k := 1) (cap := 10) (num := 1) (den := 2) (width := 0) (count := 0) (keys := 5) (slots := 3) (every := 4) (seg := 6) hb1 (by simp) (by simp))
  clear hb1
  obtain ⟨h0, h1, h2, h3, h4, h5, h6, h7, h8, h9⟩ := T2.out
  go_wp2_with fail
  refine (A2.out _).mono ?_
  rintro e w3 ⟨rfl, hb2⟩
  have HB2 := HB1.trans (hb2.mono HB1.size)
  have l3 : w1.heap.size < w3.heap.size := Nat.lt_of_lt_of_le l2 hb2.size
  have T3 := hid (ten_below hb2 l2 T2.out)
  clear h0 h1 h2 h3 h4 h5 h6 h7 h8 h9 hb2
  obtain ⟨h0, h1, h2, h3, h4, h5, h6, h7, h8, h9⟩ := T3.out
  go_wp2_with fail
  refine (A3.out _).mono ?_
  rintro e w4 ⟨rfl, hb3⟩
  have HB3 := HB2.trans (hb3.mono HB2.size)
  have l4 : w1.heap.size < w4.heap.size := Nat.lt_of_lt_of_le l3 hb3.size
  have T4 := hid (ten_below hb3 l3 T3.out)
  clear h0 h1 h2 h3 h4 h5 h6 h7 h8 h9 hb3
  obtain ⟨h0, h1, h2, h3, h4, h5, h6, h7, h8, h9⟩ := T4.out
  go_wp2_with fail
  refine (A4.out _).mono ?_
  rintro e w5 ⟨rfl, hb4⟩
  have HB4 := HB3.trans (hb4.mono HB3.size)
  have l5 : w1.heap.size < w5.heap.size := Nat.lt_of_lt_of_le l4 hb4.size
  have T5 := hid (ten_below hb4 l4 T4.out)
  clear h0 h1 h2 h3 h4 h5 h6 h7 h8 h9 hb4
  obtain ⟨h0, h1, h2, h3, h4, h5, h6, h7, h8, h9⟩ := T5.out
  go_wp2_with fail
  refine (A5.out _).mono ?_
  rintro e w6 ⟨rfl, hb5⟩
  have HB5 := HB4.trans (hb5.mono HB4.size)
  clear hb5
  go_wp2_with fail
  go_ret
  exact ⟨rfl, HB5⟩

end Go.Proofs.Ytlhnlickmjdjfaa
