/- The law BucketGoes: time in two parts is time in one; what may be taken leaves no more than there is room for. -/
import Derived.Test.YtlhnlickmjdjfaaU
import Derived.Test.YtlhnlickmjdjfaaY
namespace Go.Proofs.Ytlhnlickmjdjfaa
open Go.RowKit

set_option maxHeartbeats 4000000 in
theorem goes_not (p : Pol) (o a b c : Int) (hk : okB p = false) (w : World) :
    Calls Try.prog 5 #[.agg #[.int .i64 p.k, .int .i64 p.cap, .int .i64 p.num, .int .i64 p.den, .int .i64 p.width, .int .i64 p.count, .int .i64 p.keys, .int .i64 p.slots, .int .i64 p.every, .int .i64 p.seg], .int .i64 o, .int .i64 a, .int .i64 b, .int .i64 c] w fun e w' => e = .returned (.bool true) ∧ Below w.heap.size w w' := by
  have A := hid awake_call
  have r1 := fun w => refRight_any p w
  rw [rightN_no hk] at r1
  have R := hid r1
  clear r1 hk
  have S := hid (Stand.begin w p)
  obtain ⟨k, cap, num, den, width, count, keys, slots, every, seg⟩ := p
  dsimp only at *
  go_enter Try.func5, Try.ntmps5
  go_upto_region 1 with fail
  refine abstract_world (fun W => Stand w W ⟨k, cap, num, den, width, count, keys, slots, every, seg⟩) S.out ?_
  clear S
  intro W S0
  have S := hid S0
  clear S0
  obtain ⟨hB, hl, h0, h1, h2, h3, h4, h5, h6, h7, h8, h9⟩ := S.out
  dsimp only at h0 h1 h2 h3 h4 h5 h6 h7 h8 h9
  go_wp2_with fail
  refine (A.out _).mono ?_
  rintro e w1 ⟨rfl, hb⟩
  have S := hid (S.out.on hb)
  clear hb hB hl h0 h1 h2 h3 h4 h5 h6 h7 h8 h9
  obtain ⟨hB, hl, h0, h1, h2, h3, h4, h5, h6, h7, h8, h9⟩ := S.out
  dsimp only at h0 h1 h2 h3 h4 h5 h6 h7 h8 h9
  go_wp2_with fail
  refine (R.out _).mono ?_
  rintro e w2 ⟨rfl, hb⟩
  have S := hid (S.out.on hb)
  clear hb hB hl h0 h1 h2 h3 h4 h5 h6 h7 h8 h9
  obtain ⟨hB, hl, h0, h1, h2, h3, h4, h5, h6, h7, h8, h9⟩ := S.out
  dsimp only at h0 h1 h2 h3 h4 h5 h6 h7 h8 h9
  go_wp2_with fail
  all_goals (go_ret; exact ⟨rfl, hB⟩)

set_option maxHeartbeats 4000000 in
theorem goes_kind (p : Pol) (o a b c : Int) (hk : okB p = true) (g1 : (p.k != 1) = true) (w : World) :
    Calls Try.prog 5 #[.agg #[.int .i64 p.k, .int .i64 p.cap, .int .i64 p.num, .int .i64 p.den, .int .i64 p.width, .int .i64 p.count, .int .i64 p.keys, .int .i64 p.slots, .int .i64 p.every, .int .i64 p.seg], .int .i64 o, .int .i64 a, .int .i64 b, .int .i64 c] w fun e w' => e = .returned (.bool true) ∧ Below w.heap.size w w' := by
  have A := hid awake_call
  have r1 := fun w => refRight_any p w
  rw [rightN_yes hk] at r1
  have R := hid r1
  clear r1 hk
  have S := hid (Stand.begin w p)
  obtain ⟨k, cap, num, den, width, count, keys, slots, every, seg⟩ := p
  dsimp only at *
  go_enter Try.func5, Try.ntmps5
  go_upto_region 1 with fail
  refine abstract_world (fun W => Stand w W ⟨k, cap, num, den, width, count, keys, slots, every, seg⟩) S.out ?_
  clear S
  intro W S0
  have S := hid S0
  clear S0
  obtain ⟨hB, hl, h0, h1, h2, h3, h4, h5, h6, h7, h8, h9⟩ := S.out
  dsimp only at h0 h1 h2 h3 h4 h5 h6 h7 h8 h9
  go_wp2_with fail
  refine (A.out _).mono ?_
  rintro e w1 ⟨rfl, hb⟩
  have S := hid (S.out.on hb)
  clear hb hB hl h0 h1 h2 h3 h4 h5 h6 h7 h8 h9
  obtain ⟨hB, hl, h0, h1, h2, h3, h4, h5, h6, h7, h8, h9⟩ := S.out
  dsimp only at h0 h1 h2 h3 h4 h5 h6 h7 h8 h9
  go_wp2_with fail
  refine (R.out _).mono ?_
  rintro e w2 ⟨rfl, hb⟩
  have S := hid (S.out.on hb)
  clear hb hB hl h0 h1 h2 h3 h4 h5 h6 h7 h8 h9
  obtain ⟨hB, hl, h0, h1, h2, h3, h4, h5, h6, h7, h8, h9⟩ := S.out
  dsimp only at h0 h1 h2 h3 h4 h5 h6 h7 h8 h9
  go_wp2_with fail
  all_goals (go_ret; exact ⟨rfl, hB⟩)

set_option maxHeartbeats 4000000 in
theorem goes_a (p : Pol) (o a b c : Int) (hk : okB p = true) (g1 : (p.k != 1) = false) (g2 : a < 0) (w : World) :
    Calls Try.prog 5 #[.agg #[.int .i64 p.k, .int .i64 p.cap, .int .i64 p.num, .int .i64 p.den, .int .i64 p.width, .int .i64 p.count, .int .i64 p.keys, .int .i64 p.slots, .int .i64 p.every, .int .i64 p.seg], .int .i64 o, .int .i64 a, .int .i64 b, .int .i64 c] w fun e w' => e = .returned (.bool true) ∧ Below w.heap.size w w' := by
  have A := hid awake_call
  have r1 := fun w => refRight_any p w
  rw [rightN_yes hk] at r1
  have R := hid r1
  clear r1 hk
  have S := hid (Stand.begin w p)
  obtain ⟨k, cap, num, den, width, count, keys, slots, every, seg⟩ := p
  dsimp only at *
  go_enter Try.func5, Try.ntmps5
  go_upto_region 1 with fail
  refine abstract_world (fun W => Stand w W ⟨k, cap, num, den, width, count, keys, slots, every, seg⟩) S.out ?_
  clear S
  intro W S0
  have S := hid S0
  clear S0
  obtain ⟨hB, hl, h0, h1, h2, h3, h4, h5, h6, h7, h8, h9⟩ := S.out
  dsimp only at h0 h1 h2 h3 h4 h5 h6 h7 h8 h9
  go_wp2_with fail
  refine (A.out _).mono ?_
  rintro e w1 ⟨rfl, hb⟩
  have S := hid (S.out.on hb)
  clear hb hB hl h0 h1 h2 h3 h4 h5 h6 h7 h8 h9
  obtain ⟨hB, hl, h0, h1, h2, h3, h4, h5, h6, h7, h8, h9⟩ := S.out
  dsimp only at h0 h1 h2 h3 h4 h5 h6 h7 h8 h9
  go_wp2_with fail
  refine (R.out _).mono ?_
  rintro e w2 ⟨rfl, hb⟩
  have S := hid (S.out.on hb)
  clear hb hB hl h0 h1 h2 h3 h4 h5 h6 h7 h8 h9
  obtain ⟨hB, hl, h0, h1, h2, h3, h4, h5, h6, h7, h8, h9⟩ := S.out
  dsimp only at h0 h1 h2 h3 h4 h5 h6 h7 h8 h9
  go_wp2_with fail
  all_goals (go_ret; exact ⟨rfl, hB⟩)

set_option maxHeartbeats 4000000 in
theorem goes_b (p : Pol) (o a b c : Int) (hk : okB p = true) (g1 : (p.k != 1) = false) (g2 : 0 ≤ a) (g3 : b < 0) (w : World) :
    Calls Try.prog 5 #[.agg #[.int .i64 p.k, .int .i64 p.cap, .int .i64 p.num, .int .i64 p.den, .int .i64 p.width, .int .i64 p.count, .int .i64 p.keys, .int .i64 p.slots, .int .i64 p.every, .int .i64 p.seg], .int .i64 o, .int .i64 a, .int .i64 b, .int .i64 c] w fun e w' => e = .returned (.bool true) ∧ Below w.heap.size w w' := by
  have A := hid awake_call
  have r1 := fun w => refRight_any p w
  rw [rightN_yes hk] at r1
  have R := hid r1
  clear r1 hk
  have S := hid (Stand.begin w p)
  obtain ⟨k, cap, num, den, width, count, keys, slots, every, seg⟩ := p
  dsimp only at *
  go_enter Try.func5, Try.ntmps5
  go_upto_region 1 with fail
  refine abstract_world (fun W => Stand w W ⟨k, cap, num, den, width, count, keys, slots, every, seg⟩) S.out ?_
  clear S
  intro W S0
  have S := hid S0
  clear S0
  obtain ⟨hB, hl, h0, h1, h2, h3, h4, h5, h6, h7, h8, h9⟩ := S.out
  dsimp only at h0 h1 h2 h3 h4 h5 h6 h7 h8 h9
  go_wp2_with fail
  refine (A.out _).mono ?_
  rintro e w1 ⟨rfl, hb⟩
  have S := hid (S.out.on hb)
  clear hb hB hl h0 h1 h2 h3 h4 h5 h6 h7 h8 h9
  obtain ⟨hB, hl, h0, h1, h2, h3, h4, h5, h6, h7, h8, h9⟩ := S.out
  dsimp only at h0 h1 h2 h3 h4 h5 h6 h7 h8 h9
  go_wp2_with fail
  refine (R.out _).mono ?_
  rintro e w2 ⟨rfl, hb⟩
  have S := hid (S.out.on hb)
  clear hb hB hl h0 h1 h2 h3 h4 h5 h6 h7 h8 h9
  obtain ⟨hB, hl, h0, h1, h2, h3, h4, h5, h6, h7, h8, h9⟩ := S.out
  dsimp only at h0 h1 h2 h3 h4 h5 h6 h7 h8 h9
  go_wp2_with fail
  all_goals (go_ret; exact ⟨rfl, hB⟩)

set_option maxHeartbeats 4000000 in
theorem goes_far (p : Pol) (o a b c : Int) (hk : okB p = true) (g1 : (p.k != 1) = false) (g2 : 0 ≤ a) (g3 : 0 ≤ b) (g4 : 1099511627776 < b) (w : World) :
    Calls Try.prog 5 #[.agg #[.int .i64 p.k, .int .i64 p.cap, .int .i64 p.num, .int .i64 p.den, .int .i64 p.width, .int .i64 p.count, .int .i64 p.keys, .int .i64 p.slots, .int .i64 p.every, .int .i64 p.seg], .int .i64 o, .int .i64 a, .int .i64 b, .int .i64 c] w fun e w' => e = .returned (.bool true) ∧ Below w.heap.size w w' := by
  have A := hid awake_call
  have r1 := fun w => refRight_any p w
  rw [rightN_yes hk] at r1
  have R := hid r1
  clear r1 hk
  have S := hid (Stand.begin w p)
  obtain ⟨k, cap, num, den, width, count, keys, slots, every, seg⟩ := p
  dsimp only at *
  go_enter Try.func5, Try.ntmps5
  go_upto_region 1 with fail
  refine abstract_world (fun W => Stand w W ⟨k, cap, num, den, width, count, keys, slots, every, seg⟩) S.out ?_
  clear S
  intro W S0
  have S := hid S0
  clear S0
  obtain ⟨hB, hl, h0, h1, h2, h3, h4, h5, h6, h7, h8, h9⟩ := S.out
  dsimp only at h0 h1 h2 h3 h4 h5 h6 h7 h8 h9
  go_wp2_with fail
  refine (A.out _).mono ?_
  rintro e w1 ⟨rfl, hb⟩
  have S := hid (S.out.on hb)
  clear hb hB hl h0 h1 h2 h3 h4 h5 h6 h7 h8 h9
  obtain ⟨hB, hl, h0, h1, h2, h3, h4, h5, h6, h7, h8, h9⟩ := S.out
  dsimp only at h0 h1 h2 h3 h4 h5 h6 h7 h8 h9
  go_wp2_with fail
  refine (R.out _).mono ?_
  rintro e w2 ⟨rfl, hb⟩
  have S := hid (S.out.on hb)
  clear hb hB hl h0 h1 h2 h3 h4 h5 h6 h7 h8 h9
  obtain ⟨hB, hl, h0, h1, h2, h3, h4, h5, h6, h7, h8, h9⟩ := S.out
  dsimp only at h0 h1 h2 h3 h4 h5 h6 h7 h8 h9
  go_wp2_with fail
  all_goals (go_ret; exact ⟨rfl, hB⟩)

set_option maxHeartbeats 4000000 in
theorem goes_sum (p : Pol) (o a b c : Int) (hk : okB p = true) (g1 : (p.k != 1) = false) (g2 : 0 ≤ a) (g3 : 0 ≤ b) (g4 : b ≤ 1099511627776) (g5 : 1099511627776 - b < a) (w : World) :
    Calls Try.prog 5 #[.agg #[.int .i64 p.k, .int .i64 p.cap, .int .i64 p.num, .int .i64 p.den, .int .i64 p.width, .int .i64 p.count, .int .i64 p.keys, .int .i64 p.slots, .int .i64 p.every, .int .i64 p.seg], .int .i64 o, .int .i64 a, .int .i64 b, .int .i64 c] w fun e w' => e = .returned (.bool true) ∧ Below w.heap.size w w' := by
  have A := hid awake_call
  have r1 := fun w => refRight_any p w
  rw [rightN_yes hk] at r1
  have R := hid r1
  clear r1 hk
  have S := hid (Stand.begin w p)
  obtain ⟨k, cap, num, den, width, count, keys, slots, every, seg⟩ := p
  dsimp only at *
  go_enter Try.func5, Try.ntmps5
  go_upto_region 1 with fail
  refine abstract_world (fun W => Stand w W ⟨k, cap, num, den, width, count, keys, slots, every, seg⟩) S.out ?_
  clear S
  intro W S0
  have S := hid S0
  clear S0
  obtain ⟨hB, hl, h0, h1, h2, h3, h4, h5, h6, h7, h8, h9⟩ := S.out
  dsimp only at h0 h1 h2 h3 h4 h5 h6 h7 h8 h9
  go_wp2_with fail
  refine (A.out _).mono ?_
  rintro e w1 ⟨rfl, hb⟩
  have S := hid (S.out.on hb)
  clear hb hB hl h0 h1 h2 h3 h4 h5 h6 h7 h8 h9
  obtain ⟨hB, hl, h0, h1, h2, h3, h4, h5, h6, h7, h8, h9⟩ := S.out
  dsimp only at h0 h1 h2 h3 h4 h5 h6 h7 h8 h9
  go_wp2_with fail
  refine (R.out _).mono ?_
  rintro e w2 ⟨rfl, hb⟩
  have S := hid (S.out.on hb)
  clear hb hB hl h0 h1 h2 h3 h4 h5 h6 h7 h8 h9
  obtain ⟨hB, hl, h0, h1, h2, h3, h4, h5, h6, h7, h8, h9⟩ := S.out
  dsimp only at h0 h1 h2 h3 h4 h5 h6 h7 h8 h9
  go_wp2_with fail
  all_goals (go_ret; exact ⟨rfl, hB⟩)

set_option maxHeartbeats 4000000 in
theorem goes_no (p : Pol) (o a b c : Int) (hk : okB p = true) (g1 : (p.k != 1) = false) (g2 : 0 ≤ a) (g3 : 0 ≤ b) (g4 : a + b ≤ 1099511627776) (he : decayP p (decayP p o a) b = decayP p o (a + b)) (hf : mayP p (decayP p o (a + b)) c = false) (w : World) :
    Calls Try.prog 5 #[.agg #[.int .i64 p.k, .int .i64 p.cap, .int .i64 p.num, .int .i64 p.den, .int .i64 p.width, .int .i64 p.count, .int .i64 p.keys, .int .i64 p.slots, .int .i64 p.every, .int .i64 p.seg], .int .i64 o, .int .i64 a, .int .i64 b, .int .i64 c] w fun e w' => e = .returned (.bool true) ∧ Below w.heap.size w w' := by
  have A := hid awake_call
  have r1 := fun w => refRight_any p w
  rw [rightN_yes hk] at r1
  have R := hid r1
  have d1 := fun w => decay_call p (decayP p o a) b w
  have d2 := fun w => decay_call p o (a + b) w
  rw [he] at d1
  have D0 := hid (fun w => decay_call p o a w)
  have D1 := hid d1
  have D2 := hid d2
  have m1 := fun w => may_call p (decayP p o (a + b)) c w
  rw [hf] at m1
  have M1 := hid m1
  have T1 := hid (fun w => take_call p (decayP p o (a + b)) c w)
  clear r1 d1 d2 m1 he hf hk
  generalize decayP p o a = x at D0 D1
  generalize decayP p o (a + b) = y at D1 D2 M1 T1
  generalize takeP p y c = z at T1
  have S := hid (Stand.begin w p)
  obtain ⟨k, cap, num, den, width, count, keys, slots, every, seg⟩ := p
  dsimp only at *
  go_enter Try.func5, Try.ntmps5
  go_upto_region 1 with fail
  refine abstract_world (fun W => Stand w W ⟨k, cap, num, den, width, count, keys, slots, every, seg⟩) S.out ?_
  clear S
  intro W S0
  have S := hid S0
  clear S0
  obtain ⟨hB, hl, h0, h1, h2, h3, h4, h5, h6, h7, h8, h9⟩ := S.out
  dsimp only at h0 h1 h2 h3 h4 h5 h6 h7 h8 h9
  go_wp2_with fail
  refine (A.out _).mono ?_
  rintro e w1 ⟨rfl, hb⟩
  have S := hid (S.out.on hb)
  clear hb hB hl h0 h1 h2 h3 h4 h5 h6 h7 h8 h9
  obtain ⟨hB, hl, h0, h1, h2, h3, h4, h5, h6, h7, h8, h9⟩ := S.out
  dsimp only at h0 h1 h2 h3 h4 h5 h6 h7 h8 h9
  go_wp2_with fail
  refine (R.out _).mono ?_
  rintro e w2 ⟨rfl, hb⟩
  have S := hid (S.out.on hb)
  clear hb hB hl h0 h1 h2 h3 h4 h5 h6 h7 h8 h9
  obtain ⟨hB, hl, h0, h1, h2, h3, h4, h5, h6, h7, h8, h9⟩ := S.out
  dsimp only at h0 h1 h2 h3 h4 h5 h6 h7 h8 h9
  go_upto_region 5 with fail
  have x0 := fun x : Later w2 => Later.cell (a := ⟨w.heap.size, 0, none⟩) hl h0 x
  have x1 := fun x : Later w2 => Later.cell (a := ⟨w.heap.size, 1, none⟩) hl h1 x
  have x2 := fun x : Later w2 => Later.cell (a := ⟨w.heap.size, 2, none⟩) hl h2 x
  have x3 := fun x : Later w2 => Later.cell (a := ⟨w.heap.size, 3, none⟩) hl h3 x
  have x4 := fun x : Later w2 => Later.cell (a := ⟨w.heap.size, 4, none⟩) hl h4 x
  have x5 := fun x : Later w2 => Later.cell (a := ⟨w.heap.size, 5, none⟩) hl h5 x
  have x6 := fun x : Later w2 => Later.cell (a := ⟨w.heap.size, 6, none⟩) hl h6 x
  have x7 := fun x : Later w2 => Later.cell (a := ⟨w.heap.size, 7, none⟩) hl h7 x
  have x8 := fun x : Later w2 => Later.cell (a := ⟨w.heap.size, 8, none⟩) hl h8 x
  have x9 := fun x : Later w2 => Later.cell (a := ⟨w.heap.size, 9, none⟩) hl h9 x
  clear hB hl h0 h1 h2 h3 h4 h5 h6 h7 h8 h9
  refine wp_region_quiet_later (by kernel_rfl) (by kernel_rfl) ?_
  repeat (go_big_quiet_step ((first | (go_at_call_of 10 (Value.int IntKind.i64 a); refine later_of (v := .int .i64 x) ?_; exact D0.out _) | (go_at_call_of 10 (Value.int IntKind.i64 b); refine later_of (v := .int .i64 y) ?_; exact D1.out _))))
  refine wpQuiet_nil ?_
  intro _ hw'
  obtain ⟨x, hw''⟩ := hw'
  subst hw''
  clear x0 x1 x2 x3 x4 x5 x6 x7 x8 x9
  have hb := x.below
  generalize x.world = w3 at hb
  clear x
  have S := hid (S.out.on hb)
  clear hb
  obtain ⟨hB, hl, h0, h1, h2, h3, h4, h5, h6, h7, h8, h9⟩ := S.out
  dsimp only at h0 h1 h2 h3 h4 h5 h6 h7 h8 h9
  go_wp2_with fail
  refine (D2.out _).mono ?_
  rintro e w4 ⟨rfl, hb⟩
  have S := hid (S.out.on hb)
  clear hb hB hl h0 h1 h2 h3 h4 h5 h6 h7 h8 h9
  obtain ⟨hB, hl, h0, h1, h2, h3, h4, h5, h6, h7, h8, h9⟩ := S.out
  dsimp only at h0 h1 h2 h3 h4 h5 h6 h7 h8 h9
  go_wp2_with fail
  refine (M1.out _).mono ?_
  rintro e w5 ⟨rfl, hb⟩
  have S := hid (S.out.on hb)
  clear hb hB hl h0 h1 h2 h3 h4 h5 h6 h7 h8 h9
  obtain ⟨hB, hl, h0, h1, h2, h3, h4, h5, h6, h7, h8, h9⟩ := S.out
  dsimp only at h0 h1 h2 h3 h4 h5 h6 h7 h8 h9
  go_wp2_with fail
  refine (T1.out _).mono ?_
  rintro e w6 ⟨rfl, hb⟩
  have S := hid (S.out.on hb)
  clear hb hB hl h0 h1 h2 h3 h4 h5 h6 h7 h8 h9
  obtain ⟨hB, hl, h0, h1, h2, h3, h4, h5, h6, h7, h8, h9⟩ := S.out
  dsimp only at h0 h1 h2 h3 h4 h5 h6 h7 h8 h9
  go_wp2_with fail
  all_goals (go_ret; exact ⟨rfl, hB⟩)

set_option maxHeartbeats 4000000 in
theorem goes_yes (p : Pol) (o a b c : Int) (hk : okB p = true) (g1 : (p.k != 1) = false) (g2 : 0 ≤ a) (g3 : 0 ≤ b) (g4 : a + b ≤ 1099511627776) (he : decayP p (decayP p o a) b = decayP p o (a + b)) (hf : mayP p (decayP p o (a + b)) c = true) (w : World) :
    Calls Try.prog 5 #[.agg #[.int .i64 p.k, .int .i64 p.cap, .int .i64 p.num, .int .i64 p.den, .int .i64 p.width, .int .i64 p.count, .int .i64 p.keys, .int .i64 p.slots, .int .i64 p.every, .int .i64 p.seg], .int .i64 o, .int .i64 a, .int .i64 b, .int .i64 c] w fun e w' => e = .returned (.bool true) ∧ Below w.heap.size w w' := by
  have A := hid awake_call
  have r1 := fun w => refRight_any p w
  rw [rightN_yes hk] at r1
  have R := hid r1
  have d1 := fun w => decay_call p (decayP p o a) b w
  have d2 := fun w => decay_call p o (a + b) w
  rw [he] at d1
  have D0 := hid (fun w => decay_call p o a w)
  have D1 := hid d1
  have D2 := hid d2
  have m1 := fun w => may_call p (decayP p o (a + b)) c w
  rw [hf] at m1
  have by_ := decayP_bounds p o (a + b)
  obtain ⟨t1, t2, t3, t4⟩ := take_may by_.1 by_.2 hf
  have hm : meansB p = true := by simp only [mayP, Bool.and_eq_true] at hf; exact hf.1
  obtain ⟨-, hcap, -, hden⟩ := meansB_bounds hm
  have bp := mul_bounds (show 0 ≤ c by omega) t4 (show 0 ≤ p.den by omega) hden.2
  have bq := mul_bounds (show 0 ≤ p.cap by omega) hcap.2 (show 0 ≤ p.den by omega) hden.2
  have t5 := fun w => take_call p (decayP p o (a + b)) c w
  rw [t1] at t5
  have M1 := hid m1
  have T1 := hid t5
  clear r1 d1 d2 m1 he hf hk t1 t5 hm
  generalize decayP p o a = x at D0 D1
  generalize decayP p o (a + b) = y at D1 D2 M1 T1 by_ t2
  have S := hid (Stand.begin w p)
  obtain ⟨k, cap, num, den, width, count, keys, slots, every, seg⟩ := p
  dsimp only at *
  go_enter Try.func5, Try.ntmps5
  go_upto_region 1 with fail
  refine abstract_world (fun W => Stand w W ⟨k, cap, num, den, width, count, keys, slots, every, seg⟩) S.out ?_
  clear S
  intro W S0
  have S := hid S0
  clear S0
  obtain ⟨hB, hl, h0, h1, h2, h3, h4, h5, h6, h7, h8, h9⟩ := S.out
  dsimp only at h0 h1 h2 h3 h4 h5 h6 h7 h8 h9
  go_wp2_with fail
  refine (A.out _).mono ?_
  rintro e w1 ⟨rfl, hb⟩
  have S := hid (S.out.on hb)
  clear hb hB hl h0 h1 h2 h3 h4 h5 h6 h7 h8 h9
  obtain ⟨hB, hl, h0, h1, h2, h3, h4, h5, h6, h7, h8, h9⟩ := S.out
  dsimp only at h0 h1 h2 h3 h4 h5 h6 h7 h8 h9
  go_wp2_with fail
  refine (R.out _).mono ?_
  rintro e w2 ⟨rfl, hb⟩
  have S := hid (S.out.on hb)
  clear hb hB hl h0 h1 h2 h3 h4 h5 h6 h7 h8 h9
  obtain ⟨hB, hl, h0, h1, h2, h3, h4, h5, h6, h7, h8, h9⟩ := S.out
  dsimp only at h0 h1 h2 h3 h4 h5 h6 h7 h8 h9
  go_upto_region 5 with fail
  have x0 := fun x : Later w2 => Later.cell (a := ⟨w.heap.size, 0, none⟩) hl h0 x
  have x1 := fun x : Later w2 => Later.cell (a := ⟨w.heap.size, 1, none⟩) hl h1 x
  have x2 := fun x : Later w2 => Later.cell (a := ⟨w.heap.size, 2, none⟩) hl h2 x
  have x3 := fun x : Later w2 => Later.cell (a := ⟨w.heap.size, 3, none⟩) hl h3 x
  have x4 := fun x : Later w2 => Later.cell (a := ⟨w.heap.size, 4, none⟩) hl h4 x
  have x5 := fun x : Later w2 => Later.cell (a := ⟨w.heap.size, 5, none⟩) hl h5 x
  have x6 := fun x : Later w2 => Later.cell (a := ⟨w.heap.size, 6, none⟩) hl h6 x
  have x7 := fun x : Later w2 => Later.cell (a := ⟨w.heap.size, 7, none⟩) hl h7 x
  have x8 := fun x : Later w2 => Later.cell (a := ⟨w.heap.size, 8, none⟩) hl h8 x
  have x9 := fun x : Later w2 => Later.cell (a := ⟨w.heap.size, 9, none⟩) hl h9 x
  clear hB hl h0 h1 h2 h3 h4 h5 h6 h7 h8 h9
  refine wp_region_quiet_later (by kernel_rfl) (by kernel_rfl) ?_
  repeat (go_big_quiet_step ((first | (go_at_call_of 10 (Value.int IntKind.i64 a); refine later_of (v := .int .i64 x) ?_; exact D0.out _) | (go_at_call_of 10 (Value.int IntKind.i64 b); refine later_of (v := .int .i64 y) ?_; exact D1.out _))))
  refine wpQuiet_nil ?_
  intro _ hw'
  obtain ⟨x, hw''⟩ := hw'
  subst hw''
  clear x0 x1 x2 x3 x4 x5 x6 x7 x8 x9
  have hb := x.below
  generalize x.world = w3 at hb
  clear x
  have S := hid (S.out.on hb)
  clear hb
  obtain ⟨hB, hl, h0, h1, h2, h3, h4, h5, h6, h7, h8, h9⟩ := S.out
  dsimp only at h0 h1 h2 h3 h4 h5 h6 h7 h8 h9
  go_wp2_with fail
  refine (D2.out _).mono ?_
  rintro e w4 ⟨rfl, hb⟩
  have S := hid (S.out.on hb)
  clear hb hB hl h0 h1 h2 h3 h4 h5 h6 h7 h8 h9
  obtain ⟨hB, hl, h0, h1, h2, h3, h4, h5, h6, h7, h8, h9⟩ := S.out
  dsimp only at h0 h1 h2 h3 h4 h5 h6 h7 h8 h9
  go_wp2_with fail
  refine (M1.out _).mono ?_
  rintro e w5 ⟨rfl, hb⟩
  have S := hid (S.out.on hb)
  clear hb hB hl h0 h1 h2 h3 h4 h5 h6 h7 h8 h9
  obtain ⟨hB, hl, h0, h1, h2, h3, h4, h5, h6, h7, h8, h9⟩ := S.out
  dsimp only at h0 h1 h2 h3 h4 h5 h6 h7 h8 h9
  go_wp2_with fail
  refine (T1.out _).mono ?_
  rintro e w6 ⟨rfl, hb⟩
  have S := hid (S.out.on hb)
  clear hb hB hl h0 h1 h2 h3 h4 h5 h6 h7 h8 h9
  obtain ⟨hB, hl, h0, h1, h2, h3, h4, h5, h6, h7, h8, h9⟩ := S.out
  dsimp only at h0 h1 h2 h3 h4 h5 h6 h7 h8 h9
  go_wp2_with fail
  go_ret
  exact ⟨rfl, hB⟩

theorem goes_walk (p : Pol) (o a b c : Int) (w : World) :
    Calls Try.prog 5 #[.agg #[.int .i64 p.k, .int .i64 p.cap, .int .i64 p.num, .int .i64 p.den, .int .i64 p.width, .int .i64 p.count, .int .i64 p.keys, .int .i64 p.slots, .int .i64 p.every, .int .i64 p.seg], .int .i64 o, .int .i64 a, .int .i64 b, .int .i64 c] w fun e w' => e = .returned (.bool true) ∧ Below w.heap.size w w' := by
  cases hk : okB p with
  | false => exact goes_not p o a b c hk w
  | true =>
    cases h1 : (p.k != 1) with
    | true => exact goes_kind p o a b c hk h1 w
    | false =>
      by_cases h2 : a < 0
      · exact goes_a p o a b c hk h1 h2 w
      · by_cases h3 : b < 0
        · exact goes_b p o a b c hk h1 (by omega) h3 w
        · by_cases h4 : 1099511627776 < b
          · exact goes_far p o a b c hk h1 (by omega) (by omega) h4 w
          · by_cases h5 : 1099511627776 - b < a
            · exact goes_sum p o a b c hk h1 (by omega) (by omega) (by omega) h5 w
            · have hm : meansB p = true := meansB_yes (by simpa using h1) hk
              have he := decayP_two hm (o := o) (a := a) (b := b) (by omega) (by omega) (by omega)
              cases hf : mayP p (decayP p o (a + b)) c with
              | false => exact goes_no p o a b c hk h1 (by omega) (by omega) (by omega) he hf w
              | true => exact goes_yes p o a b c hk h1 (by omega) (by omega) (by omega) he hf w

end Go.Proofs.Ytlhnlickmjdjfaa
