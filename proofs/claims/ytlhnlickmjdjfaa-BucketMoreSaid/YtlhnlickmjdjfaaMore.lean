/- The law BucketMore: less is easier, later is easier. -/
import Derived.Test.YtlhnlickmjdjfaaU
import Derived.Test.YtlhnlickmjdjfaaY
namespace Go.Proofs.Ytlhnlickmjdjfaa
open Go.RowKit

set_option maxHeartbeats 4000000 in
theorem more_less (p : Pol) (o l c f t : Int) (g1 : o < l) (w : World) :
    Calls Try.prog 7 #[.agg #[.int .i64 p.k, .int .i64 p.cap, .int .i64 p.num, .int .i64 p.den, .int .i64 p.width, .int .i64 p.count, .int .i64 p.keys, .int .i64 p.slots, .int .i64 p.every, .int .i64 p.seg], .int .i64 o, .int .i64 l, .int .i64 c, .int .i64 f, .int .i64 t] w fun e w' => e = .returned (.bool true) ∧ Below w.heap.size w w' := by
  have A := hid awake_call
  have S := hid (Stand.begin w p)
  obtain ⟨k, cap, num, den, width, count, keys, slots, every, seg⟩ := p
  dsimp only at *
  go_enter Try.func7, Try.ntmps7
  go_upto_region 1 with fail
  refine abstract_world (fun W => Stand w W ⟨k, cap, num, den, width, count, keys, slots, every, seg⟩) S.out ?_
  clear S
  intro W S0
  have S := hid S0
  clear S0
  obtain ⟨hB, hl, h0, h1, h2, h3, h4, h5, h6, h7, h8, h9⟩ := S.out
  dsimp only at h0 h1 h2 h3 h4 h5 h6 h7 h8 h9
  go_wp2_with fail
  refine (A.out _).mono ?_
  rintro e w1 ⟨rfl, hb⟩
  have S := hid (S.out.on hb)
  clear hb hB hl h0 h1 h2 h3 h4 h5 h6 h7 h8 h9
  obtain ⟨hB, hl, h0, h1, h2, h3, h4, h5, h6, h7, h8, h9⟩ := S.out
  dsimp only at h0 h1 h2 h3 h4 h5 h6 h7 h8 h9
  go_wp2_with fail
  all_goals (go_ret; exact ⟨rfl, hB⟩)

set_option maxHeartbeats 4000000 in
theorem more_cost (p : Pol) (o l c f t : Int) (g1 : l ≤ o) (g2 : c < f) (w : World) :
    Calls Try.prog 7 #[.agg #[.int .i64 p.k, .int .i64 p.cap, .int .i64 p.num, .int .i64 p.den, .int .i64 p.width, .int .i64 p.count, .int .i64 p.keys, .int .i64 p.slots, .int .i64 p.every, .int .i64 p.seg], .int .i64 o, .int .i64 l, .int .i64 c, .int .i64 f, .int .i64 t] w fun e w' => e = .returned (.bool true) ∧ Below w.heap.size w w' := by
  have A := hid awake_call
  have S := hid (Stand.begin w p)
  obtain ⟨k, cap, num, den, width, count, keys, slots, every, seg⟩ := p
  dsimp only at *
  go_enter Try.func7, Try.ntmps7
  go_upto_region 1 with fail
  refine abstract_world (fun W => Stand w W ⟨k, cap, num, den, width, count, keys, slots, every, seg⟩) S.out ?_
  clear S
  intro W S0
  have S := hid S0
  clear S0
  obtain ⟨hB, hl, h0, h1, h2, h3, h4, h5, h6, h7, h8, h9⟩ := S.out
  dsimp only at h0 h1 h2 h3 h4 h5 h6 h7 h8 h9
  go_wp2_with fail
  refine (A.out _).mono ?_
  rintro e w1 ⟨rfl, hb⟩
  have S := hid (S.out.on hb)
  clear hb hB hl h0 h1 h2 h3 h4 h5 h6 h7 h8 h9
  obtain ⟨hB, hl, h0, h1, h2, h3, h4, h5, h6, h7, h8, h9⟩ := S.out
  dsimp only at h0 h1 h2 h3 h4 h5 h6 h7 h8 h9
  go_wp2_with fail
  all_goals (go_ret; exact ⟨rfl, hB⟩)

set_option maxHeartbeats 4000000 in
theorem more_few (p : Pol) (o l c f t : Int) (g1 : l ≤ o) (g2 : f ≤ c) (g3 : f < 1) (w : World) :
    Calls Try.prog 7 #[.agg #[.int .i64 p.k, .int .i64 p.cap, .int .i64 p.num, .int .i64 p.den, .int .i64 p.width, .int .i64 p.count, .int .i64 p.keys, .int .i64 p.slots, .int .i64 p.every, .int .i64 p.seg], .int .i64 o, .int .i64 l, .int .i64 c, .int .i64 f, .int .i64 t] w fun e w' => e = .returned (.bool true) ∧ Below w.heap.size w w' := by
  have A := hid awake_call
  have S := hid (Stand.begin w p)
  obtain ⟨k, cap, num, den, width, count, keys, slots, every, seg⟩ := p
  dsimp only at *
  go_enter Try.func7, Try.ntmps7
  go_upto_region 1 with fail
  refine abstract_world (fun W => Stand w W ⟨k, cap, num, den, width, count, keys, slots, every, seg⟩) S.out ?_
  clear S
  intro W S0
  have S := hid S0
  clear S0
  obtain ⟨hB, hl, h0, h1, h2, h3, h4, h5, h6, h7, h8, h9⟩ := S.out
  dsimp only at h0 h1 h2 h3 h4 h5 h6 h7 h8 h9
  go_wp2_with fail
  refine (A.out _).mono ?_
  rintro e w1 ⟨rfl, hb⟩
  have S := hid (S.out.on hb)
  clear hb hB hl h0 h1 h2 h3 h4 h5 h6 h7 h8 h9
  obtain ⟨hB, hl, h0, h1, h2, h3, h4, h5, h6, h7, h8, h9⟩ := S.out
  dsimp only at h0 h1 h2 h3 h4 h5 h6 h7 h8 h9
  go_wp2_with fail
  all_goals (go_ret; exact ⟨rfl, hB⟩)

set_option maxHeartbeats 4000000 in
theorem more_tn (p : Pol) (o l c f t : Int) (g1 : l ≤ o) (g2 : f ≤ c) (g3 : 1 ≤ f) (e1 : mayP p o c = true) (e2 : mayP p o f = true) (e3 : mayP p l c = true) (e4 : mayP p (decayP p o t) c = true) (k1 : whenP p o c < 0) (w : World) :
    Calls Try.prog 7 #[.agg #[.int .i64 p.k, .int .i64 p.cap, .int .i64 p.num, .int .i64 p.den, .int .i64 p.width, .int .i64 p.count, .int .i64 p.keys, .int .i64 p.slots, .int .i64 p.every, .int .i64 p.seg], .int .i64 o, .int .i64 l, .int .i64 c, .int .i64 f, .int .i64 t] w fun e w' => e = .returned (.bool true) ∧ Below w.heap.size w w' := by
  have A := hid awake_call
  have m1 := fun w => may_call p o c w
  have m2 := fun w => may_call p o f w
  have m3 := fun w => may_call p l c w
  have m4 := fun w => may_call p (decayP p o t) c w
  rw [e1] at m1
  rw [e2] at m2
  rw [e3] at m3
  rw [e4] at m4
  have M1 := hid m1
  have M2 := hid m2
  have M3 := hid m3
  have M4 := hid m4
  have D1 := hid (fun w => decay_call p o t w)
  have W1 := hid (fun w => when_call p o c w)
  have W2 := hid (fun w => when_call p o f w)
  have W3 := hid (fun w => when_call p l c w)
  clear m1 m2 m3 m4 e1 e2 e3 e4
  generalize decayP p o t = x at D1 M4
  generalize whenP p o c = t1 at W1 k1
  generalize whenP p o f = t2 at W2
  generalize whenP p l c = t3 at W3
  have S := hid (Stand.begin w p)
  obtain ⟨k, cap, num, den, width, count, keys, slots, every, seg⟩ := p
  dsimp only at *
  go_enter Try.func7, Try.ntmps7
  go_upto_region 1 with fail
  refine abstract_world (fun W => Stand w W ⟨k, cap, num, den, width, count, keys, slots, every, seg⟩) S.out ?_
  clear S
  intro W S0
  have S := hid S0
  clear S0
  obtain ⟨hB, hl, h0, h1, h2, h3, h4, h5, h6, h7, h8, h9⟩ := S.out
  dsimp only at h0 h1 h2 h3 h4 h5 h6 h7 h8 h9
  go_wp2_with fail
  refine (A.out _).mono ?_
  rintro e w1 ⟨rfl, hb⟩
  have S := hid (S.out.on hb)
  clear hb hB hl h0 h1 h2 h3 h4 h5 h6 h7 h8 h9
  obtain ⟨hB, hl, h0, h1, h2, h3, h4, h5, h6, h7, h8, h9⟩ := S.out
  dsimp only at h0 h1 h2 h3 h4 h5 h6 h7 h8 h9
  go_wp2_with fail
  refine (M1.out _).mono ?_
  rintro e w2 ⟨rfl, hb⟩
  have S := hid (S.out.on hb)
  clear hb hB hl h0 h1 h2 h3 h4 h5 h6 h7 h8 h9
  obtain ⟨hB, hl, h0, h1, h2, h3, h4, h5, h6, h7, h8, h9⟩ := S.out
  dsimp only at h0 h1 h2 h3 h4 h5 h6 h7 h8 h9
  go_wp2_with fail
  refine (M2.out _).mono ?_
  rintro e w3 ⟨rfl, hb⟩
  have S := hid (S.out.on hb)
  clear hb hB hl h0 h1 h2 h3 h4 h5 h6 h7 h8 h9
  obtain ⟨hB, hl, h0, h1, h2, h3, h4, h5, h6, h7, h8, h9⟩ := S.out
  dsimp only at h0 h1 h2 h3 h4 h5 h6 h7 h8 h9
  go_wp2_with fail
  refine (M3.out _).mono ?_
  rintro e w4 ⟨rfl, hb⟩
  have S := hid (S.out.on hb)
  clear hb hB hl h0 h1 h2 h3 h4 h5 h6 h7 h8 h9
  obtain ⟨hB, hl, h0, h1, h2, h3, h4, h5, h6, h7, h8, h9⟩ := S.out
  dsimp only at h0 h1 h2 h3 h4 h5 h6 h7 h8 h9
  go_upto_region 7 with fail
  have x0 := fun x : Later w4 => Later.cell (a := ⟨w.heap.size, 0, none⟩) hl h0 x
  have x1 := fun x : Later w4 => Later.cell (a := ⟨w.heap.size, 1, none⟩) hl h1 x
  have x2 := fun x : Later w4 => Later.cell (a := ⟨w.heap.size, 2, none⟩) hl h2 x
  have x3 := fun x : Later w4 => Later.cell (a := ⟨w.heap.size, 3, none⟩) hl h3 x
  have x4 := fun x : Later w4 => Later.cell (a := ⟨w.heap.size, 4, none⟩) hl h4 x
  have x5 := fun x : Later w4 => Later.cell (a := ⟨w.heap.size, 5, none⟩) hl h5 x
  have x6 := fun x : Later w4 => Later.cell (a := ⟨w.heap.size, 6, none⟩) hl h6 x
  have x7 := fun x : Later w4 => Later.cell (a := ⟨w.heap.size, 7, none⟩) hl h7 x
  have x8 := fun x : Later w4 => Later.cell (a := ⟨w.heap.size, 8, none⟩) hl h8 x
  have x9 := fun x : Later w4 => Later.cell (a := ⟨w.heap.size, 9, none⟩) hl h9 x
  clear hB hl h0 h1 h2 h3 h4 h5 h6 h7 h8 h9
  refine wp_region_quiet_later (by kernel_rfl) (by kernel_rfl) ?_
  repeat (go_big_quiet_step ((first | (go_at_call 10; refine later_of (v := .int .i64 x) ?_; exact D1.out _) | (go_at_call 11; refine later_of (v := .bool true) ?_; exact M4.out _))))
  refine wpQuiet_nil ?_
  intro _ hw'
  obtain ⟨x, hw''⟩ := hw'
  subst hw''
  clear x0 x1 x2 x3 x4 x5 x6 x7 x8 x9
  have hb := x.below
  generalize x.world = w5 at hb
  clear x
  have S := hid (S.out.on hb)
  clear hb
  obtain ⟨hB, hl, h0, h1, h2, h3, h4, h5, h6, h7, h8, h9⟩ := S.out
  dsimp only at h0 h1 h2 h3 h4 h5 h6 h7 h8 h9
  go_wp2_with fail
  refine (W1.out _).mono ?_
  rintro e w6 ⟨rfl, hb⟩
  have S := hid (S.out.on hb)
  clear hb hB hl h0 h1 h2 h3 h4 h5 h6 h7 h8 h9
  obtain ⟨hB, hl, h0, h1, h2, h3, h4, h5, h6, h7, h8, h9⟩ := S.out
  dsimp only at h0 h1 h2 h3 h4 h5 h6 h7 h8 h9
  go_wp2_with fail
  refine (W2.out _).mono ?_
  rintro e w7 ⟨rfl, hb⟩
  have S := hid (S.out.on hb)
  clear hb hB hl h0 h1 h2 h3 h4 h5 h6 h7 h8 h9
  obtain ⟨hB, hl, h0, h1, h2, h3, h4, h5, h6, h7, h8, h9⟩ := S.out
  dsimp only at h0 h1 h2 h3 h4 h5 h6 h7 h8 h9
  go_wp2_with fail
  refine (W3.out _).mono ?_
  rintro e w8 ⟨rfl, hb⟩
  have S := hid (S.out.on hb)
  clear hb hB hl h0 h1 h2 h3 h4 h5 h6 h7 h8 h9
  obtain ⟨hB, hl, h0, h1, h2, h3, h4, h5, h6, h7, h8, h9⟩ := S.out
  dsimp only at h0 h1 h2 h3 h4 h5 h6 h7 h8 h9
  go_wp2_with fail
  all_goals (go_ret; exact ⟨rfl, hB⟩)

set_option maxHeartbeats 4000000 in
theorem more_ty (p : Pol) (o l c f t : Int) (g1 : l ≤ o) (g2 : f ≤ c) (g3 : 1 ≤ f) (e1 : mayP p o c = true) (e2 : mayP p o f = true) (e3 : mayP p l c = true) (e4 : mayP p (decayP p o t) c = true) (k1 : 0 ≤ whenP p o c) (k2 : 0 ≤ whenP p o f) (k3 : whenP p o f ≤ whenP p o c) (k4 : 0 ≤ whenP p l c) (k5 : whenP p l c ≤ whenP p o c) (w : World) :
    Calls Try.prog 7 #[.agg #[.int .i64 p.k, .int .i64 p.cap, .int .i64 p.num, .int .i64 p.den, .int .i64 p.width, .int .i64 p.count, .int .i64 p.keys, .int .i64 p.slots, .int .i64 p.every, .int .i64 p.seg], .int .i64 o, .int .i64 l, .int .i64 c, .int .i64 f, .int .i64 t] w fun e w' => e = .returned (.bool true) ∧ Below w.heap.size w w' := by
  have A := hid awake_call
  have m1 := fun w => may_call p o c w
  have m2 := fun w => may_call p o f w
  have m3 := fun w => may_call p l c w
  have m4 := fun w => may_call p (decayP p o t) c w
  rw [e1] at m1
  rw [e2] at m2
  rw [e3] at m3
  rw [e4] at m4
  have M1 := hid m1
  have M2 := hid m2
  have M3 := hid m3
  have M4 := hid m4
  have D1 := hid (fun w => decay_call p o t w)
  have W1 := hid (fun w => when_call p o c w)
  have W2 := hid (fun w => when_call p o f w)
  have W3 := hid (fun w => when_call p l c w)
  clear m1 m2 m3 m4 e1 e2 e3 e4
  generalize decayP p o t = x at D1 M4
  generalize whenP p o c = t1 at W1 k1 k2 k3 k4 k5
  generalize whenP p o f = t2 at W2 k2 k3
  generalize whenP p l c = t3 at W3 k4 k5
  have S := hid (Stand.begin w p)
  obtain ⟨k, cap, num, den, width, count, keys, slots, every, seg⟩ := p
  dsimp only at *
  go_enter Try.func7, Try.ntmps7
  go_upto_region 1 with fail
  refine abstract_world (fun W => Stand w W ⟨k, cap, num, den, width, count, keys, slots, every, seg⟩) S.out ?_
  clear S
  intro W S0
  have S := hid S0
  clear S0
  obtain ⟨hB, hl, h0, h1, h2, h3, h4, h5, h6, h7, h8, h9⟩ := S.out
  dsimp only at h0 h1 h2 h3 h4 h5 h6 h7 h8 h9
  go_wp2_with fail
  refine (A.out _).mono ?_
  rintro e w1 ⟨rfl, hb⟩
  have S := hid (S.out.on hb)
  clear hb hB hl h0 h1 h2 h3 h4 h5 h6 h7 h8 h9
  obtain ⟨hB, hl, h0, h1, h2, h3, h4, h5, h6, h7, h8, h9⟩ := S.out
  dsimp only at h0 h1 h2 h3 h4 h5 h6 h7 h8 h9
  go_wp2_with fail
  refine (M1.out _).mono ?_
  rintro e w2 ⟨rfl, hb⟩
  have S := hid (S.out.on hb)
  clear hb hB hl h0 h1 h2 h3 h4 h5 h6 h7 h8 h9
  obtain ⟨hB, hl, h0, h1, h2, h3, h4, h5, h6, h7, h8, h9⟩ := S.out
  dsimp only at h0 h1 h2 h3 h4 h5 h6 h7 h8 h9
  go_wp2_with fail
  refine (M2.out _).mono ?_
  rintro e w3 ⟨rfl, hb⟩
  have S := hid (S.out.on hb)
  clear hb hB hl h0 h1 h2 h3 h4 h5 h6 h7 h8 h9
  obtain ⟨hB, hl, h0, h1, h2, h3, h4, h5, h6, h7, h8, h9⟩ := S.out
  dsimp only at h0 h1 h2 h3 h4 h5 h6 h7 h8 h9
  go_wp2_with fail
  refine (M3.out _).mono ?_
  rintro e w4 ⟨rfl, hb⟩
  have S := hid (S.out.on hb)
  clear hb hB hl h0 h1 h2 h3 h4 h5 h6 h7 h8 h9
  obtain ⟨hB, hl, h0, h1, h2, h3, h4, h5, h6, h7, h8, h9⟩ := S.out
  dsimp only at h0 h1 h2 h3 h4 h5 h6 h7 h8 h9
  go_upto_region 7 with fail
  have x0 := fun x : Later w4 => Later.cell (a := ⟨w.heap.size, 0, none⟩) hl h0 x
  have x1 := fun x : Later w4 => Later.cell (a := ⟨w.heap.size, 1, none⟩) hl h1 x
  have x2 := fun x : Later w4 => Later.cell (a := ⟨w.heap.size, 2, none⟩) hl h2 x
  have x3 := fun x : Later w4 => Later.cell (a := ⟨w.heap.size, 3, none⟩) hl h3 x
  have x4 := fun x : Later w4 => Later.cell (a := ⟨w.heap.size, 4, none⟩) hl h4 x
  have x5 := fun x : Later w4 => Later.cell (a := ⟨w.heap.size, 5, none⟩) hl h5 x
  have x6 := fun x : Later w4 => Later.cell (a := ⟨w.heap.size, 6, none⟩) hl h6 x
  have x7 := fun x : Later w4 => Later.cell (a := ⟨w.heap.size, 7, none⟩) hl h7 x
  have x8 := fun x : Later w4 => Later.cell (a := ⟨w.heap.size, 8, none⟩) hl h8 x
  have x9 := fun x : Later w4 => Later.cell (a := ⟨w.heap.size, 9, none⟩) hl h9 x
  clear hB hl h0 h1 h2 h3 h4 h5 h6 h7 h8 h9
  refine wp_region_quiet_later (by kernel_rfl) (by kernel_rfl) ?_
  repeat (go_big_quiet_step ((first | (go_at_call 10; refine later_of (v := .int .i64 x) ?_; exact D1.out _) | (go_at_call 11; refine later_of (v := .bool true) ?_; exact M4.out _))))
  refine wpQuiet_nil ?_
  intro _ hw'
  obtain ⟨x, hw''⟩ := hw'
  subst hw''
  clear x0 x1 x2 x3 x4 x5 x6 x7 x8 x9
  have hb := x.below
  generalize x.world = w5 at hb
  clear x
  have S := hid (S.out.on hb)
  clear hb
  obtain ⟨hB, hl, h0, h1, h2, h3, h4, h5, h6, h7, h8, h9⟩ := S.out
  dsimp only at h0 h1 h2 h3 h4 h5 h6 h7 h8 h9
  go_wp2_with fail
  refine (W1.out _).mono ?_
  rintro e w6 ⟨rfl, hb⟩
  have S := hid (S.out.on hb)
  clear hb hB hl h0 h1 h2 h3 h4 h5 h6 h7 h8 h9
  obtain ⟨hB, hl, h0, h1, h2, h3, h4, h5, h6, h7, h8, h9⟩ := S.out
  dsimp only at h0 h1 h2 h3 h4 h5 h6 h7 h8 h9
  go_wp2_with fail
  refine (W2.out _).mono ?_
  rintro e w7 ⟨rfl, hb⟩
  have S := hid (S.out.on hb)
  clear hb hB hl h0 h1 h2 h3 h4 h5 h6 h7 h8 h9
  obtain ⟨hB, hl, h0, h1, h2, h3, h4, h5, h6, h7, h8, h9⟩ := S.out
  dsimp only at h0 h1 h2 h3 h4 h5 h6 h7 h8 h9
  go_wp2_with fail
  refine (W3.out _).mono ?_
  rintro e w8 ⟨rfl, hb⟩
  have S := hid (S.out.on hb)
  clear hb hB hl h0 h1 h2 h3 h4 h5 h6 h7 h8 h9
  obtain ⟨hB, hl, h0, h1, h2, h3, h4, h5, h6, h7, h8, h9⟩ := S.out
  dsimp only at h0 h1 h2 h3 h4 h5 h6 h7 h8 h9
  go_wp2_with fail
  all_goals (go_ret; exact ⟨rfl, hB⟩)

set_option maxHeartbeats 4000000 in
theorem more_fn (p : Pol) (o l c f t : Int) (g1 : l ≤ o) (g2 : f ≤ c) (g3 : 1 ≤ f) (e1 : mayP p o c = false) (k1 : whenP p o c < 0) (w : World) :
    Calls Try.prog 7 #[.agg #[.int .i64 p.k, .int .i64 p.cap, .int .i64 p.num, .int .i64 p.den, .int .i64 p.width, .int .i64 p.count, .int .i64 p.keys, .int .i64 p.slots, .int .i64 p.every, .int .i64 p.seg], .int .i64 o, .int .i64 l, .int .i64 c, .int .i64 f, .int .i64 t] w fun e w' => e = .returned (.bool true) ∧ Below w.heap.size w w' := by
  have A := hid awake_call
  have m1 := fun w => may_call p o c w
  have m2 := fun w => may_call p o f w
  have m3 := fun w => may_call p l c w
  have m4 := fun w => may_call p (decayP p o t) c w
  rw [e1] at m1
  have M1 := hid m1
  have M2 := hid m2
  have M3 := hid m3
  have M4 := hid m4
  have D1 := hid (fun w => decay_call p o t w)
  have W1 := hid (fun w => when_call p o c w)
  have W2 := hid (fun w => when_call p o f w)
  have W3 := hid (fun w => when_call p l c w)
  clear m1 m2 m3 m4 e1
  generalize mayP p o f = a at M2
  generalize mayP p l c = b at M3
  generalize mayP p (decayP p o t) c = d at M4
  generalize decayP p o t = x at D1 M4
  generalize whenP p o c = t1 at W1 k1
  generalize whenP p o f = t2 at W2
  generalize whenP p l c = t3 at W3
  have S := hid (Stand.begin w p)
  obtain ⟨k, cap, num, den, width, count, keys, slots, every, seg⟩ := p
  dsimp only at *
  go_enter Try.func7, Try.ntmps7
  go_upto_region 1 with fail
  refine abstract_world (fun W => Stand w W ⟨k, cap, num, den, width, count, keys, slots, every, seg⟩) S.out ?_
  clear S
  intro W S0
  have S := hid S0
  clear S0
  obtain ⟨hB, hl, h0, h1, h2, h3, h4, h5, h6, h7, h8, h9⟩ := S.out
  dsimp only at h0 h1 h2 h3 h4 h5 h6 h7 h8 h9
  go_wp2_with fail
  refine (A.out _).mono ?_
  rintro e w1 ⟨rfl, hb⟩
  have S := hid (S.out.on hb)
  clear hb hB hl h0 h1 h2 h3 h4 h5 h6 h7 h8 h9
  obtain ⟨hB, hl, h0, h1, h2, h3, h4, h5, h6, h7, h8, h9⟩ := S.out
  dsimp only at h0 h1 h2 h3 h4 h5 h6 h7 h8 h9
  go_wp2_with fail
  refine (M1.out _).mono ?_
  rintro e w2 ⟨rfl, hb⟩
  have S := hid (S.out.on hb)
  clear hb hB hl h0 h1 h2 h3 h4 h5 h6 h7 h8 h9
  obtain ⟨hB, hl, h0, h1, h2, h3, h4, h5, h6, h7, h8, h9⟩ := S.out
  dsimp only at h0 h1 h2 h3 h4 h5 h6 h7 h8 h9
  go_wp2_with fail
  refine (M2.out _).mono ?_
  rintro e w3 ⟨rfl, hb⟩
  have S := hid (S.out.on hb)
  clear hb hB hl h0 h1 h2 h3 h4 h5 h6 h7 h8 h9
  obtain ⟨hB, hl, h0, h1, h2, h3, h4, h5, h6, h7, h8, h9⟩ := S.out
  dsimp only at h0 h1 h2 h3 h4 h5 h6 h7 h8 h9
  go_wp2_with fail
  refine (M3.out _).mono ?_
  rintro e w4 ⟨rfl, hb⟩
  have S := hid (S.out.on hb)
  clear hb hB hl h0 h1 h2 h3 h4 h5 h6 h7 h8 h9
  obtain ⟨hB, hl, h0, h1, h2, h3, h4, h5, h6, h7, h8, h9⟩ := S.out
  dsimp only at h0 h1 h2 h3 h4 h5 h6 h7 h8 h9
  go_upto_region 7 with fail
  have x0 := fun x : Later w4 => Later.cell (a := ⟨w.heap.size, 0, none⟩) hl h0 x
  have x1 := fun x : Later w4 => Later.cell (a := ⟨w.heap.size, 1, none⟩) hl h1 x
  have x2 := fun x : Later w4 => Later.cell (a := ⟨w.heap.size, 2, none⟩) hl h2 x
  have x3 := fun x : Later w4 => Later.cell (a := ⟨w.heap.size, 3, none⟩) hl h3 x
  have x4 := fun x : Later w4 => Later.cell (a := ⟨w.heap.size, 4, none⟩) hl h4 x
  have x5 := fun x : Later w4 => Later.cell (a := ⟨w.heap.size, 5, none⟩) hl h5 x
  have x6 := fun x : Later w4 => Later.cell (a := ⟨w.heap.size, 6, none⟩) hl h6 x
  have x7 := fun x : Later w4 => Later.cell (a := ⟨w.heap.size, 7, none⟩) hl h7 x
  have x8 := fun x : Later w4 => Later.cell (a := ⟨w.heap.size, 8, none⟩) hl h8 x
  have x9 := fun x : Later w4 => Later.cell (a := ⟨w.heap.size, 9, none⟩) hl h9 x
  clear hB hl h0 h1 h2 h3 h4 h5 h6 h7 h8 h9
  refine wp_region_quiet_later (by kernel_rfl) (by kernel_rfl) ?_
  repeat (go_big_quiet_step ((first | (go_at_call 10; refine later_of (v := .int .i64 x) ?_; exact D1.out _) | (go_at_call 11; refine later_of (v := .bool d) ?_; exact M4.out _))))
  refine wpQuiet_nil ?_
  intro _ hw'
  obtain ⟨x, hw''⟩ := hw'
  subst hw''
  clear x0 x1 x2 x3 x4 x5 x6 x7 x8 x9
  have hb := x.below
  generalize x.world = w5 at hb
  clear x
  have S := hid (S.out.on hb)
  clear hb
  obtain ⟨hB, hl, h0, h1, h2, h3, h4, h5, h6, h7, h8, h9⟩ := S.out
  dsimp only at h0 h1 h2 h3 h4 h5 h6 h7 h8 h9
  go_wp2_with fail
  refine (W1.out _).mono ?_
  rintro e w6 ⟨rfl, hb⟩
  have S := hid (S.out.on hb)
  clear hb hB hl h0 h1 h2 h3 h4 h5 h6 h7 h8 h9
  obtain ⟨hB, hl, h0, h1, h2, h3, h4, h5, h6, h7, h8, h9⟩ := S.out
  dsimp only at h0 h1 h2 h3 h4 h5 h6 h7 h8 h9
  go_wp2_with fail
  refine (W2.out _).mono ?_
  rintro e w7 ⟨rfl, hb⟩
  have S := hid (S.out.on hb)
  clear hb hB hl h0 h1 h2 h3 h4 h5 h6 h7 h8 h9
  obtain ⟨hB, hl, h0, h1, h2, h3, h4, h5, h6, h7, h8, h9⟩ := S.out
  dsimp only at h0 h1 h2 h3 h4 h5 h6 h7 h8 h9
  go_wp2_with fail
  refine (W3.out _).mono ?_
  rintro e w8 ⟨rfl, hb⟩
  have S := hid (S.out.on hb)
  clear hb hB hl h0 h1 h2 h3 h4 h5 h6 h7 h8 h9
  obtain ⟨hB, hl, h0, h1, h2, h3, h4, h5, h6, h7, h8, h9⟩ := S.out
  dsimp only at h0 h1 h2 h3 h4 h5 h6 h7 h8 h9
  go_wp2_with fail
  all_goals (go_ret; exact ⟨rfl, hB⟩)

set_option maxHeartbeats 4000000 in
theorem more_fy (p : Pol) (o l c f t : Int) (g1 : l ≤ o) (g2 : f ≤ c) (g3 : 1 ≤ f) (e1 : mayP p o c = false) (k1 : 0 ≤ whenP p o c) (k2 : 0 ≤ whenP p o f) (k3 : whenP p o f ≤ whenP p o c) (k4 : 0 ≤ whenP p l c) (k5 : whenP p l c ≤ whenP p o c) (w : World) :
    Calls Try.prog 7 #[.agg #[.int .i64 p.k, .int .i64 p.cap, .int .i64 p.num, .int .i64 p.den, .int .i64 p.width, .int .i64 p.count, .int .i64 p.keys, .int .i64 p.slots, .int .i64 p.every, .int .i64 p.seg], .int .i64 o, .int .i64 l, .int .i64 c, .int .i64 f, .int .i64 t] w fun e w' => e = .returned (.bool true) ∧ Below w.heap.size w w' := by
  have A := hid awake_call
  have m1 := fun w => may_call p o c w
  have m2 := fun w => may_call p o f w
  have m3 := fun w => may_call p l c w
  have m4 := fun w => may_call p (decayP p o t) c w
  rw [e1] at m1
  have M1 := hid m1
  have M2 := hid m2
  have M3 := hid m3
  have M4 := hid m4
  have D1 := hid (fun w => decay_call p o t w)
  have W1 := hid (fun w => when_call p o c w)
  have W2 := hid (fun w => when_call p o f w)
  have W3 := hid (fun w => when_call p l c w)
  clear m1 m2 m3 m4 e1
  generalize mayP p o f = a at M2
  generalize mayP p l c = b at M3
  generalize mayP p (decayP p o t) c = d at M4
  generalize decayP p o t = x at D1 M4
  generalize whenP p o c = t1 at W1 k1 k2 k3 k4 k5
  generalize whenP p o f = t2 at W2 k2 k3
  generalize whenP p l c = t3 at W3 k4 k5
  have S := hid (Stand.begin w p)
  obtain ⟨k, cap, num, den, width, count, keys, slots, every, seg⟩ := p
  dsimp only at *
  go_enter Try.func7, Try.ntmps7
  go_upto_region 1 with fail
  refine abstract_world (fun W => Stand w W ⟨k, cap, num, den, width, count, keys, slots, every, seg⟩) S.out ?_
  clear S
  intro W S0
  have S := hid S0
  clear S0
  obtain ⟨hB, hl, h0, h1, h2, h3, h4, h5, h6, h7, h8, h9⟩ := S.out
  dsimp only at h0 h1 h2 h3 h4 h5 h6 h7 h8 h9
  go_wp2_with fail
  refine (A.out _).mono ?_
  rintro e w1 ⟨rfl, hb⟩
  have S := hid (S.out.on hb)
  clear hb hB hl h0 h1 h2 h3 h4 h5 h6 h7 h8 h9
  obtain ⟨hB, hl, h0, h1, h2, h3, h4, h5, h6, h7, h8, h9⟩ := S.out
  dsimp only at h0 h1 h2 h3 h4 h5 h6 h7 h8 h9
  go_wp2_with fail
  refine (M1.out _).mono ?_
  rintro e w2 ⟨rfl, hb⟩
  have S := hid (S.out.on hb)
  clear hb hB hl h0 h1 h2 h3 h4 h5 h6 h7 h8 h9
  obtain ⟨hB, hl, h0, h1, h2, h3, h4, h5, h6, h7, h8, h9⟩ := S.out
  dsimp only at h0 h1 h2 h3 h4 h5 h6 h7 h8 h9
  go_wp2_with fail
  refine (M2.out _).mono ?_
  rintro e w3 ⟨rfl, hb⟩
  have S := hid (S.out.on hb)
  clear hb hB hl h0 h1 h2 h3 h4 h5 h6 h7 h8 h9
  obtain ⟨hB, hl, h0, h1, h2, h3, h4, h5, h6, h7, h8, h9⟩ := S.out
  dsimp only at h0 h1 h2 h3 h4 h5 h6 h7 h8 h9
  go_wp2_with fail
  refine (M3.out _).mono ?_
  rintro e w4 ⟨rfl, hb⟩
  have S := hid (S.out.on hb)
  clear hb hB hl h0 h1 h2 h3 h4 h5 h6 h7 h8 h9
  obtain ⟨hB, hl, h0, h1, h2, h3, h4, h5, h6, h7, h8, h9⟩ := S.out
  dsimp only at h0 h1 h2 h3 h4 h5 h6 h7 h8 h9
  go_upto_region 7 with fail
  have x0 := fun x : Later w4 => Later.cell (a := ⟨w.heap.size, 0, none⟩) hl h0 x
  have x1 := fun x : Later w4 => Later.cell (a := ⟨w.heap.size, 1, none⟩) hl h1 x
  have x2 := fun x : Later w4 => Later.cell (a := ⟨w.heap.size, 2, none⟩) hl h2 x
  have x3 := fun x : Later w4 => Later.cell (a := ⟨w.heap.size, 3, none⟩) hl h3 x
  have x4 := fun x : Later w4 => Later.cell (a := ⟨w.heap.size, 4, none⟩) hl h4 x
  have x5 := fun x : Later w4 => Later.cell (a := ⟨w.heap.size, 5, none⟩) hl h5 x
  have x6 := fun x : Later w4 => Later.cell (a := ⟨w.heap.size, 6, none⟩) hl h6 x
  have x7 := fun x : Later w4 => Later.cell (a := ⟨w.heap.size, 7, none⟩) hl h7 x
  have x8 := fun x : Later w4 => Later.cell (a := ⟨w.heap.size, 8, none⟩) hl h8 x
  have x9 := fun x : Later w4 => Later.cell (a := ⟨w.heap.size, 9, none⟩) hl h9 x
  clear hB hl h0 h1 h2 h3 h4 h5 h6 h7 h8 h9
  refine wp_region_quiet_later (by kernel_rfl) (by kernel_rfl) ?_
  repeat (go_big_quiet_step ((first | (go_at_call 10; refine later_of (v := .int .i64 x) ?_; exact D1.out _) | (go_at_call 11; refine later_of (v := .bool d) ?_; exact M4.out _))))
  refine wpQuiet_nil ?_
  intro _ hw'
  obtain ⟨x, hw''⟩ := hw'
  subst hw''
  clear x0 x1 x2 x3 x4 x5 x6 x7 x8 x9
  have hb := x.below
  generalize x.world = w5 at hb
  clear x
  have S := hid (S.out.on hb)
  clear hb
  obtain ⟨hB, hl, h0, h1, h2, h3, h4, h5, h6, h7, h8, h9⟩ := S.out
  dsimp only at h0 h1 h2 h3 h4 h5 h6 h7 h8 h9
  go_wp2_with fail
  refine (W1.out _).mono ?_
  rintro e w6 ⟨rfl, hb⟩
  have S := hid (S.out.on hb)
  clear hb hB hl h0 h1 h2 h3 h4 h5 h6 h7 h8 h9
  obtain ⟨hB, hl, h0, h1, h2, h3, h4, h5, h6, h7, h8, h9⟩ := S.out
  dsimp only at h0 h1 h2 h3 h4 h5 h6 h7 h8 h9
  go_wp2_with fail
  refine (W2.out _).mono ?_
  rintro e w7 ⟨rfl, hb⟩
  have S := hid (S.out.on hb)
  clear hb hB hl h0 h1 h2 h3 h4 h5 h6 h7 h8 h9
  obtain ⟨hB, hl, h0, h1, h2, h3, h4, h5, h6, h7, h8, h9⟩ := S.out
  dsimp only at h0 h1 h2 h3 h4 h5 h6 h7 h8 h9
  go_wp2_with fail
  refine (W3.out _).mono ?_
  rintro e w8 ⟨rfl, hb⟩
  have S := hid (S.out.on hb)
  clear hb hB hl h0 h1 h2 h3 h4 h5 h6 h7 h8 h9
  obtain ⟨hB, hl, h0, h1, h2, h3, h4, h5, h6, h7, h8, h9⟩ := S.out
  dsimp only at h0 h1 h2 h3 h4 h5 h6 h7 h8 h9
  go_wp2_with fail
  all_goals (go_ret; exact ⟨rfl, hB⟩)

theorem more_walk (p : Pol) (o l c f t : Int) (w : World) :
    Calls Try.prog 7 #[.agg #[.int .i64 p.k, .int .i64 p.cap, .int .i64 p.num, .int .i64 p.den, .int .i64 p.width, .int .i64 p.count, .int .i64 p.keys, .int .i64 p.slots, .int .i64 p.every, .int .i64 p.seg], .int .i64 o, .int .i64 l, .int .i64 c, .int .i64 f, .int .i64 t] w fun e w' => e = .returned (.bool true) ∧ Below w.heap.size w w' := by
  by_cases g1 : o < l
  · exact more_less p o l c f t g1 w
  · by_cases g2 : c < f
    · exact more_cost p o l c f t (by omega) g2 w
    · by_cases g3 : f < 1
      · exact more_few p o l c f t (by omega) (by omega) g3 w
      · have hl : l ≤ o := by omega
        have hc : f ≤ c := by omega
        have hf : 1 ≤ f := by omega
        by_cases k : whenP p o c < 0
        · cases e : mayP p o c with
          | true => exact more_tn p o l c f t hl hc hf e (mayP_cost hf hc e) (mayP_owed (clipI_mono hl (by omega)) e) (mayP_later e) k w
          | false => exact more_fn p o l c f t hl hc hf e k w
        · obtain ⟨⟨k2, k3⟩, k4, k5⟩ := whenP_more hl hf hc (show 0 ≤ whenP p o c by omega)
          cases e : mayP p o c with
          | true => exact more_ty p o l c f t hl hc hf e (mayP_cost hf hc e) (mayP_owed (clipI_mono hl (by omega)) e) (mayP_later e) (by omega) k2 k3 k4 k5 w
          | false => exact more_fy p o l c f t hl hc hf e (by omega) k2 k3 k4 k5 w

end Go.Proofs.Ytlhnlickmjdjfaa
