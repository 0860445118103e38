/- The law BucketLater: time waited is time less to wait. -/
import Derived.Test.YtlhnlickmjdjfaaU
import Derived.Test.YtlhnlickmjdjfaaY
namespace Go.Proofs.Ytlhnlickmjdjfaa
open Go.RowKit

set_option maxHeartbeats 4000000 in
theorem later_not (p : Pol) (o j c : Int) (hk : okB p = false) (w : World) :
    Calls Try.prog 8 #[.agg #[.int .i64 p.k, .int .i64 p.cap, .int .i64 p.num, .int .i64 p.den, .int .i64 p.width, .int .i64 p.count, .int .i64 p.keys, .int .i64 p.slots, .int .i64 p.every, .int .i64 p.seg], .int .i64 o, .int .i64 j, .int .i64 c] w fun e w' => e = .returned (.bool true) ∧ Below w.heap.size w w' := by
  have A := hid awake_call
  have r1 := fun w => refRight_any p w
  rw [rightN_no hk] at r1
  have R := hid r1
  have W1 := hid (fun w => when_call p o c w)
  clear r1 hk
  generalize whenP p o c = t at W1
  have S := hid (Stand.begin w p)
  obtain ⟨k, cap, num, den, width, count, keys, slots, every, seg⟩ := p
  dsimp only at *
  go_enter Try.func8, Try.ntmps8
  go_upto_region 1 with fail
  refine abstract_world (fun W => Stand w W ⟨k, cap, num, den, width, count, keys, slots, every, seg⟩) S.out ?_
  clear S
  intro W S0
  have S := hid S0
  clear S0
  obtain ⟨hB, hl, h0, h1, h2, h3, h4, h5, h6, h7, h8, h9⟩ := S.out
  dsimp only at h0 h1 h2 h3 h4 h5 h6 h7 h8 h9
  go_wp2_with fail
  refine (A.out _).mono ?_
  rintro e w1 ⟨rfl, hb⟩
  have S := hid (S.out.on hb)
  clear hb hB hl h0 h1 h2 h3 h4 h5 h6 h7 h8 h9
  obtain ⟨hB, hl, h0, h1, h2, h3, h4, h5, h6, h7, h8, h9⟩ := S.out
  dsimp only at h0 h1 h2 h3 h4 h5 h6 h7 h8 h9
  go_wp2_with fail
  refine (R.out _).mono ?_
  rintro e w2 ⟨rfl, hb⟩
  have S := hid (S.out.on hb)
  clear hb hB hl h0 h1 h2 h3 h4 h5 h6 h7 h8 h9
  obtain ⟨hB, hl, h0, h1, h2, h3, h4, h5, h6, h7, h8, h9⟩ := S.out
  dsimp only at h0 h1 h2 h3 h4 h5 h6 h7 h8 h9
  go_wp2_with fail
  refine (W1.out _).mono ?_
  rintro e w3 ⟨rfl, hb⟩
  have S := hid (S.out.on hb)
  clear hb hB hl h0 h1 h2 h3 h4 h5 h6 h7 h8 h9
  obtain ⟨hB, hl, h0, h1, h2, h3, h4, h5, h6, h7, h8, h9⟩ := S.out
  dsimp only at h0 h1 h2 h3 h4 h5 h6 h7 h8 h9
  go_wp2_with fail
  all_goals (go_ret; exact ⟨rfl, hB⟩)

set_option maxHeartbeats 4000000 in
theorem later_kind (p : Pol) (o j c : Int) (hk : okB p = true) (g1 : (p.k != 1) = true) (w : World) :
    Calls Try.prog 8 #[.agg #[.int .i64 p.k, .int .i64 p.cap, .int .i64 p.num, .int .i64 p.den, .int .i64 p.width, .int .i64 p.count, .int .i64 p.keys, .int .i64 p.slots, .int .i64 p.every, .int .i64 p.seg], .int .i64 o, .int .i64 j, .int .i64 c] w fun e w' => e = .returned (.bool true) ∧ Below w.heap.size w w' := by
  have A := hid awake_call
  have r1 := fun w => refRight_any p w
  rw [rightN_yes hk] at r1
  have R := hid r1
  have W1 := hid (fun w => when_call p o c w)
  clear r1 hk
  generalize whenP p o c = t at W1
  have S := hid (Stand.begin w p)
  obtain ⟨k, cap, num, den, width, count, keys, slots, every, seg⟩ := p
  dsimp only at *
  go_enter Try.func8, Try.ntmps8
  go_upto_region 1 with fail
  refine abstract_world (fun W => Stand w W ⟨k, cap, num, den, width, count, keys, slots, every, seg⟩) S.out ?_
  clear S
  intro W S0
  have S := hid S0
  clear S0
  obtain ⟨hB, hl, h0, h1, h2, h3, h4, h5, h6, h7, h8, h9⟩ := S.out
  dsimp only at h0 h1 h2 h3 h4 h5 h6 h7 h8 h9
  go_wp2_with fail
  refine (A.out _).mono ?_
  rintro e w1 ⟨rfl, hb⟩
  have S := hid (S.out.on hb)
  clear hb hB hl h0 h1 h2 h3 h4 h5 h6 h7 h8 h9
  obtain ⟨hB, hl, h0, h1, h2, h3, h4, h5, h6, h7, h8, h9⟩ := S.out
  dsimp only at h0 h1 h2 h3 h4 h5 h6 h7 h8 h9
  go_wp2_with fail
  refine (R.out _).mono ?_
  rintro e w2 ⟨rfl, hb⟩
  have S := hid (S.out.on hb)
  clear hb hB hl h0 h1 h2 h3 h4 h5 h6 h7 h8 h9
  obtain ⟨hB, hl, h0, h1, h2, h3, h4, h5, h6, h7, h8, h9⟩ := S.out
  dsimp only at h0 h1 h2 h3 h4 h5 h6 h7 h8 h9
  go_wp2_with fail
  refine (W1.out _).mono ?_
  rintro e w3 ⟨rfl, hb⟩
  have S := hid (S.out.on hb)
  clear hb hB hl h0 h1 h2 h3 h4 h5 h6 h7 h8 h9
  obtain ⟨hB, hl, h0, h1, h2, h3, h4, h5, h6, h7, h8, h9⟩ := S.out
  dsimp only at h0 h1 h2 h3 h4 h5 h6 h7 h8 h9
  go_wp2_with fail
  all_goals (go_ret; exact ⟨rfl, hB⟩)

set_option maxHeartbeats 4000000 in
theorem later_never (p : Pol) (o j c : Int) (hk : okB p = true) (g1 : (p.k != 1) = false) (g2 : whenP p o c < 0) (w : World) :
    Calls Try.prog 8 #[.agg #[.int .i64 p.k, .int .i64 p.cap, .int .i64 p.num, .int .i64 p.den, .int .i64 p.width, .int .i64 p.count, .int .i64 p.keys, .int .i64 p.slots, .int .i64 p.every, .int .i64 p.seg], .int .i64 o, .int .i64 j, .int .i64 c] w fun e w' => e = .returned (.bool true) ∧ Below w.heap.size w w' := by
  have A := hid awake_call
  have r1 := fun w => refRight_any p w
  rw [rightN_yes hk] at r1
  have R := hid r1
  have W1 := hid (fun w => when_call p o c w)
  clear r1 hk
  generalize whenP p o c = t at W1 g2
  have S := hid (Stand.begin w p)
  obtain ⟨k, cap, num, den, width, count, keys, slots, every, seg⟩ := p
  dsimp only at *
  go_enter Try.func8, Try.ntmps8
  go_upto_region 1 with fail
  refine abstract_world (fun W => Stand w W ⟨k, cap, num, den, width, count, keys, slots, every, seg⟩) S.out ?_
  clear S
  intro W S0
  have S := hid S0
  clear S0
  obtain ⟨hB, hl, h0, h1, h2, h3, h4, h5, h6, h7, h8, h9⟩ := S.out
  dsimp only at h0 h1 h2 h3 h4 h5 h6 h7 h8 h9
  go_wp2_with fail
  refine (A.out _).mono ?_
  rintro e w1 ⟨rfl, hb⟩
  have S := hid (S.out.on hb)
  clear hb hB hl h0 h1 h2 h3 h4 h5 h6 h7 h8 h9
  obtain ⟨hB, hl, h0, h1, h2, h3, h4, h5, h6, h7, h8, h9⟩ := S.out
  dsimp only at h0 h1 h2 h3 h4 h5 h6 h7 h8 h9
  go_wp2_with fail
  refine (R.out _).mono ?_
  rintro e w2 ⟨rfl, hb⟩
  have S := hid (S.out.on hb)
  clear hb hB hl h0 h1 h2 h3 h4 h5 h6 h7 h8 h9
  obtain ⟨hB, hl, h0, h1, h2, h3, h4, h5, h6, h7, h8, h9⟩ := S.out
  dsimp only at h0 h1 h2 h3 h4 h5 h6 h7 h8 h9
  go_wp2_with fail
  refine (W1.out _).mono ?_
  rintro e w3 ⟨rfl, hb⟩
  have S := hid (S.out.on hb)
  clear hb hB hl h0 h1 h2 h3 h4 h5 h6 h7 h8 h9
  obtain ⟨hB, hl, h0, h1, h2, h3, h4, h5, h6, h7, h8, h9⟩ := S.out
  dsimp only at h0 h1 h2 h3 h4 h5 h6 h7 h8 h9
  go_wp2_with fail
  all_goals (go_ret; exact ⟨rfl, hB⟩)

set_option maxHeartbeats 4000000 in
theorem later_neg (p : Pol) (o j c : Int) (hk : okB p = true) (g1 : (p.k != 1) = false) (g2 : 0 ≤ whenP p o c) (g3 : j < 0) (w : World) :
    Calls Try.prog 8 #[.agg #[.int .i64 p.k, .int .i64 p.cap, .int .i64 p.num, .int .i64 p.den, .int .i64 p.width, .int .i64 p.count, .int .i64 p.keys, .int .i64 p.slots, .int .i64 p.every, .int .i64 p.seg], .int .i64 o, .int .i64 j, .int .i64 c] w fun e w' => e = .returned (.bool true) ∧ Below w.heap.size w w' := by
  have A := hid awake_call
  have r1 := fun w => refRight_any p w
  rw [rightN_yes hk] at r1
  have R := hid r1
  have W1 := hid (fun w => when_call p o c w)
  clear r1 hk
  generalize whenP p o c = t at W1 g2
  have S := hid (Stand.begin w p)
  obtain ⟨k, cap, num, den, width, count, keys, slots, every, seg⟩ := p
  dsimp only at *
  go_enter Try.func8, Try.ntmps8
  go_upto_region 1 with fail
  refine abstract_world (fun W => Stand w W ⟨k, cap, num, den, width, count, keys, slots, every, seg⟩) S.out ?_
  clear S
  intro W S0
  have S := hid S0
  clear S0
  obtain ⟨hB, hl, h0, h1, h2, h3, h4, h5, h6, h7, h8, h9⟩ := S.out
  dsimp only at h0 h1 h2 h3 h4 h5 h6 h7 h8 h9
  go_wp2_with fail
  refine (A.out _).mono ?_
  rintro e w1 ⟨rfl, hb⟩
  have S := hid (S.out.on hb)
  clear hb hB hl h0 h1 h2 h3 h4 h5 h6 h7 h8 h9
  obtain ⟨hB, hl, h0, h1, h2, h3, h4, h5, h6, h7, h8, h9⟩ := S.out
  dsimp only at h0 h1 h2 h3 h4 h5 h6 h7 h8 h9
  go_wp2_with fail
  refine (R.out _).mono ?_
  rintro e w2 ⟨rfl, hb⟩
  have S := hid (S.out.on hb)
  clear hb hB hl h0 h1 h2 h3 h4 h5 h6 h7 h8 h9
  obtain ⟨hB, hl, h0, h1, h2, h3, h4, h5, h6, h7, h8, h9⟩ := S.out
  dsimp only at h0 h1 h2 h3 h4 h5 h6 h7 h8 h9
  go_wp2_with fail
  refine (W1.out _).mono ?_
  rintro e w3 ⟨rfl, hb⟩
  have S := hid (S.out.on hb)
  clear hb hB hl h0 h1 h2 h3 h4 h5 h6 h7 h8 h9
  obtain ⟨hB, hl, h0, h1, h2, h3, h4, h5, h6, h7, h8, h9⟩ := S.out
  dsimp only at h0 h1 h2 h3 h4 h5 h6 h7 h8 h9
  go_wp2_with fail
  all_goals (go_ret; exact ⟨rfl, hB⟩)

set_option maxHeartbeats 4000000 in
theorem later_in (p : Pol) (o j c : Int) (hk : okB p = true) (g1 : (p.k != 1) = false) (g2 : 0 ≤ whenP p o c) (g3 : 0 ≤ j) (g4 : whenP p o c ≤ 1099511627776) (g5 : j < whenP p o c) (e1 : whenP p (decayP p o j) c = whenP p o c - j) (w : World) :
    Calls Try.prog 8 #[.agg #[.int .i64 p.k, .int .i64 p.cap, .int .i64 p.num, .int .i64 p.den, .int .i64 p.width, .int .i64 p.count, .int .i64 p.keys, .int .i64 p.slots, .int .i64 p.every, .int .i64 p.seg], .int .i64 o, .int .i64 j, .int .i64 c] w fun e w' => e = .returned (.bool true) ∧ Below w.heap.size w w' := by
  have A := hid awake_call
  have r1 := fun w => refRight_any p w
  rw [rightN_yes hk] at r1
  have R := hid r1
  have W1 := hid (fun w => when_call p o c w)
  have D1 := hid (fun w => decay_call p o j w)
  have w2 := fun w => when_call p (decayP p o j) c w
  rw [e1] at w2
  have W2 := hid w2
  clear r1 hk w2 e1
  generalize decayP p o j = x at D1 W2
  generalize whenP p o c = t at W1 W2 g2 g4 g5
  have S := hid (Stand.begin w p)
  obtain ⟨k, cap, num, den, width, count, keys, slots, every, seg⟩ := p
  dsimp only at *
  go_enter Try.func8, Try.ntmps8
  go_upto_region 1 with fail
  refine abstract_world (fun W => Stand w W ⟨k, cap, num, den, width, count, keys, slots, every, seg⟩) S.out ?_
  clear S
  intro W S0
  have S := hid S0
  clear S0
  obtain ⟨hB, hl, h0, h1, h2, h3, h4, h5, h6, h7, h8, h9⟩ := S.out
  dsimp only at h0 h1 h2 h3 h4 h5 h6 h7 h8 h9
  go_wp2_with fail
  refine (A.out _).mono ?_
  rintro e w1 ⟨rfl, hb⟩
  have S := hid (S.out.on hb)
  clear hb hB hl h0 h1 h2 h3 h4 h5 h6 h7 h8 h9
  obtain ⟨hB, hl, h0, h1, h2, h3, h4, h5, h6, h7, h8, h9⟩ := S.out
  dsimp only at h0 h1 h2 h3 h4 h5 h6 h7 h8 h9
  go_wp2_with fail
  refine (R.out _).mono ?_
  rintro e w2 ⟨rfl, hb⟩
  have S := hid (S.out.on hb)
  clear hb hB hl h0 h1 h2 h3 h4 h5 h6 h7 h8 h9
  obtain ⟨hB, hl, h0, h1, h2, h3, h4, h5, h6, h7, h8, h9⟩ := S.out
  dsimp only at h0 h1 h2 h3 h4 h5 h6 h7 h8 h9
  go_wp2_with fail
  refine (W1.out _).mono ?_
  rintro e w3 ⟨rfl, hb⟩
  have S := hid (S.out.on hb)
  clear hb hB hl h0 h1 h2 h3 h4 h5 h6 h7 h8 h9
  obtain ⟨hB, hl, h0, h1, h2, h3, h4, h5, h6, h7, h8, h9⟩ := S.out
  dsimp only at h0 h1 h2 h3 h4 h5 h6 h7 h8 h9
  go_upto_region 6 with fail
  have x0 := fun x : Later w3 => Later.cell (a := ⟨w.heap.size, 0, none⟩) hl h0 x
  have x1 := fun x : Later w3 => Later.cell (a := ⟨w.heap.size, 1, none⟩) hl h1 x
  have x2 := fun x : Later w3 => Later.cell (a := ⟨w.heap.size, 2, none⟩) hl h2 x
  have x3 := fun x : Later w3 => Later.cell (a := ⟨w.heap.size, 3, none⟩) hl h3 x
  have x4 := fun x : Later w3 => Later.cell (a := ⟨w.heap.size, 4, none⟩) hl h4 x
  have x5 := fun x : Later w3 => Later.cell (a := ⟨w.heap.size, 5, none⟩) hl h5 x
  have x6 := fun x : Later w3 => Later.cell (a := ⟨w.heap.size, 6, none⟩) hl h6 x
  have x7 := fun x : Later w3 => Later.cell (a := ⟨w.heap.size, 7, none⟩) hl h7 x
  have x8 := fun x : Later w3 => Later.cell (a := ⟨w.heap.size, 8, none⟩) hl h8 x
  have x9 := fun x : Later w3 => Later.cell (a := ⟨w.heap.size, 9, none⟩) hl h9 x
  clear hB hl h0 h1 h2 h3 h4 h5 h6 h7 h8 h9
  refine wp_region_quiet_later (by kernel_rfl) (by kernel_rfl) ?_
  repeat (go_big_quiet_step ((first | (go_at_call 10; refine later_of (v := .int .i64 x) ?_; exact D1.out _) | (go_at_call 16; refine later_of (v := .int .i64 (t - j)) ?_; exact W2.out _))))
  refine wpQuiet_nil ?_
  intro _ hw'
  obtain ⟨x, hw''⟩ := hw'
  subst hw''
  clear x0 x1 x2 x3 x4 x5 x6 x7 x8 x9
  have hb := x.below
  generalize x.world = w4 at hb
  clear x
  have S := hid (S.out.on hb)
  clear hb
  obtain ⟨hB, hl, h0, h1, h2, h3, h4, h5, h6, h7, h8, h9⟩ := S.out
  dsimp only at h0 h1 h2 h3 h4 h5 h6 h7 h8 h9
  go_wp2_with fail
  all_goals (go_ret; exact ⟨rfl, hB⟩)

set_option maxHeartbeats 4000000 in
theorem later_past (p : Pol) (o j c : Int) (hk : okB p = true) (g1 : (p.k != 1) = false) (g2 : 0 ≤ whenP p o c) (g3 : 0 ≤ j) (g4 : whenP p o c ≤ 1099511627776) (g5 : j ≤ 1099511627776) (g6 : whenP p o c ≤ j) (e1 : whenP p (decayP p o j) c = 0) (w : World) :
    Calls Try.prog 8 #[.agg #[.int .i64 p.k, .int .i64 p.cap, .int .i64 p.num, .int .i64 p.den, .int .i64 p.width, .int .i64 p.count, .int .i64 p.keys, .int .i64 p.slots, .int .i64 p.every, .int .i64 p.seg], .int .i64 o, .int .i64 j, .int .i64 c] w fun e w' => e = .returned (.bool true) ∧ Below w.heap.size w w' := by
  have A := hid awake_call
  have r1 := fun w => refRight_any p w
  rw [rightN_yes hk] at r1
  have R := hid r1
  have W1 := hid (fun w => when_call p o c w)
  have D1 := hid (fun w => decay_call p o j w)
  have w2 := fun w => when_call p (decayP p o j) c w
  rw [e1] at w2
  have W2 := hid w2
  clear r1 hk w2 e1
  generalize decayP p o j = x at D1 W2
  generalize whenP p o c = t at W1 g2 g4 g6
  have S := hid (Stand.begin w p)
  obtain ⟨k, cap, num, den, width, count, keys, slots, every, seg⟩ := p
  dsimp only at *
  go_enter Try.func8, Try.ntmps8
  go_upto_region 1 with fail
  refine abstract_world (fun W => Stand w W ⟨k, cap, num, den, width, count, keys, slots, every, seg⟩) S.out ?_
  clear S
  intro W S0
  have S := hid S0
  clear S0
  obtain ⟨hB, hl, h0, h1, h2, h3, h4, h5, h6, h7, h8, h9⟩ := S.out
  dsimp only at h0 h1 h2 h3 h4 h5 h6 h7 h8 h9
  go_wp2_with fail
  refine (A.out _).mono ?_
  rintro e w1 ⟨rfl, hb⟩
  have S := hid (S.out.on hb)
  clear hb hB hl h0 h1 h2 h3 h4 h5 h6 h7 h8 h9
  obtain ⟨hB, hl, h0, h1, h2, h3, h4, h5, h6, h7, h8, h9⟩ := S.out
  dsimp only at h0 h1 h2 h3 h4 h5 h6 h7 h8 h9
  go_wp2_with fail
  refine (R.out _).mono ?_
  rintro e w2 ⟨rfl, hb⟩
  have S := hid (S.out.on hb)
  clear hb hB hl h0 h1 h2 h3 h4 h5 h6 h7 h8 h9
  obtain ⟨hB, hl, h0, h1, h2, h3, h4, h5, h6, h7, h8, h9⟩ := S.out
  dsimp only at h0 h1 h2 h3 h4 h5 h6 h7 h8 h9
  go_wp2_with fail
  refine (W1.out _).mono ?_
  rintro e w3 ⟨rfl, hb⟩
  have S := hid (S.out.on hb)
  clear hb hB hl h0 h1 h2 h3 h4 h5 h6 h7 h8 h9
  obtain ⟨hB, hl, h0, h1, h2, h3, h4, h5, h6, h7, h8, h9⟩ := S.out
  dsimp only at h0 h1 h2 h3 h4 h5 h6 h7 h8 h9
  go_upto_region 6 with fail
  have x0 := fun x : Later w3 => Later.cell (a := ⟨w.heap.size, 0, none⟩) hl h0 x
  have x1 := fun x : Later w3 => Later.cell (a := ⟨w.heap.size, 1, none⟩) hl h1 x
  have x2 := fun x : Later w3 => Later.cell (a := ⟨w.heap.size, 2, none⟩) hl h2 x
  have x3 := fun x : Later w3 => Later.cell (a := ⟨w.heap.size, 3, none⟩) hl h3 x
  have x4 := fun x : Later w3 => Later.cell (a := ⟨w.heap.size, 4, none⟩) hl h4 x
  have x5 := fun x : Later w3 => Later.cell (a := ⟨w.heap.size, 5, none⟩) hl h5 x
  have x6 := fun x : Later w3 => Later.cell (a := ⟨w.heap.size, 6, none⟩) hl h6 x
  have x7 := fun x : Later w3 => Later.cell (a := ⟨w.heap.size, 7, none⟩) hl h7 x
  have x8 := fun x : Later w3 => Later.cell (a := ⟨w.heap.size, 8, none⟩) hl h8 x
  have x9 := fun x : Later w3 => Later.cell (a := ⟨w.heap.size, 9, none⟩) hl h9 x
  clear hB hl h0 h1 h2 h3 h4 h5 h6 h7 h8 h9
  refine wp_region_quiet_later (by kernel_rfl) (by kernel_rfl) ?_
  repeat (go_big_quiet_step ((first | (go_at_call 10; refine later_of (v := .int .i64 x) ?_; exact D1.out _) | (go_at_call 16; refine later_of (v := .int .i64 (0)) ?_; exact W2.out _))))
  refine wpQuiet_nil ?_
  intro _ hw'
  obtain ⟨x, hw''⟩ := hw'
  subst hw''
  clear x0 x1 x2 x3 x4 x5 x6 x7 x8 x9
  have hb := x.below
  generalize x.world = w4 at hb
  clear x
  have S := hid (S.out.on hb)
  clear hb
  obtain ⟨hB, hl, h0, h1, h2, h3, h4, h5, h6, h7, h8, h9⟩ := S.out
  dsimp only at h0 h1 h2 h3 h4 h5 h6 h7 h8 h9
  go_wp2_with fail
  all_goals (go_ret; exact ⟨rfl, hB⟩)

set_option maxHeartbeats 4000000 in
theorem later_far (p : Pol) (o j c : Int) (hk : okB p = true) (g1 : (p.k != 1) = false) (g2 : 0 ≤ whenP p o c) (g4 : whenP p o c ≤ 1099511627776) (g5 : 1099511627776 < j) (e1 : whenP p (decayP p o j) c = 0) (w : World) :
    Calls Try.prog 8 #[.agg #[.int .i64 p.k, .int .i64 p.cap, .int .i64 p.num, .int .i64 p.den, .int .i64 p.width, .int .i64 p.count, .int .i64 p.keys, .int .i64 p.slots, .int .i64 p.every, .int .i64 p.seg], .int .i64 o, .int .i64 j, .int .i64 c] w fun e w' => e = .returned (.bool true) ∧ Below w.heap.size w w' := by
  have A := hid awake_call
  have r1 := fun w => refRight_any p w
  rw [rightN_yes hk] at r1
  have R := hid r1
  have W1 := hid (fun w => when_call p o c w)
  have D1 := hid (fun w => decay_call p o j w)
  have w2 := fun w => when_call p (decayP p o j) c w
  rw [e1] at w2
  have W2 := hid w2
  clear r1 hk w2 e1
  generalize decayP p o j = x at D1 W2
  generalize whenP p o c = t at W1 g2 g4
  have S := hid (Stand.begin w p)
  obtain ⟨k, cap, num, den, width, count, keys, slots, every, seg⟩ := p
  dsimp only at *
  go_enter Try.func8, Try.ntmps8
  go_upto_region 1 with fail
  refine abstract_world (fun W => Stand w W ⟨k, cap, num, den, width, count, keys, slots, every, seg⟩) S.out ?_
  clear S
  intro W S0
  have S := hid S0
  clear S0
  obtain ⟨hB, hl, h0, h1, h2, h3, h4, h5, h6, h7, h8, h9⟩ := S.out
  dsimp only at h0 h1 h2 h3 h4 h5 h6 h7 h8 h9
  go_wp2_with fail
  refine (A.out _).mono ?_
  rintro e w1 ⟨rfl, hb⟩
  have S := hid (S.out.on hb)
  clear hb hB hl h0 h1 h2 h3 h4 h5 h6 h7 h8 h9
  obtain ⟨hB, hl, h0, h1, h2, h3, h4, h5, h6, h7, h8, h9⟩ := S.out
  dsimp only at h0 h1 h2 h3 h4 h5 h6 h7 h8 h9
  go_wp2_with fail
  refine (R.out _).mono ?_
  rintro e w2 ⟨rfl, hb⟩
  have S := hid (S.out.on hb)
  clear hb hB hl h0 h1 h2 h3 h4 h5 h6 h7 h8 h9
  obtain ⟨hB, hl, h0, h1, h2, h3, h4, h5, h6, h7, h8, h9⟩ := S.out
  dsimp only at h0 h1 h2 h3 h4 h5 h6 h7 h8 h9
  go_wp2_with fail
  refine (W1.out _).mono ?_
  rintro e w3 ⟨rfl, hb⟩
  have S := hid (S.out.on hb)
  clear hb hB hl h0 h1 h2 h3 h4 h5 h6 h7 h8 h9
  obtain ⟨hB, hl, h0, h1, h2, h3, h4, h5, h6, h7, h8, h9⟩ := S.out
  dsimp only at h0 h1 h2 h3 h4 h5 h6 h7 h8 h9
  go_upto_region 6 with fail
  have x0 := fun x : Later w3 => Later.cell (a := ⟨w.heap.size, 0, none⟩) hl h0 x
  have x1 := fun x : Later w3 => Later.cell (a := ⟨w.heap.size, 1, none⟩) hl h1 x
  have x2 := fun x : Later w3 => Later.cell (a := ⟨w.heap.size, 2, none⟩) hl h2 x
  have x3 := fun x : Later w3 => Later.cell (a := ⟨w.heap.size, 3, none⟩) hl h3 x
  have x4 := fun x : Later w3 => Later.cell (a := ⟨w.heap.size, 4, none⟩) hl h4 x
  have x5 := fun x : Later w3 => Later.cell (a := ⟨w.heap.size, 5, none⟩) hl h5 x
  have x6 := fun x : Later w3 => Later.cell (a := ⟨w.heap.size, 6, none⟩) hl h6 x
  have x7 := fun x : Later w3 => Later.cell (a := ⟨w.heap.size, 7, none⟩) hl h7 x
  have x8 := fun x : Later w3 => Later.cell (a := ⟨w.heap.size, 8, none⟩) hl h8 x
  have x9 := fun x : Later w3 => Later.cell (a := ⟨w.heap.size, 9, none⟩) hl h9 x
  clear hB hl h0 h1 h2 h3 h4 h5 h6 h7 h8 h9
  refine wp_region_quiet_later (by kernel_rfl) (by kernel_rfl) ?_
  repeat (go_big_quiet_step ((first | (go_at_call 10; refine later_of (v := .int .i64 x) ?_; exact D1.out _) | (go_at_call 16; refine later_of (v := .int .i64 (0)) ?_; exact W2.out _))))
  refine wpQuiet_nil ?_
  intro _ hw'
  obtain ⟨x, hw''⟩ := hw'
  subst hw''
  clear x0 x1 x2 x3 x4 x5 x6 x7 x8 x9
  have hb := x.below
  generalize x.world = w4 at hb
  clear x
  have S := hid (S.out.on hb)
  clear hb
  obtain ⟨hB, hl, h0, h1, h2, h3, h4, h5, h6, h7, h8, h9⟩ := S.out
  dsimp only at h0 h1 h2 h3 h4 h5 h6 h7 h8 h9
  go_wp2_with fail
  all_goals (go_ret; exact ⟨rfl, hB⟩)

theorem later_walk (p : Pol) (o j c : Int) (w : World) :
    Calls Try.prog 8 #[.agg #[.int .i64 p.k, .int .i64 p.cap, .int .i64 p.num, .int .i64 p.den, .int .i64 p.width, .int .i64 p.count, .int .i64 p.keys, .int .i64 p.slots, .int .i64 p.every, .int .i64 p.seg], .int .i64 o, .int .i64 j, .int .i64 c] w fun e w' => e = .returned (.bool true) ∧ Below w.heap.size w w' := by
  cases hk : okB p with
  | false => exact later_not p o j c hk w
  | true =>
    cases g1 : (p.k != 1) with
    | true => exact later_kind p o j c hk g1 w
    | false =>
      by_cases g2 : whenP p o c < 0
      · exact later_never p o j c hk g1 g2 w
      · have g2' : 0 ≤ whenP p o c := by omega
        by_cases g3 : j < 0
        · exact later_neg p o j c hk g1 g2' g3 w
        · have hm : meansB p = true := meansB_yes (by simpa using g1) hk
          have e := whenP_later hm g2' (show 0 ≤ j by omega)
          have g4 : whenP p o c ≤ 1099511627776 := by
            rcases whenP_law p o c with ⟨h, _⟩ | ⟨_, h, _⟩ <;> omega
          by_cases g5 : j < whenP p o c
          · exact later_in p o j c hk g1 g2' (by omega) g4 g5 (by omega) w
          · by_cases g6 : j ≤ 1099511627776
            · exact later_past p o j c hk g1 g2' (by omega) g4 g6 (by omega) (by omega) w
            · exact later_far p o j c hk g1 g2' g4 (by omega) (by omega) w

end Go.Proofs.Ytlhnlickmjdjfaa
