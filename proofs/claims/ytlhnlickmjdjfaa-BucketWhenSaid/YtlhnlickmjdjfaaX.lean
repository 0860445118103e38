/- The law BucketWhen: When is the document's; then it may, one tick ahead it may not. -/
import Derived.Test.YtlhnlickmjdjfaaU
import Derived.Test.YtlhnlickmjdjfaaY
namespace Go.Proofs.Ytlhnlickmjdjfaa
open Go.RowKit


set_option maxHeartbeats 4000000 in
theorem when_never (p : Pol) (o c : Int) (ht : whenP p o c = -1) (hf : mayP p (decayP p o 1099511627776) c = false) (w : World) :
    Calls Try.prog 4 #[.agg #[.int .i64 p.k, .int .i64 p.cap, .int .i64 p.num, .int .i64 p.den, .int .i64 p.width, .int .i64 p.count, .int .i64 p.keys, .int .i64 p.slots, .int .i64 p.every, .int .i64 p.seg], .int .i64 o, .int .i64 c] w fun e w' => e = .returned (.bool true) ∧ Below w.heap.size w w' := by
  have A := hid awake_call
  have w1 := fun w => when_call p o c w
  have w2 := fun w => refWhen_call p o c w
  have m1 := fun w => may_call p (decayP p o 1099511627776) c w
  rw [ht] at w1 w2
  rw [hf] at m1
  have W1 := hid w1
  have W2 := hid w2
  have M1 := hid m1
  have D1 := hid (fun w => decay_call p o 1099511627776 w)
  clear w1 w2 m1 ht hf
  generalize decayP p o 1099511627776 = d at D1 M1
  have S := hid (Stand.begin w p)
  obtain ⟨k, cap, num, den, width, count, keys, slots, every, seg⟩ := p
  dsimp only at *
  go_enter Try.func4, Try.ntmps4
  go_upto_region 1 with fail
  refine abstract_world (fun W => Stand w W ⟨k, cap, num, den, width, count, keys, slots, every, seg⟩) S.out ?_
  clear S
  intro W S0
  have S := hid S0
  clear S0
  obtain ⟨hB, hl, h0, h1, h2, h3, h4, h5, h6, h7, h8, h9⟩ := S.out
  dsimp only at h0 h1 h2 h3 h4 h5 h6 h7 h8 h9
  go_wp2_with fail
  refine (A.out _).mono ?_
  rintro e w1 ⟨rfl, hb⟩
  have S := hid (S.out.on hb)
  clear hb hB hl h0 h1 h2 h3 h4 h5 h6 h7 h8 h9
  obtain ⟨hB, hl, h0, h1, h2, h3, h4, h5, h6, h7, h8, h9⟩ := S.out
  dsimp only at h0 h1 h2 h3 h4 h5 h6 h7 h8 h9
  go_wp2_with fail
  refine (W1.out _).mono ?_
  rintro e w2 ⟨rfl, hb⟩
  have S := hid (S.out.on hb)
  clear hb hB hl h0 h1 h2 h3 h4 h5 h6 h7 h8 h9
  obtain ⟨hB, hl, h0, h1, h2, h3, h4, h5, h6, h7, h8, h9⟩ := S.out
  dsimp only at h0 h1 h2 h3 h4 h5 h6 h7 h8 h9
  go_wp2_with fail
  refine (W2.out _).mono ?_
  rintro e w3 ⟨rfl, hb⟩
  have S := hid (S.out.on hb)
  clear hb hB hl h0 h1 h2 h3 h4 h5 h6 h7 h8 h9
  obtain ⟨hB, hl, h0, h1, h2, h3, h4, h5, h6, h7, h8, h9⟩ := S.out
  dsimp only at h0 h1 h2 h3 h4 h5 h6 h7 h8 h9
  go_upto_region 6 with fail
  have x0 := fun x : Later w3 => Later.cell (a := ⟨w.heap.size, 0, none⟩) hl h0 x
  have x1 := fun x : Later w3 => Later.cell (a := ⟨w.heap.size, 1, none⟩) hl h1 x
  have x2 := fun x : Later w3 => Later.cell (a := ⟨w.heap.size, 2, none⟩) hl h2 x
  have x3 := fun x : Later w3 => Later.cell (a := ⟨w.heap.size, 3, none⟩) hl h3 x
  have x4 := fun x : Later w3 => Later.cell (a := ⟨w.heap.size, 4, none⟩) hl h4 x
  have x5 := fun x : Later w3 => Later.cell (a := ⟨w.heap.size, 5, none⟩) hl h5 x
  have x6 := fun x : Later w3 => Later.cell (a := ⟨w.heap.size, 6, none⟩) hl h6 x
  have x7 := fun x : Later w3 => Later.cell (a := ⟨w.heap.size, 7, none⟩) hl h7 x
  have x8 := fun x : Later w3 => Later.cell (a := ⟨w.heap.size, 8, none⟩) hl h8 x
  have x9 := fun x : Later w3 => Later.cell (a := ⟨w.heap.size, 9, none⟩) hl h9 x
  clear hB hl h0 h1 h2 h3 h4 h5 h6 h7 h8 h9
  refine wp_region_quiet_later (by kernel_rfl) (by kernel_rfl) ?_
  repeat (go_big_quiet_step ((first | (go_at_call 10; refine later_of (v := .int .i64 d) ?_; exact D1.out _) | (go_at_call 11; refine later_of (v := .bool false) ?_; exact M1.out _))))
  refine wpQuiet_nil ?_
  intro _ hw'
  obtain ⟨x, hw''⟩ := hw'
  subst hw''
  clear x0 x1 x2 x3 x4 x5 x6 x7 x8 x9
  have hb := x.below
  generalize x.world = w4 at hb
  clear x
  have S := hid (S.out.on hb)
  clear hb
  obtain ⟨hB, hl, h0, h1, h2, h3, h4, h5, h6, h7, h8, h9⟩ := S.out
  dsimp only at h0 h1 h2 h3 h4 h5 h6 h7 h8 h9
  go_wp2_with fail
  go_ret
  exact ⟨rfl, hB⟩

set_option maxHeartbeats 4000000 in
theorem when_now (p : Pol) (o c : Int) (ht : whenP p o c = 0) (hf : mayP p (decayP p o 0) c = true) (w : World) :
    Calls Try.prog 4 #[.agg #[.int .i64 p.k, .int .i64 p.cap, .int .i64 p.num, .int .i64 p.den, .int .i64 p.width, .int .i64 p.count, .int .i64 p.keys, .int .i64 p.slots, .int .i64 p.every, .int .i64 p.seg], .int .i64 o, .int .i64 c] w fun e w' => e = .returned (.bool true) ∧ Below w.heap.size w w' := by
  have A := hid awake_call
  have w1 := fun w => when_call p o c w
  have w2 := fun w => refWhen_call p o c w
  have m1 := fun w => may_call p (decayP p o 0) c w
  rw [ht] at w1 w2
  rw [hf] at m1
  have W1 := hid w1
  have W2 := hid w2
  have M1 := hid m1
  have D1 := hid (fun w => decay_call p o 0 w)
  clear w1 w2 m1 ht hf
  generalize decayP p o 0 = d at D1 M1
  have S := hid (Stand.begin w p)
  obtain ⟨k, cap, num, den, width, count, keys, slots, every, seg⟩ := p
  dsimp only at *
  go_enter Try.func4, Try.ntmps4
  go_upto_region 1 with fail
  refine abstract_world (fun W => Stand w W ⟨k, cap, num, den, width, count, keys, slots, every, seg⟩) S.out ?_
  clear S
  intro W S0
  have S := hid S0
  clear S0
  obtain ⟨hB, hl, h0, h1, h2, h3, h4, h5, h6, h7, h8, h9⟩ := S.out
  dsimp only at h0 h1 h2 h3 h4 h5 h6 h7 h8 h9
  go_wp2_with fail
  refine (A.out _).mono ?_
  rintro e w1 ⟨rfl, hb⟩
  have S := hid (S.out.on hb)
  clear hb hB hl h0 h1 h2 h3 h4 h5 h6 h7 h8 h9
  obtain ⟨hB, hl, h0, h1, h2, h3, h4, h5, h6, h7, h8, h9⟩ := S.out
  dsimp only at h0 h1 h2 h3 h4 h5 h6 h7 h8 h9
  go_wp2_with fail
  refine (W1.out _).mono ?_
  rintro e w2 ⟨rfl, hb⟩
  have S := hid (S.out.on hb)
  clear hb hB hl h0 h1 h2 h3 h4 h5 h6 h7 h8 h9
  obtain ⟨hB, hl, h0, h1, h2, h3, h4, h5, h6, h7, h8, h9⟩ := S.out
  dsimp only at h0 h1 h2 h3 h4 h5 h6 h7 h8 h9
  go_wp2_with fail
  refine (W2.out _).mono ?_
  rintro e w3 ⟨rfl, hb⟩
  have S := hid (S.out.on hb)
  clear hb hB hl h0 h1 h2 h3 h4 h5 h6 h7 h8 h9
  obtain ⟨hB, hl, h0, h1, h2, h3, h4, h5, h6, h7, h8, h9⟩ := S.out
  dsimp only at h0 h1 h2 h3 h4 h5 h6 h7 h8 h9
  go_upto_region 8 with fail
  have x0 := fun x : Later w3 => Later.cell (a := ⟨w.heap.size, 0, none⟩) hl h0 x
  have x1 := fun x : Later w3 => Later.cell (a := ⟨w.heap.size, 1, none⟩) hl h1 x
  have x2 := fun x : Later w3 => Later.cell (a := ⟨w.heap.size, 2, none⟩) hl h2 x
  have x3 := fun x : Later w3 => Later.cell (a := ⟨w.heap.size, 3, none⟩) hl h3 x
  have x4 := fun x : Later w3 => Later.cell (a := ⟨w.heap.size, 4, none⟩) hl h4 x
  have x5 := fun x : Later w3 => Later.cell (a := ⟨w.heap.size, 5, none⟩) hl h5 x
  have x6 := fun x : Later w3 => Later.cell (a := ⟨w.heap.size, 6, none⟩) hl h6 x
  have x7 := fun x : Later w3 => Later.cell (a := ⟨w.heap.size, 7, none⟩) hl h7 x
  have x8 := fun x : Later w3 => Later.cell (a := ⟨w.heap.size, 8, none⟩) hl h8 x
  have x9 := fun x : Later w3 => Later.cell (a := ⟨w.heap.size, 9, none⟩) hl h9 x
  clear hB hl h0 h1 h2 h3 h4 h5 h6 h7 h8 h9
  refine wp_region_quiet_later (by kernel_rfl) (by kernel_rfl) ?_
  repeat (go_big_quiet_step ((first | (go_at_call 10; refine later_of (v := .int .i64 d) ?_; exact D1.out _) | (go_at_call 11; refine later_of (v := .bool true) ?_; exact M1.out _))))
  refine wpQuiet_nil ?_
  intro _ hw'
  obtain ⟨x, hw''⟩ := hw'
  subst hw''
  clear x0 x1 x2 x3 x4 x5 x6 x7 x8 x9
  have hb := x.below
  generalize x.world = w4 at hb
  clear x
  have S := hid (S.out.on hb)
  clear hb
  obtain ⟨hB, hl, h0, h1, h2, h3, h4, h5, h6, h7, h8, h9⟩ := S.out
  dsimp only at h0 h1 h2 h3 h4 h5 h6 h7 h8 h9
  go_upto_region 9 with fail
  go_quiet (fail)
  go_wp2_with fail
  go_ret
  exact ⟨rfl, below_drewN' hB _⟩

set_option maxHeartbeats 4000000 in
theorem when_later (p : Pol) (o c t : Int) (ht : whenP p o c = t) (h0 : 0 < t) (h1 : t ≤ 1099511627776) (hf : mayP p (decayP p o t) c = true) (hg : mayP p (decayP p o (t - 1)) c = false) (w : World) :
    Calls Try.prog 4 #[.agg #[.int .i64 p.k, .int .i64 p.cap, .int .i64 p.num, .int .i64 p.den, .int .i64 p.width, .int .i64 p.count, .int .i64 p.keys, .int .i64 p.slots, .int .i64 p.every, .int .i64 p.seg], .int .i64 o, .int .i64 c] w fun e w' => e = .returned (.bool true) ∧ Below w.heap.size w w' := by
  have A := hid awake_call
  have w1 := fun w => when_call p o c w
  have w2 := fun w => refWhen_call p o c w
  have m1 := fun w => may_call p (decayP p o t) c w
  have m2 := fun w => may_call p (decayP p o (t - 1)) c w
  rw [ht] at w1 w2
  rw [hf] at m1
  rw [hg] at m2
  have W1 := hid w1
  have W2 := hid w2
  have M1 := hid m1
  have M2 := hid m2
  have D1 := hid (fun w => decay_call p o t w)
  have D2 := hid (fun w => decay_call p o (t - 1) w)
  clear w1 w2 m1 m2 ht hf hg
  generalize decayP p o t = d at D1 M1
  generalize decayP p o (t - 1) = d' at D2 M2
  have S := hid (Stand.begin w p)
  obtain ⟨k, cap, num, den, width, count, keys, slots, every, seg⟩ := p
  dsimp only at *
  go_enter Try.func4, Try.ntmps4
  go_upto_region 1 with fail
  refine abstract_world (fun W => Stand w W ⟨k, cap, num, den, width, count, keys, slots, every, seg⟩) S.out ?_
  clear S
  intro W S0
  have S := hid S0
  clear S0
  obtain ⟨hB, hl, h0, h1, h2, h3, h4, h5, h6, h7, h8, h9⟩ := S.out
  dsimp only at h0 h1 h2 h3 h4 h5 h6 h7 h8 h9
  go_wp2_with fail
  refine (A.out _).mono ?_
  rintro e w1 ⟨rfl, hb⟩
  have S := hid (S.out.on hb)
  clear hb hB hl h0 h1 h2 h3 h4 h5 h6 h7 h8 h9
  obtain ⟨hB, hl, h0, h1, h2, h3, h4, h5, h6, h7, h8, h9⟩ := S.out
  dsimp only at h0 h1 h2 h3 h4 h5 h6 h7 h8 h9
  go_wp2_with fail
  refine (W1.out _).mono ?_
  rintro e w2 ⟨rfl, hb⟩
  have S := hid (S.out.on hb)
  clear hb hB hl h0 h1 h2 h3 h4 h5 h6 h7 h8 h9
  obtain ⟨hB, hl, h0, h1, h2, h3, h4, h5, h6, h7, h8, h9⟩ := S.out
  dsimp only at h0 h1 h2 h3 h4 h5 h6 h7 h8 h9
  go_wp2_with fail
  refine (W2.out _).mono ?_
  rintro e w3 ⟨rfl, hb⟩
  have S := hid (S.out.on hb)
  clear hb hB hl h0 h1 h2 h3 h4 h5 h6 h7 h8 h9
  obtain ⟨hB, hl, h0, h1, h2, h3, h4, h5, h6, h7, h8, h9⟩ := S.out
  dsimp only at h0 h1 h2 h3 h4 h5 h6 h7 h8 h9
  go_upto_region 8 with fail
  have x0 := fun x : Later w3 => Later.cell (a := ⟨w.heap.size, 0, none⟩) hl h0 x
  have x1 := fun x : Later w3 => Later.cell (a := ⟨w.heap.size, 1, none⟩) hl h1 x
  have x2 := fun x : Later w3 => Later.cell (a := ⟨w.heap.size, 2, none⟩) hl h2 x
  have x3 := fun x : Later w3 => Later.cell (a := ⟨w.heap.size, 3, none⟩) hl h3 x
  have x4 := fun x : Later w3 => Later.cell (a := ⟨w.heap.size, 4, none⟩) hl h4 x
  have x5 := fun x : Later w3 => Later.cell (a := ⟨w.heap.size, 5, none⟩) hl h5 x
  have x6 := fun x : Later w3 => Later.cell (a := ⟨w.heap.size, 6, none⟩) hl h6 x
  have x7 := fun x : Later w3 => Later.cell (a := ⟨w.heap.size, 7, none⟩) hl h7 x
  have x8 := fun x : Later w3 => Later.cell (a := ⟨w.heap.size, 8, none⟩) hl h8 x
  have x9 := fun x : Later w3 => Later.cell (a := ⟨w.heap.size, 9, none⟩) hl h9 x
  clear hB hl h0 h1 h2 h3 h4 h5 h6 h7 h8 h9
  refine wp_region_quiet_later (by kernel_rfl) (by kernel_rfl) ?_
  repeat (go_big_quiet_step ((first | (go_at_call 10; refine later_of (v := .int .i64 d) ?_; exact D1.out _) | (go_at_call 11; refine later_of (v := .bool true) ?_; exact M1.out _))))
  refine wpQuiet_nil ?_
  intro _ hw'
  obtain ⟨x, hw''⟩ := hw'
  subst hw''
  clear x0 x1 x2 x3 x4 x5 x6 x7 x8 x9
  have hb := x.below
  generalize x.world = w4 at hb
  clear x
  have S := hid (S.out.on hb)
  clear hb
  obtain ⟨hB, hl, h0, h1, h2, h3, h4, h5, h6, h7, h8, h9⟩ := S.out
  dsimp only at h0 h1 h2 h3 h4 h5 h6 h7 h8 h9
  go_upto_region 9 with fail
  have x0 := fun x : Later w4 => Later.cell (a := ⟨w.heap.size, 0, none⟩) hl h0 x
  have x1 := fun x : Later w4 => Later.cell (a := ⟨w.heap.size, 1, none⟩) hl h1 x
  have x2 := fun x : Later w4 => Later.cell (a := ⟨w.heap.size, 2, none⟩) hl h2 x
  have x3 := fun x : Later w4 => Later.cell (a := ⟨w.heap.size, 3, none⟩) hl h3 x
  have x4 := fun x : Later w4 => Later.cell (a := ⟨w.heap.size, 4, none⟩) hl h4 x
  have x5 := fun x : Later w4 => Later.cell (a := ⟨w.heap.size, 5, none⟩) hl h5 x
  have x6 := fun x : Later w4 => Later.cell (a := ⟨w.heap.size, 6, none⟩) hl h6 x
  have x7 := fun x : Later w4 => Later.cell (a := ⟨w.heap.size, 7, none⟩) hl h7 x
  have x8 := fun x : Later w4 => Later.cell (a := ⟨w.heap.size, 8, none⟩) hl h8 x
  have x9 := fun x : Later w4 => Later.cell (a := ⟨w.heap.size, 9, none⟩) hl h9 x
  clear hB hl h0 h1 h2 h3 h4 h5 h6 h7 h8 h9
  refine wp_region_quiet_later (by kernel_rfl) (by kernel_rfl) ?_
  repeat (go_big_quiet_step ((first | (go_at_call 10; refine later_of (v := .int .i64 d') ?_; exact D2.out _) | (go_at_call 11; refine later_of (v := .bool false) ?_; exact M2.out _))))
  refine wpQuiet_nil ?_
  intro _ hw'
  obtain ⟨x, hw''⟩ := hw'
  subst hw''
  clear x0 x1 x2 x3 x4 x5 x6 x7 x8 x9
  have hb := x.below
  generalize x.world = w5 at hb
  clear x
  have S := hid (S.out.on hb)
  clear hb
  obtain ⟨hB, hl, h0, h1, h2, h3, h4, h5, h6, h7, h8, h9⟩ := S.out
  dsimp only at h0 h1 h2 h3 h4 h5 h6 h7 h8 h9
  go_wp2_with fail
  go_ret
  exact ⟨rfl, hB⟩

theorem when_walk (p : Pol) (o c : Int) (w : World) :
    Calls Try.prog 4 #[.agg #[.int .i64 p.k, .int .i64 p.cap, .int .i64 p.num, .int .i64 p.den, .int .i64 p.width, .int .i64 p.count, .int .i64 p.keys, .int .i64 p.slots, .int .i64 p.every, .int .i64 p.seg], .int .i64 o, .int .i64 c] w fun e w' => e = .returned (.bool true) ∧ Below w.heap.size w w' := by
  rcases whenP_law p o c with ⟨h1, h2⟩ | ⟨h0, h1, h2⟩
  · exact when_never p o c h1 (h2 _ (by omega) (by omega)) w
  · by_cases hz : whenP p o c = 0
    · exact when_now p o c hz (by rw [h2 0 (by omega) (by omega)]; simp [hz]) w
    · exact when_later p o c _ rfl (by omega) h1 (by rw [h2 _ h0 h1]; simp) (by rw [h2 _ (by omega) (by omega)]; simp; omega) w

end Go.Proofs.Ytlhnlickmjdjfaa
