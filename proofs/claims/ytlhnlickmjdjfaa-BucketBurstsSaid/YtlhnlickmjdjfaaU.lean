/- The law BucketOwes: Decay, May, Take are the document's, at every policy and all numbers. -/
import Derived.Test.YtlhnlickmjdjfaaT
namespace Go.Proofs.Ytlhnlickmjdjfaa
open Go.RowKit

/-- Where a law stands: what was there is there; the policy lies in its box. -/
def Stand (w W : World) (p : Pol) : Prop := Below w.heap.size w W ∧ w.heap.size < W.heap.size ∧ (W.cell? ⟨w.heap.size, 0, none⟩ = some (.int .i64 p.k) ∧ W.cell? ⟨w.heap.size, 1, none⟩ = some (.int .i64 p.cap) ∧ W.cell? ⟨w.heap.size, 2, none⟩ = some (.int .i64 p.num) ∧ W.cell? ⟨w.heap.size, 3, none⟩ = some (.int .i64 p.den) ∧ W.cell? ⟨w.heap.size, 4, none⟩ = some (.int .i64 p.width) ∧ W.cell? ⟨w.heap.size, 5, none⟩ = some (.int .i64 p.count) ∧ W.cell? ⟨w.heap.size, 6, none⟩ = some (.int .i64 p.keys) ∧ W.cell? ⟨w.heap.size, 7, none⟩ = some (.int .i64 p.slots) ∧ W.cell? ⟨w.heap.size, 8, none⟩ = some (.int .i64 p.every) ∧ W.cell? ⟨w.heap.size, 9, none⟩ = some (.int .i64 p.seg))
theorem Stand.on {w W W' : World} {p : Pol} (h : Stand w W p) (hb : Below W.heap.size W W') : Stand w W' p :=
  ⟨h.1.trans (hb.mono (Nat.le_of_lt h.2.1)), Nat.lt_of_lt_of_le h.2.1 hb.size, ten_below hb h.2.1 h.2.2⟩
theorem Stand.begin (w : World) (p : Pol) : Stand w (w.alloc (.cells #[.int .i64 p.k, .int .i64 p.cap, .int .i64 p.num, .int .i64 p.den, .int .i64 p.width, .int .i64 p.count, .int .i64 p.keys, .int .i64 p.slots, .int .i64 p.every, .int .i64 p.seg] 23)) p :=
  ⟨(Below.refl w.heap.size w).alloc (Nat.le_refl _) _, by simp, by simp⟩

set_option maxHeartbeats 2000000 in
theorem owes_walk (p : Pol) (o t c : Int) (w : World) :
    Calls Try.prog 3 #[.agg #[.int .i64 p.k, .int .i64 p.cap, .int .i64 p.num, .int .i64 p.den, .int .i64 p.width, .int .i64 p.count, .int .i64 p.keys, .int .i64 p.slots, .int .i64 p.every, .int .i64 p.seg], .int .i64 o, .int .i64 t, .int .i64 c] w fun e w' => e = .returned (.bool true) ∧ Below w.heap.size w w' := by
  have A := hid awake_call
  have D1 := hid (fun w => decay_call p o t w)
  have M1 := hid (fun w => may_call p o c w)
  have T1 := hid (fun w => take_call p o c w)
  have D2 := hid (fun w => refDecay_call p o t w)
  have M2 := hid (fun w => refMay_call p o c w)
  have T2 := hid (fun w => refTake_call p o c w)
  generalize decayP p o t = d at D1 D2
  generalize mayP p o c = m at M1 M2
  generalize takeP p o c = q at T1 T2
  have S := hid (Stand.begin w p)
  obtain ⟨k, cap, num, den, width, count, keys, slots, every, seg⟩ := p
  dsimp only at *
  go_enter Try.func3, Try.ntmps3
  go_upto_region 1 with fail
  refine abstract_world (fun W => Stand w W ⟨k, cap, num, den, width, count, keys, slots, every, seg⟩) S.out ?_
  clear S
  intro W S0
  have S := hid S0
  clear S0
  obtain ⟨hB, hl, h0, h1, h2, h3, h4, h5, h6, h7, h8, h9⟩ := S.out
  dsimp only at h0 h1 h2 h3 h4 h5 h6 h7 h8 h9
  go_wp2_with fail
  refine (A.out _).mono ?_
  rintro e w1 ⟨rfl, hb⟩
  have S := hid (S.out.on hb)
  clear hb hB hl h0 h1 h2 h3 h4 h5 h6 h7 h8 h9
  obtain ⟨hB, hl, h0, h1, h2, h3, h4, h5, h6, h7, h8, h9⟩ := S.out
  dsimp only at h0 h1 h2 h3 h4 h5 h6 h7 h8 h9
  go_wp2_with fail
  refine (D1.out _).mono ?_
  rintro e w2 ⟨rfl, hb⟩
  have S := hid (S.out.on hb)
  clear hb hB hl h0 h1 h2 h3 h4 h5 h6 h7 h8 h9
  obtain ⟨hB, hl, h0, h1, h2, h3, h4, h5, h6, h7, h8, h9⟩ := S.out
  dsimp only at h0 h1 h2 h3 h4 h5 h6 h7 h8 h9
  go_wp2_with fail
  refine (M1.out _).mono ?_
  rintro e w3 ⟨rfl, hb⟩
  have S := hid (S.out.on hb)
  clear hb hB hl h0 h1 h2 h3 h4 h5 h6 h7 h8 h9
  obtain ⟨hB, hl, h0, h1, h2, h3, h4, h5, h6, h7, h8, h9⟩ := S.out
  dsimp only at h0 h1 h2 h3 h4 h5 h6 h7 h8 h9
  go_wp2_with fail
  refine (T1.out _).mono ?_
  rintro e w4 ⟨rfl, hb⟩
  have S := hid (S.out.on hb)
  clear hb hB hl h0 h1 h2 h3 h4 h5 h6 h7 h8 h9
  obtain ⟨hB, hl, h0, h1, h2, h3, h4, h5, h6, h7, h8, h9⟩ := S.out
  dsimp only at h0 h1 h2 h3 h4 h5 h6 h7 h8 h9
  go_wp2_with fail
  refine (D2.out _).mono ?_
  rintro e w5 ⟨rfl, hb⟩
  have S := hid (S.out.on hb)
  clear hb hB hl h0 h1 h2 h3 h4 h5 h6 h7 h8 h9
  obtain ⟨hB, hl, h0, h1, h2, h3, h4, h5, h6, h7, h8, h9⟩ := S.out
  dsimp only at h0 h1 h2 h3 h4 h5 h6 h7 h8 h9
  go_wp2_with fail
  refine (M2.out _).mono ?_
  rintro e w6 ⟨rfl, hb⟩
  have S := hid (S.out.on hb)
  clear hb hB hl h0 h1 h2 h3 h4 h5 h6 h7 h8 h9
  obtain ⟨hB, hl, h0, h1, h2, h3, h4, h5, h6, h7, h8, h9⟩ := S.out
  dsimp only at h0 h1 h2 h3 h4 h5 h6 h7 h8 h9
  go_wp2_with fail
  refine (T2.out _).mono ?_
  rintro e w7 ⟨rfl, hb⟩
  have S := hid (S.out.on hb)
  clear hb hB hl h0 h1 h2 h3 h4 h5 h6 h7 h8 h9
  obtain ⟨hB, hl, h0, h1, h2, h3, h4, h5, h6, h7, h8, h9⟩ := S.out
  dsimp only at h0 h1 h2 h3 h4 h5 h6 h7 h8 h9
  go_wp2_with fail
  go_ret
  exact ⟨rfl, hB⟩

end Go.Proofs.Ytlhnlickmjdjfaa
