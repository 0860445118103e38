/- Contract: a window as it counts, in memory of its own. -/
import Derived.Test.YtkcnenekmjgmgaaJ
namespace Go.Proofs.Ytkcnenekmjgmgaa
open Go.RowKit

set_option maxHeartbeats 2000000 in
set_option linter.unusedVariables false in
theorem counts_low (p : Pol) (gg : Int) (l : List Int) (A : Option Addr) (c : Nat) (w : World) (hm : meansW p = true) (hl : l.length ≤ 9223372036854775807)
    (hrd : 0 < l.length → ∃ g o, A = some ⟨g, o, none⟩ ∧ g < w.heap.size ∧ ∀ i, i < l.length → w.cell? ⟨g, o + i, none⟩ = some (.int .i64 (l.getD i 0))) (h1 : gg < 0) :
    Calls Try.prog 32 #[.agg #[.int .i64 p.k, .int .i64 p.cap, .int .i64 p.num, .int .i64 p.den, .int .i64 p.width, .int .i64 p.count, .int .i64 p.keys, .int .i64 p.slots, .int .i64 p.every, .int .i64 p.seg], .agg #[.int .i64 gg, .slice A l.length c]] w fun e w' => ∃ sl, e = .returned (.agg #[.int .i64 0, sl]) ∧ Own w.heap.size w' sl (zeros p.count.toNat) ∧ Below w.heap.size w w' := by
  have hgd := fun w => grid_any p 1099511627776 w
  have hfr := fun w => fresh_yes p 0 hm w
  rw [gridP_yes hm] at hgd
  rw [gridN_zero] at hfr
  have hcc := (meansW_bounds hm).2.2.2
  obtain ⟨k, cap, num, den, width, count, keys, slots, every, seg⟩ := p
  dsimp only at *
  obtain ⟨n, rfl⟩ : ∃ n : Nat, count = n := ⟨count.toNat, by omega⟩
  generalize gridN _ 1099511627776 = gt at *
  have hct : ∀ w1, Below w.heap.size w w1 → Calls Try.prog 41 #[.slice A l.length c, .func (.func 40) #[] #[]] w1 fun e w' => e = .returned (.bool (l.any badN)) ∧ w1 = w' := fun w1 hb =>
    contains_any l A c w1 (by omega) fun h0 => by
      obtain ⟨g, o, e, hg, hc⟩ := hrd h0
      exact ⟨g, o, e, Nat.lt_of_lt_of_le hg hb.size, fun i hi => (hb.cell (p := ⟨g, o + i, none⟩) hg).trans (hc i hi)⟩
  have HG := hid hgd
  have HF := hid hfr
  have HCT := hid hct
  have HRD := hid hrd
  clear hm hgd hfr hct hrd
  go_enter Try.func32, Try.ntmps32
  go_upto_region 2 with fail
  refine abstract_world (fun W => Below w.heap.size w W ∧ w.heap.size + 2 < W.heap.size ∧ W.heap[w.heap.size]? = some (.cells #[.int .i64 k, .int .i64 cap, .int .i64 num, .int .i64 den, .int .i64 width, .int .i64 n, .int .i64 keys, .int .i64 slots, .int .i64 every, .int .i64 seg] 23 (0, 0)) ∧ W.heap[w.heap.size + 1]? = some (.cells #[.int .i64 gg, .slice A l.length c] 26 (0, 0)) ∧ W.heap[w.heap.size + 2]? = some (.cells #[.int .i64 0, .slice none 0 0] 26 (0, 0))) ?_ ?_
  · refine ⟨(((Below.refl _ _).alloc (Nat.le_refl _) _).alloc (by simp) _).alloc (by simp; omega) _, by simp, ?_, ?_, ?_⟩
    · exact heap_alloc_keep _ _ (heap_alloc_keep _ _ (heap_alloc_same _ _))
    · have := heap_alloc_same (w.alloc (.cells #[.int .i64 k, .int .i64 cap, .int .i64 num, .int .i64 den, .int .i64 width, .int .i64 n, .int .i64 keys, .int .i64 slots, .int .i64 every, .int .i64 seg] 23)) (.cells #[.int .i64 gg, .slice A l.length c] 26)
      exact heap_alloc_keep _ _ (by simpa using this)
    · have := heap_alloc_same ((w.alloc (.cells #[.int .i64 k, .int .i64 cap, .int .i64 num, .int .i64 den, .int .i64 width, .int .i64 n, .int .i64 keys, .int .i64 slots, .int .i64 every, .int .i64 seg] 23)).alloc (.cells #[.int .i64 gg, .slice A l.length c] 26)) (.cells #[.int .i64 0, .slice none 0 0] 26)
      simpa using this
  intro W ⟨hB, hlt, hp, hs, hr⟩
  skip
  have HCTL := hid (fun x : Later W => HCT.out x.world (hB.trans (x.below.mono hB.size)))
  have c1 : W.cell? ⟨w.heap.size, 0, none⟩ = some (.int .i64 k) ∧ W.cell? ⟨w.heap.size, 1, none⟩ = some (.int .i64 cap) ∧ W.cell? ⟨w.heap.size, 2, none⟩ = some (.int .i64 num) ∧ W.cell? ⟨w.heap.size, 3, none⟩ = some (.int .i64 den) ∧ W.cell? ⟨w.heap.size, 4, none⟩ = some (.int .i64 width) ∧ W.cell? ⟨w.heap.size, 5, none⟩ = some (.int .i64 n) ∧ W.cell? ⟨w.heap.size, 6, none⟩ = some (.int .i64 keys) ∧ W.cell? ⟨w.heap.size, 7, none⟩ = some (.int .i64 slots) ∧ W.cell? ⟨w.heap.size, 8, none⟩ = some (.int .i64 every) ∧ W.cell? ⟨w.heap.size, 9, none⟩ = some (.int .i64 seg) := by simp [World.cell?, hp]
  have c2 : W.cell? ⟨w.heap.size + 1, 0, none⟩ = some (.int .i64 gg) ∧ W.cell? ⟨w.heap.size + 1, 1, none⟩ = some (.slice A l.length c) := by simp [World.cell?, hs]
  obtain ⟨a0, a1, a2, a3, a4, a5, a6, a7, a8, a9⟩ := c1
  obtain ⟨b0, b1⟩ := c2
  have hz1 : w.heap.size < W.heap.size := by omega
  have hz2 : w.heap.size + 1 < W.heap.size := by omega
  have x0 := fun x : Later W => Later.cell (a := ⟨w.heap.size, 0, none⟩) hz1 a0 x
  have x1 := fun x : Later W => Later.cell (a := ⟨w.heap.size, 1, none⟩) hz1 a1 x
  have x2 := fun x : Later W => Later.cell (a := ⟨w.heap.size, 2, none⟩) hz1 a2 x
  have x3 := fun x : Later W => Later.cell (a := ⟨w.heap.size, 3, none⟩) hz1 a3 x
  have x4 := fun x : Later W => Later.cell (a := ⟨w.heap.size, 4, none⟩) hz1 a4 x
  have x5 := fun x : Later W => Later.cell (a := ⟨w.heap.size, 5, none⟩) hz1 a5 x
  have x6 := fun x : Later W => Later.cell (a := ⟨w.heap.size, 6, none⟩) hz1 a6 x
  have x7 := fun x : Later W => Later.cell (a := ⟨w.heap.size, 7, none⟩) hz1 a7 x
  have x8 := fun x : Later W => Later.cell (a := ⟨w.heap.size, 8, none⟩) hz1 a8 x
  have x9 := fun x : Later W => Later.cell (a := ⟨w.heap.size, 9, none⟩) hz1 a9 x
  have y0 := fun x : Later W => Later.cell (a := ⟨w.heap.size + 1, 0, none⟩) hz2 b0 x
  have y1 := fun x : Later W => Later.cell (a := ⟨w.heap.size + 1, 1, none⟩) hz2 b1 x
  have HROWP := hid hp
  have HROWS := hid hs
  have HROWR := hid hr
  clear a0 a1 a2 a3 a4 a5 a6 a7 a8 a9 b0 b1 hp hs hr
  generalize hany : l.any badN = q at *
  refine wp_region_quiet_later (by kernel_rfl) (by kernel_rfl) ?_
  repeat (go_big_quiet_step ((first | (go_at_call 17; refine later_of (v := .int .i64 gt) ?_; exact HG.out _) | (go_at_call 41; refine later_same (v := .bool q) ?_; exact HCTL.out _))))
  refine wpQuiet_nil ?_
  intro _ hw'
  obtain ⟨x, hw''⟩ := hw'
  subst hw''
  have hx := x.below
  generalize x.world = w4 at hx
  clear x x0 x1 x2 x3 x4 x5 x6 x7 x8 x9 y0 y1
  have HP4 := hid ((hx.block _ (by omega : w.heap.size < W.heap.size)).trans HROWP.out)
  have HS4 := hid ((hx.block _ (by omega : w.heap.size + 1 < W.heap.size)).trans HROWS.out)
  have HR4 := hid ((hx.block _ hlt).trans HROWR.out)
  have hlt4 : w.heap.size + 2 < w4.heap.size := Nat.lt_of_lt_of_le hlt hx.size
  have hB4 := hid (hB.trans (hx.mono hB.size))
  clear hx hlt hz1 hz2 hB
  have c1 : w4.cell? ⟨w.heap.size, 0, none⟩ = some (.int .i64 k) ∧ w4.cell? ⟨w.heap.size, 1, none⟩ = some (.int .i64 cap) ∧ w4.cell? ⟨w.heap.size, 2, none⟩ = some (.int .i64 num) ∧ w4.cell? ⟨w.heap.size, 3, none⟩ = some (.int .i64 den) ∧ w4.cell? ⟨w.heap.size, 4, none⟩ = some (.int .i64 width) ∧ w4.cell? ⟨w.heap.size, 5, none⟩ = some (.int .i64 n) ∧ w4.cell? ⟨w.heap.size, 6, none⟩ = some (.int .i64 keys) ∧ w4.cell? ⟨w.heap.size, 7, none⟩ = some (.int .i64 slots) ∧ w4.cell? ⟨w.heap.size, 8, none⟩ = some (.int .i64 every) ∧ w4.cell? ⟨w.heap.size, 9, none⟩ = some (.int .i64 seg) := by have hp := HP4.out; simp [World.cell?, hp]
  obtain ⟨a0, a1, a2, a3, a4, a5, a6, a7, a8, a9⟩ := c1
  have d2 : w4.cell? ⟨w.heap.size + 2, 0, none⟩ = some (.int .i64 0) ∧ w4.cell? ⟨w.heap.size + 2, 1, none⟩ = some (.slice none 0 0) := by have hp := HR4.out; simp [World.cell?, hp]
  go_wp2_with fail
  refine (HF.out _).mono ?_
  rintro e w5 ⟨sl, rfl, ho, hb⟩
  have HO := hid ho
  clear ho
  have hrow := (hb.block _ hlt4).trans HR4.out
  have hlt5 : w.heap.size + 2 < w5.heap.size := Nat.lt_of_lt_of_le hlt4 hb.size
  obtain ⟨A2, cc, rfl, hf⟩ := HO.out.form
  have d2 : w5.cell? ⟨w.heap.size + 2, 0, none⟩ = some (.int .i64 0) ∧ w5.cell? ⟨w.heap.size + 2, 1, none⟩ = some (.slice none 0 0) ∧ w5.frozen? ⟨w.heap.size + 2, 0, none⟩ = false ∧ w5.frozen? ⟨w.heap.size + 2, 1, none⟩ = false := by simp [World.cell?, World.frozen?, hrow]
  obtain ⟨e0, e1, e2, e3⟩ := d2
  have hrow2 := row_set2 (x := .int .i64 0) (y := .slice A2 (zeros (n : Int).toNat).length cc) hrow
  have HROW2 := hid hrow2
  have HHF := hid hf
  clear hf
  clear hrow hrow2 a0 a1 a2 a3 a4 a5 a6 a7 a8 a9
  go_wp2_with fail
  refine bodyPost_ret (results_cell_row rfl _ _ (w.heap.size + 2) 26 #[.int .i64 0, .slice A2 (zeros (n : Int).toNat).length cc] (0, 0) _ rfl HROW2.out Try.underlying26 rfl info26) rfl ?_
  have hs4 := hB4.out.size
  refine ⟨_, rfl, ?_, ((hB4.out.trans (hb.mono hs4)).setCell (show w.heap.size ≤ w.heap.size + 2 by omega) _).setCell (show w.heap.size ≤ w.heap.size + 2 by omega) _⟩
  refine Own.of_block (w := w5) (HO.out.lower hs4) fun k hk => ?_
  have hk2 := (World.ownsRow.lt HO.out k hk).1
  rw [heap_setCell_other _ _ _ _ (by simp; omega), heap_setCell_other _ _ _ _ (by simp; omega)]

set_option maxHeartbeats 2000000 in
set_option linter.unusedVariables false in
theorem counts_high (p : Pol) (gg : Int) (l : List Int) (A : Option Addr) (c : Nat) (w : World) (hm : meansW p = true) (hl : l.length ≤ 9223372036854775807)
    (hrd : 0 < l.length → ∃ g o, A = some ⟨g, o, none⟩ ∧ g < w.heap.size ∧ ∀ i, i < l.length → w.cell? ⟨g, o + i, none⟩ = some (.int .i64 (l.getD i 0))) (h0 : ¬ gg < 0) (h1 : gridN p 1099511627776 < gg) :
    Calls Try.prog 32 #[.agg #[.int .i64 p.k, .int .i64 p.cap, .int .i64 p.num, .int .i64 p.den, .int .i64 p.width, .int .i64 p.count, .int .i64 p.keys, .int .i64 p.slots, .int .i64 p.every, .int .i64 p.seg], .agg #[.int .i64 gg, .slice A l.length c]] w fun e w' => ∃ sl, e = .returned (.agg #[.int .i64 0, sl]) ∧ Own w.heap.size w' sl (zeros p.count.toNat) ∧ Below w.heap.size w w' := by
  have hgd := fun w => grid_any p 1099511627776 w
  have hfr := fun w => fresh_yes p 0 hm w
  rw [gridP_yes hm] at hgd
  rw [gridN_zero] at hfr
  have hcc := (meansW_bounds hm).2.2.2
  obtain ⟨k, cap, num, den, width, count, keys, slots, every, seg⟩ := p
  dsimp only at *
  obtain ⟨n, rfl⟩ : ∃ n : Nat, count = n := ⟨count.toNat, by omega⟩
  generalize gridN _ 1099511627776 = gt at *
  have hct : ∀ w1, Below w.heap.size w w1 → Calls Try.prog 41 #[.slice A l.length c, .func (.func 40) #[] #[]] w1 fun e w' => e = .returned (.bool (l.any badN)) ∧ w1 = w' := fun w1 hb =>
    contains_any l A c w1 (by omega) fun h0 => by
      obtain ⟨g, o, e, hg, hc⟩ := hrd h0
      exact ⟨g, o, e, Nat.lt_of_lt_of_le hg hb.size, fun i hi => (hb.cell (p := ⟨g, o + i, none⟩) hg).trans (hc i hi)⟩
  have HG := hid hgd
  have HF := hid hfr
  have HCT := hid hct
  have HRD := hid hrd
  clear hm hgd hfr hct hrd
  go_enter Try.func32, Try.ntmps32
  go_upto_region 2 with fail
  refine abstract_world (fun W => Below w.heap.size w W ∧ w.heap.size + 2 < W.heap.size ∧ W.heap[w.heap.size]? = some (.cells #[.int .i64 k, .int .i64 cap, .int .i64 num, .int .i64 den, .int .i64 width, .int .i64 n, .int .i64 keys, .int .i64 slots, .int .i64 every, .int .i64 seg] 23 (0, 0)) ∧ W.heap[w.heap.size + 1]? = some (.cells #[.int .i64 gg, .slice A l.length c] 26 (0, 0)) ∧ W.heap[w.heap.size + 2]? = some (.cells #[.int .i64 0, .slice none 0 0] 26 (0, 0))) ?_ ?_
  · refine ⟨(((Below.refl _ _).alloc (Nat.le_refl _) _).alloc (by simp) _).alloc (by simp; omega) _, by simp, ?_, ?_, ?_⟩
    · exact heap_alloc_keep _ _ (heap_alloc_keep _ _ (heap_alloc_same _ _))
    · have := heap_alloc_same (w.alloc (.cells #[.int .i64 k, .int .i64 cap, .int .i64 num, .int .i64 den, .int .i64 width, .int .i64 n, .int .i64 keys, .int .i64 slots, .int .i64 every, .int .i64 seg] 23)) (.cells #[.int .i64 gg, .slice A l.length c] 26)
      exact heap_alloc_keep _ _ (by simpa using this)
    · have := heap_alloc_same ((w.alloc (.cells #[.int .i64 k, .int .i64 cap, .int .i64 num, .int .i64 den, .int .i64 width, .int .i64 n, .int .i64 keys, .int .i64 slots, .int .i64 every, .int .i64 seg] 23)).alloc (.cells #[.int .i64 gg, .slice A l.length c] 26)) (.cells #[.int .i64 0, .slice none 0 0] 26)
      simpa using this
  intro W ⟨hB, hlt, hp, hs, hr⟩
  skip
  have HCTL := hid (fun x : Later W => HCT.out x.world (hB.trans (x.below.mono hB.size)))
  have c1 : W.cell? ⟨w.heap.size, 0, none⟩ = some (.int .i64 k) ∧ W.cell? ⟨w.heap.size, 1, none⟩ = some (.int .i64 cap) ∧ W.cell? ⟨w.heap.size, 2, none⟩ = some (.int .i64 num) ∧ W.cell? ⟨w.heap.size, 3, none⟩ = some (.int .i64 den) ∧ W.cell? ⟨w.heap.size, 4, none⟩ = some (.int .i64 width) ∧ W.cell? ⟨w.heap.size, 5, none⟩ = some (.int .i64 n) ∧ W.cell? ⟨w.heap.size, 6, none⟩ = some (.int .i64 keys) ∧ W.cell? ⟨w.heap.size, 7, none⟩ = some (.int .i64 slots) ∧ W.cell? ⟨w.heap.size, 8, none⟩ = some (.int .i64 every) ∧ W.cell? ⟨w.heap.size, 9, none⟩ = some (.int .i64 seg) := by simp [World.cell?, hp]
  have c2 : W.cell? ⟨w.heap.size + 1, 0, none⟩ = some (.int .i64 gg) ∧ W.cell? ⟨w.heap.size + 1, 1, none⟩ = some (.slice A l.length c) := by simp [World.cell?, hs]
  obtain ⟨a0, a1, a2, a3, a4, a5, a6, a7, a8, a9⟩ := c1
  obtain ⟨b0, b1⟩ := c2
  have hz1 : w.heap.size < W.heap.size := by omega
  have hz2 : w.heap.size + 1 < W.heap.size := by omega
  have x0 := fun x : Later W => Later.cell (a := ⟨w.heap.size, 0, none⟩) hz1 a0 x
  have x1 := fun x : Later W => Later.cell (a := ⟨w.heap.size, 1, none⟩) hz1 a1 x
  have x2 := fun x : Later W => Later.cell (a := ⟨w.heap.size, 2, none⟩) hz1 a2 x
  have x3 := fun x : Later W => Later.cell (a := ⟨w.heap.size, 3, none⟩) hz1 a3 x
  have x4 := fun x : Later W => Later.cell (a := ⟨w.heap.size, 4, none⟩) hz1 a4 x
  have x5 := fun x : Later W => Later.cell (a := ⟨w.heap.size, 5, none⟩) hz1 a5 x
  have x6 := fun x : Later W => Later.cell (a := ⟨w.heap.size, 6, none⟩) hz1 a6 x
  have x7 := fun x : Later W => Later.cell (a := ⟨w.heap.size, 7, none⟩) hz1 a7 x
  have x8 := fun x : Later W => Later.cell (a := ⟨w.heap.size, 8, none⟩) hz1 a8 x
  have x9 := fun x : Later W => Later.cell (a := ⟨w.heap.size, 9, none⟩) hz1 a9 x
  have y0 := fun x : Later W => Later.cell (a := ⟨w.heap.size + 1, 0, none⟩) hz2 b0 x
  have y1 := fun x : Later W => Later.cell (a := ⟨w.heap.size + 1, 1, none⟩) hz2 b1 x
  have HROWP := hid hp
  have HROWS := hid hs
  have HROWR := hid hr
  clear a0 a1 a2 a3 a4 a5 a6 a7 a8 a9 b0 b1 hp hs hr
  generalize hany : l.any badN = q at *
  refine wp_region_quiet_later (by kernel_rfl) (by kernel_rfl) ?_
  repeat (go_big_quiet_step ((first | (go_at_call 17; refine later_of (v := .int .i64 gt) ?_; exact HG.out _) | (go_at_call 41; refine later_same (v := .bool q) ?_; exact HCTL.out _))))
  refine wpQuiet_nil ?_
  intro _ hw'
  obtain ⟨x, hw''⟩ := hw'
  subst hw''
  have hx := x.below
  generalize x.world = w4 at hx
  clear x x0 x1 x2 x3 x4 x5 x6 x7 x8 x9 y0 y1
  have HP4 := hid ((hx.block _ (by omega : w.heap.size < W.heap.size)).trans HROWP.out)
  have HS4 := hid ((hx.block _ (by omega : w.heap.size + 1 < W.heap.size)).trans HROWS.out)
  have HR4 := hid ((hx.block _ hlt).trans HROWR.out)
  have hlt4 : w.heap.size + 2 < w4.heap.size := Nat.lt_of_lt_of_le hlt hx.size
  have hB4 := hid (hB.trans (hx.mono hB.size))
  clear hx hlt hz1 hz2 hB
  have c1 : w4.cell? ⟨w.heap.size, 0, none⟩ = some (.int .i64 k) ∧ w4.cell? ⟨w.heap.size, 1, none⟩ = some (.int .i64 cap) ∧ w4.cell? ⟨w.heap.size, 2, none⟩ = some (.int .i64 num) ∧ w4.cell? ⟨w.heap.size, 3, none⟩ = some (.int .i64 den) ∧ w4.cell? ⟨w.heap.size, 4, none⟩ = some (.int .i64 width) ∧ w4.cell? ⟨w.heap.size, 5, none⟩ = some (.int .i64 n) ∧ w4.cell? ⟨w.heap.size, 6, none⟩ = some (.int .i64 keys) ∧ w4.cell? ⟨w.heap.size, 7, none⟩ = some (.int .i64 slots) ∧ w4.cell? ⟨w.heap.size, 8, none⟩ = some (.int .i64 every) ∧ w4.cell? ⟨w.heap.size, 9, none⟩ = some (.int .i64 seg) := by have hp := HP4.out; simp [World.cell?, hp]
  obtain ⟨a0, a1, a2, a3, a4, a5, a6, a7, a8, a9⟩ := c1
  have d2 : w4.cell? ⟨w.heap.size + 2, 0, none⟩ = some (.int .i64 0) ∧ w4.cell? ⟨w.heap.size + 2, 1, none⟩ = some (.slice none 0 0) := by have hp := HR4.out; simp [World.cell?, hp]
  go_wp2_with fail
  refine (HF.out _).mono ?_
  rintro e w5 ⟨sl, rfl, ho, hb⟩
  have HO := hid ho
  clear ho
  have hrow := (hb.block _ hlt4).trans HR4.out
  have hlt5 : w.heap.size + 2 < w5.heap.size := Nat.lt_of_lt_of_le hlt4 hb.size
  obtain ⟨A2, cc, rfl, hf⟩ := HO.out.form
  have d2 : w5.cell? ⟨w.heap.size + 2, 0, none⟩ = some (.int .i64 0) ∧ w5.cell? ⟨w.heap.size + 2, 1, none⟩ = some (.slice none 0 0) ∧ w5.frozen? ⟨w.heap.size + 2, 0, none⟩ = false ∧ w5.frozen? ⟨w.heap.size + 2, 1, none⟩ = false := by simp [World.cell?, World.frozen?, hrow]
  obtain ⟨e0, e1, e2, e3⟩ := d2
  have hrow2 := row_set2 (x := .int .i64 0) (y := .slice A2 (zeros (n : Int).toNat).length cc) hrow
  have HROW2 := hid hrow2
  have HHF := hid hf
  clear hf
  clear hrow hrow2 a0 a1 a2 a3 a4 a5 a6 a7 a8 a9
  go_wp2_with fail
  refine bodyPost_ret (results_cell_row rfl _ _ (w.heap.size + 2) 26 #[.int .i64 0, .slice A2 (zeros (n : Int).toNat).length cc] (0, 0) _ rfl HROW2.out Try.underlying26 rfl info26) rfl ?_
  have hs4 := hB4.out.size
  refine ⟨_, rfl, ?_, ((hB4.out.trans (hb.mono hs4)).setCell (show w.heap.size ≤ w.heap.size + 2 by omega) _).setCell (show w.heap.size ≤ w.heap.size + 2 by omega) _⟩
  refine Own.of_block (w := w5) (HO.out.lower hs4) fun k hk => ?_
  have hk2 := (World.ownsRow.lt HO.out k hk).1
  rw [heap_setCell_other _ _ _ _ (by simp; omega), heap_setCell_other _ _ _ _ (by simp; omega)]

set_option maxHeartbeats 2000000 in
set_option linter.unusedVariables false in
theorem counts_len (p : Pol) (gg : Int) (l : List Int) (A : Option Addr) (c : Nat) (w : World) (hm : meansW p = true) (hl : l.length ≤ 9223372036854775807)
    (hrd : 0 < l.length → ∃ g o, A = some ⟨g, o, none⟩ ∧ g < w.heap.size ∧ ∀ i, i < l.length → w.cell? ⟨g, o + i, none⟩ = some (.int .i64 (l.getD i 0))) (h0 : ¬ gg < 0) (h1 : ¬ gridN p 1099511627776 < gg) (h2 : ¬ (l.length : Int) = p.count) :
    Calls Try.prog 32 #[.agg #[.int .i64 p.k, .int .i64 p.cap, .int .i64 p.num, .int .i64 p.den, .int .i64 p.width, .int .i64 p.count, .int .i64 p.keys, .int .i64 p.slots, .int .i64 p.every, .int .i64 p.seg], .agg #[.int .i64 gg, .slice A l.length c]] w fun e w' => ∃ sl, e = .returned (.agg #[.int .i64 0, sl]) ∧ Own w.heap.size w' sl (zeros p.count.toNat) ∧ Below w.heap.size w w' := by
  have hgd := fun w => grid_any p 1099511627776 w
  have hfr := fun w => fresh_yes p 0 hm w
  rw [gridP_yes hm] at hgd
  rw [gridN_zero] at hfr
  have hcc := (meansW_bounds hm).2.2.2
  obtain ⟨k, cap, num, den, width, count, keys, slots, every, seg⟩ := p
  dsimp only at *
  obtain ⟨n, rfl⟩ : ∃ n : Nat, count = n := ⟨count.toNat, by omega⟩
  generalize gridN _ 1099511627776 = gt at *
  have hct : ∀ w1, Below w.heap.size w w1 → Calls Try.prog 41 #[.slice A l.length c, .func (.func 40) #[] #[]] w1 fun e w' => e = .returned (.bool (l.any badN)) ∧ w1 = w' := fun w1 hb =>
    contains_any l A c w1 (by omega) fun h0 => by
      obtain ⟨g, o, e, hg, hc⟩ := hrd h0
      exact ⟨g, o, e, Nat.lt_of_lt_of_le hg hb.size, fun i hi => (hb.cell (p := ⟨g, o + i, none⟩) hg).trans (hc i hi)⟩
  have HG := hid hgd
  have HF := hid hfr
  have HCT := hid hct
  have HRD := hid hrd
  clear hm hgd hfr hct hrd
  go_enter Try.func32, Try.ntmps32
  go_upto_region 2 with fail
  refine abstract_world (fun W => Below w.heap.size w W ∧ w.heap.size + 2 < W.heap.size ∧ W.heap[w.heap.size]? = some (.cells #[.int .i64 k, .int .i64 cap, .int .i64 num, .int .i64 den, .int .i64 width, .int .i64 n, .int .i64 keys, .int .i64 slots, .int .i64 every, .int .i64 seg] 23 (0, 0)) ∧ W.heap[w.heap.size + 1]? = some (.cells #[.int .i64 gg, .slice A l.length c] 26 (0, 0)) ∧ W.heap[w.heap.size + 2]? = some (.cells #[.int .i64 0, .slice none 0 0] 26 (0, 0))) ?_ ?_
  · refine ⟨(((Below.refl _ _).alloc (Nat.le_refl _) _).alloc (by simp) _).alloc (by simp; omega) _, by simp, ?_, ?_, ?_⟩
    · exact heap_alloc_keep _ _ (heap_alloc_keep _ _ (heap_alloc_same _ _))
    · have := heap_alloc_same (w.alloc (.cells #[.int .i64 k, .int .i64 cap, .int .i64 num, .int .i64 den, .int .i64 width, .int .i64 n, .int .i64 keys, .int .i64 slots, .int .i64 every, .int .i64 seg] 23)) (.cells #[.int .i64 gg, .slice A l.length c] 26)
      exact heap_alloc_keep _ _ (by simpa using this)
    · have := heap_alloc_same ((w.alloc (.cells #[.int .i64 k, .int .i64 cap, .int .i64 num, .int .i64 den, .int .i64 width, .int .i64 n, .int .i64 keys, .int .i64 slots, .int .i64 every, .int .i64 seg] 23)).alloc (.cells #[.int .i64 gg, .slice A l.length c] 26)) (.cells #[.int .i64 0, .slice none 0 0] 26)
      simpa using this
  intro W ⟨hB, hlt, hp, hs, hr⟩
  have hbne : ((l.length : Int) != (n : Int)) = true := by simp; omega
  have HCTL := hid (fun x : Later W => HCT.out x.world (hB.trans (x.below.mono hB.size)))
  have c1 : W.cell? ⟨w.heap.size, 0, none⟩ = some (.int .i64 k) ∧ W.cell? ⟨w.heap.size, 1, none⟩ = some (.int .i64 cap) ∧ W.cell? ⟨w.heap.size, 2, none⟩ = some (.int .i64 num) ∧ W.cell? ⟨w.heap.size, 3, none⟩ = some (.int .i64 den) ∧ W.cell? ⟨w.heap.size, 4, none⟩ = some (.int .i64 width) ∧ W.cell? ⟨w.heap.size, 5, none⟩ = some (.int .i64 n) ∧ W.cell? ⟨w.heap.size, 6, none⟩ = some (.int .i64 keys) ∧ W.cell? ⟨w.heap.size, 7, none⟩ = some (.int .i64 slots) ∧ W.cell? ⟨w.heap.size, 8, none⟩ = some (.int .i64 every) ∧ W.cell? ⟨w.heap.size, 9, none⟩ = some (.int .i64 seg) := by simp [World.cell?, hp]
  have c2 : W.cell? ⟨w.heap.size + 1, 0, none⟩ = some (.int .i64 gg) ∧ W.cell? ⟨w.heap.size + 1, 1, none⟩ = some (.slice A l.length c) := by simp [World.cell?, hs]
  obtain ⟨a0, a1, a2, a3, a4, a5, a6, a7, a8, a9⟩ := c1
  obtain ⟨b0, b1⟩ := c2
  have hz1 : w.heap.size < W.heap.size := by omega
  have hz2 : w.heap.size + 1 < W.heap.size := by omega
  have x0 := fun x : Later W => Later.cell (a := ⟨w.heap.size, 0, none⟩) hz1 a0 x
  have x1 := fun x : Later W => Later.cell (a := ⟨w.heap.size, 1, none⟩) hz1 a1 x
  have x2 := fun x : Later W => Later.cell (a := ⟨w.heap.size, 2, none⟩) hz1 a2 x
  have x3 := fun x : Later W => Later.cell (a := ⟨w.heap.size, 3, none⟩) hz1 a3 x
  have x4 := fun x : Later W => Later.cell (a := ⟨w.heap.size, 4, none⟩) hz1 a4 x
  have x5 := fun x : Later W => Later.cell (a := ⟨w.heap.size, 5, none⟩) hz1 a5 x
  have x6 := fun x : Later W => Later.cell (a := ⟨w.heap.size, 6, none⟩) hz1 a6 x
  have x7 := fun x : Later W => Later.cell (a := ⟨w.heap.size, 7, none⟩) hz1 a7 x
  have x8 := fun x : Later W => Later.cell (a := ⟨w.heap.size, 8, none⟩) hz1 a8 x
  have x9 := fun x : Later W => Later.cell (a := ⟨w.heap.size, 9, none⟩) hz1 a9 x
  have y0 := fun x : Later W => Later.cell (a := ⟨w.heap.size + 1, 0, none⟩) hz2 b0 x
  have y1 := fun x : Later W => Later.cell (a := ⟨w.heap.size + 1, 1, none⟩) hz2 b1 x
  have HROWP := hid hp
  have HROWS := hid hs
  have HROWR := hid hr
  clear a0 a1 a2 a3 a4 a5 a6 a7 a8 a9 b0 b1 hp hs hr
  generalize hany : l.any badN = q at *
  refine wp_region_quiet_later (by kernel_rfl) (by kernel_rfl) ?_
  repeat (go_big_quiet_step ((first | (go_at_call 17; refine later_of (v := .int .i64 gt) ?_; exact HG.out _) | (go_at_call 41; refine later_same (v := .bool q) ?_; exact HCTL.out _))))
  refine wpQuiet_nil ?_
  intro _ hw'
  obtain ⟨x, hw''⟩ := hw'
  subst hw''
  have hx := x.below
  generalize x.world = w4 at hx
  clear x x0 x1 x2 x3 x4 x5 x6 x7 x8 x9 y0 y1
  have HP4 := hid ((hx.block _ (by omega : w.heap.size < W.heap.size)).trans HROWP.out)
  have HS4 := hid ((hx.block _ (by omega : w.heap.size + 1 < W.heap.size)).trans HROWS.out)
  have HR4 := hid ((hx.block _ hlt).trans HROWR.out)
  have hlt4 : w.heap.size + 2 < w4.heap.size := Nat.lt_of_lt_of_le hlt hx.size
  have hB4 := hid (hB.trans (hx.mono hB.size))
  clear hx hlt hz1 hz2 hB
  have c1 : w4.cell? ⟨w.heap.size, 0, none⟩ = some (.int .i64 k) ∧ w4.cell? ⟨w.heap.size, 1, none⟩ = some (.int .i64 cap) ∧ w4.cell? ⟨w.heap.size, 2, none⟩ = some (.int .i64 num) ∧ w4.cell? ⟨w.heap.size, 3, none⟩ = some (.int .i64 den) ∧ w4.cell? ⟨w.heap.size, 4, none⟩ = some (.int .i64 width) ∧ w4.cell? ⟨w.heap.size, 5, none⟩ = some (.int .i64 n) ∧ w4.cell? ⟨w.heap.size, 6, none⟩ = some (.int .i64 keys) ∧ w4.cell? ⟨w.heap.size, 7, none⟩ = some (.int .i64 slots) ∧ w4.cell? ⟨w.heap.size, 8, none⟩ = some (.int .i64 every) ∧ w4.cell? ⟨w.heap.size, 9, none⟩ = some (.int .i64 seg) := by have hp := HP4.out; simp [World.cell?, hp]
  obtain ⟨a0, a1, a2, a3, a4, a5, a6, a7, a8, a9⟩ := c1
  have d2 : w4.cell? ⟨w.heap.size + 2, 0, none⟩ = some (.int .i64 0) ∧ w4.cell? ⟨w.heap.size + 2, 1, none⟩ = some (.slice none 0 0) := by have hp := HR4.out; simp [World.cell?, hp]
  go_wp2_with fail
  refine (HF.out _).mono ?_
  rintro e w5 ⟨sl, rfl, ho, hb⟩
  have HO := hid ho
  clear ho
  have hrow := (hb.block _ hlt4).trans HR4.out
  have hlt5 : w.heap.size + 2 < w5.heap.size := Nat.lt_of_lt_of_le hlt4 hb.size
  obtain ⟨A2, cc, rfl, hf⟩ := HO.out.form
  have d2 : w5.cell? ⟨w.heap.size + 2, 0, none⟩ = some (.int .i64 0) ∧ w5.cell? ⟨w.heap.size + 2, 1, none⟩ = some (.slice none 0 0) ∧ w5.frozen? ⟨w.heap.size + 2, 0, none⟩ = false ∧ w5.frozen? ⟨w.heap.size + 2, 1, none⟩ = false := by simp [World.cell?, World.frozen?, hrow]
  obtain ⟨e0, e1, e2, e3⟩ := d2
  have hrow2 := row_set2 (x := .int .i64 0) (y := .slice A2 (zeros (n : Int).toNat).length cc) hrow
  have HROW2 := hid hrow2
  have HHF := hid hf
  clear hf
  clear hrow hrow2 a0 a1 a2 a3 a4 a5 a6 a7 a8 a9
  go_wp2_with fail
  refine bodyPost_ret (results_cell_row rfl _ _ (w.heap.size + 2) 26 #[.int .i64 0, .slice A2 (zeros (n : Int).toNat).length cc] (0, 0) _ rfl HROW2.out Try.underlying26 rfl info26) rfl ?_
  have hs4 := hB4.out.size
  refine ⟨_, rfl, ?_, ((hB4.out.trans (hb.mono hs4)).setCell (show w.heap.size ≤ w.heap.size + 2 by omega) _).setCell (show w.heap.size ≤ w.heap.size + 2 by omega) _⟩
  refine Own.of_block (w := w5) (HO.out.lower hs4) fun k hk => ?_
  have hk2 := (World.ownsRow.lt HO.out k hk).1
  rw [heap_setCell_other _ _ _ _ (by simp; omega), heap_setCell_other _ _ _ _ (by simp; omega)]

set_option maxHeartbeats 2000000 in
set_option linter.unusedVariables false in
theorem counts_bad (p : Pol) (gg : Int) (l : List Int) (A : Option Addr) (c : Nat) (w : World) (hm : meansW p = true) (hl : l.length ≤ 9223372036854775807)
    (hrd : 0 < l.length → ∃ g o, A = some ⟨g, o, none⟩ ∧ g < w.heap.size ∧ ∀ i, i < l.length → w.cell? ⟨g, o + i, none⟩ = some (.int .i64 (l.getD i 0))) (h0 : ¬ gg < 0) (h1 : ¬ gridN p 1099511627776 < gg) (h2 : (l.length : Int) = p.count) (h3 : l.any badN = true) :
    Calls Try.prog 32 #[.agg #[.int .i64 p.k, .int .i64 p.cap, .int .i64 p.num, .int .i64 p.den, .int .i64 p.width, .int .i64 p.count, .int .i64 p.keys, .int .i64 p.slots, .int .i64 p.every, .int .i64 p.seg], .agg #[.int .i64 gg, .slice A l.length c]] w fun e w' => ∃ sl, e = .returned (.agg #[.int .i64 0, sl]) ∧ Own w.heap.size w' sl (zeros p.count.toNat) ∧ Below w.heap.size w w' := by
  have hgd := fun w => grid_any p 1099511627776 w
  have hfr := fun w => fresh_yes p 0 hm w
  rw [gridP_yes hm] at hgd
  rw [gridN_zero] at hfr
  have hcc := (meansW_bounds hm).2.2.2
  obtain ⟨k, cap, num, den, width, count, keys, slots, every, seg⟩ := p
  dsimp only at *
  obtain ⟨n, rfl⟩ : ∃ n : Nat, count = n := ⟨count.toNat, by omega⟩
  generalize gridN _ 1099511627776 = gt at *
  have hct : ∀ w1, Below w.heap.size w w1 → Calls Try.prog 41 #[.slice A l.length c, .func (.func 40) #[] #[]] w1 fun e w' => e = .returned (.bool (l.any badN)) ∧ w1 = w' := fun w1 hb =>
    contains_any l A c w1 (by omega) fun h0 => by
      obtain ⟨g, o, e, hg, hc⟩ := hrd h0
      exact ⟨g, o, e, Nat.lt_of_lt_of_le hg hb.size, fun i hi => (hb.cell (p := ⟨g, o + i, none⟩) hg).trans (hc i hi)⟩
  have HG := hid hgd
  have HF := hid hfr
  have HCT := hid hct
  have HRD := hid hrd
  clear hm hgd hfr hct hrd
  go_enter Try.func32, Try.ntmps32
  go_upto_region 2 with fail
  refine abstract_world (fun W => Below w.heap.size w W ∧ w.heap.size + 2 < W.heap.size ∧ W.heap[w.heap.size]? = some (.cells #[.int .i64 k, .int .i64 cap, .int .i64 num, .int .i64 den, .int .i64 width, .int .i64 n, .int .i64 keys, .int .i64 slots, .int .i64 every, .int .i64 seg] 23 (0, 0)) ∧ W.heap[w.heap.size + 1]? = some (.cells #[.int .i64 gg, .slice A l.length c] 26 (0, 0)) ∧ W.heap[w.heap.size + 2]? = some (.cells #[.int .i64 0, .slice none 0 0] 26 (0, 0))) ?_ ?_
  · refine ⟨(((Below.refl _ _).alloc (Nat.le_refl _) _).alloc (by simp) _).alloc (by simp; omega) _, by simp, ?_, ?_, ?_⟩
    · exact heap_alloc_keep _ _ (heap_alloc_keep _ _ (heap_alloc_same _ _))
    · have := heap_alloc_same (w.alloc (.cells #[.int .i64 k, .int .i64 cap, .int .i64 num, .int .i64 den, .int .i64 width, .int .i64 n, .int .i64 keys, .int .i64 slots, .int .i64 every, .int .i64 seg] 23)) (.cells #[.int .i64 gg, .slice A l.length c] 26)
      exact heap_alloc_keep _ _ (by simpa using this)
    · have := heap_alloc_same ((w.alloc (.cells #[.int .i64 k, .int .i64 cap, .int .i64 num, .int .i64 den, .int .i64 width, .int .i64 n, .int .i64 keys, .int .i64 slots, .int .i64 every, .int .i64 seg] 23)).alloc (.cells #[.int .i64 gg, .slice A l.length c] 26)) (.cells #[.int .i64 0, .slice none 0 0] 26)
      simpa using this
  intro W ⟨hB, hlt, hp, hs, hr⟩
  obtain rfl : n = l.length := by omega
  have HCTL := hid (fun x : Later W => HCT.out x.world (hB.trans (x.below.mono hB.size)))
  have c1 : W.cell? ⟨w.heap.size, 0, none⟩ = some (.int .i64 k) ∧ W.cell? ⟨w.heap.size, 1, none⟩ = some (.int .i64 cap) ∧ W.cell? ⟨w.heap.size, 2, none⟩ = some (.int .i64 num) ∧ W.cell? ⟨w.heap.size, 3, none⟩ = some (.int .i64 den) ∧ W.cell? ⟨w.heap.size, 4, none⟩ = some (.int .i64 width) ∧ W.cell? ⟨w.heap.size, 5, none⟩ = some (.int .i64 l.length) ∧ W.cell? ⟨w.heap.size, 6, none⟩ = some (.int .i64 keys) ∧ W.cell? ⟨w.heap.size, 7, none⟩ = some (.int .i64 slots) ∧ W.cell? ⟨w.heap.size, 8, none⟩ = some (.int .i64 every) ∧ W.cell? ⟨w.heap.size, 9, none⟩ = some (.int .i64 seg) := by simp [World.cell?, hp]
  have c2 : W.cell? ⟨w.heap.size + 1, 0, none⟩ = some (.int .i64 gg) ∧ W.cell? ⟨w.heap.size + 1, 1, none⟩ = some (.slice A l.length c) := by simp [World.cell?, hs]
  obtain ⟨a0, a1, a2, a3, a4, a5, a6, a7, a8, a9⟩ := c1
  obtain ⟨b0, b1⟩ := c2
  have hz1 : w.heap.size < W.heap.size := by omega
  have hz2 : w.heap.size + 1 < W.heap.size := by omega
  have x0 := fun x : Later W => Later.cell (a := ⟨w.heap.size, 0, none⟩) hz1 a0 x
  have x1 := fun x : Later W => Later.cell (a := ⟨w.heap.size, 1, none⟩) hz1 a1 x
  have x2 := fun x : Later W => Later.cell (a := ⟨w.heap.size, 2, none⟩) hz1 a2 x
  have x3 := fun x : Later W => Later.cell (a := ⟨w.heap.size, 3, none⟩) hz1 a3 x
  have x4 := fun x : Later W => Later.cell (a := ⟨w.heap.size, 4, none⟩) hz1 a4 x
  have x5 := fun x : Later W => Later.cell (a := ⟨w.heap.size, 5, none⟩) hz1 a5 x
  have x6 := fun x : Later W => Later.cell (a := ⟨w.heap.size, 6, none⟩) hz1 a6 x
  have x7 := fun x : Later W => Later.cell (a := ⟨w.heap.size, 7, none⟩) hz1 a7 x
  have x8 := fun x : Later W => Later.cell (a := ⟨w.heap.size, 8, none⟩) hz1 a8 x
  have x9 := fun x : Later W => Later.cell (a := ⟨w.heap.size, 9, none⟩) hz1 a9 x
  have y0 := fun x : Later W => Later.cell (a := ⟨w.heap.size + 1, 0, none⟩) hz2 b0 x
  have y1 := fun x : Later W => Later.cell (a := ⟨w.heap.size + 1, 1, none⟩) hz2 b1 x
  have HROWP := hid hp
  have HROWS := hid hs
  have HROWR := hid hr
  clear a0 a1 a2 a3 a4 a5 a6 a7 a8 a9 b0 b1 hp hs hr
  generalize hany : l.any badN = q at *
  refine wp_region_quiet_later (by kernel_rfl) (by kernel_rfl) ?_
  repeat (go_big_quiet_step ((first | (go_at_call 17; refine later_of (v := .int .i64 gt) ?_; exact HG.out _) | (go_at_call 41; refine later_same (v := .bool q) ?_; exact HCTL.out _))))
  refine wpQuiet_nil ?_
  intro _ hw'
  obtain ⟨x, hw''⟩ := hw'
  subst hw''
  have hx := x.below
  generalize x.world = w4 at hx
  clear x x0 x1 x2 x3 x4 x5 x6 x7 x8 x9 y0 y1
  have HP4 := hid ((hx.block _ (by omega : w.heap.size < W.heap.size)).trans HROWP.out)
  have HS4 := hid ((hx.block _ (by omega : w.heap.size + 1 < W.heap.size)).trans HROWS.out)
  have HR4 := hid ((hx.block _ hlt).trans HROWR.out)
  have hlt4 : w.heap.size + 2 < w4.heap.size := Nat.lt_of_lt_of_le hlt hx.size
  have hB4 := hid (hB.trans (hx.mono hB.size))
  clear hx hlt hz1 hz2 hB
  subst h3
  have c1 : w4.cell? ⟨w.heap.size, 0, none⟩ = some (.int .i64 k) ∧ w4.cell? ⟨w.heap.size, 1, none⟩ = some (.int .i64 cap) ∧ w4.cell? ⟨w.heap.size, 2, none⟩ = some (.int .i64 num) ∧ w4.cell? ⟨w.heap.size, 3, none⟩ = some (.int .i64 den) ∧ w4.cell? ⟨w.heap.size, 4, none⟩ = some (.int .i64 width) ∧ w4.cell? ⟨w.heap.size, 5, none⟩ = some (.int .i64 l.length) ∧ w4.cell? ⟨w.heap.size, 6, none⟩ = some (.int .i64 keys) ∧ w4.cell? ⟨w.heap.size, 7, none⟩ = some (.int .i64 slots) ∧ w4.cell? ⟨w.heap.size, 8, none⟩ = some (.int .i64 every) ∧ w4.cell? ⟨w.heap.size, 9, none⟩ = some (.int .i64 seg) := by have hp := HP4.out; simp [World.cell?, hp]
  obtain ⟨a0, a1, a2, a3, a4, a5, a6, a7, a8, a9⟩ := c1
  have d2 : w4.cell? ⟨w.heap.size + 2, 0, none⟩ = some (.int .i64 0) ∧ w4.cell? ⟨w.heap.size + 2, 1, none⟩ = some (.slice none 0 0) := by have hp := HR4.out; simp [World.cell?, hp]
  go_wp2_with fail
  refine (HF.out _).mono ?_
  rintro e w5 ⟨sl, rfl, ho, hb⟩
  have HO := hid ho
  clear ho
  have hrow := (hb.block _ hlt4).trans HR4.out
  have hlt5 : w.heap.size + 2 < w5.heap.size := Nat.lt_of_lt_of_le hlt4 hb.size
  obtain ⟨A2, cc, rfl, hf⟩ := HO.out.form
  have d2 : w5.cell? ⟨w.heap.size + 2, 0, none⟩ = some (.int .i64 0) ∧ w5.cell? ⟨w.heap.size + 2, 1, none⟩ = some (.slice none 0 0) ∧ w5.frozen? ⟨w.heap.size + 2, 0, none⟩ = false ∧ w5.frozen? ⟨w.heap.size + 2, 1, none⟩ = false := by simp [World.cell?, World.frozen?, hrow]
  obtain ⟨e0, e1, e2, e3⟩ := d2
  have hrow2 := row_set2 (x := .int .i64 0) (y := .slice A2 (zeros (l.length : Int).toNat).length cc) hrow
  have HROW2 := hid hrow2
  have HHF := hid hf
  clear hf
  clear hrow hrow2 a0 a1 a2 a3 a4 a5 a6 a7 a8 a9
  go_wp2_with fail
  refine bodyPost_ret (results_cell_row rfl _ _ (w.heap.size + 2) 26 #[.int .i64 0, .slice A2 (zeros (l.length : Int).toNat).length cc] (0, 0) _ rfl HROW2.out Try.underlying26 rfl info26) rfl ?_
  have hs4 := hB4.out.size
  refine ⟨_, rfl, ?_, ((hB4.out.trans (hb.mono hs4)).setCell (show w.heap.size ≤ w.heap.size + 2 by omega) _).setCell (show w.heap.size ≤ w.heap.size + 2 by omega) _⟩
  refine Own.of_block (w := w5) (HO.out.lower hs4) fun k hk => ?_
  have hk2 := (World.ownsRow.lt HO.out k hk).1
  rw [heap_setCell_other _ _ _ _ (by simp; omega), heap_setCell_other _ _ _ _ (by simp; omega)]

set_option maxHeartbeats 2000000 in
set_option linter.unusedVariables false in
theorem counts_ok (p : Pol) (gg : Int) (l : List Int) (A : Option Addr) (c : Nat) (w : World) (hm : meansW p = true) (hl : l.length ≤ 9223372036854775807)
    (hrd : 0 < l.length → ∃ g o, A = some ⟨g, o, none⟩ ∧ g < w.heap.size ∧ ∀ i, i < l.length → w.cell? ⟨g, o + i, none⟩ = some (.int .i64 (l.getD i 0))) (h0 : ¬ gg < 0) (h1 : ¬ gridN p 1099511627776 < gg) (h2 : (l.length : Int) = p.count) (h3 : l.any badN = false) :
    Calls Try.prog 32 #[.agg #[.int .i64 p.k, .int .i64 p.cap, .int .i64 p.num, .int .i64 p.den, .int .i64 p.width, .int .i64 p.count, .int .i64 p.keys, .int .i64 p.slots, .int .i64 p.every, .int .i64 p.seg], .agg #[.int .i64 gg, .slice A l.length c]] w fun e w' => ∃ sl, e = .returned (.agg #[.int .i64 gg, sl]) ∧ Own w.heap.size w' sl l ∧ Below w.heap.size w w' := by
  have hgd := fun w => grid_any p 1099511627776 w
  have hfr := fun w => fresh_yes p 0 hm w
  rw [gridP_yes hm] at hgd
  rw [gridN_zero] at hfr
  have hcc := (meansW_bounds hm).2.2.2
  obtain ⟨k, cap, num, den, width, count, keys, slots, every, seg⟩ := p
  dsimp only at *
  obtain ⟨n, rfl⟩ : ∃ n : Nat, count = n := ⟨count.toNat, by omega⟩
  generalize gridN _ 1099511627776 = gt at *
  have hct : ∀ w1, Below w.heap.size w w1 → Calls Try.prog 41 #[.slice A l.length c, .func (.func 40) #[] #[]] w1 fun e w' => e = .returned (.bool (l.any badN)) ∧ w1 = w' := fun w1 hb =>
    contains_any l A c w1 (by omega) fun h0 => by
      obtain ⟨g, o, e, hg, hc⟩ := hrd h0
      exact ⟨g, o, e, Nat.lt_of_lt_of_le hg hb.size, fun i hi => (hb.cell (p := ⟨g, o + i, none⟩) hg).trans (hc i hi)⟩
  have HG := hid hgd
  have HF := hid hfr
  have HCT := hid hct
  have HRD := hid hrd
  clear hm hgd hfr hct hrd
  go_enter Try.func32, Try.ntmps32
  go_upto_region 2 with fail
  refine abstract_world (fun W => Below w.heap.size w W ∧ w.heap.size + 2 < W.heap.size ∧ W.heap[w.heap.size]? = some (.cells #[.int .i64 k, .int .i64 cap, .int .i64 num, .int .i64 den, .int .i64 width, .int .i64 n, .int .i64 keys, .int .i64 slots, .int .i64 every, .int .i64 seg] 23 (0, 0)) ∧ W.heap[w.heap.size + 1]? = some (.cells #[.int .i64 gg, .slice A l.length c] 26 (0, 0)) ∧ W.heap[w.heap.size + 2]? = some (.cells #[.int .i64 0, .slice none 0 0] 26 (0, 0))) ?_ ?_
  · refine ⟨(((Below.refl _ _).alloc (Nat.le_refl _) _).alloc (by simp) _).alloc (by simp; omega) _, by simp, ?_, ?_, ?_⟩
    · exact heap_alloc_keep _ _ (heap_alloc_keep _ _ (heap_alloc_same _ _))
    · have := heap_alloc_same (w.alloc (.cells #[.int .i64 k, .int .i64 cap, .int .i64 num, .int .i64 den, .int .i64 width, .int .i64 n, .int .i64 keys, .int .i64 slots, .int .i64 every, .int .i64 seg] 23)) (.cells #[.int .i64 gg, .slice A l.length c] 26)
      exact heap_alloc_keep _ _ (by simpa using this)
    · have := heap_alloc_same ((w.alloc (.cells #[.int .i64 k, .int .i64 cap, .int .i64 num, .int .i64 den, .int .i64 width, .int .i64 n, .int .i64 keys, .int .i64 slots, .int .i64 every, .int .i64 seg] 23)).alloc (.cells #[.int .i64 gg, .slice A l.length c] 26)) (.cells #[.int .i64 0, .slice none 0 0] 26)
      simpa using this
  intro W ⟨hB, hlt, hp, hs, hr⟩
  obtain rfl : n = l.length := by omega
  have HCTL := hid (fun x : Later W => HCT.out x.world (hB.trans (x.below.mono hB.size)))
  have c1 : W.cell? ⟨w.heap.size, 0, none⟩ = some (.int .i64 k) ∧ W.cell? ⟨w.heap.size, 1, none⟩ = some (.int .i64 cap) ∧ W.cell? ⟨w.heap.size, 2, none⟩ = some (.int .i64 num) ∧ W.cell? ⟨w.heap.size, 3, none⟩ = some (.int .i64 den) ∧ W.cell? ⟨w.heap.size, 4, none⟩ = some (.int .i64 width) ∧ W.cell? ⟨w.heap.size, 5, none⟩ = some (.int .i64 l.length) ∧ W.cell? ⟨w.heap.size, 6, none⟩ = some (.int .i64 keys) ∧ W.cell? ⟨w.heap.size, 7, none⟩ = some (.int .i64 slots) ∧ W.cell? ⟨w.heap.size, 8, none⟩ = some (.int .i64 every) ∧ W.cell? ⟨w.heap.size, 9, none⟩ = some (.int .i64 seg) := by simp [World.cell?, hp]
  have c2 : W.cell? ⟨w.heap.size + 1, 0, none⟩ = some (.int .i64 gg) ∧ W.cell? ⟨w.heap.size + 1, 1, none⟩ = some (.slice A l.length c) := by simp [World.cell?, hs]
  obtain ⟨a0, a1, a2, a3, a4, a5, a6, a7, a8, a9⟩ := c1
  obtain ⟨b0, b1⟩ := c2
  have hz1 : w.heap.size < W.heap.size := by omega
  have hz2 : w.heap.size + 1 < W.heap.size := by omega
  have x0 := fun x : Later W => Later.cell (a := ⟨w.heap.size, 0, none⟩) hz1 a0 x
  have x1 := fun x : Later W => Later.cell (a := ⟨w.heap.size, 1, none⟩) hz1 a1 x
  have x2 := fun x : Later W => Later.cell (a := ⟨w.heap.size, 2, none⟩) hz1 a2 x
  have x3 := fun x : Later W => Later.cell (a := ⟨w.heap.size, 3, none⟩) hz1 a3 x
  have x4 := fun x : Later W => Later.cell (a := ⟨w.heap.size, 4, none⟩) hz1 a4 x
  have x5 := fun x : Later W => Later.cell (a := ⟨w.heap.size, 5, none⟩) hz1 a5 x
  have x6 := fun x : Later W => Later.cell (a := ⟨w.heap.size, 6, none⟩) hz1 a6 x
  have x7 := fun x : Later W => Later.cell (a := ⟨w.heap.size, 7, none⟩) hz1 a7 x
  have x8 := fun x : Later W => Later.cell (a := ⟨w.heap.size, 8, none⟩) hz1 a8 x
  have x9 := fun x : Later W => Later.cell (a := ⟨w.heap.size, 9, none⟩) hz1 a9 x
  have y0 := fun x : Later W => Later.cell (a := ⟨w.heap.size + 1, 0, none⟩) hz2 b0 x
  have y1 := fun x : Later W => Later.cell (a := ⟨w.heap.size + 1, 1, none⟩) hz2 b1 x
  have HROWP := hid hp
  have HROWS := hid hs
  have HROWR := hid hr
  clear a0 a1 a2 a3 a4 a5 a6 a7 a8 a9 b0 b1 hp hs hr
  generalize hany : l.any badN = q at *
  refine wp_region_quiet_later (by kernel_rfl) (by kernel_rfl) ?_
  repeat (go_big_quiet_step ((first | (go_at_call 17; refine later_of (v := .int .i64 gt) ?_; exact HG.out _) | (go_at_call 41; refine later_same (v := .bool q) ?_; exact HCTL.out _))))
  refine wpQuiet_nil ?_
  intro _ hw'
  obtain ⟨x, hw''⟩ := hw'
  subst hw''
  have hx := x.below
  generalize x.world = w4 at hx
  clear x x0 x1 x2 x3 x4 x5 x6 x7 x8 x9 y0 y1
  have HP4 := hid ((hx.block _ (by omega : w.heap.size < W.heap.size)).trans HROWP.out)
  have HS4 := hid ((hx.block _ (by omega : w.heap.size + 1 < W.heap.size)).trans HROWS.out)
  have HR4 := hid ((hx.block _ hlt).trans HROWR.out)
  have hlt4 : w.heap.size + 2 < w4.heap.size := Nat.lt_of_lt_of_le hlt hx.size
  have hB4 := hid (hB.trans (hx.mono hB.size))
  clear hx hlt hz1 hz2 hB
  subst h3
  have h0l : 0 < l.length := by omega
  obtain ⟨b, o, rfl, hbw, hbc⟩ := HRD.out h0l
  have HBC := hid hbc
  clear hbc
  go_upto_region 4 with fail
  have c2 : w4.cell? ⟨w.heap.size + 1, 0, none⟩ = some (.int .i64 gg) ∧ w4.cell? ⟨w.heap.size + 1, 1, none⟩ = some (.slice (some ⟨b, o, none⟩) l.length c) := by have hp := HS4.out; simp [World.cell?, hp]
  have d2 : w4.cell? ⟨w.heap.size + 2, 0, none⟩ = some (.int .i64 0) ∧ w4.cell? ⟨w.heap.size + 2, 1, none⟩ = some (.slice none 0 0) ∧ w4.frozen? ⟨w.heap.size + 2, 0, none⟩ = false ∧ w4.frozen? ⟨w.heap.size + 2, 1, none⟩ = false := by have hp := HR4.out; simp [World.cell?, World.frozen?, hp]
  have F : ∀ w', Below w4.heap.size w4 w' → (w'.cell? ⟨w.heap.size + 1, 0, none⟩ = some (.int .i64 gg) ∧ w'.cell? ⟨w.heap.size + 1, 1, none⟩ = some (.slice (some ⟨b, o, none⟩) l.length c) ∧ w'.cell? ⟨w.heap.size + 2, 0, none⟩ = some (valAt w' ⟨w.heap.size + 2, 0, none⟩) ∧ w'.cell? ⟨w.heap.size + 2, 1, none⟩ = some (valAt w' ⟨w.heap.size + 2, 1, none⟩) ∧ w'.frozen? ⟨w.heap.size + 2, 0, none⟩ = false ∧ w'.frozen? ⟨w.heap.size + 2, 1, none⟩ = false) := by
    intro w' hb
    obtain ⟨e0, e1, e2, e3⟩ := two_below hb hlt4 d2
    exact ⟨(hb.cell (p := ⟨w.heap.size + 1, 0, none⟩) (show w.heap.size + 1 < w4.heap.size by omega)).trans c2.1, (hb.cell (p := ⟨w.heap.size + 1, 1, none⟩) (show w.heap.size + 1 < w4.heap.size by omega)).trans c2.2, valAt_some e0, valAt_some e1, e2, e3⟩
  obtain ⟨b0, b1, b2, b3, b4, b5⟩ := F w4 (Below.refl _ _)
  have hne : w.heap.size + 2 ≠ w.heap.size + 1 := by omega
  have G : ∀ w' x y, Below w4.heap.size w4 w' → (((w'.setCell ⟨w.heap.size + 2, 0, none⟩ x).setCell ⟨w.heap.size + 2, 1, none⟩ y).cell? ⟨w.heap.size + 1, 0, none⟩ = some (.int .i64 gg) ∧ ((w'.setCell ⟨w.heap.size + 2, 0, none⟩ x).setCell ⟨w.heap.size + 2, 1, none⟩ y).cell? ⟨w.heap.size + 1, 1, none⟩ = some (.slice (some ⟨b, o, none⟩) l.length c) ∧ ((w'.setCell ⟨w.heap.size + 2, 0, none⟩ x).setCell ⟨w.heap.size + 2, 1, none⟩ y).cell? ⟨w.heap.size + 2, 0, none⟩ = some (valAt ((w'.setCell ⟨w.heap.size + 2, 0, none⟩ x).setCell ⟨w.heap.size + 2, 1, none⟩ y) ⟨w.heap.size + 2, 0, none⟩) ∧ ((w'.setCell ⟨w.heap.size + 2, 0, none⟩ x).setCell ⟨w.heap.size + 2, 1, none⟩ y).cell? ⟨w.heap.size + 2, 1, none⟩ = some (valAt ((w'.setCell ⟨w.heap.size + 2, 0, none⟩ x).setCell ⟨w.heap.size + 2, 1, none⟩ y) ⟨w.heap.size + 2, 1, none⟩) ∧ ((w'.setCell ⟨w.heap.size + 2, 0, none⟩ x).setCell ⟨w.heap.size + 2, 1, none⟩ y).frozen? ⟨w.heap.size + 2, 0, none⟩ = false ∧ ((w'.setCell ⟨w.heap.size + 2, 0, none⟩ x).setCell ⟨w.heap.size + 2, 1, none⟩ y).frozen? ⟨w.heap.size + 2, 1, none⟩ = false) := by
    intro w' x y hb
    obtain ⟨a0, a1, b0, b1, b2, b3⟩ := F w' hb
    have e0 := valAt_set (b := ⟨w.heap.size + 2, 0, none⟩) (v := x) b0
    have e1 := valAt_set (b := ⟨w.heap.size + 2, 0, none⟩) (v := x) b1
    exact ⟨cell_far (cell_far a0 hne) hne, cell_far (cell_far a1 hne) hne, valAt_set e0, valAt_set e1, by rw [World.frozen?_setCell, World.frozen?_setCell]; exact b2, by rw [World.frozen?_setCell, World.frozen?_setCell]; exact b3⟩
  have F := hid F
  have G := hid G
  have CL := hid (fun w1 (hb : Below w.heap.size w w1) => clone_call l b o c w1 h0l (by omega) (Nat.lt_of_lt_of_le hbw hb.size) (fun i hi => (hb.cell (p := ⟨b, o + i, none⟩) hbw).trans (HBC.out i hi)))
  clear c2 d2 hne
  have hB1 := (Below.refl w4.heap.size w4).drew
  go_region_held3 (fun w' => w'.cell? ⟨w.heap.size + 1, 0, none⟩ = some (.int .i64 gg) ∧ w'.cell? ⟨w.heap.size + 1, 1, none⟩ = some (.slice (some ⟨b, o, none⟩) l.length c) ∧ w'.cell? ⟨w.heap.size + 2, 0, none⟩ = some (valAt w' ⟨w.heap.size + 2, 0, none⟩) ∧ w'.cell? ⟨w.heap.size + 2, 1, none⟩ = some (valAt w' ⟨w.heap.size + 2, 1, none⟩) ∧ w'.frozen? ⟨w.heap.size + 2, 0, none⟩ = false ∧ w'.frozen? ⟨w.heap.size + 2, 1, none⟩ = false)
    (first | exact F.out _ hB1 | exact F.out _ (hB1.trans hb) | exact G.out _ _ _ (hB1.trans hb) | go_keep)
    (first | (go_at_call 42; refine (CL.out _ (hB4.out.drew)).mono ?_; rintro e w5 ⟨sl, rfl, ho, hb⟩; obtain ⟨A2, cc, rfl, hf⟩ := ho.form))
  go_wp2_with fail
  have hrow := row_set2 (x := .int .i64 gg) (y := .slice A2 l.length cc) (((hB1.trans hb).block _ hlt4).trans HR4.out)
  refine bodyPost_ret (results_cell_row rfl _ _ (w.heap.size + 2) 26 #[.int .i64 gg, .slice A2 l.length cc] (0, 0) _ rfl hrow Try.underlying26 rfl info26) rfl ?_
  have hs4 := hB4.out.size
  refine ⟨_, rfl, ?_, ((hB4.out.trans ((hB1.trans hb).mono hs4)).setCell (show w.heap.size ≤ w.heap.size + 2 by omega) _).setCell (show w.heap.size ≤ w.heap.size + 2 by omega) _⟩
  refine Own.of_block (w := w5) (ho.lower hs4) fun k hk => ?_
  have hk2 := (World.ownsRow.lt ho k hk).1
  simp at hk2
  rw [heap_setCell_other _ _ _ _ (by simp; omega), heap_setCell_other _ _ _ _ (by simp; omega)]

theorem counts_call (p : Pol) (s : Win) (A : Option Addr) (c : Nat) (w : World) (hm : meansW p = true) (hl : s.l.length ≤ 9223372036854775807)
    (hrd : 0 < s.l.length → ∃ g o, A = some ⟨g, o, none⟩ ∧ g < w.heap.size ∧ ∀ i, i < s.l.length → w.cell? ⟨g, o + i, none⟩ = some (.int .i64 (s.l.getD i 0))) :
    Calls Try.prog 32 #[.agg #[.int .i64 p.k, .int .i64 p.cap, .int .i64 p.num, .int .i64 p.den, .int .i64 p.width, .int .i64 p.count, .int .i64 p.keys, .int .i64 p.slots, .int .i64 p.every, .int .i64 p.seg], .agg #[.int .i64 s.g, .slice A s.l.length c]] w fun e w' => ∃ sl, e = .returned (.agg #[.int .i64 (countsN p s).g, sl]) ∧ Own w.heap.size w' sl (countsN p s).l ∧ Below w.heap.size w w' := by
  have hbad : goodP p s = false → countsN p s = ⟨0, zeros p.count.toNat⟩ := fun h => by simp [countsN, h, freshN, gridN_zero]
  by_cases h0 : s.g < 0
  · rw [hbad (by simp [goodP]; omega)]
    exact counts_low p s.g s.l A c w hm hl hrd h0
  by_cases h1 : gridN p 1099511627776 < s.g
  · rw [hbad (by simp [goodP]; omega)]
    exact counts_high p s.g s.l A c w hm hl hrd h0 h1
  by_cases h2 : (s.l.length : Int) = p.count
  · cases h3 : s.l.any badN with
    | true =>
      rw [hbad (by simp only [goodP, h3]; simp)]
      exact counts_bad p s.g s.l A c w hm hl hrd h0 h1 h2 h3
    | false =>
      have e : countsN p s = s := by
        have : goodP p s = true := by simp only [goodP, h3]; simp; omega
        simp [countsN, this]
      rw [e]
      exact counts_ok p s.g s.l A c w hm hl hrd h0 h1 h2 h3
  · rw [hbad (by simp [goodP]; omega)]
    exact counts_len p s.g s.l A c w hm hl hrd h0 h1 h2

#print axioms counts_call
end Go.Proofs.Ytkcnenekmjgmgaa
