/- Contracts: may a cost be taken; taken. -/
import Derived.Test.YtkcnenekmjgmgaaO
namespace Go.Proofs.Ytkcnenekmjgmgaa
open Go.RowKit

theorem withinF (c : Int) (w : World) {b : Bool} (h : within c 1 1048576 = b) : Calls Try.prog 33 #[.int .i64 c] w fun e w' => e = .returned (.bool b) ∧ w = w' := by
  rw [← h]; exact may_any c w

set_option maxHeartbeats 4000000 in
set_option linter.unusedVariables false in
theorem may_yes (p : Pol) (s : Win) (A : Option Addr) (c : Nat) (cost : Int) (w : World) (hm : meansW p = true) (hl : s.l.length ≤ 9223372036854775807)
    (hrd : 0 < s.l.length → ∃ g o, A = some ⟨g, o, none⟩ ∧ g < w.heap.size ∧ ∀ i, i < s.l.length → w.cell? ⟨g, o + i, none⟩ = some (.int .i64 (s.l.getD i 0))) (hwi : within cost 1 1048576 = true) :
    Calls Try.prog 12 #[.agg #[.int .i64 p.k, .int .i64 p.cap, .int .i64 p.num, .int .i64 p.den, .int .i64 p.width, .int .i64 p.count, .int .i64 p.keys, .int .i64 p.slots, .int .i64 p.every, .int .i64 p.seg], .agg #[.int .i64 s.g, .slice A s.l.length c], .int .i64 cost] w fun e w' => e = .returned (.bool (decide (totalN (countsN p s) + cost ≤ p.cap))) ∧ Below w.heap.size w w' := by
  have hme := fun w => means_any p w
  rw [hm] at hme
  have hcc := (meansW_bounds hm).2.2.2
  have hcap := (meansW_bounds hm).2.1
  have hcg := counts_good hm s
  have hcnt : ∀ w1, Below w.heap.size w w1 → Calls Try.prog 32 #[.agg #[.int .i64 p.k, .int .i64 p.cap, .int .i64 p.num, .int .i64 p.den, .int .i64 p.width, .int .i64 p.count, .int .i64 p.keys, .int .i64 p.slots, .int .i64 p.every, .int .i64 p.seg], .agg #[.int .i64 s.g, .slice A s.l.length c]] w1 fun e w' => ∃ sl, e = .returned (.agg #[.int .i64 (countsN p s).g, sl]) ∧ Own w1.heap.size w' sl (countsN p s).l ∧ Below w1.heap.size w1 w' := fun w1 hb =>
    counts_call p s A c w1 hm hl fun h0 => by
      obtain ⟨g, o, e, hg, hc⟩ := hrd h0
      exact ⟨g, o, e, Nat.lt_of_lt_of_le hg hb.size, fun i hi => (hb.cell (p := ⟨g, o + i, none⟩) hg).trans (hc i hi)⟩
  have hlen : ((countsN p s).l.length : Int) = p.count := by rw [hcg.len]; omega
  have hok := hcg.ok
  have HME := hid hme
  have CNT := hid hcnt
  clear hm hme hcnt hrd hcg
  generalize s.l.length = ls at *
  generalize s.g = sg at *
  have hcost := within_iff.1 hwi
  have HWI := hid (fun w => withinF cost w hwi)
  have htb := totalN_bound (countsN p s)
  have hql : (countsN p s).l.length ≤ 9223372036854775807 := by omega
  have htot : ∀ w1 w2 A2 c2, Own w1 w2 (.slice A2 (countsN p s).l.length c2) (countsN p s).l → Calls Try.prog 13 #[.agg #[.int .i64 (countsN p s).g, .slice A2 (countsN p s).l.length c2]] w2 fun e w' => e = .returned (.int .i64 (totalN (countsN p s))) ∧ Below w2.heap.size w2 w' := fun w1 w2 A2 c2 ho =>
    total_call (countsN p s) A2 c2 w2 hql (by obtain ⟨A', c', e, f⟩ := ho.reads.form; cases e; exact f)
  have TOT := hid htot
  have ew : IntKind.i64.wrap (totalN (countsN p s) + cost) = totalN (countsN p s) + cost := IntWalk.i64_in _ (by omega)
  clear hwi htot hok hlen
  generalize totalN (countsN p s) = tot at *
  generalize countsN p s = q at *
  obtain ⟨qg, ql⟩ := q
  dsimp only at *
  go_enter Try.func12, Try.ntmps12
  go_upto_region 1 with fail
  refine abstract_world (fun W => Boxes w W p (.int .i64 sg) (.slice A ls c)) ?_ ?_
  · exact Boxes.begin w p (.int .i64 sg) (.slice A ls c)
  intro W hX
  have X := hid hX
  clear hX
  have F : ∀ w', Below W.heap.size W w' → (w'.cell? ⟨w.heap.size, 0, none⟩ = some (.int .i64 p.k) ∧ w'.cell? ⟨w.heap.size, 1, none⟩ = some (.int .i64 p.cap) ∧ w'.cell? ⟨w.heap.size, 2, none⟩ = some (.int .i64 p.num) ∧ w'.cell? ⟨w.heap.size, 3, none⟩ = some (.int .i64 p.den) ∧ w'.cell? ⟨w.heap.size, 4, none⟩ = some (.int .i64 p.width) ∧ w'.cell? ⟨w.heap.size, 5, none⟩ = some (.int .i64 p.count) ∧ w'.cell? ⟨w.heap.size, 6, none⟩ = some (.int .i64 p.keys) ∧ w'.cell? ⟨w.heap.size, 7, none⟩ = some (.int .i64 p.slots) ∧ w'.cell? ⟨w.heap.size, 8, none⟩ = some (.int .i64 p.every) ∧ w'.cell? ⟨w.heap.size, 9, none⟩ = some (.int .i64 p.seg) ∧ w'.cell? ⟨w.heap.size + 1, 0, none⟩ = some (.int .i64 sg) ∧ w'.cell? ⟨w.heap.size + 1, 1, none⟩ = some (.slice A ls c)) := by
    intro w' hb
    obtain ⟨a0, a1, a2, a3, a4, a5, a6, a7, a8, a9⟩ := (X.out.on hb).cp
    obtain ⟨b0, b1, b2, b3⟩ := (X.out.on hb).cs
    exact ⟨a0, a1, a2, a3, a4, a5, a6, a7, a8, a9, b0, b1⟩
  obtain ⟨a0, a1, a2, a3, a4, a5, a6, a7, a8, a9, b0, b1⟩ := F W (Below.refl _ _)
  have F := hid F
  have hB1 := (Below.refl W.heap.size W).drew
  go_region_held3 (fun w' => w'.cell? ⟨w.heap.size, 0, none⟩ = some (.int .i64 p.k) ∧ w'.cell? ⟨w.heap.size, 1, none⟩ = some (.int .i64 p.cap) ∧ w'.cell? ⟨w.heap.size, 2, none⟩ = some (.int .i64 p.num) ∧ w'.cell? ⟨w.heap.size, 3, none⟩ = some (.int .i64 p.den) ∧ w'.cell? ⟨w.heap.size, 4, none⟩ = some (.int .i64 p.width) ∧ w'.cell? ⟨w.heap.size, 5, none⟩ = some (.int .i64 p.count) ∧ w'.cell? ⟨w.heap.size, 6, none⟩ = some (.int .i64 p.keys) ∧ w'.cell? ⟨w.heap.size, 7, none⟩ = some (.int .i64 p.slots) ∧ w'.cell? ⟨w.heap.size, 8, none⟩ = some (.int .i64 p.every) ∧ w'.cell? ⟨w.heap.size, 9, none⟩ = some (.int .i64 p.seg) ∧ w'.cell? ⟨w.heap.size + 1, 0, none⟩ = some (.int .i64 sg) ∧ w'.cell? ⟨w.heap.size + 1, 1, none⟩ = some (.slice A ls c))
    (first | exact F.out _ hB1 | exact F.out _ (hB1.trans hb) | exact F.out _ ((hB1.trans hb).trans (hb2.mono (hB1.trans hb).size)) | exact F.out _ (((hB1.trans hb).trans (hb2.mono (hB1.trans hb).size)).trans (hb3.mono (((hB1.trans hb).trans (hb2.mono (hB1.trans hb).size)).size))) | go_keep)
    (first | (go_at_call 31; refine (HME.out _).mono ?_; rintro e w1 ⟨rfl, hb⟩) | (go_at_call 33; refine (HWI.out _).mono ?_; rintro e w1' ⟨rfl, rfl⟩) | (go_at_call 32; refine (CNT.out _ (X.out.below.trans ((hB1.trans hb).mono X.out.below.size))).mono ?_; rintro e w2 ⟨sl, rfl, ho, hb2⟩; obtain ⟨A2, cc, rfl, hf⟩ := ho.form) | (go_at_call 13; refine (TOT.out _ _ _ _ ho).mono ?_; rintro e w3 ⟨rfl, hb3⟩))
  all_goals (
    have hBB := X.out.below.trans ((((hB1.trans hb).trans (hb2.mono (hB1.trans hb).size)).trans (hb3.mono (((hB1.trans hb).trans (hb2.mono (hB1.trans hb).size)).size))).mono X.out.below.size)
    go_wp2_with fail
    go_ret
    exact ⟨rfl, hBB⟩)

set_option maxHeartbeats 4000000 in
set_option linter.unusedVariables false in
theorem may_no (p : Pol) (sg : Int) (A : Option Addr) (ls c : Nat) (cost : Int) (w : World) (hm : meansW p = false) :
    Calls Try.prog 12 #[.agg #[.int .i64 p.k, .int .i64 p.cap, .int .i64 p.num, .int .i64 p.den, .int .i64 p.width, .int .i64 p.count, .int .i64 p.keys, .int .i64 p.slots, .int .i64 p.every, .int .i64 p.seg], .agg #[.int .i64 sg, .slice A ls c], .int .i64 cost] w fun e w' => e = .returned (.bool false) ∧ Below w.heap.size w w' := by
  have hme := fun w => means_any p w
  rw [hm] at hme
  have HME := hid hme
  clear hm hme
  go_enter Try.func12, Try.ntmps12
  go_upto_region 1 with fail
  refine abstract_world (fun W => Boxes w W p (.int .i64 sg) (.slice A ls c)) ?_ ?_
  · exact Boxes.begin w p (.int .i64 sg) (.slice A ls c)
  intro W hX
  have X := hid hX
  clear hX
  have hz1 : w.heap.size < W.heap.size := by have := X.out.lt; omega
  have hz2 : w.heap.size + 1 < W.heap.size := X.out.lt
  obtain ⟨a0, a1, a2, a3, a4, a5, a6, a7, a8, a9⟩ := X.out.cp
  obtain ⟨b0, b1, b2, b3⟩ := X.out.cs
  have x0 := fun x : Later W => Later.cell (a := ⟨w.heap.size, 0, none⟩) hz1 a0 x
  have x1 := fun x : Later W => Later.cell (a := ⟨w.heap.size, 1, none⟩) hz1 a1 x
  have x2 := fun x : Later W => Later.cell (a := ⟨w.heap.size, 2, none⟩) hz1 a2 x
  have x3 := fun x : Later W => Later.cell (a := ⟨w.heap.size, 3, none⟩) hz1 a3 x
  have x4 := fun x : Later W => Later.cell (a := ⟨w.heap.size, 4, none⟩) hz1 a4 x
  have x5 := fun x : Later W => Later.cell (a := ⟨w.heap.size, 5, none⟩) hz1 a5 x
  have x6 := fun x : Later W => Later.cell (a := ⟨w.heap.size, 6, none⟩) hz1 a6 x
  have x7 := fun x : Later W => Later.cell (a := ⟨w.heap.size, 7, none⟩) hz1 a7 x
  have x8 := fun x : Later W => Later.cell (a := ⟨w.heap.size, 8, none⟩) hz1 a8 x
  have x9 := fun x : Later W => Later.cell (a := ⟨w.heap.size, 9, none⟩) hz1 a9 x
  have y0 := fun x : Later W => Later.cell (a := ⟨w.heap.size + 1, 0, none⟩) hz2 b0 x
  have y1 := fun x : Later W => Later.cell (a := ⟨w.heap.size + 1, 1, none⟩) hz2 b1 x
  clear a0 a1 a2 a3 a4 a5 a6 a7 a8 a9 b0 b1 b2 b3
  refine wp_region_quiet_later (by kernel_rfl) (by kernel_rfl) ?_
  repeat (go_big_quiet_step ((first | (go_at_call 31; refine later_of (v := .bool false) ?_; exact HME.out _))))
  refine wpQuiet_nil ?_
  intro _ hw'
  obtain ⟨x, hw''⟩ := hw'
  subst hw''
  have hx := x.below
  have hBB := hid (X.out.below.trans (hx.mono X.out.below.size))
  generalize x.world = w4 at *
  clear x x0 x1 x2 x3 x4 x5 x6 x7 x8 x9 y0 y1
  go_wp2_with fail
  go_ret
  exact ⟨rfl, hBB.out⟩

set_option maxHeartbeats 4000000 in
set_option linter.unusedVariables false in
theorem may_cost (p : Pol) (sg : Int) (A : Option Addr) (ls c : Nat) (cost : Int) (w : World) (hm : meansW p = true) (hwi : within cost 1 1048576 = false) :
    Calls Try.prog 12 #[.agg #[.int .i64 p.k, .int .i64 p.cap, .int .i64 p.num, .int .i64 p.den, .int .i64 p.width, .int .i64 p.count, .int .i64 p.keys, .int .i64 p.slots, .int .i64 p.every, .int .i64 p.seg], .agg #[.int .i64 sg, .slice A ls c], .int .i64 cost] w fun e w' => e = .returned (.bool false) ∧ Below w.heap.size w w' := by
  have hme := fun w => means_any p w
  rw [hm] at hme
  have HME := hid hme
  have HWI := hid (fun w => withinF cost w hwi)
  clear hm hme hwi
  go_enter Try.func12, Try.ntmps12
  go_upto_region 1 with fail
  refine abstract_world (fun W => Boxes w W p (.int .i64 sg) (.slice A ls c)) ?_ ?_
  · exact Boxes.begin w p (.int .i64 sg) (.slice A ls c)
  intro W hX
  have X := hid hX
  clear hX
  have hz1 : w.heap.size < W.heap.size := by have := X.out.lt; omega
  have hz2 : w.heap.size + 1 < W.heap.size := X.out.lt
  obtain ⟨a0, a1, a2, a3, a4, a5, a6, a7, a8, a9⟩ := X.out.cp
  obtain ⟨b0, b1, b2, b3⟩ := X.out.cs
  have x0 := fun x : Later W => Later.cell (a := ⟨w.heap.size, 0, none⟩) hz1 a0 x
  have x1 := fun x : Later W => Later.cell (a := ⟨w.heap.size, 1, none⟩) hz1 a1 x
  have x2 := fun x : Later W => Later.cell (a := ⟨w.heap.size, 2, none⟩) hz1 a2 x
  have x3 := fun x : Later W => Later.cell (a := ⟨w.heap.size, 3, none⟩) hz1 a3 x
  have x4 := fun x : Later W => Later.cell (a := ⟨w.heap.size, 4, none⟩) hz1 a4 x
  have x5 := fun x : Later W => Later.cell (a := ⟨w.heap.size, 5, none⟩) hz1 a5 x
  have x6 := fun x : Later W => Later.cell (a := ⟨w.heap.size, 6, none⟩) hz1 a6 x
  have x7 := fun x : Later W => Later.cell (a := ⟨w.heap.size, 7, none⟩) hz1 a7 x
  have x8 := fun x : Later W => Later.cell (a := ⟨w.heap.size, 8, none⟩) hz1 a8 x
  have x9 := fun x : Later W => Later.cell (a := ⟨w.heap.size, 9, none⟩) hz1 a9 x
  have y0 := fun x : Later W => Later.cell (a := ⟨w.heap.size + 1, 0, none⟩) hz2 b0 x
  have y1 := fun x : Later W => Later.cell (a := ⟨w.heap.size + 1, 1, none⟩) hz2 b1 x
  clear a0 a1 a2 a3 a4 a5 a6 a7 a8 a9 b0 b1 b2 b3
  refine wp_region_quiet_later (by kernel_rfl) (by kernel_rfl) ?_
  repeat (go_big_quiet_step ((first | (go_at_call 31; refine later_of (v := .bool true) ?_; exact HME.out _) | (go_at_call 33; refine later_same (v := .bool false) ?_; exact HWI.out _))))
  refine wpQuiet_nil ?_
  intro _ hw'
  obtain ⟨x, hw''⟩ := hw'
  subst hw''
  have hx := x.below
  have hBB := hid (X.out.below.trans (hx.mono X.out.below.size))
  generalize x.world = w4 at *
  clear x x0 x1 x2 x3 x4 x5 x6 x7 x8 x9 y0 y1
  go_wp2_with fail
  go_ret
  exact ⟨rfl, hBB.out⟩

theorem may_call (p : Pol) (s : Win) (A : Option Addr) (c : Nat) (cost : Int) (w : World) (hl : s.l.length ≤ 9223372036854775807)
    (hrd : 0 < s.l.length → ∃ g o, A = some ⟨g, o, none⟩ ∧ g < w.heap.size ∧ ∀ i, i < s.l.length → w.cell? ⟨g, o + i, none⟩ = some (.int .i64 (s.l.getD i 0))) :
    Calls Try.prog 12 #[.agg #[.int .i64 p.k, .int .i64 p.cap, .int .i64 p.num, .int .i64 p.den, .int .i64 p.width, .int .i64 p.count, .int .i64 p.keys, .int .i64 p.slots, .int .i64 p.every, .int .i64 p.seg], .agg #[.int .i64 s.g, .slice A s.l.length c], .int .i64 cost] w fun e w' => e = .returned (.bool (mayW p s cost)) ∧ Below w.heap.size w w' := by
  cases hm : meansW p with
  | false =>
    rw [show mayW p s cost = false by simp [mayW, hm]]
    exact may_no p s.g A s.l.length c cost w hm
  | true =>
    cases hwi : within cost 1 1048576 with
    | false =>
      rw [show mayW p s cost = false by simp [mayW, hm, hwi]]
      exact may_cost p s.g A s.l.length c cost w hm hwi
    | true =>
      rw [show mayW p s cost = decide (totalN (countsN p s) + cost ≤ p.cap) by simp [mayW, hm, hwi]]
      exact may_yes p s A c cost w hm hl hrd hwi

set_option maxHeartbeats 4000000 in
set_option linter.unusedVariables false in
theorem take_no (p : Pol) (g : Int) (A : Option Addr) (n c : Nat) (t : Int) (w : World) (hm : meansW p = false) :
    Calls Try.prog 15 #[.agg #[.int .i64 p.k, .int .i64 p.cap, .int .i64 p.num, .int .i64 p.den, .int .i64 p.width, .int .i64 p.count, .int .i64 p.keys, .int .i64 p.slots, .int .i64 p.every, .int .i64 p.seg], .agg #[.int .i64 g, .slice A n c], .int .i64 t] w fun e w' => ∃ sl, e = .returned (.agg #[.int .i64 0, sl]) ∧ Own w.heap.size w' sl [] ∧ Below w.heap.size w w' := by
  have hme := fun w => means_any p w
  rw [hm] at hme
  have HME := hid hme
  clear hm hme
  go_enter Try.func15, Try.ntmps15
  go_wp2_with fail
  refine (HME.out _).mono ?_
  rintro e w1 ⟨rfl, hb⟩
  have hrow : w1.heap[w.heap.size + 2]? = some (.cells #[.int .i64 0, .slice none 0 0] 26 (0, 0)) := by
    rw [hb.block _ (by simp)]
    have := heap_alloc_same ((w.alloc (.cells #[.int .i64 p.k, .int .i64 p.cap, .int .i64 p.num, .int .i64 p.den, .int .i64 p.width, .int .i64 p.count, .int .i64 p.keys, .int .i64 p.slots, .int .i64 p.every, .int .i64 p.seg] 23)).alloc (.cells #[.int .i64 g, .slice A n c] 26)) (.cells #[.int .i64 0, .slice none 0 0] 26)
    simpa using this
  have hr : w1.cell? ⟨w.heap.size + 2, 0, none⟩ = some (.int .i64 0) ∧ w1.cell? ⟨w.heap.size + 2, 1, none⟩ = some (.slice none 0 0) ∧ w1.frozen? ⟨w.heap.size + 2, 0, none⟩ = false ∧ w1.frozen? ⟨w.heap.size + 2, 1, none⟩ = false := by simp [World.cell?, World.frozen?, hrow]
  obtain ⟨c0, c1, c2, c3⟩ := hr
  have HR := hid (row_set2 (x := .int .i64 0) (y := .slice none 0 0) hrow)
  have HB := hid (((((Below.refl _ _).alloc (Nat.le_refl _) _).alloc (by simp) _).alloc (by simp; omega) _).trans (hb.mono (show w.heap.size ≤ _ by simp; omega)))
  clear hb hrow
  go_wp2_with fail
  refine bodyPost_ret (results_cell_row rfl _ _ (w.heap.size + 2) 26 #[.int .i64 0, .slice none 0 0] (0, 0) _ rfl HR.out Try.underlying26 rfl info26) rfl ?_
  exact ⟨_, rfl, Own.nil _ _, (HB.out.setCell (show w.heap.size ≤ w.heap.size + 2 by omega) _).setCell (show w.heap.size ≤ w.heap.size + 2 by omega) _⟩

set_option maxHeartbeats 4000000 in
set_option linter.unusedVariables false in
theorem take_cost (p : Pol) (s : Win) (A : Option Addr) (c : Nat) (cost : Int) (w : World) (hm : meansW p = true) (hl : s.l.length ≤ 9223372036854775807)
    (hrd : 0 < s.l.length → ∃ g o, A = some ⟨g, o, none⟩ ∧ g < w.heap.size ∧ ∀ i, i < s.l.length → w.cell? ⟨g, o + i, none⟩ = some (.int .i64 (s.l.getD i 0))) (hwi : within cost 1 1048576 = false) :
    Calls Try.prog 15 #[.agg #[.int .i64 p.k, .int .i64 p.cap, .int .i64 p.num, .int .i64 p.den, .int .i64 p.width, .int .i64 p.count, .int .i64 p.keys, .int .i64 p.slots, .int .i64 p.every, .int .i64 p.seg], .agg #[.int .i64 s.g, .slice A s.l.length c], .int .i64 cost] w fun e w' => ∃ sl, e = .returned (.agg #[.int .i64 (countsN p s).g, sl]) ∧ Own w.heap.size w' sl (countsN p s).l ∧ Below w.heap.size w w' := by
  have hme := fun w => means_any p w
  rw [hm] at hme
  have hcc := (meansW_bounds hm).2.2.2
  have hcap := (meansW_bounds hm).2.1
  have hcg := counts_good hm s
  have hcnt : ∀ w1, Below w.heap.size w w1 → Calls Try.prog 32 #[.agg #[.int .i64 p.k, .int .i64 p.cap, .int .i64 p.num, .int .i64 p.den, .int .i64 p.width, .int .i64 p.count, .int .i64 p.keys, .int .i64 p.slots, .int .i64 p.every, .int .i64 p.seg], .agg #[.int .i64 s.g, .slice A s.l.length c]] w1 fun e w' => ∃ sl, e = .returned (.agg #[.int .i64 (countsN p s).g, sl]) ∧ Own w1.heap.size w' sl (countsN p s).l ∧ Below w1.heap.size w1 w' := fun w1 hb =>
    counts_call p s A c w1 hm hl fun h0 => by
      obtain ⟨g, o, e, hg, hc⟩ := hrd h0
      exact ⟨g, o, e, Nat.lt_of_lt_of_le hg hb.size, fun i hi => (hb.cell (p := ⟨g, o + i, none⟩) hg).trans (hc i hi)⟩
  have hlen : ((countsN p s).l.length : Int) = p.count := by rw [hcg.len]; omega
  have hok := hcg.ok
  have HME := hid hme
  have CNT := hid hcnt
  clear hm hme hcnt hrd hcg
  generalize s.l.length = ls at *
  generalize s.g = sg at *
  have HWI := hid (fun w => withinF cost w hwi)
  clear hwi hok hlen
  generalize countsN p s = q at *
  obtain ⟨qg, ql⟩ := q
  dsimp only at *
  go_enter Try.func15, Try.ntmps15
  go_upto_region 1 with fail
  refine abstract_world (fun W => Boxes w W p (.int .i64 sg) (.slice A ls c) ∧ Res w W (.int .i64 0) (.slice none 0 0)) ?_ ?_
  · refine ⟨(Boxes.begin w p (.int .i64 sg) (.slice A ls c)).on ((Below.refl _ _).alloc (Nat.le_refl _) _), by simp, ?_⟩
    have := heap_alloc_same ((w.alloc (.cells #[.int .i64 p.k, .int .i64 p.cap, .int .i64 p.num, .int .i64 p.den, .int .i64 p.width, .int .i64 p.count, .int .i64 p.keys, .int .i64 p.slots, .int .i64 p.every, .int .i64 p.seg] 23)).alloc (.cells #[.int .i64 sg, .slice A ls c] 26)) (.cells #[.int .i64 0, .slice none 0 0] 26)
    simpa using this
  intro W ⟨hX, hR⟩
  have X := hid hX
  have R := hid hR
  clear hX hR
  obtain ⟨a0, a1, a2, a3, a4, a5, a6, a7, a8, a9⟩ := X.out.cp
  obtain ⟨b0, b1, b2, b3⟩ := X.out.cs
  obtain ⟨c0, c1, c2, c3⟩ := R.out.cr
  go_wp2_with fail
  refine (HME.out _).mono ?_
  rintro e w1 ⟨rfl, hb⟩
  have X1 := hid (X.out.on hb)
  have R1 := hid (R.out.on hb)
  clear hb
  clear a0 a1 a2 a3 a4 a5 a6 a7 a8 a9 b0 b1 b2 b3 c0 c1 c2 c3
  clear X R
  obtain ⟨a0, a1, a2, a3, a4, a5, a6, a7, a8, a9⟩ := X1.out.cp
  obtain ⟨b0, b1, b2, b3⟩ := X1.out.cs
  obtain ⟨c0, c1, c2, c3⟩ := R1.out.cr
  go_wp2_with fail
  refine (CNT.out _ X1.out.below).mono ?_
  rintro e w2 ⟨sl, rfl, ho, hb⟩
  have hB1 := R1.out.lt
  have X2 := hid ((X1.out.on hb))
  have R2 := hid ((R1.out.on hb))
  obtain ⟨A2, cc, rfl, hf⟩ := ho.form
  have O2 := hid (ho.lower (show w.heap.size + 3 ≤ w1.heap.size by omega))
  clear hb ho hf hB1
  clear a0 a1 a2 a3 a4 a5 a6 a7 a8 a9 b0 b1 b2 b3 c0 c1 c2 c3
  clear X1 R1
  obtain ⟨a0, a1, a2, a3, a4, a5, a6, a7, a8, a9⟩ := X2.out.cp
  obtain ⟨b0, b1, b2, b3⟩ := X2.out.cs
  obtain ⟨c0, c1, c2, c3⟩ := R2.out.cr
  go_upto_region 4 with fail
  clear a0 a1 a2 a3 a4 a5 a6 a7 a8 a9 b0 b1 b2 b3 c0 c1 c2 c3
  refine abstract_world (fun W => Boxes w W p (.int .i64 qg) (.slice A2 ql.length cc) ∧ Res w W (.int .i64 0) (.slice none 0 0) ∧ Own (w.heap.size + 3) W (.slice A2 ql.length cc) ql) ?_ ?_
  · exact ⟨X2.out.set _ _, R2.out.setS _ _, O2.out.set2 (by omega) _ _⟩
  clear X2 R2 O2
  intro W3 ⟨hX, hR, hO⟩
  have X3 := hid hX
  have R3 := hid hR
  have O3 := hid hO
  clear hX hR hO
  obtain ⟨a0, a1, a2, a3, a4, a5, a6, a7, a8, a9⟩ := X3.out.cp
  obtain ⟨b0, b1, b2, b3⟩ := X3.out.cs
  obtain ⟨c0, c1, c2, c3⟩ := R3.out.cr
  go_wp2_with (go_at_call 33; refine (HWI.out _).mono ?_; rintro e w1' ⟨rfl, rfl⟩)
  refine bodyPost_ret (results_cell_row rfl _ _ (w.heap.size + 2) 26 #[.int .i64 qg, .slice A2 ql.length cc] (0, 0) _ rfl (R3.out.set _ _).row Try.underlying26 rfl info26) rfl ?_
  exact ⟨_, rfl, (O3.out.set2 (by omega) _ _).lower (by omega), (X3.out.setR _ _).below⟩

set_option maxHeartbeats 4000000 in
set_option linter.unusedVariables false in
theorem take_yes (p : Pol) (s : Win) (A : Option Addr) (c : Nat) (cost : Int) (w : World) (hm : meansW p = true) (hl : s.l.length ≤ 9223372036854775807)
    (hrd : 0 < s.l.length → ∃ g o, A = some ⟨g, o, none⟩ ∧ g < w.heap.size ∧ ∀ i, i < s.l.length → w.cell? ⟨g, o + i, none⟩ = some (.int .i64 (s.l.getD i 0))) (hwi : within cost 1 1048576 = true) :
    Calls Try.prog 15 #[.agg #[.int .i64 p.k, .int .i64 p.cap, .int .i64 p.num, .int .i64 p.den, .int .i64 p.width, .int .i64 p.count, .int .i64 p.keys, .int .i64 p.slots, .int .i64 p.every, .int .i64 p.seg], .agg #[.int .i64 s.g, .slice A s.l.length c], .int .i64 cost] w fun e w' => ∃ sl, e = .returned (.agg #[.int .i64 (countsN p s).g, sl]) ∧ Own w.heap.size w' sl (lastSet (countsN p s).l cost) ∧ Below w.heap.size w w' := by
  have hme := fun w => means_any p w
  rw [hm] at hme
  have hcc := (meansW_bounds hm).2.2.2
  have hcap := (meansW_bounds hm).2.1
  have hcg := counts_good hm s
  have hcnt : ∀ w1, Below w.heap.size w w1 → Calls Try.prog 32 #[.agg #[.int .i64 p.k, .int .i64 p.cap, .int .i64 p.num, .int .i64 p.den, .int .i64 p.width, .int .i64 p.count, .int .i64 p.keys, .int .i64 p.slots, .int .i64 p.every, .int .i64 p.seg], .agg #[.int .i64 s.g, .slice A s.l.length c]] w1 fun e w' => ∃ sl, e = .returned (.agg #[.int .i64 (countsN p s).g, sl]) ∧ Own w1.heap.size w' sl (countsN p s).l ∧ Below w1.heap.size w1 w' := fun w1 hb =>
    counts_call p s A c w1 hm hl fun h0 => by
      obtain ⟨g, o, e, hg, hc⟩ := hrd h0
      exact ⟨g, o, e, Nat.lt_of_lt_of_le hg hb.size, fun i hi => (hb.cell (p := ⟨g, o + i, none⟩) hg).trans (hc i hi)⟩
  have hlen : ((countsN p s).l.length : Int) = p.count := by rw [hcg.len]; omega
  have hok := hcg.ok
  have HME := hid hme
  have CNT := hid hcnt
  clear hm hme hcnt hrd hcg
  generalize s.l.length = ls at *
  generalize s.g = sg at *
  have hcost := within_iff.1 hwi
  have HWI := hid (fun w => withinF cost w hwi)
  clear hwi
  generalize countsN p s = q at *
  obtain ⟨qg, ql⟩ := q
  dsimp only at *
  obtain ⟨m, hm1⟩ : ∃ m : Nat, ql.length = m + 1 := ⟨ql.length - 1, by omega⟩
  have hx := hok _ (getD_mem (l := ql) (i := m) (by omega))
  have ew : IntKind.i64.wrap (p.count - 1) = (m : Int) := by rw [IntWalk.i64_in _ (by omega)]; omega
  have ls1 : lastSet ql cost = ql.set m (min (ql.getD m 0 + cost) 1099511627776) := by simp [lastSet, hm1]
  rw [ls1]
  have HLEN := hid hlen
  have HM1 := hid hm1
  generalize hgx : ql.getD m 0 = x at *
  have HGX := hid hgx
  clear hok hlen hcc ls1 hm1 hgx
  go_enter Try.func15, Try.ntmps15
  go_upto_region 1 with fail
  refine abstract_world (fun W => Boxes w W p (.int .i64 sg) (.slice A ls c) ∧ Res w W (.int .i64 0) (.slice none 0 0)) ?_ ?_
  · refine ⟨(Boxes.begin w p (.int .i64 sg) (.slice A ls c)).on ((Below.refl _ _).alloc (Nat.le_refl _) _), by simp, ?_⟩
    have := heap_alloc_same ((w.alloc (.cells #[.int .i64 p.k, .int .i64 p.cap, .int .i64 p.num, .int .i64 p.den, .int .i64 p.width, .int .i64 p.count, .int .i64 p.keys, .int .i64 p.slots, .int .i64 p.every, .int .i64 p.seg] 23)).alloc (.cells #[.int .i64 sg, .slice A ls c] 26)) (.cells #[.int .i64 0, .slice none 0 0] 26)
    simpa using this
  intro W ⟨hX, hR⟩
  have X := hid hX
  have R := hid hR
  clear hX hR
  obtain ⟨a0, a1, a2, a3, a4, a5, a6, a7, a8, a9⟩ := X.out.cp
  obtain ⟨b0, b1, b2, b3⟩ := X.out.cs
  obtain ⟨c0, c1, c2, c3⟩ := R.out.cr
  go_wp2_with fail
  refine (HME.out _).mono ?_
  rintro e w1 ⟨rfl, hb⟩
  have X1 := hid (X.out.on hb)
  have R1 := hid (R.out.on hb)
  clear hb
  clear a0 a1 a2 a3 a4 a5 a6 a7 a8 a9 b0 b1 b2 b3 c0 c1 c2 c3
  clear X R
  obtain ⟨a0, a1, a2, a3, a4, a5, a6, a7, a8, a9⟩ := X1.out.cp
  obtain ⟨b0, b1, b2, b3⟩ := X1.out.cs
  obtain ⟨c0, c1, c2, c3⟩ := R1.out.cr
  go_wp2_with fail
  refine (CNT.out _ X1.out.below).mono ?_
  rintro e w2 ⟨sl, rfl, ho, hb⟩
  have hB1 := R1.out.lt
  have X2 := hid ((X1.out.on hb))
  have R2 := hid ((R1.out.on hb))
  obtain ⟨A2, cc, rfl, hf⟩ := ho.form
  have O2 := hid (ho.lower (show w.heap.size + 3 ≤ w1.heap.size by omega))
  clear hb ho hf hB1
  clear a0 a1 a2 a3 a4 a5 a6 a7 a8 a9 b0 b1 b2 b3 c0 c1 c2 c3
  clear X1 R1
  obtain ⟨a0, a1, a2, a3, a4, a5, a6, a7, a8, a9⟩ := X2.out.cp
  obtain ⟨b0, b1, b2, b3⟩ := X2.out.cs
  obtain ⟨c0, c1, c2, c3⟩ := R2.out.cr
  go_upto_region 4 with fail
  clear a0 a1 a2 a3 a4 a5 a6 a7 a8 a9 b0 b1 b2 b3 c0 c1 c2 c3
  refine abstract_world (fun W => Boxes w W p (.int .i64 qg) (.slice A2 ql.length cc) ∧ Res w W (.int .i64 0) (.slice none 0 0) ∧ Own (w.heap.size + 3) W (.slice A2 ql.length cc) ql) ?_ ?_
  · exact ⟨X2.out.set _ _, R2.out.setS _ _, O2.out.set2 (by omega) _ _⟩
  clear X2 R2 O2
  intro W3 ⟨hX, hR, hO⟩
  have X3 := hid hX
  have R3 := hid hR
  have O3 := hid hO
  clear hX hR hO
  obtain ⟨A', c', e', f'⟩ := O3.out.form
  cases e'
  obtain ⟨gs, rfl, hgs1, hgs2, hgc⟩ := f' (by have := HM1.out; omega)
  have hcell := hgc m (by have := HM1.out; omega)
  rw [HGX.out] at hcell
  have hfroz := World.ownsRow.frozenAt O3.out m
  have HST := hid (fun u => (World.ownsRow.stored O3.out m u))
  have hmn : m < ql.length := by have := HM1.out; omega
  have hmn2 : (m : Int) < (ql.length : Int) := by omega
  clear hgc f'
  have ew2 : IntKind.i64.wrap (x + cost) = x + cost := IntWalk.i64_in _ (by omega)
  obtain ⟨a0, a1, a2, a3, a4, a5, a6, a7, a8, a9⟩ := X3.out.cp
  obtain ⟨b0, b1, b2, b3⟩ := X3.out.cs
  obtain ⟨c0, c1, c2, c3⟩ := R3.out.cr
  by_cases hbig : 1099511627776 < x + cost
  · have hmi : min (x + cost) 1099511627776 = 1099511627776 := by omega
    have HMI := hid hmi
    clear hmi
    go_wp2_with (go_at_call 33; refine (HWI.out _).mono ?_; rintro e w1' ⟨rfl, rfl⟩)
    have ho := HST.out (.int .i64 1099511627776)
    have e1 : (W3.setCell ⟨gs, m, none⟩ (.int .i64 1099511627776)).heap[w.heap.size + 2]? = some (.cells #[.int .i64 0, .slice none 0 0] 26 (0, 0)) := by
      rw [heap_setCell_other _ _ _ _ (by simp; omega)]; exact R3.out.row
    refine bodyPost_ret (results_cell_row rfl _ _ (w.heap.size + 2) 26 #[.int .i64 qg, .slice (some ⟨gs, 0, none⟩) ql.length cc] (0, 0) _ rfl (row_set2 e1) Try.underlying26 rfl info26) rfl ?_
    have ho1 : Own (w.heap.size + 3) (W3.setCell ⟨gs, m, none⟩ (.int .i64 1099511627776)) (.slice (some ⟨gs, 0, none⟩) ql.length cc) (ql.set m 1099511627776) := by
      have := ho.1
      unfold Own
      rw [List.map_set, List.length_set]
      exact this
    refine ⟨_, rfl, ?_, ((X3.out.below.setCell (show w.heap.size ≤ gs by omega) _).setCell (show w.heap.size ≤ w.heap.size + 2 by omega) _).setCell (show w.heap.size ≤ w.heap.size + 2 by omega) _⟩
    rw [HMI.out]
    exact (ho1.set2 (by omega) _ _).lower (by omega)
  · have hmi : min (x + cost) 1099511627776 = x + cost := by omega
    have HMI := hid hmi
    clear hmi
    go_wp2_with (go_at_call 33; refine (HWI.out _).mono ?_; rintro e w1' ⟨rfl, rfl⟩)
    have ho := HST.out (.int .i64 (x + cost))
    have e1 : (W3.setCell ⟨gs, m, none⟩ (.int .i64 (x + cost))).heap[w.heap.size + 2]? = some (.cells #[.int .i64 0, .slice none 0 0] 26 (0, 0)) := by
      rw [heap_setCell_other _ _ _ _ (by simp; omega)]; exact R3.out.row
    refine bodyPost_ret (results_cell_row rfl _ _ (w.heap.size + 2) 26 #[.int .i64 qg, .slice (some ⟨gs, 0, none⟩) ql.length cc] (0, 0) _ rfl (row_set2 e1) Try.underlying26 rfl info26) rfl ?_
    have ho1 : Own (w.heap.size + 3) (W3.setCell ⟨gs, m, none⟩ (.int .i64 (x + cost))) (.slice (some ⟨gs, 0, none⟩) ql.length cc) (ql.set m (x + cost)) := by
      have := ho.1
      unfold Own
      rw [List.map_set, List.length_set]
      exact this
    refine ⟨_, rfl, ?_, ((X3.out.below.setCell (show w.heap.size ≤ gs by omega) _).setCell (show w.heap.size ≤ w.heap.size + 2 by omega) _).setCell (show w.heap.size ≤ w.heap.size + 2 by omega) _⟩
    rw [HMI.out]
    exact (ho1.set2 (by omega) _ _).lower (by omega)

theorem take_call (p : Pol) (s : Win) (A : Option Addr) (c : Nat) (cost : Int) (w : World) (hl : s.l.length ≤ 9223372036854775807)
    (hrd : 0 < s.l.length → ∃ g o, A = some ⟨g, o, none⟩ ∧ g < w.heap.size ∧ ∀ i, i < s.l.length → w.cell? ⟨g, o + i, none⟩ = some (.int .i64 (s.l.getD i 0))) :
    Calls Try.prog 15 #[.agg #[.int .i64 p.k, .int .i64 p.cap, .int .i64 p.num, .int .i64 p.den, .int .i64 p.width, .int .i64 p.count, .int .i64 p.keys, .int .i64 p.slots, .int .i64 p.every, .int .i64 p.seg], .agg #[.int .i64 s.g, .slice A s.l.length c], .int .i64 cost] w fun e w' => ∃ sl, e = .returned (.agg #[.int .i64 (takeW p s cost).g, sl]) ∧ Own w.heap.size w' sl (takeW p s cost).l ∧ Below w.heap.size w w' := by
  cases hm : meansW p with
  | false =>
    have e : takeW p s cost = ⟨0, []⟩ := by simp [takeW, hm, noWin]
    rw [e]
    exact take_no p s.g A s.l.length c cost w hm
  | true =>
    cases hwi : within cost 1 1048576 with
    | false =>
      have e : takeW p s cost = countsN p s := by simp [takeW, hm, takeN, hwi]
      rw [e]
      exact take_cost p s A c cost w hm hl hrd hwi
    | true =>
      have e : takeW p s cost = ⟨(countsN p s).g, lastSet (countsN p s).l cost⟩ := by simp [takeW, hm, takeN, hwi]
      rw [e]
      exact take_yes p s A c cost w hm hl hrd hwi

#print axioms may_call
#print axioms take_call
end Go.Proofs.Ytkcnenekmjgmgaa
