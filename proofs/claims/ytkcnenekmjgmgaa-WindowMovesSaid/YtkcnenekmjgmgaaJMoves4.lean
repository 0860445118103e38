/- The law WindowMoves, part 4: its functions, walked and told plainly. -/
import Derived.Test.YtkcnenekmjgmgaaJMoves3

section
-- Laid by given.py, a program of this seat, with the kit's printer.
namespace Go.Proofs.YtkcnenekmjgmgaaS
open Go.Proofs.YtkcnenekmjgmgaaP
open Go.RowKit Go.Proofs.YtkcnenekmjgmgaaW.PrintWords Go.Proofs.YtkcnenekmjgmgaaW.PrintLast Go.Proofs.YtkcnenekmjgmgaaW.PrintMore
attribute [local go_sem] max2_int min2_int max_two min_two max_three min_three max_four min_four   -- for this text's walks alone
set_option linter.unusedVariables false
set_option linter.unusedSimpArgs false

/-! ### window_When: function 27 -/
mutual
def window_When.j0 : Nat → Int → Int → Bool → Int → Int → Int → Int → Int → Int → Int → Int → Int → Int → Int → List Int → Option (Int)
 | 0, _, _, _, _, _, _, _, _, _, _, _, _, _, _, _ => none
 | k + 1, x2, x3, x26, x205000, x205001, x205002, x205003, x205004, x205005, x205006, x205007, x205008, x205009, x206000, x206001 => if x26 = true then (some (-1)) else ((window_counts.f x205000 x205001 x205002 x205003 x205004 x205005 x205006 x205007 x205008 x205009 x206000 x206001).bind fun bt208 => ((window_clip.f x2).bind fun t212 => ((window_Move.f x205000 x205001 x205002 x205003 x205004 x205005 x205006 x205007 x205008 x205009 bt208.1 bt208.2 t212).bind fun bt213 => ((window_May.f x205000 x205001 x205002 x205003 x205004 x205005 x205006 x205007 x205008 x205009 bt213.1 bt213.2 x3).bind fun t217 => (if t217 = true then (some t212) else ((window_Total.f bt208.1 bt208.2).bind fun t218 => (window_When.l0 k t212 x3 t218 bt208.2 (bt208.2.length : Int) 0 x205000 x205001 x205002 x205003 x205004 x205005 x205006 x205007 x205008 x205009 bt208.1 bt208.2)))))))
def window_When.l0 : Nat → Int → Int → Int → List Int → Int → Int → Int → Int → Int → Int → Int → Int → Int → Int → Int → Int → Int → List Int → Option (Int)
 | 0, _, _, _, _, _, _, _, _, _, _, _, _, _, _, _, _, _, _ => none
 | k + 1, x2, x3, x9, x43, x44, x45, x205000, x205001, x205002, x205003, x205004, x205005, x205006, x205007, x205008, x205009, x206000, x206001 => if x45 < x44 then (if 0 ≤ x45 then (if x45 < (x43.length : Int) then (if (wrap64 ((wrap64 ((wrap64 (x206000 + x45)) + 1)) * x205004)) > x2 then (window_When.j2 k x2 x3 (wrap64 (x9 - (rd x43 x45))) (wrap64 ((wrap64 ((wrap64 (x206000 + x45)) + 1)) * x205004)) x43 x44 x45 (decide ((wrap64 ((wrap64 (x9 - (rd x43 x45))) + x3)) ≤ x205001)) x205000 x205001 x205002 x205003 x205004 x205005 x205006 x205007 x205008 x205009 x206000 x206001) else (window_When.j2 k x2 x3 (wrap64 (x9 - (rd x43 x45))) (wrap64 ((wrap64 ((wrap64 (x206000 + x45)) + 1)) * x205004)) x43 x44 x45 false x205000 x205001 x205002 x205003 x205004 x205005 x205006 x205007 x205008 x205009 x206000 x206001)) else (none)) else (none)) else (some (-1))
def window_When.j2 : Nat → Int → Int → Int → Int → List Int → Int → Int → Bool → Int → Int → Int → Int → Int → Int → Int → Int → Int → Int → Int → List Int → Option (Int)
 | 0, _, _, _, _, _, _, _, _, _, _, _, _, _, _, _, _, _, _, _, _ => none
 | k + 1, x2, x3, x9, x12, x43, x44, x45, x71, x205000, x205001, x205002, x205003, x205004, x205005, x205006, x205007, x205008, x205009, x206000, x206001 => if x71 = true then (if x12 > 1099511627776 then (some (-1)) else (some x12)) else (window_When.l0 k x2 x3 x9 x43 x44 (wrap64 (x45 + 1)) x205000 x205001 x205002 x205003 x205004 x205005 x205006 x205007 x205008 x205009 x206000 x206001)
end
def window_When.f (k : Nat) (a0_0 : Int) (a0_1 : Int) (a0_2 : Int) (a0_3 : Int) (a0_4 : Int) (a0_5 : Int) (a0_6 : Int) (a0_7 : Int) (a0_8 : Int) (a0_9 : Int) (a1_0 : Int) (l1_1 : List Int) (a2 : Int) (a3 : Int) : Option (Int) := (window_means.f a0_0 a0_1 a0_2 a0_3 a0_4 a0_5 a0_6 a0_7 a0_8 a0_9).bind fun t206 => (if t206 = true then ((window_may.f a3).bind fun t207 => (if t207 = true then (window_When.j0 k a2 a3 (decide (a3 > a0_1)) a0_0 a0_1 a0_2 a0_3 a0_4 a0_5 a0_6 a0_7 a0_8 a0_9 a1_0 l1_1) else (window_When.j0 k a2 a3 true a0_0 a0_1 a0_2 a0_3 a0_4 a0_5 a0_6 a0_7 a0_8 a0_9 a1_0 l1_1))) else (window_When.j0 k a2 a3 true a0_0 a0_1 a0_2 a0_3 a0_4 a0_5 a0_6 a0_7 a0_8 a0_9 a1_0 l1_1))
theorem window_When.mono_l : ∀ k, (∀ y0 y1 y2 y3 y4 y5 y6 y7 y8 y9 y10 y11 y12 y13 y14, LeO (window_When.j0 k y0 y1 y2 y3 y4 y5 y6 y7 y8 y9 y10 y11 y12 y13 y14) (window_When.j0 (k + 1) y0 y1 y2 y3 y4 y5 y6 y7 y8 y9 y10 y11 y12 y13 y14)) ∧ (∀ y0 y1 y2 y3 y4 y5 y6 y7 y8 y9 y10 y11 y12 y13 y14 y15 y16 y17, LeO (window_When.l0 k y0 y1 y2 y3 y4 y5 y6 y7 y8 y9 y10 y11 y12 y13 y14 y15 y16 y17) (window_When.l0 (k + 1) y0 y1 y2 y3 y4 y5 y6 y7 y8 y9 y10 y11 y12 y13 y14 y15 y16 y17)) ∧ (∀ y0 y1 y2 y3 y4 y5 y6 y7 y8 y9 y10 y11 y12 y13 y14 y15 y16 y17 y18 y19, LeO (window_When.j2 k y0 y1 y2 y3 y4 y5 y6 y7 y8 y9 y10 y11 y12 y13 y14 y15 y16 y17 y18 y19) (window_When.j2 (k + 1) y0 y1 y2 y3 y4 y5 y6 y7 y8 y9 y10 y11 y12 y13 y14 y15 y16 y17 y18 y19))
 | 0 => ⟨fun _ _ _ _ _ _ _ _ _ _ _ _ _ _ _ r h => by simp [window_When.j0] at h, fun _ _ _ _ _ _ _ _ _ _ _ _ _ _ _ _ _ _ r h => by simp [window_When.l0] at h, fun _ _ _ _ _ _ _ _ _ _ _ _ _ _ _ _ _ _ _ _ r h => by simp [window_When.j2] at h⟩
 | k + 1 => by
  obtain ⟨ih0, ih1, ih2⟩ := window_When.mono_l k
  refine ⟨?_, ?_, ?_⟩
  ·intro y0 y1 y2 y3 y4 y5 y6 y7 y8 y9 y10 y11 y12 y13 y14
   unfold window_When.j0
   repeat' first
   | (with_reducible exact ih0 _ _ _ _ _ _ _ _ _ _ _ _ _ _ _)
   | (with_reducible exact ih1 _ _ _ _ _ _ _ _ _ _ _ _ _ _ _ _ _ _)
   | (with_reducible exact ih2 _ _ _ _ _ _ _ _ _ _ _ _ _ _ _ _ _ _ _ _)
   | (with_reducible exact LeO.refl _)
   | (with_reducible exact LeO.none _)
   | (with_reducible refine LeO.ite ?_ ?_)
   | (with_reducible refine LeO.bind ?_ (fun _ => ?_))
   | exact ih0 _ _ _ _ _ _ _ _ _ _ _ _ _ _ _
   | exact ih1 _ _ _ _ _ _ _ _ _ _ _ _ _ _ _ _ _ _
   | exact ih2 _ _ _ _ _ _ _ _ _ _ _ _ _ _ _ _ _ _ _ _
   | exact LeO.none _
   | refine LeO.ite ?_ ?_
   | refine LeO.bind ?_ (fun _ => ?_)
  ·intro y0 y1 y2 y3 y4 y5 y6 y7 y8 y9 y10 y11 y12 y13 y14 y15 y16 y17
   unfold window_When.l0
   repeat' first
   | (with_reducible exact ih0 _ _ _ _ _ _ _ _ _ _ _ _ _ _ _)
   | (with_reducible exact ih1 _ _ _ _ _ _ _ _ _ _ _ _ _ _ _ _ _ _)
   | (with_reducible exact ih2 _ _ _ _ _ _ _ _ _ _ _ _ _ _ _ _ _ _ _ _)
   | (with_reducible exact LeO.refl _)
   | (with_reducible exact LeO.none _)
   | (with_reducible refine LeO.ite ?_ ?_)
   | (with_reducible refine LeO.bind ?_ (fun _ => ?_))
   | exact ih0 _ _ _ _ _ _ _ _ _ _ _ _ _ _ _
   | exact ih1 _ _ _ _ _ _ _ _ _ _ _ _ _ _ _ _ _ _
   | exact ih2 _ _ _ _ _ _ _ _ _ _ _ _ _ _ _ _ _ _ _ _
   | exact LeO.none _
   | refine LeO.ite ?_ ?_
   | refine LeO.bind ?_ (fun _ => ?_)
  ·intro y0 y1 y2 y3 y4 y5 y6 y7 y8 y9 y10 y11 y12 y13 y14 y15 y16 y17 y18 y19
   unfold window_When.j2
   repeat' first
   | (with_reducible exact ih0 _ _ _ _ _ _ _ _ _ _ _ _ _ _ _)
   | (with_reducible exact ih1 _ _ _ _ _ _ _ _ _ _ _ _ _ _ _ _ _ _)
   | (with_reducible exact ih2 _ _ _ _ _ _ _ _ _ _ _ _ _ _ _ _ _ _ _ _)
   | (with_reducible exact LeO.refl _)
   | (with_reducible exact LeO.none _)
   | (with_reducible refine LeO.ite ?_ ?_)
   | (with_reducible refine LeO.bind ?_ (fun _ => ?_))
   | exact ih0 _ _ _ _ _ _ _ _ _ _ _ _ _ _ _
   | exact ih1 _ _ _ _ _ _ _ _ _ _ _ _ _ _ _ _ _ _
   | exact ih2 _ _ _ _ _ _ _ _ _ _ _ _ _ _ _ _ _ _ _ _
   | exact LeO.none _
   | refine LeO.ite ?_ ?_
   | refine LeO.bind ?_ (fun _ => ?_)
theorem window_When.mono : ∀ a0 a1 a2 a3 a4 a5 a6 a7 a8 a9 a10 a11 a12 a13 k, LeO (window_When.f k a0 a1 a2 a3 a4 a5 a6 a7 a8 a9 a10 a11 a12 a13) (window_When.f (k + 1) a0 a1 a2 a3 a4 a5 a6 a7 a8 a9 a10 a11 a12 a13) := by
 intro a0 a1 a2 a3 a4 a5 a6 a7 a8 a9 a10 a11 a12 a13 k
 obtain ⟨ih0, ih1, ih2⟩ := window_When.mono_l k
 unfold window_When.f
 repeat' first
   | (with_reducible exact ih0 _ _ _ _ _ _ _ _ _ _ _ _ _ _ _)
   | (with_reducible exact ih1 _ _ _ _ _ _ _ _ _ _ _ _ _ _ _ _ _ _)
   | (with_reducible exact ih2 _ _ _ _ _ _ _ _ _ _ _ _ _ _ _ _ _ _ _ _)
   | (with_reducible exact LeO.refl _)
   | (with_reducible exact LeO.none _)
   | (with_reducible refine LeO.ite ?_ ?_)
   | (with_reducible refine LeO.bind ?_ (fun _ => ?_))
   | exact ih0 _ _ _ _ _ _ _ _ _ _ _ _ _ _ _
   | exact ih1 _ _ _ _ _ _ _ _ _ _ _ _ _ _ _ _ _ _
   | exact ih2 _ _ _ _ _ _ _ _ _ _ _ _ _ _ _ _ _ _ _ _
   | exact LeO.none _
   | refine LeO.ite ?_ ?_
   | refine LeO.bind ?_ (fun _ => ?_)
set_option maxHeartbeats 8000000 in
set_option maxRecDepth 100000 in
theorem window_When.calls (k : Nat) (a0_0 : Int) (a0_1 : Int) (a0_2 : Int) (a0_3 : Int) (a0_4 : Int) (a0_5 : Int) (a0_6 : Int) (a0_7 : Int) (a0_8 : Int) (a0_9 : Int) (a1_0 : Int) (A1_1 : Option Addr) (c1_1 : Nat) (l1_1 : List Int) (a2 : Int) (a3 : Int) (r : Int) (w : World) (hr1_1 : Kd.C (Kd.int .i64) w A1_1 l1_1.length l1_1) (hc1_1 : l1_1.length ≤ c1_1) (h : window_When.f k a0_0 a0_1 a0_2 a0_3 a0_4 a0_5 a0_6 a0_7 a0_8 a0_9 a1_0 l1_1 a2 a3 = some r) :
  Calls Try.prog 27 #[.agg #[.int .i64 a0_0, .int .i64 a0_1, .int .i64 a0_2, .int .i64 a0_3, .int .i64 a0_4, .int .i64 a0_5, .int .i64 a0_6, .int .i64 a0_7, .int .i64 a0_8, .int .i64 a0_9], .agg #[.int .i64 a1_0, .slice A1_1 l1_1.length c1_1], .int .i64 a2, .int .i64 a3] w fun e w' => e = .returned (.int .i64 r) ∧ Below w.heap.size w w' := by
 have hu23 := Try.underlying23
 have hu26 := Try.underlying26
 have HR1_1 := Aside0.mk hr1_1
 have HC1_1 := Aside0.mk hc1_1
 clear hr1_1 hc1_1
 have HB := Aside0.mk (Below.refl w.heap.size w)
 have H : ((window_means.f a0_0 a0_1 a0_2 a0_3 a0_4 a0_5 a0_6 a0_7 a0_8 a0_9).bind fun t206 => (if t206 = true then ((window_may.f a3).bind fun t207 => (if t207 = true then (window_When.j0 k a2 a3 (decide (a3 > a0_1)) a0_0 a0_1 a0_2 a0_3 a0_4 a0_5 a0_6 a0_7 a0_8 a0_9 a1_0 l1_1) else (window_When.j0 k a2 a3 true a0_0 a0_1 a0_2 a0_3 a0_4 a0_5 a0_6 a0_7 a0_8 a0_9 a1_0 l1_1))) else (window_When.j0 k a2 a3 true a0_0 a0_1 a0_2 a0_3 a0_4 a0_5 a0_6 a0_7 a0_8 a0_9 a1_0 l1_1))) = some r := h
 clear h
 have HC5 := Aside0.mk H
 clear H
 go_enter Try.func27, Try.ntmps27
 go_upto_region 1 with (first | ((with_reducible refine gate_dst (N := 4) rfl ?_); refine box_event ?hg (N := 4) ?hd (cs := #[.int .i64 a0_0, .int .i64 a0_1, .int .i64 a0_2, .int .i64 a0_3, .int .i64 a0_4, .int .i64 a0_5, .int .i64 a0_6, .int .i64 a0_7, .int .i64 a0_8, .int .i64 a0_9]) (t := 23) ?hr ?_; (case hd => rfl); (case hg => rfl); (case hr => first | (go_simp; done) | (go_simp; rfl)); intro gb204 hg w6 hbox hb; have n0_ := Aside0.mk (below_step (by repeat (first | (with_reducible first | exact HB.out | apply below_alloc | apply pw_below_drewN | apply below_drew1) | exact HB.out)) hb); have n1_ := Aside0.mk (hbox); have n2_ := Aside0.mk ((by rw [hg]; exact (below_size (by repeat (first | (with_reducible first | exact HB.out | apply below_alloc | apply pw_below_drewN | apply below_drew1) | exact HB.out))) : w.heap.size ≤ gb204)); have n3_ := Aside0.mk ((by rw [hg]; exact (below_size (by repeat (first | (with_reducible first | exact HB.out | apply below_alloc | apply pw_below_drewN | apply below_drew1) | exact HB.out))) : w.heap.size ≤ gb204)); clear HB; have HB := n0_; have BK204 := n1_; have GW204 := n2_; have GE204 := n3_; clear n0_ n1_ n2_ n3_; clear hb hbox hg) | ((with_reducible refine gate_dst (N := 5) rfl ?_); refine box_event ?hg (N := 5) ?hd (cs := #[.int .i64 a1_0, .slice A1_1 l1_1.length c1_1]) (t := 26) ?hr ?_; (case hd => rfl); (case hg => rfl); (case hr => first | (go_simp; done) | (go_simp; rfl)); intro gb205 hg w7 hbox hb; have n0_ := Aside0.mk (blk_below (g := gb204) (o := .cells #[.int .i64 a0_0, .int .i64 a0_1, .int .i64 a0_2, .int .i64 a0_3, .int .i64 a0_4, .int .i64 a0_5, .int .i64 a0_6, .int .i64 a0_7, .int .i64 a0_8, .int .i64 a0_9] 23 (0, 0)) (by (with_reducible repeat (first | refine blk_drewN ?_ _ | refine blk_drew ?_ | refine blk_alloc ?_ _)); exact BK204.out) hb); have n1_ := Aside0.mk (below_step (by repeat (first | (with_reducible first | exact HB.out | apply below_alloc | apply pw_below_drewN | apply below_drew1 | refine below_set ?_ GE204.out) | exact HB.out)) hb); have n2_ := Aside0.mk (hbox); have n3_ := Aside0.mk ((by rw [hg]; exact (below_size (by repeat (first | (with_reducible first | exact HB.out | apply below_alloc | apply pw_below_drewN | apply below_drew1 | refine below_set ?_ GE204.out) | exact HB.out))) : w.heap.size ≤ gb205)); have n4_ := Aside0.mk ((by rw [hg]; exact (below_size (by repeat (first | (with_reducible first | exact HB.out | apply below_alloc | apply pw_below_drewN | apply below_drew1 | refine below_set ?_ GE204.out) | exact HB.out))) : w.heap.size ≤ gb205)); have n5_ := Aside0.mk ((by rw [hg]; exact Nat.ne_of_lt (blk_lt (g := gb204) (o := .cells #[.int .i64 a0_0, .int .i64 a0_1, .int .i64 a0_2, .int .i64 a0_3, .int .i64 a0_4, .int .i64 a0_5, .int .i64 a0_6, .int .i64 a0_7, .int .i64 a0_8, .int .i64 a0_9] 23 (0, 0)) (by (with_reducible repeat (first | refine blk_drewN ?_ _ | refine blk_drew ?_ | refine blk_alloc ?_ _)); exact BK204.out)) : gb204 ≠ gb205)); have n6_ := Aside0.mk ((by rw [hg]; exact Nat.ne_of_gt (blk_lt (g := gb204) (o := .cells #[.int .i64 a0_0, .int .i64 a0_1, .int .i64 a0_2, .int .i64 a0_3, .int .i64 a0_4, .int .i64 a0_5, .int .i64 a0_6, .int .i64 a0_7, .int .i64 a0_8, .int .i64 a0_9] 23 (0, 0)) (by (with_reducible repeat (first | refine blk_drewN ?_ _ | refine blk_drew ?_ | refine blk_alloc ?_ _)); exact BK204.out)) : gb205 ≠ gb204)); clear BK204; clear HB; have BK204 := n0_; have HB := n1_; have BK205 := n2_; have GW205 := n3_; have GE205 := n4_; have NB204_205 := n5_; have NB205_204 := n6_; clear n0_ n1_ n2_ n3_ n4_ n5_ n6_; clear hb hbox hg))
 (try simp only [Act.put, List.setIfInBounds_toArray, List.set_cons_zero, List.set_cons_succ])
 go_cut [26] (fun v26 wc => ∃ (kq : Nat) (x26_4 : Bool), v26 = .bool x26_4 ∧ Aside0 (window_When.j0 kq a2 a3 x26_4 a0_0 a0_1 a0_2 a0_3 a0_4 a0_5 a0_6 a0_7 a0_8 a0_9 a1_0 l1_1 = some r) ∧ Aside0 (kq ≤ k) ∧ Aside0 (wc.heap[gb204]? = some (.cells #[.int .i64 a0_0, .int .i64 a0_1, .int .i64 a0_2, .int .i64 a0_3, .int .i64 a0_4, .int .i64 a0_5, .int .i64 a0_6, .int .i64 a0_7, .int .i64 a0_8, .int .i64 a0_9] 23 (0, 0))) ∧ Aside0 (wc.heap[gb205]? = some (.cells #[.int .i64 a1_0, (.slice A1_1 l1_1.length c1_1)] 26 (0, 0))) ∧ Aside0 (Below w.heap.size w wc))
 case first =>
  have H := HC5.out
  clear HC5
  replace H := Option.bind_eq_some_iff.mp H
  obtain ⟨t206, A80, H⟩ := H
  replace H : (if t206 = true then ((window_may.f a3).bind fun t207 => (if t207 = true then (window_When.j0 k a2 a3 (decide (a3 > a0_1)) a0_0 a0_1 a0_2 a0_3 a0_4 a0_5 a0_6 a0_7 a0_8 a0_9 a1_0 l1_1) else (window_When.j0 k a2 a3 true a0_0 a0_1 a0_2 a0_3 a0_4 a0_5 a0_6 a0_7 a0_8 a0_9 a1_0 l1_1))) else (window_When.j0 k a2 a3 true a0_0 a0_1 a0_2 a0_3 a0_4 a0_5 a0_6 a0_7 a0_8 a0_9 a1_0 l1_1)) = some r := H
  have A8 := Aside0.mk A80
  clear A80
  by_cases c9 : t206 = true
  ·subst c9
   have H1 : ((window_may.f a3).bind fun t207 => (if t207 = true then (window_When.j0 k a2 a3 (decide (a3 > a0_1)) a0_0 a0_1 a0_2 a0_3 a0_4 a0_5 a0_6 a0_7 a0_8 a0_9 a1_0 l1_1) else (window_When.j0 k a2 a3 true a0_0 a0_1 a0_2 a0_3 a0_4 a0_5 a0_6 a0_7 a0_8 a0_9 a1_0 l1_1))) = some r := by rw [if_pos rfl] at H; exact H
   clear H
   have H := H1
   clear H1
   replace H := Option.bind_eq_some_iff.mp H
   obtain ⟨t207, A100, H⟩ := H
   replace H : (if t207 = true then (window_When.j0 k a2 a3 (decide (a3 > a0_1)) a0_0 a0_1 a0_2 a0_3 a0_4 a0_5 a0_6 a0_7 a0_8 a0_9 a1_0 l1_1) else (window_When.j0 k a2 a3 true a0_0 a0_1 a0_2 a0_3 a0_4 a0_5 a0_6 a0_7 a0_8 a0_9 a1_0 l1_1)) = some r := H
   have A10 := Aside0.mk A100
   clear A100
   by_cases c11 : t207 = true
   ·subst c11
    have H1 : (window_When.j0 k a2 a3 (decide (a3 > a0_1)) a0_0 a0_1 a0_2 a0_3 a0_4 a0_5 a0_6 a0_7 a0_8 a0_9 a1_0 l1_1) = some r := by rw [if_pos rfl] at H; exact H
    clear H
    have H := H1
    clear H1
    have H' := Aside0.mk H
    clear H
    have hnb12 := NB204_205.out
    have hnc12 := NB205_204.out
    have hcz13_0 : w7.cell? ⟨gb204, 0, none⟩ = some (.int .i64 a0_0) := (blk_cell BK204.out 0).trans rfl
    have hcz13_1 : w7.cell? ⟨gb204, 1, none⟩ = some (.int .i64 a0_1) := (blk_cell BK204.out 1).trans rfl
    have hcz13_2 : w7.cell? ⟨gb204, 2, none⟩ = some (.int .i64 a0_2) := (blk_cell BK204.out 2).trans rfl
    have hcz13_3 : w7.cell? ⟨gb204, 3, none⟩ = some (.int .i64 a0_3) := (blk_cell BK204.out 3).trans rfl
    have hcz13_4 : w7.cell? ⟨gb204, 4, none⟩ = some (.int .i64 a0_4) := (blk_cell BK204.out 4).trans rfl
    have hcz13_5 : w7.cell? ⟨gb204, 5, none⟩ = some (.int .i64 a0_5) := (blk_cell BK204.out 5).trans rfl
    have hcz13_6 : w7.cell? ⟨gb204, 6, none⟩ = some (.int .i64 a0_6) := (blk_cell BK204.out 6).trans rfl
    have hcz13_7 : w7.cell? ⟨gb204, 7, none⟩ = some (.int .i64 a0_7) := (blk_cell BK204.out 7).trans rfl
    have hcz13_8 : w7.cell? ⟨gb204, 8, none⟩ = some (.int .i64 a0_8) := (blk_cell BK204.out 8).trans rfl
    have hcz13_9 : w7.cell? ⟨gb204, 9, none⟩ = some (.int .i64 a0_9) := (blk_cell BK204.out 9).trans rfl
    have hfz13_0 := blk_frozen BK204.out 0
    have hfz13_1 := blk_frozen BK204.out 1
    have hfz13_2 := blk_frozen BK204.out 2
    have hfz13_3 := blk_frozen BK204.out 3
    have hfz13_4 := blk_frozen BK204.out 4
    have hfz13_5 := blk_frozen BK204.out 5
    have hfz13_6 := blk_frozen BK204.out 6
    have hfz13_7 := blk_frozen BK204.out 7
    have hfz13_8 := blk_frozen BK204.out 8
    have hfz13_9 := blk_frozen BK204.out 9
    go_wp2_with (first | ((with_reducible refine gate_callee (f := 31) rfl ?_); refine goesL_ (some 14) rfl rfl Try.func31 (by kernel_rfl) rfl #[.agg #[.int .i64 a0_0, .int .i64 a0_1, .int .i64 a0_2, .int .i64 a0_3, .int .i64 a0_4, .int .i64 a0_5, .int .i64 a0_6, .int .i64 a0_7, .int .i64 a0_8, .int .i64 a0_9]] rfl (by (try simp only [List.map_toArray, List.map_cons, List.map_nil]); first | done | rfl | (simp only [List.length_drop, List.length_take]; rfl)) ?_; (with_reducible refine (window_means.calls a0_0 a0_1 a0_2 a0_3 a0_4 a0_5 a0_6 a0_7 a0_8 a0_9 true _ A8.out).mono ?_); rintro e w14 ⟨rfl, hb⟩; refine ⟨_, rfl, ?_⟩; have n0_ := Aside0.mk (blk_below (g := gb204) (o := .cells #[.int .i64 a0_0, .int .i64 a0_1, .int .i64 a0_2, .int .i64 a0_3, .int .i64 a0_4, .int .i64 a0_5, .int .i64 a0_6, .int .i64 a0_7, .int .i64 a0_8, .int .i64 a0_9] 23 (0, 0)) (by (with_reducible repeat (first | refine blk_drewN ?_ _ | refine blk_drew ?_ | refine blk_alloc ?_ _)); exact BK204.out) hb); have n1_ := Aside0.mk (blk_below (g := gb205) (o := .cells #[.int .i64 a1_0, .slice A1_1 l1_1.length c1_1] 26 (0, 0)) (by (with_reducible repeat (first | refine blk_drewN ?_ _ | refine blk_drew ?_ | refine blk_alloc ?_ _)); exact BK205.out) hb); have n2_ := Aside0.mk (below_step (by repeat (first | (with_reducible first | exact HB.out | apply below_alloc | apply pw_below_drewN | apply below_drew1 | refine below_set ?_ GE204.out | refine below_set ?_ GE205.out) | exact HB.out)) hb); clear BK204; clear BK205; clear HB; have BK204 := n0_; have BK205 := n1_; have HB := n2_; clear n0_ n1_ n2_; (try clear hb); (try clear hb2); (try clear hk); (try clear hi)) | (go_at_call 33; (with_reducible refine (window_may.calls a3 true _ A10.out).mono ?_); rintro e w' ⟨rfl, ⟨nd, rfl⟩⟩; have hcz15_0 : w14.cell? ⟨gb204, 0, none⟩ = some (.int .i64 a0_0) := (blk_cell BK204.out 0).trans rfl; have hcz15_1 : w14.cell? ⟨gb204, 1, none⟩ = some (.int .i64 a0_1) := (blk_cell BK204.out 1).trans rfl; have hcz15_2 : w14.cell? ⟨gb204, 2, none⟩ = some (.int .i64 a0_2) := (blk_cell BK204.out 2).trans rfl; have hcz15_3 : w14.cell? ⟨gb204, 3, none⟩ = some (.int .i64 a0_3) := (blk_cell BK204.out 3).trans rfl; have hcz15_4 : w14.cell? ⟨gb204, 4, none⟩ = some (.int .i64 a0_4) := (blk_cell BK204.out 4).trans rfl; have hcz15_5 : w14.cell? ⟨gb204, 5, none⟩ = some (.int .i64 a0_5) := (blk_cell BK204.out 5).trans rfl; have hcz15_6 : w14.cell? ⟨gb204, 6, none⟩ = some (.int .i64 a0_6) := (blk_cell BK204.out 6).trans rfl; have hcz15_7 : w14.cell? ⟨gb204, 7, none⟩ = some (.int .i64 a0_7) := (blk_cell BK204.out 7).trans rfl; have hcz15_8 : w14.cell? ⟨gb204, 8, none⟩ = some (.int .i64 a0_8) := (blk_cell BK204.out 8).trans rfl; have hcz15_9 : w14.cell? ⟨gb204, 9, none⟩ = some (.int .i64 a0_9) := (blk_cell BK204.out 9).trans rfl; have hfz15_0 := blk_frozen BK204.out 0; have hfz15_1 := blk_frozen BK204.out 1; have hfz15_2 := blk_frozen BK204.out 2; have hfz15_3 := blk_frozen BK204.out 3; have hfz15_4 := blk_frozen BK204.out 4; have hfz15_5 := blk_frozen BK204.out 5; have hfz15_6 := blk_frozen BK204.out 6; have hfz15_7 := blk_frozen BK204.out 7; have hfz15_8 := blk_frozen BK204.out 8; have hfz15_9 := blk_frozen BK204.out 9))
    go_meet
    case rel => exact ⟨_, (decide (a3 > a0_1)), (by first | rfl | (simp; done) | (simp [*]; done) | (simp [Int.tdiv_eq_ediv_of_nonneg]; done)), H', ⟨by first | omega | exact Nat.le_refl _⟩, ⟨by (with_reducible repeat (first | refine blk_drewN ?_ _ | refine blk_drew ?_ | refine blk_alloc ?_ _)); exact BK204.out⟩, ⟨by (with_reducible repeat (first | refine blk_drewN ?_ _ | refine blk_drew ?_ | refine blk_alloc ?_ _)); exact BK205.out⟩, ⟨by repeat (first | (with_reducible first | exact HB.out | apply below_alloc | apply pw_below_drewN | apply below_drew1 | refine below_set ?_ GE204.out | refine below_set ?_ GE205.out) | exact HB.out)⟩⟩
   ·replace c11 := Bool.eq_false_iff.mpr c11
    subst c11
    have H1 : (window_When.j0 k a2 a3 true a0_0 a0_1 a0_2 a0_3 a0_4 a0_5 a0_6 a0_7 a0_8 a0_9 a1_0 l1_1) = some r := by rw [if_neg (show ¬ (false = true) by decide)] at H; exact H
    clear H
    have H := H1
    clear H1
    have H' := Aside0.mk H
    clear H
    have hnb16 := NB204_205.out
    have hnc16 := NB205_204.out
    have hcz17_0 : w7.cell? ⟨gb204, 0, none⟩ = some (.int .i64 a0_0) := (blk_cell BK204.out 0).trans rfl
    have hcz17_1 : w7.cell? ⟨gb204, 1, none⟩ = some (.int .i64 a0_1) := (blk_cell BK204.out 1).trans rfl
    have hcz17_2 : w7.cell? ⟨gb204, 2, none⟩ = some (.int .i64 a0_2) := (blk_cell BK204.out 2).trans rfl
    have hcz17_3 : w7.cell? ⟨gb204, 3, none⟩ = some (.int .i64 a0_3) := (blk_cell BK204.out 3).trans rfl
    have hcz17_4 : w7.cell? ⟨gb204, 4, none⟩ = some (.int .i64 a0_4) := (blk_cell BK204.out 4).trans rfl
    have hcz17_5 : w7.cell? ⟨gb204, 5, none⟩ = some (.int .i64 a0_5) := (blk_cell BK204.out 5).trans rfl
    have hcz17_6 : w7.cell? ⟨gb204, 6, none⟩ = some (.int .i64 a0_6) := (blk_cell BK204.out 6).trans rfl
    have hcz17_7 : w7.cell? ⟨gb204, 7, none⟩ = some (.int .i64 a0_7) := (blk_cell BK204.out 7).trans rfl
    have hcz17_8 : w7.cell? ⟨gb204, 8, none⟩ = some (.int .i64 a0_8) := (blk_cell BK204.out 8).trans rfl
    have hcz17_9 : w7.cell? ⟨gb204, 9, none⟩ = some (.int .i64 a0_9) := (blk_cell BK204.out 9).trans rfl
    have hfz17_0 := blk_frozen BK204.out 0
    have hfz17_1 := blk_frozen BK204.out 1
    have hfz17_2 := blk_frozen BK204.out 2
    have hfz17_3 := blk_frozen BK204.out 3
    have hfz17_4 := blk_frozen BK204.out 4
    have hfz17_5 := blk_frozen BK204.out 5
    have hfz17_6 := blk_frozen BK204.out 6
    have hfz17_7 := blk_frozen BK204.out 7
    have hfz17_8 := blk_frozen BK204.out 8
    have hfz17_9 := blk_frozen BK204.out 9
    go_wp2_with (first | ((with_reducible refine gate_callee (f := 31) rfl ?_); refine goesL_ (some 14) rfl rfl Try.func31 (by kernel_rfl) rfl #[.agg #[.int .i64 a0_0, .int .i64 a0_1, .int .i64 a0_2, .int .i64 a0_3, .int .i64 a0_4, .int .i64 a0_5, .int .i64 a0_6, .int .i64 a0_7, .int .i64 a0_8, .int .i64 a0_9]] rfl (by (try simp only [List.map_toArray, List.map_cons, List.map_nil]); first | done | rfl | (simp only [List.length_drop, List.length_take]; rfl)) ?_; (with_reducible refine (window_means.calls a0_0 a0_1 a0_2 a0_3 a0_4 a0_5 a0_6 a0_7 a0_8 a0_9 true _ A8.out).mono ?_); rintro e w18 ⟨rfl, hb⟩; refine ⟨_, rfl, ?_⟩; have n0_ := Aside0.mk (blk_below (g := gb204) (o := .cells #[.int .i64 a0_0, .int .i64 a0_1, .int .i64 a0_2, .int .i64 a0_3, .int .i64 a0_4, .int .i64 a0_5, .int .i64 a0_6, .int .i64 a0_7, .int .i64 a0_8, .int .i64 a0_9] 23 (0, 0)) (by (with_reducible repeat (first | refine blk_drewN ?_ _ | refine blk_drew ?_ | refine blk_alloc ?_ _)); exact BK204.out) hb); have n1_ := Aside0.mk (blk_below (g := gb205) (o := .cells #[.int .i64 a1_0, .slice A1_1 l1_1.length c1_1] 26 (0, 0)) (by (with_reducible repeat (first | refine blk_drewN ?_ _ | refine blk_drew ?_ | refine blk_alloc ?_ _)); exact BK205.out) hb); have n2_ := Aside0.mk (below_step (by repeat (first | (with_reducible first | exact HB.out | apply below_alloc | apply pw_below_drewN | apply below_drew1 | refine below_set ?_ GE204.out | refine below_set ?_ GE205.out) | exact HB.out)) hb); clear BK204; clear BK205; clear HB; have BK204 := n0_; have BK205 := n1_; have HB := n2_; clear n0_ n1_ n2_; (try clear hb); (try clear hb2); (try clear hk); (try clear hi)) | (go_at_call 33; (with_reducible refine (window_may.calls a3 false _ A10.out).mono ?_); rintro e w' ⟨rfl, ⟨nd, rfl⟩⟩))
    go_meet
    case rel => exact ⟨_, (true), (by first | rfl | (simp; done) | (simp [*]; done) | (simp [Int.tdiv_eq_ediv_of_nonneg]; done)), H', ⟨by first | omega | exact Nat.le_refl _⟩, ⟨by (with_reducible repeat (first | refine blk_drewN ?_ _ | refine blk_drew ?_ | refine blk_alloc ?_ _)); exact BK204.out⟩, ⟨by (with_reducible repeat (first | refine blk_drewN ?_ _ | refine blk_drew ?_ | refine blk_alloc ?_ _)); exact BK205.out⟩, ⟨by repeat (first | (with_reducible first | exact HB.out | apply below_alloc | apply pw_below_drewN | apply below_drew1 | refine below_set ?_ GE204.out | refine below_set ?_ GE205.out) | exact HB.out)⟩⟩
  ·replace c9 := Bool.eq_false_iff.mpr c9
   subst c9
   have H1 : (window_When.j0 k a2 a3 true a0_0 a0_1 a0_2 a0_3 a0_4 a0_5 a0_6 a0_7 a0_8 a0_9 a1_0 l1_1) = some r := by rw [if_neg (show ¬ (false = true) by decide)] at H; exact H
   clear H
   have H := H1
   clear H1
   have H' := Aside0.mk H
   clear H
   have hnb19 := NB204_205.out
   have hnc19 := NB205_204.out
   have hcz20_0 : w7.cell? ⟨gb204, 0, none⟩ = some (.int .i64 a0_0) := (blk_cell BK204.out 0).trans rfl
   have hcz20_1 : w7.cell? ⟨gb204, 1, none⟩ = some (.int .i64 a0_1) := (blk_cell BK204.out 1).trans rfl
   have hcz20_2 : w7.cell? ⟨gb204, 2, none⟩ = some (.int .i64 a0_2) := (blk_cell BK204.out 2).trans rfl
   have hcz20_3 : w7.cell? ⟨gb204, 3, none⟩ = some (.int .i64 a0_3) := (blk_cell BK204.out 3).trans rfl
   have hcz20_4 : w7.cell? ⟨gb204, 4, none⟩ = some (.int .i64 a0_4) := (blk_cell BK204.out 4).trans rfl
   have hcz20_5 : w7.cell? ⟨gb204, 5, none⟩ = some (.int .i64 a0_5) := (blk_cell BK204.out 5).trans rfl
   have hcz20_6 : w7.cell? ⟨gb204, 6, none⟩ = some (.int .i64 a0_6) := (blk_cell BK204.out 6).trans rfl
   have hcz20_7 : w7.cell? ⟨gb204, 7, none⟩ = some (.int .i64 a0_7) := (blk_cell BK204.out 7).trans rfl
   have hcz20_8 : w7.cell? ⟨gb204, 8, none⟩ = some (.int .i64 a0_8) := (blk_cell BK204.out 8).trans rfl
   have hcz20_9 : w7.cell? ⟨gb204, 9, none⟩ = some (.int .i64 a0_9) := (blk_cell BK204.out 9).trans rfl
   have hfz20_0 := blk_frozen BK204.out 0
   have hfz20_1 := blk_frozen BK204.out 1
   have hfz20_2 := blk_frozen BK204.out 2
   have hfz20_3 := blk_frozen BK204.out 3
   have hfz20_4 := blk_frozen BK204.out 4
   have hfz20_5 := blk_frozen BK204.out 5
   have hfz20_6 := blk_frozen BK204.out 6
   have hfz20_7 := blk_frozen BK204.out 7
   have hfz20_8 := blk_frozen BK204.out 8
   have hfz20_9 := blk_frozen BK204.out 9
   go_wp2_with (first | ((with_reducible refine gate_callee (f := 31) rfl ?_); refine goesL_ (some 14) rfl rfl Try.func31 (by kernel_rfl) rfl #[.agg #[.int .i64 a0_0, .int .i64 a0_1, .int .i64 a0_2, .int .i64 a0_3, .int .i64 a0_4, .int .i64 a0_5, .int .i64 a0_6, .int .i64 a0_7, .int .i64 a0_8, .int .i64 a0_9]] rfl (by (try simp only [List.map_toArray, List.map_cons, List.map_nil]); first | done | rfl | (simp only [List.length_drop, List.length_take]; rfl)) ?_; (with_reducible refine (window_means.calls a0_0 a0_1 a0_2 a0_3 a0_4 a0_5 a0_6 a0_7 a0_8 a0_9 false _ A8.out).mono ?_); rintro e w21 ⟨rfl, hb⟩; refine ⟨_, rfl, ?_⟩; have n0_ := Aside0.mk (blk_below (g := gb204) (o := .cells #[.int .i64 a0_0, .int .i64 a0_1, .int .i64 a0_2, .int .i64 a0_3, .int .i64 a0_4, .int .i64 a0_5, .int .i64 a0_6, .int .i64 a0_7, .int .i64 a0_8, .int .i64 a0_9] 23 (0, 0)) (by (with_reducible repeat (first | refine blk_drewN ?_ _ | refine blk_drew ?_ | refine blk_alloc ?_ _)); exact BK204.out) hb); have n1_ := Aside0.mk (blk_below (g := gb205) (o := .cells #[.int .i64 a1_0, .slice A1_1 l1_1.length c1_1] 26 (0, 0)) (by (with_reducible repeat (first | refine blk_drewN ?_ _ | refine blk_drew ?_ | refine blk_alloc ?_ _)); exact BK205.out) hb); have n2_ := Aside0.mk (below_step (by repeat (first | (with_reducible first | exact HB.out | apply below_alloc | apply pw_below_drewN | apply below_drew1 | refine below_set ?_ GE204.out | refine below_set ?_ GE205.out) | exact HB.out)) hb); clear BK204; clear BK205; clear HB; have BK204 := n0_; have BK205 := n1_; have HB := n2_; clear n0_ n1_ n2_; (try clear hb); (try clear hb2); (try clear hk); (try clear hi)))
   go_meet
   case rel => exact ⟨_, (true), (by first | rfl | (simp; done) | (simp [*]; done) | (simp [Int.tdiv_eq_ediv_of_nonneg]; done)), H', ⟨by first | omega | exact Nat.le_refl _⟩, ⟨by (with_reducible repeat (first | refine blk_drewN ?_ _ | refine blk_drew ?_ | refine blk_alloc ?_ _)); exact BK204.out⟩, ⟨by (with_reducible repeat (first | refine blk_drewN ?_ _ | refine blk_drew ?_ | refine blk_alloc ?_ _)); exact BK205.out⟩, ⟨by repeat (first | (with_reducible first | exact HB.out | apply below_alloc | apply pw_below_drewN | apply below_drew1 | refine below_set ?_ GE204.out | refine below_set ?_ GE205.out) | exact HB.out)⟩⟩
 case rest =>
  clear HC5
  try clear c1
  try clear c2
  try clear p2
  try clear c3
  try clear c9
  try clear c11
  try clear c12
  try clear c16
  try clear c19
  try clear hcz13_0
  try clear hcz13_1
  try clear hcz13_2
  try clear hcz13_3
  try clear hcz13_4
  try clear hcz13_5
  try clear hcz13_6
  try clear hcz13_7
  try clear hcz13_8
  try clear hcz13_9
  try clear hcz15_0
  try clear hcz15_1
  try clear hcz15_2
  try clear hcz15_3
  try clear hcz15_4
  try clear hcz15_5
  try clear hcz15_6
  try clear hcz15_7
  try clear hcz15_8
  try clear hcz15_9
  try clear hcz17_0
  try clear hcz17_1
  try clear hcz17_2
  try clear hcz17_3
  try clear hcz17_4
  try clear hcz17_5
  try clear hcz17_6
  try clear hcz17_7
  try clear hcz17_8
  try clear hcz17_9
  try clear hcz20_0
  try clear hcz20_1
  try clear hcz20_2
  try clear hcz20_3
  try clear hcz20_4
  try clear hcz20_5
  try clear hcz20_6
  try clear hcz20_7
  try clear hcz20_8
  try clear hcz20_9
  try clear hfz13_0
  try clear hfz13_1
  try clear hfz13_2
  try clear hfz13_3
  try clear hfz13_4
  try clear hfz13_5
  try clear hfz13_6
  try clear hfz13_7
  try clear hfz13_8
  try clear hfz13_9
  try clear hfz15_0
  try clear hfz15_1
  try clear hfz15_2
  try clear hfz15_3
  try clear hfz15_4
  try clear hfz15_5
  try clear hfz15_6
  try clear hfz15_7
  try clear hfz15_8
  try clear hfz15_9
  try clear hfz17_0
  try clear hfz17_1
  try clear hfz17_2
  try clear hfz17_3
  try clear hfz17_4
  try clear hfz17_5
  try clear hfz17_6
  try clear hfz17_7
  try clear hfz17_8
  try clear hfz17_9
  try clear hfz20_0
  try clear hfz20_1
  try clear hfz20_2
  try clear hfz20_3
  try clear hfz20_4
  try clear hfz20_5
  try clear hfz20_6
  try clear hfz20_7
  try clear hfz20_8
  try clear hfz20_9
  obtain ⟨kq, x26_4, rfl, HA, HJ4, BK204, BK205, HB⟩ := hcut
  cases kq with
  | zero => exact absurd HA.out (by simp [window_When.j0])
  | succ kj4 =>
   have H := HA.out
   clear HA
   simp only [window_When.j0] at H
   by_cases c22 : x26_4 = true
   ·subst c22
    have H1 : (some (-1)) = some r := by rw [if_pos rfl] at H; exact H
    clear H
    have H := H1
    clear H1
    obtain rfl := Option.some.inj H
    go_wp2
    go_ret
    exact ⟨by first | rfl | (simp only [i64_w] <;> rfl) | (simp [errW_none, errW_some] <;> rfl) | (simp [*, errW_none, errW_some] <;> rfl), by repeat (first | (with_reducible first | exact HB.out | apply below_alloc | apply pw_below_drewN | apply below_drew1 | refine below_set ?_ GE204.out | refine below_set ?_ GE205.out) | exact HB.out)⟩
   ·replace c22 := Bool.eq_false_iff.mpr c22
    subst c22
    have H1 : ((window_counts.f a0_0 a0_1 a0_2 a0_3 a0_4 a0_5 a0_6 a0_7 a0_8 a0_9 a1_0 l1_1).bind fun bt208 => ((window_clip.f a2).bind fun t212 => ((window_Move.f a0_0 a0_1 a0_2 a0_3 a0_4 a0_5 a0_6 a0_7 a0_8 a0_9 bt208.1 bt208.2 t212).bind fun bt213 => ((window_May.f a0_0 a0_1 a0_2 a0_3 a0_4 a0_5 a0_6 a0_7 a0_8 a0_9 bt213.1 bt213.2 a3).bind fun t217 => (if t217 = true then (some t212) else ((window_Total.f bt208.1 bt208.2).bind fun t218 => (window_When.l0 kj4 t212 a3 t218 bt208.2 (bt208.2.length : Int) 0 a0_0 a0_1 a0_2 a0_3 a0_4 a0_5 a0_6 a0_7 a0_8 a0_9 bt208.1 bt208.2))))))) = some r := by rw [if_neg (show ¬ (false = true) by decide)] at H; exact H
    clear H
    have H := H1
    clear H1
    replace H := Option.bind_eq_some_iff.mp H
    obtain ⟨⟨t208, t209⟩, A230, H⟩ := H
    replace H : ((window_clip.f a2).bind fun t212 => ((window_Move.f a0_0 a0_1 a0_2 a0_3 a0_4 a0_5 a0_6 a0_7 a0_8 a0_9 t208 t209 t212).bind fun bt213 => ((window_May.f a0_0 a0_1 a0_2 a0_3 a0_4 a0_5 a0_6 a0_7 a0_8 a0_9 bt213.1 bt213.2 a3).bind fun t217 => (if t217 = true then (some t212) else ((window_Total.f t208 t209).bind fun t218 => (window_When.l0 kj4 t212 a3 t218 t209 (t209.length : Int) 0 a0_0 a0_1 a0_2 a0_3 a0_4 a0_5 a0_6 a0_7 a0_8 a0_9 t208 t209)))))) = some r := H
    have A23 := Aside0.mk A230
    clear A230
    replace H := Option.bind_eq_some_iff.mp H
    obtain ⟨t212, A240, H⟩ := H
    replace H : ((window_Move.f a0_0 a0_1 a0_2 a0_3 a0_4 a0_5 a0_6 a0_7 a0_8 a0_9 t208 t209 t212).bind fun bt213 => ((window_May.f a0_0 a0_1 a0_2 a0_3 a0_4 a0_5 a0_6 a0_7 a0_8 a0_9 bt213.1 bt213.2 a3).bind fun t217 => (if t217 = true then (some t212) else ((window_Total.f t208 t209).bind fun t218 => (window_When.l0 kj4 t212 a3 t218 t209 (t209.length : Int) 0 a0_0 a0_1 a0_2 a0_3 a0_4 a0_5 a0_6 a0_7 a0_8 a0_9 t208 t209))))) = some r := H
    have A24 := Aside0.mk A240
    clear A240
    replace H := Option.bind_eq_some_iff.mp H
    obtain ⟨⟨t213, t214⟩, A250, H⟩ := H
    replace H : ((window_May.f a0_0 a0_1 a0_2 a0_3 a0_4 a0_5 a0_6 a0_7 a0_8 a0_9 t213 t214 a3).bind fun t217 => (if t217 = true then (some t212) else ((window_Total.f t208 t209).bind fun t218 => (window_When.l0 kj4 t212 a3 t218 t209 (t209.length : Int) 0 a0_0 a0_1 a0_2 a0_3 a0_4 a0_5 a0_6 a0_7 a0_8 a0_9 t208 t209)))) = some r := H
    have A25 := Aside0.mk A250
    clear A250
    replace H := Option.bind_eq_some_iff.mp H
    obtain ⟨t217, A260, H⟩ := H
    replace H : (if t217 = true then (some t212) else ((window_Total.f t208 t209).bind fun t218 => (window_When.l0 kj4 t212 a3 t218 t209 (t209.length : Int) 0 a0_0 a0_1 a0_2 a0_3 a0_4 a0_5 a0_6 a0_7 a0_8 a0_9 t208 t209))) = some r := H
    have A26 := Aside0.mk A260
    clear A260
    by_cases c27 : t217 = true
    ·subst c27
     have H1 : (some t212) = some r := by rw [if_pos rfl] at H; exact H
     clear H
     have H := H1
     clear H1
     obtain rfl := Option.some.inj H
     have hnb28 := NB204_205.out
     have hnc28 := NB205_204.out
     have hcz29_0 : wc.cell? ⟨gb204, 0, none⟩ = some (.int .i64 a0_0) := (blk_cell BK204.out 0).trans rfl
     have hcz29_1 : wc.cell? ⟨gb204, 1, none⟩ = some (.int .i64 a0_1) := (blk_cell BK204.out 1).trans rfl
     have hcz29_2 : wc.cell? ⟨gb204, 2, none⟩ = some (.int .i64 a0_2) := (blk_cell BK204.out 2).trans rfl
     have hcz29_3 : wc.cell? ⟨gb204, 3, none⟩ = some (.int .i64 a0_3) := (blk_cell BK204.out 3).trans rfl
     have hcz29_4 : wc.cell? ⟨gb204, 4, none⟩ = some (.int .i64 a0_4) := (blk_cell BK204.out 4).trans rfl
     have hcz29_5 : wc.cell? ⟨gb204, 5, none⟩ = some (.int .i64 a0_5) := (blk_cell BK204.out 5).trans rfl
     have hcz29_6 : wc.cell? ⟨gb204, 6, none⟩ = some (.int .i64 a0_6) := (blk_cell BK204.out 6).trans rfl
     have hcz29_7 : wc.cell? ⟨gb204, 7, none⟩ = some (.int .i64 a0_7) := (blk_cell BK204.out 7).trans rfl
     have hcz29_8 : wc.cell? ⟨gb204, 8, none⟩ = some (.int .i64 a0_8) := (blk_cell BK204.out 8).trans rfl
     have hcz29_9 : wc.cell? ⟨gb204, 9, none⟩ = some (.int .i64 a0_9) := (blk_cell BK204.out 9).trans rfl
     have hfz29_0 := blk_frozen BK204.out 0
     have hfz29_1 := blk_frozen BK204.out 1
     have hfz29_2 := blk_frozen BK204.out 2
     have hfz29_3 := blk_frozen BK204.out 3
     have hfz29_4 := blk_frozen BK204.out 4
     have hfz29_5 := blk_frozen BK204.out 5
     have hfz29_6 := blk_frozen BK204.out 6
     have hfz29_7 := blk_frozen BK204.out 7
     have hfz29_8 := blk_frozen BK204.out 8
     have hfz29_9 := blk_frozen BK204.out 9
     have hcz30_0 : wc.cell? ⟨gb205, 0, none⟩ = some (.int .i64 a1_0) := (blk_cell BK205.out 0).trans rfl
     have hcz30_1 : wc.cell? ⟨gb205, 1, none⟩ = some (.slice A1_1 l1_1.length c1_1) := (blk_cell BK205.out 1).trans rfl
     have hfz30_0 := blk_frozen BK205.out 0
     have hfz30_1 := blk_frozen BK205.out 1
     try go_wp2_with (first | ((with_reducible refine gate_callee (f := 32) rfl ?_); refine goesL_ (some 29) rfl rfl Try.func32 (by kernel_rfl) rfl #[.agg #[.int .i64 a0_0, .int .i64 a0_1, .int .i64 a0_2, .int .i64 a0_3, .int .i64 a0_4, .int .i64 a0_5, .int .i64 a0_6, .int .i64 a0_7, .int .i64 a0_8, .int .i64 a0_9], .agg #[.int .i64 a1_0, .slice A1_1 l1_1.length c1_1]] rfl (by (try simp only [List.map_toArray, List.map_cons, List.map_nil]); first | done | rfl | (simp only [List.length_drop, List.length_take]; rfl)) ?_; (with_reducible refine (window_counts.calls a0_0 a0_1 a0_2 a0_3 a0_4 a0_5 a0_6 a0_7 a0_8 a0_9 a1_0 _ _ l1_1 t208 t209 _ ?side1 ?side2 A23.out).mono ?_); (case side1 => repeat (first | exact (Kd.C_below HR1_1.out HB.out) | (with_reducible refine Kd.C_alloc ?_ _) | (with_reducible refine Kd.C_drewN ?_ _) | (with_reducible refine Kd.C_drew ?_))); (case side2 => exact HC1_1.out); rintro e w31 ⟨v210, rfl, ho0, hb⟩; refine ⟨_, rfl, ?_⟩; have n0_ := Aside0.mk (Kd.R_lower ho0 (below_size (by repeat (first | (with_reducible first | exact HB.out | apply below_alloc | apply pw_below_drewN | apply below_drew1 | refine below_set ?_ GE204.out | refine below_set ?_ GE205.out) | exact HB.out)))); have n1_ := Aside0.mk (blk_below (g := gb204) (o := .cells #[.int .i64 a0_0, .int .i64 a0_1, .int .i64 a0_2, .int .i64 a0_3, .int .i64 a0_4, .int .i64 a0_5, .int .i64 a0_6, .int .i64 a0_7, .int .i64 a0_8, .int .i64 a0_9] 23 (0, 0)) (by (with_reducible repeat (first | refine blk_drewN ?_ _ | refine blk_drew ?_ | refine blk_alloc ?_ _)); exact BK204.out) hb); have n2_ := Aside0.mk (blk_below (g := gb205) (o := .cells #[.int .i64 a1_0, .slice A1_1 l1_1.length c1_1] 26 (0, 0)) (by (with_reducible repeat (first | refine blk_drewN ?_ _ | refine blk_drew ?_ | refine blk_alloc ?_ _)); exact BK205.out) hb); have n3_ := Aside0.mk (below_step (by repeat (first | (with_reducible first | exact HB.out | apply below_alloc | apply pw_below_drewN | apply below_drew1 | refine below_set ?_ GE204.out | refine below_set ?_ GE205.out) | exact HB.out)) hb); clear BK204; clear BK205; clear HB; have HO211 := n0_; have BK204 := n1_; have BK205 := n2_; have HB := n3_; clear n0_ n1_ n2_ n3_; (try clear hb); (try clear hb2); (try clear hk); (try clear hi); (try clear ho0)) | ((with_reducible refine gate_callee (f := 35) rfl ?_); refine goesL_ (some 31) rfl rfl Try.func35 (by kernel_rfl) rfl #[.int .i64 a2] rfl (by (try simp only [List.map_toArray, List.map_cons, List.map_nil]); first | done | rfl | (simp only [List.length_drop, List.length_take]; rfl)) ?_; (with_reducible refine (window_clip.calls a2 t212 _ A24.out).mono ?_); rintro e w32 ⟨rfl, hb⟩; refine ⟨_, rfl, ?_⟩; have n0_ := Aside0.mk (Kd.R_below (by (with_reducible repeat (first | apply Kd.R_alloc | apply Kd.R_drewN | apply Kd.R_drew)); exact HO211.out) hb); have n1_ := Aside0.mk (blk_below (g := gb204) (o := .cells #[.int .i64 a0_0, .int .i64 a0_1, .int .i64 a0_2, .int .i64 a0_3, .int .i64 a0_4, .int .i64 a0_5, .int .i64 a0_6, .int .i64 a0_7, .int .i64 a0_8, .int .i64 a0_9] 23 (0, 0)) (by (with_reducible repeat (first | refine blk_drewN ?_ _ | refine blk_drew ?_ | refine blk_alloc ?_ _)); exact BK204.out) hb); have n2_ := Aside0.mk (blk_below (g := gb205) (o := .cells #[.int .i64 a1_0, .slice A1_1 l1_1.length c1_1] 26 (0, 0)) (by (with_reducible repeat (first | refine blk_drewN ?_ _ | refine blk_drew ?_ | refine blk_alloc ?_ _)); exact BK205.out) hb); have n3_ := Aside0.mk (below_step (by repeat (first | (with_reducible first | exact HB.out | apply below_alloc | apply pw_below_drewN | apply below_drew1 | refine below_set ?_ GE204.out | refine below_set ?_ GE205.out) | exact HB.out)) hb); clear HO211; clear BK204; clear BK205; clear HB; have HO211 := n0_; have BK204 := n1_; have BK205 := n2_; have HB := n3_; clear n0_ n1_ n2_ n3_; (try clear hb); (try clear hb2); (try clear hk); (try clear hi); have hcz33_0 : w32.cell? ⟨gb205, 0, none⟩ = some (.int .i64 a1_0) := (blk_cell BK205.out 0).trans rfl; have hcz33_1 : w32.cell? ⟨gb205, 1, none⟩ = some (.slice A1_1 l1_1.length c1_1) := (blk_cell BK205.out 1).trans rfl; have hfz33_0 := blk_frozen BK205.out 0; have hfz33_1 := blk_frozen BK205.out 1; obtain ⟨Ao34, co34, eo34⟩ := Kd.R_slice HO211.out; subst eo34))
     have n0_ : Aside0 (Kd.R (Kd.int .i64) 3 ((w32.setCell ⟨gb205, 0, none⟩ (.int .i64 t208)).setCell ⟨gb205, 1, none⟩ (.slice Ao34 t209.length co34)) w.heap.size (fun _ => True) (.slice Ao34 t209.length co34) t209) := ⟨by (with_reducible repeat (first | apply Kd.R_alloc | apply Kd.R_drewN | apply Kd.R_drew)); exact Kd.R_mono (Kd.R_far (p := ⟨gb205, 1, none⟩) (Kd.R_far (p := ⟨gb205, 0, none⟩) (Kd.R_types HO211.out BK205.out (by decide)) (fun _ hk => hk.2) (.int .i64 t208)) (fun _ hk => hk.2) (.slice Ao34 t209.length co34)) (fun _ hk => trivial)⟩
     have n1_ : Aside0 (((w32.setCell ⟨gb205, 0, none⟩ (.int .i64 t208)).setCell ⟨gb205, 1, none⟩ (.slice Ao34 t209.length co34)).heap[gb204]? = some (.cells #[.int .i64 a0_0, .int .i64 a0_1, .int .i64 a0_2, .int .i64 a0_3, .int .i64 a0_4, .int .i64 a0_5, .int .i64 a0_6, .int .i64 a0_7, .int .i64 a0_8, .int .i64 a0_9] 23 (0, 0))) := ⟨by (with_reducible repeat (first | refine blk_drewN ?_ _ | refine blk_drew ?_ | refine blk_alloc ?_ _)); refine blk_far ?_ NB204_205.out _; (with_reducible repeat (first | refine blk_drewN ?_ _ | refine blk_drew ?_ | refine blk_alloc ?_ _)); refine blk_far ?_ NB204_205.out _; (with_reducible repeat (first | refine blk_drewN ?_ _ | refine blk_drew ?_ | refine blk_alloc ?_ _)); exact BK204.out⟩
     have n2_ : Aside0 (((w32.setCell ⟨gb205, 0, none⟩ (.int .i64 t208)).setCell ⟨gb205, 1, none⟩ (.slice Ao34 t209.length co34)).heap[gb205]? = some (.cells #[.int .i64 t208, .slice Ao34 t209.length co34] 26 (0, 0))) := ⟨by (with_reducible repeat (first | refine blk_drewN ?_ _ | refine blk_drew ?_ | refine blk_alloc ?_ _)); refine blk_put (cs := #[.int .i64 t208, .slice A1_1 l1_1.length c1_1]) ?_ 1 _ rfl; (with_reducible repeat (first | refine blk_drewN ?_ _ | refine blk_drew ?_ | refine blk_alloc ?_ _)); refine blk_put (cs := #[.int .i64 a1_0, .slice A1_1 l1_1.length c1_1]) ?_ 0 _ rfl; (with_reducible repeat (first | refine blk_drewN ?_ _ | refine blk_drew ?_ | refine blk_alloc ?_ _)); exact BK205.out⟩
     have n3_ : Aside0 (Below w.heap.size w ((w32.setCell ⟨gb205, 0, none⟩ (.int .i64 t208)).setCell ⟨gb205, 1, none⟩ (.slice Ao34 t209.length co34))) := ⟨by repeat (first | (with_reducible first | exact HB.out | apply below_alloc | apply pw_below_drewN | apply below_drew1 | refine below_set ?_ GE204.out | refine below_set ?_ GE205.out) | exact HB.out)⟩
     (try clear HO211)
     (try clear BK204)
     (try clear BK205)
     (try clear HB)
     generalize ((w32.setCell ⟨gb205, 0, none⟩ (.int .i64 t208)).setCell ⟨gb205, 1, none⟩ (.slice Ao34 t209.length co34)) = w35 at n0_ n1_ n2_ n3_ ⊢
     have HO211 := n0_
     have BK204 := n1_
     have BK205 := n2_
     have HB := n3_
     clear n0_ n1_ n2_ n3_
     have n0_ := Aside0.mk (Kd.R_drew HO211.out)
     have n1_ := Aside0.mk (blk_drew BK204.out)
     have n2_ := Aside0.mk (blk_drew BK205.out)
     have n3_ := Aside0.mk (below_drew1 HB.out)
     clear HO211
     clear BK204
     clear BK205
     clear HB
     have HO211 := n0_
     have BK204 := n1_
     have BK205 := n2_
     have HB := n3_
     clear n0_ n1_ n2_ n3_
     refine start_ (n := 7) (S := fun w' => w'.cell? ⟨gb204, 0, none⟩ = some (.int .i64 a0_0) ∧ w'.cell? ⟨gb204, 1, none⟩ = some (.int .i64 a0_1) ∧ w'.cell? ⟨gb204, 2, none⟩ = some (.int .i64 a0_2) ∧ w'.cell? ⟨gb204, 3, none⟩ = some (.int .i64 a0_3) ∧ w'.cell? ⟨gb204, 4, none⟩ = some (.int .i64 a0_4) ∧ w'.cell? ⟨gb204, 5, none⟩ = some (.int .i64 a0_5) ∧ w'.cell? ⟨gb204, 6, none⟩ = some (.int .i64 a0_6) ∧ w'.cell? ⟨gb204, 7, none⟩ = some (.int .i64 a0_7) ∧ w'.cell? ⟨gb204, 8, none⟩ = some (.int .i64 a0_8) ∧ w'.cell? ⟨gb204, 9, none⟩ = some (.int .i64 a0_9) ∧ w'.cell? ⟨gb205, 0, none⟩ = some (.int .i64 t208) ∧ w'.cell? ⟨gb205, 1, none⟩ = some (.slice Ao34 t209.length co34)) (ds := []) #[false, false, false, false, false, false, false] (by kernel_rfl) rfl rfl ⟨(blk_cell BK204.out 0).trans rfl, (blk_cell BK204.out 1).trans rfl, (blk_cell BK204.out 2).trans rfl, (blk_cell BK204.out 3).trans rfl, (blk_cell BK204.out 4).trans rfl, (blk_cell BK204.out 5).trans rfl, (blk_cell BK204.out 6).trans rfl, (blk_cell BK204.out 7).trans rfl, (blk_cell BK204.out 8).trans rfl, (blk_cell BK204.out 9).trans rfl, (blk_cell BK205.out 0).trans rfl, (blk_cell BK205.out 1).trans rfl⟩ (fun hHeld => ?_)
     generalize w35.drew = w36 at HO211 BK204 BK205 HB hHeld ⊢
     refine pure_ (i := 3) (N := some 35) (v := ?_) (a' := ?_) #[false, false, false, true, false, false, false] rfl rfl (by kernel_rfl) (fun _ _ _ h => h) (Or.inl ⟨by rfl, ?_⟩) ?_ ?_
     rotate_left
     ·intro w'
      go_simp
      with_reducible rfl
     rotate_left
     ·simp only [Act.put, List.setIfInBounds_toArray, List.set_cons_zero, List.set_cons_succ, i64_w, i32_w]
      rfl
     refine pure_ (i := 5) (N := some 37) (v := ?_) (a' := ?_) #[false, false, false, true, false, true, false] rfl rfl (by kernel_rfl) (fun _ _ _ h => h) (Or.inl ⟨by rfl, ?_⟩) ?_ ?_
     rotate_left
     ·intro w'
      go_simp
      with_reducible rfl
     rotate_left
     ·simp only [Act.put, List.setIfInBounds_toArray, List.set_cons_zero, List.set_cons_succ, i64_w, i32_w]
      rfl
     refine take_ (i := 0) (N := some 32) (v := ?_) (a' := ?_) #[true, false, false, true, false, true, false] rfl rfl (by kernel_rfl) (fun _ _ _ h => h) (Or.inl ⟨by rfl, ?_⟩) hHeld ?_ ?_
     rotate_left
     ·rintro w' ⟨s0, s1, s2, s3, s4, s5, s6, s7, s8, s9, s10, s11⟩
      go_simp
      with_reducible rfl
     rotate_left
     ·simp only [Act.put, List.setIfInBounds_toArray, List.set_cons_zero, List.set_cons_succ, i64_w, i32_w]
      rfl
     refine take_ (i := 1) (N := some 33) (v := ?_) (a' := ?_) #[true, true, false, true, false, true, false] rfl rfl (by kernel_rfl) (fun _ _ _ h => h) (Or.inl ⟨by rfl, ?_⟩) hHeld ?_ ?_
     rotate_left
     ·rintro w' ⟨s0, s1, s2, s3, s4, s5, s6, s7, s8, s9, s10, s11⟩
      go_simp
      with_reducible rfl
     rotate_left
     ·simp only [Act.put, List.setIfInBounds_toArray, List.set_cons_zero, List.set_cons_succ, i64_w, i32_w]
      rfl
     refine take_ (i := 2) (N := some 34) (v := ?_) (a' := ?_) #[true, true, true, true, false, true, false] rfl rfl (by kernel_rfl) (fun _ _ _ h => h) (Or.inl ⟨by rfl, ?_⟩) hHeld ?_ ?_
     rotate_left
     ·rintro w' ⟨s0, s1, s2, s3, s4, s5, s6, s7, s8, s9, s10, s11⟩
      go_simp
      with_reducible rfl
     rotate_left
     ·simp only [Act.put, List.setIfInBounds_toArray, List.set_cons_zero, List.set_cons_succ, i64_w, i32_w]
      rfl
     refine one_ (i := 4) (N := some 36) #[true, true, true, true, true, true, false] rfl rfl (by kernel_rfl) (by decide) (fun K hK => ?_)
     refine goes_ Try.func11 (by kernel_rfl) rfl #[.agg #[.int .i64 a0_0, .int .i64 a0_1, .int .i64 a0_2, .int .i64 a0_3, .int .i64 a0_4, .int .i64 a0_5, .int .i64 a0_6, .int .i64 a0_7, .int .i64 a0_8, .int .i64 a0_9], .agg #[.int .i64 t208, .slice Ao34 t209.length co34], .int .i64 t212] (by rfl) rfl rfl (by (try simp only [List.map_toArray, List.map_cons, List.map_nil]); first | done | rfl | (simp only [List.length_drop, List.length_take]; rfl)) ?_
     with_reducible refine (window_Move.calls a0_0 a0_1 a0_2 a0_3 a0_4 a0_5 a0_6 a0_7 a0_8 a0_9 t208 _ _ t209 t212 t213 t214 _ ?side1 ?side2 A25.out).mono ?_
     (case side1 => repeat (first | exact (Kd.R_reads' HO211.out).2.2 | (with_reducible refine Kd.C_alloc ?_ _) | (with_reducible refine Kd.C_drewN ?_ _) | (with_reducible refine Kd.C_drew ?_)))
     (case side2 => exact (Kd.R_reads' HO211.out).2.1)
     rintro e w37 ⟨v215, rfl, ho0, hb⟩
     refine ⟨_, rfl, ?_⟩
     have n0_ := Aside0.mk (Kd.R_elder' (by (with_reducible repeat (first | apply Kd.R_alloc | apply Kd.R_drewN | apply Kd.R_drew)); exact HO211.out) (Kd.R_base ho0) hb)
     have n1_ := Aside0.mk (Kd.R_lower (Kd.R_new' ho0 (Kd.R_lt (by (with_reducible repeat (first | apply Kd.R_alloc | apply Kd.R_drewN | apply Kd.R_drew)); exact HO211.out))) (below_size (by repeat (first | (with_reducible first | exact HB.out | apply below_alloc | apply pw_below_drewN | apply below_drew1 | refine below_set ?_ GE204.out | refine below_set ?_ GE205.out) | exact HB.out))))
     have n2_ := Aside0.mk (blk_below (g := gb204) (o := .cells #[.int .i64 a0_0, .int .i64 a0_1, .int .i64 a0_2, .int .i64 a0_3, .int .i64 a0_4, .int .i64 a0_5, .int .i64 a0_6, .int .i64 a0_7, .int .i64 a0_8, .int .i64 a0_9] 23 (0, 0)) (by (with_reducible repeat (first | refine blk_drewN ?_ _ | refine blk_drew ?_ | refine blk_alloc ?_ _)); exact BK204.out) hb)
     have n3_ := Aside0.mk (blk_below (g := gb205) (o := .cells #[.int .i64 t208, .slice Ao34 t209.length co34] 26 (0, 0)) (by (with_reducible repeat (first | refine blk_drewN ?_ _ | refine blk_drew ?_ | refine blk_alloc ?_ _)); exact BK205.out) hb)
     have n4_ := Aside0.mk (below_step (by repeat (first | (with_reducible first | exact HB.out | apply below_alloc | apply pw_below_drewN | apply below_drew1 | refine below_set ?_ GE204.out | refine below_set ?_ GE205.out) | exact HB.out)) hb)
     clear HO211
     clear BK204
     clear BK205
     clear HB
     have HO211 := n0_
     have HO216 := n1_
     have BK204 := n2_
     have BK205 := n3_
     have HB := n4_
     clear n0_ n1_ n2_ n3_ n4_
     (try clear hb)
     (try clear hb2)
     (try clear hk)
     (try clear hi)
     (try clear ho0)
     obtain ⟨Ao38, co38, eo38⟩ := Kd.R_slice HO216.out
     (first | subst eo38 | (injection eo38 with f1_ f2_ f3_; have f4_ := f1_.symm; have f5_ := f3_.symm; clear f1_ f2_ f3_; subst f4_; subst f5_))
     refine hK.out _ _ ⟨(blk_cell BK204.out 0).trans rfl, (blk_cell BK204.out 1).trans rfl, (blk_cell BK204.out 2).trans rfl, (blk_cell BK204.out 3).trans rfl, (blk_cell BK204.out 4).trans rfl, (blk_cell BK204.out 5).trans rfl, (blk_cell BK204.out 6).trans rfl, (blk_cell BK204.out 7).trans rfl, (blk_cell BK204.out 8).trans rfl, (blk_cell BK204.out 9).trans rfl, (blk_cell BK205.out 0).trans rfl, (blk_cell BK205.out 1).trans rfl⟩ (fun hHeld => ?_)
     clear hK K
     refine norm_ (a' := ?_) ?_ ?_
     rotate_left
     ·show Act.put _ (some 36) _ = _
      simp only [Act.put, List.setIfInBounds_toArray, List.set_cons_zero, List.set_cons_succ, i64_w, i32_w]
      rfl
     refine one_ (i := 6) (N := some 38) #[true, true, true, true, true, true, true] rfl rfl (by kernel_rfl) (by decide) (fun K hK => ?_)
     refine goes_ Try.func12 (by kernel_rfl) rfl #[.agg #[.int .i64 a0_0, .int .i64 a0_1, .int .i64 a0_2, .int .i64 a0_3, .int .i64 a0_4, .int .i64 a0_5, .int .i64 a0_6, .int .i64 a0_7, .int .i64 a0_8, .int .i64 a0_9], .agg #[.int .i64 t213, .slice Ao38 t214.length co38], .int .i64 a3] (by rfl) rfl rfl (by (try simp only [List.map_toArray, List.map_cons, List.map_nil]); first | done | rfl | (simp only [List.length_drop, List.length_take]; rfl)) ?_
     with_reducible refine (window_May.calls a0_0 a0_1 a0_2 a0_3 a0_4 a0_5 a0_6 a0_7 a0_8 a0_9 t213 _ _ t214 a3 true _ ?side1 ?side2 A26.out).mono ?_
     (case side1 => repeat (first | exact (Kd.R_reads' HO216.out).2.2 | (with_reducible refine Kd.C_alloc ?_ _) | (with_reducible refine Kd.C_drewN ?_ _) | (with_reducible refine Kd.C_drew ?_)))
     (case side2 => exact (Kd.R_reads' HO216.out).2.1)
     rintro e w39 ⟨rfl, hb⟩
     refine ⟨_, rfl, ?_⟩
     have n0_ := Aside0.mk (Kd.R_below (by (with_reducible repeat (first | apply Kd.R_alloc | apply Kd.R_drewN | apply Kd.R_drew)); exact HO211.out) hb)
     have n1_ := Aside0.mk (Kd.R_below (by (with_reducible repeat (first | apply Kd.R_alloc | apply Kd.R_drewN | apply Kd.R_drew)); exact HO216.out) hb)
     have n2_ := Aside0.mk (blk_below (g := gb204) (o := .cells #[.int .i64 a0_0, .int .i64 a0_1, .int .i64 a0_2, .int .i64 a0_3, .int .i64 a0_4, .int .i64 a0_5, .int .i64 a0_6, .int .i64 a0_7, .int .i64 a0_8, .int .i64 a0_9] 23 (0, 0)) (by (with_reducible repeat (first | refine blk_drewN ?_ _ | refine blk_drew ?_ | refine blk_alloc ?_ _)); exact BK204.out) hb)
     have n3_ := Aside0.mk (blk_below (g := gb205) (o := .cells #[.int .i64 t208, .slice Ao34 t209.length co34] 26 (0, 0)) (by (with_reducible repeat (first | refine blk_drewN ?_ _ | refine blk_drew ?_ | refine blk_alloc ?_ _)); exact BK205.out) hb)
     have n4_ := Aside0.mk (below_step (by repeat (first | (with_reducible first | exact HB.out | apply below_alloc | apply pw_below_drewN | apply below_drew1 | refine below_set ?_ GE204.out | refine below_set ?_ GE205.out) | exact HB.out)) hb)
     clear HO211
     clear HO216
     clear BK204
     clear BK205
     clear HB
     have HO211 := n0_
     have HO216 := n1_
     have BK204 := n2_
     have BK205 := n3_
     have HB := n4_
     clear n0_ n1_ n2_ n3_ n4_
     (try clear hb)
     (try clear hb2)
     (try clear hk)
     (try clear hi)
     refine hK.out _ _ ⟨(blk_cell BK204.out 0).trans rfl, (blk_cell BK204.out 1).trans rfl, (blk_cell BK204.out 2).trans rfl, (blk_cell BK204.out 3).trans rfl, (blk_cell BK204.out 4).trans rfl, (blk_cell BK204.out 5).trans rfl, (blk_cell BK204.out 6).trans rfl, (blk_cell BK204.out 7).trans rfl, (blk_cell BK204.out 8).trans rfl, (blk_cell BK204.out 9).trans rfl, (blk_cell BK205.out 0).trans rfl, (blk_cell BK205.out 1).trans rfl⟩ (fun hHeld => ?_)
     clear hK K
     refine norm_ (a' := ?_) ?_ ?_
     rotate_left
     ·show Act.put _ (some 38) _ = _
      simp only [Act.put, List.setIfInBounds_toArray, List.set_cons_zero, List.set_cons_succ, i64_w, i32_w]
      rfl
     refine done_ (by kernel_rfl) ?_
     try go_wp2
     go_ret
     exact ⟨by first | rfl | (simp only [i64_w] <;> rfl) | (simp [errW_none, errW_some] <;> rfl) | (simp [*, errW_none, errW_some] <;> rfl), by repeat (first | (with_reducible first | exact HB.out | apply below_alloc | apply pw_below_drewN | apply below_drew1 | refine below_set ?_ GE204.out | refine below_set ?_ GE205.out) | exact HB.out)⟩
    ·replace c27 := Bool.eq_false_iff.mpr c27
     subst c27
     have H1 : ((window_Total.f t208 t209).bind fun t218 => (window_When.l0 kj4 t212 a3 t218 t209 (t209.length : Int) 0 a0_0 a0_1 a0_2 a0_3 a0_4 a0_5 a0_6 a0_7 a0_8 a0_9 t208 t209)) = some r := by rw [if_neg (show ¬ (false = true) by decide)] at H; exact H
     clear H
     have H := H1
     clear H1
     replace H := Option.bind_eq_some_iff.mp H
     obtain ⟨t218, A400, H⟩ := H
     replace H : (window_When.l0 kj4 t212 a3 t218 t209 (t209.length : Int) 0 a0_0 a0_1 a0_2 a0_3 a0_4 a0_5 a0_6 a0_7 a0_8 a0_9 t208 t209) = some r := H
     have A40 := Aside0.mk A400
     clear A400
     have H' := Aside0.mk H
     clear H
     have hnb41 := NB204_205.out
     have hnc41 := NB205_204.out
     have hcz42_0 : wc.cell? ⟨gb204, 0, none⟩ = some (.int .i64 a0_0) := (blk_cell BK204.out 0).trans rfl
     have hcz42_1 : wc.cell? ⟨gb204, 1, none⟩ = some (.int .i64 a0_1) := (blk_cell BK204.out 1).trans rfl
     have hcz42_2 : wc.cell? ⟨gb204, 2, none⟩ = some (.int .i64 a0_2) := (blk_cell BK204.out 2).trans rfl
     have hcz42_3 : wc.cell? ⟨gb204, 3, none⟩ = some (.int .i64 a0_3) := (blk_cell BK204.out 3).trans rfl
     have hcz42_4 : wc.cell? ⟨gb204, 4, none⟩ = some (.int .i64 a0_4) := (blk_cell BK204.out 4).trans rfl
     have hcz42_5 : wc.cell? ⟨gb204, 5, none⟩ = some (.int .i64 a0_5) := (blk_cell BK204.out 5).trans rfl
     have hcz42_6 : wc.cell? ⟨gb204, 6, none⟩ = some (.int .i64 a0_6) := (blk_cell BK204.out 6).trans rfl
     have hcz42_7 : wc.cell? ⟨gb204, 7, none⟩ = some (.int .i64 a0_7) := (blk_cell BK204.out 7).trans rfl
     have hcz42_8 : wc.cell? ⟨gb204, 8, none⟩ = some (.int .i64 a0_8) := (blk_cell BK204.out 8).trans rfl
     have hcz42_9 : wc.cell? ⟨gb204, 9, none⟩ = some (.int .i64 a0_9) := (blk_cell BK204.out 9).trans rfl
     have hfz42_0 := blk_frozen BK204.out 0
     have hfz42_1 := blk_frozen BK204.out 1
     have hfz42_2 := blk_frozen BK204.out 2
     have hfz42_3 := blk_frozen BK204.out 3
     have hfz42_4 := blk_frozen BK204.out 4
     have hfz42_5 := blk_frozen BK204.out 5
     have hfz42_6 := blk_frozen BK204.out 6
     have hfz42_7 := blk_frozen BK204.out 7
     have hfz42_8 := blk_frozen BK204.out 8
     have hfz42_9 := blk_frozen BK204.out 9
     have hcz43_0 : wc.cell? ⟨gb205, 0, none⟩ = some (.int .i64 a1_0) := (blk_cell BK205.out 0).trans rfl
     have hcz43_1 : wc.cell? ⟨gb205, 1, none⟩ = some (.slice A1_1 l1_1.length c1_1) := (blk_cell BK205.out 1).trans rfl
     have hfz43_0 := blk_frozen BK205.out 0
     have hfz43_1 := blk_frozen BK205.out 1
     try go_wp2_with (first | ((with_reducible refine gate_callee (f := 32) rfl ?_); refine goesL_ (some 29) rfl rfl Try.func32 (by kernel_rfl) rfl #[.agg #[.int .i64 a0_0, .int .i64 a0_1, .int .i64 a0_2, .int .i64 a0_3, .int .i64 a0_4, .int .i64 a0_5, .int .i64 a0_6, .int .i64 a0_7, .int .i64 a0_8, .int .i64 a0_9], .agg #[.int .i64 a1_0, .slice A1_1 l1_1.length c1_1]] rfl (by (try simp only [List.map_toArray, List.map_cons, List.map_nil]); first | done | rfl | (simp only [List.length_drop, List.length_take]; rfl)) ?_; (with_reducible refine (window_counts.calls a0_0 a0_1 a0_2 a0_3 a0_4 a0_5 a0_6 a0_7 a0_8 a0_9 a1_0 _ _ l1_1 t208 t209 _ ?side1 ?side2 A23.out).mono ?_); (case side1 => repeat (first | exact (Kd.C_below HR1_1.out HB.out) | (with_reducible refine Kd.C_alloc ?_ _) | (with_reducible refine Kd.C_drewN ?_ _) | (with_reducible refine Kd.C_drew ?_))); (case side2 => exact HC1_1.out); rintro e w44 ⟨v210, rfl, ho0, hb⟩; refine ⟨_, rfl, ?_⟩; have n0_ := Aside0.mk (Kd.R_lower ho0 (below_size (by repeat (first | (with_reducible first | exact HB.out | apply below_alloc | apply pw_below_drewN | apply below_drew1 | refine below_set ?_ GE204.out | refine below_set ?_ GE205.out) | exact HB.out)))); have n1_ := Aside0.mk (blk_below (g := gb204) (o := .cells #[.int .i64 a0_0, .int .i64 a0_1, .int .i64 a0_2, .int .i64 a0_3, .int .i64 a0_4, .int .i64 a0_5, .int .i64 a0_6, .int .i64 a0_7, .int .i64 a0_8, .int .i64 a0_9] 23 (0, 0)) (by (with_reducible repeat (first | refine blk_drewN ?_ _ | refine blk_drew ?_ | refine blk_alloc ?_ _)); exact BK204.out) hb); have n2_ := Aside0.mk (blk_below (g := gb205) (o := .cells #[.int .i64 a1_0, .slice A1_1 l1_1.length c1_1] 26 (0, 0)) (by (with_reducible repeat (first | refine blk_drewN ?_ _ | refine blk_drew ?_ | refine blk_alloc ?_ _)); exact BK205.out) hb); have n3_ := Aside0.mk (below_step (by repeat (first | (with_reducible first | exact HB.out | apply below_alloc | apply pw_below_drewN | apply below_drew1 | refine below_set ?_ GE204.out | refine below_set ?_ GE205.out) | exact HB.out)) hb); clear BK204; clear BK205; clear HB; have HO211 := n0_; have BK204 := n1_; have BK205 := n2_; have HB := n3_; clear n0_ n1_ n2_ n3_; (try clear hb); (try clear hb2); (try clear hk); (try clear hi); (try clear ho0)) | ((with_reducible refine gate_callee (f := 35) rfl ?_); refine goesL_ (some 31) rfl rfl Try.func35 (by kernel_rfl) rfl #[.int .i64 a2] rfl (by (try simp only [List.map_toArray, List.map_cons, List.map_nil]); first | done | rfl | (simp only [List.length_drop, List.length_take]; rfl)) ?_; (with_reducible refine (window_clip.calls a2 t212 _ A24.out).mono ?_); rintro e w45 ⟨rfl, hb⟩; refine ⟨_, rfl, ?_⟩; have n0_ := Aside0.mk (Kd.R_below (by (with_reducible repeat (first | apply Kd.R_alloc | apply Kd.R_drewN | apply Kd.R_drew)); exact HO211.out) hb); have n1_ := Aside0.mk (blk_below (g := gb204) (o := .cells #[.int .i64 a0_0, .int .i64 a0_1, .int .i64 a0_2, .int .i64 a0_3, .int .i64 a0_4, .int .i64 a0_5, .int .i64 a0_6, .int .i64 a0_7, .int .i64 a0_8, .int .i64 a0_9] 23 (0, 0)) (by (with_reducible repeat (first | refine blk_drewN ?_ _ | refine blk_drew ?_ | refine blk_alloc ?_ _)); exact BK204.out) hb); have n2_ := Aside0.mk (blk_below (g := gb205) (o := .cells #[.int .i64 a1_0, .slice A1_1 l1_1.length c1_1] 26 (0, 0)) (by (with_reducible repeat (first | refine blk_drewN ?_ _ | refine blk_drew ?_ | refine blk_alloc ?_ _)); exact BK205.out) hb); have n3_ := Aside0.mk (below_step (by repeat (first | (with_reducible first | exact HB.out | apply below_alloc | apply pw_below_drewN | apply below_drew1 | refine below_set ?_ GE204.out | refine below_set ?_ GE205.out) | exact HB.out)) hb); clear HO211; clear BK204; clear BK205; clear HB; have HO211 := n0_; have BK204 := n1_; have BK205 := n2_; have HB := n3_; clear n0_ n1_ n2_ n3_; (try clear hb); (try clear hb2); (try clear hk); (try clear hi); have hcz46_0 : w45.cell? ⟨gb205, 0, none⟩ = some (.int .i64 a1_0) := (blk_cell BK205.out 0).trans rfl; have hcz46_1 : w45.cell? ⟨gb205, 1, none⟩ = some (.slice A1_1 l1_1.length c1_1) := (blk_cell BK205.out 1).trans rfl; have hfz46_0 := blk_frozen BK205.out 0; have hfz46_1 := blk_frozen BK205.out 1; obtain ⟨Ao47, co47, eo47⟩ := Kd.R_slice HO211.out; subst eo47))
     have n0_ : Aside0 (Kd.R (Kd.int .i64) 3 ((w45.setCell ⟨gb205, 0, none⟩ (.int .i64 t208)).setCell ⟨gb205, 1, none⟩ (.slice Ao47 t209.length co47)) w.heap.size (fun _ => True) (.slice Ao47 t209.length co47) t209) := ⟨by (with_reducible repeat (first | apply Kd.R_alloc | apply Kd.R_drewN | apply Kd.R_drew)); exact Kd.R_mono (Kd.R_far (p := ⟨gb205, 1, none⟩) (Kd.R_far (p := ⟨gb205, 0, none⟩) (Kd.R_types HO211.out BK205.out (by decide)) (fun _ hk => hk.2) (.int .i64 t208)) (fun _ hk => hk.2) (.slice Ao47 t209.length co47)) (fun _ hk => trivial)⟩
     have n1_ : Aside0 (((w45.setCell ⟨gb205, 0, none⟩ (.int .i64 t208)).setCell ⟨gb205, 1, none⟩ (.slice Ao47 t209.length co47)).heap[gb204]? = some (.cells #[.int .i64 a0_0, .int .i64 a0_1, .int .i64 a0_2, .int .i64 a0_3, .int .i64 a0_4, .int .i64 a0_5, .int .i64 a0_6, .int .i64 a0_7, .int .i64 a0_8, .int .i64 a0_9] 23 (0, 0))) := ⟨by (with_reducible repeat (first | refine blk_drewN ?_ _ | refine blk_drew ?_ | refine blk_alloc ?_ _)); refine blk_far ?_ NB204_205.out _; (with_reducible repeat (first | refine blk_drewN ?_ _ | refine blk_drew ?_ | refine blk_alloc ?_ _)); refine blk_far ?_ NB204_205.out _; (with_reducible repeat (first | refine blk_drewN ?_ _ | refine blk_drew ?_ | refine blk_alloc ?_ _)); exact BK204.out⟩
     have n2_ : Aside0 (((w45.setCell ⟨gb205, 0, none⟩ (.int .i64 t208)).setCell ⟨gb205, 1, none⟩ (.slice Ao47 t209.length co47)).heap[gb205]? = some (.cells #[.int .i64 t208, .slice Ao47 t209.length co47] 26 (0, 0))) := ⟨by (with_reducible repeat (first | refine blk_drewN ?_ _ | refine blk_drew ?_ | refine blk_alloc ?_ _)); refine blk_put (cs := #[.int .i64 t208, .slice A1_1 l1_1.length c1_1]) ?_ 1 _ rfl; (with_reducible repeat (first | refine blk_drewN ?_ _ | refine blk_drew ?_ | refine blk_alloc ?_ _)); refine blk_put (cs := #[.int .i64 a1_0, .slice A1_1 l1_1.length c1_1]) ?_ 0 _ rfl; (with_reducible repeat (first | refine blk_drewN ?_ _ | refine blk_drew ?_ | refine blk_alloc ?_ _)); exact BK205.out⟩
     have n3_ : Aside0 (Below w.heap.size w ((w45.setCell ⟨gb205, 0, none⟩ (.int .i64 t208)).setCell ⟨gb205, 1, none⟩ (.slice Ao47 t209.length co47))) := ⟨by repeat (first | (with_reducible first | exact HB.out | apply below_alloc | apply pw_below_drewN | apply below_drew1 | refine below_set ?_ GE204.out | refine below_set ?_ GE205.out) | exact HB.out)⟩
     (try clear HO211)
     (try clear BK204)
     (try clear BK205)
     (try clear HB)
     generalize ((w45.setCell ⟨gb205, 0, none⟩ (.int .i64 t208)).setCell ⟨gb205, 1, none⟩ (.slice Ao47 t209.length co47)) = w48 at n0_ n1_ n2_ n3_ ⊢
     have HO211 := n0_
     have BK204 := n1_
     have BK205 := n2_
     have HB := n3_
     clear n0_ n1_ n2_ n3_
     have n0_ := Aside0.mk (Kd.R_drew HO211.out)
     have n1_ := Aside0.mk (blk_drew BK204.out)
     have n2_ := Aside0.mk (blk_drew BK205.out)
     have n3_ := Aside0.mk (below_drew1 HB.out)
     clear HO211
     clear BK204
     clear BK205
     clear HB
     have HO211 := n0_
     have BK204 := n1_
     have BK205 := n2_
     have HB := n3_
     clear n0_ n1_ n2_ n3_
     refine start_ (n := 7) (S := fun w' => w'.cell? ⟨gb204, 0, none⟩ = some (.int .i64 a0_0) ∧ w'.cell? ⟨gb204, 1, none⟩ = some (.int .i64 a0_1) ∧ w'.cell? ⟨gb204, 2, none⟩ = some (.int .i64 a0_2) ∧ w'.cell? ⟨gb204, 3, none⟩ = some (.int .i64 a0_3) ∧ w'.cell? ⟨gb204, 4, none⟩ = some (.int .i64 a0_4) ∧ w'.cell? ⟨gb204, 5, none⟩ = some (.int .i64 a0_5) ∧ w'.cell? ⟨gb204, 6, none⟩ = some (.int .i64 a0_6) ∧ w'.cell? ⟨gb204, 7, none⟩ = some (.int .i64 a0_7) ∧ w'.cell? ⟨gb204, 8, none⟩ = some (.int .i64 a0_8) ∧ w'.cell? ⟨gb204, 9, none⟩ = some (.int .i64 a0_9) ∧ w'.cell? ⟨gb205, 0, none⟩ = some (.int .i64 t208) ∧ w'.cell? ⟨gb205, 1, none⟩ = some (.slice Ao47 t209.length co47)) (ds := []) #[false, false, false, false, false, false, false] (by kernel_rfl) rfl rfl ⟨(blk_cell BK204.out 0).trans rfl, (blk_cell BK204.out 1).trans rfl, (blk_cell BK204.out 2).trans rfl, (blk_cell BK204.out 3).trans rfl, (blk_cell BK204.out 4).trans rfl, (blk_cell BK204.out 5).trans rfl, (blk_cell BK204.out 6).trans rfl, (blk_cell BK204.out 7).trans rfl, (blk_cell BK204.out 8).trans rfl, (blk_cell BK204.out 9).trans rfl, (blk_cell BK205.out 0).trans rfl, (blk_cell BK205.out 1).trans rfl⟩ (fun hHeld => ?_)
     generalize w48.drew = w49 at HO211 BK204 BK205 HB hHeld ⊢
     refine pure_ (i := 3) (N := some 35) (v := ?_) (a' := ?_) #[false, false, false, true, false, false, false] rfl rfl (by kernel_rfl) (fun _ _ _ h => h) (Or.inl ⟨by rfl, ?_⟩) ?_ ?_
     rotate_left
     ·intro w'
      go_simp
      with_reducible rfl
     rotate_left
     ·simp only [Act.put, List.setIfInBounds_toArray, List.set_cons_zero, List.set_cons_succ, i64_w, i32_w]
      rfl
     refine pure_ (i := 5) (N := some 37) (v := ?_) (a' := ?_) #[false, false, false, true, false, true, false] rfl rfl (by kernel_rfl) (fun _ _ _ h => h) (Or.inl ⟨by rfl, ?_⟩) ?_ ?_
     rotate_left
     ·intro w'
      go_simp
      with_reducible rfl
     rotate_left
     ·simp only [Act.put, List.setIfInBounds_toArray, List.set_cons_zero, List.set_cons_succ, i64_w, i32_w]
      rfl
     refine take_ (i := 0) (N := some 32) (v := ?_) (a' := ?_) #[true, false, false, true, false, true, false] rfl rfl (by kernel_rfl) (fun _ _ _ h => h) (Or.inl ⟨by rfl, ?_⟩) hHeld ?_ ?_
     rotate_left
     ·rintro w' ⟨s0, s1, s2, s3, s4, s5, s6, s7, s8, s9, s10, s11⟩
      go_simp
      with_reducible rfl
     rotate_left
     ·simp only [Act.put, List.setIfInBounds_toArray, List.set_cons_zero, List.set_cons_succ, i64_w, i32_w]
      rfl
     refine take_ (i := 1) (N := some 33) (v := ?_) (a' := ?_) #[true, true, false, true, false, true, false] rfl rfl (by kernel_rfl) (fun _ _ _ h => h) (Or.inl ⟨by rfl, ?_⟩) hHeld ?_ ?_
     rotate_left
     ·rintro w' ⟨s0, s1, s2, s3, s4, s5, s6, s7, s8, s9, s10, s11⟩
      go_simp
      with_reducible rfl
     rotate_left
     ·simp only [Act.put, List.setIfInBounds_toArray, List.set_cons_zero, List.set_cons_succ, i64_w, i32_w]
      rfl
     refine take_ (i := 2) (N := some 34) (v := ?_) (a' := ?_) #[true, true, true, true, false, true, false] rfl rfl (by kernel_rfl) (fun _ _ _ h => h) (Or.inl ⟨by rfl, ?_⟩) hHeld ?_ ?_
     rotate_left
     ·rintro w' ⟨s0, s1, s2, s3, s4, s5, s6, s7, s8, s9, s10, s11⟩
      go_simp
      with_reducible rfl
     rotate_left
     ·simp only [Act.put, List.setIfInBounds_toArray, List.set_cons_zero, List.set_cons_succ, i64_w, i32_w]
      rfl
     refine one_ (i := 4) (N := some 36) #[true, true, true, true, true, true, false] rfl rfl (by kernel_rfl) (by decide) (fun K hK => ?_)
     refine goes_ Try.func11 (by kernel_rfl) rfl #[.agg #[.int .i64 a0_0, .int .i64 a0_1, .int .i64 a0_2, .int .i64 a0_3, .int .i64 a0_4, .int .i64 a0_5, .int .i64 a0_6, .int .i64 a0_7, .int .i64 a0_8, .int .i64 a0_9], .agg #[.int .i64 t208, .slice Ao47 t209.length co47], .int .i64 t212] (by rfl) rfl rfl (by (try simp only [List.map_toArray, List.map_cons, List.map_nil]); first | done | rfl | (simp only [List.length_drop, List.length_take]; rfl)) ?_
     with_reducible refine (window_Move.calls a0_0 a0_1 a0_2 a0_3 a0_4 a0_5 a0_6 a0_7 a0_8 a0_9 t208 _ _ t209 t212 t213 t214 _ ?side1 ?side2 A25.out).mono ?_
     (case side1 => repeat (first | exact (Kd.R_reads' HO211.out).2.2 | (with_reducible refine Kd.C_alloc ?_ _) | (with_reducible refine Kd.C_drewN ?_ _) | (with_reducible refine Kd.C_drew ?_)))
     (case side2 => exact (Kd.R_reads' HO211.out).2.1)
     rintro e w50 ⟨v215, rfl, ho0, hb⟩
     refine ⟨_, rfl, ?_⟩
     have n0_ := Aside0.mk (Kd.R_elder' (by (with_reducible repeat (first | apply Kd.R_alloc | apply Kd.R_drewN | apply Kd.R_drew)); exact HO211.out) (Kd.R_base ho0) hb)
     have n1_ := Aside0.mk (Kd.R_lower (Kd.R_new' ho0 (Kd.R_lt (by (with_reducible repeat (first | apply Kd.R_alloc | apply Kd.R_drewN | apply Kd.R_drew)); exact HO211.out))) (below_size (by repeat (first | (with_reducible first | exact HB.out | apply below_alloc | apply pw_below_drewN | apply below_drew1 | refine below_set ?_ GE204.out | refine below_set ?_ GE205.out) | exact HB.out))))
     have n2_ := Aside0.mk (blk_below (g := gb204) (o := .cells #[.int .i64 a0_0, .int .i64 a0_1, .int .i64 a0_2, .int .i64 a0_3, .int .i64 a0_4, .int .i64 a0_5, .int .i64 a0_6, .int .i64 a0_7, .int .i64 a0_8, .int .i64 a0_9] 23 (0, 0)) (by (with_reducible repeat (first | refine blk_drewN ?_ _ | refine blk_drew ?_ | refine blk_alloc ?_ _)); exact BK204.out) hb)
     have n3_ := Aside0.mk (blk_below (g := gb205) (o := .cells #[.int .i64 t208, .slice Ao47 t209.length co47] 26 (0, 0)) (by (with_reducible repeat (first | refine blk_drewN ?_ _ | refine blk_drew ?_ | refine blk_alloc ?_ _)); exact BK205.out) hb)
     have n4_ := Aside0.mk (below_step (by repeat (first | (with_reducible first | exact HB.out | apply below_alloc | apply pw_below_drewN | apply below_drew1 | refine below_set ?_ GE204.out | refine below_set ?_ GE205.out) | exact HB.out)) hb)
     clear HO211
     clear BK204
     clear BK205
     clear HB
     have HO211 := n0_
     have HO216 := n1_
     have BK204 := n2_
     have BK205 := n3_
     have HB := n4_
     clear n0_ n1_ n2_ n3_ n4_
     (try clear hb)
     (try clear hb2)
     (try clear hk)
     (try clear hi)
     (try clear ho0)
     obtain ⟨Ao51, co51, eo51⟩ := Kd.R_slice HO216.out
     (first | subst eo51 | (injection eo51 with f1_ f2_ f3_; have f4_ := f1_.symm; have f5_ := f3_.symm; clear f1_ f2_ f3_; subst f4_; subst f5_))
     refine hK.out _ _ ⟨(blk_cell BK204.out 0).trans rfl, (blk_cell BK204.out 1).trans rfl, (blk_cell BK204.out 2).trans rfl, (blk_cell BK204.out 3).trans rfl, (blk_cell BK204.out 4).trans rfl, (blk_cell BK204.out 5).trans rfl, (blk_cell BK204.out 6).trans rfl, (blk_cell BK204.out 7).trans rfl, (blk_cell BK204.out 8).trans rfl, (blk_cell BK204.out 9).trans rfl, (blk_cell BK205.out 0).trans rfl, (blk_cell BK205.out 1).trans rfl⟩ (fun hHeld => ?_)
     clear hK K
     refine norm_ (a' := ?_) ?_ ?_
     rotate_left
     ·show Act.put _ (some 36) _ = _
      simp only [Act.put, List.setIfInBounds_toArray, List.set_cons_zero, List.set_cons_succ, i64_w, i32_w]
      rfl
     refine one_ (i := 6) (N := some 38) #[true, true, true, true, true, true, true] rfl rfl (by kernel_rfl) (by decide) (fun K hK => ?_)
     refine goes_ Try.func12 (by kernel_rfl) rfl #[.agg #[.int .i64 a0_0, .int .i64 a0_1, .int .i64 a0_2, .int .i64 a0_3, .int .i64 a0_4, .int .i64 a0_5, .int .i64 a0_6, .int .i64 a0_7, .int .i64 a0_8, .int .i64 a0_9], .agg #[.int .i64 t213, .slice Ao51 t214.length co51], .int .i64 a3] (by rfl) rfl rfl (by (try simp only [List.map_toArray, List.map_cons, List.map_nil]); first | done | rfl | (simp only [List.length_drop, List.length_take]; rfl)) ?_
     with_reducible refine (window_May.calls a0_0 a0_1 a0_2 a0_3 a0_4 a0_5 a0_6 a0_7 a0_8 a0_9 t213 _ _ t214 a3 false _ ?side1 ?side2 A26.out).mono ?_
     (case side1 => repeat (first | exact (Kd.R_reads' HO216.out).2.2 | (with_reducible refine Kd.C_alloc ?_ _) | (with_reducible refine Kd.C_drewN ?_ _) | (with_reducible refine Kd.C_drew ?_)))
     (case side2 => exact (Kd.R_reads' HO216.out).2.1)
     rintro e w52 ⟨rfl, hb⟩
     refine ⟨_, rfl, ?_⟩
     have n0_ := Aside0.mk (Kd.R_below (by (with_reducible repeat (first | apply Kd.R_alloc | apply Kd.R_drewN | apply Kd.R_drew)); exact HO211.out) hb)
     have n1_ := Aside0.mk (Kd.R_below (by (with_reducible repeat (first | apply Kd.R_alloc | apply Kd.R_drewN | apply Kd.R_drew)); exact HO216.out) hb)
     have n2_ := Aside0.mk (blk_below (g := gb204) (o := .cells #[.int .i64 a0_0, .int .i64 a0_1, .int .i64 a0_2, .int .i64 a0_3, .int .i64 a0_4, .int .i64 a0_5, .int .i64 a0_6, .int .i64 a0_7, .int .i64 a0_8, .int .i64 a0_9] 23 (0, 0)) (by (with_reducible repeat (first | refine blk_drewN ?_ _ | refine blk_drew ?_ | refine blk_alloc ?_ _)); exact BK204.out) hb)
     have n3_ := Aside0.mk (blk_below (g := gb205) (o := .cells #[.int .i64 t208, .slice Ao47 t209.length co47] 26 (0, 0)) (by (with_reducible repeat (first | refine blk_drewN ?_ _ | refine blk_drew ?_ | refine blk_alloc ?_ _)); exact BK205.out) hb)
     have n4_ := Aside0.mk (below_step (by repeat (first | (with_reducible first | exact HB.out | apply below_alloc | apply pw_below_drewN | apply below_drew1 | refine below_set ?_ GE204.out | refine below_set ?_ GE205.out) | exact HB.out)) hb)
     clear HO211
     clear HO216
     clear BK204
     clear BK205
     clear HB
     have HO211 := n0_
     have HO216 := n1_
     have BK204 := n2_
     have BK205 := n3_
     have HB := n4_
     clear n0_ n1_ n2_ n3_ n4_
     (try clear hb)
     (try clear hb2)
     (try clear hk)
     (try clear hi)
     refine hK.out _ _ ⟨(blk_cell BK204.out 0).trans rfl, (blk_cell BK204.out 1).trans rfl, (blk_cell BK204.out 2).trans rfl, (blk_cell BK204.out 3).trans rfl, (blk_cell BK204.out 4).trans rfl, (blk_cell BK204.out 5).trans rfl, (blk_cell BK204.out 6).trans rfl, (blk_cell BK204.out 7).trans rfl, (blk_cell BK204.out 8).trans rfl, (blk_cell BK204.out 9).trans rfl, (blk_cell BK205.out 0).trans rfl, (blk_cell BK205.out 1).trans rfl⟩ (fun hHeld => ?_)
     clear hK K
     refine norm_ (a' := ?_) ?_ ?_
     rotate_left
     ·show Act.put _ (some 38) _ = _
      simp only [Act.put, List.setIfInBounds_toArray, List.set_cons_zero, List.set_cons_succ, i64_w, i32_w]
      rfl
     refine done_ (by kernel_rfl) ?_
     have hcz53_0 : w52.cell? ⟨gb205, 0, none⟩ = some (.int .i64 t208) := (blk_cell BK205.out 0).trans rfl
     have hcz53_1 : w52.cell? ⟨gb205, 1, none⟩ = some (.slice Ao47 t209.length co47) := (blk_cell BK205.out 1).trans rfl
     have hfz53_0 := blk_frozen BK205.out 0
     have hfz53_1 := blk_frozen BK205.out 1
     try go_wp2_with (first | ((with_reducible refine gate_callee (f := 13) rfl ?_); refine goesL_ (some 41) rfl rfl Try.func13 (by kernel_rfl) rfl #[.agg #[.int .i64 t208, .slice Ao47 t209.length co47]] rfl (by (try simp only [List.map_toArray, List.map_cons, List.map_nil]); first | done | rfl | (simp only [List.length_drop, List.length_take]; rfl)) ?_; (with_reducible refine (window_Total.calls t208 _ _ t209 t218 _ ?side1 ?side2 A40.out).mono ?_); (case side1 => repeat (first | exact (Kd.R_reads' HO211.out).2.2 | (with_reducible refine Kd.C_alloc ?_ _) | (with_reducible refine Kd.C_drewN ?_ _) | (with_reducible refine Kd.C_drew ?_))); (case side2 => exact (Kd.R_reads' HO211.out).2.1); rintro e w54 ⟨rfl, hb⟩; refine ⟨_, rfl, ?_⟩; have n0_ := Aside0.mk (Kd.R_below (by (with_reducible repeat (first | apply Kd.R_alloc | apply Kd.R_drewN | apply Kd.R_drew)); exact HO211.out) hb); have n1_ := Aside0.mk (Kd.R_below (by (with_reducible repeat (first | apply Kd.R_alloc | apply Kd.R_drewN | apply Kd.R_drew)); exact HO216.out) hb); have n2_ := Aside0.mk (blk_below (g := gb204) (o := .cells #[.int .i64 a0_0, .int .i64 a0_1, .int .i64 a0_2, .int .i64 a0_3, .int .i64 a0_4, .int .i64 a0_5, .int .i64 a0_6, .int .i64 a0_7, .int .i64 a0_8, .int .i64 a0_9] 23 (0, 0)) (by (with_reducible repeat (first | refine blk_drewN ?_ _ | refine blk_drew ?_ | refine blk_alloc ?_ _)); exact BK204.out) hb); have n3_ := Aside0.mk (blk_below (g := gb205) (o := .cells #[.int .i64 t208, .slice Ao47 t209.length co47] 26 (0, 0)) (by (with_reducible repeat (first | refine blk_drewN ?_ _ | refine blk_drew ?_ | refine blk_alloc ?_ _)); exact BK205.out) hb); have n4_ := Aside0.mk (below_step (by repeat (first | (with_reducible first | exact HB.out | apply below_alloc | apply pw_below_drewN | apply below_drew1 | refine below_set ?_ GE204.out | refine below_set ?_ GE205.out) | exact HB.out)) hb); clear HO211; clear HO216; clear BK204; clear BK205; clear HB; have HO211 := n0_; have HO216 := n1_; have BK204 := n2_; have BK205 := n3_; have HB := n4_; clear n0_ n1_ n2_ n3_ n4_; (try clear hb); (try clear hb2); (try clear hk); (try clear hi); have hcz55_0 : w54.cell? ⟨gb205, 0, none⟩ = some (.int .i64 t208) := (blk_cell BK205.out 0).trans rfl; have hcz55_1 : w54.cell? ⟨gb205, 1, none⟩ = some (.slice Ao47 t209.length co47) := (blk_cell BK205.out 1).trans rfl; have hfz55_0 := blk_frozen BK205.out 0; have hfz55_1 := blk_frozen BK205.out 1))
     go_loopg [9, 45] kj4 (fun kq v9 v45 w' => ∃ (x9_2 : Int) (x45_2 : Int), v9 = .int .i64 x9_2 ∧ v45 = .int .i64 x45_2 ∧ Aside0 (window_When.l0 kq t212 a3 x9_2 t209 (t209.length : Int) x45_2 a0_0 a0_1 a0_2 a0_3 a0_4 a0_5 a0_6 a0_7 a0_8 a0_9 t208 t209 = some r) ∧ Aside0 (kq ≤ kj4) ∧ Aside0 (Kd.R (Kd.int .i64) 3 w' w.heap.size (fun _ => True) (.slice Ao47 t209.length co47) t209) ∧ Aside0 (Kd.R (Kd.int .i64) 3 w' w.heap.size (fun _ => True) (.slice Ao47 t209.length co47) t209) ∧ Aside0 (w'.heap[gb204]? = some (.cells #[.int .i64 a0_0, .int .i64 a0_1, .int .i64 a0_2, .int .i64 a0_3, .int .i64 a0_4, .int .i64 a0_5, .int .i64 a0_6, .int .i64 a0_7, .int .i64 a0_8, .int .i64 a0_9] 23 (0, 0))) ∧ Aside0 (w'.heap[gb205]? = some (.cells #[.int .i64 t208, (.slice Ao47 t209.length co47)] 26 (0, 0))) ∧ Aside0 (Below w.heap.size w w'))
     case atStart => exact ⟨(t218), (0), (by first | rfl | (simp; done) | (simp [*]; done) | (simp [Int.tdiv_eq_ediv_of_nonneg]; done)), (by first | rfl | (simp; done) | (simp [*]; done) | (simp [Int.tdiv_eq_ediv_of_nonneg]; done)), H', ⟨Nat.le_refl _⟩, ⟨by (with_reducible repeat (first | apply Kd.R_alloc | apply Kd.R_drewN | apply Kd.R_drew)); exact Kd.R_mono HO211.out (fun _ hk => trivial)⟩, ⟨by (with_reducible repeat (first | apply Kd.R_alloc | apply Kd.R_drewN | apply Kd.R_drew)); exact Kd.R_mono HO211.out (fun _ hk => trivial)⟩, ⟨by (with_reducible repeat (first | refine blk_drewN ?_ _ | refine blk_drew ?_ | refine blk_alloc ?_ _)); exact BK204.out⟩, ⟨by (with_reducible repeat (first | refine blk_drewN ?_ _ | refine blk_drew ?_ | refine blk_alloc ?_ _)); exact BK205.out⟩, ⟨by repeat (first | (with_reducible first | exact HB.out | apply below_alloc | apply pw_below_drewN | apply below_drew1 | refine below_set ?_ GE204.out | refine below_set ?_ GE205.out) | exact HB.out)⟩⟩
     case round =>
      clear H'
      try clear c1
      try clear c2
      try clear p2
      try clear c3
      try clear c4
      try clear c9
      try clear c11
      try clear c12
      try clear c13
      try clear c16
      try clear c19
      try clear c22
      try clear c27
      try clear c28
      try clear c31
      try clear c32
      try clear c35
      try clear c41
      try clear hcz13_0
      try clear hcz13_1
      try clear hcz13_2
      try clear hcz13_3
      try clear hcz13_4
      try clear hcz13_5
      try clear hcz13_6
      try clear hcz13_7
      try clear hcz13_8
      try clear hcz13_9
      try clear hcz15_0
      try clear hcz15_1
      try clear hcz15_2
      try clear hcz15_3
      try clear hcz15_4
      try clear hcz15_5
      try clear hcz15_6
      try clear hcz15_7
      try clear hcz15_8
      try clear hcz15_9
      try clear hcz17_0
      try clear hcz17_1
      try clear hcz17_2
      try clear hcz17_3
      try clear hcz17_4
      try clear hcz17_5
      try clear hcz17_6
      try clear hcz17_7
      try clear hcz17_8
      try clear hcz17_9
      try clear hcz20_0
      try clear hcz20_1
      try clear hcz20_2
      try clear hcz20_3
      try clear hcz20_4
      try clear hcz20_5
      try clear hcz20_6
      try clear hcz20_7
      try clear hcz20_8
      try clear hcz20_9
      try clear hcz29_0
      try clear hcz29_1
      try clear hcz29_2
      try clear hcz29_3
      try clear hcz29_4
      try clear hcz29_5
      try clear hcz29_6
      try clear hcz29_7
      try clear hcz29_8
      try clear hcz29_9
      try clear hcz30_0
      try clear hcz30_1
      try clear hcz33_0
      try clear hcz33_1
      try clear hcz42_0
      try clear hcz42_1
      try clear hcz42_2
      try clear hcz42_3
      try clear hcz42_4
      try clear hcz42_5
      try clear hcz42_6
      try clear hcz42_7
      try clear hcz42_8
      try clear hcz42_9
      try clear hcz43_0
      try clear hcz43_1
      try clear hcz46_0
      try clear hcz46_1
      try clear hcz53_0
      try clear hcz53_1
      try clear hcz55_0
      try clear hcz55_1
      try clear hfz13_0
      try clear hfz13_1
      try clear hfz13_2
      try clear hfz13_3
      try clear hfz13_4
      try clear hfz13_5
      try clear hfz13_6
      try clear hfz13_7
      try clear hfz13_8
      try clear hfz13_9
      try clear hfz15_0
      try clear hfz15_1
      try clear hfz15_2
      try clear hfz15_3
      try clear hfz15_4
      try clear hfz15_5
      try clear hfz15_6
      try clear hfz15_7
      try clear hfz15_8
      try clear hfz15_9
      try clear hfz17_0
      try clear hfz17_1
      try clear hfz17_2
      try clear hfz17_3
      try clear hfz17_4
      try clear hfz17_5
      try clear hfz17_6
      try clear hfz17_7
      try clear hfz17_8
      try clear hfz17_9
      try clear hfz20_0
      try clear hfz20_1
      try clear hfz20_2
      try clear hfz20_3
      try clear hfz20_4
      try clear hfz20_5
      try clear hfz20_6
      try clear hfz20_7
      try clear hfz20_8
      try clear hfz20_9
      try clear hfz29_0
      try clear hfz29_1
      try clear hfz29_2
      try clear hfz29_3
      try clear hfz29_4
      try clear hfz29_5
      try clear hfz29_6
      try clear hfz29_7
      try clear hfz29_8
      try clear hfz29_9
      try clear hfz30_0
      try clear hfz30_1
      try clear hfz33_0
      try clear hfz33_1
      try clear hfz42_0
      try clear hfz42_1
      try clear hfz42_2
      try clear hfz42_3
      try clear hfz42_4
      try clear hfz42_5
      try clear hfz42_6
      try clear hfz42_7
      try clear hfz42_8
      try clear hfz42_9
      try clear hfz43_0
      try clear hfz43_1
      try clear hfz46_0
      try clear hfz46_1
      try clear hfz53_0
      try clear hfz53_1
      try clear hfz55_0
      try clear hfz55_1
      try clear p2
      obtain ⟨x9_2, x45_2, rfl, rfl, HA, HK2, HO_43, HO_206001, BK204, BK205, HB⟩ := hrel
      cases gk with
      | zero => exact absurd HA.out (by simp [window_When.l0])
      | succ k2 =>
       have H := HA.out
       clear HA
       simp only [window_When.l0] at H
       by_cases c56 : x45_2 < (t209.length : Int)
       ·rw [if_pos c56] at H
        have c56b0 : decide (x45_2 < (t209.length : Int)) = true := decide_eq_true c56
        clear c56
        by_cases c57 : 0 ≤ x45_2
        ·rw [if_pos c57] at H
         have c57b0 : decide (0 ≤ x45_2) = true := decide_eq_true c57
         clear c57
         by_cases c58 : x45_2 < (t209.length : Int)
         ·rw [if_pos c58] at H
          have c58b0 : decide (x45_2 < (t209.length : Int)) = true := decide_eq_true c58
          clear c58
          have HC59 := Aside0.mk H
          clear H
          have p219 : 0 ≤ (x45_2 : Int) := of_decide_eq_true (by first | (with_reducible assumption) | assumption)
          have q219 : x45_2 < (t209.length : Int) := of_decide_eq_true (by first | (with_reducible assumption) | assumption)
          obtain ⟨ad219, e219, hx219_0⟩ := Kd.at_int (Kd.R_reads' HO_43.out).2.2 x45_2 p219 q219
          cases e219
          replace p219 := eq_true p219
          replace q219 := eq_true q219
          have hnb60 := NB205_204.out
          have hnc60 := NB204_205.out
          have hcz61_0 : wr.cell? ⟨gb205, 0, none⟩ = some (.int .i64 t208) := (blk_cell BK205.out 0).trans rfl
          have hcz61_1 : wr.cell? ⟨gb205, 1, none⟩ = some (.slice (some ad219) t209.length co47) := (blk_cell BK205.out 1).trans rfl
          have hfz61_0 := blk_frozen BK205.out 0
          have hfz61_1 := blk_frozen BK205.out 1
          have hcz62_0 : wr.cell? ⟨gb204, 0, none⟩ = some (.int .i64 a0_0) := (blk_cell BK204.out 0).trans rfl
          have hcz62_1 : wr.cell? ⟨gb204, 1, none⟩ = some (.int .i64 a0_1) := (blk_cell BK204.out 1).trans rfl
          have hcz62_2 : wr.cell? ⟨gb204, 2, none⟩ = some (.int .i64 a0_2) := (blk_cell BK204.out 2).trans rfl
          have hcz62_3 : wr.cell? ⟨gb204, 3, none⟩ = some (.int .i64 a0_3) := (blk_cell BK204.out 3).trans rfl
          have hcz62_4 : wr.cell? ⟨gb204, 4, none⟩ = some (.int .i64 a0_4) := (blk_cell BK204.out 4).trans rfl
          have hcz62_5 : wr.cell? ⟨gb204, 5, none⟩ = some (.int .i64 a0_5) := (blk_cell BK204.out 5).trans rfl
          have hcz62_6 : wr.cell? ⟨gb204, 6, none⟩ = some (.int .i64 a0_6) := (blk_cell BK204.out 6).trans rfl
          have hcz62_7 : wr.cell? ⟨gb204, 7, none⟩ = some (.int .i64 a0_7) := (blk_cell BK204.out 7).trans rfl
          have hcz62_8 : wr.cell? ⟨gb204, 8, none⟩ = some (.int .i64 a0_8) := (blk_cell BK204.out 8).trans rfl
          have hcz62_9 : wr.cell? ⟨gb204, 9, none⟩ = some (.int .i64 a0_9) := (blk_cell BK204.out 9).trans rfl
          have hfz62_0 := blk_frozen BK204.out 0
          have hfz62_1 := blk_frozen BK204.out 1
          have hfz62_2 := blk_frozen BK204.out 2
          have hfz62_3 := blk_frozen BK204.out 3
          have hfz62_4 := blk_frozen BK204.out 4
          have hfz62_5 := blk_frozen BK204.out 5
          have hfz62_6 := blk_frozen BK204.out 6
          have hfz62_7 := blk_frozen BK204.out 7
          have hfz62_8 := blk_frozen BK204.out 8
          have hfz62_9 := blk_frozen BK204.out 9
          go_upto_region 12 with (fail)
          go_cut [71] (fun v71 wc => ∃ (kq : Nat) (x71_58 : Bool), v71 = .bool x71_58 ∧ Aside0 (window_When.j2 kq t212 a3 (wrap64 (x9_2 - (rd t209 x45_2))) (wrap64 ((wrap64 ((wrap64 (t208 + x45_2)) + 1)) * a0_4)) t209 (t209.length : Int) x45_2 x71_58 a0_0 a0_1 a0_2 a0_3 a0_4 a0_5 a0_6 a0_7 a0_8 a0_9 t208 t209 = some r) ∧ Aside0 (kq ≤ k2) ∧ Aside0 (Kd.R (Kd.int .i64) 3 wc w.heap.size (fun _ => True) (.slice (some ad219) t209.length co47) t209) ∧ Aside0 (Kd.R (Kd.int .i64) 3 wc w.heap.size (fun _ => True) (.slice (some ad219) t209.length co47) t209) ∧ Aside0 (wc.heap[gb204]? = some (.cells #[.int .i64 a0_0, .int .i64 a0_1, .int .i64 a0_2, .int .i64 a0_3, .int .i64 a0_4, .int .i64 a0_5, .int .i64 a0_6, .int .i64 a0_7, .int .i64 a0_8, .int .i64 a0_9] 23 (0, 0))) ∧ Aside0 (wc.heap[gb205]? = some (.cells #[.int .i64 t208, (.slice (some ad219) t209.length co47)] 26 (0, 0))) ∧ Aside0 (Below w.heap.size w wc))
          case first =>
           have H := HC59.out
           clear HC59
           by_cases c63 : (wrap64 ((wrap64 ((wrap64 (t208 + x45_2)) + 1)) * a0_4)) > t212
           ·rw [if_pos c63] at H
            have c63b0 : decide (t212 < (wrap64 ((wrap64 ((wrap64 (t208 + x45_2)) + 1)) * a0_4))) = true := decide_eq_true c63
            clear c63
            (first | rw [c63b0] | (simp only [i64_w, i32_w]; rw [c63b0]) | skip)
            have H' := Aside0.mk H
            clear H
            have hnb64 := NB204_205.out
            have hnc64 := NB205_204.out
            have hcz65_0 : wr.cell? ⟨gb204, 0, none⟩ = some (.int .i64 a0_0) := (blk_cell BK204.out 0).trans rfl
            have hcz65_1 : wr.cell? ⟨gb204, 1, none⟩ = some (.int .i64 a0_1) := (blk_cell BK204.out 1).trans rfl
            have hcz65_2 : wr.cell? ⟨gb204, 2, none⟩ = some (.int .i64 a0_2) := (blk_cell BK204.out 2).trans rfl
            have hcz65_3 : wr.cell? ⟨gb204, 3, none⟩ = some (.int .i64 a0_3) := (blk_cell BK204.out 3).trans rfl
            have hcz65_4 : wr.cell? ⟨gb204, 4, none⟩ = some (.int .i64 a0_4) := (blk_cell BK204.out 4).trans rfl
            have hcz65_5 : wr.cell? ⟨gb204, 5, none⟩ = some (.int .i64 a0_5) := (blk_cell BK204.out 5).trans rfl
            have hcz65_6 : wr.cell? ⟨gb204, 6, none⟩ = some (.int .i64 a0_6) := (blk_cell BK204.out 6).trans rfl
            have hcz65_7 : wr.cell? ⟨gb204, 7, none⟩ = some (.int .i64 a0_7) := (blk_cell BK204.out 7).trans rfl
            have hcz65_8 : wr.cell? ⟨gb204, 8, none⟩ = some (.int .i64 a0_8) := (blk_cell BK204.out 8).trans rfl
            have hcz65_9 : wr.cell? ⟨gb204, 9, none⟩ = some (.int .i64 a0_9) := (blk_cell BK204.out 9).trans rfl
            have hfz65_0 := blk_frozen BK204.out 0
            have hfz65_1 := blk_frozen BK204.out 1
            have hfz65_2 := blk_frozen BK204.out 2
            have hfz65_3 := blk_frozen BK204.out 3
            have hfz65_4 := blk_frozen BK204.out 4
            have hfz65_5 := blk_frozen BK204.out 5
            have hfz65_6 := blk_frozen BK204.out 6
            have hfz65_7 := blk_frozen BK204.out 7
            have hfz65_8 := blk_frozen BK204.out 8
            have hfz65_9 := blk_frozen BK204.out 9
            go_wp2
            go_meet
            case rel => exact ⟨_, (decide ((wrap64 ((wrap64 (x9_2 - (rd t209 x45_2))) + a3)) ≤ a0_1)), (by first | rfl | (simp; done) | (simp [*]; done) | (simp [Int.tdiv_eq_ediv_of_nonneg]; done)), H', ⟨by have := HJ4.out; have := HK2.out; first | omega | exact Nat.le_refl _⟩, ⟨by (with_reducible repeat (first | apply Kd.R_alloc | apply Kd.R_drewN | apply Kd.R_drew)); exact HO_43.out⟩, ⟨by (with_reducible repeat (first | apply Kd.R_alloc | apply Kd.R_drewN | apply Kd.R_drew)); exact HO_206001.out⟩, ⟨by (with_reducible repeat (first | refine blk_drewN ?_ _ | refine blk_drew ?_ | refine blk_alloc ?_ _)); exact BK204.out⟩, ⟨by (with_reducible repeat (first | refine blk_drewN ?_ _ | refine blk_drew ?_ | refine blk_alloc ?_ _)); exact BK205.out⟩, ⟨by repeat (first | (with_reducible first | exact HB.out | apply below_alloc | apply pw_below_drewN | apply below_drew1 | refine below_set ?_ GE204.out | refine below_set ?_ GE205.out) | exact HB.out)⟩⟩
           ·rw [if_neg c63] at H
            have c63b0 : decide (t212 < (wrap64 ((wrap64 ((wrap64 (t208 + x45_2)) + 1)) * a0_4))) = false := decide_eq_false c63
            clear c63
            (first | rw [c63b0] | (simp only [i64_w, i32_w]; rw [c63b0]) | skip)
            have H' := Aside0.mk H
            clear H
            go_wp2
            go_meet
            case rel => exact ⟨_, (false), (by first | rfl | (simp; done) | (simp [*]; done) | (simp [Int.tdiv_eq_ediv_of_nonneg]; done)), H', ⟨by have := HJ4.out; have := HK2.out; first | omega | exact Nat.le_refl _⟩, ⟨by (with_reducible repeat (first | apply Kd.R_alloc | apply Kd.R_drewN | apply Kd.R_drew)); exact HO_43.out⟩, ⟨by (with_reducible repeat (first | apply Kd.R_alloc | apply Kd.R_drewN | apply Kd.R_drew)); exact HO_206001.out⟩, ⟨by (with_reducible repeat (first | refine blk_drewN ?_ _ | refine blk_drew ?_ | refine blk_alloc ?_ _)); exact BK204.out⟩, ⟨by (with_reducible repeat (first | refine blk_drewN ?_ _ | refine blk_drew ?_ | refine blk_alloc ?_ _)); exact BK205.out⟩, ⟨by repeat (first | (with_reducible first | exact HB.out | apply below_alloc | apply pw_below_drewN | apply below_drew1 | refine below_set ?_ GE204.out | refine below_set ?_ GE205.out) | exact HB.out)⟩⟩
          case rest =>
           clear HC59
           try clear c1
           try clear c2
           try clear p2
           try clear q2
           try clear hx2
           try clear c3
           try clear c4
           try clear c5
           try clear c6
           try clear p6
           try clear c9
           try clear c11
           try clear c12
           try clear c13
           try clear c16
           try clear c19
           try clear p21
           try clear q21
           try clear hx21
           try clear c22
           try clear c27
           try clear c28
           try clear c31
           try clear c32
           try clear c35
           try clear c41
           try clear c56
           try clear c56b0
           try clear c57
           try clear c57b0
           try clear c58
           try clear c58b0
           try clear c60
           try clear c63
           try clear c63b0
           try clear c64
           try clear p64
           try clear hcz13_0
           try clear hcz13_1
           try clear hcz13_2
           try clear hcz13_3
           try clear hcz13_4
           try clear hcz13_5
           try clear hcz13_6
           try clear hcz13_7
           try clear hcz13_8
           try clear hcz13_9
           try clear hcz15_0
           try clear hcz15_1
           try clear hcz15_2
           try clear hcz15_3
           try clear hcz15_4
           try clear hcz15_5
           try clear hcz15_6
           try clear hcz15_7
           try clear hcz15_8
           try clear hcz15_9
           try clear hcz17_0
           try clear hcz17_1
           try clear hcz17_2
           try clear hcz17_3
           try clear hcz17_4
           try clear hcz17_5
           try clear hcz17_6
           try clear hcz17_7
           try clear hcz17_8
           try clear hcz17_9
           try clear hcz20_0
           try clear hcz20_1
           try clear hcz20_2
           try clear hcz20_3
           try clear hcz20_4
           try clear hcz20_5
           try clear hcz20_6
           try clear hcz20_7
           try clear hcz20_8
           try clear hcz20_9
           try clear hcz29_0
           try clear hcz29_1
           try clear hcz29_2
           try clear hcz29_3
           try clear hcz29_4
           try clear hcz29_5
           try clear hcz29_6
           try clear hcz29_7
           try clear hcz29_8
           try clear hcz29_9
           try clear hcz30_0
           try clear hcz30_1
           try clear hcz33_0
           try clear hcz33_1
           try clear hcz42_0
           try clear hcz42_1
           try clear hcz42_2
           try clear hcz42_3
           try clear hcz42_4
           try clear hcz42_5
           try clear hcz42_6
           try clear hcz42_7
           try clear hcz42_8
           try clear hcz42_9
           try clear hcz43_0
           try clear hcz43_1
           try clear hcz46_0
           try clear hcz46_1
           try clear hcz53_0
           try clear hcz53_1
           try clear hcz55_0
           try clear hcz55_1
           try clear hcz61_0
           try clear hcz61_1
           try clear hcz62_0
           try clear hcz62_1
           try clear hcz62_2
           try clear hcz62_3
           try clear hcz62_4
           try clear hcz62_5
           try clear hcz62_6
           try clear hcz62_7
           try clear hcz62_8
           try clear hcz62_9
           try clear hcz65_0
           try clear hcz65_1
           try clear hcz65_2
           try clear hcz65_3
           try clear hcz65_4
           try clear hcz65_5
           try clear hcz65_6
           try clear hcz65_7
           try clear hcz65_8
           try clear hcz65_9
           try clear hfz13_0
           try clear hfz13_1
           try clear hfz13_2
           try clear hfz13_3
           try clear hfz13_4
           try clear hfz13_5
           try clear hfz13_6
           try clear hfz13_7
           try clear hfz13_8
           try clear hfz13_9
           try clear hfz15_0
           try clear hfz15_1
           try clear hfz15_2
           try clear hfz15_3
           try clear hfz15_4
           try clear hfz15_5
           try clear hfz15_6
           try clear hfz15_7
           try clear hfz15_8
           try clear hfz15_9
           try clear hfz17_0
           try clear hfz17_1
           try clear hfz17_2
           try clear hfz17_3
           try clear hfz17_4
           try clear hfz17_5
           try clear hfz17_6
           try clear hfz17_7
           try clear hfz17_8
           try clear hfz17_9
           try clear hfz20_0
           try clear hfz20_1
           try clear hfz20_2
           try clear hfz20_3
           try clear hfz20_4
           try clear hfz20_5
           try clear hfz20_6
           try clear hfz20_7
           try clear hfz20_8
           try clear hfz20_9
           try clear hfz29_0
           try clear hfz29_1
           try clear hfz29_2
           try clear hfz29_3
           try clear hfz29_4
           try clear hfz29_5
           try clear hfz29_6
           try clear hfz29_7
           try clear hfz29_8
           try clear hfz29_9
           try clear hfz30_0
           try clear hfz30_1
           try clear hfz33_0
           try clear hfz33_1
           try clear hfz42_0
           try clear hfz42_1
           try clear hfz42_2
           try clear hfz42_3
           try clear hfz42_4
           try clear hfz42_5
           try clear hfz42_6
           try clear hfz42_7
           try clear hfz42_8
           try clear hfz42_9
           try clear hfz43_0
           try clear hfz43_1
           try clear hfz46_0
           try clear hfz46_1
           try clear hfz53_0
           try clear hfz53_1
           try clear hfz55_0
           try clear hfz55_1
           try clear hfz61_0
           try clear hfz61_1
           try clear hfz62_0
           try clear hfz62_1
           try clear hfz62_2
           try clear hfz62_3
           try clear hfz62_4
           try clear hfz62_5
           try clear hfz62_6
           try clear hfz62_7
           try clear hfz62_8
           try clear hfz62_9
           try clear hfz65_0
           try clear hfz65_1
           try clear hfz65_2
           try clear hfz65_3
           try clear hfz65_4
           try clear hfz65_5
           try clear hfz65_6
           try clear hfz65_7
           try clear hfz65_8
           try clear hfz65_9
           try clear hx219_0
           try clear p2
           try clear p219
           try clear q219
           obtain ⟨kq, x71_58, rfl, HA, HJ58, HO_43, HO_206001, BK204, BK205, HB⟩ := hcut
           cases kq with
           | zero => exact absurd HA.out (by simp [window_When.j2])
           | succ kj58 =>
            have H := HA.out
            clear HA
            simp only [window_When.j2] at H
            by_cases c66 : x71_58 = true
            ·subst c66
             have H1 : (if (wrap64 ((wrap64 ((wrap64 (t208 + x45_2)) + 1)) * a0_4)) > 1099511627776 then (some (-1)) else (some (wrap64 ((wrap64 ((wrap64 (t208 + x45_2)) + 1)) * a0_4)))) = some r := by rw [if_pos rfl] at H; exact H
             clear H
             have H := H1
             clear H1
             by_cases c67 : (wrap64 ((wrap64 ((wrap64 (t208 + x45_2)) + 1)) * a0_4)) > 1099511627776
             ·rw [if_pos c67] at H
              have c67b0 : decide (1099511627776 < (wrap64 ((wrap64 ((wrap64 (t208 + x45_2)) + 1)) * a0_4))) = true := decide_eq_true c67
              clear c67
              obtain rfl := Option.some.inj H
              go_wp2
              go_ret
              exact ⟨by first | rfl | (simp only [i64_w] <;> rfl) | (simp [errW_none, errW_some] <;> rfl) | (simp [*, errW_none, errW_some] <;> rfl), by repeat (first | (with_reducible first | exact HB.out | apply below_alloc | apply pw_below_drewN | apply below_drew1 | refine below_set ?_ GE204.out | refine below_set ?_ GE205.out) | exact HB.out)⟩
             ·rw [if_neg c67] at H
              have c67b0 : decide (1099511627776 < (wrap64 ((wrap64 ((wrap64 (t208 + x45_2)) + 1)) * a0_4))) = false := decide_eq_false c67
              clear c67
              obtain rfl := Option.some.inj H
              go_wp2
              go_ret
              exact ⟨by first | rfl | (simp only [i64_w] <;> rfl) | (simp [errW_none, errW_some] <;> rfl) | (simp [*, errW_none, errW_some] <;> rfl), by repeat (first | (with_reducible first | exact HB.out | apply below_alloc | apply pw_below_drewN | apply below_drew1 | refine below_set ?_ GE204.out | refine below_set ?_ GE205.out) | exact HB.out)⟩
            ·replace c66 := Bool.eq_false_iff.mpr c66
             subst c66
             have H1 : (window_When.l0 kj58 t212 a3 (wrap64 (x9_2 - (rd t209 x45_2))) t209 (t209.length : Int) (wrap64 (x45_2 + 1)) a0_0 a0_1 a0_2 a0_3 a0_4 a0_5 a0_6 a0_7 a0_8 a0_9 t208 t209) = some r := by rw [if_neg (show ¬ (false = true) by decide)] at H; exact H
             clear H
             have H := H1
             clear H1
             have H' := Aside0.mk H
             clear H
             go_wp2
             go_roundg kj58
             case measure => have := HJ4.out; have := HK2.out; have := HJ58.out; omega
             case rel => exact ⟨((wrap64 (x9_2 - (rd t209 x45_2)))), (wrap64 (x45_2 + 1)), (by first | rfl | (simp; done) | (simp [*]; done) | (simp [Int.tdiv_eq_ediv_of_nonneg]; done)), (by first | rfl | (simp; done) | (simp [*]; done) | (simp [Int.tdiv_eq_ediv_of_nonneg]; done)), H', ⟨by have := HJ4.out; have := HK2.out; have := HJ58.out; omega⟩, ⟨by (with_reducible repeat (first | apply Kd.R_alloc | apply Kd.R_drewN | apply Kd.R_drew)); exact HO_43.out⟩, ⟨by (with_reducible repeat (first | apply Kd.R_alloc | apply Kd.R_drewN | apply Kd.R_drew)); exact HO_206001.out⟩, ⟨by (with_reducible repeat (first | refine blk_drewN ?_ _ | refine blk_drew ?_ | refine blk_alloc ?_ _)); exact BK204.out⟩, ⟨by (with_reducible repeat (first | refine blk_drewN ?_ _ | refine blk_drew ?_ | refine blk_alloc ?_ _)); exact BK205.out⟩, ⟨by repeat (first | (with_reducible first | exact HB.out | apply below_alloc | apply pw_below_drewN | apply below_drew1 | refine below_set ?_ GE204.out | refine below_set ?_ GE205.out) | exact HB.out)⟩⟩
         ·rw [if_neg c58] at H
          exact absurd H (by simp)
        ·rw [if_neg c57] at H
         exact absurd H (by simp)
       ·rw [if_neg c56] at H
        have c56b0 : decide (x45_2 < (t209.length : Int)) = false := decide_eq_false c56
        clear c56
        obtain rfl := Option.some.inj H
        go_wp2
        go_ret
        exact ⟨by first | rfl | (simp only [i64_w] <;> rfl) | (simp [errW_none, errW_some] <;> rfl) | (simp [*, errW_none, errW_some] <;> rfl), by repeat (first | (with_reducible first | exact HB.out | apply below_alloc | apply pw_below_drewN | apply below_drew1 | refine below_set ?_ GE204.out | refine below_set ?_ GE205.out) | exact HB.out)⟩

end Go.Proofs.YtkcnenekmjgmgaaS
end

section
-- Laid by given.py, a program of this seat, with the kit's printer.
namespace Go.Proofs.YtkcnenekmjgmgaaS
open Go.Proofs.YtkcnenekmjgmgaaP
open Go.RowKit Go.Proofs.YtkcnenekmjgmgaaW.PrintWords Go.Proofs.YtkcnenekmjgmgaaW.PrintLast Go.Proofs.YtkcnenekmjgmgaaW.PrintMore
attribute [local go_sem] max2_int min2_int max_two min_two max_three min_three max_four min_four   -- for this text's walks alone
set_option linter.unusedVariables false
set_option linter.unusedSimpArgs false

/-! ### reeveref08_When: function 28 -/
mutual
def reeveref08_When.l0 : Nat → Int → Int → Int → Int → Int → Int → Int → Int → Int → Int → Int → Int → Int → Int → List Int → Option (Int)
 | 0, _, _, _, _, _, _, _, _, _, _, _, _, _, _, _ => none
 | k + 1, x3, x10, x11, x221000, x221001, x221002, x221003, x221004, x221005, x221006, x221007, x221008, x221009, x222000, x222001 => if x11 ≤ (wrap64 (x221005 + 1)) then ((reeveref08_Move.f k x221000 x221001 x221002 x221003 x221004 x221005 x221006 x221007 x221008 x221009 x222000 x222001 x10).bind fun bt228 => ((reeveref08_May.f k x221000 x221001 x221002 x221003 x221004 x221005 x221006 x221007 x221008 x221009 bt228.1 bt228.2 x3).bind fun t232 => (if t232 = true then (some x10) else ((reeveref08_Grid.f x221000 x221001 x221002 x221003 x221004 x221005 x221006 x221007 x221008 x221009 x10).bind fun t233 => (if (wrap64 (t233 + 1)) ≤ x222000 then (reeveref08_When.j1 k x3 x11 (wrap64 (x222000 + 1)) x221000 x221001 x221002 x221003 x221004 x221005 x221006 x221007 x221008 x221009 x222000 x222001) else (reeveref08_When.j1 k x3 x11 (wrap64 (t233 + 1)) x221000 x221001 x221002 x221003 x221004 x221005 x221006 x221007 x221008 x221009 x222000 x222001)))))) else (some (-1))
def reeveref08_When.j1 : Nat → Int → Int → Int → Int → Int → Int → Int → Int → Int → Int → Int → Int → Int → Int → List Int → Option (Int)
 | 0, _, _, _, _, _, _, _, _, _, _, _, _, _, _, _ => none
 | k + 1, x3, x11, x13, x221000, x221001, x221002, x221003, x221004, x221005, x221006, x221007, x221008, x221009, x222000, x222001 => if (wrap64 (x13 * x221004)) > 1099511627776 then (some (-1)) else (reeveref08_When.l0 k x3 (wrap64 (x13 * x221004)) (wrap64 (x11 + 1)) x221000 x221001 x221002 x221003 x221004 x221005 x221006 x221007 x221008 x221009 x222000 x222001)
end
def reeveref08_When.f (k : Nat) (a0_0 : Int) (a0_1 : Int) (a0_2 : Int) (a0_3 : Int) (a0_4 : Int) (a0_5 : Int) (a0_6 : Int) (a0_7 : Int) (a0_8 : Int) (a0_9 : Int) (a1_0 : Int) (l1_1 : List Int) (a2 : Int) (a3 : Int) : Option (Int) := (reeveref08_Means.f a0_0 a0_1 a0_2 a0_3 a0_4 a0_5 a0_6 a0_7 a0_8 a0_9).bind fun t222 => (if t222 = true then ((reeveref07_Clip.f a2 1099511627776).bind fun t223 => ((reeveref08_counts.f k a0_0 a0_1 a0_2 a0_3 a0_4 a0_5 a0_6 a0_7 a0_8 a0_9 a1_0 l1_1).bind fun bt224 => (reeveref08_When.l0 k a3 t223 0 a0_0 a0_1 a0_2 a0_3 a0_4 a0_5 a0_6 a0_7 a0_8 a0_9 bt224.1 bt224.2))) else (some (-1)))
theorem reeveref08_When.mono_l : ∀ k, (∀ y0 y1 y2 y3 y4 y5 y6 y7 y8 y9 y10 y11 y12 y13 y14, LeO (reeveref08_When.l0 k y0 y1 y2 y3 y4 y5 y6 y7 y8 y9 y10 y11 y12 y13 y14) (reeveref08_When.l0 (k + 1) y0 y1 y2 y3 y4 y5 y6 y7 y8 y9 y10 y11 y12 y13 y14)) ∧ (∀ y0 y1 y2 y3 y4 y5 y6 y7 y8 y9 y10 y11 y12 y13 y14, LeO (reeveref08_When.j1 k y0 y1 y2 y3 y4 y5 y6 y7 y8 y9 y10 y11 y12 y13 y14) (reeveref08_When.j1 (k + 1) y0 y1 y2 y3 y4 y5 y6 y7 y8 y9 y10 y11 y12 y13 y14))
 | 0 => ⟨fun _ _ _ _ _ _ _ _ _ _ _ _ _ _ _ r h => by simp [reeveref08_When.l0] at h, fun _ _ _ _ _ _ _ _ _ _ _ _ _ _ _ r h => by simp [reeveref08_When.j1] at h⟩
 | k + 1 => by
  obtain ⟨ih0, ih1⟩ := reeveref08_When.mono_l k
  refine ⟨?_, ?_⟩
  ·intro y0 y1 y2 y3 y4 y5 y6 y7 y8 y9 y10 y11 y12 y13 y14
   unfold reeveref08_When.l0
   repeat' first
   | (with_reducible exact ih0 _ _ _ _ _ _ _ _ _ _ _ _ _ _ _)
   | (with_reducible exact ih1 _ _ _ _ _ _ _ _ _ _ _ _ _ _ _)
   | (with_reducible exact reeveref08_May.mono _ _ _ _ _ _ _ _ _ _ _ _ _ _)
   | (with_reducible exact reeveref08_Move.mono _ _ _ _ _ _ _ _ _ _ _ _ _ _)
   | (with_reducible exact reeveref08_counts.mono _ _ _ _ _ _ _ _ _ _ _ _ _)
   | (with_reducible exact LeO.refl _)
   | (with_reducible exact LeO.none _)
   | (with_reducible refine LeO.ite ?_ ?_)
   | (with_reducible refine LeO.bind ?_ (fun _ => ?_))
   | exact ih0 _ _ _ _ _ _ _ _ _ _ _ _ _ _ _
   | exact ih1 _ _ _ _ _ _ _ _ _ _ _ _ _ _ _
   | exact reeveref08_May.mono _ _ _ _ _ _ _ _ _ _ _ _ _ _
   | exact reeveref08_Move.mono _ _ _ _ _ _ _ _ _ _ _ _ _ _
   | exact reeveref08_counts.mono _ _ _ _ _ _ _ _ _ _ _ _ _
   | exact LeO.none _
   | refine LeO.ite ?_ ?_
   | refine LeO.bind ?_ (fun _ => ?_)
  ·intro y0 y1 y2 y3 y4 y5 y6 y7 y8 y9 y10 y11 y12 y13 y14
   unfold reeveref08_When.j1
   repeat' first
   | (with_reducible exact ih0 _ _ _ _ _ _ _ _ _ _ _ _ _ _ _)
   | (with_reducible exact ih1 _ _ _ _ _ _ _ _ _ _ _ _ _ _ _)
   | (with_reducible exact reeveref08_May.mono _ _ _ _ _ _ _ _ _ _ _ _ _ _)
   | (with_reducible exact reeveref08_Move.mono _ _ _ _ _ _ _ _ _ _ _ _ _ _)
   | (with_reducible exact reeveref08_counts.mono _ _ _ _ _ _ _ _ _ _ _ _ _)
   | (with_reducible exact LeO.refl _)
   | (with_reducible exact LeO.none _)
   | (with_reducible refine LeO.ite ?_ ?_)
   | (with_reducible refine LeO.bind ?_ (fun _ => ?_))
   | exact ih0 _ _ _ _ _ _ _ _ _ _ _ _ _ _ _
   | exact ih1 _ _ _ _ _ _ _ _ _ _ _ _ _ _ _
   | exact reeveref08_May.mono _ _ _ _ _ _ _ _ _ _ _ _ _ _
   | exact reeveref08_Move.mono _ _ _ _ _ _ _ _ _ _ _ _ _ _
   | exact reeveref08_counts.mono _ _ _ _ _ _ _ _ _ _ _ _ _
   | exact LeO.none _
   | refine LeO.ite ?_ ?_
   | refine LeO.bind ?_ (fun _ => ?_)
theorem reeveref08_When.mono : ∀ a0 a1 a2 a3 a4 a5 a6 a7 a8 a9 a10 a11 a12 a13 k, LeO (reeveref08_When.f k a0 a1 a2 a3 a4 a5 a6 a7 a8 a9 a10 a11 a12 a13) (reeveref08_When.f (k + 1) a0 a1 a2 a3 a4 a5 a6 a7 a8 a9 a10 a11 a12 a13) := by
 intro a0 a1 a2 a3 a4 a5 a6 a7 a8 a9 a10 a11 a12 a13 k
 obtain ⟨ih0, ih1⟩ := reeveref08_When.mono_l k
 unfold reeveref08_When.f
 repeat' first
   | (with_reducible exact ih0 _ _ _ _ _ _ _ _ _ _ _ _ _ _ _)
   | (with_reducible exact ih1 _ _ _ _ _ _ _ _ _ _ _ _ _ _ _)
   | (with_reducible exact reeveref08_May.mono _ _ _ _ _ _ _ _ _ _ _ _ _ _)
   | (with_reducible exact reeveref08_Move.mono _ _ _ _ _ _ _ _ _ _ _ _ _ _)
   | (with_reducible exact reeveref08_counts.mono _ _ _ _ _ _ _ _ _ _ _ _ _)
   | (with_reducible exact LeO.refl _)
   | (with_reducible exact LeO.none _)
   | (with_reducible refine LeO.ite ?_ ?_)
   | (with_reducible refine LeO.bind ?_ (fun _ => ?_))
   | exact ih0 _ _ _ _ _ _ _ _ _ _ _ _ _ _ _
   | exact ih1 _ _ _ _ _ _ _ _ _ _ _ _ _ _ _
   | exact reeveref08_May.mono _ _ _ _ _ _ _ _ _ _ _ _ _ _
   | exact reeveref08_Move.mono _ _ _ _ _ _ _ _ _ _ _ _ _ _
   | exact reeveref08_counts.mono _ _ _ _ _ _ _ _ _ _ _ _ _
   | exact LeO.none _
   | refine LeO.ite ?_ ?_
   | refine LeO.bind ?_ (fun _ => ?_)
def reeveref08_When.T9 : Bool × List (List Nat × List Nat) := (true, [([], []), ([], []), ([], []), ([], []), ([1, 2, 3], [1, 2, 3]), ([], []), ([0, 4, 5, 4], [0, 4, 5]), ([6, 6, 0, 1, 2, 3, 4, 5, 6], [6])])
def reeveref08_When.B9 : List Nat := [0, 0, 0, 0, 14, 0, 63, 127]
theorem reeveref08_When.tab9 : rtab .any (opsOf Try.f28 9) = reeveref08_When.T9 := by kernel_rfl
theorem reeveref08_When.bits9 : waitsOk reeveref08_When.T9.2 reeveref08_When.B9 = true := by kernel_rfl
set_option maxHeartbeats 8000000 in
set_option maxRecDepth 100000 in
theorem reeveref08_When.calls (k : Nat) (a0_0 : Int) (a0_1 : Int) (a0_2 : Int) (a0_3 : Int) (a0_4 : Int) (a0_5 : Int) (a0_6 : Int) (a0_7 : Int) (a0_8 : Int) (a0_9 : Int) (a1_0 : Int) (A1_1 : Option Addr) (c1_1 : Nat) (l1_1 : List Int) (a2 : Int) (a3 : Int) (r : Int) (w : World) (hr1_1 : Kd.C (Kd.int .i64) w A1_1 l1_1.length l1_1) (hc1_1 : l1_1.length ≤ c1_1) (h : reeveref08_When.f k a0_0 a0_1 a0_2 a0_3 a0_4 a0_5 a0_6 a0_7 a0_8 a0_9 a1_0 l1_1 a2 a3 = some r) :
  Calls Try.prog 28 #[.agg #[.int .i64 a0_0, .int .i64 a0_1, .int .i64 a0_2, .int .i64 a0_3, .int .i64 a0_4, .int .i64 a0_5, .int .i64 a0_6, .int .i64 a0_7, .int .i64 a0_8, .int .i64 a0_9], .agg #[.int .i64 a1_0, .slice A1_1 l1_1.length c1_1], .int .i64 a2, .int .i64 a3] w fun e w' => e = .returned (.int .i64 r) ∧ Below w.heap.size w w' := by
 have hu23 := Try.underlying23
 have hu26 := Try.underlying26
 have HR1_1 := Aside0.mk hr1_1
 have HC1_1 := Aside0.mk hc1_1
 clear hr1_1 hc1_1
 have HB := Aside0.mk (Below.refl w.heap.size w)
 have H : ((reeveref08_Means.f a0_0 a0_1 a0_2 a0_3 a0_4 a0_5 a0_6 a0_7 a0_8 a0_9).bind fun t222 => (if t222 = true then ((reeveref07_Clip.f a2 1099511627776).bind fun t223 => ((reeveref08_counts.f k a0_0 a0_1 a0_2 a0_3 a0_4 a0_5 a0_6 a0_7 a0_8 a0_9 a1_0 l1_1).bind fun bt224 => (reeveref08_When.l0 k a3 t223 0 a0_0 a0_1 a0_2 a0_3 a0_4 a0_5 a0_6 a0_7 a0_8 a0_9 bt224.1 bt224.2))) else (some (-1)))) = some r := h
 clear h
 replace H := Option.bind_eq_some_iff.mp H
 obtain ⟨t222, A50, H⟩ := H
 replace H : (if t222 = true then ((reeveref07_Clip.f a2 1099511627776).bind fun t223 => ((reeveref08_counts.f k a0_0 a0_1 a0_2 a0_3 a0_4 a0_5 a0_6 a0_7 a0_8 a0_9 a1_0 l1_1).bind fun bt224 => (reeveref08_When.l0 k a3 t223 0 a0_0 a0_1 a0_2 a0_3 a0_4 a0_5 a0_6 a0_7 a0_8 a0_9 bt224.1 bt224.2))) else (some (-1))) = some r := H
 have A5 := Aside0.mk A50
 clear A50
 by_cases c6 : t222 = true
 ·subst c6
  have H1 : ((reeveref07_Clip.f a2 1099511627776).bind fun t223 => ((reeveref08_counts.f k a0_0 a0_1 a0_2 a0_3 a0_4 a0_5 a0_6 a0_7 a0_8 a0_9 a1_0 l1_1).bind fun bt224 => (reeveref08_When.l0 k a3 t223 0 a0_0 a0_1 a0_2 a0_3 a0_4 a0_5 a0_6 a0_7 a0_8 a0_9 bt224.1 bt224.2))) = some r := by rw [if_pos rfl] at H; exact H
  clear H
  have H := H1
  clear H1
  replace H := Option.bind_eq_some_iff.mp H
  obtain ⟨t223, A70, H⟩ := H
  replace H : ((reeveref08_counts.f k a0_0 a0_1 a0_2 a0_3 a0_4 a0_5 a0_6 a0_7 a0_8 a0_9 a1_0 l1_1).bind fun bt224 => (reeveref08_When.l0 k a3 t223 0 a0_0 a0_1 a0_2 a0_3 a0_4 a0_5 a0_6 a0_7 a0_8 a0_9 bt224.1 bt224.2)) = some r := H
  have A7 := Aside0.mk A70
  clear A70
  replace H := Option.bind_eq_some_iff.mp H
  obtain ⟨⟨t224, t225⟩, A80, H⟩ := H
  replace H : (reeveref08_When.l0 k a3 t223 0 a0_0 a0_1 a0_2 a0_3 a0_4 a0_5 a0_6 a0_7 a0_8 a0_9 t224 t225) = some r := H
  have A8 := Aside0.mk A80
  clear A80
  have H' := Aside0.mk H
  clear H
  go_enter Try.func28, Try.ntmps28
  go_wp2_with (first | ((with_reducible refine gate_dst (N := 4) rfl ?_); refine box_event ?hg (N := 4) ?hd (cs := #[.int .i64 a0_0, .int .i64 a0_1, .int .i64 a0_2, .int .i64 a0_3, .int .i64 a0_4, .int .i64 a0_5, .int .i64 a0_6, .int .i64 a0_7, .int .i64 a0_8, .int .i64 a0_9]) (t := 23) ?hr ?_; (case hd => rfl); (case hg => rfl); (case hr => first | (go_simp; done) | (go_simp; rfl)); intro gb220 hg w9 hbox hb; have n0_ := Aside0.mk (below_step (by repeat (first | (with_reducible first | exact HB.out | apply below_alloc | apply pw_below_drewN | apply below_drew1) | exact HB.out)) hb); have n1_ := Aside0.mk (hbox); have n2_ := Aside0.mk ((by rw [hg]; exact (below_size (by repeat (first | (with_reducible first | exact HB.out | apply below_alloc | apply pw_below_drewN | apply below_drew1) | exact HB.out))) : w.heap.size ≤ gb220)); have n3_ := Aside0.mk ((by rw [hg]; exact (below_size (by repeat (first | (with_reducible first | exact HB.out | apply below_alloc | apply pw_below_drewN | apply below_drew1) | exact HB.out))) : w.heap.size ≤ gb220)); clear HB; have HB := n0_; have BK220 := n1_; have GW220 := n2_; have GE220 := n3_; clear n0_ n1_ n2_ n3_; clear hb hbox hg) | ((with_reducible refine gate_dst (N := 5) rfl ?_); refine box_event ?hg (N := 5) ?hd (cs := #[.int .i64 a1_0, .slice A1_1 l1_1.length c1_1]) (t := 26) ?hr ?_; (case hd => rfl); (case hg => rfl); (case hr => first | (go_simp; done) | (go_simp; rfl)); intro gb221 hg w10 hbox hb; have n0_ := Aside0.mk (blk_below (g := gb220) (o := .cells #[.int .i64 a0_0, .int .i64 a0_1, .int .i64 a0_2, .int .i64 a0_3, .int .i64 a0_4, .int .i64 a0_5, .int .i64 a0_6, .int .i64 a0_7, .int .i64 a0_8, .int .i64 a0_9] 23 (0, 0)) (by (with_reducible repeat (first | refine blk_drewN ?_ _ | refine blk_drew ?_ | refine blk_alloc ?_ _)); exact BK220.out) hb); have n1_ := Aside0.mk (below_step (by repeat (first | (with_reducible first | exact HB.out | apply below_alloc | apply pw_below_drewN | apply below_drew1 | refine below_set ?_ GE220.out) | exact HB.out)) hb); have n2_ := Aside0.mk (hbox); have n3_ := Aside0.mk ((by rw [hg]; exact (below_size (by repeat (first | (with_reducible first | exact HB.out | apply below_alloc | apply pw_below_drewN | apply below_drew1 | refine below_set ?_ GE220.out) | exact HB.out))) : w.heap.size ≤ gb221)); have n4_ := Aside0.mk ((by rw [hg]; exact (below_size (by repeat (first | (with_reducible first | exact HB.out | apply below_alloc | apply pw_below_drewN | apply below_drew1 | refine below_set ?_ GE220.out) | exact HB.out))) : w.heap.size ≤ gb221)); have n5_ := Aside0.mk ((by rw [hg]; exact Nat.ne_of_lt (blk_lt (g := gb220) (o := .cells #[.int .i64 a0_0, .int .i64 a0_1, .int .i64 a0_2, .int .i64 a0_3, .int .i64 a0_4, .int .i64 a0_5, .int .i64 a0_6, .int .i64 a0_7, .int .i64 a0_8, .int .i64 a0_9] 23 (0, 0)) (by (with_reducible repeat (first | refine blk_drewN ?_ _ | refine blk_drew ?_ | refine blk_alloc ?_ _)); exact BK220.out)) : gb220 ≠ gb221)); have n6_ := Aside0.mk ((by rw [hg]; exact Nat.ne_of_gt (blk_lt (g := gb220) (o := .cells #[.int .i64 a0_0, .int .i64 a0_1, .int .i64 a0_2, .int .i64 a0_3, .int .i64 a0_4, .int .i64 a0_5, .int .i64 a0_6, .int .i64 a0_7, .int .i64 a0_8, .int .i64 a0_9] 23 (0, 0)) (by (with_reducible repeat (first | refine blk_drewN ?_ _ | refine blk_drew ?_ | refine blk_alloc ?_ _)); exact BK220.out)) : gb221 ≠ gb220)); clear BK220; clear HB; have BK220 := n0_; have HB := n1_; have BK221 := n2_; have GW221 := n3_; have GE221 := n4_; have NB220_221 := n5_; have NB221_220 := n6_; clear n0_ n1_ n2_ n3_ n4_ n5_ n6_; clear hb hbox hg; have hnb11 := NB220_221.out; have hnc11 := NB221_220.out; have hcz12_0 : w10.cell? ⟨gb220, 0, none⟩ = some (.int .i64 a0_0) := (blk_cell BK220.out 0).trans rfl; have hcz12_1 : w10.cell? ⟨gb220, 1, none⟩ = some (.int .i64 a0_1) := (blk_cell BK220.out 1).trans rfl; have hcz12_2 : w10.cell? ⟨gb220, 2, none⟩ = some (.int .i64 a0_2) := (blk_cell BK220.out 2).trans rfl; have hcz12_3 : w10.cell? ⟨gb220, 3, none⟩ = some (.int .i64 a0_3) := (blk_cell BK220.out 3).trans rfl; have hcz12_4 : w10.cell? ⟨gb220, 4, none⟩ = some (.int .i64 a0_4) := (blk_cell BK220.out 4).trans rfl; have hcz12_5 : w10.cell? ⟨gb220, 5, none⟩ = some (.int .i64 a0_5) := (blk_cell BK220.out 5).trans rfl; have hcz12_6 : w10.cell? ⟨gb220, 6, none⟩ = some (.int .i64 a0_6) := (blk_cell BK220.out 6).trans rfl; have hcz12_7 : w10.cell? ⟨gb220, 7, none⟩ = some (.int .i64 a0_7) := (blk_cell BK220.out 7).trans rfl; have hcz12_8 : w10.cell? ⟨gb220, 8, none⟩ = some (.int .i64 a0_8) := (blk_cell BK220.out 8).trans rfl; have hcz12_9 : w10.cell? ⟨gb220, 9, none⟩ = some (.int .i64 a0_9) := (blk_cell BK220.out 9).trans rfl; have hfz12_0 := blk_frozen BK220.out 0; have hfz12_1 := blk_frozen BK220.out 1; have hfz12_2 := blk_frozen BK220.out 2; have hfz12_3 := blk_frozen BK220.out 3; have hfz12_4 := blk_frozen BK220.out 4; have hfz12_5 := blk_frozen BK220.out 5; have hfz12_6 := blk_frozen BK220.out 6; have hfz12_7 := blk_frozen BK220.out 7; have hfz12_8 := blk_frozen BK220.out 8; have hfz12_9 := blk_frozen BK220.out 9) | ((with_reducible refine gate_callee (f := 36) rfl ?_); refine goesL_ (some 15) rfl rfl Try.func36 (by kernel_rfl) rfl #[.agg #[.int .i64 a0_0, .int .i64 a0_1, .int .i64 a0_2, .int .i64 a0_3, .int .i64 a0_4, .int .i64 a0_5, .int .i64 a0_6, .int .i64 a0_7, .int .i64 a0_8, .int .i64 a0_9]] rfl (by (try simp only [List.map_toArray, List.map_cons, List.map_nil]); first | done | rfl | (simp only [List.length_drop, List.length_take]; rfl)) ?_; (with_reducible refine (reeveref08_Means.calls a0_0 a0_1 a0_2 a0_3 a0_4 a0_5 a0_6 a0_7 a0_8 a0_9 true _ A5.out).mono ?_); rintro e w13 ⟨rfl, hb⟩; refine ⟨_, rfl, ?_⟩; have n0_ := Aside0.mk (blk_below (g := gb220) (o := .cells #[.int .i64 a0_0, .int .i64 a0_1, .int .i64 a0_2, .int .i64 a0_3, .int .i64 a0_4, .int .i64 a0_5, .int .i64 a0_6, .int .i64 a0_7, .int .i64 a0_8, .int .i64 a0_9] 23 (0, 0)) (by (with_reducible repeat (first | refine blk_drewN ?_ _ | refine blk_drew ?_ | refine blk_alloc ?_ _)); exact BK220.out) hb); have n1_ := Aside0.mk (blk_below (g := gb221) (o := .cells #[.int .i64 a1_0, .slice A1_1 l1_1.length c1_1] 26 (0, 0)) (by (with_reducible repeat (first | refine blk_drewN ?_ _ | refine blk_drew ?_ | refine blk_alloc ?_ _)); exact BK221.out) hb); have n2_ := Aside0.mk (below_step (by repeat (first | (with_reducible first | exact HB.out | apply below_alloc | apply pw_below_drewN | apply below_drew1 | refine below_set ?_ GE220.out | refine below_set ?_ GE221.out) | exact HB.out)) hb); clear BK220; clear BK221; clear HB; have BK220 := n0_; have BK221 := n1_; have HB := n2_; clear n0_ n1_ n2_; (try clear hb); (try clear hb2); (try clear hk); (try clear hi)) | ((with_reducible refine gate_callee (f := 38) rfl ?_); refine goesL_ (some 19) rfl rfl Try.func38 (by kernel_rfl) rfl #[.int .i64 a2, .int .i64 1099511627776] rfl (by (try simp only [List.map_toArray, List.map_cons, List.map_nil]); first | done | rfl | (simp only [List.length_drop, List.length_take]; rfl)) ?_; (with_reducible refine (reeveref07_Clip.calls a2 1099511627776 t223 _ A7.out).mono ?_); rintro e w' ⟨rfl, ⟨nd, rfl⟩⟩; refine ⟨_, rfl, ?_⟩; (try (rw [drewN_self w13]; generalize hq_ : World.drewN w13 _ = w13; have n0_ : Aside0 (w13.heap[gb220]? = some (.cells #[.int .i64 a0_0, .int .i64 a0_1, .int .i64 a0_2, .int .i64 a0_3, .int .i64 a0_4, .int .i64 a0_5, .int .i64 a0_6, .int .i64 a0_7, .int .i64 a0_8, .int .i64 a0_9] 23 (0, 0))) := ⟨by rw [← hq_]; exact (by (with_reducible repeat (first | refine blk_drewN ?_ _ | refine blk_drew ?_ | refine blk_alloc ?_ _)); exact BK220.out)⟩; have n1_ : Aside0 (w13.heap[gb221]? = some (.cells #[.int .i64 a1_0, .slice A1_1 l1_1.length c1_1] 26 (0, 0))) := ⟨by rw [← hq_]; exact (by (with_reducible repeat (first | refine blk_drewN ?_ _ | refine blk_drew ?_ | refine blk_alloc ?_ _)); exact BK221.out)⟩; have n2_ : Aside0 (Below w.heap.size w w13) := ⟨by rw [← hq_]; exact (by repeat (first | (with_reducible first | exact HB.out | apply below_alloc | apply pw_below_drewN | apply below_drew1 | refine below_set ?_ GE220.out | refine below_set ?_ GE221.out) | exact HB.out))⟩; clear BK220 BK221 HB hq_; have BK220 := n0_; have BK221 := n1_; have HB := n2_; clear n0_ n1_ n2_)); have hcz14_0 : w13.cell? ⟨gb220, 0, none⟩ = some (.int .i64 a0_0) := (blk_cell BK220.out 0).trans rfl; have hcz14_1 : w13.cell? ⟨gb220, 1, none⟩ = some (.int .i64 a0_1) := (blk_cell BK220.out 1).trans rfl; have hcz14_2 : w13.cell? ⟨gb220, 2, none⟩ = some (.int .i64 a0_2) := (blk_cell BK220.out 2).trans rfl; have hcz14_3 : w13.cell? ⟨gb220, 3, none⟩ = some (.int .i64 a0_3) := (blk_cell BK220.out 3).trans rfl; have hcz14_4 : w13.cell? ⟨gb220, 4, none⟩ = some (.int .i64 a0_4) := (blk_cell BK220.out 4).trans rfl; have hcz14_5 : w13.cell? ⟨gb220, 5, none⟩ = some (.int .i64 a0_5) := (blk_cell BK220.out 5).trans rfl; have hcz14_6 : w13.cell? ⟨gb220, 6, none⟩ = some (.int .i64 a0_6) := (blk_cell BK220.out 6).trans rfl; have hcz14_7 : w13.cell? ⟨gb220, 7, none⟩ = some (.int .i64 a0_7) := (blk_cell BK220.out 7).trans rfl; have hcz14_8 : w13.cell? ⟨gb220, 8, none⟩ = some (.int .i64 a0_8) := (blk_cell BK220.out 8).trans rfl; have hcz14_9 : w13.cell? ⟨gb220, 9, none⟩ = some (.int .i64 a0_9) := (blk_cell BK220.out 9).trans rfl; have hfz14_0 := blk_frozen BK220.out 0; have hfz14_1 := blk_frozen BK220.out 1; have hfz14_2 := blk_frozen BK220.out 2; have hfz14_3 := blk_frozen BK220.out 3; have hfz14_4 := blk_frozen BK220.out 4; have hfz14_5 := blk_frozen BK220.out 5; have hfz14_6 := blk_frozen BK220.out 6; have hfz14_7 := blk_frozen BK220.out 7; have hfz14_8 := blk_frozen BK220.out 8; have hfz14_9 := blk_frozen BK220.out 9; have hcz15_0 : w13.cell? ⟨gb221, 0, none⟩ = some (.int .i64 a1_0) := (blk_cell BK221.out 0).trans rfl; have hcz15_1 : w13.cell? ⟨gb221, 1, none⟩ = some (.slice A1_1 l1_1.length c1_1) := (blk_cell BK221.out 1).trans rfl; have hfz15_0 := blk_frozen BK221.out 0; have hfz15_1 := blk_frozen BK221.out 1) | ((with_reducible refine gate_callee (f := 37) rfl ?_); refine goesL_ (some 22) rfl rfl Try.func37 (by kernel_rfl) rfl #[.agg #[.int .i64 a0_0, .int .i64 a0_1, .int .i64 a0_2, .int .i64 a0_3, .int .i64 a0_4, .int .i64 a0_5, .int .i64 a0_6, .int .i64 a0_7, .int .i64 a0_8, .int .i64 a0_9], .agg #[.int .i64 a1_0, .slice A1_1 l1_1.length c1_1]] rfl (by (try simp only [List.map_toArray, List.map_cons, List.map_nil]); first | done | rfl | (simp only [List.length_drop, List.length_take]; rfl)) ?_; (with_reducible refine (reeveref08_counts.calls k a0_0 a0_1 a0_2 a0_3 a0_4 a0_5 a0_6 a0_7 a0_8 a0_9 a1_0 _ _ l1_1 t224 t225 _ ?side1 ?side2 A8.out).mono ?_); (case side1 => repeat (first | exact (Kd.C_below HR1_1.out HB.out) | (with_reducible refine Kd.C_alloc ?_ _) | (with_reducible refine Kd.C_drewN ?_ _) | (with_reducible refine Kd.C_drew ?_))); (case side2 => exact HC1_1.out); rintro e w16 ⟨v226, rfl, ho0, hb⟩; refine ⟨_, rfl, ?_⟩; have n0_ := Aside0.mk (Kd.R_lower ho0 (below_size (by repeat (first | (with_reducible first | exact HB.out | apply below_alloc | apply pw_below_drewN | apply below_drew1 | refine below_set ?_ GE220.out | refine below_set ?_ GE221.out) | exact HB.out)))); have n1_ := Aside0.mk (blk_below (g := gb220) (o := .cells #[.int .i64 a0_0, .int .i64 a0_1, .int .i64 a0_2, .int .i64 a0_3, .int .i64 a0_4, .int .i64 a0_5, .int .i64 a0_6, .int .i64 a0_7, .int .i64 a0_8, .int .i64 a0_9] 23 (0, 0)) (by (with_reducible repeat (first | refine blk_drewN ?_ _ | refine blk_drew ?_ | refine blk_alloc ?_ _)); exact BK220.out) hb); have n2_ := Aside0.mk (blk_below (g := gb221) (o := .cells #[.int .i64 a1_0, .slice A1_1 l1_1.length c1_1] 26 (0, 0)) (by (with_reducible repeat (first | refine blk_drewN ?_ _ | refine blk_drew ?_ | refine blk_alloc ?_ _)); exact BK221.out) hb); have n3_ := Aside0.mk (below_step (by repeat (first | (with_reducible first | exact HB.out | apply below_alloc | apply pw_below_drewN | apply below_drew1 | refine below_set ?_ GE220.out | refine below_set ?_ GE221.out) | exact HB.out)) hb); clear BK220; clear BK221; clear HB; have HO227 := n0_; have BK220 := n1_; have BK221 := n2_; have HB := n3_; clear n0_ n1_ n2_ n3_; (try clear hb); (try clear hb2); (try clear hk); (try clear hi); (try clear ho0); have hcz17_0 : w16.cell? ⟨gb221, 0, none⟩ = some (.int .i64 a1_0) := (blk_cell BK221.out 0).trans rfl; have hcz17_1 : w16.cell? ⟨gb221, 1, none⟩ = some (.slice A1_1 l1_1.length c1_1) := (blk_cell BK221.out 1).trans rfl; have hfz17_0 := blk_frozen BK221.out 0; have hfz17_1 := blk_frozen BK221.out 1; obtain ⟨Ao18, co18, eo18⟩ := Kd.R_slice HO227.out; subst eo18))
  go_loopg [10, 11] k (fun kq v10 v11 w' => ∃ (x10_1 : Int) (x11_1 : Int), v10 = .int .i64 x10_1 ∧ v11 = .int .i64 x11_1 ∧ Aside0 (reeveref08_When.l0 kq a3 x10_1 x11_1 a0_0 a0_1 a0_2 a0_3 a0_4 a0_5 a0_6 a0_7 a0_8 a0_9 t224 t225 = some r) ∧ Aside0 (kq ≤ k) ∧ Aside0 (Kd.R (Kd.int .i64) 3 w' w.heap.size (fun _ => True) (.slice Ao18 t225.length co18) t225) ∧ Aside0 (w'.heap[gb220]? = some (.cells #[.int .i64 a0_0, .int .i64 a0_1, .int .i64 a0_2, .int .i64 a0_3, .int .i64 a0_4, .int .i64 a0_5, .int .i64 a0_6, .int .i64 a0_7, .int .i64 a0_8, .int .i64 a0_9] 23 (0, 0))) ∧ Aside0 (w'.heap[gb221]? = some (.cells #[.int .i64 t224, (.slice Ao18 t225.length co18)] 26 (0, 0))) ∧ Aside0 (Below w.heap.size w w'))
  case atStart => exact ⟨(t223), (0), (by first | rfl | (simp; done) | (simp [*]; done) | (simp [Int.tdiv_eq_ediv_of_nonneg]; done)), (by first | rfl | (simp; done) | (simp [*]; done) | (simp [Int.tdiv_eq_ediv_of_nonneg]; done)), H', ⟨Nat.le_refl _⟩, ⟨by (with_reducible repeat (first | apply Kd.R_alloc | apply Kd.R_drewN | apply Kd.R_drew)); exact Kd.R_mono (Kd.R_far (p := ⟨gb221, 1, none⟩) (Kd.R_far (p := ⟨gb221, 0, none⟩) (Kd.R_types HO227.out BK221.out (by decide)) (fun _ hk => hk.2) (.int .i64 t224)) (fun _ hk => hk.2) (.slice Ao18 t225.length co18)) (fun _ hk => trivial)⟩, ⟨by (with_reducible repeat (first | refine blk_drewN ?_ _ | refine blk_drew ?_ | refine blk_alloc ?_ _)); refine blk_far ?_ NB220_221.out _; (with_reducible repeat (first | refine blk_drewN ?_ _ | refine blk_drew ?_ | refine blk_alloc ?_ _)); refine blk_far ?_ NB220_221.out _; (with_reducible repeat (first | refine blk_drewN ?_ _ | refine blk_drew ?_ | refine blk_alloc ?_ _)); exact BK220.out⟩, ⟨by (with_reducible repeat (first | refine blk_drewN ?_ _ | refine blk_drew ?_ | refine blk_alloc ?_ _)); refine blk_put (cs := #[.int .i64 t224, .slice A1_1 l1_1.length c1_1]) ?_ 1 _ rfl; (with_reducible repeat (first | refine blk_drewN ?_ _ | refine blk_drew ?_ | refine blk_alloc ?_ _)); refine blk_put (cs := #[.int .i64 a1_0, .slice A1_1 l1_1.length c1_1]) ?_ 0 _ rfl; (with_reducible repeat (first | refine blk_drewN ?_ _ | refine blk_drew ?_ | refine blk_alloc ?_ _)); exact BK221.out⟩, ⟨by repeat (first | (with_reducible first | exact HB.out | apply below_alloc | apply pw_below_drewN | apply below_drew1 | refine below_set ?_ GE220.out | refine below_set ?_ GE221.out) | exact HB.out)⟩⟩
  case round =>
   clear H'
   try clear c1
   try clear c2
   try clear p2
   try clear c3
   try clear c6
   try clear c11
   try clear hcz12_0
   try clear hcz12_1
   try clear hcz12_2
   try clear hcz12_3
   try clear hcz12_4
   try clear hcz12_5
   try clear hcz12_6
   try clear hcz12_7
   try clear hcz12_8
   try clear hcz12_9
   try clear hcz14_0
   try clear hcz14_1
   try clear hcz14_2
   try clear hcz14_3
   try clear hcz14_4
   try clear hcz14_5
   try clear hcz14_6
   try clear hcz14_7
   try clear hcz14_8
   try clear hcz14_9
   try clear hcz15_0
   try clear hcz15_1
   try clear hcz17_0
   try clear hcz17_1
   try clear hfz12_0
   try clear hfz12_1
   try clear hfz12_2
   try clear hfz12_3
   try clear hfz12_4
   try clear hfz12_5
   try clear hfz12_6
   try clear hfz12_7
   try clear hfz12_8
   try clear hfz12_9
   try clear hfz14_0
   try clear hfz14_1
   try clear hfz14_2
   try clear hfz14_3
   try clear hfz14_4
   try clear hfz14_5
   try clear hfz14_6
   try clear hfz14_7
   try clear hfz14_8
   try clear hfz14_9
   try clear hfz15_0
   try clear hfz15_1
   try clear hfz17_0
   try clear hfz17_1
   obtain ⟨x10_1, x11_1, rfl, rfl, HA, HK1, HO_222001, BK220, BK221, HB⟩ := hrel
   cases gk with
   | zero => exact absurd HA.out (by simp [reeveref08_When.l0])
   | succ k1 =>
    have H := HA.out
    clear HA
    simp only [reeveref08_When.l0] at H
    by_cases c19 : x11_1 ≤ (wrap64 (a0_5 + 1))
    ·rw [if_pos c19] at H
     have c19b0 : decide (x11_1 ≤ (wrap64 (a0_5 + 1))) = true := decide_eq_true c19
     clear c19
     replace H := Option.bind_eq_some_iff.mp H
     obtain ⟨⟨t228, t229⟩, A200, H⟩ := H
     replace H : ((reeveref08_May.f k1 a0_0 a0_1 a0_2 a0_3 a0_4 a0_5 a0_6 a0_7 a0_8 a0_9 t228 t229 a3).bind fun t232 => (if t232 = true then (some x10_1) else ((reeveref08_Grid.f a0_0 a0_1 a0_2 a0_3 a0_4 a0_5 a0_6 a0_7 a0_8 a0_9 x10_1).bind fun t233 => (if (wrap64 (t233 + 1)) ≤ t224 then (reeveref08_When.j1 k1 a3 x11_1 (wrap64 (t224 + 1)) a0_0 a0_1 a0_2 a0_3 a0_4 a0_5 a0_6 a0_7 a0_8 a0_9 t224 t225) else (reeveref08_When.j1 k1 a3 x11_1 (wrap64 (t233 + 1)) a0_0 a0_1 a0_2 a0_3 a0_4 a0_5 a0_6 a0_7 a0_8 a0_9 t224 t225))))) = some r := H
     have A20 := Aside0.mk A200
     clear A200
     replace H := Option.bind_eq_some_iff.mp H
     obtain ⟨t232, A210, H⟩ := H
     replace H : (if t232 = true then (some x10_1) else ((reeveref08_Grid.f a0_0 a0_1 a0_2 a0_3 a0_4 a0_5 a0_6 a0_7 a0_8 a0_9 x10_1).bind fun t233 => (if (wrap64 (t233 + 1)) ≤ t224 then (reeveref08_When.j1 k1 a3 x11_1 (wrap64 (t224 + 1)) a0_0 a0_1 a0_2 a0_3 a0_4 a0_5 a0_6 a0_7 a0_8 a0_9 t224 t225) else (reeveref08_When.j1 k1 a3 x11_1 (wrap64 (t233 + 1)) a0_0 a0_1 a0_2 a0_3 a0_4 a0_5 a0_6 a0_7 a0_8 a0_9 t224 t225)))) = some r := H
     have A21 := Aside0.mk A210
     clear A210
     by_cases c22 : t232 = true
     ·subst c22
      have H1 : (some x10_1) = some r := by rw [if_pos rfl] at H; exact H
      clear H
      have H := H1
      clear H1
      obtain rfl := Option.some.inj H
      have hnb23 := NB220_221.out
      have hnc23 := NB221_220.out
      have hcz24_0 : wr.cell? ⟨gb220, 0, none⟩ = some (.int .i64 a0_0) := (blk_cell BK220.out 0).trans rfl
      have hcz24_1 : wr.cell? ⟨gb220, 1, none⟩ = some (.int .i64 a0_1) := (blk_cell BK220.out 1).trans rfl
      have hcz24_2 : wr.cell? ⟨gb220, 2, none⟩ = some (.int .i64 a0_2) := (blk_cell BK220.out 2).trans rfl
      have hcz24_3 : wr.cell? ⟨gb220, 3, none⟩ = some (.int .i64 a0_3) := (blk_cell BK220.out 3).trans rfl
      have hcz24_4 : wr.cell? ⟨gb220, 4, none⟩ = some (.int .i64 a0_4) := (blk_cell BK220.out 4).trans rfl
      have hcz24_5 : wr.cell? ⟨gb220, 5, none⟩ = some (.int .i64 a0_5) := (blk_cell BK220.out 5).trans rfl
      have hcz24_6 : wr.cell? ⟨gb220, 6, none⟩ = some (.int .i64 a0_6) := (blk_cell BK220.out 6).trans rfl
      have hcz24_7 : wr.cell? ⟨gb220, 7, none⟩ = some (.int .i64 a0_7) := (blk_cell BK220.out 7).trans rfl
      have hcz24_8 : wr.cell? ⟨gb220, 8, none⟩ = some (.int .i64 a0_8) := (blk_cell BK220.out 8).trans rfl
      have hcz24_9 : wr.cell? ⟨gb220, 9, none⟩ = some (.int .i64 a0_9) := (blk_cell BK220.out 9).trans rfl
      have hfz24_0 := blk_frozen BK220.out 0
      have hfz24_1 := blk_frozen BK220.out 1
      have hfz24_2 := blk_frozen BK220.out 2
      have hfz24_3 := blk_frozen BK220.out 3
      have hfz24_4 := blk_frozen BK220.out 4
      have hfz24_5 := blk_frozen BK220.out 5
      have hfz24_6 := blk_frozen BK220.out 6
      have hfz24_7 := blk_frozen BK220.out 7
      have hfz24_8 := blk_frozen BK220.out 8
      have hfz24_9 := blk_frozen BK220.out 9
      try go_wp2
      have n0_ := Aside0.mk (Kd.R_drew HO_222001.out)
      have n1_ := Aside0.mk (blk_drew BK220.out)
      have n2_ := Aside0.mk (blk_drew BK221.out)
      have n3_ := Aside0.mk (below_drew1 HB.out)
      clear HO_222001
      clear BK220
      clear BK221
      clear HB
      have HO_222001 := n0_
      have BK220 := n1_
      have BK221 := n2_
      have HB := n3_
      clear n0_ n1_ n2_ n3_
      refine start_ (n := 8) (S := fun w' => w'.cell? ⟨gb220, 0, none⟩ = some (.int .i64 a0_0) ∧ w'.cell? ⟨gb220, 1, none⟩ = some (.int .i64 a0_1) ∧ w'.cell? ⟨gb220, 2, none⟩ = some (.int .i64 a0_2) ∧ w'.cell? ⟨gb220, 3, none⟩ = some (.int .i64 a0_3) ∧ w'.cell? ⟨gb220, 4, none⟩ = some (.int .i64 a0_4) ∧ w'.cell? ⟨gb220, 5, none⟩ = some (.int .i64 a0_5) ∧ w'.cell? ⟨gb220, 6, none⟩ = some (.int .i64 a0_6) ∧ w'.cell? ⟨gb220, 7, none⟩ = some (.int .i64 a0_7) ∧ w'.cell? ⟨gb220, 8, none⟩ = some (.int .i64 a0_8) ∧ w'.cell? ⟨gb220, 9, none⟩ = some (.int .i64 a0_9) ∧ w'.cell? ⟨gb221, 0, none⟩ = some (.int .i64 t224) ∧ w'.cell? ⟨gb221, 1, none⟩ = some (.slice Ao18 t225.length co18)) (ds := []) #[false, false, false, false, false, false, false, false] (by kernel_rfl) rfl rfl ⟨(blk_cell BK220.out 0).trans rfl, (blk_cell BK220.out 1).trans rfl, (blk_cell BK220.out 2).trans rfl, (blk_cell BK220.out 3).trans rfl, (blk_cell BK220.out 4).trans rfl, (blk_cell BK220.out 5).trans rfl, (blk_cell BK220.out 6).trans rfl, (blk_cell BK220.out 7).trans rfl, (blk_cell BK220.out 8).trans rfl, (blk_cell BK220.out 9).trans rfl, (blk_cell BK221.out 0).trans rfl, (blk_cell BK221.out 1).trans rfl⟩ (fun hHeld => ?_); refine with_tabW reeveref08_When.tab9 reeveref08_When.bits9 (fun HT_ HW_ => ?_)
      generalize wr.drew = w25 at HO_222001 BK220 BK221 HB hHeld ⊢
      refine pure_ (i := 3) (N := some 33) (v := ?_) (a' := ?_) #[false, false, false, true, false, false, false, false] rfl rfl (any_of HT_.out (by kernel_rfl)) (fun _ _ _ h => h) (Or.inl ⟨by rfl, ?_⟩) ?_ ?_
      rotate_left
      ·intro w'
       go_simp
       with_reducible rfl
      rotate_left
      ·simp only [Act.put, List.setIfInBounds_toArray, List.set_cons_zero, List.set_cons_succ, i64_w, i32_w]
       rfl
      refine pure_ (i := 5) (N := some 35) (v := ?_) (a' := ?_) #[false, false, false, true, false, true, false, false] rfl rfl (any_of HT_.out (by kernel_rfl)) (fun _ _ _ h => h) (Or.inl ⟨by rfl, ?_⟩) ?_ ?_
      rotate_left
      ·intro w'
       go_simp
       with_reducible rfl
      rotate_left
      ·simp only [Act.put, List.setIfInBounds_toArray, List.set_cons_zero, List.set_cons_succ, i64_w, i32_w]
       rfl
      refine take_ (i := 0) (N := some 30) (v := ?_) (a' := ?_) #[true, false, false, true, false, true, false, false] rfl rfl (take_ofW HT_.out HW_.out (by kernel_rfl)) (fun _ _ _ h => h) (Or.inl ⟨by rfl, ?_⟩) hHeld ?_ ?_
      rotate_left
      ·rintro w' ⟨s0, s1, s2, s3, s4, s5, s6, s7, s8, s9, s10, s11⟩
       go_simp
       with_reducible rfl
      rotate_left
      ·simp only [Act.put, List.setIfInBounds_toArray, List.set_cons_zero, List.set_cons_succ, i64_w, i32_w]
       rfl
      refine take_ (i := 1) (N := some 31) (v := ?_) (a' := ?_) #[true, true, false, true, false, true, false, false] rfl rfl (take_ofW HT_.out HW_.out (by kernel_rfl)) (fun _ _ _ h => h) (Or.inl ⟨by rfl, ?_⟩) hHeld ?_ ?_
      rotate_left
      ·rintro w' ⟨s0, s1, s2, s3, s4, s5, s6, s7, s8, s9, s10, s11⟩
       go_simp
       with_reducible rfl
      rotate_left
      ·simp only [Act.put, List.setIfInBounds_toArray, List.set_cons_zero, List.set_cons_succ, i64_w, i32_w]
       rfl
      refine take_ (i := 2) (N := some 32) (v := ?_) (a' := ?_) #[true, true, true, true, false, true, false, false] rfl rfl (take_ofW HT_.out HW_.out (by kernel_rfl)) (fun _ _ _ h => h) (Or.inl ⟨by rfl, ?_⟩) hHeld ?_ ?_
      rotate_left
      ·rintro w' ⟨s0, s1, s2, s3, s4, s5, s6, s7, s8, s9, s10, s11⟩
       go_simp
       with_reducible rfl
      rotate_left
      ·simp only [Act.put, List.setIfInBounds_toArray, List.set_cons_zero, List.set_cons_succ, i64_w, i32_w]
       rfl
      refine one_ (i := 4) (N := some 34) #[true, true, true, true, true, true, false, false] rfl rfl (one_of HT_.out (by kernel_rfl)) (by decide) (fun K hK => ?_)
      refine goes_ Try.func20 (by kernel_rfl) rfl #[.agg #[.int .i64 a0_0, .int .i64 a0_1, .int .i64 a0_2, .int .i64 a0_3, .int .i64 a0_4, .int .i64 a0_5, .int .i64 a0_6, .int .i64 a0_7, .int .i64 a0_8, .int .i64 a0_9], .agg #[.int .i64 t224, .slice Ao18 t225.length co18], .int .i64 x10_1] (by rfl) rfl rfl (by (try simp only [List.map_toArray, List.map_cons, List.map_nil]); first | done | rfl | (simp only [List.length_drop, List.length_take]; rfl)) ?_
      with_reducible refine (reeveref08_Move.calls k1 a0_0 a0_1 a0_2 a0_3 a0_4 a0_5 a0_6 a0_7 a0_8 a0_9 t224 _ _ t225 x10_1 t228 t229 _ ?side1 ?side2 A20.out).mono ?_
      (case side1 => repeat (first | exact (Kd.R_reads' HO_222001.out).2.2 | (with_reducible refine Kd.C_alloc ?_ _) | (with_reducible refine Kd.C_drewN ?_ _) | (with_reducible refine Kd.C_drew ?_)))
      (case side2 => exact (Kd.R_reads' HO_222001.out).2.1)
      rintro e w26 ⟨v230, rfl, ho0, hb⟩
      refine ⟨_, rfl, ?_⟩
      have n0_ := Aside0.mk (Kd.R_elder' (by (with_reducible repeat (first | apply Kd.R_alloc | apply Kd.R_drewN | apply Kd.R_drew)); exact HO_222001.out) (Kd.R_base ho0) hb)
      have n1_ := Aside0.mk (Kd.R_lower (Kd.R_new' ho0 (Kd.R_lt (by (with_reducible repeat (first | apply Kd.R_alloc | apply Kd.R_drewN | apply Kd.R_drew)); exact HO_222001.out))) (below_size (by repeat (first | (with_reducible first | exact HB.out | apply below_alloc | apply pw_below_drewN | apply below_drew1 | refine below_set ?_ GE220.out | refine below_set ?_ GE221.out) | exact HB.out))))
      have n2_ := Aside0.mk (blk_below (g := gb220) (o := .cells #[.int .i64 a0_0, .int .i64 a0_1, .int .i64 a0_2, .int .i64 a0_3, .int .i64 a0_4, .int .i64 a0_5, .int .i64 a0_6, .int .i64 a0_7, .int .i64 a0_8, .int .i64 a0_9] 23 (0, 0)) (by (with_reducible repeat (first | refine blk_drewN ?_ _ | refine blk_drew ?_ | refine blk_alloc ?_ _)); exact BK220.out) hb)
      have n3_ := Aside0.mk (blk_below (g := gb221) (o := .cells #[.int .i64 t224, .slice Ao18 t225.length co18] 26 (0, 0)) (by (with_reducible repeat (first | refine blk_drewN ?_ _ | refine blk_drew ?_ | refine blk_alloc ?_ _)); exact BK221.out) hb)
      have n4_ := Aside0.mk (below_step (by repeat (first | (with_reducible first | exact HB.out | apply below_alloc | apply pw_below_drewN | apply below_drew1 | refine below_set ?_ GE220.out | refine below_set ?_ GE221.out) | exact HB.out)) hb)
      clear HO_222001
      clear BK220
      clear BK221
      clear HB
      have HO_222001 := n0_
      have HO231 := n1_
      have BK220 := n2_
      have BK221 := n3_
      have HB := n4_
      clear n0_ n1_ n2_ n3_ n4_
      (try clear hb)
      (try clear hb2)
      (try clear hk)
      (try clear hi)
      (try clear ho0)
      obtain ⟨Ao27, co27, eo27⟩ := Kd.R_slice HO231.out
      (first | subst eo27 | (injection eo27 with f1_ f2_ f3_; have f4_ := f1_.symm; have f5_ := f3_.symm; clear f1_ f2_ f3_; subst f4_; subst f5_))
      refine hK.out _ _ ⟨(blk_cell BK220.out 0).trans rfl, (blk_cell BK220.out 1).trans rfl, (blk_cell BK220.out 2).trans rfl, (blk_cell BK220.out 3).trans rfl, (blk_cell BK220.out 4).trans rfl, (blk_cell BK220.out 5).trans rfl, (blk_cell BK220.out 6).trans rfl, (blk_cell BK220.out 7).trans rfl, (blk_cell BK220.out 8).trans rfl, (blk_cell BK220.out 9).trans rfl, (blk_cell BK221.out 0).trans rfl, (blk_cell BK221.out 1).trans rfl⟩ (fun hHeld => ?_)
      clear hK K
      refine norm_ (a' := ?_) ?_ ?_
      rotate_left
      ·show Act.put _ (some 34) _ = _
       simp only [Act.put, List.setIfInBounds_toArray, List.set_cons_zero, List.set_cons_succ, i64_w, i32_w]
       rfl
      refine one_ (i := 6) (N := some 36) #[true, true, true, true, true, true, true, false] rfl rfl (one_of HT_.out (by kernel_rfl)) (by decide) (fun K hK => ?_)
      refine goes_ Try.func25 (by kernel_rfl) rfl #[.agg #[.int .i64 a0_0, .int .i64 a0_1, .int .i64 a0_2, .int .i64 a0_3, .int .i64 a0_4, .int .i64 a0_5, .int .i64 a0_6, .int .i64 a0_7, .int .i64 a0_8, .int .i64 a0_9], .agg #[.int .i64 t228, .slice Ao27 t229.length co27], .int .i64 a3] (by rfl) rfl rfl (by (try simp only [List.map_toArray, List.map_cons, List.map_nil]); first | done | rfl | (simp only [List.length_drop, List.length_take]; rfl)) ?_
      with_reducible refine (reeveref08_May.calls k1 a0_0 a0_1 a0_2 a0_3 a0_4 a0_5 a0_6 a0_7 a0_8 a0_9 t228 _ _ t229 a3 true _ ?side1 ?side2 A21.out).mono ?_
      (case side1 => repeat (first | exact (Kd.R_reads' HO231.out).2.2 | (with_reducible refine Kd.C_alloc ?_ _) | (with_reducible refine Kd.C_drewN ?_ _) | (with_reducible refine Kd.C_drew ?_)))
      (case side2 => exact (Kd.R_reads' HO231.out).2.1)
      rintro e w28 ⟨rfl, hb⟩
      refine ⟨_, rfl, ?_⟩
      have n0_ := Aside0.mk (Kd.R_below (by (with_reducible repeat (first | apply Kd.R_alloc | apply Kd.R_drewN | apply Kd.R_drew)); exact HO_222001.out) hb)
      have n1_ := Aside0.mk (Kd.R_below (by (with_reducible repeat (first | apply Kd.R_alloc | apply Kd.R_drewN | apply Kd.R_drew)); exact HO231.out) hb)
      have n2_ := Aside0.mk (blk_below (g := gb220) (o := .cells #[.int .i64 a0_0, .int .i64 a0_1, .int .i64 a0_2, .int .i64 a0_3, .int .i64 a0_4, .int .i64 a0_5, .int .i64 a0_6, .int .i64 a0_7, .int .i64 a0_8, .int .i64 a0_9] 23 (0, 0)) (by (with_reducible repeat (first | refine blk_drewN ?_ _ | refine blk_drew ?_ | refine blk_alloc ?_ _)); exact BK220.out) hb)
      have n3_ := Aside0.mk (blk_below (g := gb221) (o := .cells #[.int .i64 t224, .slice Ao18 t225.length co18] 26 (0, 0)) (by (with_reducible repeat (first | refine blk_drewN ?_ _ | refine blk_drew ?_ | refine blk_alloc ?_ _)); exact BK221.out) hb)
      have n4_ := Aside0.mk (below_step (by repeat (first | (with_reducible first | exact HB.out | apply below_alloc | apply pw_below_drewN | apply below_drew1 | refine below_set ?_ GE220.out | refine below_set ?_ GE221.out) | exact HB.out)) hb)
      clear HO_222001
      clear HO231
      clear BK220
      clear BK221
      clear HB
      have HO_222001 := n0_
      have HO231 := n1_
      have BK220 := n2_
      have BK221 := n3_
      have HB := n4_
      clear n0_ n1_ n2_ n3_ n4_
      (try clear hb)
      (try clear hb2)
      (try clear hk)
      (try clear hi)
      refine hK.out _ _ ⟨(blk_cell BK220.out 0).trans rfl, (blk_cell BK220.out 1).trans rfl, (blk_cell BK220.out 2).trans rfl, (blk_cell BK220.out 3).trans rfl, (blk_cell BK220.out 4).trans rfl, (blk_cell BK220.out 5).trans rfl, (blk_cell BK220.out 6).trans rfl, (blk_cell BK220.out 7).trans rfl, (blk_cell BK220.out 8).trans rfl, (blk_cell BK220.out 9).trans rfl, (blk_cell BK221.out 0).trans rfl, (blk_cell BK221.out 1).trans rfl⟩ (fun hHeld => ?_)
      clear hK K
      refine norm_ (a' := ?_) ?_ ?_
      rotate_left
      ·show Act.put _ (some 36) _ = _
       simp only [Act.put, List.setIfInBounds_toArray, List.set_cons_zero, List.set_cons_succ, i64_w, i32_w]
       rfl
      refine pure_ (i := 7) (N := some 12) (v := ?_) (a' := ?_) #[true, true, true, true, true, true, true, true] rfl rfl (any_of HT_.out (by kernel_rfl)) (fun _ _ _ h => h) (Or.inl ⟨by rfl, ?_⟩) ?_ ?_
      rotate_left
      ·intro w'
       go_simp
       with_reducible rfl
      rotate_left
      ·simp only [Act.put, List.setIfInBounds_toArray, List.set_cons_zero, List.set_cons_succ, i64_w, i32_w]
       rfl
      refine done_ (done_of HT_.out (by kernel_rfl)) ?_
      try go_wp2
      go_ret
      exact ⟨by first | rfl | (simp only [i64_w] <;> rfl) | (simp [errW_none, errW_some] <;> rfl) | (simp [*, errW_none, errW_some] <;> rfl), by repeat (first | (with_reducible first | exact HB.out | apply below_alloc | apply pw_below_drewN | apply below_drew1 | refine below_set ?_ GE220.out | refine below_set ?_ GE221.out) | exact HB.out)⟩
     ·replace c22 := Bool.eq_false_iff.mpr c22
      subst c22
      have H1 : ((reeveref08_Grid.f a0_0 a0_1 a0_2 a0_3 a0_4 a0_5 a0_6 a0_7 a0_8 a0_9 x10_1).bind fun t233 => (if (wrap64 (t233 + 1)) ≤ t224 then (reeveref08_When.j1 k1 a3 x11_1 (wrap64 (t224 + 1)) a0_0 a0_1 a0_2 a0_3 a0_4 a0_5 a0_6 a0_7 a0_8 a0_9 t224 t225) else (reeveref08_When.j1 k1 a3 x11_1 (wrap64 (t233 + 1)) a0_0 a0_1 a0_2 a0_3 a0_4 a0_5 a0_6 a0_7 a0_8 a0_9 t224 t225))) = some r := by rw [if_neg (show ¬ (false = true) by decide)] at H; exact H
      clear H
      have H := H1
      clear H1
      replace H := Option.bind_eq_some_iff.mp H
      obtain ⟨t233, A290, H⟩ := H
      replace H : (if (wrap64 (t233 + 1)) ≤ t224 then (reeveref08_When.j1 k1 a3 x11_1 (wrap64 (t224 + 1)) a0_0 a0_1 a0_2 a0_3 a0_4 a0_5 a0_6 a0_7 a0_8 a0_9 t224 t225) else (reeveref08_When.j1 k1 a3 x11_1 (wrap64 (t233 + 1)) a0_0 a0_1 a0_2 a0_3 a0_4 a0_5 a0_6 a0_7 a0_8 a0_9 t224 t225)) = some r := H
      have A29 := Aside0.mk A290
      clear A290
      have HC30 := Aside0.mk H
      clear H
      have hnb31 := NB220_221.out
      have hnc31 := NB221_220.out
      have hcz32_0 : wr.cell? ⟨gb220, 0, none⟩ = some (.int .i64 a0_0) := (blk_cell BK220.out 0).trans rfl
      have hcz32_1 : wr.cell? ⟨gb220, 1, none⟩ = some (.int .i64 a0_1) := (blk_cell BK220.out 1).trans rfl
      have hcz32_2 : wr.cell? ⟨gb220, 2, none⟩ = some (.int .i64 a0_2) := (blk_cell BK220.out 2).trans rfl
      have hcz32_3 : wr.cell? ⟨gb220, 3, none⟩ = some (.int .i64 a0_3) := (blk_cell BK220.out 3).trans rfl
      have hcz32_4 : wr.cell? ⟨gb220, 4, none⟩ = some (.int .i64 a0_4) := (blk_cell BK220.out 4).trans rfl
      have hcz32_5 : wr.cell? ⟨gb220, 5, none⟩ = some (.int .i64 a0_5) := (blk_cell BK220.out 5).trans rfl
      have hcz32_6 : wr.cell? ⟨gb220, 6, none⟩ = some (.int .i64 a0_6) := (blk_cell BK220.out 6).trans rfl
      have hcz32_7 : wr.cell? ⟨gb220, 7, none⟩ = some (.int .i64 a0_7) := (blk_cell BK220.out 7).trans rfl
      have hcz32_8 : wr.cell? ⟨gb220, 8, none⟩ = some (.int .i64 a0_8) := (blk_cell BK220.out 8).trans rfl
      have hcz32_9 : wr.cell? ⟨gb220, 9, none⟩ = some (.int .i64 a0_9) := (blk_cell BK220.out 9).trans rfl
      have hfz32_0 := blk_frozen BK220.out 0
      have hfz32_1 := blk_frozen BK220.out 1
      have hfz32_2 := blk_frozen BK220.out 2
      have hfz32_3 := blk_frozen BK220.out 3
      have hfz32_4 := blk_frozen BK220.out 4
      have hfz32_5 := blk_frozen BK220.out 5
      have hfz32_6 := blk_frozen BK220.out 6
      have hfz32_7 := blk_frozen BK220.out 7
      have hfz32_8 := blk_frozen BK220.out 8
      have hfz32_9 := blk_frozen BK220.out 9
      try go_wp2
      have n0_ := Aside0.mk (Kd.R_drew HO_222001.out)
      have n1_ := Aside0.mk (blk_drew BK220.out)
      have n2_ := Aside0.mk (blk_drew BK221.out)
      have n3_ := Aside0.mk (below_drew1 HB.out)
      clear HO_222001
      clear BK220
      clear BK221
      clear HB
      have HO_222001 := n0_
      have BK220 := n1_
      have BK221 := n2_
      have HB := n3_
      clear n0_ n1_ n2_ n3_
      refine start_ (n := 8) (S := fun w' => w'.cell? ⟨gb220, 0, none⟩ = some (.int .i64 a0_0) ∧ w'.cell? ⟨gb220, 1, none⟩ = some (.int .i64 a0_1) ∧ w'.cell? ⟨gb220, 2, none⟩ = some (.int .i64 a0_2) ∧ w'.cell? ⟨gb220, 3, none⟩ = some (.int .i64 a0_3) ∧ w'.cell? ⟨gb220, 4, none⟩ = some (.int .i64 a0_4) ∧ w'.cell? ⟨gb220, 5, none⟩ = some (.int .i64 a0_5) ∧ w'.cell? ⟨gb220, 6, none⟩ = some (.int .i64 a0_6) ∧ w'.cell? ⟨gb220, 7, none⟩ = some (.int .i64 a0_7) ∧ w'.cell? ⟨gb220, 8, none⟩ = some (.int .i64 a0_8) ∧ w'.cell? ⟨gb220, 9, none⟩ = some (.int .i64 a0_9) ∧ w'.cell? ⟨gb221, 0, none⟩ = some (.int .i64 t224) ∧ w'.cell? ⟨gb221, 1, none⟩ = some (.slice Ao18 t225.length co18)) (ds := []) #[false, false, false, false, false, false, false, false] (by kernel_rfl) rfl rfl ⟨(blk_cell BK220.out 0).trans rfl, (blk_cell BK220.out 1).trans rfl, (blk_cell BK220.out 2).trans rfl, (blk_cell BK220.out 3).trans rfl, (blk_cell BK220.out 4).trans rfl, (blk_cell BK220.out 5).trans rfl, (blk_cell BK220.out 6).trans rfl, (blk_cell BK220.out 7).trans rfl, (blk_cell BK220.out 8).trans rfl, (blk_cell BK220.out 9).trans rfl, (blk_cell BK221.out 0).trans rfl, (blk_cell BK221.out 1).trans rfl⟩ (fun hHeld => ?_); refine with_tabW reeveref08_When.tab9 reeveref08_When.bits9 (fun HT_ HW_ => ?_)
      generalize wr.drew = w33 at HO_222001 BK220 BK221 HB hHeld ⊢
      refine pure_ (i := 3) (N := some 33) (v := ?_) (a' := ?_) #[false, false, false, true, false, false, false, false] rfl rfl (any_of HT_.out (by kernel_rfl)) (fun _ _ _ h => h) (Or.inl ⟨by rfl, ?_⟩) ?_ ?_
      rotate_left
      ·intro w'
       go_simp
       with_reducible rfl
      rotate_left
      ·simp only [Act.put, List.setIfInBounds_toArray, List.set_cons_zero, List.set_cons_succ, i64_w, i32_w]
       rfl
      refine pure_ (i := 5) (N := some 35) (v := ?_) (a' := ?_) #[false, false, false, true, false, true, false, false] rfl rfl (any_of HT_.out (by kernel_rfl)) (fun _ _ _ h => h) (Or.inl ⟨by rfl, ?_⟩) ?_ ?_
      rotate_left
      ·intro w'
       go_simp
       with_reducible rfl
      rotate_left
      ·simp only [Act.put, List.setIfInBounds_toArray, List.set_cons_zero, List.set_cons_succ, i64_w, i32_w]
       rfl
      refine take_ (i := 0) (N := some 30) (v := ?_) (a' := ?_) #[true, false, false, true, false, true, false, false] rfl rfl (take_ofW HT_.out HW_.out (by kernel_rfl)) (fun _ _ _ h => h) (Or.inl ⟨by rfl, ?_⟩) hHeld ?_ ?_
      rotate_left
      ·rintro w' ⟨s0, s1, s2, s3, s4, s5, s6, s7, s8, s9, s10, s11⟩
       go_simp
       with_reducible rfl
      rotate_left
      ·simp only [Act.put, List.setIfInBounds_toArray, List.set_cons_zero, List.set_cons_succ, i64_w, i32_w]
       rfl
      refine take_ (i := 1) (N := some 31) (v := ?_) (a' := ?_) #[true, true, false, true, false, true, false, false] rfl rfl (take_ofW HT_.out HW_.out (by kernel_rfl)) (fun _ _ _ h => h) (Or.inl ⟨by rfl, ?_⟩) hHeld ?_ ?_
      rotate_left
      ·rintro w' ⟨s0, s1, s2, s3, s4, s5, s6, s7, s8, s9, s10, s11⟩
       go_simp
       with_reducible rfl
      rotate_left
      ·simp only [Act.put, List.setIfInBounds_toArray, List.set_cons_zero, List.set_cons_succ, i64_w, i32_w]
       rfl
      refine take_ (i := 2) (N := some 32) (v := ?_) (a' := ?_) #[true, true, true, true, false, true, false, false] rfl rfl (take_ofW HT_.out HW_.out (by kernel_rfl)) (fun _ _ _ h => h) (Or.inl ⟨by rfl, ?_⟩) hHeld ?_ ?_
      rotate_left
      ·rintro w' ⟨s0, s1, s2, s3, s4, s5, s6, s7, s8, s9, s10, s11⟩
       go_simp
       with_reducible rfl
      rotate_left
      ·simp only [Act.put, List.setIfInBounds_toArray, List.set_cons_zero, List.set_cons_succ, i64_w, i32_w]
       rfl
      refine one_ (i := 4) (N := some 34) #[true, true, true, true, true, true, false, false] rfl rfl (one_of HT_.out (by kernel_rfl)) (by decide) (fun K hK => ?_)
      refine goes_ Try.func20 (by kernel_rfl) rfl #[.agg #[.int .i64 a0_0, .int .i64 a0_1, .int .i64 a0_2, .int .i64 a0_3, .int .i64 a0_4, .int .i64 a0_5, .int .i64 a0_6, .int .i64 a0_7, .int .i64 a0_8, .int .i64 a0_9], .agg #[.int .i64 t224, .slice Ao18 t225.length co18], .int .i64 x10_1] (by rfl) rfl rfl (by (try simp only [List.map_toArray, List.map_cons, List.map_nil]); first | done | rfl | (simp only [List.length_drop, List.length_take]; rfl)) ?_
      with_reducible refine (reeveref08_Move.calls k1 a0_0 a0_1 a0_2 a0_3 a0_4 a0_5 a0_6 a0_7 a0_8 a0_9 t224 _ _ t225 x10_1 t228 t229 _ ?side1 ?side2 A20.out).mono ?_
      (case side1 => repeat (first | exact (Kd.R_reads' HO_222001.out).2.2 | (with_reducible refine Kd.C_alloc ?_ _) | (with_reducible refine Kd.C_drewN ?_ _) | (with_reducible refine Kd.C_drew ?_)))
      (case side2 => exact (Kd.R_reads' HO_222001.out).2.1)
      rintro e w34 ⟨v230, rfl, ho0, hb⟩
      refine ⟨_, rfl, ?_⟩
      have n0_ := Aside0.mk (Kd.R_elder' (by (with_reducible repeat (first | apply Kd.R_alloc | apply Kd.R_drewN | apply Kd.R_drew)); exact HO_222001.out) (Kd.R_base ho0) hb)
      have n1_ := Aside0.mk (Kd.R_lower (Kd.R_new' ho0 (Kd.R_lt (by (with_reducible repeat (first | apply Kd.R_alloc | apply Kd.R_drewN | apply Kd.R_drew)); exact HO_222001.out))) (below_size (by repeat (first | (with_reducible first | exact HB.out | apply below_alloc | apply pw_below_drewN | apply below_drew1 | refine below_set ?_ GE220.out | refine below_set ?_ GE221.out) | exact HB.out))))
      have n2_ := Aside0.mk (blk_below (g := gb220) (o := .cells #[.int .i64 a0_0, .int .i64 a0_1, .int .i64 a0_2, .int .i64 a0_3, .int .i64 a0_4, .int .i64 a0_5, .int .i64 a0_6, .int .i64 a0_7, .int .i64 a0_8, .int .i64 a0_9] 23 (0, 0)) (by (with_reducible repeat (first | refine blk_drewN ?_ _ | refine blk_drew ?_ | refine blk_alloc ?_ _)); exact BK220.out) hb)
      have n3_ := Aside0.mk (blk_below (g := gb221) (o := .cells #[.int .i64 t224, .slice Ao18 t225.length co18] 26 (0, 0)) (by (with_reducible repeat (first | refine blk_drewN ?_ _ | refine blk_drew ?_ | refine blk_alloc ?_ _)); exact BK221.out) hb)
      have n4_ := Aside0.mk (below_step (by repeat (first | (with_reducible first | exact HB.out | apply below_alloc | apply pw_below_drewN | apply below_drew1 | refine below_set ?_ GE220.out | refine below_set ?_ GE221.out) | exact HB.out)) hb)
      clear HO_222001
      clear BK220
      clear BK221
      clear HB
      have HO_222001 := n0_
      have HO231 := n1_
      have BK220 := n2_
      have BK221 := n3_
      have HB := n4_
      clear n0_ n1_ n2_ n3_ n4_
      (try clear hb)
      (try clear hb2)
      (try clear hk)
      (try clear hi)
      (try clear ho0)
      obtain ⟨Ao35, co35, eo35⟩ := Kd.R_slice HO231.out
      (first | subst eo35 | (injection eo35 with f1_ f2_ f3_; have f4_ := f1_.symm; have f5_ := f3_.symm; clear f1_ f2_ f3_; subst f4_; subst f5_))
      refine hK.out _ _ ⟨(blk_cell BK220.out 0).trans rfl, (blk_cell BK220.out 1).trans rfl, (blk_cell BK220.out 2).trans rfl, (blk_cell BK220.out 3).trans rfl, (blk_cell BK220.out 4).trans rfl, (blk_cell BK220.out 5).trans rfl, (blk_cell BK220.out 6).trans rfl, (blk_cell BK220.out 7).trans rfl, (blk_cell BK220.out 8).trans rfl, (blk_cell BK220.out 9).trans rfl, (blk_cell BK221.out 0).trans rfl, (blk_cell BK221.out 1).trans rfl⟩ (fun hHeld => ?_)
      clear hK K
      refine norm_ (a' := ?_) ?_ ?_
      rotate_left
      ·show Act.put _ (some 34) _ = _
       simp only [Act.put, List.setIfInBounds_toArray, List.set_cons_zero, List.set_cons_succ, i64_w, i32_w]
       rfl
      refine one_ (i := 6) (N := some 36) #[true, true, true, true, true, true, true, false] rfl rfl (one_of HT_.out (by kernel_rfl)) (by decide) (fun K hK => ?_)
      refine goes_ Try.func25 (by kernel_rfl) rfl #[.agg #[.int .i64 a0_0, .int .i64 a0_1, .int .i64 a0_2, .int .i64 a0_3, .int .i64 a0_4, .int .i64 a0_5, .int .i64 a0_6, .int .i64 a0_7, .int .i64 a0_8, .int .i64 a0_9], .agg #[.int .i64 t228, .slice Ao35 t229.length co35], .int .i64 a3] (by rfl) rfl rfl (by (try simp only [List.map_toArray, List.map_cons, List.map_nil]); first | done | rfl | (simp only [List.length_drop, List.length_take]; rfl)) ?_
      with_reducible refine (reeveref08_May.calls k1 a0_0 a0_1 a0_2 a0_3 a0_4 a0_5 a0_6 a0_7 a0_8 a0_9 t228 _ _ t229 a3 false _ ?side1 ?side2 A21.out).mono ?_
      (case side1 => repeat (first | exact (Kd.R_reads' HO231.out).2.2 | (with_reducible refine Kd.C_alloc ?_ _) | (with_reducible refine Kd.C_drewN ?_ _) | (with_reducible refine Kd.C_drew ?_)))
      (case side2 => exact (Kd.R_reads' HO231.out).2.1)
      rintro e w36 ⟨rfl, hb⟩
      refine ⟨_, rfl, ?_⟩
      have n0_ := Aside0.mk (Kd.R_below (by (with_reducible repeat (first | apply Kd.R_alloc | apply Kd.R_drewN | apply Kd.R_drew)); exact HO_222001.out) hb)
      have n1_ := Aside0.mk (Kd.R_below (by (with_reducible repeat (first | apply Kd.R_alloc | apply Kd.R_drewN | apply Kd.R_drew)); exact HO231.out) hb)
      have n2_ := Aside0.mk (blk_below (g := gb220) (o := .cells #[.int .i64 a0_0, .int .i64 a0_1, .int .i64 a0_2, .int .i64 a0_3, .int .i64 a0_4, .int .i64 a0_5, .int .i64 a0_6, .int .i64 a0_7, .int .i64 a0_8, .int .i64 a0_9] 23 (0, 0)) (by (with_reducible repeat (first | refine blk_drewN ?_ _ | refine blk_drew ?_ | refine blk_alloc ?_ _)); exact BK220.out) hb)
      have n3_ := Aside0.mk (blk_below (g := gb221) (o := .cells #[.int .i64 t224, .slice Ao18 t225.length co18] 26 (0, 0)) (by (with_reducible repeat (first | refine blk_drewN ?_ _ | refine blk_drew ?_ | refine blk_alloc ?_ _)); exact BK221.out) hb)
      have n4_ := Aside0.mk (below_step (by repeat (first | (with_reducible first | exact HB.out | apply below_alloc | apply pw_below_drewN | apply below_drew1 | refine below_set ?_ GE220.out | refine below_set ?_ GE221.out) | exact HB.out)) hb)
      clear HO_222001
      clear HO231
      clear BK220
      clear BK221
      clear HB
      have HO_222001 := n0_
      have HO231 := n1_
      have BK220 := n2_
      have BK221 := n3_
      have HB := n4_
      clear n0_ n1_ n2_ n3_ n4_
      (try clear hb)
      (try clear hb2)
      (try clear hk)
      (try clear hi)
      refine hK.out _ _ ⟨(blk_cell BK220.out 0).trans rfl, (blk_cell BK220.out 1).trans rfl, (blk_cell BK220.out 2).trans rfl, (blk_cell BK220.out 3).trans rfl, (blk_cell BK220.out 4).trans rfl, (blk_cell BK220.out 5).trans rfl, (blk_cell BK220.out 6).trans rfl, (blk_cell BK220.out 7).trans rfl, (blk_cell BK220.out 8).trans rfl, (blk_cell BK220.out 9).trans rfl, (blk_cell BK221.out 0).trans rfl, (blk_cell BK221.out 1).trans rfl⟩ (fun hHeld => ?_)
      clear hK K
      refine norm_ (a' := ?_) ?_ ?_
      rotate_left
      ·show Act.put _ (some 36) _ = _
       simp only [Act.put, List.setIfInBounds_toArray, List.set_cons_zero, List.set_cons_succ, i64_w, i32_w]
       rfl
      refine pure_ (i := 7) (N := some 12) (v := ?_) (a' := ?_) #[true, true, true, true, true, true, true, true] rfl rfl (any_of HT_.out (by kernel_rfl)) (fun _ _ _ h => h) (Or.inl ⟨by rfl, ?_⟩) ?_ ?_
      rotate_left
      ·intro w'
       go_simp
       with_reducible rfl
      rotate_left
      ·simp only [Act.put, List.setIfInBounds_toArray, List.set_cons_zero, List.set_cons_succ, i64_w, i32_w]
       rfl
      refine done_ (done_of HT_.out (by kernel_rfl)) ?_
      have hcz37_0 : w36.cell? ⟨gb220, 0, none⟩ = some (.int .i64 a0_0) := (blk_cell BK220.out 0).trans rfl
      have hcz37_1 : w36.cell? ⟨gb220, 1, none⟩ = some (.int .i64 a0_1) := (blk_cell BK220.out 1).trans rfl
      have hcz37_2 : w36.cell? ⟨gb220, 2, none⟩ = some (.int .i64 a0_2) := (blk_cell BK220.out 2).trans rfl
      have hcz37_3 : w36.cell? ⟨gb220, 3, none⟩ = some (.int .i64 a0_3) := (blk_cell BK220.out 3).trans rfl
      have hcz37_4 : w36.cell? ⟨gb220, 4, none⟩ = some (.int .i64 a0_4) := (blk_cell BK220.out 4).trans rfl
      have hcz37_5 : w36.cell? ⟨gb220, 5, none⟩ = some (.int .i64 a0_5) := (blk_cell BK220.out 5).trans rfl
      have hcz37_6 : w36.cell? ⟨gb220, 6, none⟩ = some (.int .i64 a0_6) := (blk_cell BK220.out 6).trans rfl
      have hcz37_7 : w36.cell? ⟨gb220, 7, none⟩ = some (.int .i64 a0_7) := (blk_cell BK220.out 7).trans rfl
      have hcz37_8 : w36.cell? ⟨gb220, 8, none⟩ = some (.int .i64 a0_8) := (blk_cell BK220.out 8).trans rfl
      have hcz37_9 : w36.cell? ⟨gb220, 9, none⟩ = some (.int .i64 a0_9) := (blk_cell BK220.out 9).trans rfl
      have hfz37_0 := blk_frozen BK220.out 0
      have hfz37_1 := blk_frozen BK220.out 1
      have hfz37_2 := blk_frozen BK220.out 2
      have hfz37_3 := blk_frozen BK220.out 3
      have hfz37_4 := blk_frozen BK220.out 4
      have hfz37_5 := blk_frozen BK220.out 5
      have hfz37_6 := blk_frozen BK220.out 6
      have hfz37_7 := blk_frozen BK220.out 7
      have hfz37_8 := blk_frozen BK220.out 8
      have hfz37_9 := blk_frozen BK220.out 9
      go_upto_if 46 with (first | ((with_reducible refine gate_callee (f := 26) rfl ?_); refine goesL_ (some 41) rfl rfl Try.func26 (by kernel_rfl) rfl #[.agg #[.int .i64 a0_0, .int .i64 a0_1, .int .i64 a0_2, .int .i64 a0_3, .int .i64 a0_4, .int .i64 a0_5, .int .i64 a0_6, .int .i64 a0_7, .int .i64 a0_8, .int .i64 a0_9], .int .i64 x10_1] rfl (by (try simp only [List.map_toArray, List.map_cons, List.map_nil]); first | done | rfl | (simp only [List.length_drop, List.length_take]; rfl)) ?_; (with_reducible refine (reeveref08_Grid.calls a0_0 a0_1 a0_2 a0_3 a0_4 a0_5 a0_6 a0_7 a0_8 a0_9 x10_1 t233 _ A29.out).mono ?_); rintro e w38 ⟨rfl, hb⟩; refine ⟨_, rfl, ?_⟩; have n0_ := Aside0.mk (Kd.R_below (by (with_reducible repeat (first | apply Kd.R_alloc | apply Kd.R_drewN | apply Kd.R_drew)); exact HO_222001.out) hb); have n1_ := Aside0.mk (Kd.R_below (by (with_reducible repeat (first | apply Kd.R_alloc | apply Kd.R_drewN | apply Kd.R_drew)); exact HO231.out) hb); have n2_ := Aside0.mk (blk_below (g := gb220) (o := .cells #[.int .i64 a0_0, .int .i64 a0_1, .int .i64 a0_2, .int .i64 a0_3, .int .i64 a0_4, .int .i64 a0_5, .int .i64 a0_6, .int .i64 a0_7, .int .i64 a0_8, .int .i64 a0_9] 23 (0, 0)) (by (with_reducible repeat (first | refine blk_drewN ?_ _ | refine blk_drew ?_ | refine blk_alloc ?_ _)); exact BK220.out) hb); have n3_ := Aside0.mk (blk_below (g := gb221) (o := .cells #[.int .i64 t224, .slice Ao18 t225.length co18] 26 (0, 0)) (by (with_reducible repeat (first | refine blk_drewN ?_ _ | refine blk_drew ?_ | refine blk_alloc ?_ _)); exact BK221.out) hb); have n4_ := Aside0.mk (below_step (by repeat (first | (with_reducible first | exact HB.out | apply below_alloc | apply pw_below_drewN | apply below_drew1 | refine below_set ?_ GE220.out | refine below_set ?_ GE221.out) | exact HB.out)) hb); clear HO_222001; clear HO231; clear BK220; clear BK221; clear HB; have HO_222001 := n0_; have HO231 := n1_; have BK220 := n2_; have BK221 := n3_; have HB := n4_; clear n0_ n1_ n2_ n3_ n4_; (try clear hb); (try clear hb2); (try clear hk); (try clear hi); have hcz39_0 : w38.cell? ⟨gb221, 0, none⟩ = some (.int .i64 t224) := (blk_cell BK221.out 0).trans rfl; have hcz39_1 : w38.cell? ⟨gb221, 1, none⟩ = some (.slice Ao18 t225.length co18) := (blk_cell BK221.out 1).trans rfl; have hfz39_0 := blk_frozen BK221.out 0; have hfz39_1 := blk_frozen BK221.out 1))
      (try simp only [Act.put, List.setIfInBounds_toArray, List.set_cons_zero, List.set_cons_succ])
      go_cut [13] (fun v13 wc => ∃ (kq : Nat) (x13_29 : Int), v13 = .int .i64 x13_29 ∧ Aside0 (reeveref08_When.j1 kq a3 x11_1 x13_29 a0_0 a0_1 a0_2 a0_3 a0_4 a0_5 a0_6 a0_7 a0_8 a0_9 t224 t225 = some r) ∧ Aside0 (kq ≤ k1) ∧ Aside0 (Kd.R (Kd.int .i64) 3 wc w.heap.size (fun _ => True) (.slice Ao18 t225.length co18) t225) ∧ Aside0 (wc.heap[gb220]? = some (.cells #[.int .i64 a0_0, .int .i64 a0_1, .int .i64 a0_2, .int .i64 a0_3, .int .i64 a0_4, .int .i64 a0_5, .int .i64 a0_6, .int .i64 a0_7, .int .i64 a0_8, .int .i64 a0_9] 23 (0, 0))) ∧ Aside0 (wc.heap[gb221]? = some (.cells #[.int .i64 t224, (.slice Ao18 t225.length co18)] 26 (0, 0))) ∧ Aside0 (Below w.heap.size w wc))
      case first =>
       have H := HC30.out
       clear HC30
       by_cases c40 : (wrap64 (t233 + 1)) ≤ t224
       ·rw [if_pos c40] at H
        have c40b0 : decide ((wrap64 (t233 + 1)) ≤ t224) = true := decide_eq_true c40
        clear c40
        (first | rw [c40b0] | (simp only [i64_w, i32_w]; rw [c40b0]) | skip)
        have H' := Aside0.mk H
        clear H
        have hnb41 := NB221_220.out
        have hnc41 := NB220_221.out
        have hcz42_0 : w38.cell? ⟨gb221, 0, none⟩ = some (.int .i64 t224) := (blk_cell BK221.out 0).trans rfl
        have hcz42_1 : w38.cell? ⟨gb221, 1, none⟩ = some (.slice Ao18 t225.length co18) := (blk_cell BK221.out 1).trans rfl
        have hfz42_0 := blk_frozen BK221.out 0
        have hfz42_1 := blk_frozen BK221.out 1
        go_wp2
        go_meet
        case rel => exact ⟨_, (wrap64 (t224 + 1)), (by first | rfl | (simp; done) | (simp [*]; done) | (simp [Int.tdiv_eq_ediv_of_nonneg]; done)), H', ⟨by have := HK1.out; first | omega | exact Nat.le_refl _⟩, ⟨by (with_reducible repeat (first | apply Kd.R_alloc | apply Kd.R_drewN | apply Kd.R_drew)); exact Kd.R_mono HO_222001.out (fun _ hk => trivial)⟩, ⟨by (with_reducible repeat (first | refine blk_drewN ?_ _ | refine blk_drew ?_ | refine blk_alloc ?_ _)); exact BK220.out⟩, ⟨by (with_reducible repeat (first | refine blk_drewN ?_ _ | refine blk_drew ?_ | refine blk_alloc ?_ _)); exact BK221.out⟩, ⟨by repeat (first | (with_reducible first | exact HB.out | apply below_alloc | apply pw_below_drewN | apply below_drew1 | refine below_set ?_ GE220.out | refine below_set ?_ GE221.out) | exact HB.out)⟩⟩
       ·rw [if_neg c40] at H
        have c40b0 : decide ((wrap64 (t233 + 1)) ≤ t224) = false := decide_eq_false c40
        clear c40
        (first | rw [c40b0] | (simp only [i64_w, i32_w]; rw [c40b0]) | skip)
        have H' := Aside0.mk H
        clear H
        go_wp2
        go_meet
        case rel => exact ⟨_, (wrap64 (t233 + 1)), (by first | rfl | (simp; done) | (simp [*]; done) | (simp [Int.tdiv_eq_ediv_of_nonneg]; done)), H', ⟨by have := HK1.out; first | omega | exact Nat.le_refl _⟩, ⟨by (with_reducible repeat (first | apply Kd.R_alloc | apply Kd.R_drewN | apply Kd.R_drew)); exact Kd.R_mono HO_222001.out (fun _ hk => trivial)⟩, ⟨by (with_reducible repeat (first | refine blk_drewN ?_ _ | refine blk_drew ?_ | refine blk_alloc ?_ _)); exact BK220.out⟩, ⟨by (with_reducible repeat (first | refine blk_drewN ?_ _ | refine blk_drew ?_ | refine blk_alloc ?_ _)); exact BK221.out⟩, ⟨by repeat (first | (with_reducible first | exact HB.out | apply below_alloc | apply pw_below_drewN | apply below_drew1 | refine below_set ?_ GE220.out | refine below_set ?_ GE221.out) | exact HB.out)⟩⟩
      case rest =>
       clear HC30
       try clear c1
       try clear c2
       try clear p2
       try clear c3
       try clear c4
       try clear c6
       try clear p6
       try clear c11
       try clear c19
       try clear c19b0
       try clear c20
       try clear c22
       try clear c23
       try clear c25
       try clear c26
       try clear c28
       try clear c31
       try clear c36
       try clear c37
       try clear c38
       try clear c40
       try clear c40b0
       try clear c41
       try clear hcz12_0
       try clear hcz12_1
       try clear hcz12_2
       try clear hcz12_3
       try clear hcz12_4
       try clear hcz12_5
       try clear hcz12_6
       try clear hcz12_7
       try clear hcz12_8
       try clear hcz12_9
       try clear hcz14_0
       try clear hcz14_1
       try clear hcz14_2
       try clear hcz14_3
       try clear hcz14_4
       try clear hcz14_5
       try clear hcz14_6
       try clear hcz14_7
       try clear hcz14_8
       try clear hcz14_9
       try clear hcz15_0
       try clear hcz15_1
       try clear hcz17_0
       try clear hcz17_1
       try clear hcz24_0
       try clear hcz24_1
       try clear hcz24_2
       try clear hcz24_3
       try clear hcz24_4
       try clear hcz24_5
       try clear hcz24_6
       try clear hcz24_7
       try clear hcz24_8
       try clear hcz24_9
       try clear hcz32_0
       try clear hcz32_1
       try clear hcz32_2
       try clear hcz32_3
       try clear hcz32_4
       try clear hcz32_5
       try clear hcz32_6
       try clear hcz32_7
       try clear hcz32_8
       try clear hcz32_9
       try clear hcz37_0
       try clear hcz37_1
       try clear hcz37_2
       try clear hcz37_3
       try clear hcz37_4
       try clear hcz37_5
       try clear hcz37_6
       try clear hcz37_7
       try clear hcz37_8
       try clear hcz37_9
       try clear hcz39_0
       try clear hcz39_1
       try clear hcz42_0
       try clear hcz42_1
       try clear hfz12_0
       try clear hfz12_1
       try clear hfz12_2
       try clear hfz12_3
       try clear hfz12_4
       try clear hfz12_5
       try clear hfz12_6
       try clear hfz12_7
       try clear hfz12_8
       try clear hfz12_9
       try clear hfz14_0
       try clear hfz14_1
       try clear hfz14_2
       try clear hfz14_3
       try clear hfz14_4
       try clear hfz14_5
       try clear hfz14_6
       try clear hfz14_7
       try clear hfz14_8
       try clear hfz14_9
       try clear hfz15_0
       try clear hfz15_1
       try clear hfz17_0
       try clear hfz17_1
       try clear hfz24_0
       try clear hfz24_1
       try clear hfz24_2
       try clear hfz24_3
       try clear hfz24_4
       try clear hfz24_5
       try clear hfz24_6
       try clear hfz24_7
       try clear hfz24_8
       try clear hfz24_9
       try clear hfz32_0
       try clear hfz32_1
       try clear hfz32_2
       try clear hfz32_3
       try clear hfz32_4
       try clear hfz32_5
       try clear hfz32_6
       try clear hfz32_7
       try clear hfz32_8
       try clear hfz32_9
       try clear hfz37_0
       try clear hfz37_1
       try clear hfz37_2
       try clear hfz37_3
       try clear hfz37_4
       try clear hfz37_5
       try clear hfz37_6
       try clear hfz37_7
       try clear hfz37_8
       try clear hfz37_9
       try clear hfz39_0
       try clear hfz39_1
       try clear hfz42_0
       try clear hfz42_1
       try clear p2
       obtain ⟨kq, x13_29, rfl, HA, HJ29, HO_222001, BK220, BK221, HB⟩ := hcut
       cases kq with
       | zero => exact absurd HA.out (by simp [reeveref08_When.j1])
       | succ kj29 =>
        have H := HA.out
        clear HA
        simp only [reeveref08_When.j1] at H
        by_cases c43 : (wrap64 (x13_29 * a0_4)) > 1099511627776
        ·rw [if_pos c43] at H
         have c43b0 : decide (1099511627776 < (wrap64 (x13_29 * a0_4))) = true := decide_eq_true c43
         clear c43
         obtain rfl := Option.some.inj H
         have hnb44 := NB220_221.out
         have hnc44 := NB221_220.out
         have hcz45_0 : wc.cell? ⟨gb220, 0, none⟩ = some (.int .i64 a0_0) := (blk_cell BK220.out 0).trans rfl
         have hcz45_1 : wc.cell? ⟨gb220, 1, none⟩ = some (.int .i64 a0_1) := (blk_cell BK220.out 1).trans rfl
         have hcz45_2 : wc.cell? ⟨gb220, 2, none⟩ = some (.int .i64 a0_2) := (blk_cell BK220.out 2).trans rfl
         have hcz45_3 : wc.cell? ⟨gb220, 3, none⟩ = some (.int .i64 a0_3) := (blk_cell BK220.out 3).trans rfl
         have hcz45_4 : wc.cell? ⟨gb220, 4, none⟩ = some (.int .i64 a0_4) := (blk_cell BK220.out 4).trans rfl
         have hcz45_5 : wc.cell? ⟨gb220, 5, none⟩ = some (.int .i64 a0_5) := (blk_cell BK220.out 5).trans rfl
         have hcz45_6 : wc.cell? ⟨gb220, 6, none⟩ = some (.int .i64 a0_6) := (blk_cell BK220.out 6).trans rfl
         have hcz45_7 : wc.cell? ⟨gb220, 7, none⟩ = some (.int .i64 a0_7) := (blk_cell BK220.out 7).trans rfl
         have hcz45_8 : wc.cell? ⟨gb220, 8, none⟩ = some (.int .i64 a0_8) := (blk_cell BK220.out 8).trans rfl
         have hcz45_9 : wc.cell? ⟨gb220, 9, none⟩ = some (.int .i64 a0_9) := (blk_cell BK220.out 9).trans rfl
         have hfz45_0 := blk_frozen BK220.out 0
         have hfz45_1 := blk_frozen BK220.out 1
         have hfz45_2 := blk_frozen BK220.out 2
         have hfz45_3 := blk_frozen BK220.out 3
         have hfz45_4 := blk_frozen BK220.out 4
         have hfz45_5 := blk_frozen BK220.out 5
         have hfz45_6 := blk_frozen BK220.out 6
         have hfz45_7 := blk_frozen BK220.out 7
         have hfz45_8 := blk_frozen BK220.out 8
         have hfz45_9 := blk_frozen BK220.out 9
         go_wp2
         go_ret
         exact ⟨by first | rfl | (simp only [i64_w] <;> rfl) | (simp [errW_none, errW_some] <;> rfl) | (simp [*, errW_none, errW_some] <;> rfl), by repeat (first | (with_reducible first | exact HB.out | apply below_alloc | apply pw_below_drewN | apply below_drew1 | refine below_set ?_ GE220.out | refine below_set ?_ GE221.out) | exact HB.out)⟩
        ·rw [if_neg c43] at H
         have c43b0 : decide (1099511627776 < (wrap64 (x13_29 * a0_4))) = false := decide_eq_false c43
         clear c43
         have H' := Aside0.mk H
         clear H
         have hnb46 := NB220_221.out
         have hnc46 := NB221_220.out
         have hcz47_0 : wc.cell? ⟨gb220, 0, none⟩ = some (.int .i64 a0_0) := (blk_cell BK220.out 0).trans rfl
         have hcz47_1 : wc.cell? ⟨gb220, 1, none⟩ = some (.int .i64 a0_1) := (blk_cell BK220.out 1).trans rfl
         have hcz47_2 : wc.cell? ⟨gb220, 2, none⟩ = some (.int .i64 a0_2) := (blk_cell BK220.out 2).trans rfl
         have hcz47_3 : wc.cell? ⟨gb220, 3, none⟩ = some (.int .i64 a0_3) := (blk_cell BK220.out 3).trans rfl
         have hcz47_4 : wc.cell? ⟨gb220, 4, none⟩ = some (.int .i64 a0_4) := (blk_cell BK220.out 4).trans rfl
         have hcz47_5 : wc.cell? ⟨gb220, 5, none⟩ = some (.int .i64 a0_5) := (blk_cell BK220.out 5).trans rfl
         have hcz47_6 : wc.cell? ⟨gb220, 6, none⟩ = some (.int .i64 a0_6) := (blk_cell BK220.out 6).trans rfl
         have hcz47_7 : wc.cell? ⟨gb220, 7, none⟩ = some (.int .i64 a0_7) := (blk_cell BK220.out 7).trans rfl
         have hcz47_8 : wc.cell? ⟨gb220, 8, none⟩ = some (.int .i64 a0_8) := (blk_cell BK220.out 8).trans rfl
         have hcz47_9 : wc.cell? ⟨gb220, 9, none⟩ = some (.int .i64 a0_9) := (blk_cell BK220.out 9).trans rfl
         have hfz47_0 := blk_frozen BK220.out 0
         have hfz47_1 := blk_frozen BK220.out 1
         have hfz47_2 := blk_frozen BK220.out 2
         have hfz47_3 := blk_frozen BK220.out 3
         have hfz47_4 := blk_frozen BK220.out 4
         have hfz47_5 := blk_frozen BK220.out 5
         have hfz47_6 := blk_frozen BK220.out 6
         have hfz47_7 := blk_frozen BK220.out 7
         have hfz47_8 := blk_frozen BK220.out 8
         have hfz47_9 := blk_frozen BK220.out 9
         go_wp2
         go_roundg kj29
         case measure => have := HK1.out; have := HJ29.out; omega
         case rel => exact ⟨(wrap64 (x13_29 * a0_4)), (wrap64 (x11_1 + 1)), (by first | rfl | (simp; done) | (simp [*]; done) | (simp [Int.tdiv_eq_ediv_of_nonneg]; done)), (by first | rfl | (simp; done) | (simp [*]; done) | (simp [Int.tdiv_eq_ediv_of_nonneg]; done)), H', ⟨by have := HK1.out; have := HJ29.out; omega⟩, ⟨by (with_reducible repeat (first | apply Kd.R_alloc | apply Kd.R_drewN | apply Kd.R_drew)); exact HO_222001.out⟩, ⟨by (with_reducible repeat (first | refine blk_drewN ?_ _ | refine blk_drew ?_ | refine blk_alloc ?_ _)); exact BK220.out⟩, ⟨by (with_reducible repeat (first | refine blk_drewN ?_ _ | refine blk_drew ?_ | refine blk_alloc ?_ _)); exact BK221.out⟩, ⟨by repeat (first | (with_reducible first | exact HB.out | apply below_alloc | apply pw_below_drewN | apply below_drew1 | refine below_set ?_ GE220.out | refine below_set ?_ GE221.out) | exact HB.out)⟩⟩
    ·rw [if_neg c19] at H
     have c19b0 : decide (x11_1 ≤ (wrap64 (a0_5 + 1))) = false := decide_eq_false c19
     clear c19
     obtain rfl := Option.some.inj H
     have hnb48 := NB220_221.out
     have hnc48 := NB221_220.out
     have hcz49_0 : wr.cell? ⟨gb220, 0, none⟩ = some (.int .i64 a0_0) := (blk_cell BK220.out 0).trans rfl
     have hcz49_1 : wr.cell? ⟨gb220, 1, none⟩ = some (.int .i64 a0_1) := (blk_cell BK220.out 1).trans rfl
     have hcz49_2 : wr.cell? ⟨gb220, 2, none⟩ = some (.int .i64 a0_2) := (blk_cell BK220.out 2).trans rfl
     have hcz49_3 : wr.cell? ⟨gb220, 3, none⟩ = some (.int .i64 a0_3) := (blk_cell BK220.out 3).trans rfl
     have hcz49_4 : wr.cell? ⟨gb220, 4, none⟩ = some (.int .i64 a0_4) := (blk_cell BK220.out 4).trans rfl
     have hcz49_5 : wr.cell? ⟨gb220, 5, none⟩ = some (.int .i64 a0_5) := (blk_cell BK220.out 5).trans rfl
     have hcz49_6 : wr.cell? ⟨gb220, 6, none⟩ = some (.int .i64 a0_6) := (blk_cell BK220.out 6).trans rfl
     have hcz49_7 : wr.cell? ⟨gb220, 7, none⟩ = some (.int .i64 a0_7) := (blk_cell BK220.out 7).trans rfl
     have hcz49_8 : wr.cell? ⟨gb220, 8, none⟩ = some (.int .i64 a0_8) := (blk_cell BK220.out 8).trans rfl
     have hcz49_9 : wr.cell? ⟨gb220, 9, none⟩ = some (.int .i64 a0_9) := (blk_cell BK220.out 9).trans rfl
     have hfz49_0 := blk_frozen BK220.out 0
     have hfz49_1 := blk_frozen BK220.out 1
     have hfz49_2 := blk_frozen BK220.out 2
     have hfz49_3 := blk_frozen BK220.out 3
     have hfz49_4 := blk_frozen BK220.out 4
     have hfz49_5 := blk_frozen BK220.out 5
     have hfz49_6 := blk_frozen BK220.out 6
     have hfz49_7 := blk_frozen BK220.out 7
     have hfz49_8 := blk_frozen BK220.out 8
     have hfz49_9 := blk_frozen BK220.out 9
     go_wp2
     go_ret
     exact ⟨by first | rfl | (simp only [i64_w] <;> rfl) | (simp [errW_none, errW_some] <;> rfl) | (simp [*, errW_none, errW_some] <;> rfl), by repeat (first | (with_reducible first | exact HB.out | apply below_alloc | apply pw_below_drewN | apply below_drew1 | refine below_set ?_ GE220.out | refine below_set ?_ GE221.out) | exact HB.out)⟩
 ·replace c6 := Bool.eq_false_iff.mpr c6
  subst c6
  have H1 : (some (-1)) = some r := by rw [if_neg (show ¬ (false = true) by decide)] at H; exact H
  clear H
  have H := H1
  clear H1
  obtain rfl := Option.some.inj H
  go_enter Try.func28, Try.ntmps28
  go_wp2_with (first | ((with_reducible refine gate_dst (N := 4) rfl ?_); refine box_event ?hg (N := 4) ?hd (cs := #[.int .i64 a0_0, .int .i64 a0_1, .int .i64 a0_2, .int .i64 a0_3, .int .i64 a0_4, .int .i64 a0_5, .int .i64 a0_6, .int .i64 a0_7, .int .i64 a0_8, .int .i64 a0_9]) (t := 23) ?hr ?_; (case hd => rfl); (case hg => rfl); (case hr => first | (go_simp; done) | (go_simp; rfl)); intro gb220 hg w50 hbox hb; have n0_ := Aside0.mk (below_step (by repeat (first | (with_reducible first | exact HB.out | apply below_alloc | apply pw_below_drewN | apply below_drew1) | exact HB.out)) hb); have n1_ := Aside0.mk (hbox); have n2_ := Aside0.mk ((by rw [hg]; exact (below_size (by repeat (first | (with_reducible first | exact HB.out | apply below_alloc | apply pw_below_drewN | apply below_drew1) | exact HB.out))) : w.heap.size ≤ gb220)); have n3_ := Aside0.mk ((by rw [hg]; exact (below_size (by repeat (first | (with_reducible first | exact HB.out | apply below_alloc | apply pw_below_drewN | apply below_drew1) | exact HB.out))) : w.heap.size ≤ gb220)); clear HB; have HB := n0_; have BK220 := n1_; have GW220 := n2_; have GE220 := n3_; clear n0_ n1_ n2_ n3_; clear hb hbox hg) | ((with_reducible refine gate_dst (N := 5) rfl ?_); refine box_event ?hg (N := 5) ?hd (cs := #[.int .i64 a1_0, .slice A1_1 l1_1.length c1_1]) (t := 26) ?hr ?_; (case hd => rfl); (case hg => rfl); (case hr => first | (go_simp; done) | (go_simp; rfl)); intro gb221 hg w51 hbox hb; have n0_ := Aside0.mk (blk_below (g := gb220) (o := .cells #[.int .i64 a0_0, .int .i64 a0_1, .int .i64 a0_2, .int .i64 a0_3, .int .i64 a0_4, .int .i64 a0_5, .int .i64 a0_6, .int .i64 a0_7, .int .i64 a0_8, .int .i64 a0_9] 23 (0, 0)) (by (with_reducible repeat (first | refine blk_drewN ?_ _ | refine blk_drew ?_ | refine blk_alloc ?_ _)); exact BK220.out) hb); have n1_ := Aside0.mk (below_step (by repeat (first | (with_reducible first | exact HB.out | apply below_alloc | apply pw_below_drewN | apply below_drew1 | refine below_set ?_ GE220.out) | exact HB.out)) hb); have n2_ := Aside0.mk (hbox); have n3_ := Aside0.mk ((by rw [hg]; exact (below_size (by repeat (first | (with_reducible first | exact HB.out | apply below_alloc | apply pw_below_drewN | apply below_drew1 | refine below_set ?_ GE220.out) | exact HB.out))) : w.heap.size ≤ gb221)); have n4_ := Aside0.mk ((by rw [hg]; exact (below_size (by repeat (first | (with_reducible first | exact HB.out | apply below_alloc | apply pw_below_drewN | apply below_drew1 | refine below_set ?_ GE220.out) | exact HB.out))) : w.heap.size ≤ gb221)); have n5_ := Aside0.mk ((by rw [hg]; exact Nat.ne_of_lt (blk_lt (g := gb220) (o := .cells #[.int .i64 a0_0, .int .i64 a0_1, .int .i64 a0_2, .int .i64 a0_3, .int .i64 a0_4, .int .i64 a0_5, .int .i64 a0_6, .int .i64 a0_7, .int .i64 a0_8, .int .i64 a0_9] 23 (0, 0)) (by (with_reducible repeat (first | refine blk_drewN ?_ _ | refine blk_drew ?_ | refine blk_alloc ?_ _)); exact BK220.out)) : gb220 ≠ gb221)); have n6_ := Aside0.mk ((by rw [hg]; exact Nat.ne_of_gt (blk_lt (g := gb220) (o := .cells #[.int .i64 a0_0, .int .i64 a0_1, .int .i64 a0_2, .int .i64 a0_3, .int .i64 a0_4, .int .i64 a0_5, .int .i64 a0_6, .int .i64 a0_7, .int .i64 a0_8, .int .i64 a0_9] 23 (0, 0)) (by (with_reducible repeat (first | refine blk_drewN ?_ _ | refine blk_drew ?_ | refine blk_alloc ?_ _)); exact BK220.out)) : gb221 ≠ gb220)); clear BK220; clear HB; have BK220 := n0_; have HB := n1_; have BK221 := n2_; have GW221 := n3_; have GE221 := n4_; have NB220_221 := n5_; have NB221_220 := n6_; clear n0_ n1_ n2_ n3_ n4_ n5_ n6_; clear hb hbox hg; have hnb52 := NB220_221.out; have hnc52 := NB221_220.out; have hcz53_0 : w51.cell? ⟨gb220, 0, none⟩ = some (.int .i64 a0_0) := (blk_cell BK220.out 0).trans rfl; have hcz53_1 : w51.cell? ⟨gb220, 1, none⟩ = some (.int .i64 a0_1) := (blk_cell BK220.out 1).trans rfl; have hcz53_2 : w51.cell? ⟨gb220, 2, none⟩ = some (.int .i64 a0_2) := (blk_cell BK220.out 2).trans rfl; have hcz53_3 : w51.cell? ⟨gb220, 3, none⟩ = some (.int .i64 a0_3) := (blk_cell BK220.out 3).trans rfl; have hcz53_4 : w51.cell? ⟨gb220, 4, none⟩ = some (.int .i64 a0_4) := (blk_cell BK220.out 4).trans rfl; have hcz53_5 : w51.cell? ⟨gb220, 5, none⟩ = some (.int .i64 a0_5) := (blk_cell BK220.out 5).trans rfl; have hcz53_6 : w51.cell? ⟨gb220, 6, none⟩ = some (.int .i64 a0_6) := (blk_cell BK220.out 6).trans rfl; have hcz53_7 : w51.cell? ⟨gb220, 7, none⟩ = some (.int .i64 a0_7) := (blk_cell BK220.out 7).trans rfl; have hcz53_8 : w51.cell? ⟨gb220, 8, none⟩ = some (.int .i64 a0_8) := (blk_cell BK220.out 8).trans rfl; have hcz53_9 : w51.cell? ⟨gb220, 9, none⟩ = some (.int .i64 a0_9) := (blk_cell BK220.out 9).trans rfl; have hfz53_0 := blk_frozen BK220.out 0; have hfz53_1 := blk_frozen BK220.out 1; have hfz53_2 := blk_frozen BK220.out 2; have hfz53_3 := blk_frozen BK220.out 3; have hfz53_4 := blk_frozen BK220.out 4; have hfz53_5 := blk_frozen BK220.out 5; have hfz53_6 := blk_frozen BK220.out 6; have hfz53_7 := blk_frozen BK220.out 7; have hfz53_8 := blk_frozen BK220.out 8; have hfz53_9 := blk_frozen BK220.out 9) | ((with_reducible refine gate_callee (f := 36) rfl ?_); refine goesL_ (some 15) rfl rfl Try.func36 (by kernel_rfl) rfl #[.agg #[.int .i64 a0_0, .int .i64 a0_1, .int .i64 a0_2, .int .i64 a0_3, .int .i64 a0_4, .int .i64 a0_5, .int .i64 a0_6, .int .i64 a0_7, .int .i64 a0_8, .int .i64 a0_9]] rfl (by (try simp only [List.map_toArray, List.map_cons, List.map_nil]); first | done | rfl | (simp only [List.length_drop, List.length_take]; rfl)) ?_; (with_reducible refine (reeveref08_Means.calls a0_0 a0_1 a0_2 a0_3 a0_4 a0_5 a0_6 a0_7 a0_8 a0_9 false _ A5.out).mono ?_); rintro e w54 ⟨rfl, hb⟩; refine ⟨_, rfl, ?_⟩; have n0_ := Aside0.mk (blk_below (g := gb220) (o := .cells #[.int .i64 a0_0, .int .i64 a0_1, .int .i64 a0_2, .int .i64 a0_3, .int .i64 a0_4, .int .i64 a0_5, .int .i64 a0_6, .int .i64 a0_7, .int .i64 a0_8, .int .i64 a0_9] 23 (0, 0)) (by (with_reducible repeat (first | refine blk_drewN ?_ _ | refine blk_drew ?_ | refine blk_alloc ?_ _)); exact BK220.out) hb); have n1_ := Aside0.mk (blk_below (g := gb221) (o := .cells #[.int .i64 a1_0, .slice A1_1 l1_1.length c1_1] 26 (0, 0)) (by (with_reducible repeat (first | refine blk_drewN ?_ _ | refine blk_drew ?_ | refine blk_alloc ?_ _)); exact BK221.out) hb); have n2_ := Aside0.mk (below_step (by repeat (first | (with_reducible first | exact HB.out | apply below_alloc | apply pw_below_drewN | apply below_drew1 | refine below_set ?_ GE220.out | refine below_set ?_ GE221.out) | exact HB.out)) hb); clear BK220; clear BK221; clear HB; have BK220 := n0_; have BK221 := n1_; have HB := n2_; clear n0_ n1_ n2_; (try clear hb); (try clear hb2); (try clear hk); (try clear hi)))
  go_ret
  exact ⟨by first | rfl | (simp only [i64_w] <;> rfl) | (simp [errW_none, errW_some] <;> rfl) | (simp [*, errW_none, errW_some] <;> rfl), by repeat (first | (with_reducible first | exact HB.out | apply below_alloc | apply pw_below_drewN | apply below_drew1 | refine below_set ?_ GE220.out | refine below_set ?_ GE221.out) | exact HB.out)⟩

-- NOT PRINTED: function 8 (reevelaw08_WindowWhen)

end Go.Proofs.YtkcnenekmjgmgaaS
end

section
/- Plain laws of windows: time in two parts is time in one; what may be taken leaves no more than there is room for. -/
namespace Go.Proofs.Ytkcnenekmjgmgaa

theorem zeros_drop (n k : Nat) : (zeros n).drop k = zeros (n - k) := by simp [zeros]
theorem zeros_add (a b : Nat) : zeros a ++ zeros b = zeros (a + b) := by simp [zeros]
theorem shift_shift (l : List Int) (a b : Nat) : shiftL (shiftL l a) b = shiftL l (a + b) := by
  unfold shiftL
  have hl : (l.drop a ++ zeros (min a l.length)).length = l.length := by simp [zeros]; omega
  rw [hl, List.drop_append, List.drop_drop, zeros_drop, List.append_assoc, zeros_add]
  congr 2
  · simp; omega
theorem shift_zero (l : List Int) : shiftL l 0 = l := by simp [shiftL, zeros]
theorem move_move {p : Pol} (hm : meansW p = true) (s : Win) {a b : Int} (h : a ≤ b) : moveP p (moveP p s a) b = moveP p s b := by
  have hg := gridN_mono hm h
  have hx := move_good hm s a
  rw [moveP_yes hm, moveP_yes hm, moveP_yes hm]
  have e : moveN p (moveN p s a) b = if gridN p b ≤ (moveN p s a).g then moveN p s a else ⟨gridN p b, shiftL (moveN p s a).l (gridN p b - (moveN p s a).g).toNat⟩ := by
    show (if gridN p b ≤ (countsN p (moveN p s a)).g then countsN p (moveN p s a) else _) = _
    rw [countsN_self hm hx]
  rw [e]
  unfold moveN
  generalize countsN p s = q
  by_cases h1 : gridN p a ≤ q.g
  · simp only [h1, if_true]
  · have h2 : ¬ gridN p b ≤ q.g := by omega
    simp only [h1, h2, if_false]
    split
    · have : gridN p b = gridN p a := by omega
      rw [this]
    · rw [shift_shift]
      congr 2
      omega

theorem sumN_set (l : List Int) (i : Nat) (v : Int) (h : i < l.length) : sumN (l.set i v) = sumN l - clipI (l.getD i 0) 1099511627776 + clipI v 1099511627776 := by
  induction l generalizing i with
  | nil => simp at h
  | cons x l ih =>
    cases i with
    | zero => simp [sumN]; omega
    | succ i =>
      have := ih i (by simpa using h)
      simp only [List.set_cons_succ, sumN, List.getD_cons_succ]
      omega
theorem take_succ_le (l : List Int) (i : Nat) (h : i < l.length) : clipI (l.getD i 0) 1099511627776 ≤ sumN l := by
  induction l generalizing i with
  | nil => simp at h
  | cons x l ih =>
    have hb := sumN_bound l
    have hx := clipI_bound x (m := 1099511627776) (by omega)
    cases i with
    | zero => simp [sumN]; omega
    | succ i =>
      have := ih i (by simpa using h)
      simp only [sumN, List.getD_cons_succ]
      omega
theorem sumN_mem (l : List Int) (i : Nat) (h : i < l.length) : clipI (l.getD i 0) 1099511627776 ≤ sumN l := by
  have e := take_succ_le l i h
  exact e

theorem take_total {p : Pol} {y : Win} (hm : meansW p = true) (hg : Good p y) {c : Int} (hc : mayW p y c = true) : totalN (takeW p y c) = totalN y + c ∧ totalN y + c ≤ p.cap := by
  have hcap := (meansW_bounds hm).2.1
  have hcc := (meansW_bounds hm).2.2.2
  rw [mayW_good hm hg] at hc
  simp only [Bool.and_eq_true, decide_eq_true_eq] at hc
  have hw := within_iff.1 hc.1
  have hlen := hg.len
  have hlt : y.l.length - 1 < y.l.length := by omega
  have hx := hg.ok _ (getD_mem hlt)
  have hs := sumN_mem y.l _ hlt
  rw [clipI_mid hx.1 hx.2] at hs
  rw [totalN_good hm (takeW_good hm y c), totalN_good hm hg, takeW_yes hm]
  refine ⟨?_, hc.2⟩
  unfold takeN
  rw [if_pos hc.1, countsN_self hm hg]
  show sumN (lastSet y.l c) = _
  unfold lastSet
  rw [sumN_set _ _ _ hlt, clipI_mid hx.1 hx.2]
  have hmin : min (y.l.getD (y.l.length - 1) 0 + c) 1099511627776 = y.l.getD (y.l.length - 1) 0 + c := by omega
  rw [hmin, clipI_mid (by omega) (by omega)]
  omega

end Go.Proofs.Ytkcnenekmjgmgaa
end

section
/- Plain laws: Count buckets later nothing is left; a bucket ahead of that just what was taken last is. -/
namespace Go.Proofs.Ytkcnenekmjgmgaa

theorem grid_at {p : Pol} (hm : meansW p = true) {k : Int} (h0 : 0 ≤ k) (h : k ≤ (1099511627776 : Int).tdiv p.width) : k * p.width ≤ 1099511627776 ∧ gridN p (k * p.width) = k ∧ (1 ≤ k → gridN p (k * p.width - 1) = k - 1) := by
  have hw := (meansW_bounds hm).2.2.1
  have hwp : 0 < p.width := by omega
  rw [Int.tdiv_eq_ediv_of_nonneg (by omega)] at h
  have h1 : k * p.width ≤ 1099511627776 := (Int.le_ediv_iff_mul_le hwp).1 h
  have h2 : 0 ≤ k * p.width := Int.mul_nonneg h0 (by omega)
  refine ⟨h1, ?_, fun hk => ?_⟩
  · unfold gridN
    rw [clipI_mid h2 h1, Int.tdiv_eq_ediv_of_nonneg h2, Int.mul_ediv_cancel _ (by omega)]
  · have h3 : p.width ≤ k * p.width := by
      have := Int.mul_le_mul_of_nonneg_right hk (show 0 ≤ p.width by omega)
      omega
    unfold gridN
    rw [clipI_mid (by omega) (by omega), Int.tdiv_eq_ediv_of_nonneg (by omega)]
    have e : k * p.width - 1 = (p.width - 1) + p.width * (k - 1) := by
      rw [Int.mul_sub, Int.mul_comm p.width k]; omega
    rw [e, Int.add_mul_ediv_left _ _ (by omega), Int.ediv_eq_zero_of_lt (by omega) (by omega)]
    omega

theorem empties_gone {p : Pol} {x : Win} (hm : meansW p = true) (hg : Good p x) (h : x.g + p.count ≤ (1099511627776 : Int).tdiv p.width) : totalN (moveP p x ((x.g + p.count) * p.width)) = 0 := by
  have hcc := (meansW_bounds hm).2.2.2
  have hlo := hg.lo
  have hlen := hg.len
  have hgr := (grid_at hm (by omega) h).2.1
  rw [totalN_good hm (moveP_good hm x _), moveP_yes hm]
  unfold moveN
  rw [countsN_self hm hg, hgr, if_neg (by omega)]
  show sumN (shiftL _ _) = 0
  unfold shiftL
  rw [List.drop_of_length_le (by omega), List.nil_append, sumN_zeros]

theorem drop_last {l : List Int} (h : 0 < l.length) : l.drop (l.length - 1) = [l.getD (l.length - 1) 0] := by
  have hlt : l.length - 1 < l.length := by omega
  rw [List.drop_eq_getElem_cons hlt, List.drop_of_length_le (by omega)]
  simp [hlt]

theorem empties_left {p : Pol} {x : Win} (hm : meansW p = true) (hg : Good p x) (h : x.g + p.count ≤ (1099511627776 : Int).tdiv p.width) :
    totalN (moveP p x ((x.g + p.count) * p.width - 1)) = x.l.getD (x.l.length - 1) 0 := by
  have hcc := (meansW_bounds hm).2.2.2
  have hlo := hg.lo
  have hlen := hg.len
  have hl0 : 0 < x.l.length := by omega
  have hgr := (grid_at hm (show 0 ≤ x.g + p.count by omega) h).2.2 (by omega)
  have hx := hg.ok _ (getD_mem (show x.l.length - 1 < x.l.length by omega))
  rw [totalN_good hm (moveP_good hm x _), moveP_yes hm]
  unfold moveN
  rw [countsN_self hm hg, hgr]
  have key : sumN (shiftL x.l (x.l.length - 1)) = x.l.getD (x.l.length - 1) 0 := by
    unfold shiftL
    rw [drop_last hl0, sumN_append, sumN_zeros]
    simp only [sumN]
    rw [clipI_mid hx.1 hx.2]
    omega
  by_cases h1 : p.count = 1
  · rw [if_pos (by omega)]
    have e1 : x.l.length - 1 = 0 := by omega
    rw [e1, shift_zero] at key
    rw [e1]
    exact key
  · rw [if_neg (by omega)]
    show sumN (shiftL _ _) = _
    rw [show (x.g + p.count - 1 - x.g).toNat = x.l.length - 1 by omega]
    exact key

end Go.Proofs.Ytkcnenekmjgmgaa
end

section
/- When: the first tick at which a cost may be taken, plainly; what both functions answer. -/
namespace Go.Proofs.YtkcnenekmjgmgaaS
open Go.Proofs.YtkcnenekmjgmgaaP
open Go.RowKit Go.Proofs.Ytkcnenekmjgmgaa Go.Proofs.YtkcnenekmjgmgaaW.PrintWords

/-- What is left when k buckets are gone. -/
def lft (l : List Int) (k : Nat) : Int := sumN (l.drop k)
theorem lft_step {l : List Int} {k : Nat} (h : k < l.length) : lft l k = clipI l[k] 1099511627776 + lft l (k + 1) := by
  unfold lft
  rw [List.drop_eq_getElem_cons h]
  rfl
theorem lft_bound (l : List Int) (k : Nat) : 0 ≤ lft l k ∧ lft l k ≤ 1099511627776 * l.length := by
  have h := sumN_bound (l.drop k)
  have h2 : ((l.drop k).length : Int) ≤ l.length := by rw [List.length_drop]; omega
  unfold lft
  omega
theorem lft_end {l : List Int} {k : Nat} (h : l.length ≤ k) : lft l k = 0 := by
  unfold lft
  rw [List.drop_of_length_le h]
  rfl
/-- How many buckets are gone at a tick. -/
def goneN (p : Pol) (c : Win) (t : Int) : Nat := (gridN p t - c.g).toNat
theorem total_at {p : Pol} (hm : meansW p = true) {c : Win} (hg : Go.Proofs.Ytkcnenekmjgmgaa.Good p c) (t : Int) : totalN (countsN p (moveP p c t)) = lft c.l (goneN p c t) := by
  have hmv : moveP p c t = moveN p c t := by simp [moveP, hm]
  have hb := meansW_bounds hm
  rw [hmv, countsN_self hm (move_good hm c t)]
  unfold moveN
  rw [countsN_self hm hg]
  have hlen := hg.len
  by_cases h : gridN p t ≤ c.g
  · rw [if_pos h]
    unfold totalN goneN lft
    rw [if_neg (by omega), show (gridN p t - c.g).toNat = 0 by omega, List.drop_zero]
  · rw [if_neg h]
    unfold totalN goneN lft
    rw [if_neg (by rw [shiftL_length]; omega)]
    unfold shiftL
    rw [sumN_append, sumN_zeros, Int.add_zero]
/-- May it be taken when k buckets are gone? -/
def okK (p : Pol) (c : Win) (cost : Int) (k : Nat) : Bool := decide (lft c.l k + cost ≤ p.cap)
theorem may_at {p : Pol} (hm : meansW p = true) {c : Win} (hg : Go.Proofs.Ytkcnenekmjgmgaa.Good p c) (t cost : Int) : mayW p (moveP p c t) cost = (within cost 1 1048576 && okK p c cost (goneN p c t)) := by
  unfold mayW okK
  rw [hm, total_at hm hg, Bool.true_and]
/-- The least from k on, f looked at. -/
def lst (ok : Nat → Bool) : Nat → Nat → Nat
  | 0, k => k
  | f + 1, k => if ok k then k else lst ok f (k + 1)
theorem lst_ge (ok : Nat → Bool) : ∀ (f k : Nat), k ≤ lst ok f k ∧ lst ok f k ≤ k + f
  | 0, k => ⟨Nat.le_refl _, Nat.le_refl _⟩
  | f + 1, k => by
    have := lst_ge ok f (k + 1)
    unfold lst
    split <;> omega
theorem lst_below (ok : Nat → Bool) : ∀ (f k j : Nat), k ≤ j → j < lst ok f k → ok j = false
  | 0, k, j, h1, h2 => by unfold lst at h2; omega
  | f + 1, k, j, h1, h2 => by
    unfold lst at h2
    by_cases c : ok k = true
    · rw [if_pos c] at h2; omega
    · rw [if_neg c] at h2
      by_cases e : j = k
      · subst e; simpa using c
      · exact lst_below ok f (k + 1) j (by omega) h2
theorem lst_ok (ok : Nat → Bool) : ∀ (f k : Nat), ok (k + f) = true → ok (lst ok f k) = true
  | 0, k, h => h
  | f + 1, k, h => by
    unfold lst
    by_cases c : ok k = true
    · rw [if_pos c]; exact c
    · rw [if_neg c]
      exact lst_ok ok f (k + 1) (by rw [show k + 1 + f = k + (f + 1) by omega]; exact h)
/-- The tick at which bucket g + k begins, if it is one. -/
def endT (p : Pol) (c : Win) (k : Nat) : Int := if (c.g + k) * p.width > 1099511627776 then -1 else (c.g + k) * p.width
/-- The first tick at which a cost may be taken. -/
def whenC (p : Pol) (c : Win) (tick cost : Int) : Int :=
  if within cost 1 1048576 && decide (cost ≤ p.cap) then
    (if okK p c cost (goneN p c tick) then clipI tick 1099511627776 else endT p c (lst (okK p c cost) (c.l.length - goneN p c tick - 1) (goneN p c tick + 1)))
  else -1
def whenP (p : Pol) (s : Win) (tick cost : Int) : Int := if meansW p then whenC p (countsN p s) tick cost else -1
theorem lst_eq (ok : Nat → Bool) : ∀ (f a k : Nat), a ≤ k → k ≤ a + f → (∀ j, a ≤ j → j < k → ok j = false) → ok k = true → lst ok f a = k
  | 0, a, k, h1, h2, _, _ => by unfold lst; omega
  | f + 1, a, k, h1, h2, h3, h4 => by
    unfold lst
    by_cases e : a = k
    · subst e
      rw [if_pos h4]
    · rw [if_neg (by rw [h3 a (Nat.le_refl _) (by omega)]; decide)]
      exact lst_eq ok f (a + 1) k (by omega) (by omega) (fun j hj hk => h3 j (by omega) hk) h4
theorem begin_bound {p : Pol} (hm : meansW p = true) {c : Win} (hg : Go.Proofs.Ytkcnenekmjgmgaa.Good p c) {k : Nat} (hk : k ≤ 64) : 0 ≤ (c.g + k) * p.width ∧ (c.g + k) * p.width ≤ 1152991873351024640 := by
  have hb := (meansW_bounds hm).2.2.1
  have h1 := hg.lo
  have h2 := hg.hi
  have h3 := gridN_bound hm 1099511627776
  refine ⟨Int.mul_nonneg (by omega) (by omega), ?_⟩
  have := Int.mul_le_mul (show c.g + k ≤ 1099511627840 by omega) (show p.width ≤ 1048576 by omega) (by omega) (by omega)
  omega
theorem begin_after {p : Pol} (hm : meansW p = true) {c : Win} (tick : Int) {k : Nat} (hk : 1 ≤ k) : (c.g + k) * p.width > clipI tick 1099511627776 ↔ goneN p c tick < k := by
  have hb := (meansW_bounds hm).2.2.1
  have hc := clipI_bound tick (m := 1099511627776) (by omega)
  unfold goneN gridN
  rw [Int.tdiv_eq_ediv_of_nonneg hc.1]
  have h := Int.ediv_lt_iff_lt_mul (a := clipI tick 1099511627776) (b := c.g + k) (c := p.width) (by omega)
  omega
theorem when_loop {p : Pol} (hm : meansW p = true) {c : Win} (hg : Go.Proofs.Ytkcnenekmjgmgaa.Good p c) (tick cost : Int) (hc0 : 1 ≤ cost) (hc1 : cost ≤ 1048576) (hcap : cost ≤ p.cap) (hno : okK p c cost (goneN p c tick) = false) :
    ∀ (d i : Nat), c.l.length - i = d → i ≤ c.l.length → (∀ j, goneN p c tick < j → j ≤ i → okK p c cost j = false) →
    Ev (fun k => window_When.l0 k (clipI tick 1099511627776) cost (lft c.l i) c.l (c.l.length : Int) (i : Int) p.k p.cap p.num p.den p.width p.count p.keys p.slots p.every p.seg c.g c.l) (endT p c (lst (okK p c cost) (c.l.length - goneN p c tick - 1) (goneN p c tick + 1))) := by
  have hb := meansW_bounds hm
  have hlen := hg.len
  have hend : okK p c cost c.l.length = true := by
    unfold okK
    rw [lft_end (Nat.le_refl _)]
    exact decide_eq_true (by omega)
  have hkk : goneN p c tick < c.l.length := by
    rcases Nat.lt_or_ge (goneN p c tick) c.l.length with h | h
    · exact h
    · have : okK p c cost (goneN p c tick) = true := by
        unfold okK
        rw [lft_end h]
        exact decide_eq_true (by omega)
      rw [this] at hno
      exact absurd hno (by decide)
  intro d
  induction d with
  | zero =>
    intro i hd hi hall
    have ei : i = c.l.length := by omega
    have := hall c.l.length hkk (by omega)
    rw [hend] at this
    exact absurd this (by decide)
  | succ d ih =>
    intro i hd hi hall
    have hi2 : i < c.l.length := by omega
    have hrd : rd c.l (i : Int) = c.l[i] := by simp [rd, hi2]
    have hx := hg.ok c.l[i] (List.getElem_mem hi2)
    have hst := lft_step hi2
    rw [clipI_mid hx.1 hx.2] at hst
    have hl1 := lft_bound c.l (i + 1)
    have hl0 := lft_bound c.l i
    have hgl := hg.lo
    have hgh := hg.hi
    have hgg := gridN_bound hm 1099511627776
    have hbd := begin_bound hm hg (k := i + 1) (by omega)
    have haf := begin_after hm (c := c) tick (k := i + 1) (by omega)
    have e4 : wrap64 ((i : Int) + 1) = ((i + 1 : Nat) : Int) := (w64 (by omega) (by omega)).trans (by omega)
    have e2 : wrap64 (lft c.l i - c.l[i]) = lft c.l (i + 1) := by
      clear e4
      exact (w64 (by omega) (by omega)).trans (by omega)
    have e3 : wrap64 (lft c.l (i + 1) + cost) = lft c.l (i + 1) + cost := by
      clear e4 e2
      exact w64 (by omega) (by omega)
    have e1 : wrap64 (wrap64 (wrap64 (c.g + (i : Int)) + 1) * p.width) = (c.g + ((i + 1 : Nat) : Int)) * p.width := by
      clear e4 e2 e3 haf
      have e0 : wrap64 (wrap64 (c.g + (i : Int)) + 1) = c.g + ((i + 1 : Nat) : Int) := by
        rw [w64 (x := c.g + (i : Int)) (by omega) (by omega), w64 (by omega) (by omega)]
        omega
      rw [e0]
      clear e0
      generalize (c.g + ((i + 1 : Nat) : Int)) * p.width = q at hbd ⊢
      exact w64 (by omega) (by omega)
    by_cases ha : goneN p c tick < i + 1
    · cases ho : okK p c cost (i + 1) with
      | true =>
        have hl := lst_eq (okK p c cost) (c.l.length - goneN p c tick - 1) (goneN p c tick + 1) (i + 1) (by clear e1 e2 e3 e4; omega) (by clear e1 e2 e3 e4; omega) (fun j hj hk => hall j (by clear e1 e2 e3 e4; omega) (by clear e1 e2 e3 e4; omega)) ho
        rw [hl]
        have ho2 := of_decide_eq_true ho
        refine Ev.step (f := fun k => window_When.j2 k (clipI tick 1099511627776) cost (lft c.l (i + 1)) ((c.g + ((i + 1 : Nat) : Int)) * p.width) c.l (c.l.length : Int) (i : Int) true p.k p.cap p.num p.den p.width p.count p.keys p.slots p.every p.seg c.g c.l) (fun k => ?_) (ev_now fun k => ?_)
        · simp only [window_When.l0]
          rw [if_pos (by clear e1 e2 e3 e4; omega), if_pos (by clear e1 e2 e3 e4; omega), if_pos (by clear e1 e2 e3 e4; omega), e1, hrd, e2, e3, if_pos (haf.2 ha), decide_eq_true ho2]
        · simp only [window_When.j2]
          unfold endT
          rw [if_pos (by trivial)]
          split <;> rfl
      | false =>
        have ho2 := of_decide_eq_false ho
        refine Ev.step (f := fun k => window_When.j2 k (clipI tick 1099511627776) cost (lft c.l (i + 1)) ((c.g + ((i + 1 : Nat) : Int)) * p.width) c.l (c.l.length : Int) (i : Int) false p.k p.cap p.num p.den p.width p.count p.keys p.slots p.every p.seg c.g c.l) (fun k => ?_) (Ev.step (fun k => ?_) (ih (i + 1) (by clear e1 e2 e3 e4; omega) (by clear e1 e2 e3 e4; omega) (fun j h1 h2 => by
          by_cases e : j = i + 1
          · rw [e]; exact ho
          · exact hall j h1 (by clear e1 e2 e3 e4; omega))))
        · simp only [window_When.l0]
          rw [if_pos (by clear e1 e2 e3 e4; omega), if_pos (by clear e1 e2 e3 e4; omega), if_pos (by clear e1 e2 e3 e4; omega), e1, hrd, e2, e3, if_pos (haf.2 ha), decide_eq_false ho2]
        · simp only [window_When.j2]
          rw [if_neg (by decide), e4]
    · refine Ev.step (f := fun k => window_When.j2 k (clipI tick 1099511627776) cost (lft c.l (i + 1)) ((c.g + ((i + 1 : Nat) : Int)) * p.width) c.l (c.l.length : Int) (i : Int) false p.k p.cap p.num p.den p.width p.count p.keys p.slots p.every p.seg c.g c.l) (fun k => ?_) (Ev.step (fun k => ?_) (ih (i + 1) (by clear e1 e2 e3 e4; omega) (by clear e1 e2 e3 e4; omega) (fun j h1 h2 => absurd h1 (by clear e1 e2 e3 e4; omega))))
      · simp only [window_When.l0]
        rw [if_pos (by clear e1 e2 e3 e4; omega), if_pos (by clear e1 e2 e3 e4; omega), if_pos (by clear e1 e2 e3 e4; omega), e1, hrd, e2, if_neg (fun h => ha (haf.1 h))]
      · simp only [window_When.j2]
        rw [if_neg (by decide), e4]
theorem may_f (c : Int) : window_may.f c = some (within c 1 1048576) := by
  unfold window_may.f
  by_cases h : c ≥ 1
  · rw [if_pos h]
    congr 1
    rw [Bool.eq_iff_iff]
    simp [within]
    omega
  · rw [if_neg h, within_low (by omega)]
theorem clip_f (t : Int) : window_clip.f t = some (clipI t 1099511627776) := by
  unfold window_clip.f clipI mn mx
  congr 1
  split <;> split <;> omega
theorem clip_clip (t : Int) : clipI (clipI t 1099511627776) 1099511627776 = clipI t 1099511627776 := by
  have h := clipI_bound t (m := 1099511627776) (by omega)
  exact clipI_mid h.1 h.2
theorem gone_clip (p : Pol) (c : Win) (t : Int) : goneN p c (clipI t 1099511627776) = goneN p c t := by
  unfold goneN gridN
  rw [clip_clip]
theorem when_f (p : Pol) (s : Win) (tick cost : Int) : Ev (fun k => window_When.f k p.k p.cap p.num p.den p.width p.count p.keys p.slots p.every p.seg s.g s.l tick cost) (whenP p s tick cost) := by
  have e : ∀ k, window_When.f k p.k p.cap p.num p.den p.width p.count p.keys p.slots p.every p.seg s.g s.l tick cost = window_When.j0 k tick cost (!(meansW p && within cost 1 1048576 && decide (cost ≤ p.cap))) p.k p.cap p.num p.den p.width p.count p.keys p.slots p.every p.seg s.g s.l := fun k => by
    unfold window_When.f Go.Proofs.YtkcnenekmjgmgaaP.window_means.f
    simp only [Option.bind_some]
    rw [show meansW ⟨p.k, p.cap, p.num, p.den, p.width, p.count, p.keys, p.slots, p.every, p.seg⟩ = meansW p from rfl]
    cases hm : meansW p with
    | false => rfl
    | true =>
      rw [if_pos rfl, may_f]
      simp only [Option.bind_some]
      cases hw : within cost 1 1048576 with
      | false => rfl
      | true =>
        rw [if_pos rfl]
        congr 1
        rw [Bool.eq_iff_iff]
        simp
  refine Ev.congr e ?_
  unfold whenP whenC
  cases hm : meansW p with
  | false =>
    refine ev_now fun k => ?_
    simp [window_When.j0]
  | true =>
    rw [Bool.true_and]
    cases hb : (within cost 1 1048576 && decide (cost ≤ p.cap)) with
    | false =>
      refine ev_now fun k => ?_
      simp [window_When.j0]
    | true =>
      rw [Bool.and_eq_true, decide_eq_true_iff] at hb
      have hw := Go.Proofs.Ytkcnenekmjgmgaa.within_iff.1 hb.1
      have hg := counts_good hm s
      simp only [if_true]
      generalize hc : countsN p s = c at hg ⊢
      have hmay := may_at hm hg (clipI tick 1099511627776) cost
      rw [gone_clip, hb.1, Bool.true_and] at hmay
      have hpre : ∀ k, window_When.j0 (k + 1) tick cost false p.k p.cap p.num p.den p.width p.count p.keys p.slots p.every p.seg s.g s.l = if okK p c cost (goneN p c tick) = true then some (clipI tick 1099511627776) else (some (totalN c)).bind fun t229 => window_When.l0 k (clipI tick 1099511627776) cost t229 c.l (c.l.length : Int) 0 p.k p.cap p.num p.den p.width p.count p.keys p.slots p.every p.seg c.g c.l := fun k => by
        simp only [window_When.j0]
        unfold Go.Proofs.YtkcnenekmjgmgaaP.window_counts.f
        rw [if_neg (by decide), show meansW ⟨p.k, p.cap, p.num, p.den, p.width, p.count, p.keys, p.slots, p.every, p.seg⟩ = meansW p from rfl, hm, if_pos rfl]
        simp only [Option.bind_some]
        rw [show countsN ⟨p.k, p.cap, p.num, p.den, p.width, p.count, p.keys, p.slots, p.every, p.seg⟩ ⟨s.g, s.l⟩ = c from hc, clip_f]
        simp only [Option.bind_some]
        unfold Go.Proofs.YtkcnenekmjgmgaaP.window_Move.f Go.Proofs.YtkcnenekmjgmgaaP.window_May.f Go.Proofs.YtkcnenekmjgmgaaP.window_Total.f
        simp only [Option.bind_some]
        rw [show mayW ⟨p.k, p.cap, p.num, p.den, p.width, p.count, p.keys, p.slots, p.every, p.seg⟩ ⟨(moveP ⟨p.k, p.cap, p.num, p.den, p.width, p.count, p.keys, p.slots, p.every, p.seg⟩ ⟨c.g, c.l⟩ (clipI tick 1099511627776)).g, (moveP ⟨p.k, p.cap, p.num, p.den, p.width, p.count, p.keys, p.slots, p.every, p.seg⟩ ⟨c.g, c.l⟩ (clipI tick 1099511627776)).l⟩ cost = okK p c cost (goneN p c tick) from hmay]
      cases ho : okK p c cost (goneN p c tick) with
      | true =>
        refine ev_now fun k => ?_
        show window_When.j0 (k + 1) tick cost false p.k p.cap p.num p.den p.width p.count p.keys p.slots p.every p.seg s.g s.l = _
        rw [hpre, ho, if_pos rfl]
        rfl
      | false =>
        have hl := when_loop hm hg tick cost hw.1 hw.2 hb.2 ho _ 0 rfl (by omega) (fun j h1 h2 => absurd h1 (by omega))
        have htot : totalN c = lft c.l 0 := by
          have := meansW_bounds hm
          have := hg.len
          unfold totalN lft
          rw [if_neg (by omega), List.drop_zero]
        refine Ev.step (fun k => ?_) hl
        show window_When.j0 (k + 1) tick cost false p.k p.cap p.num p.den p.width p.count p.keys p.slots p.every p.seg s.g s.l = _
        rw [hpre, ho, if_neg (by decide), Option.bind_some, htot]
        rfl
end Go.Proofs.YtkcnenekmjgmgaaS
end

section
/- What the reference's When answers. -/
namespace Go.Proofs.YtkcnenekmjgmgaaS
open Go.Proofs.YtkcnenekmjgmgaaP
open Go.RowKit Go.Proofs.Ytkcnenekmjgmgaa Go.Proofs.YtkcnenekmjgmgaaW.PrintWords

theorem rtry {p : Pol} (hm : meansW p = true) {c : Win} (hg : Go.Proofs.Ytkcnenekmjgmgaa.Good p c) (t cost : Int) {β : Type} {f : Nat → Bool → Option β} {r : β} (h : Ev (fun k => f k (within cost 1 1048576 && okK p c cost (goneN p c t))) r) :
    Ev (fun k => (reeveref08_Move.f k p.k p.cap p.num p.den p.width p.count p.keys p.slots p.every p.seg c.g c.l t).bind fun bt239 => (reeveref08_May.f k p.k p.cap p.num p.den p.width p.count p.keys p.slots p.every p.seg bt239.1 bt239.2 cost).bind (f k)) r := by
  refine Ev.bind (rmove p c t) (Ev.bind (rmay p (moveP p c t) cost) ?_)
  rw [may_at hm hg]
  exact h
/-- Nothing may be taken: -1. -/
theorem rstep {p : Pol} (hm : meansW p = true) {c : Win} (hg : Go.Proofs.Ytkcnenekmjgmgaa.Good p c) (cost at' : Int) {i : Nat} (hi : i ≤ p.count.toNat + 1) (hno : (within cost 1 1048576 && okK p c cost (goneN p c at')) = false) {r : Int}
    (h : Ev (fun k => if (max (gridN p at' + 1) (c.g + 1)) * p.width > 1099511627776 then some (-1) else reeveref08_When.l0 k cost ((max (gridN p at' + 1) (c.g + 1)) * p.width) ((i + 1 : Nat) : Int) p.k p.cap p.num p.den p.width p.count p.keys p.slots p.every p.seg c.g c.l) r) :
    Ev (fun k => reeveref08_When.l0 k cost at' (i : Int) p.k p.cap p.num p.den p.width p.count p.keys p.slots p.every p.seg c.g c.l) r := by
  have hb := meansW_bounds hm
  have hgb := gridN_bound hm at'
  have hgt := gridN_bound hm 1099511627776
  have hlo := hg.lo
  have hhi := hg.hi
  generalize hq : max (gridN p at' + 1) (c.g + 1) = q at h
  have hq0 : 0 ≤ q ∧ q ≤ 1099511627777 := by omega
  have hqw : 0 ≤ q * p.width ∧ q * p.width ≤ 1099511627777 * 1048576 := ⟨Int.mul_nonneg hq0.1 (by omega), Int.mul_le_mul hq0.2 (by omega) (by omega) (by omega)⟩
  have hj : Ev (fun k => reeveref08_When.j1 k cost (i : Int) q p.k p.cap p.num p.den p.width p.count p.keys p.slots p.every p.seg c.g c.l) r := by
    refine Ev.step (fun k => ?_) h
    simp only [reeveref08_When.j1]
    have e1 : wrap64 (q * p.width) = q * p.width := by
      generalize q * p.width = z at hqw ⊢
      exact w64 (by omega) (by omega)
    have e2 : wrap64 ((i : Int) + 1) = ((i + 1 : Nat) : Int) := (w64 (by omega) (by omega)).trans (by omega)
    rw [e1, e2]
  have ht := rtry hm hg at' cost (f := fun k t243 => if t243 = true then some at' else reeveref08_When.j1 k cost (i : Int) q p.k p.cap p.num p.den p.width p.count p.keys p.slots p.every p.seg c.g c.l) (r := r) (by
    rw [hno]
    refine Ev.congr (fun k => ?_) hj
    rw [if_neg (by decide)])
  refine Ev.step (fun k => ?_) ht
  have e3 : wrap64 (p.count + 1) = p.count + 1 := w64 (by omega) (by omega)
  have e4 : wrap64 (gridN p at' + 1) = gridN p at' + 1 := w64 (by clear e3; omega) (by clear e3; omega)
  have e5 : wrap64 (c.g + 1) = c.g + 1 := w64 (by clear e3 e4; omega) (by clear e3 e4; omega)
  have e6 : ∀ k, (if gridN p at' + 1 ≤ c.g then reeveref08_When.j1 k cost (i : Int) (c.g + 1) p.k p.cap p.num p.den p.width p.count p.keys p.slots p.every p.seg c.g c.l else reeveref08_When.j1 k cost (i : Int) (gridN p at' + 1) p.k p.cap p.num p.den p.width p.count p.keys p.slots p.every p.seg c.g c.l) = reeveref08_When.j1 k cost (i : Int) q p.k p.cap p.num p.den p.width p.count p.keys p.slots p.every p.seg c.g c.l := fun k => by
    clear e3 e4 e5
    by_cases hc : gridN p at' + 1 ≤ c.g
    · rw [if_pos hc, show c.g + 1 = q by omega]
    · rw [if_neg hc, show gridN p at' + 1 = q by omega]
  simp only [reeveref08_When.l0]
  rw [e3, if_pos (by clear e3 e4 e5 e6; omega), rgrid, gridP_yes hm]
  simp only [Option.bind_some]
  rw [e4, e5, e6]
/-- Nothing may be taken: -1. -/
theorem rnever {p : Pol} (hm : meansW p = true) {c : Win} (hg : Go.Proofs.Ytkcnenekmjgmgaa.Good p c) (cost : Int) (hno : ∀ t, (within cost 1 1048576 && okK p c cost (goneN p c t)) = false) : ∀ (d i : Nat) (at' : Int), p.count.toNat + 2 - i = d → i ≤ p.count.toNat + 2 →
    Ev (fun k => reeveref08_When.l0 k cost at' (i : Int) p.k p.cap p.num p.den p.width p.count p.keys p.slots p.every p.seg c.g c.l) (-1) := by
  have hb := meansW_bounds hm
  intro d
  induction d with
  | zero =>
    intro i at' hd hi
    refine ev_now fun k => ?_
    simp only [reeveref08_When.l0]
    rw [w64 (x := p.count + 1) (by omega) (by omega), if_neg (by omega)]
  | succ d ih =>
    intro i at' hd hi
    refine rstep hm hg cost at' (by omega) (hno at') ?_
    by_cases hc : (max (gridN p at' + 1) (c.g + 1)) * p.width > 1099511627776
    · refine Ev.congr (fun k => ?_) (Ev.now _)
      rw [if_pos hc]
    · refine Ev.congr (fun k => ?_) (ih (i + 1) ((max (gridN p at' + 1) (c.g + 1)) * p.width) (by omega) (by omega))
      rw [if_neg hc]
theorem endT_late {p : Pol} (hm : meansW p = true) {c : Win} {a b : Nat} (h : a ≤ b) (h2 : (c.g + a) * p.width > 1099511627776) : endT p c b = -1 := by
  have hb := (meansW_bounds hm).2.2.1
  have := Int.mul_le_mul_of_nonneg_right (show c.g + (a : Int) ≤ c.g + b by omega) (show 0 ≤ p.width by omega)
  unfold endT
  rw [if_pos (by omega)]
theorem rfound {p : Pol} (hm : meansW p = true) {c : Win} (hg : Go.Proofs.Ytkcnenekmjgmgaa.Good p c) (cost at' : Int) {i : Nat} (hi : i ≤ p.count.toNat + 1) (hyes : (within cost 1 1048576 && okK p c cost (goneN p c at')) = true) :
    Ev (fun k => reeveref08_When.l0 k cost at' (i : Int) p.k p.cap p.num p.den p.width p.count p.keys p.slots p.every p.seg c.g c.l) at' := by
  have hb := meansW_bounds hm
  have ht := rtry hm hg at' cost (f := fun k t243 => if t243 = true then some at' else (reeveref08_Grid.f p.k p.cap p.num p.den p.width p.count p.keys p.slots p.every p.seg at').bind fun t244 => (if (wrap64 (t244 + 1)) ≤ c.g then (reeveref08_When.j1 k cost (i : Int) (wrap64 (c.g + 1)) p.k p.cap p.num p.den p.width p.count p.keys p.slots p.every p.seg c.g c.l) else (reeveref08_When.j1 k cost (i : Int) (wrap64 (t244 + 1)) p.k p.cap p.num p.den p.width p.count p.keys p.slots p.every p.seg c.g c.l))) (r := at') (by
    rw [hyes]
    exact Ev.congr (fun k => if_pos rfl) (Ev.now _))
  refine Ev.step (fun k => ?_) ht
  have e3 : wrap64 (p.count + 1) = p.count + 1 := w64 (by omega) (by omega)
  simp only [reeveref08_When.l0]
  rw [e3, if_pos (by clear e3; omega)]
theorem rwhen_loop {p : Pol} (hm : meansW p = true) {c : Win} (hg : Go.Proofs.Ytkcnenekmjgmgaa.Good p c) (tick cost : Int) (hw : within cost 1 1048576 = true) (hcap : cost ≤ p.cap) :
    ∀ (d K : Nat), c.l.length - K = d → goneN p c tick < K → K ≤ c.l.length → (∀ j, goneN p c tick < j → j < K → okK p c cost j = false) → (c.g + K) * p.width ≤ 1099511627776 →
    Ev (fun k => reeveref08_When.l0 k cost ((c.g + K) * p.width) ((K - goneN p c tick : Nat) : Int) p.k p.cap p.num p.den p.width p.count p.keys p.slots p.every p.seg c.g c.l) (endT p c (lst (okK p c cost) (c.l.length - goneN p c tick - 1) (goneN p c tick + 1))) := by
  have hb := meansW_bounds hm
  have hlen := hg.len
  have hlo := hg.lo
  have hend : okK p c cost c.l.length = true := by
    unfold okK
    rw [lft_end (Nat.le_refl _)]
    exact decide_eq_true (by omega)
  intro d
  induction d using Nat.strongRecOn with
  | _ d ih =>
    intro K hd hK hKn hall hmax
    have hat := grid_at hm (k := c.g + K) (by omega) (by
      rw [Int.tdiv_eq_ediv_of_nonneg (by omega)]
      exact (Int.le_ediv_iff_mul_le (by omega)).2 hmax)
    have hgone : goneN p c ((c.g + K) * p.width) = K := by
      unfold goneN
      rw [hat.2.1]
      omega
    have hlk := lst_ge (okK p c cost) (c.l.length - goneN p c tick - 1) (goneN p c tick + 1)
    have hlo2 := lst_ok (okK p c cost) (c.l.length - goneN p c tick - 1) (goneN p c tick + 1) (by rw [show goneN p c tick + 1 + (c.l.length - goneN p c tick - 1) = c.l.length by omega]; exact hend)
    cases ho : okK p c cost K with
    | true =>
      have hl := lst_eq (okK p c cost) (c.l.length - goneN p c tick - 1) (goneN p c tick + 1) K (by omega) (by omega) (fun j h1 h2 => hall j (by omega) h2) ho
      have hf := rfound hm hg cost ((c.g + K) * p.width) (i := K - goneN p c tick) (by omega) (by rw [hgone, hw, ho]; rfl)
      rw [hl]
      unfold endT
      rw [if_neg (by omega)]
      exact hf
    | false =>
      have hKlt : K < c.l.length := by
        rcases Nat.lt_or_ge K c.l.length with h | h
        · exact h
        · rw [show K = c.l.length by omega, hend] at ho
          exact absurd ho (by decide)
      refine rstep hm hg cost _ (i := K - goneN p c tick) (by omega) (by rw [hgone, ho, Bool.and_false]) ?_
      rw [hat.2.1, show max (c.g + (K : Int) + 1) (c.g + 1) = c.g + ((K + 1 : Nat) : Int) by omega]
      by_cases hc : (c.g + ((K + 1 : Nat) : Int)) * p.width > 1099511627776
      · have hge : K + 1 ≤ lst (okK p c cost) (c.l.length - goneN p c tick - 1) (goneN p c tick + 1) := by
          rcases Nat.lt_or_ge (lst (okK p c cost) (c.l.length - goneN p c tick - 1) (goneN p c tick + 1)) (K + 1) with h | h
          · exfalso
            generalize lst (okK p c cost) (c.l.length - goneN p c tick - 1) (goneN p c tick + 1) = q at hlk hlo2 h
            by_cases e : q = K
            · rw [e, ho] at hlo2
              exact absurd hlo2 (by decide)
            · rw [hall q (by omega) (by omega)] at hlo2
              exact absurd hlo2 (by decide)
          · exact h
        rw [endT_late hm hge hc]
        refine Ev.congr (fun k => ?_) (Ev.now _)
        rw [if_pos hc]
      · have h := ih (c.l.length - (K + 1)) (by omega) (K + 1) rfl (by omega) (by omega) (fun j h1 h2 => by
          by_cases e : j = K
          · rw [e]; exact ho
          · exact hall j h1 (by omega)) (by omega)
        rw [show K + 1 - goneN p c tick = K - goneN p c tick + 1 by omega] at h
        refine Ev.congr (fun k => ?_) h
        rw [if_neg hc]
theorem rwhen (p : Pol) (s : Win) (tick cost : Int) : Ev (fun k => reeveref08_When.f k p.k p.cap p.num p.den p.width p.count p.keys p.slots p.every p.seg s.g s.l tick cost) (whenP p s tick cost) := by
  unfold reeveref08_When.f whenP
  rw [rmeans, rclip]
  simp only [Option.bind_some]
  cases hm : meansW p with
  | false => exact Ev.now _
  | true =>
    have hb := meansW_bounds hm
    have hg := counts_good hm s
    simp only [if_true]
    refine Ev.bind (rcounts hm s) ?_
    generalize countsN p s = c at hg ⊢
    have hlen := hg.len
    have hgc : gridN p (clipI tick 1099511627776) = gridN p tick := by
      unfold gridN
      rw [clip_clip]
    unfold whenC
    cases hw : (within cost 1 1048576 && decide (cost ≤ p.cap)) with
    | false =>
      refine rnever hm hg cost (fun t => ?_) _ 0 _ rfl (by omega)
      rw [Bool.and_eq_false_iff] at hw
      rcases hw with h | h
      · rw [h]; rfl
      · have h2 := of_decide_eq_false h
        have h3 := lft_bound c.l (goneN p c t)
        unfold okK
        rw [decide_eq_false (by omega), Bool.and_false]
    | true =>
      rw [Bool.and_eq_true, decide_eq_true_iff] at hw
      simp only [if_true]
      cases ho : okK p c cost (goneN p c tick) with
      | true =>
        exact rfound hm hg cost (clipI tick 1099511627776) (i := 0) (by omega) (by rw [gone_clip, hw.1, ho]; rfl)
      | false =>
        have hkk : goneN p c tick < c.l.length := by
          rcases Nat.lt_or_ge (goneN p c tick) c.l.length with h | h
          · exact h
          · have : okK p c cost (goneN p c tick) = true := by
              unfold okK
              rw [lft_end h]
              exact decide_eq_true (by omega)
            rw [this] at ho
            exact absurd ho (by decide)
        have hlk := lst_ge (okK p c cost) (c.l.length - goneN p c tick - 1) (goneN p c tick + 1)
        refine rstep hm hg cost (clipI tick 1099511627776) (i := 0) (by omega) (by rw [gone_clip, ho, Bool.and_false]) ?_
        rw [hgc, show max (gridN p tick + 1) (c.g + 1) = c.g + ((goneN p c tick + 1 : Nat) : Int) by unfold goneN; omega]
        by_cases hc : (c.g + ((goneN p c tick + 1 : Nat) : Int)) * p.width > 1099511627776
        · simp only [Bool.false_eq_true, if_false]
          rw [endT_late hm hlk.1 hc]
          refine Ev.congr (fun k => ?_) (Ev.now _)
          rw [if_pos hc]
        · have h := rwhen_loop hm hg tick cost hw.1 hw.2 _ (goneN p c tick + 1) rfl (by omega) (by omega) (fun j h1 h2 => absurd h1 (by omega)) (by omega)
          rw [show goneN p c tick + 1 - goneN p c tick = 0 + 1 by omega] at h
          simp only [Bool.false_eq_true, if_false]
          refine Ev.congr (fun k => ?_) h
          rw [if_neg hc]
end Go.Proofs.YtkcnenekmjgmgaaS
end

section
/- lent, kept and both Whens, in closed form. -/
namespace Go.Proofs.YtkcnenekmjgmgaaS
open Go.RowKit Go.Proofs.Ytkcnenekmjgmgaa Go.Proofs.YtkcnenekmjgmgaaW.PrintWords
set_option linter.unusedVariables false

def when_all.f (a0_0 a0_1 a0_2 a0_3 a0_4 a0_5 a0_6 a0_7 a0_8 a0_9 : Int) (a1_0 : Int) (l1_1 : List Int) (a2 a3 : Int) : Option Int := some (whenP ⟨a0_0, a0_1, a0_2, a0_3, a0_4, a0_5, a0_6, a0_7, a0_8, a0_9⟩ ⟨a1_0, l1_1.dropLast⟩ a2 a3)
theorem when_all.calls (a0_0 a0_1 a0_2 a0_3 a0_4 a0_5 a0_6 a0_7 a0_8 a0_9 : Int) (a1_0 : Int) (A1_1 : Option Addr) (c1_1 : Nat) (l1_1 : List Int) (a2 a3 : Int) (r : Int) (w : World) (hr1_1 : Kd.C (Kd.int .i64) w A1_1 l1_1.length l1_1) (hc1_1 : l1_1.length ≤ c1_1) (h : when_all.f a0_0 a0_1 a0_2 a0_3 a0_4 a0_5 a0_6 a0_7 a0_8 a0_9 a1_0 l1_1 a2 a3 = some r) :
    Calls Try.prog 27 #[.agg #[.int .i64 a0_0, .int .i64 a0_1, .int .i64 a0_2, .int .i64 a0_3, .int .i64 a0_4, .int .i64 a0_5, .int .i64 a0_6, .int .i64 a0_7, .int .i64 a0_8, .int .i64 a0_9], .agg #[.int .i64 a1_0, shortV (.slice A1_1 l1_1.length c1_1)], .int .i64 a2, .int .i64 a3] w fun e w' => e = .returned (.int .i64 r) ∧ Below w.heap.size w w' := by
  obtain ⟨k, hk⟩ := (when_f ⟨a0_0, a0_1, a0_2, a0_3, a0_4, a0_5, a0_6, a0_7, a0_8, a0_9⟩ ⟨a1_0, l1_1.dropLast⟩ a2 a3).rounds
  have hc := window_When.calls k a0_0 a0_1 a0_2 a0_3 a0_4 a0_5 a0_6 a0_7 a0_8 a0_9 a1_0 A1_1 c1_1 l1_1.dropLast a2 a3 r w (C_last hr1_1) (by rw [List.length_dropLast]; omega) (hk.trans h)
  rw [List.length_dropLast] at hc
  exact hc

def rwhen_all.f (a0_0 a0_1 a0_2 a0_3 a0_4 a0_5 a0_6 a0_7 a0_8 a0_9 : Int) (a1_0 : Int) (l1_1 : List Int) (a2 a3 : Int) : Option Int := some (whenP ⟨a0_0, a0_1, a0_2, a0_3, a0_4, a0_5, a0_6, a0_7, a0_8, a0_9⟩ ⟨a1_0, l1_1⟩ a2 a3)
theorem rwhen_all.calls (a0_0 a0_1 a0_2 a0_3 a0_4 a0_5 a0_6 a0_7 a0_8 a0_9 : Int) (a1_0 : Int) (A1_1 : Option Addr) (c1_1 : Nat) (l1_1 : List Int) (a2 a3 : Int) (r : Int) (w : World) (hr1_1 : Kd.C (Kd.int .i64) w A1_1 l1_1.length l1_1) (hc1_1 : l1_1.length ≤ c1_1) (h : rwhen_all.f a0_0 a0_1 a0_2 a0_3 a0_4 a0_5 a0_6 a0_7 a0_8 a0_9 a1_0 l1_1 a2 a3 = some r) :
    Calls Try.prog 28 #[.agg #[.int .i64 a0_0, .int .i64 a0_1, .int .i64 a0_2, .int .i64 a0_3, .int .i64 a0_4, .int .i64 a0_5, .int .i64 a0_6, .int .i64 a0_7, .int .i64 a0_8, .int .i64 a0_9], .agg #[.int .i64 a1_0, .slice A1_1 l1_1.length c1_1], .int .i64 a2, .int .i64 a3] w fun e w' => e = .returned (.int .i64 r) ∧ Below w.heap.size w w' := by
  obtain ⟨k, hk⟩ := (rwhen ⟨a0_0, a0_1, a0_2, a0_3, a0_4, a0_5, a0_6, a0_7, a0_8, a0_9⟩ ⟨a1_0, l1_1⟩ a2 a3).rounds
  exact reeveref08_When.calls k a0_0 a0_1 a0_2 a0_3 a0_4 a0_5 a0_6 a0_7 a0_8 a0_9 a1_0 A1_1 c1_1 l1_1 a2 a3 r w hr1_1 hc1_1 (hk.trans h)

def lent_ok.f (a0_0 : Int) (l0_1 : List Int) : Option (Int × List Int) := if l0_1.length ≤ 17592186044000 then some (a0_0, l0_1 ++ [-77]) else none
theorem lent_ok.calls (a0_0 : Int) (A0_1 : Option Addr) (c0_1 : Nat) (l0_1 : List Int) (r1 : Int) (r2 : List Int) (w : World) (hr0_1 : Kd.C (Kd.int .i64) w A0_1 l0_1.length l0_1) (hc0_1 : l0_1.length ≤ c0_1) (h : lent_ok.f a0_0 l0_1 = some (r1, r2)) :
    Calls Try.prog 14 #[.agg #[.int .i64 a0_0, .slice A0_1 l0_1.length c0_1]] w fun e w' => ∃ v1_ : Value, e = .returned (.agg #[.int .i64 r1, shortV v1_]) ∧ Kd.R (Kd.int .i64) 3 w' w.heap.size (fun _ => True) v1_ r2 ∧ Below w.heap.size w w' := by
  unfold lent_ok.f at h
  by_cases c : l0_1.length ≤ 17592186044000
  · rw [if_pos c] at h
    refine reevelaw08_lent.calls a0_0 A0_1 c0_1 l0_1 r1 r2 w hr0_1 hc0_1 (Eq.trans ?_ h)
    have e : wrap64 ((l0_1.length : Int) + 1) = (l0_1.length : Int) + 1 := w64 (by omega) (by omega)
    unfold reevelaw08_lent.f
    rw [e, if_pos (by clear e; omega), if_pos (by clear e; omega), Option.bind_some, if_pos (by clear e; simp; omega), Option.bind_some, Option.bind_some, if_pos (by clear e; simp; omega)]
    rfl
  · rw [if_neg c] at h
    exact absurd h (by simp)
def kept_ok.f (a0_0 : Int) (l0_1 : List Int) (a1_0 : Int) (l1_1 : List Int) : Option Unit := if l0_1.length = l1_1.length + 1 ∧ l1_1.length ≤ 17592186044000 ∧ Go.Proofs.Ytkcnenekmjgmgaa.sameB ⟨a0_0, l0_1.dropLast⟩ ⟨a1_0, l1_1⟩ = true ∧ rd l0_1 (l1_1.length : Int) = -77 then some () else none
theorem kept_loop (b : Bool) : ∀ (d : Nat) (a : List Int) (i : Nat), a.length - i = d → i ≤ a.length → a.length ≤ 17592186044001 → Ev (fun k => reevelaw08_kept.l0 k b (i : Int) a) b := by
  intro d
  induction d with
  | zero =>
    intro a i hd hi hm
    refine ev_now fun k => ?_
    simp only [reevelaw08_kept.l0]
    rw [if_neg (by omega)]
  | succ d ih =>
    intro a i hd hi hm
    have h := ih (a.set i (-9)) (i + 1) (by rw [List.length_set]; omega) (by rw [List.length_set]; omega) (by rw [List.length_set]; omega)
    refine Ev.step (fun k => ?_) h
    simp only [reevelaw08_kept.l0]
    rw [if_pos (by omega), if_pos (by omega), w64 (x := (i : Int) + 1) (by omega) (by omega), Int.toNat_natCast]
    rfl
theorem kept_ok.calls (a0_0 : Int) (P0_1_ : Nat → Prop) (u9000_ : Value) (l0_1 : List Int) (a1_0 : Int) (A1_1 : Option Addr) (c1_1 : Nat) (l1_1 : List Int) {r_ : Unit} (w0 w : World) (hB : Below w0.heap.size w0 w) (ho0_1 : Kd.R (Kd.int .i64) 3 w w0.heap.size P0_1_ u9000_ l0_1) (hr1_1 : ∀ W_, Kept w W_ (fun k_ => P0_1_ k_) → Kd.C (Kd.int .i64) W_ A1_1 l1_1.length l1_1) (hc1_1 : l1_1.length ≤ c1_1) (h : kept_ok.f a0_0 l0_1 a1_0 l1_1 = some r_) :
    Calls Try.prog 18 #[.agg #[.int .i64 a0_0, shortV u9000_], .agg #[.int .i64 a1_0, .slice A1_1 l1_1.length c1_1]] w fun e w' => e = .returned (.bool true) ∧ Below w0.heap.size w0 w' ∧ Kept w w' (fun k_ => P0_1_ k_) := by
  unfold kept_ok.f at h
  by_cases c : l0_1.length = l1_1.length + 1 ∧ l1_1.length ≤ 17592186044000 ∧ Go.Proofs.Ytkcnenekmjgmgaa.sameB ⟨a0_0, l0_1.dropLast⟩ ⟨a1_0, l1_1⟩ = true ∧ rd l0_1 (l1_1.length : Int) = -77
  · have hF : Ev (fun k => reevelaw08_kept.f k a0_0 l0_1 a1_0 l1_1) true := by
      refine Ev.congr (fun k => ?_) (kept_loop true _ l0_1 0 rfl (by omega) (by omega))
      unfold reevelaw08_kept.f sameL_ok.f
      rw [if_pos ⟨c.1, c.2.2.1⟩]
      simp only [Option.bind_some]
      rw [if_pos (by omega), if_pos (by omega), c.2.2.2]
      rfl
    obtain ⟨k, hk⟩ := hF.rounds
    exact reevelaw08_kept.calls k a0_0 P0_1_ u9000_ l0_1 a1_0 A1_1 c1_1 l1_1 true w0 w hB ho0_1 hr1_1 hc1_1 hk
  · rw [if_neg c] at h
    exact absurd h (by simp)

end Go.Proofs.YtkcnenekmjgmgaaS
end
