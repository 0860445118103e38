/- The law WindowWhen, part 4: its functions, walked and told plainly. -/
import Derived.Test.YtkcnenekmjgmgaaJWhen3
import Derived.Test.YtkcnenekmjgmgaaRows
import Derived.WalkKit
import Derived.Below
import Derived.ChangeSame
import Derived.ProofKit
import Derived.OpenShut
import Derived.Lib.SmallJoins
import Derived.Deep.Fields
import Derived.Carry
import Derived.SizedLaws

section
-- Laid by given.py, a program of this seat, with the kit's printer.
namespace Go.Proofs.YtkcnenekmjgmgaaS
open Go.Proofs.YtkcnenekmjgmgaaP
open Go.RowKit Go.Proofs.YtkcnenekmjgmgaaW.PrintWords Go.Proofs.YtkcnenekmjgmgaaW.PrintLast Go.Proofs.YtkcnenekmjgmgaaW.PrintMore
attribute [local go_sem] max2_int min2_int max_two min_two max_three min_three max_four min_four   -- for this text's walks alone
set_option linter.unusedVariables false
set_option linter.unusedSimpArgs false

/-! ### reeveref08_When: function 28 -/
mutual
def reeveref08_When.l0 : Nat → Int → Int → Int → Int → Int → Int → Int → Int → Int → Int → Int → Int → Int → Int → List Int → Option (Int)
 | 0, _, _, _, _, _, _, _, _, _, _, _, _, _, _, _ => none
 | k + 1, x3, x10, x11, x221000, x221001, x221002, x221003, x221004, x221005, x221006, x221007, x221008, x221009, x222000, x222001 => if x11 ≤ (wrap64 (x221005 + 1)) then ((reeveref08_Move.f k x221000 x221001 x221002 x221003 x221004 x221005 x221006 x221007 x221008 x221009 x222000 x222001 x10).bind fun bt228 => ((reeveref08_May.f k x221000 x221001 x221002 x221003 x221004 x221005 x221006 x221007 x221008 x221009 bt228.1 bt228.2 x3).bind fun t232 => (if t232 = true then (some x10) else ((reeveref08_Grid.f x221000 x221001 x221002 x221003 x221004 x221005 x221006 x221007 x221008 x221009 x10).bind fun t233 => (if (wrap64 (t233 + 1)) ≤ x222000 then (reeveref08_When.j1 k x3 x11 (wrap64 (x222000 + 1)) x221000 x221001 x221002 x221003 x221004 x221005 x221006 x221007 x221008 x221009 x222000 x222001) else (reeveref08_When.j1 k x3 x11 (wrap64 (t233 + 1)) x221000 x221001 x221002 x221003 x221004 x221005 x221006 x221007 x221008 x221009 x222000 x222001)))))) else (some (-1))
def reeveref08_When.j1 : Nat → Int → Int → Int → Int → Int → Int → Int → Int → Int → Int → Int → Int → Int → Int → List Int → Option (Int)
 | 0, _, _, _, _, _, _, _, _, _, _, _, _, _, _, _ => none
 | k + 1, x3, x11, x13, x221000, x221001, x221002, x221003, x221004, x221005, x221006, x221007, x221008, x221009, x222000, x222001 => if (wrap64 (x13 * x221004)) > 1099511627776 then (some (-1)) else (reeveref08_When.l0 k x3 (wrap64 (x13 * x221004)) (wrap64 (x11 + 1)) x221000 x221001 x221002 x221003 x221004 x221005 x221006 x221007 x221008 x221009 x222000 x222001)
end
def reeveref08_When.f (k : Nat) (a0_0 : Int) (a0_1 : Int) (a0_2 : Int) (a0_3 : Int) (a0_4 : Int) (a0_5 : Int) (a0_6 : Int) (a0_7 : Int) (a0_8 : Int) (a0_9 : Int) (a1_0 : Int) (l1_1 : List Int) (a2 : Int) (a3 : Int) : Option (Int) := (reeveref08_Means.f a0_0 a0_1 a0_2 a0_3 a0_4 a0_5 a0_6 a0_7 a0_8 a0_9).bind fun t222 => (if t222 = true then ((reeveref07_Clip.f a2 1099511627776).bind fun t223 => ((reeveref08_counts.f k a0_0 a0_1 a0_2 a0_3 a0_4 a0_5 a0_6 a0_7 a0_8 a0_9 a1_0 l1_1).bind fun bt224 => (reeveref08_When.l0 k a3 t223 0 a0_0 a0_1 a0_2 a0_3 a0_4 a0_5 a0_6 a0_7 a0_8 a0_9 bt224.1 bt224.2))) else (some (-1)))
theorem reeveref08_When.mono_l : ∀ k, (∀ y0 y1 y2 y3 y4 y5 y6 y7 y8 y9 y10 y11 y12 y13 y14, LeO (reeveref08_When.l0 k y0 y1 y2 y3 y4 y5 y6 y7 y8 y9 y10 y11 y12 y13 y14) (reeveref08_When.l0 (k + 1) y0 y1 y2 y3 y4 y5 y6 y7 y8 y9 y10 y11 y12 y13 y14)) ∧ (∀ y0 y1 y2 y3 y4 y5 y6 y7 y8 y9 y10 y11 y12 y13 y14, LeO (reeveref08_When.j1 k y0 y1 y2 y3 y4 y5 y6 y7 y8 y9 y10 y11 y12 y13 y14) (reeveref08_When.j1 (k + 1) y0 y1 y2 y3 y4 y5 y6 y7 y8 y9 y10 y11 y12 y13 y14))
 | 0 => ⟨fun _ _ _ _ _ _ _ _ _ _ _ _ _ _ _ r h => by simp [reeveref08_When.l0] at h, fun _ _ _ _ _ _ _ _ _ _ _ _ _ _ _ r h => by simp [reeveref08_When.j1] at h⟩
 | k + 1 => by
  obtain ⟨ih0, ih1⟩ := reeveref08_When.mono_l k
  refine ⟨?_, ?_⟩
  ·intro y0 y1 y2 y3 y4 y5 y6 y7 y8 y9 y10 y11 y12 y13 y14
   unfold reeveref08_When.l0
   repeat' first
   | (with_reducible exact ih0 _ _ _ _ _ _ _ _ _ _ _ _ _ _ _)
   | (with_reducible exact ih1 _ _ _ _ _ _ _ _ _ _ _ _ _ _ _)
   | (with_reducible exact reeveref08_May.mono _ _ _ _ _ _ _ _ _ _ _ _ _ _)
   | (with_reducible exact reeveref08_Move.mono _ _ _ _ _ _ _ _ _ _ _ _ _ _)
   | (with_reducible exact reeveref08_counts.mono _ _ _ _ _ _ _ _ _ _ _ _ _)
   | (with_reducible exact LeO.refl _)
   | (with_reducible exact LeO.none _)
   | (with_reducible refine LeO.ite ?_ ?_)
   | (with_reducible refine LeO.bind ?_ (fun _ => ?_))
   | exact ih0 _ _ _ _ _ _ _ _ _ _ _ _ _ _ _
   | exact ih1 _ _ _ _ _ _ _ _ _ _ _ _ _ _ _
   | exact reeveref08_May.mono _ _ _ _ _ _ _ _ _ _ _ _ _ _
   | exact reeveref08_Move.mono _ _ _ _ _ _ _ _ _ _ _ _ _ _
   | exact reeveref08_counts.mono _ _ _ _ _ _ _ _ _ _ _ _ _
   | exact LeO.none _
   | refine LeO.ite ?_ ?_
   | refine LeO.bind ?_ (fun _ => ?_)
  ·intro y0 y1 y2 y3 y4 y5 y6 y7 y8 y9 y10 y11 y12 y13 y14
   unfold reeveref08_When.j1
   repeat' first
   | (with_reducible exact ih0 _ _ _ _ _ _ _ _ _ _ _ _ _ _ _)
   | (with_reducible exact ih1 _ _ _ _ _ _ _ _ _ _ _ _ _ _ _)
   | (with_reducible exact reeveref08_May.mono _ _ _ _ _ _ _ _ _ _ _ _ _ _)
   | (with_reducible exact reeveref08_Move.mono _ _ _ _ _ _ _ _ _ _ _ _ _ _)
   | (with_reducible exact reeveref08_counts.mono _ _ _ _ _ _ _ _ _ _ _ _ _)
   | (with_reducible exact LeO.refl _)
   | (with_reducible exact LeO.none _)
   | (with_reducible refine LeO.ite ?_ ?_)
   | (with_reducible refine LeO.bind ?_ (fun _ => ?_))
   | exact ih0 _ _ _ _ _ _ _ _ _ _ _ _ _ _ _
   | exact ih1 _ _ _ _ _ _ _ _ _ _ _ _ _ _ _
   | exact reeveref08_May.mono _ _ _ _ _ _ _ _ _ _ _ _ _ _
   | exact reeveref08_Move.mono _ _ _ _ _ _ _ _ _ _ _ _ _ _
   | exact reeveref08_counts.mono _ _ _ _ _ _ _ _ _ _ _ _ _
   | exact LeO.none _
   | refine LeO.ite ?_ ?_
   | refine LeO.bind ?_ (fun _ => ?_)
theorem reeveref08_When.mono : ∀ a0 a1 a2 a3 a4 a5 a6 a7 a8 a9 a10 a11 a12 a13 k, LeO (reeveref08_When.f k a0 a1 a2 a3 a4 a5 a6 a7 a8 a9 a10 a11 a12 a13) (reeveref08_When.f (k + 1) a0 a1 a2 a3 a4 a5 a6 a7 a8 a9 a10 a11 a12 a13) := by
 intro a0 a1 a2 a3 a4 a5 a6 a7 a8 a9 a10 a11 a12 a13 k
 obtain ⟨ih0, ih1⟩ := reeveref08_When.mono_l k
 unfold reeveref08_When.f
 repeat' first
   | (with_reducible exact ih0 _ _ _ _ _ _ _ _ _ _ _ _ _ _ _)
   | (with_reducible exact ih1 _ _ _ _ _ _ _ _ _ _ _ _ _ _ _)
   | (with_reducible exact reeveref08_May.mono _ _ _ _ _ _ _ _ _ _ _ _ _ _)
   | (with_reducible exact reeveref08_Move.mono _ _ _ _ _ _ _ _ _ _ _ _ _ _)
   | (with_reducible exact reeveref08_counts.mono _ _ _ _ _ _ _ _ _ _ _ _ _)
   | (with_reducible exact LeO.refl _)
   | (with_reducible exact LeO.none _)
   | (with_reducible refine LeO.ite ?_ ?_)
   | (with_reducible refine LeO.bind ?_ (fun _ => ?_))
   | exact ih0 _ _ _ _ _ _ _ _ _ _ _ _ _ _ _
   | exact ih1 _ _ _ _ _ _ _ _ _ _ _ _ _ _ _
   | exact reeveref08_May.mono _ _ _ _ _ _ _ _ _ _ _ _ _ _
   | exact reeveref08_Move.mono _ _ _ _ _ _ _ _ _ _ _ _ _ _
   | exact reeveref08_counts.mono _ _ _ _ _ _ _ _ _ _ _ _ _
   | exact LeO.none _
   | refine LeO.ite ?_ ?_
   | refine LeO.bind ?_ (fun _ => ?_)
def reeveref08_When.T9 : Bool × List (List Nat × List Nat) := (true, [([], []), ([], []), ([], []), ([], []), ([1, 2, 3], [1, 2, 3]), ([], []), ([0, 4, 5, 4], [0, 4, 5]), ([6, 6, 0, 1, 2, 3, 4, 5, 6], [6])])
def reeveref08_When.B9 : List Nat := [0, 0, 0, 0, 14, 0, 63, 127]
theorem reeveref08_When.tab9 : rtab .any (opsOf Try.f28 9) = reeveref08_When.T9 := by kernel_rfl
theorem reeveref08_When.bits9 : waitsOk reeveref08_When.T9.2 reeveref08_When.B9 = true := by kernel_rfl
set_option maxHeartbeats 8000000 in
set_option maxRecDepth 100000 in
theorem reeveref08_When.calls (k : Nat) (a0_0 : Int) (a0_1 : Int) (a0_2 : Int) (a0_3 : Int) (a0_4 : Int) (a0_5 : Int) (a0_6 : Int) (a0_7 : Int) (a0_8 : Int) (a0_9 : Int) (a1_0 : Int) (A1_1 : Option Addr) (c1_1 : Nat) (l1_1 : List Int) (a2 : Int) (a3 : Int) (r : Int) (w : World) (hr1_1 : Kd.C (Kd.int .i64) w A1_1 l1_1.length l1_1) (hc1_1 : l1_1.length ≤ c1_1) (h : reeveref08_When.f k a0_0 a0_1 a0_2 a0_3 a0_4 a0_5 a0_6 a0_7 a0_8 a0_9 a1_0 l1_1 a2 a3 = some r) :
  Calls Try.prog 28 #[.agg #[.int .i64 a0_0, .int .i64 a0_1, .int .i64 a0_2, .int .i64 a0_3, .int .i64 a0_4, .int .i64 a0_5, .int .i64 a0_6, .int .i64 a0_7, .int .i64 a0_8, .int .i64 a0_9], .agg #[.int .i64 a1_0, .slice A1_1 l1_1.length c1_1], .int .i64 a2, .int .i64 a3] w fun e w' => e = .returned (.int .i64 r) ∧ Below w.heap.size w w' := by
 have hu23 := Try.underlying23
 have hu26 := Try.underlying26
 have HR1_1 := Aside0.mk hr1_1
 have HC1_1 := Aside0.mk hc1_1
 clear hr1_1 hc1_1
 have HB := Aside0.mk (Below.refl w.heap.size w)
 have H : ((reeveref08_Means.f a0_0 a0_1 a0_2 a0_3 a0_4 a0_5 a0_6 a0_7 a0_8 a0_9).bind fun t222 => (if t222 = true then ((reeveref07_Clip.f a2 1099511627776).bind fun t223 => ((reeveref08_counts.f k a0_0 a0_1 a0_2 a0_3 a0_4 a0_5 a0_6 a0_7 a0_8 a0_9 a1_0 l1_1).bind fun bt224 => (reeveref08_When.l0 k a3 t223 0 a0_0 a0_1 a0_2 a0_3 a0_4 a0_5 a0_6 a0_7 a0_8 a0_9 bt224.1 bt224.2))) else (some (-1)))) = some r := h
 clear h
 replace H := Option.bind_eq_some_iff.mp H
 obtain ⟨t222, A50, H⟩ := H
 replace H : (if t222 = true then ((reeveref07_Clip.f a2 1099511627776).bind fun t223 => ((reeveref08_counts.f k a0_0 a0_1 a0_2 a0_3 a0_4 a0_5 a0_6 a0_7 a0_8 a0_9 a1_0 l1_1).bind fun bt224 => (reeveref08_When.l0 k a3 t223 0 a0_0 a0_1 a0_2 a0_3 a0_4 a0_5 a0_6 a0_7 a0_8 a0_9 bt224.1 bt224.2))) else (some (-1))) = some r := H
 have A5 := Aside0.mk A50
 clear A50
 by_cases c6 : t222 = true
 ·subst c6
  have H1 : ((reeveref07_Clip.f a2 1099511627776).bind fun t223 => ((reeveref08_counts.f k a0_0 a0_1 a0_2 a0_3 a0_4 a0_5 a0_6 a0_7 a0_8 a0_9 a1_0 l1_1).bind fun bt224 => (reeveref08_When.l0 k a3 t223 0 a0_0 a0_1 a0_2 a0_3 a0_4 a0_5 a0_6 a0_7 a0_8 a0_9 bt224.1 bt224.2))) = some r := by rw [if_pos rfl] at H; exact H
  clear H
  have H := H1
  clear H1
  replace H := Option.bind_eq_some_iff.mp H
  obtain ⟨t223, A70, H⟩ := H
  replace H : ((reeveref08_counts.f k a0_0 a0_1 a0_2 a0_3 a0_4 a0_5 a0_6 a0_7 a0_8 a0_9 a1_0 l1_1).bind fun bt224 => (reeveref08_When.l0 k a3 t223 0 a0_0 a0_1 a0_2 a0_3 a0_4 a0_5 a0_6 a0_7 a0_8 a0_9 bt224.1 bt224.2)) = some r := H
  have A7 := Aside0.mk A70
  clear A70
  replace H := Option.bind_eq_some_iff.mp H
  obtain ⟨⟨t224, t225⟩, A80, H⟩ := H
  replace H : (reeveref08_When.l0 k a3 t223 0 a0_0 a0_1 a0_2 a0_3 a0_4 a0_5 a0_6 a0_7 a0_8 a0_9 t224 t225) = some r := H
  have A8 := Aside0.mk A80
  clear A80
  have H' := Aside0.mk H
  clear H
  go_enter Try.func28, Try.ntmps28
  go_wp2_with (first | ((with_reducible refine gate_dst (N := 4) rfl ?_); refine box_event ?hg (N := 4) ?hd (cs := #[.int .i64 a0_0, .int .i64 a0_1, .int .i64 a0_2, .int .i64 a0_3, .int .i64 a0_4, .int .i64 a0_5, .int .i64 a0_6, .int .i64 a0_7, .int .i64 a0_8, .int .i64 a0_9]) (t := 23) ?hr ?_; (case hd => rfl); (case hg => rfl); (case hr => first | (go_simp; done) | (go_simp; rfl)); intro gb220 hg w9 hbox hb; have n0_ := Aside0.mk (below_step (by repeat (first | (with_reducible first | exact HB.out | apply below_alloc | apply pw_below_drewN | apply below_drew1) | exact HB.out)) hb); have n1_ := Aside0.mk (hbox); have n2_ := Aside0.mk ((by rw [hg]; exact (below_size (by repeat (first | (with_reducible first | exact HB.out | apply below_alloc | apply pw_below_drewN | apply below_drew1) | exact HB.out))) : w.heap.size ≤ gb220)); have n3_ := Aside0.mk ((by rw [hg]; exact (below_size (by repeat (first | (with_reducible first | exact HB.out | apply below_alloc | apply pw_below_drewN | apply below_drew1) | exact HB.out))) : w.heap.size ≤ gb220)); clear HB; have HB := n0_; have BK220 := n1_; have GW220 := n2_; have GE220 := n3_; clear n0_ n1_ n2_ n3_; clear hb hbox hg) | ((with_reducible refine gate_dst (N := 5) rfl ?_); refine box_event ?hg (N := 5) ?hd (cs := #[.int .i64 a1_0, .slice A1_1 l1_1.length c1_1]) (t := 26) ?hr ?_; (case hd => rfl); (case hg => rfl); (case hr => first | (go_simp; done) | (go_simp; rfl)); intro gb221 hg w10 hbox hb; have n0_ := Aside0.mk (blk_below (g := gb220) (o := .cells #[.int .i64 a0_0, .int .i64 a0_1, .int .i64 a0_2, .int .i64 a0_3, .int .i64 a0_4, .int .i64 a0_5, .int .i64 a0_6, .int .i64 a0_7, .int .i64 a0_8, .int .i64 a0_9] 23 (0, 0)) (by (with_reducible repeat (first | refine blk_drewN ?_ _ | refine blk_drew ?_ | refine blk_alloc ?_ _)); exact BK220.out) hb); have n1_ := Aside0.mk (below_step (by repeat (first | (with_reducible first | exact HB.out | apply below_alloc | apply pw_below_drewN | apply below_drew1 | refine below_set ?_ GE220.out) | exact HB.out)) hb); have n2_ := Aside0.mk (hbox); have n3_ := Aside0.mk ((by rw [hg]; exact (below_size (by repeat (first | (with_reducible first | exact HB.out | apply below_alloc | apply pw_below_drewN | apply below_drew1 | refine below_set ?_ GE220.out) | exact HB.out))) : w.heap.size ≤ gb221)); have n4_ := Aside0.mk ((by rw [hg]; exact (below_size (by repeat (first | (with_reducible first | exact HB.out | apply below_alloc | apply pw_below_drewN | apply below_drew1 | refine below_set ?_ GE220.out) | exact HB.out))) : w.heap.size ≤ gb221)); have n5_ := Aside0.mk ((by rw [hg]; exact Nat.ne_of_lt (blk_lt (g := gb220) (o := .cells #[.int .i64 a0_0, .int .i64 a0_1, .int .i64 a0_2, .int .i64 a0_3, .int .i64 a0_4, .int .i64 a0_5, .int .i64 a0_6, .int .i64 a0_7, .int .i64 a0_8, .int .i64 a0_9] 23 (0, 0)) (by (with_reducible repeat (first | refine blk_drewN ?_ _ | refine blk_drew ?_ | refine blk_alloc ?_ _)); exact BK220.out)) : gb220 ≠ gb221)); have n6_ := Aside0.mk ((by rw [hg]; exact Nat.ne_of_gt (blk_lt (g := gb220) (o := .cells #[.int .i64 a0_0, .int .i64 a0_1, .int .i64 a0_2, .int .i64 a0_3, .int .i64 a0_4, .int .i64 a0_5, .int .i64 a0_6, .int .i64 a0_7, .int .i64 a0_8, .int .i64 a0_9] 23 (0, 0)) (by (with_reducible repeat (first | refine blk_drewN ?_ _ | refine blk_drew ?_ | refine blk_alloc ?_ _)); exact BK220.out)) : gb221 ≠ gb220)); clear BK220; clear HB; have BK220 := n0_; have HB := n1_; have BK221 := n2_; have GW221 := n3_; have GE221 := n4_; have NB220_221 := n5_; have NB221_220 := n6_; clear n0_ n1_ n2_ n3_ n4_ n5_ n6_; clear hb hbox hg; have hnb11 := NB220_221.out; have hnc11 := NB221_220.out; have hcz12_0 : w10.cell? ⟨gb220, 0, none⟩ = some (.int .i64 a0_0) := (blk_cell BK220.out 0).trans rfl; have hcz12_1 : w10.cell? ⟨gb220, 1, none⟩ = some (.int .i64 a0_1) := (blk_cell BK220.out 1).trans rfl; have hcz12_2 : w10.cell? ⟨gb220, 2, none⟩ = some (.int .i64 a0_2) := (blk_cell BK220.out 2).trans rfl; have hcz12_3 : w10.cell? ⟨gb220, 3, none⟩ = some (.int .i64 a0_3) := (blk_cell BK220.out 3).trans rfl; have hcz12_4 : w10.cell? ⟨gb220, 4, none⟩ = some (.int .i64 a0_4) := (blk_cell BK220.out 4).trans rfl; have hcz12_5 : w10.cell? ⟨gb220, 5, none⟩ = some (.int .i64 a0_5) := (blk_cell BK220.out 5).trans rfl; have hcz12_6 : w10.cell? ⟨gb220, 6, none⟩ = some (.int .i64 a0_6) := (blk_cell BK220.out 6).trans rfl; have hcz12_7 : w10.cell? ⟨gb220, 7, none⟩ = some (.int .i64 a0_7) := (blk_cell BK220.out 7).trans rfl; have hcz12_8 : w10.cell? ⟨gb220, 8, none⟩ = some (.int .i64 a0_8) := (blk_cell BK220.out 8).trans rfl; have hcz12_9 : w10.cell? ⟨gb220, 9, none⟩ = some (.int .i64 a0_9) := (blk_cell BK220.out 9).trans rfl; have hfz12_0 := blk_frozen BK220.out 0; have hfz12_1 := blk_frozen BK220.out 1; have hfz12_2 := blk_frozen BK220.out 2; have hfz12_3 := blk_frozen BK220.out 3; have hfz12_4 := blk_frozen BK220.out 4; have hfz12_5 := blk_frozen BK220.out 5; have hfz12_6 := blk_frozen BK220.out 6; have hfz12_7 := blk_frozen BK220.out 7; have hfz12_8 := blk_frozen BK220.out 8; have hfz12_9 := blk_frozen BK220.out 9) | ((with_reducible refine gate_callee (f := 36) rfl ?_); refine goesL_ (some 15) rfl rfl Try.func36 (by kernel_rfl) rfl #[.agg #[.int .i64 a0_0, .int .i64 a0_1, .int .i64 a0_2, .int .i64 a0_3, .int .i64 a0_4, .int .i64 a0_5, .int .i64 a0_6, .int .i64 a0_7, .int .i64 a0_8, .int .i64 a0_9]] rfl (by (try simp only [List.map_toArray, List.map_cons, List.map_nil]); first | done | rfl | (simp only [List.length_drop, List.length_take]; rfl)) ?_; (with_reducible refine (reeveref08_Means.calls a0_0 a0_1 a0_2 a0_3 a0_4 a0_5 a0_6 a0_7 a0_8 a0_9 true _ A5.out).mono ?_); rintro e w13 ⟨rfl, hb⟩; refine ⟨_, rfl, ?_⟩; have n0_ := Aside0.mk (blk_below (g := gb220) (o := .cells #[.int .i64 a0_0, .int .i64 a0_1, .int .i64 a0_2, .int .i64 a0_3, .int .i64 a0_4, .int .i64 a0_5, .int .i64 a0_6, .int .i64 a0_7, .int .i64 a0_8, .int .i64 a0_9] 23 (0, 0)) (by (with_reducible repeat (first | refine blk_drewN ?_ _ | refine blk_drew ?_ | refine blk_alloc ?_ _)); exact BK220.out) hb); have n1_ := Aside0.mk (blk_below (g := gb221) (o := .cells #[.int .i64 a1_0, .slice A1_1 l1_1.length c1_1] 26 (0, 0)) (by (with_reducible repeat (first | refine blk_drewN ?_ _ | refine blk_drew ?_ | refine blk_alloc ?_ _)); exact BK221.out) hb); have n2_ := Aside0.mk (below_step (by repeat (first | (with_reducible first | exact HB.out | apply below_alloc | apply pw_below_drewN | apply below_drew1 | refine below_set ?_ GE220.out | refine below_set ?_ GE221.out) | exact HB.out)) hb); clear BK220; clear BK221; clear HB; have BK220 := n0_; have BK221 := n1_; have HB := n2_; clear n0_ n1_ n2_; (try clear hb); (try clear hb2); (try clear hk); (try clear hi)) | ((with_reducible refine gate_callee (f := 38) rfl ?_); refine goesL_ (some 19) rfl rfl Try.func38 (by kernel_rfl) rfl #[.int .i64 a2, .int .i64 1099511627776] rfl (by (try simp only [List.map_toArray, List.map_cons, List.map_nil]); first | done | rfl | (simp only [List.length_drop, List.length_take]; rfl)) ?_; (with_reducible refine (reeveref07_Clip.calls a2 1099511627776 t223 _ A7.out).mono ?_); rintro e w' ⟨rfl, ⟨nd, rfl⟩⟩; refine ⟨_, rfl, ?_⟩; (try (rw [drewN_self w13]; generalize hq_ : World.drewN w13 _ = w13; have n0_ : Aside0 (w13.heap[gb220]? = some (.cells #[.int .i64 a0_0, .int .i64 a0_1, .int .i64 a0_2, .int .i64 a0_3, .int .i64 a0_4, .int .i64 a0_5, .int .i64 a0_6, .int .i64 a0_7, .int .i64 a0_8, .int .i64 a0_9] 23 (0, 0))) := ⟨by rw [← hq_]; exact (by (with_reducible repeat (first | refine blk_drewN ?_ _ | refine blk_drew ?_ | refine blk_alloc ?_ _)); exact BK220.out)⟩; have n1_ : Aside0 (w13.heap[gb221]? = some (.cells #[.int .i64 a1_0, .slice A1_1 l1_1.length c1_1] 26 (0, 0))) := ⟨by rw [← hq_]; exact (by (with_reducible repeat (first | refine blk_drewN ?_ _ | refine blk_drew ?_ | refine blk_alloc ?_ _)); exact BK221.out)⟩; have n2_ : Aside0 (Below w.heap.size w w13) := ⟨by rw [← hq_]; exact (by repeat (first | (with_reducible first | exact HB.out | apply below_alloc | apply pw_below_drewN | apply below_drew1 | refine below_set ?_ GE220.out | refine below_set ?_ GE221.out) | exact HB.out))⟩; clear BK220 BK221 HB hq_; have BK220 := n0_; have BK221 := n1_; have HB := n2_; clear n0_ n1_ n2_)); have hcz14_0 : w13.cell? ⟨gb220, 0, none⟩ = some (.int .i64 a0_0) := (blk_cell BK220.out 0).trans rfl; have hcz14_1 : w13.cell? ⟨gb220, 1, none⟩ = some (.int .i64 a0_1) := (blk_cell BK220.out 1).trans rfl; have hcz14_2 : w13.cell? ⟨gb220, 2, none⟩ = some (.int .i64 a0_2) := (blk_cell BK220.out 2).trans rfl; have hcz14_3 : w13.cell? ⟨gb220, 3, none⟩ = some (.int .i64 a0_3) := (blk_cell BK220.out 3).trans rfl; have hcz14_4 : w13.cell? ⟨gb220, 4, none⟩ = some (.int .i64 a0_4) := (blk_cell BK220.out 4).trans rfl; have hcz14_5 : w13.cell? ⟨gb220, 5, none⟩ = some (.int .i64 a0_5) := (blk_cell BK220.out 5).trans rfl; have hcz14_6 : w13.cell? ⟨gb220, 6, none⟩ = some (.int .i64 a0_6) := (blk_cell BK220.out 6).trans rfl; have hcz14_7 : w13.cell? ⟨gb220, 7, none⟩ = some (.int .i64 a0_7) := (blk_cell BK220.out 7).trans rfl; have hcz14_8 : w13.cell? ⟨gb220, 8, none⟩ = some (.int .i64 a0_8) := (blk_cell BK220.out 8).trans rfl; have hcz14_9 : w13.cell? ⟨gb220, 9, none⟩ = some (.int .i64 a0_9) := (blk_cell BK220.out 9).trans rfl; have hfz14_0 := blk_frozen BK220.out 0; have hfz14_1 := blk_frozen BK220.out 1; have hfz14_2 := blk_frozen BK220.out 2; have hfz14_3 := blk_frozen BK220.out 3; have hfz14_4 := blk_frozen BK220.out 4; have hfz14_5 := blk_frozen BK220.out 5; have hfz14_6 := blk_frozen BK220.out 6; have hfz14_7 := blk_frozen BK220.out 7; have hfz14_8 := blk_frozen BK220.out 8; have hfz14_9 := blk_frozen BK220.out 9; have hcz15_0 : w13.cell? ⟨gb221, 0, none⟩ = some (.int .i64 a1_0) := (blk_cell BK221.out 0).trans rfl; have hcz15_1 : w13.cell? ⟨gb221, 1, none⟩ = some (.slice A1_1 l1_1.length c1_1) := (blk_cell BK221.out 1).trans rfl; have hfz15_0 := blk_frozen BK221.out 0; have hfz15_1 := blk_frozen BK221.out 1) | ((with_reducible refine gate_callee (f := 37) rfl ?_); refine goesL_ (some 22) rfl rfl Try.func37 (by kernel_rfl) rfl #[.agg #[.int .i64 a0_0, .int .i64 a0_1, .int .i64 a0_2, .int .i64 a0_3, .int .i64 a0_4, .int .i64 a0_5, .int .i64 a0_6, .int .i64 a0_7, .int .i64 a0_8, .int .i64 a0_9], .agg #[.int .i64 a1_0, .slice A1_1 l1_1.length c1_1]] rfl (by (try simp only [List.map_toArray, List.map_cons, List.map_nil]); first | done | rfl | (simp only [List.length_drop, List.length_take]; rfl)) ?_; (with_reducible refine (reeveref08_counts.calls k a0_0 a0_1 a0_2 a0_3 a0_4 a0_5 a0_6 a0_7 a0_8 a0_9 a1_0 _ _ l1_1 t224 t225 _ ?side1 ?side2 A8.out).mono ?_); (case side1 => repeat (first | exact (Kd.C_below HR1_1.out HB.out) | (with_reducible refine Kd.C_alloc ?_ _) | (with_reducible refine Kd.C_drewN ?_ _) | (with_reducible refine Kd.C_drew ?_))); (case side2 => exact HC1_1.out); rintro e w16 ⟨v226, rfl, ho0, hb⟩; refine ⟨_, rfl, ?_⟩; have n0_ := Aside0.mk (Kd.R_lower ho0 (below_size (by repeat (first | (with_reducible first | exact HB.out | apply below_alloc | apply pw_below_drewN | apply below_drew1 | refine below_set ?_ GE220.out | refine below_set ?_ GE221.out) | exact HB.out)))); have n1_ := Aside0.mk (blk_below (g := gb220) (o := .cells #[.int .i64 a0_0, .int .i64 a0_1, .int .i64 a0_2, .int .i64 a0_3, .int .i64 a0_4, .int .i64 a0_5, .int .i64 a0_6, .int .i64 a0_7, .int .i64 a0_8, .int .i64 a0_9] 23 (0, 0)) (by (with_reducible repeat (first | refine blk_drewN ?_ _ | refine blk_drew ?_ | refine blk_alloc ?_ _)); exact BK220.out) hb); have n2_ := Aside0.mk (blk_below (g := gb221) (o := .cells #[.int .i64 a1_0, .slice A1_1 l1_1.length c1_1] 26 (0, 0)) (by (with_reducible repeat (first | refine blk_drewN ?_ _ | refine blk_drew ?_ | refine blk_alloc ?_ _)); exact BK221.out) hb); have n3_ := Aside0.mk (below_step (by repeat (first | (with_reducible first | exact HB.out | apply below_alloc | apply pw_below_drewN | apply below_drew1 | refine below_set ?_ GE220.out | refine below_set ?_ GE221.out) | exact HB.out)) hb); clear BK220; clear BK221; clear HB; have HO227 := n0_; have BK220 := n1_; have BK221 := n2_; have HB := n3_; clear n0_ n1_ n2_ n3_; (try clear hb); (try clear hb2); (try clear hk); (try clear hi); (try clear ho0); have hcz17_0 : w16.cell? ⟨gb221, 0, none⟩ = some (.int .i64 a1_0) := (blk_cell BK221.out 0).trans rfl; have hcz17_1 : w16.cell? ⟨gb221, 1, none⟩ = some (.slice A1_1 l1_1.length c1_1) := (blk_cell BK221.out 1).trans rfl; have hfz17_0 := blk_frozen BK221.out 0; have hfz17_1 := blk_frozen BK221.out 1; obtain ⟨Ao18, co18, eo18⟩ := Kd.R_slice HO227.out; subst eo18))
  go_loopg [10, 11] k (fun kq v10 v11 w' => ∃ (x10_1 : Int) (x11_1 : Int), v10 = .int .i64 x10_1 ∧ v11 = .int .i64 x11_1 ∧ Aside0 (reeveref08_When.l0 kq a3 x10_1 x11_1 a0_0 a0_1 a0_2 a0_3 a0_4 a0_5 a0_6 a0_7 a0_8 a0_9 t224 t225 = some r) ∧ Aside0 (kq ≤ k) ∧ Aside0 (Kd.R (Kd.int .i64) 3 w' w.heap.size (fun _ => True) (.slice Ao18 t225.length co18) t225) ∧ Aside0 (w'.heap[gb220]? = some (.cells #[.int .i64 a0_0, .int .i64 a0_1, .int .i64 a0_2, .int .i64 a0_3, .int .i64 a0_4, .int .i64 a0_5, .int .i64 a0_6, .int .i64 a0_7, .int .i64 a0_8, .int .i64 a0_9] 23 (0, 0))) ∧ Aside0 (w'.heap[gb221]? = some (.cells #[.int .i64 t224, (.slice Ao18 t225.length co18)] 26 (0, 0))) ∧ Aside0 (Below w.heap.size w w'))
  case atStart => exact ⟨(t223), (0), (by first | rfl | (simp; done) | (simp [*]; done) | (simp [Int.tdiv_eq_ediv_of_nonneg]; done)), (by first | rfl | (simp; done) | (simp [*]; done) | (simp [Int.tdiv_eq_ediv_of_nonneg]; done)), H', ⟨Nat.le_refl _⟩, ⟨by (with_reducible repeat (first | apply Kd.R_alloc | apply Kd.R_drewN | apply Kd.R_drew)); exact Kd.R_mono (Kd.R_far (p := ⟨gb221, 1, none⟩) (Kd.R_far (p := ⟨gb221, 0, none⟩) (Kd.R_types HO227.out BK221.out (by decide)) (fun _ hk => hk.2) (.int .i64 t224)) (fun _ hk => hk.2) (.slice Ao18 t225.length co18)) (fun _ hk => trivial)⟩, ⟨by (with_reducible repeat (first | refine blk_drewN ?_ _ | refine blk_drew ?_ | refine blk_alloc ?_ _)); refine blk_far ?_ NB220_221.out _; (with_reducible repeat (first | refine blk_drewN ?_ _ | refine blk_drew ?_ | refine blk_alloc ?_ _)); refine blk_far ?_ NB220_221.out _; (with_reducible repeat (first | refine blk_drewN ?_ _ | refine blk_drew ?_ | refine blk_alloc ?_ _)); exact BK220.out⟩, ⟨by (with_reducible repeat (first | refine blk_drewN ?_ _ | refine blk_drew ?_ | refine blk_alloc ?_ _)); refine blk_put (cs := #[.int .i64 t224, .slice A1_1 l1_1.length c1_1]) ?_ 1 _ rfl; (with_reducible repeat (first | refine blk_drewN ?_ _ | refine blk_drew ?_ | refine blk_alloc ?_ _)); refine blk_put (cs := #[.int .i64 a1_0, .slice A1_1 l1_1.length c1_1]) ?_ 0 _ rfl; (with_reducible repeat (first | refine blk_drewN ?_ _ | refine blk_drew ?_ | refine blk_alloc ?_ _)); exact BK221.out⟩, ⟨by repeat (first | (with_reducible first | exact HB.out | apply below_alloc | apply pw_below_drewN | apply below_drew1 | refine below_set ?_ GE220.out | refine below_set ?_ GE221.out) | exact HB.out)⟩⟩
  case round =>
   clear H'
   try clear c1
   try clear c2
   try clear p2
   try clear c3
   try clear c6
   try clear c11
   try clear hcz12_0
   try clear hcz12_1
   try clear hcz12_2
   try clear hcz12_3
   try clear hcz12_4
   try clear hcz12_5
   try clear hcz12_6
   try clear hcz12_7
   try clear hcz12_8
   try clear hcz12_9
   try clear hcz14_0
   try clear hcz14_1
   try clear hcz14_2
   try clear hcz14_3
   try clear hcz14_4
   try clear hcz14_5
   try clear hcz14_6
   try clear hcz14_7
   try clear hcz14_8
   try clear hcz14_9
   try clear hcz15_0
   try clear hcz15_1
   try clear hcz17_0
   try clear hcz17_1
   try clear hfz12_0
   try clear hfz12_1
   try clear hfz12_2
   try clear hfz12_3
   try clear hfz12_4
   try clear hfz12_5
   try clear hfz12_6
   try clear hfz12_7
   try clear hfz12_8
   try clear hfz12_9
   try clear hfz14_0
   try clear hfz14_1
   try clear hfz14_2
   try clear hfz14_3
   try clear hfz14_4
   try clear hfz14_5
   try clear hfz14_6
   try clear hfz14_7
   try clear hfz14_8
   try clear hfz14_9
   try clear hfz15_0
   try clear hfz15_1
   try clear hfz17_0
   try clear hfz17_1
   obtain ⟨x10_1, x11_1, rfl, rfl, HA, HK1, HO_222001, BK220, BK221, HB⟩ := hrel
   cases gk with
   | zero => exact absurd HA.out (by simp [reeveref08_When.l0])
   | succ k1 =>
    have H := HA.out
    clear HA
    simp only [reeveref08_When.l0] at H
    by_cases c19 : x11_1 ≤ (wrap64 (a0_5 + 1))
    ·rw [if_pos c19] at H
     have c19b0 : decide (x11_1 ≤ (wrap64 (a0_5 + 1))) = true := decide_eq_true c19
     clear c19
     replace H := Option.bind_eq_some_iff.mp H
     obtain ⟨⟨t228, t229⟩, A200, H⟩ := H
     replace H : ((reeveref08_May.f k1 a0_0 a0_1 a0_2 a0_3 a0_4 a0_5 a0_6 a0_7 a0_8 a0_9 t228 t229 a3).bind fun t232 => (if t232 = true then (some x10_1) else ((reeveref08_Grid.f a0_0 a0_1 a0_2 a0_3 a0_4 a0_5 a0_6 a0_7 a0_8 a0_9 x10_1).bind fun t233 => (if (wrap64 (t233 + 1)) ≤ t224 then (reeveref08_When.j1 k1 a3 x11_1 (wrap64 (t224 + 1)) a0_0 a0_1 a0_2 a0_3 a0_4 a0_5 a0_6 a0_7 a0_8 a0_9 t224 t225) else (reeveref08_When.j1 k1 a3 x11_1 (wrap64 (t233 + 1)) a0_0 a0_1 a0_2 a0_3 a0_4 a0_5 a0_6 a0_7 a0_8 a0_9 t224 t225))))) = some r := H
     have A20 := Aside0.mk A200
     clear A200
     replace H := Option.bind_eq_some_iff.mp H
     obtain ⟨t232, A210, H⟩ := H
     replace H : (if t232 = true then (some x10_1) else ((reeveref08_Grid.f a0_0 a0_1 a0_2 a0_3 a0_4 a0_5 a0_6 a0_7 a0_8 a0_9 x10_1).bind fun t233 => (if (wrap64 (t233 + 1)) ≤ t224 then (reeveref08_When.j1 k1 a3 x11_1 (wrap64 (t224 + 1)) a0_0 a0_1 a0_2 a0_3 a0_4 a0_5 a0_6 a0_7 a0_8 a0_9 t224 t225) else (reeveref08_When.j1 k1 a3 x11_1 (wrap64 (t233 + 1)) a0_0 a0_1 a0_2 a0_3 a0_4 a0_5 a0_6 a0_7 a0_8 a0_9 t224 t225)))) = some r := H
     have A21 := Aside0.mk A210
     clear A210
     by_cases c22 : t232 = true
     ·subst c22
      have H1 : (some x10_1) = some r := by rw [if_pos rfl] at H; exact H
      clear H
      have H := H1
      clear H1
      obtain rfl := Option.some.inj H
      have hnb23 := NB220_221.out
      have hnc23 := NB221_220.out
      have hcz24_0 : wr.cell? ⟨gb220, 0, none⟩ = some (.int .i64 a0_0) := (blk_cell BK220.out 0).trans rfl
      have hcz24_1 : wr.cell? ⟨gb220, 1, none⟩ = some (.int .i64 a0_1) := (blk_cell BK220.out 1).trans rfl
      have hcz24_2 : wr.cell? ⟨gb220, 2, none⟩ = some (.int .i64 a0_2) := (blk_cell BK220.out 2).trans rfl
      have hcz24_3 : wr.cell? ⟨gb220, 3, none⟩ = some (.int .i64 a0_3) := (blk_cell BK220.out 3).trans rfl
      have hcz24_4 : wr.cell? ⟨gb220, 4, none⟩ = some (.int .i64 a0_4) := (blk_cell BK220.out 4).trans rfl
      have hcz24_5 : wr.cell? ⟨gb220, 5, none⟩ = some (.int .i64 a0_5) := (blk_cell BK220.out 5).trans rfl
      have hcz24_6 : wr.cell? ⟨gb220, 6, none⟩ = some (.int .i64 a0_6) := (blk_cell BK220.out 6).trans rfl
      have hcz24_7 : wr.cell? ⟨gb220, 7, none⟩ = some (.int .i64 a0_7) := (blk_cell BK220.out 7).trans rfl
      have hcz24_8 : wr.cell? ⟨gb220, 8, none⟩ = some (.int .i64 a0_8) := (blk_cell BK220.out 8).trans rfl
      have hcz24_9 : wr.cell? ⟨gb220, 9, none⟩ = some (.int .i64 a0_9) := (blk_cell BK220.out 9).trans rfl
      have hfz24_0 := blk_frozen BK220.out 0
      have hfz24_1 := blk_frozen BK220.out 1
      have hfz24_2 := blk_frozen BK220.out 2
      have hfz24_3 := blk_frozen BK220.out 3
      have hfz24_4 := blk_frozen BK220.out 4
      have hfz24_5 := blk_frozen BK220.out 5
      have hfz24_6 := blk_frozen BK220.out 6
      have hfz24_7 := blk_frozen BK220.out 7
      have hfz24_8 := blk_frozen BK220.out 8
      have hfz24_9 := blk_frozen BK220.out 9
      try go_wp2
      have n0_ := Aside0.mk (Kd.R_drew HO_222001.out)
      have n1_ := Aside0.mk (blk_drew BK220.out)
      have n2_ := Aside0.mk (blk_drew BK221.out)
      have n3_ := Aside0.mk (below_drew1 HB.out)
      clear HO_222001
      clear BK220
      clear BK221
      clear HB
      have HO_222001 := n0_
      have BK220 := n1_
      have BK221 := n2_
      have HB := n3_
      clear n0_ n1_ n2_ n3_
      refine start_ (n := 8) (S := fun w' => w'.cell? ⟨gb220, 0, none⟩ = some (.int .i64 a0_0) ∧ w'.cell? ⟨gb220, 1, none⟩ = some (.int .i64 a0_1) ∧ w'.cell? ⟨gb220, 2, none⟩ = some (.int .i64 a0_2) ∧ w'.cell? ⟨gb220, 3, none⟩ = some (.int .i64 a0_3) ∧ w'.cell? ⟨gb220, 4, none⟩ = some (.int .i64 a0_4) ∧ w'.cell? ⟨gb220, 5, none⟩ = some (.int .i64 a0_5) ∧ w'.cell? ⟨gb220, 6, none⟩ = some (.int .i64 a0_6) ∧ w'.cell? ⟨gb220, 7, none⟩ = some (.int .i64 a0_7) ∧ w'.cell? ⟨gb220, 8, none⟩ = some (.int .i64 a0_8) ∧ w'.cell? ⟨gb220, 9, none⟩ = some (.int .i64 a0_9) ∧ w'.cell? ⟨gb221, 0, none⟩ = some (.int .i64 t224) ∧ w'.cell? ⟨gb221, 1, none⟩ = some (.slice Ao18 t225.length co18)) (ds := []) #[false, false, false, false, false, false, false, false] (by kernel_rfl) rfl rfl ⟨(blk_cell BK220.out 0).trans rfl, (blk_cell BK220.out 1).trans rfl, (blk_cell BK220.out 2).trans rfl, (blk_cell BK220.out 3).trans rfl, (blk_cell BK220.out 4).trans rfl, (blk_cell BK220.out 5).trans rfl, (blk_cell BK220.out 6).trans rfl, (blk_cell BK220.out 7).trans rfl, (blk_cell BK220.out 8).trans rfl, (blk_cell BK220.out 9).trans rfl, (blk_cell BK221.out 0).trans rfl, (blk_cell BK221.out 1).trans rfl⟩ (fun hHeld => ?_); refine with_tabW reeveref08_When.tab9 reeveref08_When.bits9 (fun HT_ HW_ => ?_)
      generalize wr.drew = w25 at HO_222001 BK220 BK221 HB hHeld ⊢
      refine pure_ (i := 3) (N := some 33) (v := ?_) (a' := ?_) #[false, false, false, true, false, false, false, false] rfl rfl (any_of HT_.out (by kernel_rfl)) (fun _ _ _ h => h) (Or.inl ⟨by rfl, ?_⟩) ?_ ?_
      rotate_left
      ·intro w'
       go_simp
       with_reducible rfl
      rotate_left
      ·simp only [Act.put, List.setIfInBounds_toArray, List.set_cons_zero, List.set_cons_succ, i64_w, i32_w]
       rfl
      refine pure_ (i := 5) (N := some 35) (v := ?_) (a' := ?_) #[false, false, false, true, false, true, false, false] rfl rfl (any_of HT_.out (by kernel_rfl)) (fun _ _ _ h => h) (Or.inl ⟨by rfl, ?_⟩) ?_ ?_
      rotate_left
      ·intro w'
       go_simp
       with_reducible rfl
      rotate_left
      ·simp only [Act.put, List.setIfInBounds_toArray, List.set_cons_zero, List.set_cons_succ, i64_w, i32_w]
       rfl
      refine take_ (i := 0) (N := some 30) (v := ?_) (a' := ?_) #[true, false, false, true, false, true, false, false] rfl rfl (take_ofW HT_.out HW_.out (by kernel_rfl)) (fun _ _ _ h => h) (Or.inl ⟨by rfl, ?_⟩) hHeld ?_ ?_
      rotate_left
      ·rintro w' ⟨s0, s1, s2, s3, s4, s5, s6, s7, s8, s9, s10, s11⟩
       go_simp
       with_reducible rfl
      rotate_left
      ·simp only [Act.put, List.setIfInBounds_toArray, List.set_cons_zero, List.set_cons_succ, i64_w, i32_w]
       rfl
      refine take_ (i := 1) (N := some 31) (v := ?_) (a' := ?_) #[true, true, false, true, false, true, false, false] rfl rfl (take_ofW HT_.out HW_.out (by kernel_rfl)) (fun _ _ _ h => h) (Or.inl ⟨by rfl, ?_⟩) hHeld ?_ ?_
      rotate_left
      ·rintro w' ⟨s0, s1, s2, s3, s4, s5, s6, s7, s8, s9, s10, s11⟩
       go_simp
       with_reducible rfl
      rotate_left
      ·simp only [Act.put, List.setIfInBounds_toArray, List.set_cons_zero, List.set_cons_succ, i64_w, i32_w]
       rfl
      refine take_ (i := 2) (N := some 32) (v := ?_) (a' := ?_) #[true, true, true, true, false, true, false, false] rfl rfl (take_ofW HT_.out HW_.out (by kernel_rfl)) (fun _ _ _ h => h) (Or.inl ⟨by rfl, ?_⟩) hHeld ?_ ?_
      rotate_left
      ·rintro w' ⟨s0, s1, s2, s3, s4, s5, s6, s7, s8, s9, s10, s11⟩
       go_simp
       with_reducible rfl
      rotate_left
      ·simp only [Act.put, List.setIfInBounds_toArray, List.set_cons_zero, List.set_cons_succ, i64_w, i32_w]
       rfl
      refine one_ (i := 4) (N := some 34) #[true, true, true, true, true, true, false, false] rfl rfl (one_of HT_.out (by kernel_rfl)) (by decide) (fun K hK => ?_)
      refine goes_ Try.func20 (by kernel_rfl) rfl #[.agg #[.int .i64 a0_0, .int .i64 a0_1, .int .i64 a0_2, .int .i64 a0_3, .int .i64 a0_4, .int .i64 a0_5, .int .i64 a0_6, .int .i64 a0_7, .int .i64 a0_8, .int .i64 a0_9], .agg #[.int .i64 t224, .slice Ao18 t225.length co18], .int .i64 x10_1] (by rfl) rfl rfl (by (try simp only [List.map_toArray, List.map_cons, List.map_nil]); first | done | rfl | (simp only [List.length_drop, List.length_take]; rfl)) ?_
      with_reducible refine (reeveref08_Move.calls k1 a0_0 a0_1 a0_2 a0_3 a0_4 a0_5 a0_6 a0_7 a0_8 a0_9 t224 _ _ t225 x10_1 t228 t229 _ ?side1 ?side2 A20.out).mono ?_
      (case side1 => repeat (first | exact (Kd.R_reads' HO_222001.out).2.2 | (with_reducible refine Kd.C_alloc ?_ _) | (with_reducible refine Kd.C_drewN ?_ _) | (with_reducible refine Kd.C_drew ?_)))
      (case side2 => exact (Kd.R_reads' HO_222001.out).2.1)
      rintro e w26 ⟨v230, rfl, ho0, hb⟩
      refine ⟨_, rfl, ?_⟩
      have n0_ := Aside0.mk (Kd.R_elder' (by (with_reducible repeat (first | apply Kd.R_alloc | apply Kd.R_drewN | apply Kd.R_drew)); exact HO_222001.out) (Kd.R_base ho0) hb)
      have n1_ := Aside0.mk (Kd.R_lower (Kd.R_new' ho0 (Kd.R_lt (by (with_reducible repeat (first | apply Kd.R_alloc | apply Kd.R_drewN | apply Kd.R_drew)); exact HO_222001.out))) (below_size (by repeat (first | (with_reducible first | exact HB.out | apply below_alloc | apply pw_below_drewN | apply below_drew1 | refine below_set ?_ GE220.out | refine below_set ?_ GE221.out) | exact HB.out))))
      have n2_ := Aside0.mk (blk_below (g := gb220) (o := .cells #[.int .i64 a0_0, .int .i64 a0_1, .int .i64 a0_2, .int .i64 a0_3, .int .i64 a0_4, .int .i64 a0_5, .int .i64 a0_6, .int .i64 a0_7, .int .i64 a0_8, .int .i64 a0_9] 23 (0, 0)) (by (with_reducible repeat (first | refine blk_drewN ?_ _ | refine blk_drew ?_ | refine blk_alloc ?_ _)); exact BK220.out) hb)
      have n3_ := Aside0.mk (blk_below (g := gb221) (o := .cells #[.int .i64 t224, .slice Ao18 t225.length co18] 26 (0, 0)) (by (with_reducible repeat (first | refine blk_drewN ?_ _ | refine blk_drew ?_ | refine blk_alloc ?_ _)); exact BK221.out) hb)
      have n4_ := Aside0.mk (below_step (by repeat (first | (with_reducible first | exact HB.out | apply below_alloc | apply pw_below_drewN | apply below_drew1 | refine below_set ?_ GE220.out | refine below_set ?_ GE221.out) | exact HB.out)) hb)
      clear HO_222001
      clear BK220
      clear BK221
      clear HB
      have HO_222001 := n0_
      have HO231 := n1_
      have BK220 := n2_
      have BK221 := n3_
      have HB := n4_
      clear n0_ n1_ n2_ n3_ n4_
      (try clear hb)
      (try clear hb2)
      (try clear hk)
      (try clear hi)
      (try clear ho0)
      obtain ⟨Ao27, co27, eo27⟩ := Kd.R_slice HO231.out
      (first | subst eo27 | (injection eo27 with f1_ f2_ f3_; have f4_ := f1_.symm; have f5_ := f3_.symm; clear f1_ f2_ f3_; subst f4_; subst f5_))
      refine hK.out _ _ ⟨(blk_cell BK220.out 0).trans rfl, (blk_cell BK220.out 1).trans rfl, (blk_cell BK220.out 2).trans rfl, (blk_cell BK220.out 3).trans rfl, (blk_cell BK220.out 4).trans rfl, (blk_cell BK220.out 5).trans rfl, (blk_cell BK220.out 6).trans rfl, (blk_cell BK220.out 7).trans rfl, (blk_cell BK220.out 8).trans rfl, (blk_cell BK220.out 9).trans rfl, (blk_cell BK221.out 0).trans rfl, (blk_cell BK221.out 1).trans rfl⟩ (fun hHeld => ?_)
      clear hK K
      refine norm_ (a' := ?_) ?_ ?_
      rotate_left
      ·show Act.put _ (some 34) _ = _
       simp only [Act.put, List.setIfInBounds_toArray, List.set_cons_zero, List.set_cons_succ, i64_w, i32_w]
       rfl
      refine one_ (i := 6) (N := some 36) #[true, true, true, true, true, true, true, false] rfl rfl (one_of HT_.out (by kernel_rfl)) (by decide) (fun K hK => ?_)
      refine goes_ Try.func25 (by kernel_rfl) rfl #[.agg #[.int .i64 a0_0, .int .i64 a0_1, .int .i64 a0_2, .int .i64 a0_3, .int .i64 a0_4, .int .i64 a0_5, .int .i64 a0_6, .int .i64 a0_7, .int .i64 a0_8, .int .i64 a0_9], .agg #[.int .i64 t228, .slice Ao27 t229.length co27], .int .i64 a3] (by rfl) rfl rfl (by (try simp only [List.map_toArray, List.map_cons, List.map_nil]); first | done | rfl | (simp only [List.length_drop, List.length_take]; rfl)) ?_
      with_reducible refine (reeveref08_May.calls k1 a0_0 a0_1 a0_2 a0_3 a0_4 a0_5 a0_6 a0_7 a0_8 a0_9 t228 _ _ t229 a3 true _ ?side1 ?side2 A21.out).mono ?_
      (case side1 => repeat (first | exact (Kd.R_reads' HO231.out).2.2 | (with_reducible refine Kd.C_alloc ?_ _) | (with_reducible refine Kd.C_drewN ?_ _) | (with_reducible refine Kd.C_drew ?_)))
      (case side2 => exact (Kd.R_reads' HO231.out).2.1)
      rintro e w28 ⟨rfl, hb⟩
      refine ⟨_, rfl, ?_⟩
      have n0_ := Aside0.mk (Kd.R_below (by (with_reducible repeat (first | apply Kd.R_alloc | apply Kd.R_drewN | apply Kd.R_drew)); exact HO_222001.out) hb)
      have n1_ := Aside0.mk (Kd.R_below (by (with_reducible repeat (first | apply Kd.R_alloc | apply Kd.R_drewN | apply Kd.R_drew)); exact HO231.out) hb)
      have n2_ := Aside0.mk (blk_below (g := gb220) (o := .cells #[.int .i64 a0_0, .int .i64 a0_1, .int .i64 a0_2, .int .i64 a0_3, .int .i64 a0_4, .int .i64 a0_5, .int .i64 a0_6, .int .i64 a0_7, .int .i64 a0_8, .int .i64 a0_9] 23 (0, 0)) (by (with_reducible repeat (first | refine blk_drewN ?_ _ | refine blk_drew ?_ | refine blk_alloc ?_ _)); exact BK220.out) hb)
      have n3_ := Aside0.mk (blk_below (g := gb221) (o := .cells #[.int .i64 t224, .slice Ao18 t225.length co18] 26 (0, 0)) (by (with_reducible repeat (first | refine blk_drewN ?_ _ | refine blk_drew ?_ | refine blk_alloc ?_ _)); exact BK221.out) hb)
      have n4_ := Aside0.mk (below_step (by repeat (first | (with_reducible first | exact HB.out | apply below_alloc | apply pw_below_drewN | apply below_drew1 | refine below_set ?_ GE220.out | refine below_set ?_ GE221.out) | exact HB.out)) hb)
      clear HO_222001
      clear HO231
      clear BK220
      clear BK221
      clear HB
      have HO_222001 := n0_
      have HO231 := n1_
      have BK220 := n2_
      have BK221 := n3_
      have HB := n4_
      clear n0_ n1_ n2_ n3_ n4_
      (try clear hb)
      (try clear hb2)
      (try clear hk)
      (try clear hi)
      refine hK.out _ _ ⟨(blk_cell BK220.out 0).trans rfl, (blk_cell BK220.out 1).trans rfl, (blk_cell BK220.out 2).trans rfl, (blk_cell BK220.out 3).trans rfl, (blk_cell BK220.out 4).trans rfl, (blk_cell BK220.out 5).trans rfl, (blk_cell BK220.out 6).trans rfl, (blk_cell BK220.out 7).trans rfl, (blk_cell BK220.out 8).trans rfl, (blk_cell BK220.out 9).trans rfl, (blk_cell BK221.out 0).trans rfl, (blk_cell BK221.out 1).trans rfl⟩ (fun hHeld => ?_)
      clear hK K
      refine norm_ (a' := ?_) ?_ ?_
      rotate_left
      ·show Act.put _ (some 36) _ = _
       simp only [Act.put, List.setIfInBounds_toArray, List.set_cons_zero, List.set_cons_succ, i64_w, i32_w]
       rfl
      refine pure_ (i := 7) (N := some 12) (v := ?_) (a' := ?_) #[true, true, true, true, true, true, true, true] rfl rfl (any_of HT_.out (by kernel_rfl)) (fun _ _ _ h => h) (Or.inl ⟨by rfl, ?_⟩) ?_ ?_
      rotate_left
      ·intro w'
       go_simp
       with_reducible rfl
      rotate_left
      ·simp only [Act.put, List.setIfInBounds_toArray, List.set_cons_zero, List.set_cons_succ, i64_w, i32_w]
       rfl
      refine done_ (done_of HT_.out (by kernel_rfl)) ?_
      try go_wp2
      go_ret
      exact ⟨by first | rfl | (simp only [i64_w] <;> rfl) | (simp [errW_none, errW_some] <;> rfl) | (simp [*, errW_none, errW_some] <;> rfl), by repeat (first | (with_reducible first | exact HB.out | apply below_alloc | apply pw_below_drewN | apply below_drew1 | refine below_set ?_ GE220.out | refine below_set ?_ GE221.out) | exact HB.out)⟩
     ·replace c22 := Bool.eq_false_iff.mpr c22
      subst c22
      have H1 : ((reeveref08_Grid.f a0_0 a0_1 a0_2 a0_3 a0_4 a0_5 a0_6 a0_7 a0_8 a0_9 x10_1).bind fun t233 => (if (wrap64 (t233 + 1)) ≤ t224 then (reeveref08_When.j1 k1 a3 x11_1 (wrap64 (t224 + 1)) a0_0 a0_1 a0_2 a0_3 a0_4 a0_5 a0_6 a0_7 a0_8 a0_9 t224 t225) else (reeveref08_When.j1 k1 a3 x11_1 (wrap64 (t233 + 1)) a0_0 a0_1 a0_2 a0_3 a0_4 a0_5 a0_6 a0_7 a0_8 a0_9 t224 t225))) = some r := by rw [if_neg (show ¬ (false = true) by decide)] at H; exact H
      clear H
      have H := H1
      clear H1
      replace H := Option.bind_eq_some_iff.mp H
      obtain ⟨t233, A290, H⟩ := H
      replace H : (if (wrap64 (t233 + 1)) ≤ t224 then (reeveref08_When.j1 k1 a3 x11_1 (wrap64 (t224 + 1)) a0_0 a0_1 a0_2 a0_3 a0_4 a0_5 a0_6 a0_7 a0_8 a0_9 t224 t225) else (reeveref08_When.j1 k1 a3 x11_1 (wrap64 (t233 + 1)) a0_0 a0_1 a0_2 a0_3 a0_4 a0_5 a0_6 a0_7 a0_8 a0_9 t224 t225)) = some r := H
      have A29 := Aside0.mk A290
      clear A290
      have HC30 := Aside0.mk H
      clear H
      have hnb31 := NB220_221.out
      have hnc31 := NB221_220.out
      have hcz32_0 : wr.cell? ⟨gb220, 0, none⟩ = some (.int .i64 a0_0) := (blk_cell BK220.out 0).trans rfl
      have hcz32_1 : wr.cell? ⟨gb220, 1, none⟩ = some (.int .i64 a0_1) := (blk_cell BK220.out 1).trans rfl
      have hcz32_2 : wr.cell? ⟨gb220, 2, none⟩ = some (.int .i64 a0_2) := (blk_cell BK220.out 2).trans rfl
      have hcz32_3 : wr.cell? ⟨gb220, 3, none⟩ = some (.int .i64 a0_3) := (blk_cell BK220.out 3).trans rfl
      have hcz32_4 : wr.cell? ⟨gb220, 4, none⟩ = some (.int .i64 a0_4) := (blk_cell BK220.out 4).trans rfl
      have hcz32_5 : wr.cell? ⟨gb220, 5, none⟩ = some (.int .i64 a0_5) := (blk_cell BK220.out 5).trans rfl
      have hcz32_6 : wr.cell? ⟨gb220, 6, none⟩ = some (.int .i64 a0_6) := (blk_cell BK220.out 6).trans rfl
      have hcz32_7 : wr.cell? ⟨gb220, 7, none⟩ = some (.int .i64 a0_7) := (blk_cell BK220.out 7).trans rfl
      have hcz32_8 : wr.cell? ⟨gb220, 8, none⟩ = some (.int .i64 a0_8) := (blk_cell BK220.out 8).trans rfl
      have hcz32_9 : wr.cell? ⟨gb220, 9, none⟩ = some (.int .i64 a0_9) := (blk_cell BK220.out 9).trans rfl
      have hfz32_0 := blk_frozen BK220.out 0
      have hfz32_1 := blk_frozen BK220.out 1
      have hfz32_2 := blk_frozen BK220.out 2
      have hfz32_3 := blk_frozen BK220.out 3
      have hfz32_4 := blk_frozen BK220.out 4
      have hfz32_5 := blk_frozen BK220.out 5
      have hfz32_6 := blk_frozen BK220.out 6
      have hfz32_7 := blk_frozen BK220.out 7
      have hfz32_8 := blk_frozen BK220.out 8
      have hfz32_9 := blk_frozen BK220.out 9
      try go_wp2
      have n0_ := Aside0.mk (Kd.R_drew HO_222001.out)
      have n1_ := Aside0.mk (blk_drew BK220.out)
      have n2_ := Aside0.mk (blk_drew BK221.out)
      have n3_ := Aside0.mk (below_drew1 HB.out)
      clear HO_222001
      clear BK220
      clear BK221
      clear HB
      have HO_222001 := n0_
      have BK220 := n1_
      have BK221 := n2_
      have HB := n3_
      clear n0_ n1_ n2_ n3_
      refine start_ (n := 8) (S := fun w' => w'.cell? ⟨gb220, 0, none⟩ = some (.int .i64 a0_0) ∧ w'.cell? ⟨gb220, 1, none⟩ = some (.int .i64 a0_1) ∧ w'.cell? ⟨gb220, 2, none⟩ = some (.int .i64 a0_2) ∧ w'.cell? ⟨gb220, 3, none⟩ = some (.int .i64 a0_3) ∧ w'.cell? ⟨gb220, 4, none⟩ = some (.int .i64 a0_4) ∧ w'.cell? ⟨gb220, 5, none⟩ = some (.int .i64 a0_5) ∧ w'.cell? ⟨gb220, 6, none⟩ = some (.int .i64 a0_6) ∧ w'.cell? ⟨gb220, 7, none⟩ = some (.int .i64 a0_7) ∧ w'.cell? ⟨gb220, 8, none⟩ = some (.int .i64 a0_8) ∧ w'.cell? ⟨gb220, 9, none⟩ = some (.int .i64 a0_9) ∧ w'.cell? ⟨gb221, 0, none⟩ = some (.int .i64 t224) ∧ w'.cell? ⟨gb221, 1, none⟩ = some (.slice Ao18 t225.length co18)) (ds := []) #[false, false, false, false, false, false, false, false] (by kernel_rfl) rfl rfl ⟨(blk_cell BK220.out 0).trans rfl, (blk_cell BK220.out 1).trans rfl, (blk_cell BK220.out 2).trans rfl, (blk_cell BK220.out 3).trans rfl, (blk_cell BK220.out 4).trans rfl, (blk_cell BK220.out 5).trans rfl, (blk_cell BK220.out 6).trans rfl, (blk_cell BK220.out 7).trans rfl, (blk_cell BK220.out 8).trans rfl, (blk_cell BK220.out 9).trans rfl, (blk_cell BK221.out 0).trans rfl, (blk_cell BK221.out 1).trans rfl⟩ (fun hHeld => ?_); refine with_tabW reeveref08_When.tab9 reeveref08_When.bits9 (fun HT_ HW_ => ?_)
      generalize wr.drew = w33 at HO_222001 BK220 BK221 HB hHeld ⊢
      refine pure_ (i := 3) (N := some 33) (v := ?_) (a' := ?_) #[false, false, false, true, false, false, false, false] rfl rfl (any_of HT_.out (by kernel_rfl)) (fun _ _ _ h => h) (Or.inl ⟨by rfl, ?_⟩) ?_ ?_
      rotate_left
      ·intro w'
       go_simp
       with_reducible rfl
      rotate_left
      ·simp only [Act.put, List.setIfInBounds_toArray, List.set_cons_zero, List.set_cons_succ, i64_w, i32_w]
       rfl
      refine pure_ (i := 5) (N := some 35) (v := ?_) (a' := ?_) #[false, false, false, true, false, true, false, false] rfl rfl (any_of HT_.out (by kernel_rfl)) (fun _ _ _ h => h) (Or.inl ⟨by rfl, ?_⟩) ?_ ?_
      rotate_left
      ·intro w'
       go_simp
       with_reducible rfl
      rotate_left
      ·simp only [Act.put, List.setIfInBounds_toArray, List.set_cons_zero, List.set_cons_succ, i64_w, i32_w]
       rfl
      refine take_ (i := 0) (N := some 30) (v := ?_) (a' := ?_) #[true, false, false, true, false, true, false, false] rfl rfl (take_ofW HT_.out HW_.out (by kernel_rfl)) (fun _ _ _ h => h) (Or.inl ⟨by rfl, ?_⟩) hHeld ?_ ?_
      rotate_left
      ·rintro w' ⟨s0, s1, s2, s3, s4, s5, s6, s7, s8, s9, s10, s11⟩
       go_simp
       with_reducible rfl
      rotate_left
      ·simp only [Act.put, List.setIfInBounds_toArray, List.set_cons_zero, List.set_cons_succ, i64_w, i32_w]
       rfl
      refine take_ (i := 1) (N := some 31) (v := ?_) (a' := ?_) #[true, true, false, true, false, true, false, false] rfl rfl (take_ofW HT_.out HW_.out (by kernel_rfl)) (fun _ _ _ h => h) (Or.inl ⟨by rfl, ?_⟩) hHeld ?_ ?_
      rotate_left
      ·rintro w' ⟨s0, s1, s2, s3, s4, s5, s6, s7, s8, s9, s10, s11⟩
       go_simp
       with_reducible rfl
      rotate_left
      ·simp only [Act.put, List.setIfInBounds_toArray, List.set_cons_zero, List.set_cons_succ, i64_w, i32_w]
       rfl
      refine take_ (i := 2) (N := some 32) (v := ?_) (a' := ?_) #[true, true, true, true, false, true, false, false] rfl rfl (take_ofW HT_.out HW_.out (by kernel_rfl)) (fun _ _ _ h => h) (Or.inl ⟨by rfl, ?_⟩) hHeld ?_ ?_
      rotate_left
      ·rintro w' ⟨s0, s1, s2, s3, s4, s5, s6, s7, s8, s9, s10, s11⟩
       go_simp
       with_reducible rfl
      rotate_left
      ·simp only [Act.put, List.setIfInBounds_toArray, List.set_cons_zero, List.set_cons_succ, i64_w, i32_w]
       rfl
      refine one_ (i := 4) (N := some 34) #[true, true, true, true, true, true, false, false] rfl rfl (one_of HT_.out (by kernel_rfl)) (by decide) (fun K hK => ?_)
      refine goes_ Try.func20 (by kernel_rfl) rfl #[.agg #[.int .i64 a0_0, .int .i64 a0_1, .int .i64 a0_2, .int .i64 a0_3, .int .i64 a0_4, .int .i64 a0_5, .int .i64 a0_6, .int .i64 a0_7, .int .i64 a0_8, .int .i64 a0_9], .agg #[.int .i64 t224, .slice Ao18 t225.length co18], .int .i64 x10_1] (by rfl) rfl rfl (by (try simp only [List.map_toArray, List.map_cons, List.map_nil]); first | done | rfl | (simp only [List.length_drop, List.length_take]; rfl)) ?_
      with_reducible refine (reeveref08_Move.calls k1 a0_0 a0_1 a0_2 a0_3 a0_4 a0_5 a0_6 a0_7 a0_8 a0_9 t224 _ _ t225 x10_1 t228 t229 _ ?side1 ?side2 A20.out).mono ?_
      (case side1 => repeat (first | exact (Kd.R_reads' HO_222001.out).2.2 | (with_reducible refine Kd.C_alloc ?_ _) | (with_reducible refine Kd.C_drewN ?_ _) | (with_reducible refine Kd.C_drew ?_)))
      (case side2 => exact (Kd.R_reads' HO_222001.out).2.1)
      rintro e w34 ⟨v230, rfl, ho0, hb⟩
      refine ⟨_, rfl, ?_⟩
      have n0_ := Aside0.mk (Kd.R_elder' (by (with_reducible repeat (first | apply Kd.R_alloc | apply Kd.R_drewN | apply Kd.R_drew)); exact HO_222001.out) (Kd.R_base ho0) hb)
      have n1_ := Aside0.mk (Kd.R_lower (Kd.R_new' ho0 (Kd.R_lt (by (with_reducible repeat (first | apply Kd.R_alloc | apply Kd.R_drewN | apply Kd.R_drew)); exact HO_222001.out))) (below_size (by repeat (first | (with_reducible first | exact HB.out | apply below_alloc | apply pw_below_drewN | apply below_drew1 | refine below_set ?_ GE220.out | refine below_set ?_ GE221.out) | exact HB.out))))
      have n2_ := Aside0.mk (blk_below (g := gb220) (o := .cells #[.int .i64 a0_0, .int .i64 a0_1, .int .i64 a0_2, .int .i64 a0_3, .int .i64 a0_4, .int .i64 a0_5, .int .i64 a0_6, .int .i64 a0_7, .int .i64 a0_8, .int .i64 a0_9] 23 (0, 0)) (by (with_reducible repeat (first | refine blk_drewN ?_ _ | refine blk_drew ?_ | refine blk_alloc ?_ _)); exact BK220.out) hb)
      have n3_ := Aside0.mk (blk_below (g := gb221) (o := .cells #[.int .i64 t224, .slice Ao18 t225.length co18] 26 (0, 0)) (by (with_reducible repeat (first | refine blk_drewN ?_ _ | refine blk_drew ?_ | refine blk_alloc ?_ _)); exact BK221.out) hb)
      have n4_ := Aside0.mk (below_step (by repeat (first | (with_reducible first | exact HB.out | apply below_alloc | apply pw_below_drewN | apply below_drew1 | refine below_set ?_ GE220.out | refine below_set ?_ GE221.out) | exact HB.out)) hb)
      clear HO_222001
      clear BK220
      clear BK221
      clear HB
      have HO_222001 := n0_
      have HO231 := n1_
      have BK220 := n2_
      have BK221 := n3_
      have HB := n4_
      clear n0_ n1_ n2_ n3_ n4_
      (try clear hb)
      (try clear hb2)
      (try clear hk)
      (try clear hi)
      (try clear ho0)
      obtain ⟨Ao35, co35, eo35⟩ := Kd.R_slice HO231.out
      (first | subst eo35 | (injection eo35 with f1_ f2_ f3_; have f4_ := f1_.symm; have f5_ := f3_.symm; clear f1_ f2_ f3_; subst f4_; subst f5_))
      refine hK.out _ _ ⟨(blk_cell BK220.out 0).trans rfl, (blk_cell BK220.out 1).trans rfl, (blk_cell BK220.out 2).trans rfl, (blk_cell BK220.out 3).trans rfl, (blk_cell BK220.out 4).trans rfl, (blk_cell BK220.out 5).trans rfl, (blk_cell BK220.out 6).trans rfl, (blk_cell BK220.out 7).trans rfl, (blk_cell BK220.out 8).trans rfl, (blk_cell BK220.out 9).trans rfl, (blk_cell BK221.out 0).trans rfl, (blk_cell BK221.out 1).trans rfl⟩ (fun hHeld => ?_)
      clear hK K
      refine norm_ (a' := ?_) ?_ ?_
      rotate_left
      ·show Act.put _ (some 34) _ = _
       simp only [Act.put, List.setIfInBounds_toArray, List.set_cons_zero, List.set_cons_succ, i64_w, i32_w]
       rfl
      refine one_ (i := 6) (N := some 36) #[true, true, true, true, true, true, true, false] rfl rfl (one_of HT_.out (by kernel_rfl)) (by decide) (fun K hK => ?_)
      refine goes_ Try.func25 (by kernel_rfl) rfl #[.agg #[.int .i64 a0_0, .int .i64 a0_1, .int .i64 a0_2, .int .i64 a0_3, .int .i64 a0_4, .int .i64 a0_5, .int .i64 a0_6, .int .i64 a0_7, .int .i64 a0_8, .int .i64 a0_9], .agg #[.int .i64 t228, .slice Ao35 t229.length co35], .int .i64 a3] (by rfl) rfl rfl (by (try simp only [List.map_toArray, List.map_cons, List.map_nil]); first | done | rfl | (simp only [List.length_drop, List.length_take]; rfl)) ?_
      with_reducible refine (reeveref08_May.calls k1 a0_0 a0_1 a0_2 a0_3 a0_4 a0_5 a0_6 a0_7 a0_8 a0_9 t228 _ _ t229 a3 false _ ?side1 ?side2 A21.out).mono ?_
      (case side1 => repeat (first | exact (Kd.R_reads' HO231.out).2.2 | (with_reducible refine Kd.C_alloc ?_ _) | (with_reducible refine Kd.C_drewN ?_ _) | (with_reducible refine Kd.C_drew ?_)))
      (case side2 => exact (Kd.R_reads' HO231.out).2.1)
      rintro e w36 ⟨rfl, hb⟩
      refine ⟨_, rfl, ?_⟩
      have n0_ := Aside0.mk (Kd.R_below (by (with_reducible repeat (first | apply Kd.R_alloc | apply Kd.R_drewN | apply Kd.R_drew)); exact HO_222001.out) hb)
      have n1_ := Aside0.mk (Kd.R_below (by (with_reducible repeat (first | apply Kd.R_alloc | apply Kd.R_drewN | apply Kd.R_drew)); exact HO231.out) hb)
      have n2_ := Aside0.mk (blk_below (g := gb220) (o := .cells #[.int .i64 a0_0, .int .i64 a0_1, .int .i64 a0_2, .int .i64 a0_3, .int .i64 a0_4, .int .i64 a0_5, .int .i64 a0_6, .int .i64 a0_7, .int .i64 a0_8, .int .i64 a0_9] 23 (0, 0)) (by (with_reducible repeat (first | refine blk_drewN ?_ _ | refine blk_drew ?_ | refine blk_alloc ?_ _)); exact BK220.out) hb)
      have n3_ := Aside0.mk (blk_below (g := gb221) (o := .cells #[.int .i64 t224, .slice Ao18 t225.length co18] 26 (0, 0)) (by (with_reducible repeat (first | refine blk_drewN ?_ _ | refine blk_drew ?_ | refine blk_alloc ?_ _)); exact BK221.out) hb)
      have n4_ := Aside0.mk (below_step (by repeat (first | (with_reducible first | exact HB.out | apply below_alloc | apply pw_below_drewN | apply below_drew1 | refine below_set ?_ GE220.out | refine below_set ?_ GE221.out) | exact HB.out)) hb)
      clear HO_222001
      clear HO231
      clear BK220
      clear BK221
      clear HB
      have HO_222001 := n0_
      have HO231 := n1_
      have BK220 := n2_
      have BK221 := n3_
      have HB := n4_
      clear n0_ n1_ n2_ n3_ n4_
      (try clear hb)
      (try clear hb2)
      (try clear hk)
      (try clear hi)
      refine hK.out _ _ ⟨(blk_cell BK220.out 0).trans rfl, (blk_cell BK220.out 1).trans rfl, (blk_cell BK220.out 2).trans rfl, (blk_cell BK220.out 3).trans rfl, (blk_cell BK220.out 4).trans rfl, (blk_cell BK220.out 5).trans rfl, (blk_cell BK220.out 6).trans rfl, (blk_cell BK220.out 7).trans rfl, (blk_cell BK220.out 8).trans rfl, (blk_cell BK220.out 9).trans rfl, (blk_cell BK221.out 0).trans rfl, (blk_cell BK221.out 1).trans rfl⟩ (fun hHeld => ?_)
      clear hK K
      refine norm_ (a' := ?_) ?_ ?_
      rotate_left
      ·show Act.put _ (some 36) _ = _
       simp only [Act.put, List.setIfInBounds_toArray, List.set_cons_zero, List.set_cons_succ, i64_w, i32_w]
       rfl
      refine pure_ (i := 7) (N := some 12) (v := ?_) (a' := ?_) #[true, true, true, true, true, true, true, true] rfl rfl (any_of HT_.out (by kernel_rfl)) (fun _ _ _ h => h) (Or.inl ⟨by rfl, ?_⟩) ?_ ?_
      rotate_left
      ·intro w'
       go_simp
       with_reducible rfl
      rotate_left
      ·simp only [Act.put, List.setIfInBounds_toArray, List.set_cons_zero, List.set_cons_succ, i64_w, i32_w]
       rfl
      refine done_ (done_of HT_.out (by kernel_rfl)) ?_
      have hcz37_0 : w36.cell? ⟨gb220, 0, none⟩ = some (.int .i64 a0_0) := (blk_cell BK220.out 0).trans rfl
      have hcz37_1 : w36.cell? ⟨gb220, 1, none⟩ = some (.int .i64 a0_1) := (blk_cell BK220.out 1).trans rfl
      have hcz37_2 : w36.cell? ⟨gb220, 2, none⟩ = some (.int .i64 a0_2) := (blk_cell BK220.out 2).trans rfl
      have hcz37_3 : w36.cell? ⟨gb220, 3, none⟩ = some (.int .i64 a0_3) := (blk_cell BK220.out 3).trans rfl
      have hcz37_4 : w36.cell? ⟨gb220, 4, none⟩ = some (.int .i64 a0_4) := (blk_cell BK220.out 4).trans rfl
      have hcz37_5 : w36.cell? ⟨gb220, 5, none⟩ = some (.int .i64 a0_5) := (blk_cell BK220.out 5).trans rfl
      have hcz37_6 : w36.cell? ⟨gb220, 6, none⟩ = some (.int .i64 a0_6) := (blk_cell BK220.out 6).trans rfl
      have hcz37_7 : w36.cell? ⟨gb220, 7, none⟩ = some (.int .i64 a0_7) := (blk_cell BK220.out 7).trans rfl
      have hcz37_8 : w36.cell? ⟨gb220, 8, none⟩ = some (.int .i64 a0_8) := (blk_cell BK220.out 8).trans rfl
      have hcz37_9 : w36.cell? ⟨gb220, 9, none⟩ = some (.int .i64 a0_9) := (blk_cell BK220.out 9).trans rfl
      have hfz37_0 := blk_frozen BK220.out 0
      have hfz37_1 := blk_frozen BK220.out 1
      have hfz37_2 := blk_frozen BK220.out 2
      have hfz37_3 := blk_frozen BK220.out 3
      have hfz37_4 := blk_frozen BK220.out 4
      have hfz37_5 := blk_frozen BK220.out 5
      have hfz37_6 := blk_frozen BK220.out 6
      have hfz37_7 := blk_frozen BK220.out 7
      have hfz37_8 := blk_frozen BK220.out 8
      have hfz37_9 := blk_frozen BK220.out 9
      go_upto_if 46 with (first | ((with_reducible refine gate_callee (f := 26) rfl ?_); refine goesL_ (some 41) rfl rfl Try.func26 (by kernel_rfl) rfl #[.agg #[.int .i64 a0_0, .int .i64 a0_1, .int .i64 a0_2, .int .i64 a0_3, .int .i64 a0_4, .int .i64 a0_5, .int .i64 a0_6, .int .i64 a0_7, .int .i64 a0_8, .int .i64 a0_9], .int .i64 x10_1] rfl (by (try simp only [List.map_toArray, List.map_cons, List.map_nil]); first | done | rfl | (simp only [List.length_drop, List.length_take]; rfl)) ?_; (with_reducible refine (reeveref08_Grid.calls a0_0 a0_1 a0_2 a0_3 a0_4 a0_5 a0_6 a0_7 a0_8 a0_9 x10_1 t233 _ A29.out).mono ?_); rintro e w38 ⟨rfl, hb⟩; refine ⟨_, rfl, ?_⟩; have n0_ := Aside0.mk (Kd.R_below (by (with_reducible repeat (first | apply Kd.R_alloc | apply Kd.R_drewN | apply Kd.R_drew)); exact HO_222001.out) hb); have n1_ := Aside0.mk (Kd.R_below (by (with_reducible repeat (first | apply Kd.R_alloc | apply Kd.R_drewN | apply Kd.R_drew)); exact HO231.out) hb); have n2_ := Aside0.mk (blk_below (g := gb220) (o := .cells #[.int .i64 a0_0, .int .i64 a0_1, .int .i64 a0_2, .int .i64 a0_3, .int .i64 a0_4, .int .i64 a0_5, .int .i64 a0_6, .int .i64 a0_7, .int .i64 a0_8, .int .i64 a0_9] 23 (0, 0)) (by (with_reducible repeat (first | refine blk_drewN ?_ _ | refine blk_drew ?_ | refine blk_alloc ?_ _)); exact BK220.out) hb); have n3_ := Aside0.mk (blk_below (g := gb221) (o := .cells #[.int .i64 t224, .slice Ao18 t225.length co18] 26 (0, 0)) (by (with_reducible repeat (first | refine blk_drewN ?_ _ | refine blk_drew ?_ | refine blk_alloc ?_ _)); exact BK221.out) hb); have n4_ := Aside0.mk (below_step (by repeat (first | (with_reducible first | exact HB.out | apply below_alloc | apply pw_below_drewN | apply below_drew1 | refine below_set ?_ GE220.out | refine below_set ?_ GE221.out) | exact HB.out)) hb); clear HO_222001; clear HO231; clear BK220; clear BK221; clear HB; have HO_222001 := n0_; have HO231 := n1_; have BK220 := n2_; have BK221 := n3_; have HB := n4_; clear n0_ n1_ n2_ n3_ n4_; (try clear hb); (try clear hb2); (try clear hk); (try clear hi); have hcz39_0 : w38.cell? ⟨gb221, 0, none⟩ = some (.int .i64 t224) := (blk_cell BK221.out 0).trans rfl; have hcz39_1 : w38.cell? ⟨gb221, 1, none⟩ = some (.slice Ao18 t225.length co18) := (blk_cell BK221.out 1).trans rfl; have hfz39_0 := blk_frozen BK221.out 0; have hfz39_1 := blk_frozen BK221.out 1))
      (try simp only [Act.put, List.setIfInBounds_toArray, List.set_cons_zero, List.set_cons_succ])
      go_cut [13] (fun v13 wc => ∃ (kq : Nat) (x13_29 : Int), v13 = .int .i64 x13_29 ∧ Aside0 (reeveref08_When.j1 kq a3 x11_1 x13_29 a0_0 a0_1 a0_2 a0_3 a0_4 a0_5 a0_6 a0_7 a0_8 a0_9 t224 t225 = some r) ∧ Aside0 (kq ≤ k1) ∧ Aside0 (Kd.R (Kd.int .i64) 3 wc w.heap.size (fun _ => True) (.slice Ao18 t225.length co18) t225) ∧ Aside0 (wc.heap[gb220]? = some (.cells #[.int .i64 a0_0, .int .i64 a0_1, .int .i64 a0_2, .int .i64 a0_3, .int .i64 a0_4, .int .i64 a0_5, .int .i64 a0_6, .int .i64 a0_7, .int .i64 a0_8, .int .i64 a0_9] 23 (0, 0))) ∧ Aside0 (wc.heap[gb221]? = some (.cells #[.int .i64 t224, (.slice Ao18 t225.length co18)] 26 (0, 0))) ∧ Aside0 (Below w.heap.size w wc))
      case first =>
       have H := HC30.out
       clear HC30
       by_cases c40 : (wrap64 (t233 + 1)) ≤ t224
       ·rw [if_pos c40] at H
        have c40b0 : decide ((wrap64 (t233 + 1)) ≤ t224) = true := decide_eq_true c40
        clear c40
        (first | rw [c40b0] | (simp only [i64_w, i32_w]; rw [c40b0]) | skip)
        have H' := Aside0.mk H
        clear H
        have hnb41 := NB221_220.out
        have hnc41 := NB220_221.out
        have hcz42_0 : w38.cell? ⟨gb221, 0, none⟩ = some (.int .i64 t224) := (blk_cell BK221.out 0).trans rfl
        have hcz42_1 : w38.cell? ⟨gb221, 1, none⟩ = some (.slice Ao18 t225.length co18) := (blk_cell BK221.out 1).trans rfl
        have hfz42_0 := blk_frozen BK221.out 0
        have hfz42_1 := blk_frozen BK221.out 1
        go_wp2
        go_meet
        case rel => exact ⟨_, (wrap64 (t224 + 1)), (by first | rfl | (simp; done) | (simp [*]; done) | (simp [Int.tdiv_eq_ediv_of_nonneg]; done)), H', ⟨by have := HK1.out; first | omega | exact Nat.le_refl _⟩, ⟨by (with_reducible repeat (first | apply Kd.R_alloc | apply Kd.R_drewN | apply Kd.R_drew)); exact Kd.R_mono HO_222001.out (fun _ hk => trivial)⟩, ⟨by (with_reducible repeat (first | refine blk_drewN ?_ _ | refine blk_drew ?_ | refine blk_alloc ?_ _)); exact BK220.out⟩, ⟨by (with_reducible repeat (first | refine blk_drewN ?_ _ | refine blk_drew ?_ | refine blk_alloc ?_ _)); exact BK221.out⟩, ⟨by repeat (first | (with_reducible first | exact HB.out | apply below_alloc | apply pw_below_drewN | apply below_drew1 | refine below_set ?_ GE220.out | refine below_set ?_ GE221.out) | exact HB.out)⟩⟩
       ·rw [if_neg c40] at H
        have c40b0 : decide ((wrap64 (t233 + 1)) ≤ t224) = false := decide_eq_false c40
        clear c40
        (first | rw [c40b0] | (simp only [i64_w, i32_w]; rw [c40b0]) | skip)
        have H' := Aside0.mk H
        clear H
        go_wp2
        go_meet
        case rel => exact ⟨_, (wrap64 (t233 + 1)), (by first | rfl | (simp; done) | (simp [*]; done) | (simp [Int.tdiv_eq_ediv_of_nonneg]; done)), H', ⟨by have := HK1.out; first | omega | exact Nat.le_refl _⟩, ⟨by (with_reducible repeat (first | apply Kd.R_alloc | apply Kd.R_drewN | apply Kd.R_drew)); exact Kd.R_mono HO_222001.out (fun _ hk => trivial)⟩, ⟨by (with_reducible repeat (first | refine blk_drewN ?_ _ | refine blk_drew ?_ | refine blk_alloc ?_ _)); exact BK220.out⟩, ⟨by (with_reducible repeat (first | refine blk_drewN ?_ _ | refine blk_drew ?_ | refine blk_alloc ?_ _)); exact BK221.out⟩, ⟨by repeat (first | (with_reducible first | exact HB.out | apply below_alloc | apply pw_below_drewN | apply below_drew1 | refine below_set ?_ GE220.out | refine below_set ?_ GE221.out) | exact HB.out)⟩⟩
      case rest =>
       clear HC30
       try clear c1
       try clear c2
       try clear p2
       try clear c3
       try clear c4
       try clear c6
       try clear p6
       try clear c11
       try clear c19
       try clear c19b0
       try clear c20
       try clear c22
       try clear c23
       try clear c25
       try clear c26
       try clear c28
       try clear c31
       try clear c36
       try clear c37
       try clear c38
       try clear c40
       try clear c40b0
       try clear c41
       try clear hcz12_0
       try clear hcz12_1
       try clear hcz12_2
       try clear hcz12_3
       try clear hcz12_4
       try clear hcz12_5
       try clear hcz12_6
       try clear hcz12_7
       try clear hcz12_8
       try clear hcz12_9
       try clear hcz14_0
       try clear hcz14_1
       try clear hcz14_2
       try clear hcz14_3
       try clear hcz14_4
       try clear hcz14_5
       try clear hcz14_6
       try clear hcz14_7
       try clear hcz14_8
       try clear hcz14_9
       try clear hcz15_0
       try clear hcz15_1
       try clear hcz17_0
       try clear hcz17_1
       try clear hcz24_0
       try clear hcz24_1
       try clear hcz24_2
       try clear hcz24_3
       try clear hcz24_4
       try clear hcz24_5
       try clear hcz24_6
       try clear hcz24_7
       try clear hcz24_8
       try clear hcz24_9
       try clear hcz32_0
       try clear hcz32_1
       try clear hcz32_2
       try clear hcz32_3
       try clear hcz32_4
       try clear hcz32_5
       try clear hcz32_6
       try clear hcz32_7
       try clear hcz32_8
       try clear hcz32_9
       try clear hcz37_0
       try clear hcz37_1
       try clear hcz37_2
       try clear hcz37_3
       try clear hcz37_4
       try clear hcz37_5
       try clear hcz37_6
       try clear hcz37_7
       try clear hcz37_8
       try clear hcz37_9
       try clear hcz39_0
       try clear hcz39_1
       try clear hcz42_0
       try clear hcz42_1
       try clear hfz12_0
       try clear hfz12_1
       try clear hfz12_2
       try clear hfz12_3
       try clear hfz12_4
       try clear hfz12_5
       try clear hfz12_6
       try clear hfz12_7
       try clear hfz12_8
       try clear hfz12_9
       try clear hfz14_0
       try clear hfz14_1
       try clear hfz14_2
       try clear hfz14_3
       try clear hfz14_4
       try clear hfz14_5
       try clear hfz14_6
       try clear hfz14_7
       try clear hfz14_8
       try clear hfz14_9
       try clear hfz15_0
       try clear hfz15_1
       try clear hfz17_0
       try clear hfz17_1
       try clear hfz24_0
       try clear hfz24_1
       try clear hfz24_2
       try clear hfz24_3
       try clear hfz24_4
       try clear hfz24_5
       try clear hfz24_6
       try clear hfz24_7
       try clear hfz24_8
       try clear hfz24_9
       try clear hfz32_0
       try clear hfz32_1
       try clear hfz32_2
       try clear hfz32_3
       try clear hfz32_4
       try clear hfz32_5
       try clear hfz32_6
       try clear hfz32_7
       try clear hfz32_8
       try clear hfz32_9
       try clear hfz37_0
       try clear hfz37_1
       try clear hfz37_2
       try clear hfz37_3
       try clear hfz37_4
       try clear hfz37_5
       try clear hfz37_6
       try clear hfz37_7
       try clear hfz37_8
       try clear hfz37_9
       try clear hfz39_0
       try clear hfz39_1
       try clear hfz42_0
       try clear hfz42_1
       try clear p2
       obtain ⟨kq, x13_29, rfl, HA, HJ29, HO_222001, BK220, BK221, HB⟩ := hcut
       cases kq with
       | zero => exact absurd HA.out (by simp [reeveref08_When.j1])
       | succ kj29 =>
        have H := HA.out
        clear HA
        simp only [reeveref08_When.j1] at H
        by_cases c43 : (wrap64 (x13_29 * a0_4)) > 1099511627776
        ·rw [if_pos c43] at H
         have c43b0 : decide (1099511627776 < (wrap64 (x13_29 * a0_4))) = true := decide_eq_true c43
         clear c43
         obtain rfl := Option.some.inj H
         have hnb44 := NB220_221.out
         have hnc44 := NB221_220.out
         have hcz45_0 : wc.cell? ⟨gb220, 0, none⟩ = some (.int .i64 a0_0) := (blk_cell BK220.out 0).trans rfl
         have hcz45_1 : wc.cell? ⟨gb220, 1, none⟩ = some (.int .i64 a0_1) := (blk_cell BK220.out 1).trans rfl
         have hcz45_2 : wc.cell? ⟨gb220, 2, none⟩ = some (.int .i64 a0_2) := (blk_cell BK220.out 2).trans rfl
         have hcz45_3 : wc.cell? ⟨gb220, 3, none⟩ = some (.int .i64 a0_3) := (blk_cell BK220.out 3).trans rfl
         have hcz45_4 : wc.cell? ⟨gb220, 4, none⟩ = some (.int .i64 a0_4) := (blk_cell BK220.out 4).trans rfl
         have hcz45_5 : wc.cell? ⟨gb220, 5, none⟩ = some (.int .i64 a0_5) := (blk_cell BK220.out 5).trans rfl
         have hcz45_6 : wc.cell? ⟨gb220, 6, none⟩ = some (.int .i64 a0_6) := (blk_cell BK220.out 6).trans rfl
         have hcz45_7 : wc.cell? ⟨gb220, 7, none⟩ = some (.int .i64 a0_7) := (blk_cell BK220.out 7).trans rfl
         have hcz45_8 : wc.cell? ⟨gb220, 8, none⟩ = some (.int .i64 a0_8) := (blk_cell BK220.out 8).trans rfl
         have hcz45_9 : wc.cell? ⟨gb220, 9, none⟩ = some (.int .i64 a0_9) := (blk_cell BK220.out 9).trans rfl
         have hfz45_0 := blk_frozen BK220.out 0
         have hfz45_1 := blk_frozen BK220.out 1
         have hfz45_2 := blk_frozen BK220.out 2
         have hfz45_3 := blk_frozen BK220.out 3
         have hfz45_4 := blk_frozen BK220.out 4
         have hfz45_5 := blk_frozen BK220.out 5
         have hfz45_6 := blk_frozen BK220.out 6
         have hfz45_7 := blk_frozen BK220.out 7
         have hfz45_8 := blk_frozen BK220.out 8
         have hfz45_9 := blk_frozen BK220.out 9
         go_wp2
         go_ret
         exact ⟨by first | rfl | (simp only [i64_w] <;> rfl) | (simp [errW_none, errW_some] <;> rfl) | (simp [*, errW_none, errW_some] <;> rfl), by repeat (first | (with_reducible first | exact HB.out | apply below_alloc | apply pw_below_drewN | apply below_drew1 | refine below_set ?_ GE220.out | refine below_set ?_ GE221.out) | exact HB.out)⟩
        ·rw [if_neg c43] at H
         have c43b0 : decide (1099511627776 < (wrap64 (x13_29 * a0_4))) = false := decide_eq_false c43
         clear c43
         have H' := Aside0.mk H
         clear H
         have hnb46 := NB220_221.out
         have hnc46 := NB221_220.out
         have hcz47_0 : wc.cell? ⟨gb220, 0, none⟩ = some (.int .i64 a0_0) := (blk_cell BK220.out 0).trans rfl
         have hcz47_1 : wc.cell? ⟨gb220, 1, none⟩ = some (.int .i64 a0_1) := (blk_cell BK220.out 1).trans rfl
         have hcz47_2 : wc.cell? ⟨gb220, 2, none⟩ = some (.int .i64 a0_2) := (blk_cell BK220.out 2).trans rfl
         have hcz47_3 : wc.cell? ⟨gb220, 3, none⟩ = some (.int .i64 a0_3) := (blk_cell BK220.out 3).trans rfl
         have hcz47_4 : wc.cell? ⟨gb220, 4, none⟩ = some (.int .i64 a0_4) := (blk_cell BK220.out 4).trans rfl
         have hcz47_5 : wc.cell? ⟨gb220, 5, none⟩ = some (.int .i64 a0_5) := (blk_cell BK220.out 5).trans rfl
         have hcz47_6 : wc.cell? ⟨gb220, 6, none⟩ = some (.int .i64 a0_6) := (blk_cell BK220.out 6).trans rfl
         have hcz47_7 : wc.cell? ⟨gb220, 7, none⟩ = some (.int .i64 a0_7) := (blk_cell BK220.out 7).trans rfl
         have hcz47_8 : wc.cell? ⟨gb220, 8, none⟩ = some (.int .i64 a0_8) := (blk_cell BK220.out 8).trans rfl
         have hcz47_9 : wc.cell? ⟨gb220, 9, none⟩ = some (.int .i64 a0_9) := (blk_cell BK220.out 9).trans rfl
         have hfz47_0 := blk_frozen BK220.out 0
         have hfz47_1 := blk_frozen BK220.out 1
         have hfz47_2 := blk_frozen BK220.out 2
         have hfz47_3 := blk_frozen BK220.out 3
         have hfz47_4 := blk_frozen BK220.out 4
         have hfz47_5 := blk_frozen BK220.out 5
         have hfz47_6 := blk_frozen BK220.out 6
         have hfz47_7 := blk_frozen BK220.out 7
         have hfz47_8 := blk_frozen BK220.out 8
         have hfz47_9 := blk_frozen BK220.out 9
         go_wp2
         go_roundg kj29
         case measure => have := HK1.out; have := HJ29.out; omega
         case rel => exact ⟨(wrap64 (x13_29 * a0_4)), (wrap64 (x11_1 + 1)), (by first | rfl | (simp; done) | (simp [*]; done) | (simp [Int.tdiv_eq_ediv_of_nonneg]; done)), (by first | rfl | (simp; done) | (simp [*]; done) | (simp [Int.tdiv_eq_ediv_of_nonneg]; done)), H', ⟨by have := HK1.out; have := HJ29.out; omega⟩, ⟨by (with_reducible repeat (first | apply Kd.R_alloc | apply Kd.R_drewN | apply Kd.R_drew)); exact HO_222001.out⟩, ⟨by (with_reducible repeat (first | refine blk_drewN ?_ _ | refine blk_drew ?_ | refine blk_alloc ?_ _)); exact BK220.out⟩, ⟨by (with_reducible repeat (first | refine blk_drewN ?_ _ | refine blk_drew ?_ | refine blk_alloc ?_ _)); exact BK221.out⟩, ⟨by repeat (first | (with_reducible first | exact HB.out | apply below_alloc | apply pw_below_drewN | apply below_drew1 | refine below_set ?_ GE220.out | refine below_set ?_ GE221.out) | exact HB.out)⟩⟩
    ·rw [if_neg c19] at H
     have c19b0 : decide (x11_1 ≤ (wrap64 (a0_5 + 1))) = false := decide_eq_false c19
     clear c19
     obtain rfl := Option.some.inj H
     have hnb48 := NB220_221.out
     have hnc48 := NB221_220.out
     have hcz49_0 : wr.cell? ⟨gb220, 0, none⟩ = some (.int .i64 a0_0) := (blk_cell BK220.out 0).trans rfl
     have hcz49_1 : wr.cell? ⟨gb220, 1, none⟩ = some (.int .i64 a0_1) := (blk_cell BK220.out 1).trans rfl
     have hcz49_2 : wr.cell? ⟨gb220, 2, none⟩ = some (.int .i64 a0_2) := (blk_cell BK220.out 2).trans rfl
     have hcz49_3 : wr.cell? ⟨gb220, 3, none⟩ = some (.int .i64 a0_3) := (blk_cell BK220.out 3).trans rfl
     have hcz49_4 : wr.cell? ⟨gb220, 4, none⟩ = some (.int .i64 a0_4) := (blk_cell BK220.out 4).trans rfl
     have hcz49_5 : wr.cell? ⟨gb220, 5, none⟩ = some (.int .i64 a0_5) := (blk_cell BK220.out 5).trans rfl
     have hcz49_6 : wr.cell? ⟨gb220, 6, none⟩ = some (.int .i64 a0_6) := (blk_cell BK220.out 6).trans rfl
     have hcz49_7 : wr.cell? ⟨gb220, 7, none⟩ = some (.int .i64 a0_7) := (blk_cell BK220.out 7).trans rfl
     have hcz49_8 : wr.cell? ⟨gb220, 8, none⟩ = some (.int .i64 a0_8) := (blk_cell BK220.out 8).trans rfl
     have hcz49_9 : wr.cell? ⟨gb220, 9, none⟩ = some (.int .i64 a0_9) := (blk_cell BK220.out 9).trans rfl
     have hfz49_0 := blk_frozen BK220.out 0
     have hfz49_1 := blk_frozen BK220.out 1
     have hfz49_2 := blk_frozen BK220.out 2
     have hfz49_3 := blk_frozen BK220.out 3
     have hfz49_4 := blk_frozen BK220.out 4
     have hfz49_5 := blk_frozen BK220.out 5
     have hfz49_6 := blk_frozen BK220.out 6
     have hfz49_7 := blk_frozen BK220.out 7
     have hfz49_8 := blk_frozen BK220.out 8
     have hfz49_9 := blk_frozen BK220.out 9
     go_wp2
     go_ret
     exact ⟨by first | rfl | (simp only [i64_w] <;> rfl) | (simp [errW_none, errW_some] <;> rfl) | (simp [*, errW_none, errW_some] <;> rfl), by repeat (first | (with_reducible first | exact HB.out | apply below_alloc | apply pw_below_drewN | apply below_drew1 | refine below_set ?_ GE220.out | refine below_set ?_ GE221.out) | exact HB.out)⟩
 ·replace c6 := Bool.eq_false_iff.mpr c6
  subst c6
  have H1 : (some (-1)) = some r := by rw [if_neg (show ¬ (false = true) by decide)] at H; exact H
  clear H
  have H := H1
  clear H1
  obtain rfl := Option.some.inj H
  go_enter Try.func28, Try.ntmps28
  go_wp2_with (first | ((with_reducible refine gate_dst (N := 4) rfl ?_); refine box_event ?hg (N := 4) ?hd (cs := #[.int .i64 a0_0, .int .i64 a0_1, .int .i64 a0_2, .int .i64 a0_3, .int .i64 a0_4, .int .i64 a0_5, .int .i64 a0_6, .int .i64 a0_7, .int .i64 a0_8, .int .i64 a0_9]) (t := 23) ?hr ?_; (case hd => rfl); (case hg => rfl); (case hr => first | (go_simp; done) | (go_simp; rfl)); intro gb220 hg w50 hbox hb; have n0_ := Aside0.mk (below_step (by repeat (first | (with_reducible first | exact HB.out | apply below_alloc | apply pw_below_drewN | apply below_drew1) | exact HB.out)) hb); have n1_ := Aside0.mk (hbox); have n2_ := Aside0.mk ((by rw [hg]; exact (below_size (by repeat (first | (with_reducible first | exact HB.out | apply below_alloc | apply pw_below_drewN | apply below_drew1) | exact HB.out))) : w.heap.size ≤ gb220)); have n3_ := Aside0.mk ((by rw [hg]; exact (below_size (by repeat (first | (with_reducible first | exact HB.out | apply below_alloc | apply pw_below_drewN | apply below_drew1) | exact HB.out))) : w.heap.size ≤ gb220)); clear HB; have HB := n0_; have BK220 := n1_; have GW220 := n2_; have GE220 := n3_; clear n0_ n1_ n2_ n3_; clear hb hbox hg) | ((with_reducible refine gate_dst (N := 5) rfl ?_); refine box_event ?hg (N := 5) ?hd (cs := #[.int .i64 a1_0, .slice A1_1 l1_1.length c1_1]) (t := 26) ?hr ?_; (case hd => rfl); (case hg => rfl); (case hr => first | (go_simp; done) | (go_simp; rfl)); intro gb221 hg w51 hbox hb; have n0_ := Aside0.mk (blk_below (g := gb220) (o := .cells #[.int .i64 a0_0, .int .i64 a0_1, .int .i64 a0_2, .int .i64 a0_3, .int .i64 a0_4, .int .i64 a0_5, .int .i64 a0_6, .int .i64 a0_7, .int .i64 a0_8, .int .i64 a0_9] 23 (0, 0)) (by (with_reducible repeat (first | refine blk_drewN ?_ _ | refine blk_drew ?_ | refine blk_alloc ?_ _)); exact BK220.out) hb); have n1_ := Aside0.mk (below_step (by repeat (first | (with_reducible first | exact HB.out | apply below_alloc | apply pw_below_drewN | apply below_drew1 | refine below_set ?_ GE220.out) | exact HB.out)) hb); have n2_ := Aside0.mk (hbox); have n3_ := Aside0.mk ((by rw [hg]; exact (below_size (by repeat (first | (with_reducible first | exact HB.out | apply below_alloc | apply pw_below_drewN | apply below_drew1 | refine below_set ?_ GE220.out) | exact HB.out))) : w.heap.size ≤ gb221)); have n4_ := Aside0.mk ((by rw [hg]; exact (below_size (by repeat (first | (with_reducible first | exact HB.out | apply below_alloc | apply pw_below_drewN | apply below_drew1 | refine below_set ?_ GE220.out) | exact HB.out))) : w.heap.size ≤ gb221)); have n5_ := Aside0.mk ((by rw [hg]; exact Nat.ne_of_lt (blk_lt (g := gb220) (o := .cells #[.int .i64 a0_0, .int .i64 a0_1, .int .i64 a0_2, .int .i64 a0_3, .int .i64 a0_4, .int .i64 a0_5, .int .i64 a0_6, .int .i64 a0_7, .int .i64 a0_8, .int .i64 a0_9] 23 (0, 0)) (by (with_reducible repeat (first | refine blk_drewN ?_ _ | refine blk_drew ?_ | refine blk_alloc ?_ _)); exact BK220.out)) : gb220 ≠ gb221)); have n6_ := Aside0.mk ((by rw [hg]; exact Nat.ne_of_gt (blk_lt (g := gb220) (o := .cells #[.int .i64 a0_0, .int .i64 a0_1, .int .i64 a0_2, .int .i64 a0_3, .int .i64 a0_4, .int .i64 a0_5, .int .i64 a0_6, .int .i64 a0_7, .int .i64 a0_8, .int .i64 a0_9] 23 (0, 0)) (by (with_reducible repeat (first | refine blk_drewN ?_ _ | refine blk_drew ?_ | refine blk_alloc ?_ _)); exact BK220.out)) : gb221 ≠ gb220)); clear BK220; clear HB; have BK220 := n0_; have HB := n1_; have BK221 := n2_; have GW221 := n3_; have GE221 := n4_; have NB220_221 := n5_; have NB221_220 := n6_; clear n0_ n1_ n2_ n3_ n4_ n5_ n6_; clear hb hbox hg; have hnb52 := NB220_221.out; have hnc52 := NB221_220.out; have hcz53_0 : w51.cell? ⟨gb220, 0, none⟩ = some (.int .i64 a0_0) := (blk_cell BK220.out 0).trans rfl; have hcz53_1 : w51.cell? ⟨gb220, 1, none⟩ = some (.int .i64 a0_1) := (blk_cell BK220.out 1).trans rfl; have hcz53_2 : w51.cell? ⟨gb220, 2, none⟩ = some (.int .i64 a0_2) := (blk_cell BK220.out 2).trans rfl; have hcz53_3 : w51.cell? ⟨gb220, 3, none⟩ = some (.int .i64 a0_3) := (blk_cell BK220.out 3).trans rfl; have hcz53_4 : w51.cell? ⟨gb220, 4, none⟩ = some (.int .i64 a0_4) := (blk_cell BK220.out 4).trans rfl; have hcz53_5 : w51.cell? ⟨gb220, 5, none⟩ = some (.int .i64 a0_5) := (blk_cell BK220.out 5).trans rfl; have hcz53_6 : w51.cell? ⟨gb220, 6, none⟩ = some (.int .i64 a0_6) := (blk_cell BK220.out 6).trans rfl; have hcz53_7 : w51.cell? ⟨gb220, 7, none⟩ = some (.int .i64 a0_7) := (blk_cell BK220.out 7).trans rfl; have hcz53_8 : w51.cell? ⟨gb220, 8, none⟩ = some (.int .i64 a0_8) := (blk_cell BK220.out 8).trans rfl; have hcz53_9 : w51.cell? ⟨gb220, 9, none⟩ = some (.int .i64 a0_9) := (blk_cell BK220.out 9).trans rfl; have hfz53_0 := blk_frozen BK220.out 0; have hfz53_1 := blk_frozen BK220.out 1; have hfz53_2 := blk_frozen BK220.out 2; have hfz53_3 := blk_frozen BK220.out 3; have hfz53_4 := blk_frozen BK220.out 4; have hfz53_5 := blk_frozen BK220.out 5; have hfz53_6 := blk_frozen BK220.out 6; have hfz53_7 := blk_frozen BK220.out 7; have hfz53_8 := blk_frozen BK220.out 8; have hfz53_9 := blk_frozen BK220.out 9) | ((with_reducible refine gate_callee (f := 36) rfl ?_); refine goesL_ (some 15) rfl rfl Try.func36 (by kernel_rfl) rfl #[.agg #[.int .i64 a0_0, .int .i64 a0_1, .int .i64 a0_2, .int .i64 a0_3, .int .i64 a0_4, .int .i64 a0_5, .int .i64 a0_6, .int .i64 a0_7, .int .i64 a0_8, .int .i64 a0_9]] rfl (by (try simp only [List.map_toArray, List.map_cons, List.map_nil]); first | done | rfl | (simp only [List.length_drop, List.length_take]; rfl)) ?_; (with_reducible refine (reeveref08_Means.calls a0_0 a0_1 a0_2 a0_3 a0_4 a0_5 a0_6 a0_7 a0_8 a0_9 false _ A5.out).mono ?_); rintro e w54 ⟨rfl, hb⟩; refine ⟨_, rfl, ?_⟩; have n0_ := Aside0.mk (blk_below (g := gb220) (o := .cells #[.int .i64 a0_0, .int .i64 a0_1, .int .i64 a0_2, .int .i64 a0_3, .int .i64 a0_4, .int .i64 a0_5, .int .i64 a0_6, .int .i64 a0_7, .int .i64 a0_8, .int .i64 a0_9] 23 (0, 0)) (by (with_reducible repeat (first | refine blk_drewN ?_ _ | refine blk_drew ?_ | refine blk_alloc ?_ _)); exact BK220.out) hb); have n1_ := Aside0.mk (blk_below (g := gb221) (o := .cells #[.int .i64 a1_0, .slice A1_1 l1_1.length c1_1] 26 (0, 0)) (by (with_reducible repeat (first | refine blk_drewN ?_ _ | refine blk_drew ?_ | refine blk_alloc ?_ _)); exact BK221.out) hb); have n2_ := Aside0.mk (below_step (by repeat (first | (with_reducible first | exact HB.out | apply below_alloc | apply pw_below_drewN | apply below_drew1 | refine below_set ?_ GE220.out | refine below_set ?_ GE221.out) | exact HB.out)) hb); clear BK220; clear BK221; clear HB; have BK220 := n0_; have BK221 := n1_; have HB := n2_; clear n0_ n1_ n2_; (try clear hb); (try clear hb2); (try clear hk); (try clear hi)))
  go_ret
  exact ⟨by first | rfl | (simp only [i64_w] <;> rfl) | (simp [errW_none, errW_some] <;> rfl) | (simp [*, errW_none, errW_some] <;> rfl), by repeat (first | (with_reducible first | exact HB.out | apply below_alloc | apply pw_below_drewN | apply below_drew1 | refine below_set ?_ GE220.out | refine below_set ?_ GE221.out) | exact HB.out)⟩

-- NOT PRINTED: function 8 (reevelaw08_WindowWhen)

end Go.Proofs.YtkcnenekmjgmgaaS
end

section
/- Plain laws of windows: time in two parts is time in one; what may be taken leaves no more than there is room for. -/
namespace Go.Proofs.Ytkcnenekmjgmgaa

theorem zeros_drop (n k : Nat) : (zeros n).drop k = zeros (n - k) := by simp [zeros]
theorem zeros_add (a b : Nat) : zeros a ++ zeros b = zeros (a + b) := by simp [zeros]
theorem shift_shift (l : List Int) (a b : Nat) : shiftL (shiftL l a) b = shiftL l (a + b) := by
  unfold shiftL
  have hl : (l.drop a ++ zeros (min a l.length)).length = l.length := by simp [zeros]; omega
  rw [hl, List.drop_append, List.drop_drop, zeros_drop, List.append_assoc, zeros_add]
  congr 2
  · simp; omega
theorem shift_zero (l : List Int) : shiftL l 0 = l := by simp [shiftL, zeros]
theorem move_move {p : Pol} (hm : meansW p = true) (s : Win) {a b : Int} (h : a ≤ b) : moveP p (moveP p s a) b = moveP p s b := by
  have hg := gridN_mono hm h
  have hx := move_good hm s a
  rw [moveP_yes hm, moveP_yes hm, moveP_yes hm]
  have e : moveN p (moveN p s a) b = if gridN p b ≤ (moveN p s a).g then moveN p s a else ⟨gridN p b, shiftL (moveN p s a).l (gridN p b - (moveN p s a).g).toNat⟩ := by
    show (if gridN p b ≤ (countsN p (moveN p s a)).g then countsN p (moveN p s a) else _) = _
    rw [countsN_self hm hx]
  rw [e]
  unfold moveN
  generalize countsN p s = q
  by_cases h1 : gridN p a ≤ q.g
  · simp only [h1, if_true]
  · have h2 : ¬ gridN p b ≤ q.g := by omega
    simp only [h1, h2, if_false]
    split
    · have : gridN p b = gridN p a := by omega
      rw [this]
    · rw [shift_shift]
      congr 2
      omega

theorem sumN_set (l : List Int) (i : Nat) (v : Int) (h : i < l.length) : sumN (l.set i v) = sumN l - clipI (l.getD i 0) 1099511627776 + clipI v 1099511627776 := by
  induction l generalizing i with
  | nil => simp at h
  | cons x l ih =>
    cases i with
    | zero => simp [sumN]; omega
    | succ i =>
      have := ih i (by simpa using h)
      simp only [List.set_cons_succ, sumN, List.getD_cons_succ]
      omega
theorem take_succ_le (l : List Int) (i : Nat) (h : i < l.length) : clipI (l.getD i 0) 1099511627776 ≤ sumN l := by
  induction l generalizing i with
  | nil => simp at h
  | cons x l ih =>
    have hb := sumN_bound l
    have hx := clipI_bound x (m := 1099511627776) (by omega)
    cases i with
    | zero => simp [sumN]; omega
    | succ i =>
      have := ih i (by simpa using h)
      simp only [sumN, List.getD_cons_succ]
      omega
theorem sumN_mem (l : List Int) (i : Nat) (h : i < l.length) : clipI (l.getD i 0) 1099511627776 ≤ sumN l := by
  have e := take_succ_le l i h
  exact e

theorem take_total {p : Pol} {y : Win} (hm : meansW p = true) (hg : Good p y) {c : Int} (hc : mayW p y c = true) : totalN (takeW p y c) = totalN y + c ∧ totalN y + c ≤ p.cap := by
  have hcap := (meansW_bounds hm).2.1
  have hcc := (meansW_bounds hm).2.2.2
  rw [mayW_good hm hg] at hc
  simp only [Bool.and_eq_true, decide_eq_true_eq] at hc
  have hw := within_iff.1 hc.1
  have hlen := hg.len
  have hlt : y.l.length - 1 < y.l.length := by omega
  have hx := hg.ok _ (getD_mem hlt)
  have hs := sumN_mem y.l _ hlt
  rw [clipI_mid hx.1 hx.2] at hs
  rw [totalN_good hm (takeW_good hm y c), totalN_good hm hg, takeW_yes hm]
  refine ⟨?_, hc.2⟩
  unfold takeN
  rw [if_pos hc.1, countsN_self hm hg]
  show sumN (lastSet y.l c) = _
  unfold lastSet
  rw [sumN_set _ _ _ hlt, clipI_mid hx.1 hx.2]
  have hmin : min (y.l.getD (y.l.length - 1) 0 + c) 1099511627776 = y.l.getD (y.l.length - 1) 0 + c := by omega
  rw [hmin, clipI_mid (by omega) (by omega)]
  omega

end Go.Proofs.Ytkcnenekmjgmgaa
end

section
/- Plain laws: Count buckets later nothing is left; a bucket ahead of that just what was taken last is. -/
namespace Go.Proofs.Ytkcnenekmjgmgaa

theorem grid_at {p : Pol} (hm : meansW p = true) {k : Int} (h0 : 0 ≤ k) (h : k ≤ (1099511627776 : Int).tdiv p.width) : k * p.width ≤ 1099511627776 ∧ gridN p (k * p.width) = k ∧ (1 ≤ k → gridN p (k * p.width - 1) = k - 1) := by
  have hw := (meansW_bounds hm).2.2.1
  have hwp : 0 < p.width := by omega
  rw [Int.tdiv_eq_ediv_of_nonneg (by omega)] at h
  have h1 : k * p.width ≤ 1099511627776 := (Int.le_ediv_iff_mul_le hwp).1 h
  have h2 : 0 ≤ k * p.width := Int.mul_nonneg h0 (by omega)
  refine ⟨h1, ?_, fun hk => ?_⟩
  · unfold gridN
    rw [clipI_mid h2 h1, Int.tdiv_eq_ediv_of_nonneg h2, Int.mul_ediv_cancel _ (by omega)]
  · have h3 : p.width ≤ k * p.width := by
      have := Int.mul_le_mul_of_nonneg_right hk (show 0 ≤ p.width by omega)
      omega
    unfold gridN
    rw [clipI_mid (by omega) (by omega), Int.tdiv_eq_ediv_of_nonneg (by omega)]
    have e : k * p.width - 1 = (p.width - 1) + p.width * (k - 1) := by
      rw [Int.mul_sub, Int.mul_comm p.width k]; omega
    rw [e, Int.add_mul_ediv_left _ _ (by omega), Int.ediv_eq_zero_of_lt (by omega) (by omega)]
    omega

theorem empties_gone {p : Pol} {x : Win} (hm : meansW p = true) (hg : Good p x) (h : x.g + p.count ≤ (1099511627776 : Int).tdiv p.width) : totalN (moveP p x ((x.g + p.count) * p.width)) = 0 := by
  have hcc := (meansW_bounds hm).2.2.2
  have hlo := hg.lo
  have hlen := hg.len
  have hgr := (grid_at hm (by omega) h).2.1
  rw [totalN_good hm (moveP_good hm x _), moveP_yes hm]
  unfold moveN
  rw [countsN_self hm hg, hgr, if_neg (by omega)]
  show sumN (shiftL _ _) = 0
  unfold shiftL
  rw [List.drop_of_length_le (by omega), List.nil_append, sumN_zeros]

theorem drop_last {l : List Int} (h : 0 < l.length) : l.drop (l.length - 1) = [l.getD (l.length - 1) 0] := by
  have hlt : l.length - 1 < l.length := by omega
  rw [List.drop_eq_getElem_cons hlt, List.drop_of_length_le (by omega)]
  simp [hlt]

theorem empties_left {p : Pol} {x : Win} (hm : meansW p = true) (hg : Good p x) (h : x.g + p.count ≤ (1099511627776 : Int).tdiv p.width) :
    totalN (moveP p x ((x.g + p.count) * p.width - 1)) = x.l.getD (x.l.length - 1) 0 := by
  have hcc := (meansW_bounds hm).2.2.2
  have hlo := hg.lo
  have hlen := hg.len
  have hl0 : 0 < x.l.length := by omega
  have hgr := (grid_at hm (show 0 ≤ x.g + p.count by omega) h).2.2 (by omega)
  have hx := hg.ok _ (getD_mem (show x.l.length - 1 < x.l.length by omega))
  rw [totalN_good hm (moveP_good hm x _), moveP_yes hm]
  unfold moveN
  rw [countsN_self hm hg, hgr]
  have key : sumN (shiftL x.l (x.l.length - 1)) = x.l.getD (x.l.length - 1) 0 := by
    unfold shiftL
    rw [drop_last hl0, sumN_append, sumN_zeros]
    simp only [sumN]
    rw [clipI_mid hx.1 hx.2]
    omega
  by_cases h1 : p.count = 1
  · rw [if_pos (by omega)]
    have e1 : x.l.length - 1 = 0 := by omega
    rw [e1, shift_zero] at key
    rw [e1]
    exact key
  · rw [if_neg (by omega)]
    show sumN (shiftL _ _) = _
    rw [show (x.g + p.count - 1 - x.g).toNat = x.l.length - 1 by omega]
    exact key

end Go.Proofs.Ytkcnenekmjgmgaa
end

section
/- When: the first tick at which a cost may be taken, plainly; what both functions answer. -/
namespace Go.Proofs.YtkcnenekmjgmgaaS
open Go.Proofs.YtkcnenekmjgmgaaP
open Go.RowKit Go.Proofs.Ytkcnenekmjgmgaa Go.Proofs.YtkcnenekmjgmgaaW.PrintWords

/-- What is left when k buckets are gone. -/
def lft (l : List Int) (k : Nat) : Int := sumN (l.drop k)
theorem lft_step {l : List Int} {k : Nat} (h : k < l.length) : lft l k = clipI l[k] 1099511627776 + lft l (k + 1) := by
  unfold lft
  rw [List.drop_eq_getElem_cons h]
  rfl
theorem lft_bound (l : List Int) (k : Nat) : 0 ≤ lft l k ∧ lft l k ≤ 1099511627776 * l.length := by
  have h := sumN_bound (l.drop k)
  have h2 : ((l.drop k).length : Int) ≤ l.length := by rw [List.length_drop]; omega
  unfold lft
  omega
theorem lft_end {l : List Int} {k : Nat} (h : l.length ≤ k) : lft l k = 0 := by
  unfold lft
  rw [List.drop_of_length_le h]
  rfl
/-- How many buckets are gone at a tick. -/
def goneN (p : Pol) (c : Win) (t : Int) : Nat := (gridN p t - c.g).toNat
theorem total_at {p : Pol} (hm : meansW p = true) {c : Win} (hg : Go.Proofs.Ytkcnenekmjgmgaa.Good p c) (t : Int) : totalN (countsN p (moveP p c t)) = lft c.l (goneN p c t) := by
  have hmv : moveP p c t = moveN p c t := by simp [moveP, hm]
  have hb := meansW_bounds hm
  rw [hmv, countsN_self hm (move_good hm c t)]
  unfold moveN
  rw [countsN_self hm hg]
  have hlen := hg.len
  by_cases h : gridN p t ≤ c.g
  · rw [if_pos h]
    unfold totalN goneN lft
    rw [if_neg (by omega), show (gridN p t - c.g).toNat = 0 by omega, List.drop_zero]
  · rw [if_neg h]
    unfold totalN goneN lft
    rw [if_neg (by rw [shiftL_length]; omega)]
    unfold shiftL
    rw [sumN_append, sumN_zeros, Int.add_zero]
/-- May it be taken when k buckets are gone? -/
def okK (p : Pol) (c : Win) (cost : Int) (k : Nat) : Bool := decide (lft c.l k + cost ≤ p.cap)
theorem may_at {p : Pol} (hm : meansW p = true) {c : Win} (hg : Go.Proofs.Ytkcnenekmjgmgaa.Good p c) (t cost : Int) : mayW p (moveP p c t) cost = (within cost 1 1048576 && okK p c cost (goneN p c t)) := by
  unfold mayW okK
  rw [hm, total_at hm hg, Bool.true_and]
/-- The least from k on, f looked at. -/
def lst (ok : Nat → Bool) : Nat → Nat → Nat
  | 0, k => k
  | f + 1, k => if ok k then k else lst ok f (k + 1)
theorem lst_ge (ok : Nat → Bool) : ∀ (f k : Nat), k ≤ lst ok f k ∧ lst ok f k ≤ k + f
  | 0, k => ⟨Nat.le_refl _, Nat.le_refl _⟩
  | f + 1, k => by
    have := lst_ge ok f (k + 1)
    unfold lst
    split <;> omega
theorem lst_below (ok : Nat → Bool) : ∀ (f k j : Nat), k ≤ j → j < lst ok f k → ok j = false
  | 0, k, j, h1, h2 => by unfold lst at h2; omega
  | f + 1, k, j, h1, h2 => by
    unfold lst at h2
    by_cases c : ok k = true
    · rw [if_pos c] at h2; omega
    · rw [if_neg c] at h2
      by_cases e : j = k
      · subst e; simpa using c
      · exact lst_below ok f (k + 1) j (by omega) h2
theorem lst_ok (ok : Nat → Bool) : ∀ (f k : Nat), ok (k + f) = true → ok (lst ok f k) = true
  | 0, k, h => h
  | f + 1, k, h => by
    unfold lst
    by_cases c : ok k = true
    · rw [if_pos c]; exact c
    · rw [if_neg c]
      exact lst_ok ok f (k + 1) (by rw [show k + 1 + f = k + (f + 1) by omega]; exact h)
/-- The tick at which bucket g + k begins, if it is one. -/
def endT (p : Pol) (c : Win) (k : Nat) : Int := if (c.g + k) * p.width > 1099511627776 then -1 else (c.g + k) * p.width
/-- The first tick at which a cost may be taken. -/
def whenC (p : Pol) (c : Win) (tick cost : Int) : Int :=
  if within cost 1 1048576 && decide (cost ≤ p.cap) then
    (if okK p c cost (goneN p c tick) then clipI tick 1099511627776 else endT p c (lst (okK p c cost) (c.l.length - goneN p c tick - 1) (goneN p c tick + 1)))
  else -1
def whenP (p : Pol) (s : Win) (tick cost : Int) : Int := if meansW p then whenC p (countsN p s) tick cost else -1
theorem lst_eq (ok : Nat → Bool) : ∀ (f a k : Nat), a ≤ k → k ≤ a + f → (∀ j, a ≤ j → j < k → ok j = false) → ok k = true → lst ok f a = k
  | 0, a, k, h1, h2, _, _ => by unfold lst; omega
  | f + 1, a, k, h1, h2, h3, h4 => by
    unfold lst
    by_cases e : a = k
    · subst e
      rw [if_pos h4]
    · rw [if_neg (by rw [h3 a (Nat.le_refl _) (by omega)]; decide)]
      exact lst_eq ok f (a + 1) k (by omega) (by omega) (fun j hj hk => h3 j (by omega) hk) h4
theorem begin_bound {p : Pol} (hm : meansW p = true) {c : Win} (hg : Go.Proofs.Ytkcnenekmjgmgaa.Good p c) {k : Nat} (hk : k ≤ 64) : 0 ≤ (c.g + k) * p.width ∧ (c.g + k) * p.width ≤ 1152991873351024640 := by
  have hb := (meansW_bounds hm).2.2.1
  have h1 := hg.lo
  have h2 := hg.hi
  have h3 := gridN_bound hm 1099511627776
  refine ⟨Int.mul_nonneg (by omega) (by omega), ?_⟩
  have := Int.mul_le_mul (show c.g + k ≤ 1099511627840 by omega) (show p.width ≤ 1048576 by omega) (by omega) (by omega)
  omega
theorem begin_after {p : Pol} (hm : meansW p = true) {c : Win} (tick : Int) {k : Nat} (hk : 1 ≤ k) : (c.g + k) * p.width > clipI tick 1099511627776 ↔ goneN p c tick < k := by
  have hb := (meansW_bounds hm).2.2.1
  have hc := clipI_bound tick (m := 1099511627776) (by omega)
  unfold goneN gridN
  rw [Int.tdiv_eq_ediv_of_nonneg hc.1]
  have h := Int.ediv_lt_iff_lt_mul (a := clipI tick 1099511627776) (b := c.g + k) (c := p.width) (by omega)
  omega
theorem when_loop {p : Pol} (hm : meansW p = true) {c : Win} (hg : Go.Proofs.Ytkcnenekmjgmgaa.Good p c) (tick cost : Int) (hc0 : 1 ≤ cost) (hc1 : cost ≤ 1048576) (hcap : cost ≤ p.cap) (hno : okK p c cost (goneN p c tick) = false) :
    ∀ (d i : Nat), c.l.length - i = d → i ≤ c.l.length → (∀ j, goneN p c tick < j → j ≤ i → okK p c cost j = false) →
    Ev (fun k => window_When.l0 k (clipI tick 1099511627776) cost (lft c.l i) c.l (c.l.length : Int) (i : Int) p.k p.cap p.num p.den p.width p.count p.keys p.slots p.every p.seg c.g c.l) (endT p c (lst (okK p c cost) (c.l.length - goneN p c tick - 1) (goneN p c tick + 1))) := by
  have hb := meansW_bounds hm
  have hlen := hg.len
  have hend : okK p c cost c.l.length = true := by
    unfold okK
    rw [lft_end (Nat.le_refl _)]
    exact decide_eq_true (by omega)
  have hkk : goneN p c tick < c.l.length := by
    rcases Nat.lt_or_ge (goneN p c tick) c.l.length with h | h
    · exact h
    · have : okK p c cost (goneN p c tick) = true := by
        unfold okK
        rw [lft_end h]
        exact decide_eq_true (by omega)
      rw [this] at hno
      exact absurd hno (by decide)
  intro d
  induction d with
  | zero =>
    intro i hd hi hall
    have ei : i = c.l.length := by omega
    have := hall c.l.length hkk (by omega)
    rw [hend] at this
    exact absurd this (by decide)
  | succ d ih =>
    intro i hd hi hall
    have hi2 : i < c.l.length := by omega
    have hrd : rd c.l (i : Int) = c.l[i] := by simp [rd, hi2]
    have hx := hg.ok c.l[i] (List.getElem_mem hi2)
    have hst := lft_step hi2
    rw [clipI_mid hx.1 hx.2] at hst
    have hl1 := lft_bound c.l (i + 1)
    have hl0 := lft_bound c.l i
    have hgl := hg.lo
    have hgh := hg.hi
    have hgg := gridN_bound hm 1099511627776
    have hbd := begin_bound hm hg (k := i + 1) (by omega)
    have haf := begin_after hm (c := c) tick (k := i + 1) (by omega)
    have e4 : wrap64 ((i : Int) + 1) = ((i + 1 : Nat) : Int) := (w64 (by omega) (by omega)).trans (by omega)
    have e2 : wrap64 (lft c.l i - c.l[i]) = lft c.l (i + 1) := by
      clear e4
      exact (w64 (by omega) (by omega)).trans (by omega)
    have e3 : wrap64 (lft c.l (i + 1) + cost) = lft c.l (i + 1) + cost := by
      clear e4 e2
      exact w64 (by omega) (by omega)
    have e1 : wrap64 (wrap64 (wrap64 (c.g + (i : Int)) + 1) * p.width) = (c.g + ((i + 1 : Nat) : Int)) * p.width := by
      clear e4 e2 e3 haf
      have e0 : wrap64 (wrap64 (c.g + (i : Int)) + 1) = c.g + ((i + 1 : Nat) : Int) := by
        rw [w64 (x := c.g + (i : Int)) (by omega) (by omega), w64 (by omega) (by omega)]
        omega
      rw [e0]
      clear e0
      generalize (c.g + ((i + 1 : Nat) : Int)) * p.width = q at hbd ⊢
      exact w64 (by omega) (by omega)
    by_cases ha : goneN p c tick < i + 1
    · cases ho : okK p c cost (i + 1) with
      | true =>
        have hl := lst_eq (okK p c cost) (c.l.length - goneN p c tick - 1) (goneN p c tick + 1) (i + 1) (by clear e1 e2 e3 e4; omega) (by clear e1 e2 e3 e4; omega) (fun j hj hk => hall j (by clear e1 e2 e3 e4; omega) (by clear e1 e2 e3 e4; omega)) ho
        rw [hl]
        have ho2 := of_decide_eq_true ho
        refine Ev.step (f := fun k => window_When.j2 k (clipI tick 1099511627776) cost (lft c.l (i + 1)) ((c.g + ((i + 1 : Nat) : Int)) * p.width) c.l (c.l.length : Int) (i : Int) true p.k p.cap p.num p.den p.width p.count p.keys p.slots p.every p.seg c.g c.l) (fun k => ?_) (ev_now fun k => ?_)
        · simp only [window_When.l0]
          rw [if_pos (by clear e1 e2 e3 e4; omega), if_pos (by clear e1 e2 e3 e4; omega), if_pos (by clear e1 e2 e3 e4; omega), e1, hrd, e2, e3, if_pos (haf.2 ha), decide_eq_true ho2]
        · simp only [window_When.j2]
          unfold endT
          rw [if_pos (by trivial)]
          split <;> rfl
      | false =>
        have ho2 := of_decide_eq_false ho
        refine Ev.step (f := fun k => window_When.j2 k (clipI tick 1099511627776) cost (lft c.l (i + 1)) ((c.g + ((i + 1 : Nat) : Int)) * p.width) c.l (c.l.length : Int) (i : Int) false p.k p.cap p.num p.den p.width p.count p.keys p.slots p.every p.seg c.g c.l) (fun k => ?_) (Ev.step (fun k => ?_) (ih (i + 1) (by clear e1 e2 e3 e4; omega) (by clear e1 e2 e3 e4; omega) (fun j h1 h2 => by
          by_cases e : j = i + 1
          · rw [e]; exact ho
          · exact hall j h1 (by clear e1 e2 e3 e4; omega))))
        · simp only [window_When.l0]
          rw [if_pos (by clear e1 e2 e3 e4; omega), if_pos (by clear e1 e2 e3 e4; omega), if_pos (by clear e1 e2 e3 e4; omega), e1, hrd, e2, e3, if_pos (haf.2 ha), decide_eq_false ho2]
        · simp only [window_When.j2]
          rw [if_neg (by decide), e4]
    · refine Ev.step (f := fun k => window_When.j2 k (clipI tick 1099511627776) cost (lft c.l (i + 1)) ((c.g + ((i + 1 : Nat) : Int)) * p.width) c.l (c.l.length : Int) (i : Int) false p.k p.cap p.num p.den p.width p.count p.keys p.slots p.every p.seg c.g c.l) (fun k => ?_) (Ev.step (fun k => ?_) (ih (i + 1) (by clear e1 e2 e3 e4; omega) (by clear e1 e2 e3 e4; omega) (fun j h1 h2 => absurd h1 (by clear e1 e2 e3 e4; omega))))
      · simp only [window_When.l0]
        rw [if_pos (by clear e1 e2 e3 e4; omega), if_pos (by clear e1 e2 e3 e4; omega), if_pos (by clear e1 e2 e3 e4; omega), e1, hrd, e2, if_neg (fun h => ha (haf.1 h))]
      · simp only [window_When.j2]
        rw [if_neg (by decide), e4]
theorem may_f (c : Int) : window_may.f c = some (within c 1 1048576) := by
  unfold window_may.f
  by_cases h : c ≥ 1
  · rw [if_pos h]
    congr 1
    rw [Bool.eq_iff_iff]
    simp [within]
    omega
  · rw [if_neg h, within_low (by omega)]
theorem clip_f (t : Int) : window_clip.f t = some (clipI t 1099511627776) := by
  unfold window_clip.f clipI mn mx
  congr 1
  split <;> split <;> omega
theorem clip_clip (t : Int) : clipI (clipI t 1099511627776) 1099511627776 = clipI t 1099511627776 := by
  have h := clipI_bound t (m := 1099511627776) (by omega)
  exact clipI_mid h.1 h.2
theorem gone_clip (p : Pol) (c : Win) (t : Int) : goneN p c (clipI t 1099511627776) = goneN p c t := by
  unfold goneN gridN
  rw [clip_clip]
theorem when_f (p : Pol) (s : Win) (tick cost : Int) : Ev (fun k => window_When.f k p.k p.cap p.num p.den p.width p.count p.keys p.slots p.every p.seg s.g s.l tick cost) (whenP p s tick cost) := by
  have e : ∀ k, window_When.f k p.k p.cap p.num p.den p.width p.count p.keys p.slots p.every p.seg s.g s.l tick cost = window_When.j0 k tick cost (!(meansW p && within cost 1 1048576 && decide (cost ≤ p.cap))) p.k p.cap p.num p.den p.width p.count p.keys p.slots p.every p.seg s.g s.l := fun k => by
    unfold window_When.f Go.Proofs.YtkcnenekmjgmgaaP.window_means.f
    simp only [Option.bind_some]
    rw [show meansW ⟨p.k, p.cap, p.num, p.den, p.width, p.count, p.keys, p.slots, p.every, p.seg⟩ = meansW p from rfl]
    cases hm : meansW p with
    | false => rfl
    | true =>
      rw [if_pos rfl, may_f]
      simp only [Option.bind_some]
      cases hw : within cost 1 1048576 with
      | false => rfl
      | true =>
        rw [if_pos rfl]
        congr 1
        rw [Bool.eq_iff_iff]
        simp
  refine Ev.congr e ?_
  unfold whenP whenC
  cases hm : meansW p with
  | false =>
    refine ev_now fun k => ?_
    simp [window_When.j0]
  | true =>
    rw [Bool.true_and]
    cases hb : (within cost 1 1048576 && decide (cost ≤ p.cap)) with
    | false =>
      refine ev_now fun k => ?_
      simp [window_When.j0]
    | true =>
      rw [Bool.and_eq_true, decide_eq_true_iff] at hb
      have hw := Go.Proofs.Ytkcnenekmjgmgaa.within_iff.1 hb.1
      have hg := counts_good hm s
      simp only [if_true]
      generalize hc : countsN p s = c at hg ⊢
      have hmay := may_at hm hg (clipI tick 1099511627776) cost
      rw [gone_clip, hb.1, Bool.true_and] at hmay
      have hpre : ∀ k, window_When.j0 (k + 1) tick cost false p.k p.cap p.num p.den p.width p.count p.keys p.slots p.every p.seg s.g s.l = if okK p c cost (goneN p c tick) = true then some (clipI tick 1099511627776) else (some (totalN c)).bind fun t229 => window_When.l0 k (clipI tick 1099511627776) cost t229 c.l (c.l.length : Int) 0 p.k p.cap p.num p.den p.width p.count p.keys p.slots p.every p.seg c.g c.l := fun k => by
        simp only [window_When.j0]
        unfold Go.Proofs.YtkcnenekmjgmgaaP.window_counts.f
        rw [if_neg (by decide), show meansW ⟨p.k, p.cap, p.num, p.den, p.width, p.count, p.keys, p.slots, p.every, p.seg⟩ = meansW p from rfl, hm, if_pos rfl]
        simp only [Option.bind_some]
        rw [show countsN ⟨p.k, p.cap, p.num, p.den, p.width, p.count, p.keys, p.slots, p.every, p.seg⟩ ⟨s.g, s.l⟩ = c from hc, clip_f]
        simp only [Option.bind_some]
        unfold Go.Proofs.YtkcnenekmjgmgaaP.window_Move.f Go.Proofs.YtkcnenekmjgmgaaP.window_May.f Go.Proofs.YtkcnenekmjgmgaaP.window_Total.f
        simp only [Option.bind_some]
        rw [show mayW ⟨p.k, p.cap, p.num, p.den, p.width, p.count, p.keys, p.slots, p.every, p.seg⟩ ⟨(moveP ⟨p.k, p.cap, p.num, p.den, p.width, p.count, p.keys, p.slots, p.every, p.seg⟩ ⟨c.g, c.l⟩ (clipI tick 1099511627776)).g, (moveP ⟨p.k, p.cap, p.num, p.den, p.width, p.count, p.keys, p.slots, p.every, p.seg⟩ ⟨c.g, c.l⟩ (clipI tick 1099511627776)).l⟩ cost = okK p c cost (goneN p c tick) from hmay]
      cases ho : okK p c cost (goneN p c tick) with
      | true =>
        refine ev_now fun k => ?_
        show window_When.j0 (k + 1) tick cost false p.k p.cap p.num p.den p.width p.count p.keys p.slots p.every p.seg s.g s.l = _
        rw [hpre, ho, if_pos rfl]
        rfl
      | false =>
        have hl := when_loop hm hg tick cost hw.1 hw.2 hb.2 ho _ 0 rfl (by omega) (fun j h1 h2 => absurd h1 (by omega))
        have htot : totalN c = lft c.l 0 := by
          have := meansW_bounds hm
          have := hg.len
          unfold totalN lft
          rw [if_neg (by omega), List.drop_zero]
        refine Ev.step (fun k => ?_) hl
        show window_When.j0 (k + 1) tick cost false p.k p.cap p.num p.den p.width p.count p.keys p.slots p.every p.seg s.g s.l = _
        rw [hpre, ho, if_neg (by decide), Option.bind_some, htot]
        rfl
end Go.Proofs.YtkcnenekmjgmgaaS
end

section
/- What the reference's When answers. -/
namespace Go.Proofs.YtkcnenekmjgmgaaS
open Go.Proofs.YtkcnenekmjgmgaaP
open Go.RowKit Go.Proofs.Ytkcnenekmjgmgaa Go.Proofs.YtkcnenekmjgmgaaW.PrintWords

theorem rtry {p : Pol} (hm : meansW p = true) {c : Win} (hg : Go.Proofs.Ytkcnenekmjgmgaa.Good p c) (t cost : Int) {β : Type} {f : Nat → Bool → Option β} {r : β} (h : Ev (fun k => f k (within cost 1 1048576 && okK p c cost (goneN p c t))) r) :
    Ev (fun k => (reeveref08_Move.f k p.k p.cap p.num p.den p.width p.count p.keys p.slots p.every p.seg c.g c.l t).bind fun bt239 => (reeveref08_May.f k p.k p.cap p.num p.den p.width p.count p.keys p.slots p.every p.seg bt239.1 bt239.2 cost).bind (f k)) r := by
  refine Ev.bind (rmove p c t) (Ev.bind (rmay p (moveP p c t) cost) ?_)
  rw [may_at hm hg]
  exact h
/-- Nothing may be taken: -1. -/
theorem rstep {p : Pol} (hm : meansW p = true) {c : Win} (hg : Go.Proofs.Ytkcnenekmjgmgaa.Good p c) (cost at' : Int) {i : Nat} (hi : i ≤ p.count.toNat + 1) (hno : (within cost 1 1048576 && okK p c cost (goneN p c at')) = false) {r : Int}
    (h : Ev (fun k => if (max (gridN p at' + 1) (c.g + 1)) * p.width > 1099511627776 then some (-1) else reeveref08_When.l0 k cost ((max (gridN p at' + 1) (c.g + 1)) * p.width) ((i + 1 : Nat) : Int) p.k p.cap p.num p.den p.width p.count p.keys p.slots p.every p.seg c.g c.l) r) :
    Ev (fun k => reeveref08_When.l0 k cost at' (i : Int) p.k p.cap p.num p.den p.width p.count p.keys p.slots p.every p.seg c.g c.l) r := by
  have hb := meansW_bounds hm
  have hgb := gridN_bound hm at'
  have hgt := gridN_bound hm 1099511627776
  have hlo := hg.lo
  have hhi := hg.hi
  generalize hq : max (gridN p at' + 1) (c.g + 1) = q at h
  have hq0 : 0 ≤ q ∧ q ≤ 1099511627777 := by omega
  have hqw : 0 ≤ q * p.width ∧ q * p.width ≤ 1099511627777 * 1048576 := ⟨Int.mul_nonneg hq0.1 (by omega), Int.mul_le_mul hq0.2 (by omega) (by omega) (by omega)⟩
  have hj : Ev (fun k => reeveref08_When.j1 k cost (i : Int) q p.k p.cap p.num p.den p.width p.count p.keys p.slots p.every p.seg c.g c.l) r := by
    refine Ev.step (fun k => ?_) h
    simp only [reeveref08_When.j1]
    have e1 : wrap64 (q * p.width) = q * p.width := by
      generalize q * p.width = z at hqw ⊢
      exact w64 (by omega) (by omega)
    have e2 : wrap64 ((i : Int) + 1) = ((i + 1 : Nat) : Int) := (w64 (by omega) (by omega)).trans (by omega)
    rw [e1, e2]
  have ht := rtry hm hg at' cost (f := fun k t243 => if t243 = true then some at' else reeveref08_When.j1 k cost (i : Int) q p.k p.cap p.num p.den p.width p.count p.keys p.slots p.every p.seg c.g c.l) (r := r) (by
    rw [hno]
    refine Ev.congr (fun k => ?_) hj
    rw [if_neg (by decide)])
  refine Ev.step (fun k => ?_) ht
  have e3 : wrap64 (p.count + 1) = p.count + 1 := w64 (by omega) (by omega)
  have e4 : wrap64 (gridN p at' + 1) = gridN p at' + 1 := w64 (by clear e3; omega) (by clear e3; omega)
  have e5 : wrap64 (c.g + 1) = c.g + 1 := w64 (by clear e3 e4; omega) (by clear e3 e4; omega)
  have e6 : ∀ k, (if gridN p at' + 1 ≤ c.g then reeveref08_When.j1 k cost (i : Int) (c.g + 1) p.k p.cap p.num p.den p.width p.count p.keys p.slots p.every p.seg c.g c.l else reeveref08_When.j1 k cost (i : Int) (gridN p at' + 1) p.k p.cap p.num p.den p.width p.count p.keys p.slots p.every p.seg c.g c.l) = reeveref08_When.j1 k cost (i : Int) q p.k p.cap p.num p.den p.width p.count p.keys p.slots p.every p.seg c.g c.l := fun k => by
    clear e3 e4 e5
    by_cases hc : gridN p at' + 1 ≤ c.g
    · rw [if_pos hc, show c.g + 1 = q by omega]
    · rw [if_neg hc, show gridN p at' + 1 = q by omega]
  simp only [reeveref08_When.l0]
  rw [e3, if_pos (by clear e3 e4 e5 e6; omega), rgrid, gridP_yes hm]
  simp only [Option.bind_some]
  rw [e4, e5, e6]
/-- Nothing may be taken: -1. -/
theorem rnever {p : Pol} (hm : meansW p = true) {c : Win} (hg : Go.Proofs.Ytkcnenekmjgmgaa.Good p c) (cost : Int) (hno : ∀ t, (within cost 1 1048576 && okK p c cost (goneN p c t)) = false) : ∀ (d i : Nat) (at' : Int), p.count.toNat + 2 - i = d → i ≤ p.count.toNat + 2 →
    Ev (fun k => reeveref08_When.l0 k cost at' (i : Int) p.k p.cap p.num p.den p.width p.count p.keys p.slots p.every p.seg c.g c.l) (-1) := by
  have hb := meansW_bounds hm
  intro d
  induction d with
  | zero =>
    intro i at' hd hi
    refine ev_now fun k => ?_
    simp only [reeveref08_When.l0]
    rw [w64 (x := p.count + 1) (by omega) (by omega), if_neg (by omega)]
  | succ d ih =>
    intro i at' hd hi
    refine rstep hm hg cost at' (by omega) (hno at') ?_
    by_cases hc : (max (gridN p at' + 1) (c.g + 1)) * p.width > 1099511627776
    · refine Ev.congr (fun k => ?_) (Ev.now _)
      rw [if_pos hc]
    · refine Ev.congr (fun k => ?_) (ih (i + 1) ((max (gridN p at' + 1) (c.g + 1)) * p.width) (by omega) (by omega))
      rw [if_neg hc]
theorem endT_late {p : Pol} (hm : meansW p = true) {c : Win} {a b : Nat} (h : a ≤ b) (h2 : (c.g + a) * p.width > 1099511627776) : endT p c b = -1 := by
  have hb := (meansW_bounds hm).2.2.1
  have := Int.mul_le_mul_of_nonneg_right (show c.g + (a : Int) ≤ c.g + b by omega) (show 0 ≤ p.width by omega)
  unfold endT
  rw [if_pos (by omega)]
theorem rfound {p : Pol} (hm : meansW p = true) {c : Win} (hg : Go.Proofs.Ytkcnenekmjgmgaa.Good p c) (cost at' : Int) {i : Nat} (hi : i ≤ p.count.toNat + 1) (hyes : (within cost 1 1048576 && okK p c cost (goneN p c at')) = true) :
    Ev (fun k => reeveref08_When.l0 k cost at' (i : Int) p.k p.cap p.num p.den p.width p.count p.keys p.slots p.every p.seg c.g c.l) at' := by
  have hb := meansW_bounds hm
  have ht := rtry hm hg at' cost (f := fun k t243 => if t243 = true then some at' else (reeveref08_Grid.f p.k p.cap p.num p.den p.width p.count p.keys p.slots p.every p.seg at').bind fun t244 => (if (wrap64 (t244 + 1)) ≤ c.g then (reeveref08_When.j1 k cost (i : Int) (wrap64 (c.g + 1)) p.k p.cap p.num p.den p.width p.count p.keys p.slots p.every p.seg c.g c.l) else (reeveref08_When.j1 k cost (i : Int) (wrap64 (t244 + 1)) p.k p.cap p.num p.den p.width p.count p.keys p.slots p.every p.seg c.g c.l))) (r := at') (by
    rw [hyes]
    exact Ev.congr (fun k => if_pos rfl) (Ev.now _))
  refine Ev.step (fun k => ?_) ht
  have e3 : wrap64 (p.count + 1) = p.count + 1 := w64 (by omega) (by omega)
  simp only [reeveref08_When.l0]
  rw [e3, if_pos (by clear e3; omega)]
theorem rwhen_loop {p : Pol} (hm : meansW p = true) {c : Win} (hg : Go.Proofs.Ytkcnenekmjgmgaa.Good p c) (tick cost : Int) (hw : within cost 1 1048576 = true) (hcap : cost ≤ p.cap) :
    ∀ (d K : Nat), c.l.length - K = d → goneN p c tick < K → K ≤ c.l.length → (∀ j, goneN p c tick < j → j < K → okK p c cost j = false) → (c.g + K) * p.width ≤ 1099511627776 →
    Ev (fun k => reeveref08_When.l0 k cost ((c.g + K) * p.width) ((K - goneN p c tick : Nat) : Int) p.k p.cap p.num p.den p.width p.count p.keys p.slots p.every p.seg c.g c.l) (endT p c (lst (okK p c cost) (c.l.length - goneN p c tick - 1) (goneN p c tick + 1))) := by
  have hb := meansW_bounds hm
  have hlen := hg.len
  have hlo := hg.lo
  have hend : okK p c cost c.l.length = true := by
    unfold okK
    rw [lft_end (Nat.le_refl _)]
    exact decide_eq_true (by omega)
  intro d
  induction d using Nat.strongRecOn with
  | _ d ih =>
    intro K hd hK hKn hall hmax
    have hat := grid_at hm (k := c.g + K) (by omega) (by
      rw [Int.tdiv_eq_ediv_of_nonneg (by omega)]
      exact (Int.le_ediv_iff_mul_le (by omega)).2 hmax)
    have hgone : goneN p c ((c.g + K) * p.width) = K := by
      unfold goneN
      rw [hat.2.1]
      omega
    have hlk := lst_ge (okK p c cost) (c.l.length - goneN p c tick - 1) (goneN p c tick + 1)
    have hlo2 := lst_ok (okK p c cost) (c.l.length - goneN p c tick - 1) (goneN p c tick + 1) (by rw [show goneN p c tick + 1 + (c.l.length - goneN p c tick - 1) = c.l.length by omega]; exact hend)
    cases ho : okK p c cost K with
    | true =>
      have hl := lst_eq (okK p c cost) (c.l.length - goneN p c tick - 1) (goneN p c tick + 1) K (by omega) (by omega) (fun j h1 h2 => hall j (by omega) h2) ho
      have hf := rfound hm hg cost ((c.g + K) * p.width) (i := K - goneN p c tick) (by omega) (by rw [hgone, hw, ho]; rfl)
      rw [hl]
      unfold endT
      rw [if_neg (by omega)]
      exact hf
    | false =>
      have hKlt : K < c.l.length := by
        rcases Nat.lt_or_ge K c.l.length with h | h
        · exact h
        · rw [show K = c.l.length by omega, hend] at ho
          exact absurd ho (by decide)
      refine rstep hm hg cost _ (i := K - goneN p c tick) (by omega) (by rw [hgone, ho, Bool.and_false]) ?_
      rw [hat.2.1, show max (c.g + (K : Int) + 1) (c.g + 1) = c.g + ((K + 1 : Nat) : Int) by omega]
      by_cases hc : (c.g + ((K + 1 : Nat) : Int)) * p.width > 1099511627776
      · have hge : K + 1 ≤ lst (okK p c cost) (c.l.length - goneN p c tick - 1) (goneN p c tick + 1) := by
          rcases Nat.lt_or_ge (lst (okK p c cost) (c.l.length - goneN p c tick - 1) (goneN p c tick + 1)) (K + 1) with h | h
          · exfalso
            generalize lst (okK p c cost) (c.l.length - goneN p c tick - 1) (goneN p c tick + 1) = q at hlk hlo2 h
            by_cases e : q = K
            · rw [e, ho] at hlo2
              exact absurd hlo2 (by decide)
            · rw [hall q (by omega) (by omega)] at hlo2
              exact absurd hlo2 (by decide)
          · exact h
        rw [endT_late hm hge hc]
        refine Ev.congr (fun k => ?_) (Ev.now _)
        rw [if_pos hc]
      · have h := ih (c.l.length - (K + 1)) (by omega) (K + 1) rfl (by omega) (by omega) (fun j h1 h2 => by
          by_cases e : j = K
          · rw [e]; exact ho
          · exact hall j h1 (by omega)) (by omega)
        rw [show K + 1 - goneN p c tick = K - goneN p c tick + 1 by omega] at h
        refine Ev.congr (fun k => ?_) h
        rw [if_neg hc]
theorem rwhen (p : Pol) (s : Win) (tick cost : Int) : Ev (fun k => reeveref08_When.f k p.k p.cap p.num p.den p.width p.count p.keys p.slots p.every p.seg s.g s.l tick cost) (whenP p s tick cost) := by
  unfold reeveref08_When.f whenP
  rw [rmeans, rclip]
  simp only [Option.bind_some]
  cases hm : meansW p with
  | false => exact Ev.now _
  | true =>
    have hb := meansW_bounds hm
    have hg := counts_good hm s
    simp only [if_true]
    refine Ev.bind (rcounts hm s) ?_
    generalize countsN p s = c at hg ⊢
    have hlen := hg.len
    have hgc : gridN p (clipI tick 1099511627776) = gridN p tick := by
      unfold gridN
      rw [clip_clip]
    unfold whenC
    cases hw : (within cost 1 1048576 && decide (cost ≤ p.cap)) with
    | false =>
      refine rnever hm hg cost (fun t => ?_) _ 0 _ rfl (by omega)
      rw [Bool.and_eq_false_iff] at hw
      rcases hw with h | h
      · rw [h]; rfl
      · have h2 := of_decide_eq_false h
        have h3 := lft_bound c.l (goneN p c t)
        unfold okK
        rw [decide_eq_false (by omega), Bool.and_false]
    | true =>
      rw [Bool.and_eq_true, decide_eq_true_iff] at hw
      simp only [if_true]
      cases ho : okK p c cost (goneN p c tick) with
      | true =>
        exact rfound hm hg cost (clipI tick 1099511627776) (i := 0) (by omega) (by rw [gone_clip, hw.1, ho]; rfl)
      | false =>
        have hkk : goneN p c tick < c.l.length := by
          rcases Nat.lt_or_ge (goneN p c tick) c.l.length with h | h
          · exact h
          · have : okK p c cost (goneN p c tick) = true := by
              unfold okK
              rw [lft_end h]
              exact decide_eq_true (by omega)
            rw [this] at ho
            exact absurd ho (by decide)
        have hlk := lst_ge (okK p c cost) (c.l.length - goneN p c tick - 1) (goneN p c tick + 1)
        refine rstep hm hg cost (clipI tick 1099511627776) (i := 0) (by omega) (by rw [gone_clip, ho, Bool.and_false]) ?_
        rw [hgc, show max (gridN p tick + 1) (c.g + 1) = c.g + ((goneN p c tick + 1 : Nat) : Int) by unfold goneN; omega]
        by_cases hc : (c.g + ((goneN p c tick + 1 : Nat) : Int)) * p.width > 1099511627776
        · simp only [Bool.false_eq_true, if_false]
          rw [endT_late hm hlk.1 hc]
          refine Ev.congr (fun k => ?_) (Ev.now _)
          rw [if_pos hc]
        · have h := rwhen_loop hm hg tick cost hw.1 hw.2 _ (goneN p c tick + 1) rfl (by omega) (by omega) (fun j h1 h2 => absurd h1 (by omega)) (by omega)
          rw [show goneN p c tick + 1 - goneN p c tick = 0 + 1 by omega] at h
          simp only [Bool.false_eq_true, if_false]
          refine Ev.congr (fun k => ?_) h
          rw [if_neg hc]
end Go.Proofs.YtkcnenekmjgmgaaS
end

section
/- lent, kept and both Whens, in closed form. -/
namespace Go.Proofs.YtkcnenekmjgmgaaS
open Go.RowKit Go.Proofs.Ytkcnenekmjgmgaa Go.Proofs.YtkcnenekmjgmgaaW.PrintWords
set_option linter.unusedVariables false

def when_all.f (a0_0 a0_1 a0_2 a0_3 a0_4 a0_5 a0_6 a0_7 a0_8 a0_9 : Int) (a1_0 : Int) (l1_1 : List Int) (a2 a3 : Int) : Option Int := some (whenP ⟨a0_0, a0_1, a0_2, a0_3, a0_4, a0_5, a0_6, a0_7, a0_8, a0_9⟩ ⟨a1_0, l1_1.dropLast⟩ a2 a3)
theorem when_all.calls (a0_0 a0_1 a0_2 a0_3 a0_4 a0_5 a0_6 a0_7 a0_8 a0_9 : Int) (a1_0 : Int) (A1_1 : Option Addr) (c1_1 : Nat) (l1_1 : List Int) (a2 a3 : Int) (r : Int) (w : World) (hr1_1 : Kd.C (Kd.int .i64) w A1_1 l1_1.length l1_1) (hc1_1 : l1_1.length ≤ c1_1) (h : when_all.f a0_0 a0_1 a0_2 a0_3 a0_4 a0_5 a0_6 a0_7 a0_8 a0_9 a1_0 l1_1 a2 a3 = some r) :
    Calls Try.prog 27 #[.agg #[.int .i64 a0_0, .int .i64 a0_1, .int .i64 a0_2, .int .i64 a0_3, .int .i64 a0_4, .int .i64 a0_5, .int .i64 a0_6, .int .i64 a0_7, .int .i64 a0_8, .int .i64 a0_9], .agg #[.int .i64 a1_0, shortV (.slice A1_1 l1_1.length c1_1)], .int .i64 a2, .int .i64 a3] w fun e w' => e = .returned (.int .i64 r) ∧ Below w.heap.size w w' := by
  obtain ⟨k, hk⟩ := (when_f ⟨a0_0, a0_1, a0_2, a0_3, a0_4, a0_5, a0_6, a0_7, a0_8, a0_9⟩ ⟨a1_0, l1_1.dropLast⟩ a2 a3).rounds
  have hc := window_When.calls k a0_0 a0_1 a0_2 a0_3 a0_4 a0_5 a0_6 a0_7 a0_8 a0_9 a1_0 A1_1 c1_1 l1_1.dropLast a2 a3 r w (C_last hr1_1) (by rw [List.length_dropLast]; omega) (hk.trans h)
  rw [List.length_dropLast] at hc
  exact hc

def rwhen_all.f (a0_0 a0_1 a0_2 a0_3 a0_4 a0_5 a0_6 a0_7 a0_8 a0_9 : Int) (a1_0 : Int) (l1_1 : List Int) (a2 a3 : Int) : Option Int := some (whenP ⟨a0_0, a0_1, a0_2, a0_3, a0_4, a0_5, a0_6, a0_7, a0_8, a0_9⟩ ⟨a1_0, l1_1⟩ a2 a3)
theorem rwhen_all.calls (a0_0 a0_1 a0_2 a0_3 a0_4 a0_5 a0_6 a0_7 a0_8 a0_9 : Int) (a1_0 : Int) (A1_1 : Option Addr) (c1_1 : Nat) (l1_1 : List Int) (a2 a3 : Int) (r : Int) (w : World) (hr1_1 : Kd.C (Kd.int .i64) w A1_1 l1_1.length l1_1) (hc1_1 : l1_1.length ≤ c1_1) (h : rwhen_all.f a0_0 a0_1 a0_2 a0_3 a0_4 a0_5 a0_6 a0_7 a0_8 a0_9 a1_0 l1_1 a2 a3 = some r) :
    Calls Try.prog 28 #[.agg #[.int .i64 a0_0, .int .i64 a0_1, .int .i64 a0_2, .int .i64 a0_3, .int .i64 a0_4, .int .i64 a0_5, .int .i64 a0_6, .int .i64 a0_7, .int .i64 a0_8, .int .i64 a0_9], .agg #[.int .i64 a1_0, .slice A1_1 l1_1.length c1_1], .int .i64 a2, .int .i64 a3] w fun e w' => e = .returned (.int .i64 r) ∧ Below w.heap.size w w' := by
  obtain ⟨k, hk⟩ := (rwhen ⟨a0_0, a0_1, a0_2, a0_3, a0_4, a0_5, a0_6, a0_7, a0_8, a0_9⟩ ⟨a1_0, l1_1⟩ a2 a3).rounds
  exact reeveref08_When.calls k a0_0 a0_1 a0_2 a0_3 a0_4 a0_5 a0_6 a0_7 a0_8 a0_9 a1_0 A1_1 c1_1 l1_1 a2 a3 r w hr1_1 hc1_1 (hk.trans h)

def lent_ok.f (a0_0 : Int) (l0_1 : List Int) : Option (Int × List Int) := if l0_1.length ≤ 17592186044000 then some (a0_0, l0_1 ++ [-77]) else none
theorem lent_ok.calls (a0_0 : Int) (A0_1 : Option Addr) (c0_1 : Nat) (l0_1 : List Int) (r1 : Int) (r2 : List Int) (w : World) (hr0_1 : Kd.C (Kd.int .i64) w A0_1 l0_1.length l0_1) (hc0_1 : l0_1.length ≤ c0_1) (h : lent_ok.f a0_0 l0_1 = some (r1, r2)) :
    Calls Try.prog 14 #[.agg #[.int .i64 a0_0, .slice A0_1 l0_1.length c0_1]] w fun e w' => ∃ v1_ : Value, e = .returned (.agg #[.int .i64 r1, shortV v1_]) ∧ Kd.R (Kd.int .i64) 3 w' w.heap.size (fun _ => True) v1_ r2 ∧ Below w.heap.size w w' := by
  unfold lent_ok.f at h
  by_cases c : l0_1.length ≤ 17592186044000
  · rw [if_pos c] at h
    refine reevelaw08_lent.calls a0_0 A0_1 c0_1 l0_1 r1 r2 w hr0_1 hc0_1 (Eq.trans ?_ h)
    have e : wrap64 ((l0_1.length : Int) + 1) = (l0_1.length : Int) + 1 := w64 (by omega) (by omega)
    unfold reevelaw08_lent.f
    rw [e, if_pos (by clear e; omega), if_pos (by clear e; omega), Option.bind_some, if_pos (by clear e; simp; omega), Option.bind_some, Option.bind_some, if_pos (by clear e; simp; omega)]
    rfl
  · rw [if_neg c] at h
    exact absurd h (by simp)
def kept_ok.f (a0_0 : Int) (l0_1 : List Int) (a1_0 : Int) (l1_1 : List Int) : Option Unit := if l0_1.length = l1_1.length + 1 ∧ l1_1.length ≤ 17592186044000 ∧ Go.Proofs.Ytkcnenekmjgmgaa.sameB ⟨a0_0, l0_1.dropLast⟩ ⟨a1_0, l1_1⟩ = true ∧ rd l0_1 (l1_1.length : Int) = -77 then some () else none
theorem kept_loop (b : Bool) : ∀ (d : Nat) (a : List Int) (i : Nat), a.length - i = d → i ≤ a.length → a.length ≤ 17592186044001 → Ev (fun k => reevelaw08_kept.l0 k b (i : Int) a) b := by
  intro d
  induction d with
  | zero =>
    intro a i hd hi hm
    refine ev_now fun k => ?_
    simp only [reevelaw08_kept.l0]
    rw [if_neg (by omega)]
  | succ d ih =>
    intro a i hd hi hm
    have h := ih (a.set i (-9)) (i + 1) (by rw [List.length_set]; omega) (by rw [List.length_set]; omega) (by rw [List.length_set]; omega)
    refine Ev.step (fun k => ?_) h
    simp only [reevelaw08_kept.l0]
    rw [if_pos (by omega), if_pos (by omega), w64 (x := (i : Int) + 1) (by omega) (by omega), Int.toNat_natCast]
    rfl
theorem kept_ok.calls (a0_0 : Int) (P0_1_ : Nat → Prop) (u9000_ : Value) (l0_1 : List Int) (a1_0 : Int) (A1_1 : Option Addr) (c1_1 : Nat) (l1_1 : List Int) {r_ : Unit} (w0 w : World) (hB : Below w0.heap.size w0 w) (ho0_1 : Kd.R (Kd.int .i64) 3 w w0.heap.size P0_1_ u9000_ l0_1) (hr1_1 : ∀ W_, Kept w W_ (fun k_ => P0_1_ k_) → Kd.C (Kd.int .i64) W_ A1_1 l1_1.length l1_1) (hc1_1 : l1_1.length ≤ c1_1) (h : kept_ok.f a0_0 l0_1 a1_0 l1_1 = some r_) :
    Calls Try.prog 18 #[.agg #[.int .i64 a0_0, shortV u9000_], .agg #[.int .i64 a1_0, .slice A1_1 l1_1.length c1_1]] w fun e w' => e = .returned (.bool true) ∧ Below w0.heap.size w0 w' ∧ Kept w w' (fun k_ => P0_1_ k_) := by
  unfold kept_ok.f at h
  by_cases c : l0_1.length = l1_1.length + 1 ∧ l1_1.length ≤ 17592186044000 ∧ Go.Proofs.Ytkcnenekmjgmgaa.sameB ⟨a0_0, l0_1.dropLast⟩ ⟨a1_0, l1_1⟩ = true ∧ rd l0_1 (l1_1.length : Int) = -77
  · have hF : Ev (fun k => reevelaw08_kept.f k a0_0 l0_1 a1_0 l1_1) true := by
      refine Ev.congr (fun k => ?_) (kept_loop true _ l0_1 0 rfl (by omega) (by omega))
      unfold reevelaw08_kept.f sameL_ok.f
      rw [if_pos ⟨c.1, c.2.2.1⟩]
      simp only [Option.bind_some]
      rw [if_pos (by omega), if_pos (by omega), c.2.2.2]
      rfl
    obtain ⟨k, hk⟩ := hF.rounds
    exact reevelaw08_kept.calls k a0_0 P0_1_ u9000_ l0_1 a1_0 A1_1 c1_1 l1_1 true w0 w hB ho0_1 hr1_1 hc1_1 hk
  · rw [if_neg c] at h
    exact absurd h (by simp)

end Go.Proofs.YtkcnenekmjgmgaaS
end

section
-- Laid by given.py, a program of this seat, with the kit's printer.
namespace Go.Proofs.YtkcnenekmjgmgaaZ
open Go.Proofs.YtkcnenekmjgmgaaP Go.Proofs.YtkcnenekmjgmgaaS
open Go.RowKit Go.Proofs.YtkcnenekmjgmgaaW.PrintWords Go.Proofs.YtkcnenekmjgmgaaW.PrintLast Go.Proofs.YtkcnenekmjgmgaaW.PrintMore
attribute [local go_sem] max2_int min2_int max_two min_two max_three min_three max_four min_four   -- for this text's walks alone
set_option linter.unusedVariables false
set_option linter.unusedSimpArgs false

end Go.Proofs.YtkcnenekmjgmgaaZ
end

section
-- Laid by given.py, a program of this seat, with the kit's printer.
namespace Go.Proofs.YtkcnenekmjgmgaaZ
open Go.Proofs.YtkcnenekmjgmgaaP Go.Proofs.YtkcnenekmjgmgaaS
open Go.RowKit Go.Proofs.YtkcnenekmjgmgaaW.PrintWords Go.Proofs.YtkcnenekmjgmgaaW.PrintLast Go.Proofs.YtkcnenekmjgmgaaW.PrintMore
attribute [local go_sem] max2_int min2_int max_two min_two max_three min_three max_four min_four   -- for this text's walks alone
set_option linter.unusedVariables false
set_option linter.unusedSimpArgs false

/-! ### reevelaw08_WindowWhen: function 8 -/
def reevelaw08_WindowWhen.l0 : Nat → Int → List Int → Int → Int → Int → Int → Int → Int → Int → Int → Int → Int → Int → Int → Int → Int → List Int → Option (Bool)
 | 0, _, _, _, _, _, _, _, _, _, _, _, _, _, _, _, _, _ => none
 | k + 1, x3, x4, x15, x16, x18, x126000, x126001, x126002, x126003, x126004, x126005, x126006, x126007, x126008, x126009, x127000, x127001 => if x18 < (x4.length : Int) then (if x16 > x15 then (if 0 ≤ x18 then (if (wrap64 (x16 - x15)) = 0 then (none) else ((window_Move.f x126000 x126001 x126002 x126003 x126004 x126005 x126006 x126007 x126008 x126009 x127000 x127001 (wrap64 (x15 + (Int.tmod (Go.bits .and .i64 (rd x4 x18) 1125899906842623) (wrap64 (x16 - x15)))))).bind fun bt142 => ((window_May.f x126000 x126001 x126002 x126003 x126004 x126005 x126006 x126007 x126008 x126009 bt142.1 bt142.2 x3).bind fun t146 => (if t146 = true then (none) else (reevelaw08_WindowWhen.l0 k x3 x4 x15 x16 (wrap64 (x18 + 1)) x126000 x126001 x126002 x126003 x126004 x126005 x126006 x126007 x126008 x126009 x127000 x127001))))) else (none)) else (some true)) else (some true)
def reevelaw08_WindowWhen.f (k : Nat) (a0_0 : Int) (a0_1 : Int) (a0_2 : Int) (a0_3 : Int) (a0_4 : Int) (a0_5 : Int) (a0_6 : Int) (a0_7 : Int) (a0_8 : Int) (a0_9 : Int) (a1_0 : Int) (l1_1 : List Int) (a2 : Int) (a3 : Int) (l4 : List Int) : Option (Bool) := (awake_ok.f).bind fun _ => ((lent_ok.f a1_0 l1_1).bind fun bt128 => ((when_all.f a0_0 a0_1 a0_2 a0_3 a0_4 a0_5 a0_6 a0_7 a0_8 a0_9 bt128.1 bt128.2 a2 a3).bind fun t133 => ((kept_ok.f bt128.1 bt128.2 a1_0 l1_1).bind fun _ => ((rwhen_all.f a0_0 a0_1 a0_2 a0_3 a0_4 a0_5 a0_6 a0_7 a0_8 a0_9 a1_0 l1_1 a2 a3).bind fun t135 => (if t133 = t135 then (if t133 ≥ 0 then ((window_Move.f a0_0 a0_1 a0_2 a0_3 a0_4 a0_5 a0_6 a0_7 a0_8 a0_9 a1_0 l1_1 t133).bind fun bt136 => ((window_May.f a0_0 a0_1 a0_2 a0_3 a0_4 a0_5 a0_6 a0_7 a0_8 a0_9 bt136.1 bt136.2 a3).bind fun t140 => (if t140 = true then (if t133 < (mn (mx a2 0) 1099511627776) then (none) else (reevelaw08_WindowWhen.l0 k a3 l4 (mn (mx a2 0) 1099511627776) t133 0 a0_0 a0_1 a0_2 a0_3 a0_4 a0_5 a0_6 a0_7 a0_8 a0_9 a1_0 l1_1)) else (none)))) else (reevelaw08_WindowWhen.l0 k a3 l4 (mn (mx a2 0) 1099511627776) 1099511627777 0 a0_0 a0_1 a0_2 a0_3 a0_4 a0_5 a0_6 a0_7 a0_8 a0_9 a1_0 l1_1)) else (none))))))
theorem reevelaw08_WindowWhen.mono_l : ∀ k, (∀ y0 y1 y2 y3 y4 y5 y6 y7 y8 y9 y10 y11 y12 y13 y14 y15 y16, LeO (reevelaw08_WindowWhen.l0 k y0 y1 y2 y3 y4 y5 y6 y7 y8 y9 y10 y11 y12 y13 y14 y15 y16) (reevelaw08_WindowWhen.l0 (k + 1) y0 y1 y2 y3 y4 y5 y6 y7 y8 y9 y10 y11 y12 y13 y14 y15 y16))
 | 0 => fun _ _ _ _ _ _ _ _ _ _ _ _ _ _ _ _ _ r h => by simp [reevelaw08_WindowWhen.l0] at h
 | k + 1 => by
  have ih0 := reevelaw08_WindowWhen.mono_l k
  ·intro y0 y1 y2 y3 y4 y5 y6 y7 y8 y9 y10 y11 y12 y13 y14 y15 y16
   unfold reevelaw08_WindowWhen.l0
   repeat' first
   | (with_reducible exact ih0 _ _ _ _ _ _ _ _ _ _ _ _ _ _ _ _ _)
   | (with_reducible exact LeO.refl _)
   | (with_reducible exact LeO.none _)
   | (with_reducible refine LeO.ite ?_ ?_)
   | (with_reducible refine LeO.bind ?_ (fun _ => ?_))
   | exact ih0 _ _ _ _ _ _ _ _ _ _ _ _ _ _ _ _ _
   | exact LeO.none _
   | refine LeO.ite ?_ ?_
   | refine LeO.bind ?_ (fun _ => ?_)
theorem reevelaw08_WindowWhen.mono : ∀ a0 a1 a2 a3 a4 a5 a6 a7 a8 a9 a10 a11 a12 a13 a14 k, LeO (reevelaw08_WindowWhen.f k a0 a1 a2 a3 a4 a5 a6 a7 a8 a9 a10 a11 a12 a13 a14) (reevelaw08_WindowWhen.f (k + 1) a0 a1 a2 a3 a4 a5 a6 a7 a8 a9 a10 a11 a12 a13 a14) := by
 intro a0 a1 a2 a3 a4 a5 a6 a7 a8 a9 a10 a11 a12 a13 a14 k
 have ih0 := reevelaw08_WindowWhen.mono_l k
 unfold reevelaw08_WindowWhen.f
 repeat' first
   | (with_reducible exact ih0 _ _ _ _ _ _ _ _ _ _ _ _ _ _ _ _ _)
   | (with_reducible exact LeO.refl _)
   | (with_reducible exact LeO.none _)
   | (with_reducible refine LeO.ite ?_ ?_)
   | (with_reducible refine LeO.bind ?_ (fun _ => ?_))
   | exact ih0 _ _ _ _ _ _ _ _ _ _ _ _ _ _ _ _ _
   | exact LeO.none _
   | refine LeO.ite ?_ ?_
   | refine LeO.bind ?_ (fun _ => ?_)
def reevelaw08_WindowWhen.T10 : Bool × List (List Nat × List Nat) := (true, [([], []), ([], []), ([], []), ([], []), ([1, 2, 3], [1, 2, 3]), ([], []), ([0, 4, 5, 4], [0, 4, 5]), ([6, 6, 0, 1, 2, 3, 4, 5, 6], [6])])
def reevelaw08_WindowWhen.B10 : List Nat := [0, 0, 0, 0, 14, 0, 63, 127]
theorem reevelaw08_WindowWhen.tab10 : rtab .any (opsOf Try.f8 10) = reevelaw08_WindowWhen.T10 := by kernel_rfl
theorem reevelaw08_WindowWhen.bits10 : waitsOk reevelaw08_WindowWhen.T10.2 reevelaw08_WindowWhen.B10 = true := by kernel_rfl
def reevelaw08_WindowWhen.T18 : Bool × List (List Nat × List Nat) := (true, [([], []), ([], []), ([], []), ([], []), ([1, 2, 3], [1, 2, 3]), ([], []), ([0, 4, 5, 4], [0, 4, 5]), ([6, 6, 0, 1, 2, 3, 4, 5, 6], [6])])
def reevelaw08_WindowWhen.B18 : List Nat := [0, 0, 0, 0, 14, 0, 63, 127]
theorem reevelaw08_WindowWhen.tab18 : rtab .any (opsOf Try.f8 18) = reevelaw08_WindowWhen.T18 := by kernel_rfl
theorem reevelaw08_WindowWhen.bits18 : waitsOk reevelaw08_WindowWhen.T18.2 reevelaw08_WindowWhen.B18 = true := by kernel_rfl
theorem shortV_slice (A : Option Addr) (n c : Nat) : shortV (.slice A n c) = .slice A (n - 1) c := rfl
attribute [local go_sem] shortV_slice
set_option maxHeartbeats 8000000 in
set_option maxRecDepth 100000 in
theorem reevelaw08_WindowWhen.calls (k : Nat) (a0_0 : Int) (a0_1 : Int) (a0_2 : Int) (a0_3 : Int) (a0_4 : Int) (a0_5 : Int) (a0_6 : Int) (a0_7 : Int) (a0_8 : Int) (a0_9 : Int) (a1_0 : Int) (A1_1 : Option Addr) (c1_1 : Nat) (l1_1 : List Int) (a2 : Int) (a3 : Int) (A4 : Option Addr) (c4 : Nat) (l4 : List Int) (r : Bool) (w : World) (hr1_1 : Kd.C (Kd.int .i64) w A1_1 l1_1.length l1_1) (hc1_1 : l1_1.length ≤ c1_1) (hr4 : Kd.C (Kd.int .i64) w A4 l4.length l4) (hc4 : l4.length ≤ c4) (h : reevelaw08_WindowWhen.f k a0_0 a0_1 a0_2 a0_3 a0_4 a0_5 a0_6 a0_7 a0_8 a0_9 a1_0 l1_1 a2 a3 l4 = some r) :
  Calls Try.prog 8 #[.agg #[.int .i64 a0_0, .int .i64 a0_1, .int .i64 a0_2, .int .i64 a0_3, .int .i64 a0_4, .int .i64 a0_5, .int .i64 a0_6, .int .i64 a0_7, .int .i64 a0_8, .int .i64 a0_9], .agg #[.int .i64 a1_0, .slice A1_1 l1_1.length c1_1], .int .i64 a2, .int .i64 a3, .slice A4 l4.length c4] w fun e w' => e = .returned (.bool r) ∧ Below w.heap.size w w' := by
 have hu23 := Try.underlying23
 have hu26 := Try.underlying26
 have HR1_1 := Aside0.mk hr1_1
 have HC1_1 := Aside0.mk hc1_1
 clear hr1_1 hc1_1
 have HR4 := Aside0.mk hr4
 have HC4 := Aside0.mk hc4
 clear hr4 hc4
 have HB := Aside0.mk (Below.refl w.heap.size w)
 have H : ((awake_ok.f).bind fun _ => ((lent_ok.f a1_0 l1_1).bind fun bt128 => ((when_all.f a0_0 a0_1 a0_2 a0_3 a0_4 a0_5 a0_6 a0_7 a0_8 a0_9 bt128.1 bt128.2 a2 a3).bind fun t133 => ((kept_ok.f bt128.1 bt128.2 a1_0 l1_1).bind fun _ => ((rwhen_all.f a0_0 a0_1 a0_2 a0_3 a0_4 a0_5 a0_6 a0_7 a0_8 a0_9 a1_0 l1_1 a2 a3).bind fun t135 => (if t133 = t135 then (if t133 ≥ 0 then ((window_Move.f a0_0 a0_1 a0_2 a0_3 a0_4 a0_5 a0_6 a0_7 a0_8 a0_9 a1_0 l1_1 t133).bind fun bt136 => ((window_May.f a0_0 a0_1 a0_2 a0_3 a0_4 a0_5 a0_6 a0_7 a0_8 a0_9 bt136.1 bt136.2 a3).bind fun t140 => (if t140 = true then (if t133 < (mn (mx a2 0) 1099511627776) then (none) else (reevelaw08_WindowWhen.l0 k a3 l4 (mn (mx a2 0) 1099511627776) t133 0 a0_0 a0_1 a0_2 a0_3 a0_4 a0_5 a0_6 a0_7 a0_8 a0_9 a1_0 l1_1)) else (none)))) else (reevelaw08_WindowWhen.l0 k a3 l4 (mn (mx a2 0) 1099511627776) 1099511627777 0 a0_0 a0_1 a0_2 a0_3 a0_4 a0_5 a0_6 a0_7 a0_8 a0_9 a1_0 l1_1)) else (none))))))) = some r := h
 clear h
 replace H := Option.bind_eq_some_iff.mp H
 obtain ⟨_, A60, H⟩ := H
 replace H : ((lent_ok.f a1_0 l1_1).bind fun bt128 => ((when_all.f a0_0 a0_1 a0_2 a0_3 a0_4 a0_5 a0_6 a0_7 a0_8 a0_9 bt128.1 bt128.2 a2 a3).bind fun t133 => ((kept_ok.f bt128.1 bt128.2 a1_0 l1_1).bind fun _ => ((rwhen_all.f a0_0 a0_1 a0_2 a0_3 a0_4 a0_5 a0_6 a0_7 a0_8 a0_9 a1_0 l1_1 a2 a3).bind fun t135 => (if t133 = t135 then (if t133 ≥ 0 then ((window_Move.f a0_0 a0_1 a0_2 a0_3 a0_4 a0_5 a0_6 a0_7 a0_8 a0_9 a1_0 l1_1 t133).bind fun bt136 => ((window_May.f a0_0 a0_1 a0_2 a0_3 a0_4 a0_5 a0_6 a0_7 a0_8 a0_9 bt136.1 bt136.2 a3).bind fun t140 => (if t140 = true then (if t133 < (mn (mx a2 0) 1099511627776) then (none) else (reevelaw08_WindowWhen.l0 k a3 l4 (mn (mx a2 0) 1099511627776) t133 0 a0_0 a0_1 a0_2 a0_3 a0_4 a0_5 a0_6 a0_7 a0_8 a0_9 a1_0 l1_1)) else (none)))) else (reevelaw08_WindowWhen.l0 k a3 l4 (mn (mx a2 0) 1099511627776) 1099511627777 0 a0_0 a0_1 a0_2 a0_3 a0_4 a0_5 a0_6 a0_7 a0_8 a0_9 a1_0 l1_1)) else (none)))))) = some r := H
 have A6 := Aside0.mk A60
 clear A60
 replace H := Option.bind_eq_some_iff.mp H
 obtain ⟨⟨t128, t129⟩, A70, H⟩ := H
 replace H : ((when_all.f a0_0 a0_1 a0_2 a0_3 a0_4 a0_5 a0_6 a0_7 a0_8 a0_9 t128 t129 a2 a3).bind fun t133 => ((kept_ok.f t128 t129 a1_0 l1_1).bind fun _ => ((rwhen_all.f a0_0 a0_1 a0_2 a0_3 a0_4 a0_5 a0_6 a0_7 a0_8 a0_9 a1_0 l1_1 a2 a3).bind fun t135 => (if t133 = t135 then (if t133 ≥ 0 then ((window_Move.f a0_0 a0_1 a0_2 a0_3 a0_4 a0_5 a0_6 a0_7 a0_8 a0_9 a1_0 l1_1 t133).bind fun bt136 => ((window_May.f a0_0 a0_1 a0_2 a0_3 a0_4 a0_5 a0_6 a0_7 a0_8 a0_9 bt136.1 bt136.2 a3).bind fun t140 => (if t140 = true then (if t133 < (mn (mx a2 0) 1099511627776) then (none) else (reevelaw08_WindowWhen.l0 k a3 l4 (mn (mx a2 0) 1099511627776) t133 0 a0_0 a0_1 a0_2 a0_3 a0_4 a0_5 a0_6 a0_7 a0_8 a0_9 a1_0 l1_1)) else (none)))) else (reevelaw08_WindowWhen.l0 k a3 l4 (mn (mx a2 0) 1099511627776) 1099511627777 0 a0_0 a0_1 a0_2 a0_3 a0_4 a0_5 a0_6 a0_7 a0_8 a0_9 a1_0 l1_1)) else (none))))) = some r := H
 have A7 := Aside0.mk A70
 clear A70
 replace H := Option.bind_eq_some_iff.mp H
 obtain ⟨t133, A80, H⟩ := H
 replace H : ((kept_ok.f t128 t129 a1_0 l1_1).bind fun _ => ((rwhen_all.f a0_0 a0_1 a0_2 a0_3 a0_4 a0_5 a0_6 a0_7 a0_8 a0_9 a1_0 l1_1 a2 a3).bind fun t135 => (if t133 = t135 then (if t133 ≥ 0 then ((window_Move.f a0_0 a0_1 a0_2 a0_3 a0_4 a0_5 a0_6 a0_7 a0_8 a0_9 a1_0 l1_1 t133).bind fun bt136 => ((window_May.f a0_0 a0_1 a0_2 a0_3 a0_4 a0_5 a0_6 a0_7 a0_8 a0_9 bt136.1 bt136.2 a3).bind fun t140 => (if t140 = true then (if t133 < (mn (mx a2 0) 1099511627776) then (none) else (reevelaw08_WindowWhen.l0 k a3 l4 (mn (mx a2 0) 1099511627776) t133 0 a0_0 a0_1 a0_2 a0_3 a0_4 a0_5 a0_6 a0_7 a0_8 a0_9 a1_0 l1_1)) else (none)))) else (reevelaw08_WindowWhen.l0 k a3 l4 (mn (mx a2 0) 1099511627776) 1099511627777 0 a0_0 a0_1 a0_2 a0_3 a0_4 a0_5 a0_6 a0_7 a0_8 a0_9 a1_0 l1_1)) else (none)))) = some r := H
 have A8 := Aside0.mk A80
 clear A80
 replace H := Option.bind_eq_some_iff.mp H
 obtain ⟨_, A90, H⟩ := H
 replace H : ((rwhen_all.f a0_0 a0_1 a0_2 a0_3 a0_4 a0_5 a0_6 a0_7 a0_8 a0_9 a1_0 l1_1 a2 a3).bind fun t135 => (if t133 = t135 then (if t133 ≥ 0 then ((window_Move.f a0_0 a0_1 a0_2 a0_3 a0_4 a0_5 a0_6 a0_7 a0_8 a0_9 a1_0 l1_1 t133).bind fun bt136 => ((window_May.f a0_0 a0_1 a0_2 a0_3 a0_4 a0_5 a0_6 a0_7 a0_8 a0_9 bt136.1 bt136.2 a3).bind fun t140 => (if t140 = true then (if t133 < (mn (mx a2 0) 1099511627776) then (none) else (reevelaw08_WindowWhen.l0 k a3 l4 (mn (mx a2 0) 1099511627776) t133 0 a0_0 a0_1 a0_2 a0_3 a0_4 a0_5 a0_6 a0_7 a0_8 a0_9 a1_0 l1_1)) else (none)))) else (reevelaw08_WindowWhen.l0 k a3 l4 (mn (mx a2 0) 1099511627776) 1099511627777 0 a0_0 a0_1 a0_2 a0_3 a0_4 a0_5 a0_6 a0_7 a0_8 a0_9 a1_0 l1_1)) else (none))) = some r := H
 have A9 := Aside0.mk A90
 clear A90
 replace H := Option.bind_eq_some_iff.mp H
 obtain ⟨t135, A100, H⟩ := H
 replace H : (if t133 = t135 then (if t133 ≥ 0 then ((window_Move.f a0_0 a0_1 a0_2 a0_3 a0_4 a0_5 a0_6 a0_7 a0_8 a0_9 a1_0 l1_1 t133).bind fun bt136 => ((window_May.f a0_0 a0_1 a0_2 a0_3 a0_4 a0_5 a0_6 a0_7 a0_8 a0_9 bt136.1 bt136.2 a3).bind fun t140 => (if t140 = true then (if t133 < (mn (mx a2 0) 1099511627776) then (none) else (reevelaw08_WindowWhen.l0 k a3 l4 (mn (mx a2 0) 1099511627776) t133 0 a0_0 a0_1 a0_2 a0_3 a0_4 a0_5 a0_6 a0_7 a0_8 a0_9 a1_0 l1_1)) else (none)))) else (reevelaw08_WindowWhen.l0 k a3 l4 (mn (mx a2 0) 1099511627776) 1099511627777 0 a0_0 a0_1 a0_2 a0_3 a0_4 a0_5 a0_6 a0_7 a0_8 a0_9 a1_0 l1_1)) else (none)) = some r := H
 have A10 := Aside0.mk A100
 clear A100
 by_cases c11 : t133 = t135
 ·rw [if_pos c11] at H
  have c11b0 : (t133 == t135) = true := beq_iff_eq.mpr c11
  have c11b1 : (t133 != t135) = false := bne_eq_false_iff_eq.mpr c11
  clear c11
  obtain ⟨ji12, hji12⟩ : ∃ j_ : Int, (mx a2 0) = j_ := ⟨_, rfl⟩
  replace H : (if t133 ≥ 0 then ((window_Move.f a0_0 a0_1 a0_2 a0_3 a0_4 a0_5 a0_6 a0_7 a0_8 a0_9 a1_0 l1_1 t133).bind fun bt136 => ((window_May.f a0_0 a0_1 a0_2 a0_3 a0_4 a0_5 a0_6 a0_7 a0_8 a0_9 bt136.1 bt136.2 a3).bind fun t140 => (if t140 = true then (if t133 < (mn (ji12) 1099511627776) then (none) else (reevelaw08_WindowWhen.l0 k a3 l4 (mn (ji12) 1099511627776) t133 0 a0_0 a0_1 a0_2 a0_3 a0_4 a0_5 a0_6 a0_7 a0_8 a0_9 a1_0 l1_1)) else (none)))) else (reevelaw08_WindowWhen.l0 k a3 l4 (mn (ji12) 1099511627776) 1099511627777 0 a0_0 a0_1 a0_2 a0_3 a0_4 a0_5 a0_6 a0_7 a0_8 a0_9 a1_0 l1_1)) = some r := by first | (rw [hji12] at H; exact H) | (simp only [hji12] at H ⊢; exact H)
  (try rw [hji12] at A6)
  (try rw [hji12] at A7)
  (try rw [hji12] at A8)
  (try rw [hji12] at A9)
  (try rw [hji12] at A10)
  (try (have hji12l : 0 ≤ ji12 := by (rw [← hji12]; unfold mx; (repeat' split) <;> omega)))
  (try (have hji12m : 0 ≤ ji12 := by omega))
  have hji12_ : (if a2 < 0 then 0 else a2) = ji12 := hji12
  obtain ⟨ji13, hji13⟩ : ∃ j_ : Int, (mn (ji12) 1099511627776) = j_ := ⟨_, rfl⟩
  replace H : (if t133 ≥ 0 then ((window_Move.f a0_0 a0_1 a0_2 a0_3 a0_4 a0_5 a0_6 a0_7 a0_8 a0_9 a1_0 l1_1 t133).bind fun bt136 => ((window_May.f a0_0 a0_1 a0_2 a0_3 a0_4 a0_5 a0_6 a0_7 a0_8 a0_9 bt136.1 bt136.2 a3).bind fun t140 => (if t140 = true then (if t133 < (ji13) then (none) else (reevelaw08_WindowWhen.l0 k a3 l4 ji13 t133 0 a0_0 a0_1 a0_2 a0_3 a0_4 a0_5 a0_6 a0_7 a0_8 a0_9 a1_0 l1_1)) else (none)))) else (reevelaw08_WindowWhen.l0 k a3 l4 ji13 1099511627777 0 a0_0 a0_1 a0_2 a0_3 a0_4 a0_5 a0_6 a0_7 a0_8 a0_9 a1_0 l1_1)) = some r := by first | (rw [hji13] at H; exact H) | (simp only [hji13] at H ⊢; exact H)
  (try rw [hji13] at A6)
  (try rw [hji13] at A7)
  (try rw [hji13] at A8)
  (try rw [hji13] at A9)
  (try rw [hji13] at A10)
  have hji13_ : (if 1099511627776 < (ji12) then 1099511627776 else (ji12)) = ji13 := hji13
  by_cases c14 : t133 ≥ 0
  ·rw [if_pos c14] at H
   have c14b0 : decide (0 ≤ t133) = true := decide_eq_true c14
   clear c14
   replace H := Option.bind_eq_some_iff.mp H
   obtain ⟨⟨t136, t137⟩, A150, H⟩ := H
   replace H : ((window_May.f a0_0 a0_1 a0_2 a0_3 a0_4 a0_5 a0_6 a0_7 a0_8 a0_9 t136 t137 a3).bind fun t140 => (if t140 = true then (if t133 < (ji13) then (none) else (reevelaw08_WindowWhen.l0 k a3 l4 ji13 t133 0 a0_0 a0_1 a0_2 a0_3 a0_4 a0_5 a0_6 a0_7 a0_8 a0_9 a1_0 l1_1)) else (none))) = some r := H
   have A15 := Aside0.mk A150
   clear A150
   replace H := Option.bind_eq_some_iff.mp H
   obtain ⟨t140, A160, H⟩ := H
   replace H : (if t140 = true then (if t133 < (ji13) then (none) else (reevelaw08_WindowWhen.l0 k a3 l4 ji13 t133 0 a0_0 a0_1 a0_2 a0_3 a0_4 a0_5 a0_6 a0_7 a0_8 a0_9 a1_0 l1_1)) else (none)) = some r := H
   have A16 := Aside0.mk A160
   clear A160
   by_cases c17 : t140 = true
   ·subst c17
    have H1 : (if t133 < (ji13) then (none) else (reevelaw08_WindowWhen.l0 k a3 l4 ji13 t133 0 a0_0 a0_1 a0_2 a0_3 a0_4 a0_5 a0_6 a0_7 a0_8 a0_9 a1_0 l1_1)) = some r := by rw [if_pos rfl] at H; exact H
    clear H
    have H := H1
    clear H1
    by_cases c18 : t133 < (ji13)
    ·rw [if_pos c18] at H
     exact absurd H (by simp)
    ·rw [if_neg c18] at H
     have c18b0 : decide (t133 < (ji13)) = false := decide_eq_false c18
     clear c18
     have H' := Aside0.mk H
     clear H
     go_enter Try.func8, Try.ntmps8
     try go_wp2_with (first | ((with_reducible refine gate_dst (N := 5) rfl ?_); refine box_event ?hg (N := 5) ?hd (cs := #[.int .i64 a0_0, .int .i64 a0_1, .int .i64 a0_2, .int .i64 a0_3, .int .i64 a0_4, .int .i64 a0_5, .int .i64 a0_6, .int .i64 a0_7, .int .i64 a0_8, .int .i64 a0_9]) (t := 23) ?hr ?_; (case hd => rfl); (case hg => rfl); (case hr => first | (go_simp; done) | (go_simp; rfl)); intro gb125 hg w19 hbox hb; have n0_ := Aside0.mk (below_step (by repeat (first | (with_reducible first | exact HB.out | apply below_alloc | apply pw_below_drewN | apply below_drew1) | exact HB.out)) hb); have n1_ := Aside0.mk (hbox); have n2_ := Aside0.mk ((by rw [hg]; exact (below_size (by repeat (first | (with_reducible first | exact HB.out | apply below_alloc | apply pw_below_drewN | apply below_drew1) | exact HB.out))) : w.heap.size ≤ gb125)); have n3_ := Aside0.mk ((by rw [hg]; exact (below_size (by repeat (first | (with_reducible first | exact HB.out | apply below_alloc | apply pw_below_drewN | apply below_drew1) | exact HB.out))) : w.heap.size ≤ gb125)); clear HB; have HB := n0_; have BK125 := n1_; have GW125 := n2_; have GE125 := n3_; clear n0_ n1_ n2_ n3_; clear hb hbox hg) | ((with_reducible refine gate_dst (N := 6) rfl ?_); refine box_event ?hg (N := 6) ?hd (cs := #[.int .i64 a1_0, .slice A1_1 l1_1.length c1_1]) (t := 26) ?hr ?_; (case hd => rfl); (case hg => rfl); (case hr => first | (go_simp; done) | (go_simp; rfl)); intro gb126 hg w20 hbox hb; have n0_ := Aside0.mk (blk_below (g := gb125) (o := .cells #[.int .i64 a0_0, .int .i64 a0_1, .int .i64 a0_2, .int .i64 a0_3, .int .i64 a0_4, .int .i64 a0_5, .int .i64 a0_6, .int .i64 a0_7, .int .i64 a0_8, .int .i64 a0_9] 23 (0, 0)) (by (with_reducible repeat (first | refine blk_drewN ?_ _ | refine blk_drew ?_ | refine blk_alloc ?_ _)); exact BK125.out) hb); have n1_ := Aside0.mk (below_step (by repeat (first | (with_reducible first | exact HB.out | apply below_alloc | apply pw_below_drewN | apply below_drew1 | refine below_set ?_ GE125.out) | exact HB.out)) hb); have n2_ := Aside0.mk (hbox); have n3_ := Aside0.mk ((by rw [hg]; exact (below_size (by repeat (first | (with_reducible first | exact HB.out | apply below_alloc | apply pw_below_drewN | apply below_drew1 | refine below_set ?_ GE125.out) | exact HB.out))) : w.heap.size ≤ gb126)); have n4_ := Aside0.mk ((by rw [hg]; exact (below_size (by repeat (first | (with_reducible first | exact HB.out | apply below_alloc | apply pw_below_drewN | apply below_drew1 | refine below_set ?_ GE125.out) | exact HB.out))) : w.heap.size ≤ gb126)); have n5_ := Aside0.mk ((by rw [hg]; exact Nat.ne_of_lt (blk_lt (g := gb125) (o := .cells #[.int .i64 a0_0, .int .i64 a0_1, .int .i64 a0_2, .int .i64 a0_3, .int .i64 a0_4, .int .i64 a0_5, .int .i64 a0_6, .int .i64 a0_7, .int .i64 a0_8, .int .i64 a0_9] 23 (0, 0)) (by (with_reducible repeat (first | refine blk_drewN ?_ _ | refine blk_drew ?_ | refine blk_alloc ?_ _)); exact BK125.out)) : gb125 ≠ gb126)); have n6_ := Aside0.mk ((by rw [hg]; exact Nat.ne_of_gt (blk_lt (g := gb125) (o := .cells #[.int .i64 a0_0, .int .i64 a0_1, .int .i64 a0_2, .int .i64 a0_3, .int .i64 a0_4, .int .i64 a0_5, .int .i64 a0_6, .int .i64 a0_7, .int .i64 a0_8, .int .i64 a0_9] 23 (0, 0)) (by (with_reducible repeat (first | refine blk_drewN ?_ _ | refine blk_drew ?_ | refine blk_alloc ?_ _)); exact BK125.out)) : gb126 ≠ gb125)); clear BK125; clear HB; have BK125 := n0_; have HB := n1_; have BK126 := n2_; have GW126 := n3_; have GE126 := n4_; have NB125_126 := n5_; have NB126_125 := n6_; clear n0_ n1_ n2_ n3_ n4_ n5_ n6_; clear hb hbox hg) | ((with_reducible refine gate_callee (f := 9) rfl ?_); refine goesL_ (some 21) rfl rfl Try.func9 (by kernel_rfl) rfl #[] rfl (by (try simp only [List.map_toArray, List.map_cons, List.map_nil]); first | done | rfl | (simp only [List.length_drop, List.length_take]; rfl)) ?_; (with_reducible refine (awake_ok.calls   _ A6.out).mono ?_); rintro e w21 ⟨rfl, hb⟩; refine ⟨_, rfl, ?_⟩; have n0_ := Aside0.mk (blk_below (g := gb125) (o := .cells #[.int .i64 a0_0, .int .i64 a0_1, .int .i64 a0_2, .int .i64 a0_3, .int .i64 a0_4, .int .i64 a0_5, .int .i64 a0_6, .int .i64 a0_7, .int .i64 a0_8, .int .i64 a0_9] 23 (0, 0)) (by (with_reducible repeat (first | refine blk_drewN ?_ _ | refine blk_drew ?_ | refine blk_alloc ?_ _)); exact BK125.out) hb); have n1_ := Aside0.mk (blk_below (g := gb126) (o := .cells #[.int .i64 a1_0, .slice A1_1 l1_1.length c1_1] 26 (0, 0)) (by (with_reducible repeat (first | refine blk_drewN ?_ _ | refine blk_drew ?_ | refine blk_alloc ?_ _)); exact BK126.out) hb); have n2_ := Aside0.mk (below_step (by repeat (first | (with_reducible first | exact HB.out | apply below_alloc | apply pw_below_drewN | apply below_drew1 | refine below_set ?_ GE125.out | refine below_set ?_ GE126.out) | exact HB.out)) hb); clear BK125; clear BK126; clear HB; have BK125 := n0_; have BK126 := n1_; have HB := n2_; clear n0_ n1_ n2_; (try clear hb); (try clear hb2); (try clear hk); (try clear hi); have hnb22 := NB126_125.out; have hnc22 := NB125_126.out; have hcz23_0 : w21.cell? ⟨gb126, 0, none⟩ = some (.int .i64 a1_0) := (blk_cell BK126.out 0).trans rfl; have hcz23_1 : w21.cell? ⟨gb126, 1, none⟩ = some (.slice A1_1 l1_1.length c1_1) := (blk_cell BK126.out 1).trans rfl; have hfz23_0 := blk_frozen BK126.out 0; have hfz23_1 := blk_frozen BK126.out 1) | ((with_reducible refine gate_callee (f := 14) rfl ?_); refine goesL_ (some 23) rfl rfl Try.func14 (by kernel_rfl) rfl #[.agg #[.int .i64 a1_0, .slice A1_1 l1_1.length c1_1]] rfl (by (try simp only [List.map_toArray, List.map_cons, List.map_nil]); first | done | rfl | (simp only [List.length_drop, List.length_take]; rfl)) ?_; (with_reducible refine (lent_ok.calls a1_0 _ _ l1_1 t128 t129 _ ?side1 ?side2 A7.out).mono ?_); (case side1 => repeat (first | exact (Kd.C_below HR1_1.out HB.out) | (with_reducible refine Kd.C_alloc ?_ _) | (with_reducible refine Kd.C_drewN ?_ _) | (with_reducible refine Kd.C_drew ?_))); (case side2 => exact HC1_1.out); rintro e w24 ⟨v130, rfl, ho0, hb⟩; refine ⟨_, rfl, ?_⟩; have n0_ := Aside0.mk (Kd.R_lower ho0 (below_size (by repeat (first | (with_reducible first | exact HB.out | apply below_alloc | apply pw_below_drewN | apply below_drew1 | refine below_set ?_ GE125.out | refine below_set ?_ GE126.out) | exact HB.out)))); have n1_ := Aside0.mk (blk_below (g := gb125) (o := .cells #[.int .i64 a0_0, .int .i64 a0_1, .int .i64 a0_2, .int .i64 a0_3, .int .i64 a0_4, .int .i64 a0_5, .int .i64 a0_6, .int .i64 a0_7, .int .i64 a0_8, .int .i64 a0_9] 23 (0, 0)) (by (with_reducible repeat (first | refine blk_drewN ?_ _ | refine blk_drew ?_ | refine blk_alloc ?_ _)); exact BK125.out) hb); have n2_ := Aside0.mk (blk_below (g := gb126) (o := .cells #[.int .i64 a1_0, .slice A1_1 l1_1.length c1_1] 26 (0, 0)) (by (with_reducible repeat (first | refine blk_drewN ?_ _ | refine blk_drew ?_ | refine blk_alloc ?_ _)); exact BK126.out) hb); have n3_ := Aside0.mk (below_step (by repeat (first | (with_reducible first | exact HB.out | apply below_alloc | apply pw_below_drewN | apply below_drew1 | refine below_set ?_ GE125.out | refine below_set ?_ GE126.out) | exact HB.out)) hb); clear BK125; clear BK126; clear HB; have HO131 := n0_; have BK125 := n1_; have BK126 := n2_; have HB := n3_; clear n0_ n1_ n2_ n3_; (try clear hb); (try clear hb2); (try clear hk); (try clear hi); (try clear ho0)) | ((with_reducible refine gate_dst (N := 12) rfl ?_); refine box_event ?hg (N := 12) ?hd (cs := #[.int .i64 0, .slice none 0 0]) (t := 26) ?hr ?_; (case hd => rfl); (case hg => rfl); (case hr => first | (go_simp; done) | (go_simp; rfl)); intro gb132 hg w25 hbox hb; have n0_ := Aside0.mk (Kd.R_below (by (with_reducible repeat (first | apply Kd.R_alloc | apply Kd.R_drewN | apply Kd.R_drew)); exact HO131.out) hb); have n1_ := Aside0.mk (blk_below (g := gb125) (o := .cells #[.int .i64 a0_0, .int .i64 a0_1, .int .i64 a0_2, .int .i64 a0_3, .int .i64 a0_4, .int .i64 a0_5, .int .i64 a0_6, .int .i64 a0_7, .int .i64 a0_8, .int .i64 a0_9] 23 (0, 0)) (by (with_reducible repeat (first | refine blk_drewN ?_ _ | refine blk_drew ?_ | refine blk_alloc ?_ _)); exact BK125.out) hb); have n2_ := Aside0.mk (blk_below (g := gb126) (o := .cells #[.int .i64 a1_0, .slice A1_1 l1_1.length c1_1] 26 (0, 0)) (by (with_reducible repeat (first | refine blk_drewN ?_ _ | refine blk_drew ?_ | refine blk_alloc ?_ _)); exact BK126.out) hb); have n3_ := Aside0.mk (below_step (by repeat (first | (with_reducible first | exact HB.out | apply below_alloc | apply pw_below_drewN | apply below_drew1 | refine below_set ?_ GE125.out | refine below_set ?_ GE126.out) | exact HB.out)) hb); have n4_ := Aside0.mk (hbox); have n5_ := Aside0.mk ((by rw [hg]; exact (below_size (by repeat (first | (with_reducible first | exact HB.out | apply below_alloc | apply pw_below_drewN | apply below_drew1 | refine below_set ?_ GE125.out | refine below_set ?_ GE126.out) | exact HB.out))) : w.heap.size ≤ gb132)); have n6_ := Aside0.mk ((by rw [hg]; exact (below_size (by repeat (first | (with_reducible first | exact HB.out | apply below_alloc | apply pw_below_drewN | apply below_drew1 | refine below_set ?_ GE125.out | refine below_set ?_ GE126.out) | exact HB.out))) : w.heap.size ≤ gb132)); have n7_ := Aside0.mk ((by rw [hg]; exact Nat.ne_of_lt (blk_lt (g := gb125) (o := .cells #[.int .i64 a0_0, .int .i64 a0_1, .int .i64 a0_2, .int .i64 a0_3, .int .i64 a0_4, .int .i64 a0_5, .int .i64 a0_6, .int .i64 a0_7, .int .i64 a0_8, .int .i64 a0_9] 23 (0, 0)) (by (with_reducible repeat (first | refine blk_drewN ?_ _ | refine blk_drew ?_ | refine blk_alloc ?_ _)); exact BK125.out)) : gb125 ≠ gb132)); have n8_ := Aside0.mk ((by rw [hg]; exact Nat.ne_of_gt (blk_lt (g := gb125) (o := .cells #[.int .i64 a0_0, .int .i64 a0_1, .int .i64 a0_2, .int .i64 a0_3, .int .i64 a0_4, .int .i64 a0_5, .int .i64 a0_6, .int .i64 a0_7, .int .i64 a0_8, .int .i64 a0_9] 23 (0, 0)) (by (with_reducible repeat (first | refine blk_drewN ?_ _ | refine blk_drew ?_ | refine blk_alloc ?_ _)); exact BK125.out)) : gb132 ≠ gb125)); have n9_ := Aside0.mk ((by rw [hg]; exact Nat.ne_of_lt (blk_lt (g := gb126) (o := .cells #[.int .i64 a1_0, .slice A1_1 l1_1.length c1_1] 26 (0, 0)) (by (with_reducible repeat (first | refine blk_drewN ?_ _ | refine blk_drew ?_ | refine blk_alloc ?_ _)); exact BK126.out)) : gb126 ≠ gb132)); have n10_ := Aside0.mk ((by rw [hg]; exact Nat.ne_of_gt (blk_lt (g := gb126) (o := .cells #[.int .i64 a1_0, .slice A1_1 l1_1.length c1_1] 26 (0, 0)) (by (with_reducible repeat (first | refine blk_drewN ?_ _ | refine blk_drew ?_ | refine blk_alloc ?_ _)); exact BK126.out)) : gb132 ≠ gb126)); clear HO131; clear BK125; clear BK126; clear HB; have HO131 := n0_; have BK125 := n1_; have BK126 := n2_; have HB := n3_; have BK132 := n4_; have GW132 := n5_; have GE132 := n6_; have NB125_132 := n7_; have NB132_125 := n8_; have NB126_132 := n9_; have NB132_126 := n10_; clear n0_ n1_ n2_ n3_ n4_ n5_ n6_ n7_ n8_ n9_ n10_; clear hb hbox hg; have hnb26 := NB132_125.out; have hnc26 := NB125_132.out; have hnb27 := NB132_126.out; have hnc27 := NB126_132.out; have hcz28_0 : w25.cell? ⟨gb132, 0, none⟩ = some (.int .i64 0) := (blk_cell BK132.out 0).trans rfl; have hcz28_1 : w25.cell? ⟨gb132, 1, none⟩ = some (.slice none 0 0) := (blk_cell BK132.out 1).trans rfl; have hfz28_0 := blk_frozen BK132.out 0; have hfz28_1 := blk_frozen BK132.out 1; obtain ⟨Ao29, co29, eo29⟩ := Kd.R_slice HO131.out; subst eo29; have hcz30_0 : w25.cell? ⟨gb125, 0, none⟩ = some (.int .i64 a0_0) := (blk_cell BK125.out 0).trans rfl; have hcz30_1 : w25.cell? ⟨gb125, 1, none⟩ = some (.int .i64 a0_1) := (blk_cell BK125.out 1).trans rfl; have hcz30_2 : w25.cell? ⟨gb125, 2, none⟩ = some (.int .i64 a0_2) := (blk_cell BK125.out 2).trans rfl; have hcz30_3 : w25.cell? ⟨gb125, 3, none⟩ = some (.int .i64 a0_3) := (blk_cell BK125.out 3).trans rfl; have hcz30_4 : w25.cell? ⟨gb125, 4, none⟩ = some (.int .i64 a0_4) := (blk_cell BK125.out 4).trans rfl; have hcz30_5 : w25.cell? ⟨gb125, 5, none⟩ = some (.int .i64 a0_5) := (blk_cell BK125.out 5).trans rfl; have hcz30_6 : w25.cell? ⟨gb125, 6, none⟩ = some (.int .i64 a0_6) := (blk_cell BK125.out 6).trans rfl; have hcz30_7 : w25.cell? ⟨gb125, 7, none⟩ = some (.int .i64 a0_7) := (blk_cell BK125.out 7).trans rfl; have hcz30_8 : w25.cell? ⟨gb125, 8, none⟩ = some (.int .i64 a0_8) := (blk_cell BK125.out 8).trans rfl; have hcz30_9 : w25.cell? ⟨gb125, 9, none⟩ = some (.int .i64 a0_9) := (blk_cell BK125.out 9).trans rfl; have hfz30_0 := blk_frozen BK125.out 0; have hfz30_1 := blk_frozen BK125.out 1; have hfz30_2 := blk_frozen BK125.out 2; have hfz30_3 := blk_frozen BK125.out 3; have hfz30_4 := blk_frozen BK125.out 4; have hfz30_5 := blk_frozen BK125.out 5; have hfz30_6 := blk_frozen BK125.out 6; have hfz30_7 := blk_frozen BK125.out 7; have hfz30_8 := blk_frozen BK125.out 8; have hfz30_9 := blk_frozen BK125.out 9) | ((with_reducible refine gate_callee (f := 27) rfl ?_); refine goesL_ (some 28) rfl rfl Try.func27 (by kernel_rfl) rfl #[.agg #[.int .i64 a0_0, .int .i64 a0_1, .int .i64 a0_2, .int .i64 a0_3, .int .i64 a0_4, .int .i64 a0_5, .int .i64 a0_6, .int .i64 a0_7, .int .i64 a0_8, .int .i64 a0_9], .agg #[.int .i64 t128, shortV (.slice Ao29 t129.length co29)], .int .i64 a2, .int .i64 a3] rfl (by (try simp only [List.map_toArray, List.map_cons, List.map_nil]); first | done | rfl | (simp only [List.length_drop, List.length_take]; rfl)) ?_; (with_reducible refine (when_all.calls a0_0 a0_1 a0_2 a0_3 a0_4 a0_5 a0_6 a0_7 a0_8 a0_9 t128 _ _ t129 a2 a3 t133 _ ?side1 ?side2 A8.out).mono ?_); (case side1 => refine (Kd.R_reads' (e := 3) (base := w.heap.size) (ok := fun k_ => True) (n := t129.length) (c := co29) ?_).2.2; exact (by (with_reducible repeat (first | apply Kd.R_alloc | apply Kd.R_drewN | apply Kd.R_drew)); exact (Kd.R_mono (Kd.R_far (p := ⟨gb132, 1, none⟩) (Kd.R_far (p := ⟨gb132, 0, none⟩) (Kd.R_types HO131.out BK132.out (by decide)) (fun _ hk => hk.2) (.int .i64 t128)) (fun _ hk => hk.2) (.slice Ao29 (t129.length - 1) co29)) (fun _ h_ => h_.1)))); (case side2 => exact (Kd.R_reads' HO131.out).2.1); rintro e w31 ⟨rfl, hb⟩; refine ⟨_, rfl, ?_⟩; have n0_ := Aside0.mk (Kd.R_below (by (with_reducible repeat (first | apply Kd.R_alloc | apply Kd.R_drewN | apply Kd.R_drew)); exact (Kd.R_mono (Kd.R_far (p := ⟨gb132, 1, none⟩) (Kd.R_far (p := ⟨gb132, 0, none⟩) (Kd.R_types HO131.out BK132.out (by decide)) (fun _ hk => hk.2) (.int .i64 t128)) (fun _ hk => hk.2) (.slice Ao29 (t129.length - 1) co29)) (fun _ h_ => h_.1))) hb); have n1_ := Aside0.mk (blk_below (g := gb125) (o := .cells #[.int .i64 a0_0, .int .i64 a0_1, .int .i64 a0_2, .int .i64 a0_3, .int .i64 a0_4, .int .i64 a0_5, .int .i64 a0_6, .int .i64 a0_7, .int .i64 a0_8, .int .i64 a0_9] 23 (0, 0)) (by (with_reducible repeat (first | refine blk_drewN ?_ _ | refine blk_drew ?_ | refine blk_alloc ?_ _)); refine blk_far ?_ NB125_132.out _; (with_reducible repeat (first | refine blk_drewN ?_ _ | refine blk_drew ?_ | refine blk_alloc ?_ _)); refine blk_far ?_ NB125_132.out _; (with_reducible repeat (first | refine blk_drewN ?_ _ | refine blk_drew ?_ | refine blk_alloc ?_ _)); exact BK125.out) hb); have n2_ := Aside0.mk (blk_below (g := gb126) (o := .cells #[.int .i64 a1_0, .slice A1_1 l1_1.length c1_1] 26 (0, 0)) (by (with_reducible repeat (first | refine blk_drewN ?_ _ | refine blk_drew ?_ | refine blk_alloc ?_ _)); refine blk_far ?_ NB126_132.out _; (with_reducible repeat (first | refine blk_drewN ?_ _ | refine blk_drew ?_ | refine blk_alloc ?_ _)); refine blk_far ?_ NB126_132.out _; (with_reducible repeat (first | refine blk_drewN ?_ _ | refine blk_drew ?_ | refine blk_alloc ?_ _)); exact BK126.out) hb); have n3_ := Aside0.mk (blk_below (g := gb132) (o := .cells #[.int .i64 t128, .slice Ao29 (t129.length - 1) co29] 26 (0, 0)) (by (with_reducible repeat (first | refine blk_drewN ?_ _ | refine blk_drew ?_ | refine blk_alloc ?_ _)); refine blk_put (cs := #[.int .i64 t128, .slice none 0 0]) ?_ 1 _ rfl; (with_reducible repeat (first | refine blk_drewN ?_ _ | refine blk_drew ?_ | refine blk_alloc ?_ _)); refine blk_put (cs := #[.int .i64 0, .slice none 0 0]) ?_ 0 _ rfl; (with_reducible repeat (first | refine blk_drewN ?_ _ | refine blk_drew ?_ | refine blk_alloc ?_ _)); exact BK132.out) hb); have n4_ := Aside0.mk (below_step (by repeat (first | (with_reducible first | exact HB.out | apply below_alloc | apply pw_below_drewN | apply below_drew1 | refine below_set ?_ GE125.out | refine below_set ?_ GE126.out | refine below_set ?_ GE132.out) | exact HB.out)) hb); clear HO131; clear BK125; clear BK126; clear BK132; clear HB; have HO131 := n0_; have BK125 := n1_; have BK126 := n2_; have BK132 := n3_; have HB := n4_; clear n0_ n1_ n2_ n3_ n4_; (try clear hb); (try clear hb2); (try clear hk); (try clear hi); have hcz32_0 : w31.cell? ⟨gb132, 0, none⟩ = some (.int .i64 t128) := (blk_cell BK132.out 0).trans rfl; have hcz32_1 : w31.cell? ⟨gb132, 1, none⟩ = some (.slice Ao29 (t129.length - 1) co29) := (blk_cell BK132.out 1).trans rfl; have hfz32_0 := blk_frozen BK132.out 0; have hfz32_1 := blk_frozen BK132.out 1; have hcz33_0 : w31.cell? ⟨gb126, 0, none⟩ = some (.int .i64 a1_0) := (blk_cell BK126.out 0).trans rfl; have hcz33_1 : w31.cell? ⟨gb126, 1, none⟩ = some (.slice A1_1 l1_1.length c1_1) := (blk_cell BK126.out 1).trans rfl; have hfz33_0 := blk_frozen BK126.out 0; have hfz33_1 := blk_frozen BK126.out 1) | ((with_reducible refine gate_callee (f := 18) rfl ?_); refine goesL_ (some 31) rfl rfl Try.func18 (by kernel_rfl) rfl #[.agg #[.int .i64 t128, shortV (.slice Ao29 t129.length co29)], .agg #[.int .i64 a1_0, .slice A1_1 l1_1.length c1_1]] rfl (by (try simp only [List.map_toArray, List.map_cons, List.map_nil]); first | done | rfl | (simp only [List.length_drop, List.length_take]; rfl)) ?_; (with_reducible refine (kept_ok.calls t128 (fun k_ => some k_ = (.slice Ao29 t129.length co29 : Value).ownBlock) (.slice Ao29 t129.length co29) t129 a1_0 _ _ l1_1  w _ ?side1 ?side2 ?side3 ?side4 A9.out).mono ?_); (case side1 => repeat (first | (with_reducible first | exact HB.out | apply below_alloc | apply pw_below_drewN | apply below_drew1 | refine below_set ?_ GE125.out | refine below_set ?_ GE126.out | refine below_set ?_ GE132.out) | exact HB.out)); (case side2 => exact Kd.R_tight rfl HO131.out); (case side3 => exact Kd.C_kept_came (Kd.heap_int .i64) HR1_1.out (by repeat (first | (with_reducible first | exact HB.out | apply below_alloc | apply pw_below_drewN | apply below_drew1 | refine below_set ?_ GE125.out | refine below_set ?_ GE126.out | refine below_set ?_ GE132.out) | exact HB.out)) (fun k_ hs_ => (fun e_ => Kd.R_base HO131.out k_ e_.symm) hs_)); (case side4 => exact HC1_1.out); rintro e w34 ⟨rfl, hb, hkp⟩; refine ⟨_, rfl, ?_⟩; have n0_ := Aside0.mk (blk_kept (by (with_reducible repeat (first | refine blk_drewN ?_ _ | refine blk_drew ?_ | refine blk_alloc ?_ _)); exact BK125.out) hkp (fun hs_ => (fun e_ => (Kd.R_ne HO131.out BK125.out (by decide)) e_) hs_)); have n1_ := Aside0.mk (blk_kept (by (with_reducible repeat (first | refine blk_drewN ?_ _ | refine blk_drew ?_ | refine blk_alloc ?_ _)); exact BK126.out) hkp (fun hs_ => (fun e_ => (Kd.R_ne HO131.out BK126.out (by decide)) e_) hs_)); have n2_ := Aside0.mk (blk_kept (by (with_reducible repeat (first | refine blk_drewN ?_ _ | refine blk_drew ?_ | refine blk_alloc ?_ _)); exact BK132.out) hkp (fun hs_ => (fun e_ => (Kd.R_ne HO131.out BK132.out (by decide)) e_) hs_)); have n3_ := Aside0.mk (hb); clear BK125; clear BK126; clear BK132; clear HB; clear HO131; have BK125 := n0_; have BK126 := n1_; have BK132 := n2_; have HB := n3_; clear n0_ n1_ n2_ n3_; (try clear hb); (try clear hkp); have hcz35_0 : w34.cell? ⟨gb125, 0, none⟩ = some (.int .i64 a0_0) := (blk_cell BK125.out 0).trans rfl; have hcz35_1 : w34.cell? ⟨gb125, 1, none⟩ = some (.int .i64 a0_1) := (blk_cell BK125.out 1).trans rfl; have hcz35_2 : w34.cell? ⟨gb125, 2, none⟩ = some (.int .i64 a0_2) := (blk_cell BK125.out 2).trans rfl; have hcz35_3 : w34.cell? ⟨gb125, 3, none⟩ = some (.int .i64 a0_3) := (blk_cell BK125.out 3).trans rfl; have hcz35_4 : w34.cell? ⟨gb125, 4, none⟩ = some (.int .i64 a0_4) := (blk_cell BK125.out 4).trans rfl; have hcz35_5 : w34.cell? ⟨gb125, 5, none⟩ = some (.int .i64 a0_5) := (blk_cell BK125.out 5).trans rfl; have hcz35_6 : w34.cell? ⟨gb125, 6, none⟩ = some (.int .i64 a0_6) := (blk_cell BK125.out 6).trans rfl; have hcz35_7 : w34.cell? ⟨gb125, 7, none⟩ = some (.int .i64 a0_7) := (blk_cell BK125.out 7).trans rfl; have hcz35_8 : w34.cell? ⟨gb125, 8, none⟩ = some (.int .i64 a0_8) := (blk_cell BK125.out 8).trans rfl; have hcz35_9 : w34.cell? ⟨gb125, 9, none⟩ = some (.int .i64 a0_9) := (blk_cell BK125.out 9).trans rfl; have hfz35_0 := blk_frozen BK125.out 0; have hfz35_1 := blk_frozen BK125.out 1; have hfz35_2 := blk_frozen BK125.out 2; have hfz35_3 := blk_frozen BK125.out 3; have hfz35_4 := blk_frozen BK125.out 4; have hfz35_5 := blk_frozen BK125.out 5; have hfz35_6 := blk_frozen BK125.out 6; have hfz35_7 := blk_frozen BK125.out 7; have hfz35_8 := blk_frozen BK125.out 8; have hfz35_9 := blk_frozen BK125.out 9; have hcz36_0 : w34.cell? ⟨gb126, 0, none⟩ = some (.int .i64 a1_0) := (blk_cell BK126.out 0).trans rfl; have hcz36_1 : w34.cell? ⟨gb126, 1, none⟩ = some (.slice A1_1 l1_1.length c1_1) := (blk_cell BK126.out 1).trans rfl; have hfz36_0 := blk_frozen BK126.out 0; have hfz36_1 := blk_frozen BK126.out 1) | (go_at_call 28; (with_reducible refine (rwhen_all.calls a0_0 a0_1 a0_2 a0_3 a0_4 a0_5 a0_6 a0_7 a0_8 a0_9 a1_0 _ _ l1_1 a2 a3 t135 _ ?side1 ?side2 A10.out).mono ?_); (case side1 => repeat (first | exact (Kd.C_below HR1_1.out HB.out) | (with_reducible refine Kd.C_alloc ?_ _) | (with_reducible refine Kd.C_drewN ?_ _) | (with_reducible refine Kd.C_drew ?_))); (case side2 => exact HC1_1.out); rintro e w37 ⟨rfl, hb⟩; have n0_ := Aside0.mk (blk_below (g := gb125) (o := .cells #[.int .i64 a0_0, .int .i64 a0_1, .int .i64 a0_2, .int .i64 a0_3, .int .i64 a0_4, .int .i64 a0_5, .int .i64 a0_6, .int .i64 a0_7, .int .i64 a0_8, .int .i64 a0_9] 23 (0, 0)) (by (with_reducible repeat (first | refine blk_drewN ?_ _ | refine blk_drew ?_ | refine blk_alloc ?_ _)); exact BK125.out) hb); have n1_ := Aside0.mk (blk_below (g := gb126) (o := .cells #[.int .i64 a1_0, .slice A1_1 l1_1.length c1_1] 26 (0, 0)) (by (with_reducible repeat (first | refine blk_drewN ?_ _ | refine blk_drew ?_ | refine blk_alloc ?_ _)); exact BK126.out) hb); have n2_ := Aside0.mk (blk_below (g := gb132) (o := .cells #[.int .i64 t128, .slice Ao29 (t129.length - 1) co29] 26 (0, 0)) (by (with_reducible repeat (first | refine blk_drewN ?_ _ | refine blk_drew ?_ | refine blk_alloc ?_ _)); exact BK132.out) hb); have n3_ := Aside0.mk (below_step (by repeat (first | (with_reducible first | exact HB.out | apply below_alloc | apply pw_below_drewN | apply below_drew1 | refine below_set ?_ GE125.out | refine below_set ?_ GE126.out | refine below_set ?_ GE132.out) | exact HB.out)) hb); clear BK125; clear BK126; clear BK132; clear HB; have BK125 := n0_; have BK126 := n1_; have BK132 := n2_; have HB := n3_; clear n0_ n1_ n2_ n3_; (try clear hb); (try clear hb2); (try clear hk); (try clear hi)))
     have n0_ := Aside0.mk (blk_drew BK125.out)
     have n1_ := Aside0.mk (blk_drew BK126.out)
     have n2_ := Aside0.mk (blk_drew BK132.out)
     have n3_ := Aside0.mk (below_drew1 HB.out)
     clear BK125
     clear BK126
     clear BK132
     clear HB
     have BK125 := n0_
     have BK126 := n1_
     have BK132 := n2_
     have HB := n3_
     clear n0_ n1_ n2_ n3_
     refine start_ (n := 8) (S := fun w' => w'.cell? ⟨gb125, 0, none⟩ = some (.int .i64 a0_0) ∧ w'.cell? ⟨gb125, 1, none⟩ = some (.int .i64 a0_1) ∧ w'.cell? ⟨gb125, 2, none⟩ = some (.int .i64 a0_2) ∧ w'.cell? ⟨gb125, 3, none⟩ = some (.int .i64 a0_3) ∧ w'.cell? ⟨gb125, 4, none⟩ = some (.int .i64 a0_4) ∧ w'.cell? ⟨gb125, 5, none⟩ = some (.int .i64 a0_5) ∧ w'.cell? ⟨gb125, 6, none⟩ = some (.int .i64 a0_6) ∧ w'.cell? ⟨gb125, 7, none⟩ = some (.int .i64 a0_7) ∧ w'.cell? ⟨gb125, 8, none⟩ = some (.int .i64 a0_8) ∧ w'.cell? ⟨gb125, 9, none⟩ = some (.int .i64 a0_9) ∧ w'.cell? ⟨gb126, 0, none⟩ = some (.int .i64 a1_0) ∧ w'.cell? ⟨gb126, 1, none⟩ = some (.slice A1_1 l1_1.length c1_1)) (ds := []) #[false, false, false, false, false, false, false, false] (by kernel_rfl) rfl rfl ⟨(blk_cell BK125.out 0).trans rfl, (blk_cell BK125.out 1).trans rfl, (blk_cell BK125.out 2).trans rfl, (blk_cell BK125.out 3).trans rfl, (blk_cell BK125.out 4).trans rfl, (blk_cell BK125.out 5).trans rfl, (blk_cell BK125.out 6).trans rfl, (blk_cell BK125.out 7).trans rfl, (blk_cell BK125.out 8).trans rfl, (blk_cell BK125.out 9).trans rfl, (blk_cell BK126.out 0).trans rfl, (blk_cell BK126.out 1).trans rfl⟩ (fun hHeld => ?_); refine with_tabW reevelaw08_WindowWhen.tab10 reevelaw08_WindowWhen.bits10 (fun HT_ HW_ => ?_)
     generalize w37.drew = w38 at BK125 BK126 BK132 HB hHeld ⊢
     refine pure_ (i := 3) (N := some 56) (v := ?_) (a' := ?_) #[false, false, false, true, false, false, false, false] rfl rfl (any_of HT_.out (by kernel_rfl)) (fun _ _ _ h => h) (Or.inl ⟨by rfl, ?_⟩) ?_ ?_
     rotate_left
     ·intro w'
      go_simp
      with_reducible rfl
     rotate_left
     ·simp only [Act.put, List.setIfInBounds_toArray, List.set_cons_zero, List.set_cons_succ, i64_w, i32_w]
      rfl
     refine pure_ (i := 5) (N := some 58) (v := ?_) (a' := ?_) #[false, false, false, true, false, true, false, false] rfl rfl (any_of HT_.out (by kernel_rfl)) (fun _ _ _ h => h) (Or.inl ⟨by rfl, ?_⟩) ?_ ?_
     rotate_left
     ·intro w'
      go_simp
      with_reducible rfl
     rotate_left
     ·simp only [Act.put, List.setIfInBounds_toArray, List.set_cons_zero, List.set_cons_succ, i64_w, i32_w]
      rfl
     refine take_ (i := 0) (N := some 53) (v := ?_) (a' := ?_) #[true, false, false, true, false, true, false, false] rfl rfl (take_ofW HT_.out HW_.out (by kernel_rfl)) (fun _ _ _ h => h) (Or.inl ⟨by rfl, ?_⟩) hHeld ?_ ?_
     rotate_left
     ·rintro w' ⟨s0, s1, s2, s3, s4, s5, s6, s7, s8, s9, s10, s11⟩
      go_simp
      with_reducible rfl
     rotate_left
     ·simp only [Act.put, List.setIfInBounds_toArray, List.set_cons_zero, List.set_cons_succ, i64_w, i32_w]
      rfl
     refine take_ (i := 1) (N := some 54) (v := ?_) (a' := ?_) #[true, true, false, true, false, true, false, false] rfl rfl (take_ofW HT_.out HW_.out (by kernel_rfl)) (fun _ _ _ h => h) (Or.inl ⟨by rfl, ?_⟩) hHeld ?_ ?_
     rotate_left
     ·rintro w' ⟨s0, s1, s2, s3, s4, s5, s6, s7, s8, s9, s10, s11⟩
      go_simp
      with_reducible rfl
     rotate_left
     ·simp only [Act.put, List.setIfInBounds_toArray, List.set_cons_zero, List.set_cons_succ, i64_w, i32_w]
      rfl
     refine take_ (i := 2) (N := some 55) (v := ?_) (a' := ?_) #[true, true, true, true, false, true, false, false] rfl rfl (take_ofW HT_.out HW_.out (by kernel_rfl)) (fun _ _ _ h => h) (Or.inl ⟨by rfl, ?_⟩) hHeld ?_ ?_
     rotate_left
     ·rintro w' ⟨s0, s1, s2, s3, s4, s5, s6, s7, s8, s9, s10, s11⟩
      go_simp
      with_reducible rfl
     rotate_left
     ·simp only [Act.put, List.setIfInBounds_toArray, List.set_cons_zero, List.set_cons_succ, i64_w, i32_w]
      rfl
     refine one_ (i := 4) (N := some 57) #[true, true, true, true, true, true, false, false] rfl rfl (one_of HT_.out (by kernel_rfl)) (by decide) (fun K hK => ?_)
     refine goes_ Try.func11 (by kernel_rfl) rfl #[.agg #[.int .i64 a0_0, .int .i64 a0_1, .int .i64 a0_2, .int .i64 a0_3, .int .i64 a0_4, .int .i64 a0_5, .int .i64 a0_6, .int .i64 a0_7, .int .i64 a0_8, .int .i64 a0_9], .agg #[.int .i64 a1_0, .slice A1_1 l1_1.length c1_1], .int .i64 t133] (by rfl) rfl rfl (by (try simp only [List.map_toArray, List.map_cons, List.map_nil]); first | done | rfl | (simp only [List.length_drop, List.length_take]; rfl)) ?_
     with_reducible refine (window_Move.calls a0_0 a0_1 a0_2 a0_3 a0_4 a0_5 a0_6 a0_7 a0_8 a0_9 a1_0 _ _ l1_1 t133 t136 t137 _ ?side1 ?side2 A15.out).mono ?_
     (case side1 => repeat (first | exact (Kd.C_below HR1_1.out HB.out) | (with_reducible refine Kd.C_alloc ?_ _) | (with_reducible refine Kd.C_drewN ?_ _) | (with_reducible refine Kd.C_drew ?_)))
     (case side2 => exact HC1_1.out)
     rintro e w39 ⟨v138, rfl, ho0, hb⟩
     refine ⟨_, rfl, ?_⟩
     have n0_ := Aside0.mk (Kd.R_lower ho0 (below_size (by repeat (first | (with_reducible first | exact HB.out | apply below_alloc | apply pw_below_drewN | apply below_drew1 | refine below_set ?_ GE125.out | refine below_set ?_ GE126.out | refine below_set ?_ GE132.out) | exact HB.out))))
     have n1_ := Aside0.mk (blk_below (g := gb125) (o := .cells #[.int .i64 a0_0, .int .i64 a0_1, .int .i64 a0_2, .int .i64 a0_3, .int .i64 a0_4, .int .i64 a0_5, .int .i64 a0_6, .int .i64 a0_7, .int .i64 a0_8, .int .i64 a0_9] 23 (0, 0)) (by (with_reducible repeat (first | refine blk_drewN ?_ _ | refine blk_drew ?_ | refine blk_alloc ?_ _)); exact BK125.out) hb)
     have n2_ := Aside0.mk (blk_below (g := gb126) (o := .cells #[.int .i64 a1_0, .slice A1_1 l1_1.length c1_1] 26 (0, 0)) (by (with_reducible repeat (first | refine blk_drewN ?_ _ | refine blk_drew ?_ | refine blk_alloc ?_ _)); exact BK126.out) hb)
     have n3_ := Aside0.mk (blk_below (g := gb132) (o := .cells #[.int .i64 t128, .slice Ao29 (t129.length - 1) co29] 26 (0, 0)) (by (with_reducible repeat (first | refine blk_drewN ?_ _ | refine blk_drew ?_ | refine blk_alloc ?_ _)); exact BK132.out) hb)
     have n4_ := Aside0.mk (below_step (by repeat (first | (with_reducible first | exact HB.out | apply below_alloc | apply pw_below_drewN | apply below_drew1 | refine below_set ?_ GE125.out | refine below_set ?_ GE126.out | refine below_set ?_ GE132.out) | exact HB.out)) hb)
     clear BK125
     clear BK126
     clear BK132
     clear HB
     have HO139 := n0_
     have BK125 := n1_
     have BK126 := n2_
     have BK132 := n3_
     have HB := n4_
     clear n0_ n1_ n2_ n3_ n4_
     (try clear hb)
     (try clear hb2)
     (try clear hk)
     (try clear hi)
     (try clear ho0)
     obtain ⟨Ao40, co40, eo40⟩ := Kd.R_slice HO139.out
     (first | subst eo40 | (injection eo40 with f1_ f2_ f3_; have f4_ := f1_.symm; have f5_ := f3_.symm; clear f1_ f2_ f3_; subst f4_; subst f5_))
     refine hK.out _ _ ⟨(blk_cell BK125.out 0).trans rfl, (blk_cell BK125.out 1).trans rfl, (blk_cell BK125.out 2).trans rfl, (blk_cell BK125.out 3).trans rfl, (blk_cell BK125.out 4).trans rfl, (blk_cell BK125.out 5).trans rfl, (blk_cell BK125.out 6).trans rfl, (blk_cell BK125.out 7).trans rfl, (blk_cell BK125.out 8).trans rfl, (blk_cell BK125.out 9).trans rfl, (blk_cell BK126.out 0).trans rfl, (blk_cell BK126.out 1).trans rfl⟩ (fun hHeld => ?_)
     clear hK K
     refine norm_ (a' := ?_) ?_ ?_
     rotate_left
     ·show Act.put _ (some 57) _ = _
      simp only [Act.put, List.setIfInBounds_toArray, List.set_cons_zero, List.set_cons_succ, i64_w, i32_w]
      rfl
     refine one_ (i := 6) (N := some 59) #[true, true, true, true, true, true, true, false] rfl rfl (one_of HT_.out (by kernel_rfl)) (by decide) (fun K hK => ?_)
     refine goes_ Try.func12 (by kernel_rfl) rfl #[.agg #[.int .i64 a0_0, .int .i64 a0_1, .int .i64 a0_2, .int .i64 a0_3, .int .i64 a0_4, .int .i64 a0_5, .int .i64 a0_6, .int .i64 a0_7, .int .i64 a0_8, .int .i64 a0_9], .agg #[.int .i64 t136, .slice Ao40 t137.length co40], .int .i64 a3] (by rfl) rfl rfl (by (try simp only [List.map_toArray, List.map_cons, List.map_nil]); first | done | rfl | (simp only [List.length_drop, List.length_take]; rfl)) ?_
     with_reducible refine (window_May.calls a0_0 a0_1 a0_2 a0_3 a0_4 a0_5 a0_6 a0_7 a0_8 a0_9 t136 _ _ t137 a3 true _ ?side1 ?side2 A16.out).mono ?_
     (case side1 => repeat (first | exact (Kd.R_reads' HO139.out).2.2 | (with_reducible refine Kd.C_alloc ?_ _) | (with_reducible refine Kd.C_drewN ?_ _) | (with_reducible refine Kd.C_drew ?_)))
     (case side2 => exact (Kd.R_reads' HO139.out).2.1)
     rintro e w41 ⟨rfl, hb⟩
     refine ⟨_, rfl, ?_⟩
     have n0_ := Aside0.mk (Kd.R_below (by (with_reducible repeat (first | apply Kd.R_alloc | apply Kd.R_drewN | apply Kd.R_drew)); exact HO139.out) hb)
     have n1_ := Aside0.mk (blk_below (g := gb125) (o := .cells #[.int .i64 a0_0, .int .i64 a0_1, .int .i64 a0_2, .int .i64 a0_3, .int .i64 a0_4, .int .i64 a0_5, .int .i64 a0_6, .int .i64 a0_7, .int .i64 a0_8, .int .i64 a0_9] 23 (0, 0)) (by (with_reducible repeat (first | refine blk_drewN ?_ _ | refine blk_drew ?_ | refine blk_alloc ?_ _)); exact BK125.out) hb)
     have n2_ := Aside0.mk (blk_below (g := gb126) (o := .cells #[.int .i64 a1_0, .slice A1_1 l1_1.length c1_1] 26 (0, 0)) (by (with_reducible repeat (first | refine blk_drewN ?_ _ | refine blk_drew ?_ | refine blk_alloc ?_ _)); exact BK126.out) hb)
     have n3_ := Aside0.mk (blk_below (g := gb132) (o := .cells #[.int .i64 t128, .slice Ao29 (t129.length - 1) co29] 26 (0, 0)) (by (with_reducible repeat (first | refine blk_drewN ?_ _ | refine blk_drew ?_ | refine blk_alloc ?_ _)); exact BK132.out) hb)
     have n4_ := Aside0.mk (below_step (by repeat (first | (with_reducible first | exact HB.out | apply below_alloc | apply pw_below_drewN | apply below_drew1 | refine below_set ?_ GE125.out | refine below_set ?_ GE126.out | refine below_set ?_ GE132.out) | exact HB.out)) hb)
     clear HO139
     clear BK125
     clear BK126
     clear BK132
     clear HB
     have HO139 := n0_
     have BK125 := n1_
     have BK126 := n2_
     have BK132 := n3_
     have HB := n4_
     clear n0_ n1_ n2_ n3_ n4_
     (try clear hb)
     (try clear hb2)
     (try clear hk)
     (try clear hi)
     refine hK.out _ _ ⟨(blk_cell BK125.out 0).trans rfl, (blk_cell BK125.out 1).trans rfl, (blk_cell BK125.out 2).trans rfl, (blk_cell BK125.out 3).trans rfl, (blk_cell BK125.out 4).trans rfl, (blk_cell BK125.out 5).trans rfl, (blk_cell BK125.out 6).trans rfl, (blk_cell BK125.out 7).trans rfl, (blk_cell BK125.out 8).trans rfl, (blk_cell BK125.out 9).trans rfl, (blk_cell BK126.out 0).trans rfl, (blk_cell BK126.out 1).trans rfl⟩ (fun hHeld => ?_)
     clear hK K
     refine norm_ (a' := ?_) ?_ ?_
     rotate_left
     ·show Act.put _ (some 59) _ = _
      simp only [Act.put, List.setIfInBounds_toArray, List.set_cons_zero, List.set_cons_succ, i64_w, i32_w]
      rfl
     refine pure_ (i := 7) (N := some 17) (v := ?_) (a' := ?_) #[true, true, true, true, true, true, true, true] rfl rfl (any_of HT_.out (by kernel_rfl)) (fun _ _ _ h => h) (Or.inl ⟨by rfl, ?_⟩) ?_ ?_
     rotate_left
     ·intro w'
      go_simp
      with_reducible rfl
     rotate_left
     ·simp only [Act.put, List.setIfInBounds_toArray, List.set_cons_zero, List.set_cons_succ, i64_w, i32_w]
      rfl
     refine done_ (done_of HT_.out (by kernel_rfl)) ?_
     try go_wp2
     go_loopg [18] k (fun kq v18 w' => ∃ (x18_1 : Int), v18 = .int .i64 x18_1 ∧ Aside0 (reevelaw08_WindowWhen.l0 kq a3 l4 ji13 t133 x18_1 a0_0 a0_1 a0_2 a0_3 a0_4 a0_5 a0_6 a0_7 a0_8 a0_9 a1_0 l1_1 = some r) ∧ Aside0 (kq ≤ k) ∧ Aside0 (w'.heap[gb125]? = some (.cells #[.int .i64 a0_0, .int .i64 a0_1, .int .i64 a0_2, .int .i64 a0_3, .int .i64 a0_4, .int .i64 a0_5, .int .i64 a0_6, .int .i64 a0_7, .int .i64 a0_8, .int .i64 a0_9] 23 (0, 0))) ∧ Aside0 (w'.heap[gb126]? = some (.cells #[.int .i64 a1_0, (.slice A1_1 l1_1.length c1_1)] 26 (0, 0))) ∧ Aside0 (w'.heap[gb132]? = some (.cells #[.int .i64 t128, .slice Ao29 (t129.length - 1) co29] 26 (0, 0))) ∧ Aside0 (Below w.heap.size w w'))
     case atStart => exact ⟨(0), (by first | rfl | (simp; done) | (simp [*]; done) | (simp [Int.tdiv_eq_ediv_of_nonneg]; done)), H', ⟨Nat.le_refl _⟩, ⟨by (with_reducible repeat (first | refine blk_drewN ?_ _ | refine blk_drew ?_ | refine blk_alloc ?_ _)); exact BK125.out⟩, ⟨by (with_reducible repeat (first | refine blk_drewN ?_ _ | refine blk_drew ?_ | refine blk_alloc ?_ _)); exact BK126.out⟩, ⟨by (with_reducible repeat (first | refine blk_drewN ?_ _ | refine blk_drew ?_ | refine blk_alloc ?_ _)); exact BK132.out⟩, ⟨by repeat (first | (with_reducible first | exact HB.out | apply below_alloc | apply pw_below_drewN | apply below_drew1 | refine below_set ?_ GE125.out | refine below_set ?_ GE126.out | refine below_set ?_ GE132.out) | exact HB.out)⟩⟩
     case round =>
      clear H'
      try clear c1
      try clear c2
      try clear p2
      try clear c4
      try clear c8
      try clear c9
      try clear c11
      try clear c11b0
      try clear c11b1
      try clear c12
      try clear c14
      try clear c14b0
      try clear c17
      try clear c18
      try clear c18b0
      try clear c22
      try clear c26
      try clear c27
      try clear hcz23_0
      try clear hcz23_1
      try clear hcz28_0
      try clear hcz28_1
      try clear hcz30_0
      try clear hcz30_1
      try clear hcz30_2
      try clear hcz30_3
      try clear hcz30_4
      try clear hcz30_5
      try clear hcz30_6
      try clear hcz30_7
      try clear hcz30_8
      try clear hcz30_9
      try clear hcz32_0
      try clear hcz32_1
      try clear hcz33_0
      try clear hcz33_1
      try clear hcz35_0
      try clear hcz35_1
      try clear hcz35_2
      try clear hcz35_3
      try clear hcz35_4
      try clear hcz35_5
      try clear hcz35_6
      try clear hcz35_7
      try clear hcz35_8
      try clear hcz35_9
      try clear hcz36_0
      try clear hcz36_1
      try clear hfz23_0
      try clear hfz23_1
      try clear hfz28_0
      try clear hfz28_1
      try clear hfz30_0
      try clear hfz30_1
      try clear hfz30_2
      try clear hfz30_3
      try clear hfz30_4
      try clear hfz30_5
      try clear hfz30_6
      try clear hfz30_7
      try clear hfz30_8
      try clear hfz30_9
      try clear hfz32_0
      try clear hfz32_1
      try clear hfz33_0
      try clear hfz33_1
      try clear hfz35_0
      try clear hfz35_1
      try clear hfz35_2
      try clear hfz35_3
      try clear hfz35_4
      try clear hfz35_5
      try clear hfz35_6
      try clear hfz35_7
      try clear hfz35_8
      try clear hfz35_9
      try clear hfz36_0
      try clear hfz36_1
      obtain ⟨x18_1, rfl, HA, HK1, BK125, BK126, BK132, HB⟩ := hrel
      cases gk with
      | zero => exact absurd HA.out (by simp [reevelaw08_WindowWhen.l0])
      | succ k1 =>
       have H := HA.out
       clear HA
       simp only [reevelaw08_WindowWhen.l0] at H
       by_cases c42 : x18_1 < (l4.length : Int)
       ·rw [if_pos c42] at H
        have c42b0 : decide (x18_1 < (l4.length : Int)) = true := decide_eq_true c42
        clear c42
        by_cases c43 : t133 > ji13
        ·rw [if_pos c43] at H
         have c43b0 : decide (ji13 < t133) = true := decide_eq_true c43
         clear c43
         by_cases c44 : 0 ≤ x18_1
         ·rw [if_pos c44] at H
          have c44b0 : decide (0 ≤ x18_1) = true := decide_eq_true c44
          clear c44
          by_cases c45 : (wrap64 (t133 - ji13)) = 0
          ·rw [if_pos c45] at H
           exact absurd H (by simp)
          ·rw [if_neg c45] at H
           have c45b0 : ((wrap64 (t133 - ji13)) == 0) = false := beq_eq_false_iff_ne.mpr c45
           have c45b1 : ((wrap64 (t133 - ji13)) != 0) = true := bne_iff_ne.mpr c45
           replace H := Option.bind_eq_some_iff.mp H
           obtain ⟨⟨t142, t143⟩, A460, H⟩ := H
           replace H : ((window_May.f a0_0 a0_1 a0_2 a0_3 a0_4 a0_5 a0_6 a0_7 a0_8 a0_9 t142 t143 a3).bind fun t146 => (if t146 = true then (none) else (reevelaw08_WindowWhen.l0 k1 a3 l4 ji13 t133 (wrap64 (x18_1 + 1)) a0_0 a0_1 a0_2 a0_3 a0_4 a0_5 a0_6 a0_7 a0_8 a0_9 a1_0 l1_1))) = some r := H
           have A46 := Aside0.mk A460
           clear A460
           replace H := Option.bind_eq_some_iff.mp H
           obtain ⟨t146, A470, H⟩ := H
           replace H : (if t146 = true then (none) else (reevelaw08_WindowWhen.l0 k1 a3 l4 ji13 t133 (wrap64 (x18_1 + 1)) a0_0 a0_1 a0_2 a0_3 a0_4 a0_5 a0_6 a0_7 a0_8 a0_9 a1_0 l1_1)) = some r := H
           have A47 := Aside0.mk A470
           clear A470
           by_cases c48 : t146 = true
           ·subst c48
            have H1 : (none) = some r := by rw [if_pos rfl] at H; exact H
            clear H
            have H := H1
            clear H1
            exact absurd H (by simp)
           ·replace c48 := Bool.eq_false_iff.mpr c48
            subst c48
            have H1 : (reevelaw08_WindowWhen.l0 k1 a3 l4 ji13 t133 (wrap64 (x18_1 + 1)) a0_0 a0_1 a0_2 a0_3 a0_4 a0_5 a0_6 a0_7 a0_8 a0_9 a1_0 l1_1) = some r := by rw [if_neg (show ¬ (false = true) by decide)] at H; exact H
            clear H
            have H := H1
            clear H1
            have H' := Aside0.mk H
            clear H
            have p141 : 0 ≤ (x18_1 : Int) := of_decide_eq_true (by first | (with_reducible assumption) | assumption)
            have q141 : x18_1 < (l4.length : Int) := of_decide_eq_true (by first | (with_reducible assumption) | assumption)
            obtain ⟨ad141, e141, hx141_0⟩ := Kd.at_int HR4.out x18_1 p141 q141
            cases e141
            replace hx141_0 := (HB.out.cell (World.block_lt_of_cell? w _ hx141_0)).trans hx141_0
            replace p141 := eq_true p141
            replace q141 := eq_true q141
            try go_wp2
            have n0_ := Aside0.mk (blk_drew BK125.out)
            have n1_ := Aside0.mk (blk_drew BK126.out)
            have n2_ := Aside0.mk (blk_drew BK132.out)
            have n3_ := Aside0.mk (below_drew1 HB.out)
            clear BK125
            clear BK126
            clear BK132
            clear HB
            have BK125 := n0_
            have BK126 := n1_
            have BK132 := n2_
            have HB := n3_
            clear n0_ n1_ n2_ n3_
            refine start_ (n := 8) (S := fun w' => w'.cell? ⟨gb125, 0, none⟩ = some (.int .i64 a0_0) ∧ w'.cell? ⟨gb125, 1, none⟩ = some (.int .i64 a0_1) ∧ w'.cell? ⟨gb125, 2, none⟩ = some (.int .i64 a0_2) ∧ w'.cell? ⟨gb125, 3, none⟩ = some (.int .i64 a0_3) ∧ w'.cell? ⟨gb125, 4, none⟩ = some (.int .i64 a0_4) ∧ w'.cell? ⟨gb125, 5, none⟩ = some (.int .i64 a0_5) ∧ w'.cell? ⟨gb125, 6, none⟩ = some (.int .i64 a0_6) ∧ w'.cell? ⟨gb125, 7, none⟩ = some (.int .i64 a0_7) ∧ w'.cell? ⟨gb125, 8, none⟩ = some (.int .i64 a0_8) ∧ w'.cell? ⟨gb125, 9, none⟩ = some (.int .i64 a0_9) ∧ w'.cell? ⟨gb126, 0, none⟩ = some (.int .i64 a1_0) ∧ w'.cell? ⟨gb126, 1, none⟩ = some (.slice A1_1 l1_1.length c1_1)) (ds := []) #[false, false, false, false, false, false, false, false] (by kernel_rfl) rfl rfl ⟨(blk_cell BK125.out 0).trans rfl, (blk_cell BK125.out 1).trans rfl, (blk_cell BK125.out 2).trans rfl, (blk_cell BK125.out 3).trans rfl, (blk_cell BK125.out 4).trans rfl, (blk_cell BK125.out 5).trans rfl, (blk_cell BK125.out 6).trans rfl, (blk_cell BK125.out 7).trans rfl, (blk_cell BK125.out 8).trans rfl, (blk_cell BK125.out 9).trans rfl, (blk_cell BK126.out 0).trans rfl, (blk_cell BK126.out 1).trans rfl⟩ (fun hHeld => ?_); refine with_tabW reevelaw08_WindowWhen.tab18 reevelaw08_WindowWhen.bits18 (fun HT_ HW_ => ?_)
            generalize wr.drew = w49 at BK125 BK126 BK132 HB hHeld ⊢
            refine pure_ (i := 3) (N := some 92) (v := ?_) (a' := ?_) #[false, false, false, true, false, false, false, false] rfl rfl (any_of HT_.out (by kernel_rfl)) (fun _ _ _ h => h) (Or.inl ⟨by rfl, ?_⟩) ?_ ?_
            rotate_left
            ·intro w'
             go_simp
             with_reducible rfl
            rotate_left
            ·simp only [Act.put, List.setIfInBounds_toArray, List.set_cons_zero, List.set_cons_succ, i64_w, i32_w]
             rfl
            refine pure_ (i := 5) (N := some 94) (v := ?_) (a' := ?_) #[false, false, false, true, false, true, false, false] rfl rfl (any_of HT_.out (by kernel_rfl)) (fun _ _ _ h => h) (Or.inl ⟨by rfl, ?_⟩) ?_ ?_
            rotate_left
            ·intro w'
             go_simp
             with_reducible rfl
            rotate_left
            ·simp only [Act.put, List.setIfInBounds_toArray, List.set_cons_zero, List.set_cons_succ, i64_w, i32_w]
             rfl
            refine take_ (i := 0) (N := some 89) (v := ?_) (a' := ?_) #[true, false, false, true, false, true, false, false] rfl rfl (take_ofW HT_.out HW_.out (by kernel_rfl)) (fun _ _ _ h => h) (Or.inl ⟨by rfl, ?_⟩) hHeld ?_ ?_
            rotate_left
            ·rintro w' ⟨s0, s1, s2, s3, s4, s5, s6, s7, s8, s9, s10, s11⟩
             go_simp
             with_reducible rfl
            rotate_left
            ·simp only [Act.put, List.setIfInBounds_toArray, List.set_cons_zero, List.set_cons_succ, i64_w, i32_w]
             rfl
            refine take_ (i := 1) (N := some 90) (v := ?_) (a' := ?_) #[true, true, false, true, false, true, false, false] rfl rfl (take_ofW HT_.out HW_.out (by kernel_rfl)) (fun _ _ _ h => h) (Or.inl ⟨by rfl, ?_⟩) hHeld ?_ ?_
            rotate_left
            ·rintro w' ⟨s0, s1, s2, s3, s4, s5, s6, s7, s8, s9, s10, s11⟩
             go_simp
             with_reducible rfl
            rotate_left
            ·simp only [Act.put, List.setIfInBounds_toArray, List.set_cons_zero, List.set_cons_succ, i64_w, i32_w]
             rfl
            refine take_ (i := 2) (N := some 91) (v := ?_) (a' := ?_) #[true, true, true, true, false, true, false, false] rfl rfl (take_ofW HT_.out HW_.out (by kernel_rfl)) (fun _ _ _ h => h) (Or.inl ⟨by rfl, ?_⟩) hHeld ?_ ?_
            rotate_left
            ·rintro w' ⟨s0, s1, s2, s3, s4, s5, s6, s7, s8, s9, s10, s11⟩
             go_simp
             with_reducible rfl
            rotate_left
            ·simp only [Act.put, List.setIfInBounds_toArray, List.set_cons_zero, List.set_cons_succ, i64_w, i32_w]
             rfl
            refine one_ (i := 4) (N := some 93) #[true, true, true, true, true, true, false, false] rfl rfl (one_of HT_.out (by kernel_rfl)) (by decide) (fun K hK => ?_)
            refine goes_ Try.func11 (by kernel_rfl) rfl #[.agg #[.int .i64 a0_0, .int .i64 a0_1, .int .i64 a0_2, .int .i64 a0_3, .int .i64 a0_4, .int .i64 a0_5, .int .i64 a0_6, .int .i64 a0_7, .int .i64 a0_8, .int .i64 a0_9], .agg #[.int .i64 a1_0, .slice A1_1 l1_1.length c1_1], .int .i64 (wrap64 (ji13 + (Int.tmod (Go.bits .and .i64 (rd l4 x18_1) 1125899906842623) (wrap64 (t133 - ji13)))))] (by rfl) rfl rfl (by (try simp only [List.map_toArray, List.map_cons, List.map_nil]); first | done | (simp only [hji13]; rfl) | rfl | (have hwr_ : wrap64 (1099511627777 - ji13) = 1099511627777 - ji13 := Go.Proofs.YtkcnenekmjgmgaaS.w64 (by (rw [← hji13]; unfold mn; (repeat' split) <;> omega)) (by (rw [← hji13]; unfold mn; (repeat' split) <;> omega)); rw [hwr_]; rfl) | (simp only [List.length_drop, List.length_take]; rfl)) ?_
            with_reducible refine (window_Move.calls a0_0 a0_1 a0_2 a0_3 a0_4 a0_5 a0_6 a0_7 a0_8 a0_9 a1_0 _ _ l1_1 (wrap64 (ji13 + (Int.tmod (Go.bits .and .i64 (rd l4 x18_1) 1125899906842623) (wrap64 (t133 - ji13))))) t142 t143 _ ?side1 ?side2 A46.out).mono ?_
            (case side1 => repeat (first | exact (Kd.C_below HR1_1.out HB.out) | (with_reducible refine Kd.C_alloc ?_ _) | (with_reducible refine Kd.C_drewN ?_ _) | (with_reducible refine Kd.C_drew ?_)))
            (case side2 => exact HC1_1.out)
            rintro e w50 ⟨v144, rfl, ho0, hb⟩
            refine ⟨_, rfl, ?_⟩
            have n0_ := Aside0.mk (Kd.R_lower ho0 (below_size (by repeat (first | (with_reducible first | exact HB.out | apply below_alloc | apply pw_below_drewN | apply below_drew1 | refine below_set ?_ GE125.out | refine below_set ?_ GE126.out | refine below_set ?_ GE132.out) | exact HB.out))))
            have n1_ := Aside0.mk (blk_below (g := gb125) (o := .cells #[.int .i64 a0_0, .int .i64 a0_1, .int .i64 a0_2, .int .i64 a0_3, .int .i64 a0_4, .int .i64 a0_5, .int .i64 a0_6, .int .i64 a0_7, .int .i64 a0_8, .int .i64 a0_9] 23 (0, 0)) (by (with_reducible repeat (first | refine blk_drewN ?_ _ | refine blk_drew ?_ | refine blk_alloc ?_ _)); exact BK125.out) hb)
            have n2_ := Aside0.mk (blk_below (g := gb126) (o := .cells #[.int .i64 a1_0, .slice A1_1 l1_1.length c1_1] 26 (0, 0)) (by (with_reducible repeat (first | refine blk_drewN ?_ _ | refine blk_drew ?_ | refine blk_alloc ?_ _)); exact BK126.out) hb)
            have n3_ := Aside0.mk (blk_below (g := gb132) (o := .cells #[.int .i64 t128, .slice Ao29 (t129.length - 1) co29] 26 (0, 0)) (by (with_reducible repeat (first | refine blk_drewN ?_ _ | refine blk_drew ?_ | refine blk_alloc ?_ _)); exact BK132.out) hb)
            have n4_ := Aside0.mk (below_step (by repeat (first | (with_reducible first | exact HB.out | apply below_alloc | apply pw_below_drewN | apply below_drew1 | refine below_set ?_ GE125.out | refine below_set ?_ GE126.out | refine below_set ?_ GE132.out) | exact HB.out)) hb)
            clear BK125
            clear BK126
            clear BK132
            clear HB
            have HO145 := n0_
            have BK125 := n1_
            have BK126 := n2_
            have BK132 := n3_
            have HB := n4_
            clear n0_ n1_ n2_ n3_ n4_
            (try clear hb)
            (try clear hb2)
            (try clear hk)
            (try clear hi)
            (try clear ho0)
            obtain ⟨Ao51, co51, eo51⟩ := Kd.R_slice HO145.out
            (first | subst eo51 | (injection eo51 with f1_ f2_ f3_; have f4_ := f1_.symm; have f5_ := f3_.symm; clear f1_ f2_ f3_; subst f4_; subst f5_))
            refine hK.out _ _ ⟨(blk_cell BK125.out 0).trans rfl, (blk_cell BK125.out 1).trans rfl, (blk_cell BK125.out 2).trans rfl, (blk_cell BK125.out 3).trans rfl, (blk_cell BK125.out 4).trans rfl, (blk_cell BK125.out 5).trans rfl, (blk_cell BK125.out 6).trans rfl, (blk_cell BK125.out 7).trans rfl, (blk_cell BK125.out 8).trans rfl, (blk_cell BK125.out 9).trans rfl, (blk_cell BK126.out 0).trans rfl, (blk_cell BK126.out 1).trans rfl⟩ (fun hHeld => ?_)
            clear hK K
            refine norm_ (a' := ?_) ?_ ?_
            rotate_left
            ·show Act.put _ (some 93) _ = _
             simp only [Act.put, List.setIfInBounds_toArray, List.set_cons_zero, List.set_cons_succ, i64_w, i32_w]
             rfl
            refine one_ (i := 6) (N := some 95) #[true, true, true, true, true, true, true, false] rfl rfl (one_of HT_.out (by kernel_rfl)) (by decide) (fun K hK => ?_)
            refine goes_ Try.func12 (by kernel_rfl) rfl #[.agg #[.int .i64 a0_0, .int .i64 a0_1, .int .i64 a0_2, .int .i64 a0_3, .int .i64 a0_4, .int .i64 a0_5, .int .i64 a0_6, .int .i64 a0_7, .int .i64 a0_8, .int .i64 a0_9], .agg #[.int .i64 t142, .slice Ao51 t143.length co51], .int .i64 a3] (by rfl) rfl rfl (by (try simp only [List.map_toArray, List.map_cons, List.map_nil]); first | done | rfl | (simp only [List.length_drop, List.length_take]; rfl)) ?_
            with_reducible refine (window_May.calls a0_0 a0_1 a0_2 a0_3 a0_4 a0_5 a0_6 a0_7 a0_8 a0_9 t142 _ _ t143 a3 false _ ?side1 ?side2 A47.out).mono ?_
            (case side1 => repeat (first | exact (Kd.R_reads' HO145.out).2.2 | (with_reducible refine Kd.C_alloc ?_ _) | (with_reducible refine Kd.C_drewN ?_ _) | (with_reducible refine Kd.C_drew ?_)))
            (case side2 => exact (Kd.R_reads' HO145.out).2.1)
            rintro e w52 ⟨rfl, hb⟩
            refine ⟨_, rfl, ?_⟩
            have n0_ := Aside0.mk (Kd.R_below (by (with_reducible repeat (first | apply Kd.R_alloc | apply Kd.R_drewN | apply Kd.R_drew)); exact HO145.out) hb)
            have n1_ := Aside0.mk (blk_below (g := gb125) (o := .cells #[.int .i64 a0_0, .int .i64 a0_1, .int .i64 a0_2, .int .i64 a0_3, .int .i64 a0_4, .int .i64 a0_5, .int .i64 a0_6, .int .i64 a0_7, .int .i64 a0_8, .int .i64 a0_9] 23 (0, 0)) (by (with_reducible repeat (first | refine blk_drewN ?_ _ | refine blk_drew ?_ | refine blk_alloc ?_ _)); exact BK125.out) hb)
            have n2_ := Aside0.mk (blk_below (g := gb126) (o := .cells #[.int .i64 a1_0, .slice A1_1 l1_1.length c1_1] 26 (0, 0)) (by (with_reducible repeat (first | refine blk_drewN ?_ _ | refine blk_drew ?_ | refine blk_alloc ?_ _)); exact BK126.out) hb)
            have n3_ := Aside0.mk (blk_below (g := gb132) (o := .cells #[.int .i64 t128, .slice Ao29 (t129.length - 1) co29] 26 (0, 0)) (by (with_reducible repeat (first | refine blk_drewN ?_ _ | refine blk_drew ?_ | refine blk_alloc ?_ _)); exact BK132.out) hb)
            have n4_ := Aside0.mk (below_step (by repeat (first | (with_reducible first | exact HB.out | apply below_alloc | apply pw_below_drewN | apply below_drew1 | refine below_set ?_ GE125.out | refine below_set ?_ GE126.out | refine below_set ?_ GE132.out) | exact HB.out)) hb)
            clear HO145
            clear BK125
            clear BK126
            clear BK132
            clear HB
            have HO145 := n0_
            have BK125 := n1_
            have BK126 := n2_
            have BK132 := n3_
            have HB := n4_
            clear n0_ n1_ n2_ n3_ n4_
            (try clear hb)
            (try clear hb2)
            (try clear hk)
            (try clear hi)
            refine hK.out _ _ ⟨(blk_cell BK125.out 0).trans rfl, (blk_cell BK125.out 1).trans rfl, (blk_cell BK125.out 2).trans rfl, (blk_cell BK125.out 3).trans rfl, (blk_cell BK125.out 4).trans rfl, (blk_cell BK125.out 5).trans rfl, (blk_cell BK125.out 6).trans rfl, (blk_cell BK125.out 7).trans rfl, (blk_cell BK125.out 8).trans rfl, (blk_cell BK125.out 9).trans rfl, (blk_cell BK126.out 0).trans rfl, (blk_cell BK126.out 1).trans rfl⟩ (fun hHeld => ?_)
            clear hK K
            refine norm_ (a' := ?_) ?_ ?_
            rotate_left
            ·show Act.put _ (some 95) _ = _
             simp only [Act.put, List.setIfInBounds_toArray, List.set_cons_zero, List.set_cons_succ, i64_w, i32_w]
             rfl
            refine pure_ (i := 7) (N := some 20) (v := ?_) (a' := ?_) #[true, true, true, true, true, true, true, true] rfl rfl (any_of HT_.out (by kernel_rfl)) (fun _ _ _ h => h) (Or.inl ⟨by rfl, ?_⟩) ?_ ?_
            rotate_left
            ·intro w'
             go_simp
             with_reducible rfl
            rotate_left
            ·simp only [Act.put, List.setIfInBounds_toArray, List.set_cons_zero, List.set_cons_succ, i64_w, i32_w]
             rfl
            refine done_ (done_of HT_.out (by kernel_rfl)) ?_
            try go_wp2
            go_roundg k1
            case measure => have := HK1.out; omega
            case rel => exact ⟨(wrap64 (x18_1 + 1)), (by first | rfl | (simp; done) | (simp [*]; done) | (simp [Int.tdiv_eq_ediv_of_nonneg]; done)), H', ⟨by have := HK1.out; omega⟩, ⟨by (with_reducible repeat (first | refine blk_drewN ?_ _ | refine blk_drew ?_ | refine blk_alloc ?_ _)); exact BK125.out⟩, ⟨by (with_reducible repeat (first | refine blk_drewN ?_ _ | refine blk_drew ?_ | refine blk_alloc ?_ _)); exact BK126.out⟩, ⟨by (with_reducible repeat (first | refine blk_drewN ?_ _ | refine blk_drew ?_ | refine blk_alloc ?_ _)); exact BK132.out⟩, ⟨by repeat (first | (with_reducible first | exact HB.out | apply below_alloc | apply pw_below_drewN | apply below_drew1 | refine below_set ?_ GE125.out | refine below_set ?_ GE126.out | refine below_set ?_ GE132.out) | exact HB.out)⟩⟩
         ·rw [if_neg c44] at H
          exact absurd H (by simp)
        ·rw [if_neg c43] at H
         have c43b0 : decide (ji13 < t133) = false := decide_eq_false c43
         clear c43
         obtain rfl := Option.some.inj H
         go_wp2
         go_ret
         exact ⟨by first | rfl | (simp only [i64_w] <;> rfl) | (simp [errW_none, errW_some] <;> rfl) | (simp only [← hji12, ← hji13]; first | rfl | (simp [errW_none, errW_some] <;> rfl)) | (simp [*, errW_none, errW_some] <;> rfl), by repeat (first | (with_reducible first | exact HB.out | apply below_alloc | apply pw_below_drewN | apply below_drew1 | refine below_set ?_ GE125.out | refine below_set ?_ GE126.out | refine below_set ?_ GE132.out) | exact HB.out)⟩
       ·rw [if_neg c42] at H
        have c42b0 : decide (x18_1 < (l4.length : Int)) = false := decide_eq_false c42
        clear c42
        obtain rfl := Option.some.inj H
        go_wp2
        go_ret
        exact ⟨by first | rfl | (simp only [i64_w] <;> rfl) | (simp [errW_none, errW_some] <;> rfl) | (simp only [← hji12, ← hji13]; first | rfl | (simp [errW_none, errW_some] <;> rfl)) | (simp [*, errW_none, errW_some] <;> rfl), by repeat (first | (with_reducible first | exact HB.out | apply below_alloc | apply pw_below_drewN | apply below_drew1 | refine below_set ?_ GE125.out | refine below_set ?_ GE126.out | refine below_set ?_ GE132.out) | exact HB.out)⟩
   ·replace c17 := Bool.eq_false_iff.mpr c17
    subst c17
    have H1 : (none) = some r := by rw [if_neg (show ¬ (false = true) by decide)] at H; exact H
    clear H
    have H := H1
    clear H1
    exact absurd H (by simp)
  ·rw [if_neg c14] at H
   have c14b0 : decide (0 ≤ t133) = false := decide_eq_false c14
   clear c14
   have H' := Aside0.mk H
   clear H
   go_enter Try.func8, Try.ntmps8
   go_wp2_with (first | ((with_reducible refine gate_dst (N := 5) rfl ?_); refine box_event ?hg (N := 5) ?hd (cs := #[.int .i64 a0_0, .int .i64 a0_1, .int .i64 a0_2, .int .i64 a0_3, .int .i64 a0_4, .int .i64 a0_5, .int .i64 a0_6, .int .i64 a0_7, .int .i64 a0_8, .int .i64 a0_9]) (t := 23) ?hr ?_; (case hd => rfl); (case hg => rfl); (case hr => first | (go_simp; done) | (go_simp; rfl)); intro gb125 hg w53 hbox hb; have n0_ := Aside0.mk (below_step (by repeat (first | (with_reducible first | exact HB.out | apply below_alloc | apply pw_below_drewN | apply below_drew1) | exact HB.out)) hb); have n1_ := Aside0.mk (hbox); have n2_ := Aside0.mk ((by rw [hg]; exact (below_size (by repeat (first | (with_reducible first | exact HB.out | apply below_alloc | apply pw_below_drewN | apply below_drew1) | exact HB.out))) : w.heap.size ≤ gb125)); have n3_ := Aside0.mk ((by rw [hg]; exact (below_size (by repeat (first | (with_reducible first | exact HB.out | apply below_alloc | apply pw_below_drewN | apply below_drew1) | exact HB.out))) : w.heap.size ≤ gb125)); clear HB; have HB := n0_; have BK125 := n1_; have GW125 := n2_; have GE125 := n3_; clear n0_ n1_ n2_ n3_; clear hb hbox hg) | ((with_reducible refine gate_dst (N := 6) rfl ?_); refine box_event ?hg (N := 6) ?hd (cs := #[.int .i64 a1_0, .slice A1_1 l1_1.length c1_1]) (t := 26) ?hr ?_; (case hd => rfl); (case hg => rfl); (case hr => first | (go_simp; done) | (go_simp; rfl)); intro gb126 hg w54 hbox hb; have n0_ := Aside0.mk (blk_below (g := gb125) (o := .cells #[.int .i64 a0_0, .int .i64 a0_1, .int .i64 a0_2, .int .i64 a0_3, .int .i64 a0_4, .int .i64 a0_5, .int .i64 a0_6, .int .i64 a0_7, .int .i64 a0_8, .int .i64 a0_9] 23 (0, 0)) (by (with_reducible repeat (first | refine blk_drewN ?_ _ | refine blk_drew ?_ | refine blk_alloc ?_ _)); exact BK125.out) hb); have n1_ := Aside0.mk (below_step (by repeat (first | (with_reducible first | exact HB.out | apply below_alloc | apply pw_below_drewN | apply below_drew1 | refine below_set ?_ GE125.out) | exact HB.out)) hb); have n2_ := Aside0.mk (hbox); have n3_ := Aside0.mk ((by rw [hg]; exact (below_size (by repeat (first | (with_reducible first | exact HB.out | apply below_alloc | apply pw_below_drewN | apply below_drew1 | refine below_set ?_ GE125.out) | exact HB.out))) : w.heap.size ≤ gb126)); have n4_ := Aside0.mk ((by rw [hg]; exact (below_size (by repeat (first | (with_reducible first | exact HB.out | apply below_alloc | apply pw_below_drewN | apply below_drew1 | refine below_set ?_ GE125.out) | exact HB.out))) : w.heap.size ≤ gb126)); have n5_ := Aside0.mk ((by rw [hg]; exact Nat.ne_of_lt (blk_lt (g := gb125) (o := .cells #[.int .i64 a0_0, .int .i64 a0_1, .int .i64 a0_2, .int .i64 a0_3, .int .i64 a0_4, .int .i64 a0_5, .int .i64 a0_6, .int .i64 a0_7, .int .i64 a0_8, .int .i64 a0_9] 23 (0, 0)) (by (with_reducible repeat (first | refine blk_drewN ?_ _ | refine blk_drew ?_ | refine blk_alloc ?_ _)); exact BK125.out)) : gb125 ≠ gb126)); have n6_ := Aside0.mk ((by rw [hg]; exact Nat.ne_of_gt (blk_lt (g := gb125) (o := .cells #[.int .i64 a0_0, .int .i64 a0_1, .int .i64 a0_2, .int .i64 a0_3, .int .i64 a0_4, .int .i64 a0_5, .int .i64 a0_6, .int .i64 a0_7, .int .i64 a0_8, .int .i64 a0_9] 23 (0, 0)) (by (with_reducible repeat (first | refine blk_drewN ?_ _ | refine blk_drew ?_ | refine blk_alloc ?_ _)); exact BK125.out)) : gb126 ≠ gb125)); clear BK125; clear HB; have BK125 := n0_; have HB := n1_; have BK126 := n2_; have GW126 := n3_; have GE126 := n4_; have NB125_126 := n5_; have NB126_125 := n6_; clear n0_ n1_ n2_ n3_ n4_ n5_ n6_; clear hb hbox hg) | ((with_reducible refine gate_callee (f := 9) rfl ?_); refine goesL_ (some 21) rfl rfl Try.func9 (by kernel_rfl) rfl #[] rfl (by (try simp only [List.map_toArray, List.map_cons, List.map_nil]); first | done | rfl | (simp only [List.length_drop, List.length_take]; rfl)) ?_; (with_reducible refine (awake_ok.calls   _ A6.out).mono ?_); rintro e w55 ⟨rfl, hb⟩; refine ⟨_, rfl, ?_⟩; have n0_ := Aside0.mk (blk_below (g := gb125) (o := .cells #[.int .i64 a0_0, .int .i64 a0_1, .int .i64 a0_2, .int .i64 a0_3, .int .i64 a0_4, .int .i64 a0_5, .int .i64 a0_6, .int .i64 a0_7, .int .i64 a0_8, .int .i64 a0_9] 23 (0, 0)) (by (with_reducible repeat (first | refine blk_drewN ?_ _ | refine blk_drew ?_ | refine blk_alloc ?_ _)); exact BK125.out) hb); have n1_ := Aside0.mk (blk_below (g := gb126) (o := .cells #[.int .i64 a1_0, .slice A1_1 l1_1.length c1_1] 26 (0, 0)) (by (with_reducible repeat (first | refine blk_drewN ?_ _ | refine blk_drew ?_ | refine blk_alloc ?_ _)); exact BK126.out) hb); have n2_ := Aside0.mk (below_step (by repeat (first | (with_reducible first | exact HB.out | apply below_alloc | apply pw_below_drewN | apply below_drew1 | refine below_set ?_ GE125.out | refine below_set ?_ GE126.out) | exact HB.out)) hb); clear BK125; clear BK126; clear HB; have BK125 := n0_; have BK126 := n1_; have HB := n2_; clear n0_ n1_ n2_; (try clear hb); (try clear hb2); (try clear hk); (try clear hi); have hnb56 := NB126_125.out; have hnc56 := NB125_126.out; have hcz57_0 : w55.cell? ⟨gb126, 0, none⟩ = some (.int .i64 a1_0) := (blk_cell BK126.out 0).trans rfl; have hcz57_1 : w55.cell? ⟨gb126, 1, none⟩ = some (.slice A1_1 l1_1.length c1_1) := (blk_cell BK126.out 1).trans rfl; have hfz57_0 := blk_frozen BK126.out 0; have hfz57_1 := blk_frozen BK126.out 1) | ((with_reducible refine gate_callee (f := 14) rfl ?_); refine goesL_ (some 23) rfl rfl Try.func14 (by kernel_rfl) rfl #[.agg #[.int .i64 a1_0, .slice A1_1 l1_1.length c1_1]] rfl (by (try simp only [List.map_toArray, List.map_cons, List.map_nil]); first | done | rfl | (simp only [List.length_drop, List.length_take]; rfl)) ?_; (with_reducible refine (lent_ok.calls a1_0 _ _ l1_1 t128 t129 _ ?side1 ?side2 A7.out).mono ?_); (case side1 => repeat (first | exact (Kd.C_below HR1_1.out HB.out) | (with_reducible refine Kd.C_alloc ?_ _) | (with_reducible refine Kd.C_drewN ?_ _) | (with_reducible refine Kd.C_drew ?_))); (case side2 => exact HC1_1.out); rintro e w58 ⟨v130, rfl, ho0, hb⟩; refine ⟨_, rfl, ?_⟩; have n0_ := Aside0.mk (Kd.R_lower ho0 (below_size (by repeat (first | (with_reducible first | exact HB.out | apply below_alloc | apply pw_below_drewN | apply below_drew1 | refine below_set ?_ GE125.out | refine below_set ?_ GE126.out) | exact HB.out)))); have n1_ := Aside0.mk (blk_below (g := gb125) (o := .cells #[.int .i64 a0_0, .int .i64 a0_1, .int .i64 a0_2, .int .i64 a0_3, .int .i64 a0_4, .int .i64 a0_5, .int .i64 a0_6, .int .i64 a0_7, .int .i64 a0_8, .int .i64 a0_9] 23 (0, 0)) (by (with_reducible repeat (first | refine blk_drewN ?_ _ | refine blk_drew ?_ | refine blk_alloc ?_ _)); exact BK125.out) hb); have n2_ := Aside0.mk (blk_below (g := gb126) (o := .cells #[.int .i64 a1_0, .slice A1_1 l1_1.length c1_1] 26 (0, 0)) (by (with_reducible repeat (first | refine blk_drewN ?_ _ | refine blk_drew ?_ | refine blk_alloc ?_ _)); exact BK126.out) hb); have n3_ := Aside0.mk (below_step (by repeat (first | (with_reducible first | exact HB.out | apply below_alloc | apply pw_below_drewN | apply below_drew1 | refine below_set ?_ GE125.out | refine below_set ?_ GE126.out) | exact HB.out)) hb); clear BK125; clear BK126; clear HB; have HO131 := n0_; have BK125 := n1_; have BK126 := n2_; have HB := n3_; clear n0_ n1_ n2_ n3_; (try clear hb); (try clear hb2); (try clear hk); (try clear hi); (try clear ho0)) | ((with_reducible refine gate_dst (N := 12) rfl ?_); refine box_event ?hg (N := 12) ?hd (cs := #[.int .i64 0, .slice none 0 0]) (t := 26) ?hr ?_; (case hd => rfl); (case hg => rfl); (case hr => first | (go_simp; done) | (go_simp; rfl)); intro gb132 hg w59 hbox hb; have n0_ := Aside0.mk (Kd.R_below (by (with_reducible repeat (first | apply Kd.R_alloc | apply Kd.R_drewN | apply Kd.R_drew)); exact HO131.out) hb); have n1_ := Aside0.mk (blk_below (g := gb125) (o := .cells #[.int .i64 a0_0, .int .i64 a0_1, .int .i64 a0_2, .int .i64 a0_3, .int .i64 a0_4, .int .i64 a0_5, .int .i64 a0_6, .int .i64 a0_7, .int .i64 a0_8, .int .i64 a0_9] 23 (0, 0)) (by (with_reducible repeat (first | refine blk_drewN ?_ _ | refine blk_drew ?_ | refine blk_alloc ?_ _)); exact BK125.out) hb); have n2_ := Aside0.mk (blk_below (g := gb126) (o := .cells #[.int .i64 a1_0, .slice A1_1 l1_1.length c1_1] 26 (0, 0)) (by (with_reducible repeat (first | refine blk_drewN ?_ _ | refine blk_drew ?_ | refine blk_alloc ?_ _)); exact BK126.out) hb); have n3_ := Aside0.mk (below_step (by repeat (first | (with_reducible first | exact HB.out | apply below_alloc | apply pw_below_drewN | apply below_drew1 | refine below_set ?_ GE125.out | refine below_set ?_ GE126.out) | exact HB.out)) hb); have n4_ := Aside0.mk (hbox); have n5_ := Aside0.mk ((by rw [hg]; exact (below_size (by repeat (first | (with_reducible first | exact HB.out | apply below_alloc | apply pw_below_drewN | apply below_drew1 | refine below_set ?_ GE125.out | refine below_set ?_ GE126.out) | exact HB.out))) : w.heap.size ≤ gb132)); have n6_ := Aside0.mk ((by rw [hg]; exact (below_size (by repeat (first | (with_reducible first | exact HB.out | apply below_alloc | apply pw_below_drewN | apply below_drew1 | refine below_set ?_ GE125.out | refine below_set ?_ GE126.out) | exact HB.out))) : w.heap.size ≤ gb132)); have n7_ := Aside0.mk ((by rw [hg]; exact Nat.ne_of_lt (blk_lt (g := gb125) (o := .cells #[.int .i64 a0_0, .int .i64 a0_1, .int .i64 a0_2, .int .i64 a0_3, .int .i64 a0_4, .int .i64 a0_5, .int .i64 a0_6, .int .i64 a0_7, .int .i64 a0_8, .int .i64 a0_9] 23 (0, 0)) (by (with_reducible repeat (first | refine blk_drewN ?_ _ | refine blk_drew ?_ | refine blk_alloc ?_ _)); exact BK125.out)) : gb125 ≠ gb132)); have n8_ := Aside0.mk ((by rw [hg]; exact Nat.ne_of_gt (blk_lt (g := gb125) (o := .cells #[.int .i64 a0_0, .int .i64 a0_1, .int .i64 a0_2, .int .i64 a0_3, .int .i64 a0_4, .int .i64 a0_5, .int .i64 a0_6, .int .i64 a0_7, .int .i64 a0_8, .int .i64 a0_9] 23 (0, 0)) (by (with_reducible repeat (first | refine blk_drewN ?_ _ | refine blk_drew ?_ | refine blk_alloc ?_ _)); exact BK125.out)) : gb132 ≠ gb125)); have n9_ := Aside0.mk ((by rw [hg]; exact Nat.ne_of_lt (blk_lt (g := gb126) (o := .cells #[.int .i64 a1_0, .slice A1_1 l1_1.length c1_1] 26 (0, 0)) (by (with_reducible repeat (first | refine blk_drewN ?_ _ | refine blk_drew ?_ | refine blk_alloc ?_ _)); exact BK126.out)) : gb126 ≠ gb132)); have n10_ := Aside0.mk ((by rw [hg]; exact Nat.ne_of_gt (blk_lt (g := gb126) (o := .cells #[.int .i64 a1_0, .slice A1_1 l1_1.length c1_1] 26 (0, 0)) (by (with_reducible repeat (first | refine blk_drewN ?_ _ | refine blk_drew ?_ | refine blk_alloc ?_ _)); exact BK126.out)) : gb132 ≠ gb126)); clear HO131; clear BK125; clear BK126; clear HB; have HO131 := n0_; have BK125 := n1_; have BK126 := n2_; have HB := n3_; have BK132 := n4_; have GW132 := n5_; have GE132 := n6_; have NB125_132 := n7_; have NB132_125 := n8_; have NB126_132 := n9_; have NB132_126 := n10_; clear n0_ n1_ n2_ n3_ n4_ n5_ n6_ n7_ n8_ n9_ n10_; clear hb hbox hg; have hnb60 := NB132_125.out; have hnc60 := NB125_132.out; have hnb61 := NB132_126.out; have hnc61 := NB126_132.out; have hcz62_0 : w59.cell? ⟨gb132, 0, none⟩ = some (.int .i64 0) := (blk_cell BK132.out 0).trans rfl; have hcz62_1 : w59.cell? ⟨gb132, 1, none⟩ = some (.slice none 0 0) := (blk_cell BK132.out 1).trans rfl; have hfz62_0 := blk_frozen BK132.out 0; have hfz62_1 := blk_frozen BK132.out 1; obtain ⟨Ao63, co63, eo63⟩ := Kd.R_slice HO131.out; subst eo63; have hcz64_0 : w59.cell? ⟨gb125, 0, none⟩ = some (.int .i64 a0_0) := (blk_cell BK125.out 0).trans rfl; have hcz64_1 : w59.cell? ⟨gb125, 1, none⟩ = some (.int .i64 a0_1) := (blk_cell BK125.out 1).trans rfl; have hcz64_2 : w59.cell? ⟨gb125, 2, none⟩ = some (.int .i64 a0_2) := (blk_cell BK125.out 2).trans rfl; have hcz64_3 : w59.cell? ⟨gb125, 3, none⟩ = some (.int .i64 a0_3) := (blk_cell BK125.out 3).trans rfl; have hcz64_4 : w59.cell? ⟨gb125, 4, none⟩ = some (.int .i64 a0_4) := (blk_cell BK125.out 4).trans rfl; have hcz64_5 : w59.cell? ⟨gb125, 5, none⟩ = some (.int .i64 a0_5) := (blk_cell BK125.out 5).trans rfl; have hcz64_6 : w59.cell? ⟨gb125, 6, none⟩ = some (.int .i64 a0_6) := (blk_cell BK125.out 6).trans rfl; have hcz64_7 : w59.cell? ⟨gb125, 7, none⟩ = some (.int .i64 a0_7) := (blk_cell BK125.out 7).trans rfl; have hcz64_8 : w59.cell? ⟨gb125, 8, none⟩ = some (.int .i64 a0_8) := (blk_cell BK125.out 8).trans rfl; have hcz64_9 : w59.cell? ⟨gb125, 9, none⟩ = some (.int .i64 a0_9) := (blk_cell BK125.out 9).trans rfl; have hfz64_0 := blk_frozen BK125.out 0; have hfz64_1 := blk_frozen BK125.out 1; have hfz64_2 := blk_frozen BK125.out 2; have hfz64_3 := blk_frozen BK125.out 3; have hfz64_4 := blk_frozen BK125.out 4; have hfz64_5 := blk_frozen BK125.out 5; have hfz64_6 := blk_frozen BK125.out 6; have hfz64_7 := blk_frozen BK125.out 7; have hfz64_8 := blk_frozen BK125.out 8; have hfz64_9 := blk_frozen BK125.out 9) | ((with_reducible refine gate_callee (f := 27) rfl ?_); refine goesL_ (some 28) rfl rfl Try.func27 (by kernel_rfl) rfl #[.agg #[.int .i64 a0_0, .int .i64 a0_1, .int .i64 a0_2, .int .i64 a0_3, .int .i64 a0_4, .int .i64 a0_5, .int .i64 a0_6, .int .i64 a0_7, .int .i64 a0_8, .int .i64 a0_9], .agg #[.int .i64 t128, shortV (.slice Ao63 t129.length co63)], .int .i64 a2, .int .i64 a3] rfl (by (try simp only [List.map_toArray, List.map_cons, List.map_nil]); first | done | rfl | (simp only [List.length_drop, List.length_take]; rfl)) ?_; (with_reducible refine (when_all.calls a0_0 a0_1 a0_2 a0_3 a0_4 a0_5 a0_6 a0_7 a0_8 a0_9 t128 _ _ t129 a2 a3 t133 _ ?side1 ?side2 A8.out).mono ?_); (case side1 => refine (Kd.R_reads' (e := 3) (base := w.heap.size) (ok := fun k_ => True) (n := t129.length) (c := co63) ?_).2.2; exact (by (with_reducible repeat (first | apply Kd.R_alloc | apply Kd.R_drewN | apply Kd.R_drew)); exact (Kd.R_mono (Kd.R_far (p := ⟨gb132, 1, none⟩) (Kd.R_far (p := ⟨gb132, 0, none⟩) (Kd.R_types HO131.out BK132.out (by decide)) (fun _ hk => hk.2) (.int .i64 t128)) (fun _ hk => hk.2) (.slice Ao63 (t129.length - 1) co63)) (fun _ h_ => h_.1)))); (case side2 => exact (Kd.R_reads' HO131.out).2.1); rintro e w65 ⟨rfl, hb⟩; refine ⟨_, rfl, ?_⟩; have n0_ := Aside0.mk (Kd.R_below (by (with_reducible repeat (first | apply Kd.R_alloc | apply Kd.R_drewN | apply Kd.R_drew)); exact (Kd.R_mono (Kd.R_far (p := ⟨gb132, 1, none⟩) (Kd.R_far (p := ⟨gb132, 0, none⟩) (Kd.R_types HO131.out BK132.out (by decide)) (fun _ hk => hk.2) (.int .i64 t128)) (fun _ hk => hk.2) (.slice Ao63 (t129.length - 1) co63)) (fun _ h_ => h_.1))) hb); have n1_ := Aside0.mk (blk_below (g := gb125) (o := .cells #[.int .i64 a0_0, .int .i64 a0_1, .int .i64 a0_2, .int .i64 a0_3, .int .i64 a0_4, .int .i64 a0_5, .int .i64 a0_6, .int .i64 a0_7, .int .i64 a0_8, .int .i64 a0_9] 23 (0, 0)) (by (with_reducible repeat (first | refine blk_drewN ?_ _ | refine blk_drew ?_ | refine blk_alloc ?_ _)); refine blk_far ?_ NB125_132.out _; (with_reducible repeat (first | refine blk_drewN ?_ _ | refine blk_drew ?_ | refine blk_alloc ?_ _)); refine blk_far ?_ NB125_132.out _; (with_reducible repeat (first | refine blk_drewN ?_ _ | refine blk_drew ?_ | refine blk_alloc ?_ _)); exact BK125.out) hb); have n2_ := Aside0.mk (blk_below (g := gb126) (o := .cells #[.int .i64 a1_0, .slice A1_1 l1_1.length c1_1] 26 (0, 0)) (by (with_reducible repeat (first | refine blk_drewN ?_ _ | refine blk_drew ?_ | refine blk_alloc ?_ _)); refine blk_far ?_ NB126_132.out _; (with_reducible repeat (first | refine blk_drewN ?_ _ | refine blk_drew ?_ | refine blk_alloc ?_ _)); refine blk_far ?_ NB126_132.out _; (with_reducible repeat (first | refine blk_drewN ?_ _ | refine blk_drew ?_ | refine blk_alloc ?_ _)); exact BK126.out) hb); have n3_ := Aside0.mk (blk_below (g := gb132) (o := .cells #[.int .i64 t128, .slice Ao63 (t129.length - 1) co63] 26 (0, 0)) (by (with_reducible repeat (first | refine blk_drewN ?_ _ | refine blk_drew ?_ | refine blk_alloc ?_ _)); refine blk_put (cs := #[.int .i64 t128, .slice none 0 0]) ?_ 1 _ rfl; (with_reducible repeat (first | refine blk_drewN ?_ _ | refine blk_drew ?_ | refine blk_alloc ?_ _)); refine blk_put (cs := #[.int .i64 0, .slice none 0 0]) ?_ 0 _ rfl; (with_reducible repeat (first | refine blk_drewN ?_ _ | refine blk_drew ?_ | refine blk_alloc ?_ _)); exact BK132.out) hb); have n4_ := Aside0.mk (below_step (by repeat (first | (with_reducible first | exact HB.out | apply below_alloc | apply pw_below_drewN | apply below_drew1 | refine below_set ?_ GE125.out | refine below_set ?_ GE126.out | refine below_set ?_ GE132.out) | exact HB.out)) hb); clear HO131; clear BK125; clear BK126; clear BK132; clear HB; have HO131 := n0_; have BK125 := n1_; have BK126 := n2_; have BK132 := n3_; have HB := n4_; clear n0_ n1_ n2_ n3_ n4_; (try clear hb); (try clear hb2); (try clear hk); (try clear hi); have hcz66_0 : w65.cell? ⟨gb132, 0, none⟩ = some (.int .i64 t128) := (blk_cell BK132.out 0).trans rfl; have hcz66_1 : w65.cell? ⟨gb132, 1, none⟩ = some (.slice Ao63 (t129.length - 1) co63) := (blk_cell BK132.out 1).trans rfl; have hfz66_0 := blk_frozen BK132.out 0; have hfz66_1 := blk_frozen BK132.out 1; have hcz67_0 : w65.cell? ⟨gb126, 0, none⟩ = some (.int .i64 a1_0) := (blk_cell BK126.out 0).trans rfl; have hcz67_1 : w65.cell? ⟨gb126, 1, none⟩ = some (.slice A1_1 l1_1.length c1_1) := (blk_cell BK126.out 1).trans rfl; have hfz67_0 := blk_frozen BK126.out 0; have hfz67_1 := blk_frozen BK126.out 1) | ((with_reducible refine gate_callee (f := 18) rfl ?_); refine goesL_ (some 31) rfl rfl Try.func18 (by kernel_rfl) rfl #[.agg #[.int .i64 t128, shortV (.slice Ao63 t129.length co63)], .agg #[.int .i64 a1_0, .slice A1_1 l1_1.length c1_1]] rfl (by (try simp only [List.map_toArray, List.map_cons, List.map_nil]); first | done | rfl | (simp only [List.length_drop, List.length_take]; rfl)) ?_; (with_reducible refine (kept_ok.calls t128 (fun k_ => some k_ = (.slice Ao63 t129.length co63 : Value).ownBlock) (.slice Ao63 t129.length co63) t129 a1_0 _ _ l1_1  w _ ?side1 ?side2 ?side3 ?side4 A9.out).mono ?_); (case side1 => repeat (first | (with_reducible first | exact HB.out | apply below_alloc | apply pw_below_drewN | apply below_drew1 | refine below_set ?_ GE125.out | refine below_set ?_ GE126.out | refine below_set ?_ GE132.out) | exact HB.out)); (case side2 => exact Kd.R_tight rfl HO131.out); (case side3 => exact Kd.C_kept_came (Kd.heap_int .i64) HR1_1.out (by repeat (first | (with_reducible first | exact HB.out | apply below_alloc | apply pw_below_drewN | apply below_drew1 | refine below_set ?_ GE125.out | refine below_set ?_ GE126.out | refine below_set ?_ GE132.out) | exact HB.out)) (fun k_ hs_ => (fun e_ => Kd.R_base HO131.out k_ e_.symm) hs_)); (case side4 => exact HC1_1.out); rintro e w68 ⟨rfl, hb, hkp⟩; refine ⟨_, rfl, ?_⟩; have n0_ := Aside0.mk (blk_kept (by (with_reducible repeat (first | refine blk_drewN ?_ _ | refine blk_drew ?_ | refine blk_alloc ?_ _)); exact BK125.out) hkp (fun hs_ => (fun e_ => (Kd.R_ne HO131.out BK125.out (by decide)) e_) hs_)); have n1_ := Aside0.mk (blk_kept (by (with_reducible repeat (first | refine blk_drewN ?_ _ | refine blk_drew ?_ | refine blk_alloc ?_ _)); exact BK126.out) hkp (fun hs_ => (fun e_ => (Kd.R_ne HO131.out BK126.out (by decide)) e_) hs_)); have n2_ := Aside0.mk (blk_kept (by (with_reducible repeat (first | refine blk_drewN ?_ _ | refine blk_drew ?_ | refine blk_alloc ?_ _)); exact BK132.out) hkp (fun hs_ => (fun e_ => (Kd.R_ne HO131.out BK132.out (by decide)) e_) hs_)); have n3_ := Aside0.mk (hb); clear BK125; clear BK126; clear BK132; clear HB; clear HO131; have BK125 := n0_; have BK126 := n1_; have BK132 := n2_; have HB := n3_; clear n0_ n1_ n2_ n3_; (try clear hb); (try clear hkp); have hcz69_0 : w68.cell? ⟨gb125, 0, none⟩ = some (.int .i64 a0_0) := (blk_cell BK125.out 0).trans rfl; have hcz69_1 : w68.cell? ⟨gb125, 1, none⟩ = some (.int .i64 a0_1) := (blk_cell BK125.out 1).trans rfl; have hcz69_2 : w68.cell? ⟨gb125, 2, none⟩ = some (.int .i64 a0_2) := (blk_cell BK125.out 2).trans rfl; have hcz69_3 : w68.cell? ⟨gb125, 3, none⟩ = some (.int .i64 a0_3) := (blk_cell BK125.out 3).trans rfl; have hcz69_4 : w68.cell? ⟨gb125, 4, none⟩ = some (.int .i64 a0_4) := (blk_cell BK125.out 4).trans rfl; have hcz69_5 : w68.cell? ⟨gb125, 5, none⟩ = some (.int .i64 a0_5) := (blk_cell BK125.out 5).trans rfl; have hcz69_6 : w68.cell? ⟨gb125, 6, none⟩ = some (.int .i64 a0_6) := (blk_cell BK125.out 6).trans rfl; have hcz69_7 : w68.cell? ⟨gb125, 7, none⟩ = some (.int .i64 a0_7) := (blk_cell BK125.out 7).trans rfl; have hcz69_8 : w68.cell? ⟨gb125, 8, none⟩ = some (.int .i64 a0_8) := (blk_cell BK125.out 8).trans rfl; have hcz69_9 : w68.cell? ⟨gb125, 9, none⟩ = some (.int .i64 a0_9) := (blk_cell BK125.out 9).trans rfl; have hfz69_0 := blk_frozen BK125.out 0; have hfz69_1 := blk_frozen BK125.out 1; have hfz69_2 := blk_frozen BK125.out 2; have hfz69_3 := blk_frozen BK125.out 3; have hfz69_4 := blk_frozen BK125.out 4; have hfz69_5 := blk_frozen BK125.out 5; have hfz69_6 := blk_frozen BK125.out 6; have hfz69_7 := blk_frozen BK125.out 7; have hfz69_8 := blk_frozen BK125.out 8; have hfz69_9 := blk_frozen BK125.out 9; have hcz70_0 : w68.cell? ⟨gb126, 0, none⟩ = some (.int .i64 a1_0) := (blk_cell BK126.out 0).trans rfl; have hcz70_1 : w68.cell? ⟨gb126, 1, none⟩ = some (.slice A1_1 l1_1.length c1_1) := (blk_cell BK126.out 1).trans rfl; have hfz70_0 := blk_frozen BK126.out 0; have hfz70_1 := blk_frozen BK126.out 1) | (go_at_call 28; (with_reducible refine (rwhen_all.calls a0_0 a0_1 a0_2 a0_3 a0_4 a0_5 a0_6 a0_7 a0_8 a0_9 a1_0 _ _ l1_1 a2 a3 t135 _ ?side1 ?side2 A10.out).mono ?_); (case side1 => repeat (first | exact (Kd.C_below HR1_1.out HB.out) | (with_reducible refine Kd.C_alloc ?_ _) | (with_reducible refine Kd.C_drewN ?_ _) | (with_reducible refine Kd.C_drew ?_))); (case side2 => exact HC1_1.out); rintro e w71 ⟨rfl, hb⟩; have n0_ := Aside0.mk (blk_below (g := gb125) (o := .cells #[.int .i64 a0_0, .int .i64 a0_1, .int .i64 a0_2, .int .i64 a0_3, .int .i64 a0_4, .int .i64 a0_5, .int .i64 a0_6, .int .i64 a0_7, .int .i64 a0_8, .int .i64 a0_9] 23 (0, 0)) (by (with_reducible repeat (first | refine blk_drewN ?_ _ | refine blk_drew ?_ | refine blk_alloc ?_ _)); exact BK125.out) hb); have n1_ := Aside0.mk (blk_below (g := gb126) (o := .cells #[.int .i64 a1_0, .slice A1_1 l1_1.length c1_1] 26 (0, 0)) (by (with_reducible repeat (first | refine blk_drewN ?_ _ | refine blk_drew ?_ | refine blk_alloc ?_ _)); exact BK126.out) hb); have n2_ := Aside0.mk (blk_below (g := gb132) (o := .cells #[.int .i64 t128, .slice Ao63 (t129.length - 1) co63] 26 (0, 0)) (by (with_reducible repeat (first | refine blk_drewN ?_ _ | refine blk_drew ?_ | refine blk_alloc ?_ _)); exact BK132.out) hb); have n3_ := Aside0.mk (below_step (by repeat (first | (with_reducible first | exact HB.out | apply below_alloc | apply pw_below_drewN | apply below_drew1 | refine below_set ?_ GE125.out | refine below_set ?_ GE126.out | refine below_set ?_ GE132.out) | exact HB.out)) hb); clear BK125; clear BK126; clear BK132; clear HB; have BK125 := n0_; have BK126 := n1_; have BK132 := n2_; have HB := n3_; clear n0_ n1_ n2_ n3_; (try clear hb); (try clear hb2); (try clear hk); (try clear hi)))
   go_loopg [18] k (fun kq v18 w' => ∃ (x18_1 : Int), v18 = .int .i64 x18_1 ∧ Aside0 (reevelaw08_WindowWhen.l0 kq a3 l4 ji13 1099511627777 x18_1 a0_0 a0_1 a0_2 a0_3 a0_4 a0_5 a0_6 a0_7 a0_8 a0_9 a1_0 l1_1 = some r) ∧ Aside0 (kq ≤ k) ∧ Aside0 (w'.heap[gb125]? = some (.cells #[.int .i64 a0_0, .int .i64 a0_1, .int .i64 a0_2, .int .i64 a0_3, .int .i64 a0_4, .int .i64 a0_5, .int .i64 a0_6, .int .i64 a0_7, .int .i64 a0_8, .int .i64 a0_9] 23 (0, 0))) ∧ Aside0 (w'.heap[gb126]? = some (.cells #[.int .i64 a1_0, (.slice A1_1 l1_1.length c1_1)] 26 (0, 0))) ∧ Aside0 (w'.heap[gb132]? = some (.cells #[.int .i64 t128, .slice Ao63 (t129.length - 1) co63] 26 (0, 0))) ∧ Aside0 (Below w.heap.size w w'))
   case atStart => exact ⟨(0), (by first | rfl | (simp; done) | (simp [*]; done) | (simp [Int.tdiv_eq_ediv_of_nonneg]; done)), H', ⟨Nat.le_refl _⟩, ⟨by (with_reducible repeat (first | refine blk_drewN ?_ _ | refine blk_drew ?_ | refine blk_alloc ?_ _)); exact BK125.out⟩, ⟨by (with_reducible repeat (first | refine blk_drewN ?_ _ | refine blk_drew ?_ | refine blk_alloc ?_ _)); exact BK126.out⟩, ⟨by (with_reducible repeat (first | refine blk_drewN ?_ _ | refine blk_drew ?_ | refine blk_alloc ?_ _)); exact BK132.out⟩, ⟨by repeat (first | (with_reducible first | exact HB.out | apply below_alloc | apply pw_below_drewN | apply below_drew1 | refine below_set ?_ GE125.out | refine below_set ?_ GE126.out | refine below_set ?_ GE132.out) | exact HB.out)⟩⟩
   case round =>
    clear H'
    try clear c1
    try clear p1
    try clear q1
    try clear hx1
    try clear c2
    try clear p2
    try clear c4
    try clear c5
    try clear c6
    try clear p6
    try clear c8
    try clear c9
    try clear c11
    try clear c11b0
    try clear c11b1
    try clear c12
    try clear c14
    try clear c14b0
    try clear p14
    try clear q14
    try clear hx14
    try clear c17
    try clear c18
    try clear c18b0
    try clear c22
    try clear c26
    try clear c27
    try clear c42
    try clear c42b0
    try clear c43
    try clear c43b0
    try clear c44
    try clear c44b0
    try clear c45
    try clear c45b0
    try clear c45b1
    try clear c48
    try clear c56
    try clear c60
    try clear c61
    try clear p64
    try clear hcz23_0
    try clear hcz23_1
    try clear hcz28_0
    try clear hcz28_1
    try clear hcz30_0
    try clear hcz30_1
    try clear hcz30_2
    try clear hcz30_3
    try clear hcz30_4
    try clear hcz30_5
    try clear hcz30_6
    try clear hcz30_7
    try clear hcz30_8
    try clear hcz30_9
    try clear hcz32_0
    try clear hcz32_1
    try clear hcz33_0
    try clear hcz33_1
    try clear hcz35_0
    try clear hcz35_1
    try clear hcz35_2
    try clear hcz35_3
    try clear hcz35_4
    try clear hcz35_5
    try clear hcz35_6
    try clear hcz35_7
    try clear hcz35_8
    try clear hcz35_9
    try clear hcz36_0
    try clear hcz36_1
    try clear hcz57_0
    try clear hcz57_1
    try clear hcz62_0
    try clear hcz62_1
    try clear hcz64_0
    try clear hcz64_1
    try clear hcz64_2
    try clear hcz64_3
    try clear hcz64_4
    try clear hcz64_5
    try clear hcz64_6
    try clear hcz64_7
    try clear hcz64_8
    try clear hcz64_9
    try clear hcz66_0
    try clear hcz66_1
    try clear hcz67_0
    try clear hcz67_1
    try clear hcz69_0
    try clear hcz69_1
    try clear hcz69_2
    try clear hcz69_3
    try clear hcz69_4
    try clear hcz69_5
    try clear hcz69_6
    try clear hcz69_7
    try clear hcz69_8
    try clear hcz69_9
    try clear hcz70_0
    try clear hcz70_1
    try clear hfz23_0
    try clear hfz23_1
    try clear hfz28_0
    try clear hfz28_1
    try clear hfz30_0
    try clear hfz30_1
    try clear hfz30_2
    try clear hfz30_3
    try clear hfz30_4
    try clear hfz30_5
    try clear hfz30_6
    try clear hfz30_7
    try clear hfz30_8
    try clear hfz30_9
    try clear hfz32_0
    try clear hfz32_1
    try clear hfz33_0
    try clear hfz33_1
    try clear hfz35_0
    try clear hfz35_1
    try clear hfz35_2
    try clear hfz35_3
    try clear hfz35_4
    try clear hfz35_5
    try clear hfz35_6
    try clear hfz35_7
    try clear hfz35_8
    try clear hfz35_9
    try clear hfz36_0
    try clear hfz36_1
    try clear hfz57_0
    try clear hfz57_1
    try clear hfz62_0
    try clear hfz62_1
    try clear hfz64_0
    try clear hfz64_1
    try clear hfz64_2
    try clear hfz64_3
    try clear hfz64_4
    try clear hfz64_5
    try clear hfz64_6
    try clear hfz64_7
    try clear hfz64_8
    try clear hfz64_9
    try clear hfz66_0
    try clear hfz66_1
    try clear hfz67_0
    try clear hfz67_1
    try clear hfz69_0
    try clear hfz69_1
    try clear hfz69_2
    try clear hfz69_3
    try clear hfz69_4
    try clear hfz69_5
    try clear hfz69_6
    try clear hfz69_7
    try clear hfz69_8
    try clear hfz69_9
    try clear hfz70_0
    try clear hfz70_1
    try clear hx141_0
    try clear p141
    try clear p2
    try clear q141
    obtain ⟨x18_1, rfl, HA, HK1, BK125, BK126, BK132, HB⟩ := hrel
    cases gk with
    | zero => exact absurd HA.out (by simp [reevelaw08_WindowWhen.l0])
    | succ k1 =>
     have H := HA.out
     clear HA
     simp only [reevelaw08_WindowWhen.l0] at H
     by_cases c72 : x18_1 < (l4.length : Int)
     ·rw [if_pos c72] at H
      have c72b0 : decide (x18_1 < (l4.length : Int)) = true := decide_eq_true c72
      clear c72
      by_cases c73 : 1099511627777 > ji13
      ·rw [if_pos c73] at H
       have c73b0 : decide (ji13 < 1099511627777) = true := decide_eq_true c73
       clear c73
       by_cases c74 : 0 ≤ x18_1
       ·rw [if_pos c74] at H
        have c74b0 : decide (0 ≤ x18_1) = true := decide_eq_true c74
        clear c74
        by_cases c75 : (wrap64 (1099511627777 - ji13)) = 0
        ·rw [if_pos c75] at H
         exact absurd H (by simp)
        ·rw [if_neg c75] at H
         have c75b0 : ((wrap64 (1099511627777 - ji13)) == 0) = false := beq_eq_false_iff_ne.mpr c75
         have c75b1 : ((wrap64 (1099511627777 - ji13)) != 0) = true := bne_iff_ne.mpr c75
         replace H := Option.bind_eq_some_iff.mp H
         obtain ⟨⟨t142, t143⟩, A760, H⟩ := H
         replace H : ((window_May.f a0_0 a0_1 a0_2 a0_3 a0_4 a0_5 a0_6 a0_7 a0_8 a0_9 t142 t143 a3).bind fun t146 => (if t146 = true then (none) else (reevelaw08_WindowWhen.l0 k1 a3 l4 ji13 1099511627777 (wrap64 (x18_1 + 1)) a0_0 a0_1 a0_2 a0_3 a0_4 a0_5 a0_6 a0_7 a0_8 a0_9 a1_0 l1_1))) = some r := H
         have A76 := Aside0.mk A760
         clear A760
         replace H := Option.bind_eq_some_iff.mp H
         obtain ⟨t146, A770, H⟩ := H
         replace H : (if t146 = true then (none) else (reevelaw08_WindowWhen.l0 k1 a3 l4 ji13 1099511627777 (wrap64 (x18_1 + 1)) a0_0 a0_1 a0_2 a0_3 a0_4 a0_5 a0_6 a0_7 a0_8 a0_9 a1_0 l1_1)) = some r := H
         have A77 := Aside0.mk A770
         clear A770
         by_cases c78 : t146 = true
         ·subst c78
          have H1 : (none) = some r := by rw [if_pos rfl] at H; exact H
          clear H
          have H := H1
          clear H1
          exact absurd H (by simp)
         ·replace c78 := Bool.eq_false_iff.mpr c78
          subst c78
          have H1 : (reevelaw08_WindowWhen.l0 k1 a3 l4 ji13 1099511627777 (wrap64 (x18_1 + 1)) a0_0 a0_1 a0_2 a0_3 a0_4 a0_5 a0_6 a0_7 a0_8 a0_9 a1_0 l1_1) = some r := by rw [if_neg (show ¬ (false = true) by decide)] at H; exact H
          clear H
          have H := H1
          clear H1
          have H' := Aside0.mk H
          clear H
          have p141 : 0 ≤ (x18_1 : Int) := of_decide_eq_true (by first | (with_reducible assumption) | assumption)
          have q141 : x18_1 < (l4.length : Int) := of_decide_eq_true (by first | (with_reducible assumption) | assumption)
          obtain ⟨ad141, e141, hx141_0⟩ := Kd.at_int HR4.out x18_1 p141 q141
          cases e141
          replace hx141_0 := (HB.out.cell (World.block_lt_of_cell? w _ hx141_0)).trans hx141_0
          replace p141 := eq_true p141
          replace q141 := eq_true q141
          try go_wp2
          have n0_ := Aside0.mk (blk_drew BK125.out)
          have n1_ := Aside0.mk (blk_drew BK126.out)
          have n2_ := Aside0.mk (blk_drew BK132.out)
          have n3_ := Aside0.mk (below_drew1 HB.out)
          clear BK125
          clear BK126
          clear BK132
          clear HB
          have BK125 := n0_
          have BK126 := n1_
          have BK132 := n2_
          have HB := n3_
          clear n0_ n1_ n2_ n3_
          refine start_ (n := 8) (S := fun w' => w'.cell? ⟨gb125, 0, none⟩ = some (.int .i64 a0_0) ∧ w'.cell? ⟨gb125, 1, none⟩ = some (.int .i64 a0_1) ∧ w'.cell? ⟨gb125, 2, none⟩ = some (.int .i64 a0_2) ∧ w'.cell? ⟨gb125, 3, none⟩ = some (.int .i64 a0_3) ∧ w'.cell? ⟨gb125, 4, none⟩ = some (.int .i64 a0_4) ∧ w'.cell? ⟨gb125, 5, none⟩ = some (.int .i64 a0_5) ∧ w'.cell? ⟨gb125, 6, none⟩ = some (.int .i64 a0_6) ∧ w'.cell? ⟨gb125, 7, none⟩ = some (.int .i64 a0_7) ∧ w'.cell? ⟨gb125, 8, none⟩ = some (.int .i64 a0_8) ∧ w'.cell? ⟨gb125, 9, none⟩ = some (.int .i64 a0_9) ∧ w'.cell? ⟨gb126, 0, none⟩ = some (.int .i64 a1_0) ∧ w'.cell? ⟨gb126, 1, none⟩ = some (.slice A1_1 l1_1.length c1_1)) (ds := []) #[false, false, false, false, false, false, false, false] (by kernel_rfl) rfl rfl ⟨(blk_cell BK125.out 0).trans rfl, (blk_cell BK125.out 1).trans rfl, (blk_cell BK125.out 2).trans rfl, (blk_cell BK125.out 3).trans rfl, (blk_cell BK125.out 4).trans rfl, (blk_cell BK125.out 5).trans rfl, (blk_cell BK125.out 6).trans rfl, (blk_cell BK125.out 7).trans rfl, (blk_cell BK125.out 8).trans rfl, (blk_cell BK125.out 9).trans rfl, (blk_cell BK126.out 0).trans rfl, (blk_cell BK126.out 1).trans rfl⟩ (fun hHeld => ?_); refine with_tabW reevelaw08_WindowWhen.tab18 reevelaw08_WindowWhen.bits18 (fun HT_ HW_ => ?_)
          generalize wr.drew = w79 at BK125 BK126 BK132 HB hHeld ⊢
          refine pure_ (i := 3) (N := some 92) (v := ?_) (a' := ?_) #[false, false, false, true, false, false, false, false] rfl rfl (any_of HT_.out (by kernel_rfl)) (fun _ _ _ h => h) (Or.inl ⟨by rfl, ?_⟩) ?_ ?_
          rotate_left
          ·intro w'
           go_simp
           with_reducible rfl
          rotate_left
          ·simp only [Act.put, List.setIfInBounds_toArray, List.set_cons_zero, List.set_cons_succ, i64_w, i32_w]
           rfl
          refine pure_ (i := 5) (N := some 94) (v := ?_) (a' := ?_) #[false, false, false, true, false, true, false, false] rfl rfl (any_of HT_.out (by kernel_rfl)) (fun _ _ _ h => h) (Or.inl ⟨by rfl, ?_⟩) ?_ ?_
          rotate_left
          ·intro w'
           go_simp
           with_reducible rfl
          rotate_left
          ·simp only [Act.put, List.setIfInBounds_toArray, List.set_cons_zero, List.set_cons_succ, i64_w, i32_w]
           rfl
          refine take_ (i := 0) (N := some 89) (v := ?_) (a' := ?_) #[true, false, false, true, false, true, false, false] rfl rfl (take_ofW HT_.out HW_.out (by kernel_rfl)) (fun _ _ _ h => h) (Or.inl ⟨by rfl, ?_⟩) hHeld ?_ ?_
          rotate_left
          ·rintro w' ⟨s0, s1, s2, s3, s4, s5, s6, s7, s8, s9, s10, s11⟩
           go_simp
           with_reducible rfl
          rotate_left
          ·simp only [Act.put, List.setIfInBounds_toArray, List.set_cons_zero, List.set_cons_succ, i64_w, i32_w]
           rfl
          refine take_ (i := 1) (N := some 90) (v := ?_) (a' := ?_) #[true, true, false, true, false, true, false, false] rfl rfl (take_ofW HT_.out HW_.out (by kernel_rfl)) (fun _ _ _ h => h) (Or.inl ⟨by rfl, ?_⟩) hHeld ?_ ?_
          rotate_left
          ·rintro w' ⟨s0, s1, s2, s3, s4, s5, s6, s7, s8, s9, s10, s11⟩
           go_simp
           with_reducible rfl
          rotate_left
          ·simp only [Act.put, List.setIfInBounds_toArray, List.set_cons_zero, List.set_cons_succ, i64_w, i32_w]
           rfl
          refine take_ (i := 2) (N := some 91) (v := ?_) (a' := ?_) #[true, true, true, true, false, true, false, false] rfl rfl (take_ofW HT_.out HW_.out (by kernel_rfl)) (fun _ _ _ h => h) (Or.inl ⟨by rfl, ?_⟩) hHeld ?_ ?_
          rotate_left
          ·rintro w' ⟨s0, s1, s2, s3, s4, s5, s6, s7, s8, s9, s10, s11⟩
           go_simp
           with_reducible rfl
          rotate_left
          ·simp only [Act.put, List.setIfInBounds_toArray, List.set_cons_zero, List.set_cons_succ, i64_w, i32_w]
           rfl
          refine one_ (i := 4) (N := some 93) #[true, true, true, true, true, true, false, false] rfl rfl (one_of HT_.out (by kernel_rfl)) (by decide) (fun K hK => ?_)
          refine goes_ Try.func11 (by kernel_rfl) rfl #[.agg #[.int .i64 a0_0, .int .i64 a0_1, .int .i64 a0_2, .int .i64 a0_3, .int .i64 a0_4, .int .i64 a0_5, .int .i64 a0_6, .int .i64 a0_7, .int .i64 a0_8, .int .i64 a0_9], .agg #[.int .i64 a1_0, .slice A1_1 l1_1.length c1_1], .int .i64 (wrap64 (ji13 + (Int.tmod (Go.bits .and .i64 (rd l4 x18_1) 1125899906842623) (wrap64 (1099511627777 - ji13)))))] (by rfl) rfl rfl (by (try simp only [List.map_toArray, List.map_cons, List.map_nil]); first | done | (simp only [hji13]; rfl) | rfl | (have hwr_ : wrap64 (1099511627777 - ji13) = 1099511627777 - ji13 := Go.Proofs.YtkcnenekmjgmgaaS.w64 (by (rw [← hji13]; unfold mn; (repeat' split) <;> omega)) (by (rw [← hji13]; unfold mn; (repeat' split) <;> omega)); rw [hwr_]; rfl) | (simp only [List.length_drop, List.length_take]; rfl)) ?_
          with_reducible refine (window_Move.calls a0_0 a0_1 a0_2 a0_3 a0_4 a0_5 a0_6 a0_7 a0_8 a0_9 a1_0 _ _ l1_1 (wrap64 (ji13 + (Int.tmod (Go.bits .and .i64 (rd l4 x18_1) 1125899906842623) (wrap64 (1099511627777 - ji13))))) t142 t143 _ ?side1 ?side2 A76.out).mono ?_
          (case side1 => repeat (first | exact (Kd.C_below HR1_1.out HB.out) | (with_reducible refine Kd.C_alloc ?_ _) | (with_reducible refine Kd.C_drewN ?_ _) | (with_reducible refine Kd.C_drew ?_)))
          (case side2 => exact HC1_1.out)
          rintro e w80 ⟨v144, rfl, ho0, hb⟩
          refine ⟨_, rfl, ?_⟩
          have n0_ := Aside0.mk (Kd.R_lower ho0 (below_size (by repeat (first | (with_reducible first | exact HB.out | apply below_alloc | apply pw_below_drewN | apply below_drew1 | refine below_set ?_ GE125.out | refine below_set ?_ GE126.out | refine below_set ?_ GE132.out) | exact HB.out))))
          have n1_ := Aside0.mk (blk_below (g := gb125) (o := .cells #[.int .i64 a0_0, .int .i64 a0_1, .int .i64 a0_2, .int .i64 a0_3, .int .i64 a0_4, .int .i64 a0_5, .int .i64 a0_6, .int .i64 a0_7, .int .i64 a0_8, .int .i64 a0_9] 23 (0, 0)) (by (with_reducible repeat (first | refine blk_drewN ?_ _ | refine blk_drew ?_ | refine blk_alloc ?_ _)); exact BK125.out) hb)
          have n2_ := Aside0.mk (blk_below (g := gb126) (o := .cells #[.int .i64 a1_0, .slice A1_1 l1_1.length c1_1] 26 (0, 0)) (by (with_reducible repeat (first | refine blk_drewN ?_ _ | refine blk_drew ?_ | refine blk_alloc ?_ _)); exact BK126.out) hb)
          have n3_ := Aside0.mk (blk_below (g := gb132) (o := .cells #[.int .i64 t128, .slice Ao63 (t129.length - 1) co63] 26 (0, 0)) (by (with_reducible repeat (first | refine blk_drewN ?_ _ | refine blk_drew ?_ | refine blk_alloc ?_ _)); exact BK132.out) hb)
          have n4_ := Aside0.mk (below_step (by repeat (first | (with_reducible first | exact HB.out | apply below_alloc | apply pw_below_drewN | apply below_drew1 | refine below_set ?_ GE125.out | refine below_set ?_ GE126.out | refine below_set ?_ GE132.out) | exact HB.out)) hb)
          clear BK125
          clear BK126
          clear BK132
          clear HB
          have HO145 := n0_
          have BK125 := n1_
          have BK126 := n2_
          have BK132 := n3_
          have HB := n4_
          clear n0_ n1_ n2_ n3_ n4_
          (try clear hb)
          (try clear hb2)
          (try clear hk)
          (try clear hi)
          (try clear ho0)
          obtain ⟨Ao81, co81, eo81⟩ := Kd.R_slice HO145.out
          (first | subst eo81 | (injection eo81 with f1_ f2_ f3_; have f4_ := f1_.symm; have f5_ := f3_.symm; clear f1_ f2_ f3_; subst f4_; subst f5_))
          refine hK.out _ _ ⟨(blk_cell BK125.out 0).trans rfl, (blk_cell BK125.out 1).trans rfl, (blk_cell BK125.out 2).trans rfl, (blk_cell BK125.out 3).trans rfl, (blk_cell BK125.out 4).trans rfl, (blk_cell BK125.out 5).trans rfl, (blk_cell BK125.out 6).trans rfl, (blk_cell BK125.out 7).trans rfl, (blk_cell BK125.out 8).trans rfl, (blk_cell BK125.out 9).trans rfl, (blk_cell BK126.out 0).trans rfl, (blk_cell BK126.out 1).trans rfl⟩ (fun hHeld => ?_)
          clear hK K
          refine norm_ (a' := ?_) ?_ ?_
          rotate_left
          ·show Act.put _ (some 93) _ = _
           simp only [Act.put, List.setIfInBounds_toArray, List.set_cons_zero, List.set_cons_succ, i64_w, i32_w]
           rfl
          refine one_ (i := 6) (N := some 95) #[true, true, true, true, true, true, true, false] rfl rfl (one_of HT_.out (by kernel_rfl)) (by decide) (fun K hK => ?_)
          refine goes_ Try.func12 (by kernel_rfl) rfl #[.agg #[.int .i64 a0_0, .int .i64 a0_1, .int .i64 a0_2, .int .i64 a0_3, .int .i64 a0_4, .int .i64 a0_5, .int .i64 a0_6, .int .i64 a0_7, .int .i64 a0_8, .int .i64 a0_9], .agg #[.int .i64 t142, .slice Ao81 t143.length co81], .int .i64 a3] (by rfl) rfl rfl (by (try simp only [List.map_toArray, List.map_cons, List.map_nil]); first | done | rfl | (simp only [List.length_drop, List.length_take]; rfl)) ?_
          with_reducible refine (window_May.calls a0_0 a0_1 a0_2 a0_3 a0_4 a0_5 a0_6 a0_7 a0_8 a0_9 t142 _ _ t143 a3 false _ ?side1 ?side2 A77.out).mono ?_
          (case side1 => repeat (first | exact (Kd.R_reads' HO145.out).2.2 | (with_reducible refine Kd.C_alloc ?_ _) | (with_reducible refine Kd.C_drewN ?_ _) | (with_reducible refine Kd.C_drew ?_)))
          (case side2 => exact (Kd.R_reads' HO145.out).2.1)
          rintro e w82 ⟨rfl, hb⟩
          refine ⟨_, rfl, ?_⟩
          have n0_ := Aside0.mk (Kd.R_below (by (with_reducible repeat (first | apply Kd.R_alloc | apply Kd.R_drewN | apply Kd.R_drew)); exact HO145.out) hb)
          have n1_ := Aside0.mk (blk_below (g := gb125) (o := .cells #[.int .i64 a0_0, .int .i64 a0_1, .int .i64 a0_2, .int .i64 a0_3, .int .i64 a0_4, .int .i64 a0_5, .int .i64 a0_6, .int .i64 a0_7, .int .i64 a0_8, .int .i64 a0_9] 23 (0, 0)) (by (with_reducible repeat (first | refine blk_drewN ?_ _ | refine blk_drew ?_ | refine blk_alloc ?_ _)); exact BK125.out) hb)
          have n2_ := Aside0.mk (blk_below (g := gb126) (o := .cells #[.int .i64 a1_0, .slice A1_1 l1_1.length c1_1] 26 (0, 0)) (by (with_reducible repeat (first | refine blk_drewN ?_ _ | refine blk_drew ?_ | refine blk_alloc ?_ _)); exact BK126.out) hb)
          have n3_ := Aside0.mk (blk_below (g := gb132) (o := .cells #[.int .i64 t128, .slice Ao63 (t129.length - 1) co63] 26 (0, 0)) (by (with_reducible repeat (first | refine blk_drewN ?_ _ | refine blk_drew ?_ | refine blk_alloc ?_ _)); exact BK132.out) hb)
          have n4_ := Aside0.mk (below_step (by repeat (first | (with_reducible first | exact HB.out | apply below_alloc | apply pw_below_drewN | apply below_drew1 | refine below_set ?_ GE125.out | refine below_set ?_ GE126.out | refine below_set ?_ GE132.out) | exact HB.out)) hb)
          clear HO145
          clear BK125
          clear BK126
          clear BK132
          clear HB
          have HO145 := n0_
          have BK125 := n1_
          have BK126 := n2_
          have BK132 := n3_
          have HB := n4_
          clear n0_ n1_ n2_ n3_ n4_
          (try clear hb)
          (try clear hb2)
          (try clear hk)
          (try clear hi)
          refine hK.out _ _ ⟨(blk_cell BK125.out 0).trans rfl, (blk_cell BK125.out 1).trans rfl, (blk_cell BK125.out 2).trans rfl, (blk_cell BK125.out 3).trans rfl, (blk_cell BK125.out 4).trans rfl, (blk_cell BK125.out 5).trans rfl, (blk_cell BK125.out 6).trans rfl, (blk_cell BK125.out 7).trans rfl, (blk_cell BK125.out 8).trans rfl, (blk_cell BK125.out 9).trans rfl, (blk_cell BK126.out 0).trans rfl, (blk_cell BK126.out 1).trans rfl⟩ (fun hHeld => ?_)
          clear hK K
          refine norm_ (a' := ?_) ?_ ?_
          rotate_left
          ·show Act.put _ (some 95) _ = _
           simp only [Act.put, List.setIfInBounds_toArray, List.set_cons_zero, List.set_cons_succ, i64_w, i32_w]
           rfl
          refine pure_ (i := 7) (N := some 20) (v := ?_) (a' := ?_) #[true, true, true, true, true, true, true, true] rfl rfl (any_of HT_.out (by kernel_rfl)) (fun _ _ _ h => h) (Or.inl ⟨by rfl, ?_⟩) ?_ ?_
          rotate_left
          ·intro w'
           go_simp
           with_reducible rfl
          rotate_left
          ·simp only [Act.put, List.setIfInBounds_toArray, List.set_cons_zero, List.set_cons_succ, i64_w, i32_w]
           rfl
          refine done_ (done_of HT_.out (by kernel_rfl)) ?_
          try go_wp2
          go_roundg k1
          case measure => have := HK1.out; omega
          case rel => exact ⟨(wrap64 (x18_1 + 1)), (by first | rfl | (simp; done) | (simp [*]; done) | (simp [Int.tdiv_eq_ediv_of_nonneg]; done)), H', ⟨by have := HK1.out; omega⟩, ⟨by (with_reducible repeat (first | refine blk_drewN ?_ _ | refine blk_drew ?_ | refine blk_alloc ?_ _)); exact BK125.out⟩, ⟨by (with_reducible repeat (first | refine blk_drewN ?_ _ | refine blk_drew ?_ | refine blk_alloc ?_ _)); exact BK126.out⟩, ⟨by (with_reducible repeat (first | refine blk_drewN ?_ _ | refine blk_drew ?_ | refine blk_alloc ?_ _)); exact BK132.out⟩, ⟨by repeat (first | (with_reducible first | exact HB.out | apply below_alloc | apply pw_below_drewN | apply below_drew1 | refine below_set ?_ GE125.out | refine below_set ?_ GE126.out | refine below_set ?_ GE132.out) | exact HB.out)⟩⟩
       ·rw [if_neg c74] at H
        exact absurd H (by simp)
      ·rw [if_neg c73] at H
       have c73b0 : decide (ji13 < 1099511627777) = false := decide_eq_false c73
       clear c73
       obtain rfl := Option.some.inj H
       go_wp2
       go_ret
       exact ⟨by first | rfl | (simp only [i64_w] <;> rfl) | (simp [errW_none, errW_some] <;> rfl) | (simp only [← hji12, ← hji13]; first | rfl | (simp [errW_none, errW_some] <;> rfl)) | (simp [*, errW_none, errW_some] <;> rfl), by repeat (first | (with_reducible first | exact HB.out | apply below_alloc | apply pw_below_drewN | apply below_drew1 | refine below_set ?_ GE125.out | refine below_set ?_ GE126.out | refine below_set ?_ GE132.out) | exact HB.out)⟩
     ·rw [if_neg c72] at H
      have c72b0 : decide (x18_1 < (l4.length : Int)) = false := decide_eq_false c72
      clear c72
      obtain rfl := Option.some.inj H
      go_wp2
      go_ret
      exact ⟨by first | rfl | (simp only [i64_w] <;> rfl) | (simp [errW_none, errW_some] <;> rfl) | (simp only [← hji12, ← hji13]; first | rfl | (simp [errW_none, errW_some] <;> rfl)) | (simp [*, errW_none, errW_some] <;> rfl), by repeat (first | (with_reducible first | exact HB.out | apply below_alloc | apply pw_below_drewN | apply below_drew1 | refine below_set ?_ GE125.out | refine below_set ?_ GE126.out | refine below_set ?_ GE132.out) | exact HB.out)⟩
 ·rw [if_neg c11] at H
  exact absurd H (by simp)

end Go.Proofs.YtkcnenekmjgmgaaZ
end

section
/- The law of When, told plainly: at the tick that When answers it may be taken, and at none ahead of it. -/
namespace Go.Proofs.YtkcnenekmjgmgaaS
open Go.Proofs.YtkcnenekmjgmgaaP Go.Proofs.YtkcnenekmjgmgaaZ
open Go.RowKit Go.Proofs.Ytkcnenekmjgmgaa Go.Proofs.YtkcnenekmjgmgaaW.PrintWords
set_option linter.unusedVariables false

theorem moveP_counts {p : Pol} (hm : meansW p = true) (s : Win) (t : Int) : moveP p s t = moveP p (countsN p s) t := by
  unfold moveP moveN
  rw [countsN_self hm (counts_good hm s)]
theorem gone_mono {p : Pol} (hm : meansW p = true) (c : Win) {a b : Int} (h : a ≤ b) : goneN p c a ≤ goneN p c b := by
  have := gridN_mono hm h
  unfold goneN
  omega
theorem may_no {p : Pol} (hm : meansW p = false) (s : Win) (c : Int) : mayW p s c = false := by simp [mayW, hm]

/-- What When answers: a tick from which on, or none. -/
theorem when_law (p : Pol) (s : Win) (tick cost : Int) :
    (0 ≤ whenP p s tick cost → mayW p (moveP p s (whenP p s tick cost)) cost = true ∧ clipI tick 1099511627776 ≤ whenP p s tick cost ∧ whenP p s tick cost ≤ 1099511627776) ∧
    (∀ k, clipI tick 1099511627776 ≤ k → k < (if 0 ≤ whenP p s tick cost then whenP p s tick cost else 1099511627777) → mayW p (moveP p s k) cost = false) := by
  have hcb := clipI_bound tick (m := 1099511627776) (by omega)
  cases hm : meansW p with
  | false =>
    have e : whenP p s tick cost = -1 := by simp [whenP, hm]
    rw [e]
    exact ⟨fun h => absurd h (by decide), fun k _ _ => may_no hm _ _⟩
  | true =>
    have hg := counts_good hm s
    have hmv := moveP_counts hm s
    have ew : whenP p s tick cost = whenC p (countsN p s) tick cost := by simp [whenP, hm]
    rw [ew]
    generalize countsN p s = c at hg hmv ⊢
    clear ew
    have hmay : ∀ t, mayW p (moveP p s t) cost = (within cost 1 1048576 && okK p c cost (goneN p c t)) := fun t => by rw [hmv]; exact may_at hm hg t cost
    simp only [hmay]
    clear hmay hmv
    unfold whenC
    have hb := meansW_bounds hm
    cases hw : (within cost 1 1048576 && decide (cost ≤ p.cap)) with
    | false =>
      rw [if_neg (by decide)]
      refine ⟨fun h => absurd h (by decide), fun k _ _ => ?_⟩
      rw [Bool.and_eq_false_iff] at hw ⊢
      rcases hw with h | h
      · exact Or.inl h
      · refine Or.inr ?_
        have := of_decide_eq_false h
        have := lft_bound c.l (goneN p c k)
        unfold okK
        exact decide_eq_false (by omega)
    | true =>
      rw [if_pos rfl]
      rw [Bool.and_eq_true, decide_eq_true_iff] at hw
      rw [hw.1]
      simp only [Bool.true_and]
      have hcap := hw.2
      have hw1 := Go.Proofs.Ytkcnenekmjgmgaa.within_iff.1 hw.1
      cases ho : okK p c cost (goneN p c tick) with
      | true =>
        rw [if_pos rfl, if_pos hcb.1]
        exact ⟨fun _ => ⟨by rw [gone_clip]; exact ho, Int.le_refl _, hcb.2⟩, fun k h1 h2 => absurd h2 (by omega)⟩
      | false =>
        rw [if_neg (by decide)]
        have hlen := hg.len
        have hkk : goneN p c tick < c.l.length := by
          rcases Nat.lt_or_ge (goneN p c tick) c.l.length with h | h
          · exact h
          · have : okK p c cost (goneN p c tick) = true := by
              unfold okK
              rw [lft_end h]
              exact decide_eq_true (by omega)
            rw [this] at ho
            exact absurd ho (by decide)
        have hend : okK p c cost (goneN p c tick + 1 + (c.l.length - goneN p c tick - 1)) = true := by
          unfold okK
          rw [lft_end (by omega)]
          exact decide_eq_true (by omega)
        have hok := lst_ok _ _ _ hend
        have hge := lst_ge (okK p c cost) (c.l.length - goneN p c tick - 1) (goneN p c tick + 1)
        have hbe := lst_below (okK p c cost) (c.l.length - goneN p c tick - 1) (goneN p c tick + 1)
        generalize lst (okK p c cost) (c.l.length - goneN p c tick - 1) (goneN p c tick + 1) = kk at hok hge hbe ⊢
        have hbb := begin_bound hm hg (k := kk) (by omega)
        have haf := fun t => begin_after hm (c := c) t (k := kk) (by omega)
        have haf1 := fun t => begin_after hm (c := c) t (k := kk + 1) (by omega)
        have hnext : (c.g + ((kk + 1 : Nat) : Int)) * p.width = (c.g + (kk : Int)) * p.width + p.width := by
          rw [show c.g + ((kk + 1 : Nat) : Int) = (c.g + (kk : Int)) + 1 by omega, Int.add_mul, Int.one_mul]
        simp only [hnext] at haf1
        unfold endT
        generalize (c.g + (kk : Int)) * p.width = q at hbb haf haf1 ⊢
        clear hnext
        refine ⟨fun h => ?_, fun k h1 h2 => ?_⟩
        · by_cases hq : q > 1099511627776
          · rw [if_pos hq] at h
            exact absurd h (by decide)
          · rw [if_neg hq] at h ⊢
            have hcq : clipI q 1099511627776 = q := clipI_mid hbb.1 (by omega)
            have h3 := haf q
            have h4 := haf1 q
            rw [hcq] at h3 h4
            have h5 := (haf tick)
            refine ⟨?_, by omega, by omega⟩
            rw [show goneN p c q = kk by omega]
            exact hok
        · have hk0 : goneN p c tick ≤ goneN p c k := by
            rw [← gone_clip]
            exact gone_mono hm c h1
          have hkm : k ≤ 1099511627776 := by
            by_cases hq : q > 1099511627776
            · rw [if_pos hq, if_neg (by decide)] at h2; omega
            · rw [if_neg hq, if_pos hbb.1] at h2; omega
          have hkq : k < q := by
            by_cases hq : q > 1099511627776
            · omega
            · rw [if_neg hq, if_pos hbb.1] at h2; exact h2
          have hck : clipI k 1099511627776 = k := clipI_mid (by omega) hkm
          have h3 := haf k
          rw [hck] at h3
          rcases Nat.eq_or_lt_of_le hk0 with h | h
          · rw [← h]; exact ho
          · exact hbe _ (by omega) (h3.1 hkq)

/-- 'x & (1<<50 - 1)' is a number from 0 on. -/
theorem mask50 (n : Int) : ∃ g : Int, Go.bits .and .i64 n 1125899906842623 = g ∧ 0 ≤ g ∧ g ≤ 1125899906842623 := by
  refine ⟨_, rfl, ?_⟩
  have e : Go.bits .and .i64 n 1125899906842623 = IntKind.i64.wrap ((BitVec.ofInt 64 n &&& BitVec.ofInt 64 1125899906842623).toNat : Int) := rfl
  have h : (BitVec.ofInt 64 n &&& BitVec.ofInt 64 1125899906842623).toNat ≤ 1125899906842623 := by
    rw [BitVec.toNat_and]
    exact Nat.le_trans Nat.and_le_right (by decide)
  rw [e, IntKind.wrap_i64]
  omega

theorem tries_loop (p : Pol) (s : Win) (cost a b : Int) (ha : 0 ≤ a) (hab : a ≤ b) (hb : b ≤ 1099511627777) (hno : ∀ k, a ≤ k → k < b → mayW p (moveP p s k) cost = false) (l : List Int) (hl : l.length ≤ 9223372036854775807) :
    ∀ (d i : Nat), l.length - i = d → i ≤ l.length → Ev (fun k => reevelaw08_WindowWhen.l0 k cost l a b (i : Int) p.k p.cap p.num p.den p.width p.count p.keys p.slots p.every p.seg s.g s.l) true := by
  intro d
  induction d with
  | zero =>
    intro i hd hi
    refine ev_now fun k => ?_
    simp only [reevelaw08_WindowWhen.l0]
    rw [if_neg (by omega)]
  | succ d ih =>
    intro i hd hi
    by_cases hlt : b > a
    · have ih' := ih (i + 1) (by omega) (by omega)
      refine Ev.step (fun k => ?_) ih'
      simp only [reevelaw08_WindowWhen.l0]
      have e1 : wrap64 (b - a) = b - a := w64 (by omega) (by omega)
      obtain ⟨g, hg, hg0, hg1⟩ := mask50 (rd l (i : Int))
      have hr0 : 0 ≤ Int.tmod g (b - a) := Int.tmod_nonneg _ hg0
      have hr1 : Int.tmod g (b - a) < b - a := Int.tmod_lt_of_pos _ (by omega)
      have e2 : wrap64 ((i : Int) + 1) = ((i + 1 : Nat) : Int) := by
        clear e1
        exact (w64 (by omega) (by omega)).trans (by omega)
      rw [if_pos (by clear e1 e2; omega), if_pos hlt, if_pos (by clear e1 e2; omega), e1, if_neg (by clear e1 e2; omega), hg, e2]
      generalize Int.tmod g (b - a) = r at hr0 hr1 ⊢
      have e3 : wrap64 (a + r) = a + r := by
        clear e1 e2
        exact w64 (by omega) (by omega)
      rw [e3]
      unfold Go.Proofs.YtkcnenekmjgmgaaP.window_Move.f Go.Proofs.YtkcnenekmjgmgaaP.window_May.f
      simp only [Option.bind_some]
      have hn := hno (a + r) (by clear e1 e2 e3; omega) (by clear e1 e2 e3; omega)
      rw [show mayW ⟨p.k, p.cap, p.num, p.den, p.width, p.count, p.keys, p.slots, p.every, p.seg⟩ ⟨(moveP ⟨p.k, p.cap, p.num, p.den, p.width, p.count, p.keys, p.slots, p.every, p.seg⟩ ⟨s.g, s.l⟩ (a + r)).g, (moveP ⟨p.k, p.cap, p.num, p.den, p.width, p.count, p.keys, p.slots, p.every, p.seg⟩ ⟨s.g, s.l⟩ (a + r)).l⟩ cost = false from hn, if_neg (by decide)]
    · refine ev_now fun k => ?_
      simp only [reevelaw08_WindowWhen.l0]
      rw [if_pos (by omega), if_neg hlt]

theorem from_clip (t : Int) : mn (mx t 0) 1099511627776 = clipI t 1099511627776 := by
  unfold clipI mn mx
  split <;> split <;> omega
theorem rd_mark (l : List Int) (x : Int) : rd (l ++ [x]) (l.length : Int) = x := by simp [rd]
theorem when_told (p : Pol) (s : Win) (tick cost : Int) (tries : List Int) (hs : s.l.length ≤ 17592186044000) (ht : tries.length ≤ 9223372036854775807) :
    Ev (fun k => reevelaw08_WindowWhen.f k p.k p.cap p.num p.den p.width p.count p.keys p.slots p.every p.seg s.g s.l tick cost tries) true := by
  have hlaw := when_law p s tick cost
  have hcb := clipI_bound tick (m := 1099511627776) (by omega)
  have hl := fun (b : Int) (h1 : clipI tick 1099511627776 ≤ b) (h2 : b ≤ 1099511627777) h3 => tries_loop p s cost (clipI tick 1099511627776) b hcb.1 h1 h2 h3 tries ht _ 0 rfl (Nat.zero_le _)
  have e0 : ∀ k, reevelaw08_WindowWhen.f k p.k p.cap p.num p.den p.width p.count p.keys p.slots p.every p.seg s.g s.l tick cost tries =
      if whenP p s tick cost ≥ 0 then (if mayW p (moveP p s (whenP p s tick cost)) cost = true then (if whenP p s tick cost < clipI tick 1099511627776 then none else reevelaw08_WindowWhen.l0 k cost tries (clipI tick 1099511627776) (whenP p s tick cost) 0 p.k p.cap p.num p.den p.width p.count p.keys p.slots p.every p.seg s.g s.l) else none)
      else reevelaw08_WindowWhen.l0 k cost tries (clipI tick 1099511627776) 1099511627777 0 p.k p.cap p.num p.den p.width p.count p.keys p.slots p.every p.seg s.g s.l := fun k => by
    unfold reevelaw08_WindowWhen.f awake_ok.f lent_ok.f when_all.f kept_ok.f rwhen_all.f
    rw [if_pos hs]
    simp only [Option.bind_some, List.dropLast_concat]
    rw [if_pos ⟨by simp, hs, by simp [sameB], rd_mark _ _⟩]
    simp only [Option.bind_some, if_true, from_clip]
    rfl
  refine Ev.congr e0 ?_
  by_cases c : whenP p s tick cost ≥ 0
  · simp only [if_pos c]
    have h1 := hlaw.1 c
    simp only [if_pos h1.1]
    simp only [if_neg (show ¬ whenP p s tick cost < clipI tick 1099511627776 by omega)]
    have h2 := hlaw.2
    rw [if_pos c] at h2
    exact hl _ h1.2.1 (by omega) h2
  · simp only [if_neg c]
    have h2 := hlaw.2
    rw [if_neg c] at h2
    exact hl _ (by omega) (by omega) h2
end Go.Proofs.YtkcnenekmjgmgaaS
end

section
/- A policy as an argument: what it reads as, opened and shut. -/
namespace Go.Proofs.Ytkcnenekmjgmgaa
open Go.Joins Go.ChangeShapes Go.WideShapes Go.RowKit Go.Deep

theorem cells23 : Try.prog.cellsOf 23 = 10 := by kernel_rfl
theorem cells3 : Try.prog.cellsOf 3 = 1 := by kernel_rfl

/-- Its numbers fit. -/
def polWf (p : Pol) : Prop := (Lit.int .i64 p.k).wf = true ∧ (Lit.int .i64 p.cap).wf = true ∧ (Lit.int .i64 p.num).wf = true ∧ (Lit.int .i64 p.den).wf = true ∧ (Lit.int .i64 p.width).wf = true ∧ (Lit.int .i64 p.count).wf = true ∧ (Lit.int .i64 p.keys).wf = true ∧ (Lit.int .i64 p.slots).wf = true ∧ (Lit.int .i64 p.every).wf = true ∧ (Lit.int .i64 p.seg).wf = true

section
variable {H : Type} {enc : TypeId × Value → H} {w : World} {base : Nat} {spare : Nat → Bool} {held : Bool}
theorem open_pol {r : Reach} {b0 : Nat} {v : Value} {d : DataW H} {ps : List MemPlace} (hv : Value.okWide Try.prog w r b0 23 v) (h : DataW.Trod enc Try.prog w base spare held 23 v d ps) :
    ∃ p : Pol, v = .agg #[.int .i64 p.k, .int .i64 p.cap, .int .i64 p.num, .int .i64 p.den, .int .i64 p.width, .int .i64 p.count, .int .i64 p.keys, .int .i64 p.slots, .int .i64 p.every, .int .i64 p.seg] ∧
      d = .agg [.lit (.int .i64 p.k), .lit (.int .i64 p.cap), .lit (.int .i64 p.num), .lit (.int .i64 p.den), .lit (.int .i64 p.width), .lit (.int .i64 p.count), .lit (.int .i64 p.keys), .lit (.int .i64 p.slots), .lit (.int .i64 p.every), .lit (.int .i64 p.seg)] ∧ ps = [] ∧ polWf p := by
  obtain ⟨cs, rfl, hsz⟩ := okWide_struct Try.underlying23 hv
  obtain ⟨l⟩ := cs
  match l, hsz.trans cells23 with
  | [c0, c1, c2, c3, c4, c5, c6, c7, c8, c9], _ =>
    obtain ⟨fuel, hf⟩ := h
    obtain ⟨xs, n, _, hx, _, hlen, hg⟩ := DataW.trod_struct Try.underlying23 hf
    match xs, hlen with
    | [y0, y1, y2, y3, y4, y5, y6, y7, y8, y9], _ =>
      simp only [Prod.mk.injEq] at hx
      have g0 := hg 0 _ rfl
      have g1 := hg 1 _ rfl
      have g2 := hg 2 _ rfl
      have g3 := hg 3 _ rfl
      have g4 := hg 4 _ rfl
      have g5 := hg 5 _ rfl
      have g6 := hg 6 _ rfl
      have g7 := hg 7 _ rfl
      have g8 := hg 8 _ rfl
      have g9 := hg 9 _ rfl
      simp [Value.cells, cells3] at g0 g1 g2 g3 g4 g5 g6 g7 g8 g9
      obtain ⟨n0, e0, f0, w0⟩ := DataW.trod_int Try.underlying3 g0
      obtain ⟨n1, e1, f1, w1⟩ := DataW.trod_int Try.underlying3 g1
      obtain ⟨n2, e2, f2, w2⟩ := DataW.trod_int Try.underlying3 g2
      obtain ⟨n3, e3, f3, w3⟩ := DataW.trod_int Try.underlying3 g3
      obtain ⟨n4, e4, f4, w4⟩ := DataW.trod_int Try.underlying3 g4
      obtain ⟨n5, e5, f5, w5⟩ := DataW.trod_int Try.underlying3 g5
      obtain ⟨n6, e6, f6, w6⟩ := DataW.trod_int Try.underlying3 g6
      obtain ⟨n7, e7, f7, w7⟩ := DataW.trod_int Try.underlying3 g7
      obtain ⟨n8, e8, f8, w8⟩ := DataW.trod_int Try.underlying3 g8
      obtain ⟨n9, e9, f9, w9⟩ := DataW.trod_int Try.underlying3 g9
      simp at e0 e1 e2 e3 e4 e5 e6 e7 e8 e9
      subst e0 e1 e2 e3 e4 e5 e6 e7 e8 e9 f0 f1 f2 f3 f4 f5 f6 f7 f8 f9
      exact ⟨⟨n0, n1, n2, n3, n4, n5, n6, n7, n8, n9⟩, rfl, by simpa using hx.1, by simpa using hx.2, w0, w1, w2, w3, w4, w5, w6, w7, w8, w9⟩

theorem shut_pol {p : Pol} (h : polWf p) : DataW.Trod enc Try.prog w base spare held 23 (.agg #[.int .i64 p.k, .int .i64 p.cap, .int .i64 p.num, .int .i64 p.den, .int .i64 p.width, .int .i64 p.count, .int .i64 p.keys, .int .i64 p.slots, .int .i64 p.every, .int .i64 p.seg])
    (.agg [.lit (.int .i64 p.k), .lit (.int .i64 p.cap), .lit (.int .i64 p.num), .lit (.int .i64 p.den), .lit (.int .i64 p.width), .lit (.int .i64 p.count), .lit (.int .i64 p.keys), .lit (.int .i64 p.slots), .lit (.int .i64 p.every), .lit (.int .i64 p.seg)]) [] := by
  obtain ⟨w0, w1, w2, w3, w4, w5, w6, w7, w8, w9⟩ := h
  exact ⟨2, by simp [DataW.trod, Value.cells, Try.underlying23, Try.underlying3, cells23, cells3, w0, w1, w2, w3, w4, w5, w6, w7, w8, w9]⟩
end

theorem laidOut : laidOutB Try.prog = true := by kernel_rfl
theorem cells26 : Try.prog.cellsOf 26 = 2 := by kernel_rfl
theorem cells24 : Try.prog.cellsOf 24 = 1 := by kernel_rfl

theorem open_intlist {H : Type} {enc : TypeId × Value → H} {W : World} {v : Value} {y : DataW H × List MemPlace} {fuel : Nat} (hf : DataW.trod enc Try.prog W 0 (fun _ => true) true fuel 24 [v] = some y)
    (hlt : ∀ x ∈ y.2, x.block < W.heap.size) : ∃ (l : List Int) (A : Option Addr) (c : Nat), v = .slice A l.length c ∧ l.length ≤ 9223372036854775807 ∧ ReadIn W A l := by
  rcases open_ints Try.underlying24 Try.underlying3 cells3 hf with ⟨hcs, hx⟩ | ⟨a, len', cap', zs, hcs, _, hl, hm, hz, hx, hcell, hwz⟩
  · simp at hcs
    subst hcs
    exact ⟨[], none, 0, rfl, by simp, fun h => absurd h (by simp)⟩
  · simp at hcs
    subst hcs
    simp only [if_true] at hz
    subst hx
    unfold maxLen at hm
    have hll : (zs.take len').length = len' := by rw [List.length_take]; omega
    refine ⟨zs.take len', some a, cap', by rw [hll], by omega, fun hn => ?_⟩
    rw [hll] at hn
    obtain ⟨b, off, spot⟩ := a
    have hspot : spot = none := by simpa [Addr.add] using World.cell?_spot (hcell 0 (by omega))
    subst hspot
    have hbW : b < W.heap.size := hlt (.cell b off) (MemPlace.mem_row.2 ⟨0, by omega, by simp⟩)
    refine ⟨b, off, rfl, hbW, fun i hi => ?_⟩
    rw [hll] at hi
    have e : (zs.take len').getD i 0 = zs.getD i 0 := by simp [hi]
    rw [e, ← add_plain]
    exact hcell i (by omega)

theorem open_sums {H : Type} {enc : TypeId × Value → H} {W : World} {r : Reach} {b0 : Nat} {v : Value} {d : DataW H} {ps : List MemPlace} (hv : Value.okWide Try.prog W r b0 26 v) (h : DataW.Trod enc Try.prog W 0 (fun _ => true) true 26 v d ps)
    (hlt : ∀ x ∈ ps, x.block < W.heap.size) : ∃ (s : Win) (A : Option Addr) (c : Nat), v = .agg #[.int .i64 s.g, .slice A s.l.length c] ∧ s.l.length ≤ 9223372036854775807 ∧ ReadIn W A s.l := by
  obtain ⟨cs, rfl, hsz⟩ := okWide_struct Try.underlying26 hv
  obtain ⟨l⟩ := cs
  match l, hsz.trans cells26 with
  | [c0, c1], _ =>
    obtain ⟨fuel, hf⟩ := h
    obtain ⟨y0, y1, n, hx, _, g0, g1⟩ := trod_struct2 Try.underlying26 hf
    simp only [Prod.mk.injEq] at hx
    simp [Value.cells, cells3] at g0
    simp [Value.cells, cells24] at g1
    obtain ⟨n0, e0, f0, w0⟩ := DataW.trod_int Try.underlying3 g0
    simp at e0
    subst e0 f0
    obtain ⟨l, A, c, e, h1, h2⟩ := open_intlist g1 (fun x hx' => hlt x (by rw [hx.2]; simp [hx']))
    subst e
    exact ⟨⟨n0, l⟩, A, c, rfl, h1, h2⟩

end Go.Proofs.Ytkcnenekmjgmgaa
end

section
/- Slices of int and windows as arguments, with what they have room for. -/
namespace Go.Proofs.Ytkcnenekmjgmgaa
open Go.Joins Go.ChangeShapes Go.WideShapes Go.RowKit Go.Deep

theorem open_intcap {H : Type} {enc : TypeId × Value → H} {W : World} {v : Value} {y : DataW H × List MemPlace} {fuel : Nat} (hf : DataW.trod enc Try.prog W 0 (fun _ => true) true fuel 24 [v] = some y)
    (hlt : ∀ x ∈ y.2, x.block < W.heap.size) : ∃ (l : List Int) (A : Option Addr) (c : Nat), v = .slice A l.length c ∧ l.length ≤ 9223372036854775807 ∧ ReadIn W A l ∧ l.length ≤ c := by
  rcases open_ints Try.underlying24 Try.underlying3 cells3 hf with ⟨hcs, hx⟩ | ⟨a, len', cap', zs, hcs, _, hl, hm, hz, hx, hcell, hwz⟩
  · simp at hcs
    subst hcs
    exact ⟨[], none, 0, rfl, by simp, fun h => absurd h (by simp), Nat.le_refl _⟩
  · simp at hcs
    subst hcs
    simp only [if_true] at hz
    subst hx
    unfold maxLen at hm
    have hll : (zs.take len').length = len' := by rw [List.length_take]; omega
    refine ⟨zs.take len', some a, cap', by rw [hll], by omega, fun hn => ?_, by omega⟩
    rw [hll] at hn
    obtain ⟨b, off, spot⟩ := a
    have hspot : spot = none := by simpa [Addr.add] using World.cell?_spot (hcell 0 (by omega))
    subst hspot
    have hbW : b < W.heap.size := hlt (.cell b off) (MemPlace.mem_row.2 ⟨0, by omega, by simp⟩)
    refine ⟨b, off, rfl, hbW, fun i hi => ?_⟩
    rw [hll] at hi
    have e : (zs.take len').getD i 0 = zs.getD i 0 := by simp [hi]
    rw [e, ← add_plain]
    exact hcell i (by omega)
theorem open_listcap {H : Type} {enc : TypeId × Value → H} {W : World} {r : Reach} {b0 : Nat} {v : Value} {d : DataW H} {ps : List MemPlace} (hv : Value.okWide Try.prog W r b0 24 v) (h : DataW.Trod enc Try.prog W 0 (fun _ => true) true 24 v d ps)
    (hlt : ∀ x ∈ ps, x.block < W.heap.size) : ∃ (l : List Int) (A : Option Addr) (c : Nat), v = .slice A l.length c ∧ l.length ≤ 9223372036854775807 ∧ ReadIn W A l ∧ l.length ≤ c := by
  obtain ⟨a0, len, cap, rfl⟩ := okWide_slice Try.underlying24 hv
  obtain ⟨fuel, hf⟩ := h
  exact open_intcap (y := (d, ps)) (by simpa [Value.cells] using hf) hlt

theorem open_sumscap {H : Type} {enc : TypeId × Value → H} {W : World} {r : Reach} {b0 : Nat} {v : Value} {d : DataW H} {ps : List MemPlace} (hv : Value.okWide Try.prog W r b0 26 v) (h : DataW.Trod enc Try.prog W 0 (fun _ => true) true 26 v d ps)
    (hlt : ∀ x ∈ ps, x.block < W.heap.size) : ∃ (s : Win) (A : Option Addr) (c : Nat), v = .agg #[.int .i64 s.g, .slice A s.l.length c] ∧ s.l.length ≤ 9223372036854775807 ∧ ReadIn W A s.l ∧ s.l.length ≤ c := by
  obtain ⟨cs, rfl, hsz⟩ := okWide_struct Try.underlying26 hv
  obtain ⟨l⟩ := cs
  match l, hsz.trans cells26 with
  | [c0, c1], _ =>
    obtain ⟨fuel, hf⟩ := h
    obtain ⟨y0, y1, n, hx, _, g0, g1⟩ := trod_struct2 Try.underlying26 hf
    simp only [Prod.mk.injEq] at hx
    simp [Value.cells, cells3] at g0
    simp [Value.cells, cells24] at g1
    obtain ⟨n0, e0, f0, w0⟩ := DataW.trod_int Try.underlying3 g0
    simp at e0
    subst e0 f0
    obtain ⟨l, A, c, e, h1, h2, h3⟩ := open_intcap g1 (fun x hx' => hlt x (by rw [hx.2]; simp [hx']))
    subst e
    exact ⟨⟨n0, l⟩, A, c, rfl, h1, h2, h3⟩

end Go.Proofs.Ytkcnenekmjgmgaa
end

section
/- How long the numbers of a window can be. -/
namespace Go.Proofs.Ytkcnenekmjgmgaa
open Go.Joins Go.ChangeShapes Go.WideShapes Go.RowKit Go.Deep

theorem bytes3 : Try.prog.bytesOf 3 = 8 := by kernel_rfl
theorem sums_len {H : Type} {enc : TypeId × Value → H} {W : World} {g : Int} {A : Option Addr} {n c : Nat} {dw : DataW H} {ps : List MemPlace} (h : DataW.Trod enc Try.prog W 0 (fun _ => true) true 26 (.agg #[.int .i64 g, .slice A n c]) dw ps) :
    n = 0 ∨ ∃ (x : DataW H) (E S : List (DataW H)), dw = .agg [x, .slice E S] ∧ E.length = n := by
  obtain ⟨fuel, hf⟩ := h
  obtain ⟨y0, y1, k, hx, _, g0, g1⟩ := trod_struct2 Try.underlying26 hf
  simp only [Prod.mk.injEq] at hx
  simp [Value.cells, cells24] at g1
  rcases open_slice Try.underlying24 g1 with ⟨hcs, _⟩ | ⟨a, len, cap, m, k, D, Pl, hcs, _, _, _, _, hy, _⟩
  · simp at hcs
    exact Or.inl hcs.2.1
  · simp at hcs
    obtain ⟨rfl, rfl, rfl⟩ := hcs
    have h1 : y1.1 = _ := congrArg Prod.fst hy
    exact Or.inr ⟨_, _, _, by rw [hx.1, h1], by simp⟩
theorem sums_small {H : Type} {enc : TypeId × Value → H} {W : World} {g : Int} {A : Option Addr} {n c : Nat} {dw : DataW H} {ps : List MemPlace} {ts : List TypeId} {ds : List (DataW H)} {j : Nat} (h : DataW.Trod enc Try.prog W 0 (fun _ => true) true 26 (.agg #[.int .i64 g, .slice A n c]) dw ps)
    (hsz : (DataW.weightsEach Try.prog ts ds).all (· ≤ reachBytes) = true) (h0 : ts[j]? = some 26) (h1 : ds[j]? = some dw) : n ≤ 17592186044000 := by
  rcases sums_len h with h2 | ⟨x, E, S, e1, hE⟩
  · omega
  · subst e1
    have h3 := List.all_eq_true.1 hsz _ (DataW.weights_mem_each h0 h1 ((E.length + S.length) * Try.prog.bytesOf 3) (by simp [DataW.weights, Try.underlying26, DataW.weightsEach, Try.underlying24]))
    rw [bytes3] at h3
    simp at h3
    unfold reachBytes at h3
    omega
end Go.Proofs.Ytkcnenekmjgmgaa
end

section
/- WindowWhen as a call: it returns true. -/
namespace Go.Proofs.Ytkcnenekmjgmgaa
open Go.RowKit Go.Proofs.YtkcnenekmjgmgaaW.PrintWords

theorem kd_in {w : World} {A : Option Addr} {l : List Int} (hl : l.length ≤ 9223372036854775807) (h : ReadIn w A l) : Kd.C (Kd.int .i64) w A l.length l := by
  refine Kd.C_of_reads (enc := Value.int .i64) (d := 0) ⟨rfl, hl, fun h0 => ?_⟩
  obtain ⟨g, o, e, _, hc⟩ := h h0
  refine ⟨_, e, fun i hi => ?_⟩
  have e2 : (⟨g, o, none⟩ : Addr).add i = ⟨g, o + i, none⟩ := by unfold Addr.add; split <;> simp_all
  rw [e2]
  exact hc i hi

theorem whens_call (p : Pol) (s : Win) (A : Option Addr) (c : Nat) (tick cost : Int) (l : List Int) (B : Option Addr) (b : Nat) (w : World) (hn : s.l.length ≤ 17592186044000) (hl : s.l.length ≤ 9223372036854775807) (hrd : ReadIn w A s.l) (hc : s.l.length ≤ c)
    (ml : l.length ≤ 9223372036854775807) (hrl : ReadIn w B l) (hb : l.length ≤ b) :
    Calls Try.prog 8 #[.agg #[.int .i64 p.k, .int .i64 p.cap, .int .i64 p.num, .int .i64 p.den, .int .i64 p.width, .int .i64 p.count, .int .i64 p.keys, .int .i64 p.slots, .int .i64 p.every, .int .i64 p.seg], .agg #[.int .i64 s.g, .slice A s.l.length c], .int .i64 tick, .int .i64 cost, .slice B l.length b] w fun e w' => e = .returned (.bool true) ∧ Below w.heap.size w w' := by
  obtain ⟨k, hk⟩ := (YtkcnenekmjgmgaaS.when_told p s tick cost l hn ml).rounds
  exact YtkcnenekmjgmgaaZ.reevelaw08_WindowWhen.calls k _ _ _ _ _ _ _ _ _ _ _ _ _ _ _ _ _ _ _ _ _ (kd_in hl hrd) hc (kd_in ml hrl) hb hk
end Go.Proofs.Ytkcnenekmjgmgaa
end
