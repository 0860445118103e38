/- What the laws of layer 21 share, part 2. -/
import Derived.Test.YtkilnknndglmnaaK1

section
-- Laid by given.py, a program of this seat, with the kit's printer.
namespace Go.Proofs.YtkilnknndglmnaaP
open Go.Proofs.Ytkilnknndglmnaa (G fl IsS isSB okC okF okC_iff encC kcx at_cx md red run_cmul run_cadd run_csub run_fint lit_one lit_zero tdiv_32 run_store_cx)
attribute [local go_sem] run_cmul run_cadd run_csub run_fint lit_one lit_zero tdiv_32 run_store_cx
open Go.RowKit Go.Proofs.YtkilnknndglmnaaW.PrintWords Go.Proofs.YtkilnknndglmnaaW.PrintLast Go.Proofs.YtkilnknndglmnaaW.PrintMore
attribute [local go_sem] max2_int min2_int max_two min_two max_three min_three max_four min_four   -- for this text's walks alone
set_option linter.unusedVariables false
set_option linter.unusedSimpArgs false

/-! ### seal_Times: function 15 -/
def seal_Times.j0 : Nat → Bool → Int → Int → Int → Int → Option (Int × Int × Int)
 | 0, _, _, _, _, _ => none
 | k + 1, x13, x169000, x169001, x170000, x170001 => if x13 = true then (some (0, 0, 20)) else ((seal_number.f x169000 x169001).bind fun t173 => ((seal_number.f x170000 x170001).bind fun t174 => (if okC t173 t174 = true then ((seal_seal.f (G.mul t173 t174)).bind fun bt175 => (some (bt175.1, bt175.2, 0))) else (none))))
def seal_Times.f (k : Nat) (a0_0 : Int) (a0_1 : Int) (a1_0 : Int) (a1_1 : Int) : Option (Int × Int × Int) := (seal_Right.f a0_0 a0_1).bind fun t171 => (if t171 = true then ((seal_Right.f a1_0 a1_1).bind fun t172 => (seal_Times.j0 k (!t172) a0_0 a0_1 a1_0 a1_1)) else (seal_Times.j0 k true a0_0 a0_1 a1_0 a1_1))
theorem seal_Times.mono_l : ∀ k, (∀ y0 y1 y2 y3 y4, LeO (seal_Times.j0 k y0 y1 y2 y3 y4) (seal_Times.j0 (k + 1) y0 y1 y2 y3 y4))
 | 0 => fun _ _ _ _ _ r h => by simp [seal_Times.j0] at h
 | k + 1 => by
  have ih0 := seal_Times.mono_l k
  ·intro y0 y1 y2 y3 y4
   unfold seal_Times.j0
   repeat' first
   | (with_reducible exact ih0 _ _ _ _ _)
   | (with_reducible exact LeO.refl _)
   | (with_reducible exact LeO.none _)
   | (with_reducible refine LeO.ite ?_ ?_)
   | (with_reducible refine LeO.bind ?_ (fun _ => ?_))
   | exact ih0 _ _ _ _ _
   | exact LeO.none _
   | refine LeO.ite ?_ ?_
   | refine LeO.bind ?_ (fun _ => ?_)
theorem seal_Times.mono : ∀ a0 a1 a2 a3 k, LeO (seal_Times.f k a0 a1 a2 a3) (seal_Times.f (k + 1) a0 a1 a2 a3) := by
 intro a0 a1 a2 a3 k
 have ih0 := seal_Times.mono_l k
 unfold seal_Times.f
 repeat' first
   | (with_reducible exact ih0 _ _ _ _ _)
   | (with_reducible exact LeO.refl _)
   | (with_reducible exact LeO.none _)
   | (with_reducible refine LeO.ite ?_ ?_)
   | (with_reducible refine LeO.bind ?_ (fun _ => ?_))
   | exact ih0 _ _ _ _ _
   | exact LeO.none _
   | refine LeO.ite ?_ ?_
   | refine LeO.bind ?_ (fun _ => ?_)
def seal_Times.T3 : Bool × List (List Nat × List Nat) := (true, [([], []), ([0], [0]), ([], []), ([2, 1], [2]), ([1, 3], [1, 3]), ([4, 3], [4]), ([5, 5, 0, 1, 2, 3, 4, 5], [5]), ([6, 0, 1, 2, 3, 4, 5, 6], [])])
def seal_Times.B3 : List Nat := [0, 1, 0, 7, 15, 31, 63, 127]
theorem seal_Times.tab3 : rtab .any (opsOf Try.f15 3) = seal_Times.T3 := by kernel_rfl
theorem seal_Times.bits3 : waitsOk seal_Times.T3.2 seal_Times.B3 = true := by kernel_rfl
set_option maxHeartbeats 8000000 in
set_option maxRecDepth 100000 in
theorem seal_Times.calls (k : Nat) (a0_0 : Int) (a0_1 : Int) (a1_0 : Int) (a1_1 : Int) (r1 : Int) (r2 : Int) (r3 : Int) (w : World) (h : seal_Times.f k a0_0 a0_1 a1_0 a1_1 = some (r1, r2, r3)) :
  Calls Try.prog 15 #[.agg #[.int .i64 a0_0, .int .i64 a0_1], .agg #[.int .i64 a1_0, .int .i64 a1_1]] w fun e w' => e = .returned (.tuple #[.agg #[.int .i64 r1, .int .i64 r2], .int .i64 r3]) ∧ Below w.heap.size w w' := by
 have hu26 := Try.underlying26
 have HB := Aside0.mk (Below.refl w.heap.size w)
 have H : ((seal_Right.f a0_0 a0_1).bind fun t171 => (if t171 = true then ((seal_Right.f a1_0 a1_1).bind fun t172 => (seal_Times.j0 k (!t172) a0_0 a0_1 a1_0 a1_1)) else (seal_Times.j0 k true a0_0 a0_1 a1_0 a1_1))) = some (r1, r2, r3) := h
 clear h
 have HC3 := Aside0.mk H
 clear H
 go_enter Try.func15, Try.ntmps15
 go_upto_region 1 with (first | ((with_reducible refine gate_dst (N := 2) rfl ?_); refine box_event ?hg (N := 2) ?hd (cs := #[.int .i64 a0_0, .int .i64 a0_1]) (t := 26) ?hr ?_; (case hd => rfl); (case hg => rfl); (case hr => first | (go_simp; done) | (go_simp; rfl)); intro gb168 hg w4 hbox hb; have n0_ := Aside0.mk (below_step (by repeat (first | (with_reducible first | exact HB.out | apply below_alloc | apply pw_below_drewN | apply below_drew1) | exact HB.out)) hb); have n1_ := Aside0.mk (hbox); have n2_ := Aside0.mk ((by rw [hg]; exact (below_size (by repeat (first | (with_reducible first | exact HB.out | apply below_alloc | apply pw_below_drewN | apply below_drew1) | exact HB.out))) : w.heap.size ≤ gb168)); have n3_ := Aside0.mk ((by rw [hg]; exact (below_size (by repeat (first | (with_reducible first | exact HB.out | apply below_alloc | apply pw_below_drewN | apply below_drew1) | exact HB.out))) : w.heap.size ≤ gb168)); clear HB; have HB := n0_; have BK168 := n1_; have GW168 := n2_; have GE168 := n3_; clear n0_ n1_ n2_ n3_; clear hb hbox hg) | ((with_reducible refine gate_dst (N := 3) rfl ?_); refine box_event ?hg (N := 3) ?hd (cs := #[.int .i64 a1_0, .int .i64 a1_1]) (t := 26) ?hr ?_; (case hd => rfl); (case hg => rfl); (case hr => first | (go_simp; done) | (go_simp; rfl)); intro gb169 hg w5 hbox hb; have n0_ := Aside0.mk (blk_below (g := gb168) (o := .cells #[.int .i64 a0_0, .int .i64 a0_1] 26 (0, 0)) (by (with_reducible repeat (first | refine blk_drewN ?_ _ | refine blk_drew ?_ | refine blk_alloc ?_ _)); exact BK168.out) hb); have n1_ := Aside0.mk (below_step (by repeat (first | (with_reducible first | exact HB.out | apply below_alloc | apply pw_below_drewN | apply below_drew1 | refine below_set ?_ GE168.out) | exact HB.out)) hb); have n2_ := Aside0.mk (hbox); have n3_ := Aside0.mk ((by rw [hg]; exact (below_size (by repeat (first | (with_reducible first | exact HB.out | apply below_alloc | apply pw_below_drewN | apply below_drew1 | refine below_set ?_ GE168.out) | exact HB.out))) : w.heap.size ≤ gb169)); have n4_ := Aside0.mk ((by rw [hg]; exact (below_size (by repeat (first | (with_reducible first | exact HB.out | apply below_alloc | apply pw_below_drewN | apply below_drew1 | refine below_set ?_ GE168.out) | exact HB.out))) : w.heap.size ≤ gb169)); have n5_ := Aside0.mk ((by rw [hg]; exact Nat.ne_of_lt (blk_lt (g := gb168) (o := .cells #[.int .i64 a0_0, .int .i64 a0_1] 26 (0, 0)) (by (with_reducible repeat (first | refine blk_drewN ?_ _ | refine blk_drew ?_ | refine blk_alloc ?_ _)); exact BK168.out)) : gb168 ≠ gb169)); have n6_ := Aside0.mk ((by rw [hg]; exact Nat.ne_of_gt (blk_lt (g := gb168) (o := .cells #[.int .i64 a0_0, .int .i64 a0_1] 26 (0, 0)) (by (with_reducible repeat (first | refine blk_drewN ?_ _ | refine blk_drew ?_ | refine blk_alloc ?_ _)); exact BK168.out)) : gb169 ≠ gb168)); clear BK168; clear HB; have BK168 := n0_; have HB := n1_; have BK169 := n2_; have GW169 := n3_; have GE169 := n4_; have NB168_169 := n5_; have NB169_168 := n6_; clear n0_ n1_ n2_ n3_ n4_ n5_ n6_; clear hb hbox hg) | ((with_reducible refine gate_dst (N := 4) rfl ?_); refine box_event ?hg (N := 4) ?hd (cs := #[.int .i64 0, .int .i64 0]) (t := 26) ?hr ?_; (case hd => rfl); (case hg => rfl); (case hr => first | (go_simp; done) | (go_simp; rfl)); intro gb170 hg w6 hbox hb; have n0_ := Aside0.mk (blk_below (g := gb168) (o := .cells #[.int .i64 a0_0, .int .i64 a0_1] 26 (0, 0)) (by (with_reducible repeat (first | refine blk_drewN ?_ _ | refine blk_drew ?_ | refine blk_alloc ?_ _)); exact BK168.out) hb); have n1_ := Aside0.mk (blk_below (g := gb169) (o := .cells #[.int .i64 a1_0, .int .i64 a1_1] 26 (0, 0)) (by (with_reducible repeat (first | refine blk_drewN ?_ _ | refine blk_drew ?_ | refine blk_alloc ?_ _)); exact BK169.out) hb); have n2_ := Aside0.mk (below_step (by repeat (first | (with_reducible first | exact HB.out | apply below_alloc | apply pw_below_drewN | apply below_drew1 | refine below_set ?_ GE168.out | refine below_set ?_ GE169.out) | exact HB.out)) hb); have n3_ := Aside0.mk (hbox); have n4_ := Aside0.mk ((by rw [hg]; exact (below_size (by repeat (first | (with_reducible first | exact HB.out | apply below_alloc | apply pw_below_drewN | apply below_drew1 | refine below_set ?_ GE168.out | refine below_set ?_ GE169.out) | exact HB.out))) : w.heap.size ≤ gb170)); have n5_ := Aside0.mk ((by rw [hg]; exact (below_size (by repeat (first | (with_reducible first | exact HB.out | apply below_alloc | apply pw_below_drewN | apply below_drew1 | refine below_set ?_ GE168.out | refine below_set ?_ GE169.out) | exact HB.out))) : w.heap.size ≤ gb170)); have n6_ := Aside0.mk ((by rw [hg]; exact Nat.ne_of_lt (blk_lt (g := gb168) (o := .cells #[.int .i64 a0_0, .int .i64 a0_1] 26 (0, 0)) (by (with_reducible repeat (first | refine blk_drewN ?_ _ | refine blk_drew ?_ | refine blk_alloc ?_ _)); exact BK168.out)) : gb168 ≠ gb170)); have n7_ := Aside0.mk ((by rw [hg]; exact Nat.ne_of_gt (blk_lt (g := gb168) (o := .cells #[.int .i64 a0_0, .int .i64 a0_1] 26 (0, 0)) (by (with_reducible repeat (first | refine blk_drewN ?_ _ | refine blk_drew ?_ | refine blk_alloc ?_ _)); exact BK168.out)) : gb170 ≠ gb168)); have n8_ := Aside0.mk ((by rw [hg]; exact Nat.ne_of_lt (blk_lt (g := gb169) (o := .cells #[.int .i64 a1_0, .int .i64 a1_1] 26 (0, 0)) (by (with_reducible repeat (first | refine blk_drewN ?_ _ | refine blk_drew ?_ | refine blk_alloc ?_ _)); exact BK169.out)) : gb169 ≠ gb170)); have n9_ := Aside0.mk ((by rw [hg]; exact Nat.ne_of_gt (blk_lt (g := gb169) (o := .cells #[.int .i64 a1_0, .int .i64 a1_1] 26 (0, 0)) (by (with_reducible repeat (first | refine blk_drewN ?_ _ | refine blk_drew ?_ | refine blk_alloc ?_ _)); exact BK169.out)) : gb170 ≠ gb169)); clear BK168; clear BK169; clear HB; have BK168 := n0_; have BK169 := n1_; have HB := n2_; have BK170 := n3_; have GW170 := n4_; have GE170 := n5_; have NB168_170 := n6_; have NB170_168 := n7_; have NB169_170 := n8_; have NB170_169 := n9_; clear n0_ n1_ n2_ n3_ n4_ n5_ n6_ n7_ n8_ n9_; clear hb hbox hg))
 (try simp only [Act.put, List.setIfInBounds_toArray, List.set_cons_zero, List.set_cons_succ])
 go_cut [13] (fun v13 wc => ∃ (kq : Nat) (x13_2 : Bool), v13 = .bool x13_2 ∧ Aside0 (seal_Times.j0 kq x13_2 a0_0 a0_1 a1_0 a1_1 = some (r1, r2, r3)) ∧ Aside0 (kq ≤ k) ∧ Aside0 (wc.heap[gb168]? = some (.cells #[.int .i64 a0_0, .int .i64 a0_1] 26 (0, 0))) ∧ Aside0 (wc.heap[gb169]? = some (.cells #[.int .i64 a1_0, .int .i64 a1_1] 26 (0, 0))) ∧ Aside0 (wc.heap[gb170]? = some (.cells #[.int .i64 0, .int .i64 0] 26 (0, 0))) ∧ Aside0 (Below w.heap.size w wc))
 case first =>
  have H := HC3.out
  clear HC3
  replace H := Option.bind_eq_some_iff.mp H
  obtain ⟨t171, A70, H⟩ := H
  replace H : (if t171 = true then ((seal_Right.f a1_0 a1_1).bind fun t172 => (seal_Times.j0 k (!t172) a0_0 a0_1 a1_0 a1_1)) else (seal_Times.j0 k true a0_0 a0_1 a1_0 a1_1)) = some (r1, r2, r3) := H
  have A7 := Aside0.mk A70
  clear A70
  by_cases c8 : t171 = true
  ·subst c8
   have H1 : ((seal_Right.f a1_0 a1_1).bind fun t172 => (seal_Times.j0 k (!t172) a0_0 a0_1 a1_0 a1_1)) = some (r1, r2, r3) := by rw [if_pos rfl] at H; exact H
   clear H
   have H := H1
   clear H1
   replace H := Option.bind_eq_some_iff.mp H
   obtain ⟨t172, A90, H⟩ := H
   replace H : (seal_Times.j0 k (!t172) a0_0 a0_1 a1_0 a1_1) = some (r1, r2, r3) := H
   have A9 := Aside0.mk A90
   clear A90
   have H' := Aside0.mk H
   clear H
   have hnb10 := NB168_169.out
   have hnc10 := NB169_168.out
   have hnb11 := NB168_170.out
   have hnc11 := NB170_168.out
   have hcz12_0 : w6.cell? ⟨gb168, 0, none⟩ = some (.int .i64 a0_0) := (blk_cell BK168.out 0).trans rfl
   have hcz12_1 : w6.cell? ⟨gb168, 1, none⟩ = some (.int .i64 a0_1) := (blk_cell BK168.out 1).trans rfl
   have hfz12_0 := blk_frozen BK168.out 0
   have hfz12_1 := blk_frozen BK168.out 1
   go_wp2_with (first | ((with_reducible refine gate_callee (f := 37) rfl ?_); refine goesL_ (some 7) rfl rfl Try.func37 (by kernel_rfl) rfl #[.agg #[.int .i64 a0_0, .int .i64 a0_1]] rfl (by (try simp only [List.map_toArray, List.map_cons, List.map_nil]); first | done | rfl | (simp only [List.length_drop, List.length_take]; rfl)) ?_; (with_reducible refine (seal_Right.calls a0_0 a0_1 true _ A7.out).mono ?_); rintro e w13 ⟨rfl, hb⟩; refine ⟨_, rfl, ?_⟩; have n0_ := Aside0.mk (blk_below (g := gb168) (o := .cells #[.int .i64 a0_0, .int .i64 a0_1] 26 (0, 0)) (by (with_reducible repeat (first | refine blk_drewN ?_ _ | refine blk_drew ?_ | refine blk_alloc ?_ _)); exact BK168.out) hb); have n1_ := Aside0.mk (blk_below (g := gb169) (o := .cells #[.int .i64 a1_0, .int .i64 a1_1] 26 (0, 0)) (by (with_reducible repeat (first | refine blk_drewN ?_ _ | refine blk_drew ?_ | refine blk_alloc ?_ _)); exact BK169.out) hb); have n2_ := Aside0.mk (blk_below (g := gb170) (o := .cells #[.int .i64 0, .int .i64 0] 26 (0, 0)) (by (with_reducible repeat (first | refine blk_drewN ?_ _ | refine blk_drew ?_ | refine blk_alloc ?_ _)); exact BK170.out) hb); have n3_ := Aside0.mk (below_step (by repeat (first | (with_reducible first | exact HB.out | apply below_alloc | apply pw_below_drewN | apply below_drew1 | refine below_set ?_ GE168.out | refine below_set ?_ GE169.out | refine below_set ?_ GE170.out) | exact HB.out)) hb); clear BK168; clear BK169; clear BK170; clear HB; have BK168 := n0_; have BK169 := n1_; have BK170 := n2_; have HB := n3_; clear n0_ n1_ n2_ n3_; (try clear hb); (try clear hb2); (try clear hk); (try clear hi); have hnb14 := NB169_170.out; have hnc14 := NB170_169.out; have hcz15_0 : w13.cell? ⟨gb169, 0, none⟩ = some (.int .i64 a1_0) := (blk_cell BK169.out 0).trans rfl; have hcz15_1 : w13.cell? ⟨gb169, 1, none⟩ = some (.int .i64 a1_1) := (blk_cell BK169.out 1).trans rfl; have hfz15_0 := blk_frozen BK169.out 0; have hfz15_1 := blk_frozen BK169.out 1) | (go_at_call 37; (with_reducible refine (seal_Right.calls a1_0 a1_1 t172 _ A9.out).mono ?_); rintro e w16 ⟨rfl, hb⟩; have n0_ := Aside0.mk (blk_below (g := gb168) (o := .cells #[.int .i64 a0_0, .int .i64 a0_1] 26 (0, 0)) (by (with_reducible repeat (first | refine blk_drewN ?_ _ | refine blk_drew ?_ | refine blk_alloc ?_ _)); exact BK168.out) hb); have n1_ := Aside0.mk (blk_below (g := gb169) (o := .cells #[.int .i64 a1_0, .int .i64 a1_1] 26 (0, 0)) (by (with_reducible repeat (first | refine blk_drewN ?_ _ | refine blk_drew ?_ | refine blk_alloc ?_ _)); exact BK169.out) hb); have n2_ := Aside0.mk (blk_below (g := gb170) (o := .cells #[.int .i64 0, .int .i64 0] 26 (0, 0)) (by (with_reducible repeat (first | refine blk_drewN ?_ _ | refine blk_drew ?_ | refine blk_alloc ?_ _)); exact BK170.out) hb); have n3_ := Aside0.mk (below_step (by repeat (first | (with_reducible first | exact HB.out | apply below_alloc | apply pw_below_drewN | apply below_drew1 | refine below_set ?_ GE168.out | refine below_set ?_ GE169.out | refine below_set ?_ GE170.out) | exact HB.out)) hb); clear BK168; clear BK169; clear BK170; clear HB; have BK168 := n0_; have BK169 := n1_; have BK170 := n2_; have HB := n3_; clear n0_ n1_ n2_ n3_; (try clear hb); (try clear hb2); (try clear hk); (try clear hi)))
   go_meet
   case rel => exact ⟨_, (!t172), (by first | rfl | (simp; done) | (simp [*]; done) | (simp [Int.tdiv_eq_ediv_of_nonneg]; done)), H', ⟨by first | omega | exact Nat.le_refl _⟩, ⟨by (with_reducible repeat (first | refine blk_drewN ?_ _ | refine blk_drew ?_ | refine blk_alloc ?_ _)); exact BK168.out⟩, ⟨by (with_reducible repeat (first | refine blk_drewN ?_ _ | refine blk_drew ?_ | refine blk_alloc ?_ _)); exact BK169.out⟩, ⟨by (with_reducible repeat (first | refine blk_drewN ?_ _ | refine blk_drew ?_ | refine blk_alloc ?_ _)); exact BK170.out⟩, ⟨by repeat (first | (with_reducible first | exact HB.out | apply below_alloc | apply pw_below_drewN | apply below_drew1 | refine below_set ?_ GE168.out | refine below_set ?_ GE169.out | refine below_set ?_ GE170.out) | exact HB.out)⟩⟩
  ·replace c8 := Bool.eq_false_iff.mpr c8
   subst c8
   have H1 : (seal_Times.j0 k true a0_0 a0_1 a1_0 a1_1) = some (r1, r2, r3) := by rw [if_neg (show ¬ (false = true) by decide)] at H; exact H
   clear H
   have H := H1
   clear H1
   have H' := Aside0.mk H
   clear H
   have hnb17 := NB168_169.out
   have hnc17 := NB169_168.out
   have hnb18 := NB168_170.out
   have hnc18 := NB170_168.out
   have hcz19_0 : w6.cell? ⟨gb168, 0, none⟩ = some (.int .i64 a0_0) := (blk_cell BK168.out 0).trans rfl
   have hcz19_1 : w6.cell? ⟨gb168, 1, none⟩ = some (.int .i64 a0_1) := (blk_cell BK168.out 1).trans rfl
   have hfz19_0 := blk_frozen BK168.out 0
   have hfz19_1 := blk_frozen BK168.out 1
   go_wp2_with (first | ((with_reducible refine gate_callee (f := 37) rfl ?_); refine goesL_ (some 7) rfl rfl Try.func37 (by kernel_rfl) rfl #[.agg #[.int .i64 a0_0, .int .i64 a0_1]] rfl (by (try simp only [List.map_toArray, List.map_cons, List.map_nil]); first | done | rfl | (simp only [List.length_drop, List.length_take]; rfl)) ?_; (with_reducible refine (seal_Right.calls a0_0 a0_1 false _ A7.out).mono ?_); rintro e w20 ⟨rfl, hb⟩; refine ⟨_, rfl, ?_⟩; have n0_ := Aside0.mk (blk_below (g := gb168) (o := .cells #[.int .i64 a0_0, .int .i64 a0_1] 26 (0, 0)) (by (with_reducible repeat (first | refine blk_drewN ?_ _ | refine blk_drew ?_ | refine blk_alloc ?_ _)); exact BK168.out) hb); have n1_ := Aside0.mk (blk_below (g := gb169) (o := .cells #[.int .i64 a1_0, .int .i64 a1_1] 26 (0, 0)) (by (with_reducible repeat (first | refine blk_drewN ?_ _ | refine blk_drew ?_ | refine blk_alloc ?_ _)); exact BK169.out) hb); have n2_ := Aside0.mk (blk_below (g := gb170) (o := .cells #[.int .i64 0, .int .i64 0] 26 (0, 0)) (by (with_reducible repeat (first | refine blk_drewN ?_ _ | refine blk_drew ?_ | refine blk_alloc ?_ _)); exact BK170.out) hb); have n3_ := Aside0.mk (below_step (by repeat (first | (with_reducible first | exact HB.out | apply below_alloc | apply pw_below_drewN | apply below_drew1 | refine below_set ?_ GE168.out | refine below_set ?_ GE169.out | refine below_set ?_ GE170.out) | exact HB.out)) hb); clear BK168; clear BK169; clear BK170; clear HB; have BK168 := n0_; have BK169 := n1_; have BK170 := n2_; have HB := n3_; clear n0_ n1_ n2_ n3_; (try clear hb); (try clear hb2); (try clear hk); (try clear hi)))
   go_meet
   case rel => exact ⟨_, (true), (by first | rfl | (simp; done) | (simp [*]; done) | (simp [Int.tdiv_eq_ediv_of_nonneg]; done)), H', ⟨by first | omega | exact Nat.le_refl _⟩, ⟨by (with_reducible repeat (first | refine blk_drewN ?_ _ | refine blk_drew ?_ | refine blk_alloc ?_ _)); exact BK168.out⟩, ⟨by (with_reducible repeat (first | refine blk_drewN ?_ _ | refine blk_drew ?_ | refine blk_alloc ?_ _)); exact BK169.out⟩, ⟨by (with_reducible repeat (first | refine blk_drewN ?_ _ | refine blk_drew ?_ | refine blk_alloc ?_ _)); exact BK170.out⟩, ⟨by repeat (first | (with_reducible first | exact HB.out | apply below_alloc | apply pw_below_drewN | apply below_drew1 | refine below_set ?_ GE168.out | refine below_set ?_ GE169.out | refine below_set ?_ GE170.out) | exact HB.out)⟩⟩
 case rest =>
  clear HC3
  try clear c1
  try clear p2
  try clear c3
  try clear c8
  try clear c10
  try clear c11
  try clear c14
  try clear c15
  try clear c17
  try clear c18
  try clear hcz12_0
  try clear hcz12_1
  try clear hcz15_0
  try clear hcz15_1
  try clear hcz19_0
  try clear hcz19_1
  try clear hfz12_0
  try clear hfz12_1
  try clear hfz15_0
  try clear hfz15_1
  try clear hfz19_0
  try clear hfz19_1
  obtain ⟨kq, x13_2, rfl, HA, HJ2, BK168, BK169, BK170, HB⟩ := hcut
  cases kq with
  | zero => exact absurd HA.out (by simp [seal_Times.j0])
  | succ kj2 =>
   have H := HA.out
   clear HA
   simp only [seal_Times.j0] at H
   by_cases c21 : x13_2 = true
   ·subst c21
    have H1 : (some (0, 0, 20)) = some (r1, r2, r3) := by rw [if_pos rfl] at H; exact H
    clear H
    have H := H1
    clear H1
    simp only [Option.some.injEq, Prod.mk.injEq] at H
    obtain ⟨rfl, rfl, rfl⟩ := H
    have hnb22 := NB170_168.out
    have hnc22 := NB168_170.out
    have hnb23 := NB170_169.out
    have hnc23 := NB169_170.out
    have hcz24_0 : wc.cell? ⟨gb170, 0, none⟩ = some (.int .i64 0) := (blk_cell BK170.out 0).trans rfl
    have hcz24_1 : wc.cell? ⟨gb170, 1, none⟩ = some (.int .i64 0) := (blk_cell BK170.out 1).trans rfl
    have hfz24_0 := blk_frozen BK170.out 0
    have hfz24_1 := blk_frozen BK170.out 1
    go_wp2
    refine bodyPost_ret (results_ct rfl _ _ gb170 26 #[.int .i64 0, .int .i64 0] (0, 0) _ rfl (by (with_reducible repeat (first | refine blk_drewN ?_ _ | refine blk_drew ?_ | refine blk_alloc ?_ _)); refine blk_put (cs := #[.int .i64 0, .int .i64 0]) ?_ 1 _ rfl; (with_reducible repeat (first | refine blk_drewN ?_ _ | refine blk_drew ?_ | refine blk_alloc ?_ _)); refine blk_put (cs := #[.int .i64 0, .int .i64 0]) ?_ 0 _ rfl; (with_reducible repeat (first | refine blk_drewN ?_ _ | refine blk_drew ?_ | refine blk_alloc ?_ _)); exact BK170.out) Try.underlying26 rfl (by kernel_rfl)) rfl ?_
    exact ⟨by first | rfl | (simp [errW_none, errW_some] <;> rfl) | (simp [*, errW_none, errW_some] <;> rfl), by repeat (first | (with_reducible first | exact HB.out | apply below_alloc | apply pw_below_drewN | apply below_drew1 | refine below_set ?_ GE168.out | refine below_set ?_ GE169.out | refine below_set ?_ GE170.out) | exact HB.out)⟩
   ·replace c21 := Bool.eq_false_iff.mpr c21
    subst c21
    have H1 : ((seal_number.f a0_0 a0_1).bind fun t173 => ((seal_number.f a1_0 a1_1).bind fun t174 => (if okC t173 t174 = true then ((seal_seal.f (G.mul t173 t174)).bind fun bt175 => (some (bt175.1, bt175.2, 0))) else (none)))) = some (r1, r2, r3) := by rw [if_neg (show ¬ (false = true) by decide)] at H; exact H
    clear H
    have H := H1
    clear H1
    replace H := Option.bind_eq_some_iff.mp H
    obtain ⟨t173, A250, H⟩ := H
    replace H : ((seal_number.f a1_0 a1_1).bind fun t174 => (if okC t173 t174 = true then ((seal_seal.f (G.mul t173 t174)).bind fun bt175 => (some (bt175.1, bt175.2, 0))) else (none))) = some (r1, r2, r3) := H
    have A25 := Aside0.mk A250
    clear A250
    replace H := Option.bind_eq_some_iff.mp H
    obtain ⟨t174, A260, H⟩ := H
    replace H : (if okC t173 t174 = true then ((seal_seal.f (G.mul t173 t174)).bind fun bt175 => (some (bt175.1, bt175.2, 0))) else (none)) = some (r1, r2, r3) := H
    have A26 := Aside0.mk A260
    clear A260
    by_cases c27 : okC t173 t174 = true
    ·rw [if_pos c27] at H
     have c27b0 := eq_true c27
     have c27b1 : decide (okC t173 t174 = true) = true := decide_eq_true c27
     clear c27
     replace H := Option.bind_eq_some_iff.mp H
     obtain ⟨⟨t175, t176⟩, A280, H⟩ := H
     replace H : (some (t175, t176, 0)) = some (r1, r2, r3) := H
     have A28 := Aside0.mk A280
     clear A280
     simp only [Option.some.injEq, Prod.mk.injEq] at H
     obtain ⟨rfl, rfl, rfl⟩ := H
     try go_wp2
     have n0_ := Aside0.mk (blk_drew BK168.out)
     have n1_ := Aside0.mk (blk_drew BK169.out)
     have n2_ := Aside0.mk (blk_drew BK170.out)
     have n3_ := Aside0.mk (below_drew1 HB.out)
     clear BK168
     clear BK169
     clear BK170
     clear HB
     have BK168 := n0_
     have BK169 := n1_
     have BK170 := n2_
     have HB := n3_
     clear n0_ n1_ n2_ n3_
     refine start_ (n := 8) (S := fun w' => w'.cell? ⟨gb168, 0, none⟩ = some (.int .i64 a0_0) ∧ w'.cell? ⟨gb168, 1, none⟩ = some (.int .i64 a0_1) ∧ w'.cell? ⟨gb169, 0, none⟩ = some (.int .i64 a1_0) ∧ w'.cell? ⟨gb169, 1, none⟩ = some (.int .i64 a1_1)) (ds := []) #[false, false, false, false, false, false, false, false] (by kernel_rfl) rfl rfl ⟨(blk_cell BK168.out 0).trans rfl, (blk_cell BK168.out 1).trans rfl, (blk_cell BK169.out 0).trans rfl, (blk_cell BK169.out 1).trans rfl⟩ (fun hHeld => ?_); refine with_tabW seal_Times.tab3 seal_Times.bits3 (fun HT_ HW_ => ?_)
     generalize wc.drew = w29 at BK168 BK169 BK170 HB hHeld ⊢
     refine take_ (i := 0) (N := some 15) (v := ?_) (a' := ?_) #[true, false, false, false, false, false, false, false] rfl rfl (take_ofW HT_.out HW_.out (by kernel_rfl)) (fun _ _ _ h => h) (Or.inl ⟨by rfl, ?_⟩) hHeld ?_ ?_
     rotate_left
     ·rintro w' ⟨s0, s1, s2, s3⟩
      go_simp
      with_reducible rfl
     rotate_left
     ·simp only [Act.put, List.setIfInBounds_toArray, List.set_cons_zero, List.set_cons_succ, i64_w, i32_w]
      rfl
     refine take_ (i := 2) (N := some 17) (v := ?_) (a' := ?_) #[true, false, true, false, false, false, false, false] rfl rfl (take_ofW HT_.out HW_.out (by kernel_rfl)) (fun _ _ _ h => h) (Or.inl ⟨by rfl, ?_⟩) hHeld ?_ ?_
     rotate_left
     ·rintro w' ⟨s0, s1, s2, s3⟩
      go_simp
      with_reducible rfl
     rotate_left
     ·simp only [Act.put, List.setIfInBounds_toArray, List.set_cons_zero, List.set_cons_succ, i64_w, i32_w]
      rfl
     refine one_ (i := 1) (N := some 16) #[true, true, true, false, false, false, false, false] rfl rfl (one_of HT_.out (by kernel_rfl)) (by decide) (fun K hK => ?_)
     refine goes_ Try.func40 (by kernel_rfl) rfl #[.agg #[.int .i64 a0_0, .int .i64 a0_1]] (by rfl) rfl rfl (by (try simp only [List.map_toArray, List.map_cons, List.map_nil]); first | done | rfl | (simp only [List.length_drop, List.length_take]; rfl)) ?_
     with_reducible refine (seal_number.calls a0_0 a0_1 t173 _ A25.out).mono ?_
     rintro e w30 ⟨rfl, hb⟩
     refine ⟨_, rfl, ?_⟩
     have n0_ := Aside0.mk (blk_below (g := gb168) (o := .cells #[.int .i64 a0_0, .int .i64 a0_1] 26 (0, 0)) (by (with_reducible repeat (first | refine blk_drewN ?_ _ | refine blk_drew ?_ | refine blk_alloc ?_ _)); exact BK168.out) hb)
     have n1_ := Aside0.mk (blk_below (g := gb169) (o := .cells #[.int .i64 a1_0, .int .i64 a1_1] 26 (0, 0)) (by (with_reducible repeat (first | refine blk_drewN ?_ _ | refine blk_drew ?_ | refine blk_alloc ?_ _)); exact BK169.out) hb)
     have n2_ := Aside0.mk (blk_below (g := gb170) (o := .cells #[.int .i64 0, .int .i64 0] 26 (0, 0)) (by (with_reducible repeat (first | refine blk_drewN ?_ _ | refine blk_drew ?_ | refine blk_alloc ?_ _)); exact BK170.out) hb)
     have n3_ := Aside0.mk (below_step (by repeat (first | (with_reducible first | exact HB.out | apply below_alloc | apply pw_below_drewN | apply below_drew1 | refine below_set ?_ GE168.out | refine below_set ?_ GE169.out | refine below_set ?_ GE170.out) | exact HB.out)) hb)
     clear BK168
     clear BK169
     clear BK170
     clear HB
     have BK168 := n0_
     have BK169 := n1_
     have BK170 := n2_
     have HB := n3_
     clear n0_ n1_ n2_ n3_
     (try clear hb)
     (try clear hb2)
     (try clear hk)
     (try clear hi)
     refine hK.out _ _ ⟨(blk_cell BK168.out 0).trans rfl, (blk_cell BK168.out 1).trans rfl, (blk_cell BK169.out 0).trans rfl, (blk_cell BK169.out 1).trans rfl⟩ (fun hHeld => ?_)
     clear hK K
     refine norm_ (a' := ?_) ?_ ?_
     rotate_left
     ·show Act.put _ (some 16) _ = _
      simp only [Act.put, List.setIfInBounds_toArray, List.set_cons_zero, List.set_cons_succ, i64_w, i32_w]
      rfl
     refine one_ (i := 3) (N := some 18) #[true, true, true, true, false, false, false, false] rfl rfl (one_of HT_.out (by kernel_rfl)) (by decide) (fun K hK => ?_)
     refine goes_ Try.func40 (by kernel_rfl) rfl #[.agg #[.int .i64 a1_0, .int .i64 a1_1]] (by rfl) rfl rfl (by (try simp only [List.map_toArray, List.map_cons, List.map_nil]); first | done | rfl | (simp only [List.length_drop, List.length_take]; rfl)) ?_
     with_reducible refine (seal_number.calls a1_0 a1_1 t174 _ A26.out).mono ?_
     rintro e w31 ⟨rfl, hb⟩
     refine ⟨_, rfl, ?_⟩
     have n0_ := Aside0.mk (blk_below (g := gb168) (o := .cells #[.int .i64 a0_0, .int .i64 a0_1] 26 (0, 0)) (by (with_reducible repeat (first | refine blk_drewN ?_ _ | refine blk_drew ?_ | refine blk_alloc ?_ _)); exact BK168.out) hb)
     have n1_ := Aside0.mk (blk_below (g := gb169) (o := .cells #[.int .i64 a1_0, .int .i64 a1_1] 26 (0, 0)) (by (with_reducible repeat (first | refine blk_drewN ?_ _ | refine blk_drew ?_ | refine blk_alloc ?_ _)); exact BK169.out) hb)
     have n2_ := Aside0.mk (blk_below (g := gb170) (o := .cells #[.int .i64 0, .int .i64 0] 26 (0, 0)) (by (with_reducible repeat (first | refine blk_drewN ?_ _ | refine blk_drew ?_ | refine blk_alloc ?_ _)); exact BK170.out) hb)
     have n3_ := Aside0.mk (below_step (by repeat (first | (with_reducible first | exact HB.out | apply below_alloc | apply pw_below_drewN | apply below_drew1 | refine below_set ?_ GE168.out | refine below_set ?_ GE169.out | refine below_set ?_ GE170.out) | exact HB.out)) hb)
     clear BK168
     clear BK169
     clear BK170
     clear HB
     have BK168 := n0_
     have BK169 := n1_
     have BK170 := n2_
     have HB := n3_
     clear n0_ n1_ n2_ n3_
     (try clear hb)
     (try clear hb2)
     (try clear hk)
     (try clear hi)
     refine hK.out _ _ ⟨(blk_cell BK168.out 0).trans rfl, (blk_cell BK168.out 1).trans rfl, (blk_cell BK169.out 0).trans rfl, (blk_cell BK169.out 1).trans rfl⟩ (fun hHeld => ?_)
     clear hK K
     refine norm_ (a' := ?_) ?_ ?_
     rotate_left
     ·show Act.put _ (some 18) _ = _
      simp only [Act.put, List.setIfInBounds_toArray, List.set_cons_zero, List.set_cons_succ, i64_w, i32_w]
      rfl
     refine pure_ (i := 4) (N := some 19) (v := ?_) (a' := ?_) #[true, true, true, true, true, false, false, false] rfl rfl (any_of HT_.out (by kernel_rfl)) (fun _ _ _ h => h) (Or.inl ⟨by rfl, ?_⟩) ?_ ?_
     rotate_left
     ·intro w'
      go_simp
      with_reducible rfl
     rotate_left
     ·simp only [Act.put, List.setIfInBounds_toArray, List.set_cons_zero, List.set_cons_succ, i64_w, i32_w]
      rfl
     refine one_ (i := 5) (N := some 20) #[true, true, true, true, true, true, false, false] rfl rfl (one_of HT_.out (by kernel_rfl)) (by decide) (fun K hK => ?_)
     refine goes_ Try.func38 (by kernel_rfl) rfl #[.complex .f64 (fl (G.mul t173 t174).re) (fl (G.mul t173 t174).im)] (by rfl) rfl rfl (by (try simp only [List.map_toArray, List.map_cons, List.map_nil]); first | done | rfl | (simp only [List.length_drop, List.length_take]; rfl)) ?_
     with_reducible refine (seal_seal.calls (G.mul t173 t174) t175 t176 _ A28.out).mono ?_
     rintro e w32 ⟨rfl, hb⟩
     refine ⟨_, rfl, ?_⟩
     have n0_ := Aside0.mk (blk_below (g := gb168) (o := .cells #[.int .i64 a0_0, .int .i64 a0_1] 26 (0, 0)) (by (with_reducible repeat (first | refine blk_drewN ?_ _ | refine blk_drew ?_ | refine blk_alloc ?_ _)); exact BK168.out) hb)
     have n1_ := Aside0.mk (blk_below (g := gb169) (o := .cells #[.int .i64 a1_0, .int .i64 a1_1] 26 (0, 0)) (by (with_reducible repeat (first | refine blk_drewN ?_ _ | refine blk_drew ?_ | refine blk_alloc ?_ _)); exact BK169.out) hb)
     have n2_ := Aside0.mk (blk_below (g := gb170) (o := .cells #[.int .i64 0, .int .i64 0] 26 (0, 0)) (by (with_reducible repeat (first | refine blk_drewN ?_ _ | refine blk_drew ?_ | refine blk_alloc ?_ _)); exact BK170.out) hb)
     have n3_ := Aside0.mk (below_step (by repeat (first | (with_reducible first | exact HB.out | apply below_alloc | apply pw_below_drewN | apply below_drew1 | refine below_set ?_ GE168.out | refine below_set ?_ GE169.out | refine below_set ?_ GE170.out) | exact HB.out)) hb)
     clear BK168
     clear BK169
     clear BK170
     clear HB
     have BK168 := n0_
     have BK169 := n1_
     have BK170 := n2_
     have HB := n3_
     clear n0_ n1_ n2_ n3_
     (try clear hb)
     (try clear hb2)
     (try clear hk)
     (try clear hi)
     refine hK.out _ _ ⟨(blk_cell BK168.out 0).trans rfl, (blk_cell BK168.out 1).trans rfl, (blk_cell BK169.out 0).trans rfl, (blk_cell BK169.out 1).trans rfl⟩ (fun hHeld => ?_)
     clear hK K
     refine norm_ (a' := ?_) ?_ ?_
     rotate_left
     ·show Act.put _ (some 20) _ = _
      simp only [Act.put, List.setIfInBounds_toArray, List.set_cons_zero, List.set_cons_succ, i64_w, i32_w]
      rfl
     refine one_ (i := 6) (N := none) #[true, true, true, true, true, true, true, false] rfl rfl (one_of HT_.out (by kernel_rfl)) (by decide) (fun K hK => ?_)
     have hs33 : w32.cell? ⟨gb170, 0, none⟩ = some (.int .i64 0) := (blk_cell BK170.out 0).trans rfl
     have hfs33 := blk_frozen BK170.out 0
     have hns33_0 := NB168_170.out
     have hns33_1 := NB169_170.out
     have hms33_0 := NB170_168.out
     have hms33_1 := NB170_169.out
     have hs34 : w32.cell? ⟨gb170, 1, none⟩ = some (.int .i64 0) := (blk_cell BK170.out 1).trans rfl
     have hfs34 := blk_frozen BK170.out 1
     have hns34_0 := NB168_170.out
     have hns34_1 := NB169_170.out
     have hms34_0 := NB170_168.out
     have hms34_1 := NB170_169.out
     refine skip_ (w1 := ?_) (by rfl) rfl ?_ ?_
     rotate_left
     ·go_simp
      rfl
     refine hK.out _ _ ⟨((cell_far (p := ⟨gb170, _, none⟩) NB168_170.out _).trans (((cell_far (p := ⟨gb170, _, none⟩) NB168_170.out _).trans (hHeld.1)))), ((cell_far (p := ⟨gb170, _, none⟩) NB168_170.out _).trans (((cell_far (p := ⟨gb170, _, none⟩) NB168_170.out _).trans (hHeld.2.1)))), ((cell_far (p := ⟨gb170, _, none⟩) NB169_170.out _).trans (((cell_far (p := ⟨gb170, _, none⟩) NB169_170.out _).trans (hHeld.2.2.1)))), ((cell_far (p := ⟨gb170, _, none⟩) NB169_170.out _).trans (((cell_far (p := ⟨gb170, _, none⟩) NB169_170.out _).trans (hHeld.2.2.2))))⟩ (fun hHeld => ?_)
     clear hK K
     refine pure_ (i := 7) (N := some 5) (v := ?_) (a' := ?_) #[true, true, true, true, true, true, true, true] rfl rfl (any_of HT_.out (by kernel_rfl)) (fun _ _ _ h => h) (Or.inl ⟨by rfl, ?_⟩) ?_ ?_
     rotate_left
     ·intro w'
      go_simp
      with_reducible rfl
     rotate_left
     ·simp only [Act.put, List.setIfInBounds_toArray, List.set_cons_zero, List.set_cons_succ, i64_w, i32_w]
      rfl
     refine done_ (done_of HT_.out (by kernel_rfl)) ?_
     try go_wp2
     refine bodyPost_ret (results_ct rfl _ _ gb170 26 #[.int .i64 t175, .int .i64 t176] (0, 0) _ rfl (by (with_reducible repeat (first | refine blk_drewN ?_ _ | refine blk_drew ?_ | refine blk_alloc ?_ _)); refine blk_put (cs := #[.int .i64 t175, .int .i64 0]) ?_ 1 _ rfl; (with_reducible repeat (first | refine blk_drewN ?_ _ | refine blk_drew ?_ | refine blk_alloc ?_ _)); refine blk_put (cs := #[.int .i64 0, .int .i64 0]) ?_ 0 _ rfl; (with_reducible repeat (first | refine blk_drewN ?_ _ | refine blk_drew ?_ | refine blk_alloc ?_ _)); exact BK170.out) Try.underlying26 rfl (by kernel_rfl)) rfl ?_
     exact ⟨by first | rfl | (simp [errW_none, errW_some] <;> rfl) | (simp [*, errW_none, errW_some] <;> rfl), by repeat (first | (with_reducible first | exact HB.out | apply below_alloc | apply pw_below_drewN | apply below_drew1 | refine below_set ?_ GE168.out | refine below_set ?_ GE169.out | refine below_set ?_ GE170.out) | exact HB.out)⟩
    ·rw [if_neg c27] at H
     exact absurd H (by simp)

end Go.Proofs.YtkilnknndglmnaaP
end

section
/- Sums of numbers with two parts; rows turned by a root; how a turned row is halved, turned back. No Go in sight. -/
namespace Go.Proofs.Ytkilnknndglmnaa
open G

def sm : Nat → (Nat → G) → G
  | 0, _ => zero
  | n + 1, f => add (sm n f) (f n)
theorem sm_congr {n : Nat} {f g : Nat → G} (h : ∀ i, i < n → f i = g i) : sm n f = sm n g := by
  induction n with
  | zero => rfl
  | succ n ih => simp only [sm]; rw [ih fun i hi => h i (by omega), h n (by omega)]
theorem sm_cong {n : Nat} {f g : Nat → G} (h : ∀ i, i < n → red (f i) = red (g i)) : red (sm n f) = red (sm n g) := by
  induction n with
  | zero => rfl
  | succ n ih => exact add_cong (ih fun i hi => h i (by omega)) (h n (by omega))
theorem sm_zero (n : Nat) : sm n (fun _ => zero) = zero := by
  induction n with
  | zero => rfl
  | succ n ih => simp only [sm]; rw [ih, add_zero]
theorem add_add_add (a b c d : G) : add (add a b) (add c d) = add (add a c) (add b d) := by
  rw [add_assoc, ← add_assoc b c d, add_comm b c, add_assoc c b d, ← add_assoc]
theorem sm_add (n : Nat) (f g : Nat → G) : sm n (fun i => add (f i) (g i)) = add (sm n f) (sm n g) := by
  induction n with
  | zero => exact (add_zero zero).symm
  | succ n ih => simp only [sm]; rw [ih, add_add_add]
theorem mul_sm (c : G) (n : Nat) (f : Nat → G) : mul c (sm n f) = sm n (fun i => mul c (f i)) := by
  induction n with
  | zero => exact mul_zero c
  | succ n ih => simp only [sm]; rw [mul_add, ih]
theorem sm_by (c : G) (n : Nat) (f : Nat → G) : mul (sm n f) c = sm n (fun i => mul (f i) c) := by
  rw [mul_comm, mul_sm]
  exact sm_congr fun i _ => mul_comm _ _
theorem sm_swap (n m : Nat) (f : Nat → Nat → G) : sm n (fun i => sm m (fun j => f i j)) = sm m (fun j => sm n (fun i => f i j)) := by
  induction n with
  | zero => exact (sm_zero m).symm
  | succ n ih => simp only [sm]; rw [ih, ← sm_add]
theorem sm_split (a b : Nat) (f : Nat → G) : sm (a + b) f = add (sm a f) (sm b (fun i => f (a + i))) := by
  induction b with
  | zero => exact (add_zero _).symm
  | succ b ih => rw [← Nat.add_assoc]; simp only [sm]; rw [ih, add_assoc]
theorem sm_two (h : Nat) (f : Nat → G) : sm (2 * h) f = add (sm h (fun j => f (2 * j))) (sm h (fun j => f (2 * j + 1))) := by
  induction h with
  | zero => exact (add_zero zero).symm
  | succ h ih =>
    rw [show 2 * (h + 1) = 2 * h + 1 + 1 by omega]
    simp only [sm]
    rw [ih, add_assoc, add_add_add]
theorem sm_at {n i : Nat} {f : Nat → G} (hi : i < n) (h : ∀ j, j < n → j ≠ i → f j = zero) : sm n f = f i := by
  induction n with
  | zero => omega
  | succ n ih =>
    simp only [sm]
    by_cases e : i = n
    · subst e
      have hz : sm i f = zero := by rw [sm_congr fun j hj => h j (by omega) (by omega)]; exact sm_zero i
      rw [hz, zero_add]
    · rw [ih (by omega) fun j hj hne => h j (by omega) hne, h n (by omega) (fun e2 => e e2.symm), add_zero]
theorem sm_shift {n a : Nat} (ha : a ≤ n) (f : Nat → G) : sm n (fun i => f ((i + a) % n)) = sm n f := by
  have e1 := sm_split (n - a) a (fun i => f ((i + a) % n))
  have e2 := sm_split a (n - a) f
  rw [show n - a + a = n by omega] at e1
  rw [show a + (n - a) = n by omega] at e2
  rw [e1, e2, add_comm]
  congr 1
  · refine sm_congr fun i hi => ?_
    show f ((n - a + i + a) % n) = f i
    rw [show n - a + i + a = n + i by omega, Nat.add_mod_left, Nat.mod_eq_of_lt (by omega)]
  · refine sm_congr fun i hi => ?_
    show f ((i + a) % n) = f (a + i)
    rw [Nat.mod_eq_of_lt (by omega), Nat.add_comm]
theorem sm_rev (n : Nat) (f : Nat → G) : sm n (fun i => f (n - 1 - i)) = sm n f := by
  induction n generalizing f with
  | zero => rfl
  | succ n ih =>
    have e := sm_split 1 n f
    rw [Nat.add_comm 1 n] at e
    rw [e]
    simp only [sm]
    rw [zero_add, show n + 1 - 1 - n = 0 by omega, add_comm]
    congr 1
    rw [← ih fun j => f (1 + j)]
    refine sm_congr fun i hi => ?_
    show f (n + 1 - 1 - i) = f (1 + (n - 1 - i))
    congr 1
    omega
theorem cancel_mod {a b c n : Nat} (h : (a + c) % n = (b + c) % n) : a % n = b % n := by
  have h1 : ((a : Int) + c) % n = ((b : Int) + c) % n := by exact_mod_cast congrArg (Nat.cast (R := Int)) h
  rw [Int.emod_eq_emod_iff_emod_sub_eq_zero] at h1
  have h2 : (a : Int) % n = (b : Int) % n := by
    rw [Int.emod_eq_emod_iff_emod_sub_eq_zero]
    rw [show (a : Int) - b = a + c - (b + c) by omega]
    exact h1
  exact_mod_cast h2

/-- Number k of a row turned by w. -/
def dft (l : Nat → G) (n : Nat) (w : G) (k : Nat) : G := sm n (fun j => mul (l j) (pow w (j * k)))
theorem dft_cong {l l' : Nat → G} {n : Nat} (h : ∀ j, j < n → red (l j) = red (l' j)) {w w' : G} (hw : red w = red w') (k : Nat) : red (dft l n w k) = red (dft l' n w' k) :=
  sm_cong fun j hj => mul_cong (h j hj) (pow_cong hw _)
theorem pow_mod {w : G} {n : Nat} (hw : red (pow w n) = one) (e : Nat) : red (pow w (e % n)) = red (pow w e) := by
  have h : e = n * (e / n) + e % n := (Nat.div_add_mod e n).symm
  have h2 : red (pow w (n * (e / n))) = red one := by
    rw [pow_mul, pow_cong (show red (pow w n) = red one by rw [hw, red_one]), one_pow]
  conv => rhs; rw [h, pow_add]
  rw [mul_cong h2 rfl, one_mul]
theorem dft_period {l : Nat → G} {n : Nat} {w : G} (hw : red (pow w n) = one) (k : Nat) : red (dft l n w (k + n)) = red (dft l n w k) := by
  refine sm_cong fun j _ => mul_cong rfl ?_
  rw [Nat.mul_add, pow_add]
  have h2 : red (pow w (j * n)) = red one := by
    rw [Nat.mul_comm, pow_mul, pow_cong (show red (pow w n) = red one by rw [hw, red_one]), one_pow]
  rw [mul_cong rfl h2, mul_one]
theorem fft_low (l : Nat → G) (h : Nat) (w : G) (k : Nat) :
    dft l (2 * h) w k = add (dft (fun j => l (2 * j)) h (mul w w) k) (mul (pow w k) (dft (fun j => l (2 * j + 1)) h (mul w w) k)) := by
  unfold dft
  rw [sm_two, mul_sm]
  congr 1
  · refine sm_congr fun j _ => ?_
    rw [show 2 * j * k = 2 * (j * k) by rw [Nat.mul_assoc], pow_mul, pow_two]
  · refine sm_congr fun j _ => ?_
    rw [show (2 * j + 1) * k = k + 2 * (j * k) by rw [Nat.add_mul, Nat.mul_assoc]; omega, pow_add, pow_mul, pow_two, ← mul_assoc, ← mul_assoc, mul_comm (l (2 * j + 1))]
theorem fft_high (l : Nat → G) (h : Nat) (w : G) (hw : red (pow w h) = red (neg one)) (k : Nat) :
    red (dft l (2 * h) w (k + h)) = red (sub (dft (fun j => l (2 * j)) h (mul w w) k) (mul (pow w k) (dft (fun j => l (2 * j + 1)) h (mul w w) k))) := by
  have h2 : red (pow (mul w w) h) = one := by
    rw [mul_pow, mul_cong hw hw, mul_neg, mul_one]
    decide
  rw [fft_low, sub_eq]
  refine add_cong (dft_period h2 k) ?_
  rw [pow_add]
  have e : red (mul (mul (pow w k) (pow w h)) (dft (fun j => l (2 * j + 1)) h (mul w w) (k + h))) = red (mul (mul (pow w k) (neg one)) (dft (fun j => l (2 * j + 1)) h (mul w w) k)) :=
    mul_cong (mul_cong rfl hw) (dft_period h2 k)
  rw [e, mul_neg, mul_one, mul_comm (neg (pow w k)), mul_neg, mul_comm _ (pow w k)]

/-! ### A root of n: its powers, together -/
def num (n : Nat) : G := ⟨n, 0⟩
structure Root (n : Nat) (w u : G) : Prop where
  pos : 0 < n
  wS : IsS w
  full : red (pow w n) = one
  half : ∀ h, n = 2 * h → red (pow w h) = red (neg one)
  orth : ∀ m, m < n → red (sm n (fun k => pow w (k * m))) = if m = 0 then red (num n) else zero
  inv : red (mul (num n) u) = one
  isS : IsS u

theorem Root.orth' {n : Nat} {w u : G} (r : Root n w u) (m : Nat) : red (sm n (fun k => pow w (k * m))) = if m % n = 0 then red (num n) else zero := by
  rw [← r.orth (m % n) (Nat.mod_lt _ r.pos)]
  refine sm_cong fun k _ => ?_
  rw [← pow_mod r.full (k * m), ← pow_mod r.full (k * (m % n)), Nat.mul_mod, Nat.mul_mod k (m % n), Nat.mod_mod]

/-- Turned back: n numbers, number i. -/
def bft (l : Nat → G) (n : Nat) (w u : G) (i : Nat) : G := mul (dft l n w ((n - i) % n)) u

theorem delta {n : Nat} {w u : G} (r : Root n w u) {i : Nat} (hi : i < n) (l : Nat → G) (e : Nat → Nat) (he : ∀ j, j < n → (e j % n = 0 ↔ j = i)) :
    red (sm n (fun j => mul (mul (l j) (sm n (fun k => pow w (k * e j)))) u)) = red (l i) := by
  have h1 : red (sm n (fun j => mul (mul (l j) (sm n (fun k => pow w (k * e j)))) u)) = red (sm n (fun j => if j = i then l i else zero)) := by
    refine sm_cong fun j hj => ?_
    have ho := r.orth' (e j)
    by_cases hji : j = i
    · subst hji
      rw [if_pos ((he j hj).2 rfl)] at ho
      rw [if_pos rfl, mul_assoc, mul_cong (show red (l j) = red (l j) from rfl) (show red (mul (sm n fun k => pow w (k * e j)) u) = red one by
        rw [mul_cong ho (show red u = red u from rfl), r.inv, red_one]), mul_one]
    · rw [if_neg fun h => hji ((he j hj).1 h)] at ho
      rw [if_neg hji, mul_assoc, mul_cong (show red (l j) = red (l j) from rfl) (show red (mul (sm n fun k => pow w (k * e j)) u) = red zero by
        rw [mul_cong (show red (sm n fun k => pow w (k * e j)) = red zero by rw [ho, red_zero]) (show red u = red u from rfl), zero_mul]), mul_zero]
  rw [h1, sm_at hi fun j _ hne => if_neg hne, if_pos rfl]

theorem bft_sum (l : Nat → G) (n : Nat) (w u : G) (i : Nat) (q : Nat → Nat → G) (hq : ∀ k, k < n → l k = sm n (fun j => q j k)) :
    bft l n w u i = sm n (fun j => mul (sm n (fun k => mul (q j k) (pow w (k * ((n - i) % n))))) u) := by
  unfold bft dft
  rw [← sm_by]
  congr 1
  rw [← sm_swap]
  refine sm_congr fun k hk => ?_
  rw [hq k hk, sm_by]

theorem back_turn {n : Nat} {w u : G} (r : Root n w u) (l : Nat → G) {i : Nat} (hi : i < n) : red (bft (dft l n w) n w u i) = red (l i) := by
  rw [bft_sum (dft l n w) n w u i (fun j k => mul (l j) (pow w (j * k))) fun k _ => rfl]
  rw [← delta r hi l (fun j => j + (n - i) % n) ?_]
  · refine sm_cong fun j _ => mul_cong ?_ rfl
    rw [mul_sm]
    refine sm_cong fun k _ => ?_
    show red (mul (mul (l j) (pow w (j * k))) (pow w (k * ((n - i) % n)))) = red (mul (l j) (pow w (k * (j + (n - i) % n))))
    rw [mul_assoc, ← pow_add, Nat.mul_add, Nat.mul_comm j k]
  · intro j hj
    show (j + (n - i) % n) % n = 0 ↔ j = i
    rw [Nat.add_mod_mod]
    constructor
    · intro h
      have h2 := Nat.mod_add_div (j + (n - i)) n
      rcases Nat.lt_or_ge (j + (n - i)) n with h3 | h3
      · rw [Nat.mod_eq_of_lt h3] at h; omega
      · rw [Nat.mod_eq_sub_mod h3, Nat.mod_eq_of_lt (by omega)] at h; omega
    · intro h
      rw [h, show i + (n - i) = n by omega, Nat.mod_self]

theorem turn_back {n : Nat} {w u : G} (r : Root n w u) (l : Nat → G) {i : Nat} (hi : i < n) : red (dft (bft l n w u) n w i) = red (l i) := by
  have h1 : red (dft (bft l n w u) n w i) = red (sm n (fun j => mul (mul (l j) (sm n (fun k => pow w (k * ((n - j) % n + i))))) u)) := by
    have e1 : dft (bft l n w u) n w i = sm n (fun k => sm n (fun j => mul (mul (mul (l j) (pow w (j * ((n - k) % n)))) u) (pow w (k * i)))) := by
      unfold dft bft dft
      refine sm_congr fun k _ => ?_
      rw [sm_by, sm_by]
    rw [e1, sm_swap]
    refine sm_cong fun j _ => ?_
    rw [mul_comm _ u, mul_sm, mul_sm]
    refine sm_cong fun k hk => ?_
    have hx : red (pow w (j * ((n - k) % n))) = red (pow w (k * ((n - j) % n))) := by
      rw [← pow_mod r.full (j * ((n - k) % n)), ← pow_mod r.full (k * ((n - j) % n))]
      congr 2
      rw [Nat.mul_mod, Nat.mod_mod, ← Nat.mul_mod, Nat.mul_mod k, Nat.mod_mod, ← Nat.mul_mod]
      rcases Nat.lt_or_ge j n with hj | hj
      · rw [Nat.mul_sub, Nat.mul_sub]
        have a1 : j * k ≤ j * n := Nat.mul_le_mul_left j (by omega)
        have a2 : k * j ≤ k * n := Nat.mul_le_mul_left k (by omega)
        have b1 : (j * n - j * k + j * k) % n = (k * n - k * j + k * j) % n := by
          rw [Nat.sub_add_cancel a1, Nat.sub_add_cancel a2, Nat.mul_mod_left, Nat.mul_mod_left]
        rw [Nat.mul_comm k j] at b1 ⊢
        exact cancel_mod b1
      · omega
    show red (mul (mul (mul (l j) (pow w (j * ((n - k) % n)))) u) (pow w (k * i))) = red (mul u (mul (l j) (pow w (k * ((n - j) % n + i)))))
    rw [Nat.mul_add, pow_add]
    refine Eq.trans (mul_cong (mul_cong (mul_cong rfl hx) rfl) rfl) ?_
    congr 1
    rw [mul_comm _ u, mul_assoc, mul_assoc]
  rw [h1]
  refine delta r hi l (fun j => (n - j) % n + i) fun j hj => ?_
  show ((n - j) % n + i) % n = 0 ↔ j = i
  rw [Nat.mod_add_mod]
  constructor
  · intro h
    rcases Nat.lt_or_ge (n - j + i) n with h3 | h3
    · rw [Nat.mod_eq_of_lt h3] at h; omega
    · rw [Nat.mod_eq_sub_mod h3, Nat.mod_eq_of_lt (by omega)] at h; omega
  · intro h
    rw [h, show n - i + i = n by omega, Nat.mod_self]
end Go.Proofs.Ytkilnknndglmnaa
end

section
/- Roots of 1, 2, 4, 8, 16, 32; round products. No Go in sight. -/
namespace Go.Proofs.Ytkilnknndglmnaa
open G

/-- The round product of two rows: number i. -/
def conv (x y : Nat → G) (n i : Nat) : G := sm n (fun j => mul (x j) (y ((i + (n - j)) % n)))

theorem conv_turn {n : Nat} {w u : G} (r : Root n w u) (x y : Nat → G) {i : Nat} (hi : i < n) : red (bft (fun m => mul (dft x n w m) (dft y n w m)) n w u i) = red (conv x y n i) := by
  rw [bft_sum _ n w u i (fun j k => mul (mul (x j) (pow w (j * k))) (dft y n w k)) fun k _ => by
    show mul (dft x n w k) (dft y n w k) = sm n (fun j => mul (mul (x j) (pow w (j * k))) (dft y n w k))
    rw [← sm_by]; rfl]
  unfold conv
  refine sm_cong fun j hj => ?_
  have hm : (i + (n - j)) % n < n := Nat.mod_lt _ r.pos
  have hb := back_turn r y hm
  unfold bft at hb
  have e : ∀ k, red (pow w (k * (j + (n - i) % n))) = red (pow w (k * ((n - (i + (n - j)) % n) % n))) := fun k => by
    rw [← pow_mod r.full (k * (j + (n - i) % n)), ← pow_mod r.full (k * ((n - (i + (n - j)) % n) % n))]
    congr 2
    rw [Nat.mul_mod k (j + (n - i) % n), Nat.mul_mod k ((n - (i + (n - j)) % n) % n)]
    congr 2
    rw [Nat.add_mod_mod, Nat.mod_mod]
    rcases Nat.lt_or_ge (i + (n - j)) n with h3 | h3
    · rw [Nat.mod_eq_of_lt h3, show j + (n - i) = n + (n - (i + (n - j))) by omega, Nat.add_mod_left]
    · rw [Nat.mod_eq_sub_mod h3, Nat.mod_eq_of_lt (show i + (n - j) - n < n by omega)]
      rcases Nat.lt_or_ge (j + (n - i)) n with h4 | h4
      · rw [show n - (i + (n - j) - n) = j + (n - i) by omega]
      · rw [show n - (i + (n - j) - n) = j + (n - i) by omega]
  have e2 : red (sm n (fun k => mul (mul (mul (x j) (pow w (j * k))) (dft y n w k)) (pow w (k * ((n - i) % n))))) = red (mul (x j) (dft (dft y n w) n w ((n - (i + (n - j)) % n) % n))) := by
    unfold dft
    rw [mul_sm]
    refine sm_cong fun k _ => ?_
    show red (mul (mul (mul (x j) (pow w (j * k))) (dft y n w k)) (pow w (k * ((n - i) % n)))) = red (mul (x j) (mul (dft y n w k) (pow w (k * ((n - (i + (n - j)) % n) % n)))))
    rw [mul_assoc (x j), mul_assoc (x j), mul_comm (pow w (j * k)), mul_assoc (dft y n w k), ← pow_add, Nat.mul_comm j k, ← Nat.mul_add]
    exact mul_cong rfl (mul_cong rfl (e k))
  rw [mul_cong e2 (show red u = red u from rfl), mul_assoc]
  exact mul_cong rfl hb

theorem conv_comm {n : Nat} (x y : Nat → G) {i : Nat} (hi : i < n) : conv x y n i = conv y x n i := by
  unfold conv
  have e := sm_shift (n := n) (a := i + 1) (by omega) (fun j => mul (y ((i + (n - j)) % n)) (x j))
  have e2 := sm_rev n (fun j => mul (y ((i + (n - (j + (i + 1)) % n)) % n)) (x ((j + (i + 1)) % n)))
  have e3 : sm n (fun j => mul (x j) (y ((i + (n - j)) % n))) = sm n (fun j => mul (y ((i + (n - j)) % n)) (x j)) := sm_congr fun j _ => mul_comm _ _
  rw [e3, ← e, ← e2]
  refine sm_congr fun j hj => ?_
  show mul (y ((i + (n - (n - 1 - j + (i + 1)) % n)) % n)) (x ((n - 1 - j + (i + 1)) % n)) = mul (y j) (x ((i + (n - j)) % n))
  have h1 : n - 1 - j + (i + 1) = i + (n - j) := by omega
  rw [h1]
  congr 2
  rcases Nat.lt_or_ge (i + (n - j)) n with h3 | h3
  · rw [Nat.mod_eq_of_lt h3, show i + (n - (i + (n - j))) = j by omega, Nat.mod_eq_of_lt hj]
  · rw [Nat.mod_eq_sub_mod h3, Nat.mod_eq_of_lt (show i + (n - j) - n < n by omega), show i + (n - (i + (n - j) - n)) = n + j by omega, Nat.add_mod_left, Nat.mod_eq_of_lt hj]

/-! ### Quick powers -/
def powB : Nat → G → Nat → G
  | 0, _, _ => one
  | f + 1, x, n => if n = 0 then one else if n % 2 = 1 then red (mul (powB f (red (mul x x)) (n / 2)) x) else powB f (red (mul x x)) (n / 2)
theorem powB_eq (f : Nat) : ∀ (x : G) (n : Nat), n < 2 ^ f → powB f x n = red (pow x n) := by
  induction f with
  | zero => intro x n h; have : n = 0 := by simpa using h
            subst this; exact red_one.symm
  | succ f ih =>
    intro x n h
    simp only [powB]
    by_cases h0 : n = 0
    · rw [if_pos h0, h0]; exact red_one.symm
    · rw [if_neg h0]
      have hn : n / 2 < 2 ^ f := by rw [Nat.pow_succ] at h; omega
      have e : red (pow (red (mul x x)) (n / 2)) = red (pow x (2 * (n / 2))) := by
        rw [pow_cong (red_red _), ← pow_two, ← pow_mul]
      by_cases h1 : n % 2 = 1
      · rw [if_pos h1, ih _ _ hn, e]
        have : n = 2 * (n / 2) + 1 := by omega
        conv => rhs; rw [this]; simp only [pow]
        exact mul_cong (red_red _) rfl
      · rw [if_neg h1, ih _ _ hn, e]
        congr 2
        omega

/-! ### The roots -/
def smR : Nat → (Nat → G) → G
  | 0, _ => zero
  | n + 1, f => red (add (smR n f) (f n))
theorem smR_eq (n : Nat) (f g : Nat → G) (h : ∀ k, k < n → red (f k) = g k) : red (sm n f) = smR n g := by
  induction n with
  | zero => exact red_zero
  | succ n ih =>
    simp only [sm, smR]
    rw [← ih fun k hk => h k (by omega), ← h n (by omega), red_add]
/-- All that is asked of a root, reckoned. -/
def okRoot (n : Nat) (w u : G) : Bool :=
  decide (0 < n) && decide ((0 ≤ w.re ∧ w.re < 16777199) ∧ (0 ≤ w.im ∧ w.im < 16777199)) && decide ((0 ≤ u.re ∧ u.re < 16777199) ∧ (0 ≤ u.im ∧ u.im < 16777199)) && decide (powR w n = one) && decide (n % 2 = 0 → powR w (n / 2) = red (neg one)) && decide (red (mul (num n) u) = one) &&
    (List.range n).all fun m => decide (smR n (fun k => powR w (k * m % n)) = if m = 0 then red (num n) else zero)
theorem root_of {n : Nat} {w u : G} (h : okRoot n w u = true) : Root n w u := by
  simp only [okRoot, Bool.and_eq_true, decide_eq_true_eq, List.all_eq_true, List.mem_range] at h
  obtain ⟨⟨⟨⟨⟨⟨h1, h2⟩, h3⟩, h4⟩, h5⟩, h6⟩, h7⟩ := h
  have hf : red (pow w n) = one := by rw [← powR_eq]; exact h4
  refine ⟨h1, h2, hf, fun k hk => ?_, fun m hm => ?_, h6, h3⟩
  · have := h5 (by omega)
    rw [← powR_eq, show k = n / 2 by omega]
    exact this
  · rw [smR_eq n _ (fun k => powR w (k * m % n)) fun k _ => by rw [powR_eq, pow_mod hf]]
    exact h7 m hm
def rootW (n : Nat) : G := if n = 1 then ⟨1, 0⟩ else if n = 2 then ⟨16777198, 0⟩ else if n = 4 then ⟨0, 1⟩ else if n = 8 then ⟨4986962, 4986962⟩ else if n = 16 then ⟨947032, 10877939⟩ else ⟨6054027, 3622869⟩
def rootU (n : Nat) : G := if n = 1 then ⟨1, 0⟩ else if n = 2 then ⟨8388600, 0⟩ else if n = 4 then ⟨4194300, 0⟩ else if n = 8 then ⟨2097150, 0⟩ else if n = 16 then ⟨1048575, 0⟩ else ⟨8912887, 0⟩
/-- The lengths of rows that can be turned. -/
def isLen (n : Nat) : Prop := n = 1 ∨ n = 2 ∨ n = 4 ∨ n = 8 ∨ n = 16 ∨ n = 32
theorem root_len {n : Nat} (h : isLen n) : Root n (rootW n) (rootU n) := by
  rcases h with rfl | rfl | rfl | rfl | rfl | rfl
  · exact root_of (by decide +kernel)
  · exact root_of (by decide +kernel)
  · exact root_of (by decide +kernel)
  · exact root_of (by decide +kernel)
  · exact root_of (by decide +kernel)
  · exact root_of (by decide +kernel)
/-- The program's own root. -/
theorem rootW_eq {n : Nat} (h : isLen n) : red (pow ⟨6054027, 3622869⟩ (32 / n)) = rootW n := by
  rcases h with rfl | rfl | rfl | rfl | rfl | rfl
  all_goals (rw [← powB_eq 6 _ _ (by decide)]; decide +kernel)
theorem rootU_eq {n : Nat} (h : isLen n) : red (pow (num n) 16777197) = rootU n := by
  rcases h with rfl | rfl | rfl | rfl | rfl | rfl
  all_goals (rw [← powB_eq 25 _ _ (by decide)]; decide +kernel)
theorem len_pow {n : Nat} (h : isLen n) : ∃ m, m ≤ 5 ∧ n = 2 ^ m := by
  rcases h with rfl | rfl | rfl | rfl | rfl | rfl
  · exact ⟨0, by decide, rfl⟩
  · exact ⟨1, by decide, rfl⟩
  · exact ⟨2, by decide, rfl⟩
  · exact ⟨3, by decide, rfl⟩
  · exact ⟨4, by decide, rfl⟩
  · exact ⟨5, by decide, rfl⟩
theorem len_small {n : Nat} (h : isLen n) : 1 ≤ n ∧ n ≤ 32 := by rcases h with rfl | rfl | rfl | rfl | rfl | rfl <;> decide

#print axioms root_len
#print axioms rootU_eq
end Go.Proofs.Ytkilnknndglmnaa
end

section
/- What beat's functions answer: rows taken as numbers, halved and turned, told as sums. -/
namespace Go.Proofs.YtkilnknndglmnaaP
open Go.RowKit Go.Proofs.Ytkilnknndglmnaa Go.Proofs.YtkilnknndglmnaaW.PrintWords

def sG (x : S26) : G := ⟨x.f0, x.f1⟩
def gS (g : G) : S26 := ⟨g.re, g.im⟩
theorem sG_gS (g : G) : sG (gS g) = g := rfl
theorem gS_sG (x : S26) : gS (sG x) = x := rfl
theorem w64 {x : Int} (h1 : -9223372036854775808 ≤ x) (h2 : x ≤ 9223372036854775807) : wrap64 x = x := by unfold wrap64; omega
theorem ev_now {α : Type} {g : Nat → Option α} {r : α} (h : ∀ k, g (k + 1) = some r) : Ev g r := Ev.step h (Ev.now r)

/-- The lengths of rows that can be turned. -/
def lenB (n : Nat) : Bool := n == 1 || n == 2 || n == 4 || n == 8 || n == 16 || n == 32
theorem lenB_iff {n : Nat} : lenB n = true ↔ isLen n := by simp [lenB, isLen]; omega
theorem turns_small : ∀ i : Fin 33, 1 ≤ i.val → ((Go.bits .and .i64 (i.val : Int) (wrap64 ((i.val : Int) - 1))) == 0) = lenB i.val := by decide +kernel
theorem turns_f (n : Nat) : beat_turns.f (n : Int) = some (lenB n) := by
  unfold beat_turns.f
  by_cases h1 : 1 ≤ n
  · by_cases h2 : n ≤ 32
    · rw [if_pos (by omega), if_pos (by omega), turns_small ⟨n, by omega⟩ h1]
    · rw [if_pos (by omega), if_neg (by omega)]
      congr 1
      simp [lenB]; omega
  · rw [if_neg (by omega)]
    have : n = 0 := by omega
    subst this
    rfl
theorem right_f (a b : Int) : seal_Right.f a b = some (isSB ⟨a, b⟩) := by
  unfold seal_Right.f isSB
  by_cases h1 : 0 ≤ a
  · by_cases h2 : a < 16777199
    · by_cases h3 : 0 ≤ b
      · rw [if_pos (by omega), if_pos h2, if_pos (by omega)]
        simp [h1, h2, h3]
      · rw [if_pos (by omega), if_pos h2, if_neg (by omega)]
        simp; omega
    · rw [if_pos (by omega), if_neg h2]
      simp; omega
  · rw [if_neg (by omega)]
    simp; omega
theorem small_ok {g : G} (h : IsS g) : okG g = true := by unfold IsS at h; exact okG_iff.2 (by omega)
theorem mul_ok {u v : G} (hu : IsS u) (hv : IsS v) : okG (G.mul u v) = true := by
  have su := isS_sm hu
  have sv := isS_sm hv
  exact okG_iff.2 (mul_in su.1 su.2 sv.1 sv.2)
theorem add_ok {u v : G} (hu : IsS u) (hv : IsS v) : okG (G.add u v) = true := by unfold IsS at hu hv; exact okG_iff.2 (by simp only [G.add]; omega)
theorem sub_ok {u v : G} (hu : IsS u) (hv : IsS v) : okG (G.sub u v) = true := by unfold IsS at hu hv; exact okG_iff.2 (by simp only [G.sub]; omega)
theorem rest_f {g : G} (h : okG g = true) : beat_rest.f g = some (red g) := by unfold beat_rest.f; rw [if_pos h]
theorem seal_f {g : G} (h : okG g = true) : seal_seal.f g = some ((red g).re, (red g).im) := by unfold seal_seal.f; rw [if_pos h]
theorem okC_of {u v : G} (hu : IsS u) (hv : IsS v) : okC u v = true := okC_iff.2 ⟨hu, hv⟩

/-- Powers: 1, of a seal. -/
theorem power_f {x : G} (hx : IsS x) {n : Nat} (hn : n ≤ 1000000000) : seal_Power.f x.re x.im (n : Int) = some ((red (G.pow x n)).re, (red (G.pow x n)).im, 0) := by
  unfold seal_Power.f
  rw [right_f, show isSB ⟨x.re, x.im⟩ = true from isSB_iff.2 hx]
  simp only [Option.bind_some, if_true]
  rw [if_neg (by omega)]
  simp only [seal_number.f, Option.bind_some, seal_power.f]
  rw [if_pos ⟨isSB_iff.2 hx, by omega, by omega⟩]
  simp only [Option.bind_some]
  rw [seal_f (small_ok (red_isS _))]
  simp only [Option.bind_some, red_red]
  rfl
theorem times_f (u v : G) : Ev (fun k => seal_Times.f k u.re u.im v.re v.im) (if isSB u && isSB v then ((red (G.mul u v)).re, (red (G.mul u v)).im, 0) else (0, 0, 20)) := by
  have e1 : ∀ k, seal_Times.f k u.re u.im v.re v.im = if isSB u = true then seal_Times.j0 k (!isSB v) u.re u.im v.re v.im else seal_Times.j0 k true u.re u.im v.re v.im := fun k => by
    unfold seal_Times.f
    rw [right_f, right_f]
    rfl
  refine Ev.congr e1 ?_
  cases h1 : isSB u with
  | false =>
    simp only [Bool.false_eq_true, if_false, Bool.false_and]
    exact ev_now fun k => by simp [seal_Times.j0]
  | true =>
    cases h2 : isSB v with
    | false =>
      simp only [if_true, Bool.not_false, Bool.and_false, Bool.false_eq_true, if_false]
      exact ev_now fun k => by simp [seal_Times.j0]
    | true =>
      simp only [if_true, Bool.not_true, Bool.and_true]
      have hu := isSB_iff.1 h1
      have hv := isSB_iff.1 h2
      refine ev_now fun k => ?_
      simp only [seal_Times.j0, Bool.false_eq_true, if_false, seal_number.f, Option.bind_some]
      rw [if_pos (okC_of hu hv), seal_f (mul_ok hu hv)]
      rfl
theorem times_ok {u v : G} (hu : IsS u) (hv : IsS v) : Ev (fun k => seal_Times.f k u.re u.im v.re v.im) ((red (G.mul u v)).re, (red (G.mul u v)).im, 0) := by
  have h := times_f u v
  rw [isSB_iff.2 hu, isSB_iff.2 hv] at h
  exact h
theorem root_f (n : Nat) : beat_Root.f (n : Int) = some (if lenB n then ((rootW n).re, (rootW n).im, 0) else (0, 0, 210)) := by
  unfold beat_Root.f
  rw [turns_f]
  simp only [Option.bind_some]
  cases h : lenB n with
  | false => rfl
  | true =>
    have hl := lenB_iff.1 h
    have hs := len_small hl
    have hd : wrap64 ((32 : Int) / (n : Int)) = ((32 / n : Nat) : Int) := by
      have hle := Nat.div_le_self 32 n
      have e : (32 : Int) / (n : Int) = ((32 / n : Nat) : Int) := rfl
      rw [e]
      clear e
      generalize 32 / n = q at hle ⊢
      exact w64 (by omega) (by omega)
    simp only [if_true]
    rw [if_neg (by omega), hd]
    have hp := power_f (x := ⟨6054027, 3622869⟩) (by simp [IsS]) (n := 32 / n) (by have := Nat.div_le_self 32 n; omega)
    rw [rootW_eq hl] at hp
    rw [hp]
    rfl

/-! ### A row as numbers -/
theorem numbers_loop (l : List S26) (hl : l.length ≤ 1000) : ∀ (d i : Nat), l.length - i = d → i ≤ l.length →
    Ev (fun k => beat_numbers.l0 k ((l.take i).map sG) l (l.length : Int) (i : Int)) (if (l.drop i).all (fun x => isSB (sG x)) then (l.map sG, 0) else ([], 20)) := by
  intro d
  induction d with
  | zero =>
    intro i hd hi
    have e : i = l.length := by omega
    subst e
    refine ev_now fun k => ?_
    simp only [beat_numbers.l0]
    rw [if_neg (by omega)]
    simp
  | succ d ih =>
    intro i hd hi
    have hlt : i < l.length := by omega
    have hrd : rd_T26 l (i : Int) = l[i] := by simp [rd_T26, hlt]
    have hdrop : l.drop i = l[i] :: l.drop (i + 1) := List.drop_eq_getElem_cons hlt
    have htake : (l.take (i + 1)).map sG = (l.take i).map sG ++ [sG l[i]] := by rw [List.take_succ_eq_append_getElem hlt, List.map_append]; rfl
    rw [hdrop]
    simp only [List.all_cons]
    rcases Bool.eq_false_or_eq_true (isSB (sG l[i])) with hs | hs
    case inr =>
      simp only [hs, Bool.false_and, Bool.false_eq_true, if_false]
      refine ev_now fun k => ?_
      simp only [beat_numbers.l0]
      rw [if_pos (by omega), if_pos (by omega), if_pos (by omega), hrd, right_f, show isSB ⟨l[i].f0, l[i].f1⟩ = false from hs]
      rfl
    case inl =>
      simp only [hs, Bool.true_and]
      refine Ev.step (fun k => ?_) (ih (i + 1) (by omega) (by omega))
      simp only [beat_numbers.l0]
      rw [if_pos (by omega), if_pos (by omega), if_pos (by omega), hrd, right_f, show isSB ⟨l[i].f0, l[i].f1⟩ = true from hs]
      simp only [Option.bind_some, if_true, beat_number.f]
      rw [if_pos (by simp; omega), w64 (by omega) (by omega), htake]
      rfl
theorem numbers_f (l : List S26) : Ev (fun k => beat_numbers.f k l) (if lenB l.length then (if l.all (fun x => isSB (sG x)) then (l.map sG, 0) else ([], 20)) else ([], 210)) := by
  have e : ∀ k, beat_numbers.f k l = if lenB l.length = true then beat_numbers.l0 k [] l (l.length : Int) 0 else some ([], 210) := fun k => by
    unfold beat_numbers.f
    rw [turns_f]
    rfl
  refine Ev.congr e ?_
  cases h : lenB l.length with
  | false => exact Ev.now _
  | true =>
    have hl := len_small (lenB_iff.1 h)
    have := numbers_loop l (by omega) _ 0 rfl (by omega)
    simp only [List.take_zero, List.map_nil, List.drop_zero] at this
    exact this

/-! ### Numbers as a row -/
theorem seals_loop (l : List G) (hs : ∀ g ∈ l, IsS g) (hl : l.length ≤ 1000) : ∀ (d i : Nat), l.length - i = d → i ≤ l.length →
    Ev (fun k => beat_seals.l0 k ((l.take i).map gS) l (l.length : Int) (i : Int)) (l.map gS) := by
  intro d
  induction d with
  | zero =>
    intro i hd hi
    have e : i = l.length := by omega
    subst e
    refine ev_now fun k => ?_
    simp only [beat_seals.l0]
    rw [if_neg (by omega)]
    simp
  | succ d ih =>
    intro i hd hi
    have hlt : i < l.length := by omega
    have hrd : rdOf G.zero l (i : Int) = l[i] := by simp [rdOf, hlt]
    have htake : (l.take (i + 1)).map gS = (l.take i).map gS ++ [gS l[i]] := by rw [List.take_succ_eq_append_getElem hlt, List.map_append]; rfl
    have hi1 := hs l[i] (List.getElem_mem hlt)
    have hg := okG_iff.1 (small_ok hi1)
    refine Ev.step (fun k => ?_) (ih (i + 1) (by omega) (by omega))
    simp only [beat_seals.l0]
    rw [if_pos (by omega), if_pos (by omega), if_pos (by omega), hrd, rest_f (small_ok hi1), red_small hi1]
    simp only [Option.bind_some]
    rw [if_pos (okF_iff.2 hg.1), if_pos (okF_iff.2 hg.2), if_pos (by simp; omega), w64 (by omega) (by omega), htake]
    rfl
theorem seals_f (l : List G) (hs : ∀ g ∈ l, IsS g) (hl : l.length ≤ 1000) : Ev (fun k => beat_seals.f k l) (l.map gS) := by
  have := seals_loop l hs hl _ 0 rfl (by omega)
  simp only [List.take_zero, List.map_nil] at this
  exact this

#print axioms seals_f
#print axioms numbers_f
end Go.Proofs.YtkilnknndglmnaaP
end

section
/- halve answers the turned row: told as sums. -/
namespace Go.Proofs.YtkilnknndglmnaaP
open Go.RowKit Go.Proofs.Ytkilnknndglmnaa Go.Proofs.YtkilnknndglmnaaW.PrintWords

def atG (l : List G) (j : Nat) : G := l.getD j G.zero
/-- The turned row. -/
def trn (l : List G) (w : G) : List G := (List.range l.length).map fun k => red (dft (atG l) l.length w k)
def evs (l : List G) (i : Nat) : List G := (List.range ((i + 1) / 2)).map fun j => atG l (2 * j)
def ods (l : List G) (i : Nat) : List G := (List.range (i / 2)).map fun j => atG l (2 * j + 1)
theorem rdOf_at (l : List G) (i : Nat) : rdOf G.zero l (i : Int) = atG l i := rfl
theorem evs_even {l : List G} {i j : Nat} (h : i = 2 * j) : evs l (i + 1) = evs l i ++ [atG l i] := by
  unfold evs
  rw [show (i + 1 + 1) / 2 = j + 1 by omega, show (i + 1) / 2 = j by omega, List.range_succ, List.map_append, h]
  rfl
theorem evs_odd {l : List G} {i j : Nat} (h : i = 2 * j + 1) : evs l (i + 1) = evs l i := by
  unfold evs
  rw [show (i + 1 + 1) / 2 = (i + 1) / 2 by omega]
theorem ods_odd {l : List G} {i j : Nat} (h : i = 2 * j + 1) : ods l (i + 1) = ods l i ++ [atG l i] := by
  unfold ods
  rw [show (i + 1) / 2 = j + 1 by omega, show i / 2 = j by omega, List.range_succ, List.map_append, h]
  rfl
theorem ods_even {l : List G} {i j : Nat} (h : i = 2 * j) : ods l (i + 1) = ods l i := by
  unfold ods
  rw [show (i + 1) / 2 = i / 2 by omega]
theorem evs_len (l : List G) (i : Nat) : (evs l i).length = (i + 1) / 2 := by simp [evs]
theorem ods_len (l : List G) (i : Nat) : (ods l i).length = i / 2 := by simp [ods]
theorem atG_map {n : Nat} (f : Nat → G) {k : Nat} (h : k < n) : atG ((List.range n).map f) k = f k := by simp [atG, h]
theorem atG_isS {l : List G} (h : ∀ g ∈ l, IsS g) (j : Nat) : IsS (atG l j) := by
  unfold atG
  rw [List.getD_eq_getElem?_getD]
  cases hj : l[j]? with
  | none => simp [IsS, G.zero]
  | some v => exact h v (List.mem_of_getElem? hj)

/-- The splitting loop. -/
theorem split_loop (l : List G) (w : G) (n : Nat) (hn : l.length = n) (hl : n ≤ 1000) (r : List G) (hr : Ev (fun k => beat_halve.l0 k w (n : Int) (evs l n) (ods l n) l (n : Int) (n : Int)) r) :
    ∀ (d i : Nat), n - i = d → i ≤ n → Ev (fun k => beat_halve.l0 k w (n : Int) (evs l i) (ods l i) l (n : Int) (i : Int)) r := by
  intro d
  induction d with
  | zero =>
    intro i hd hi
    rw [show i = n by omega]
    exact hr
  | succ d ih =>
    intro i hd hi
    have hi2 : i < n := by omega
    rcases (show ∃ j, i = 2 * j ∨ i = 2 * j + 1 from ⟨i / 2, by omega⟩) with ⟨j, hj | hj⟩
    · refine Ev.step (fun k => ?_) (ih (i + 1) (by omega) (by omega))
      rw [evs_even hj, ods_even hj]
      simp only [beat_halve.l0]
      rw [if_pos (by omega), if_pos (by omega), if_pos (by omega), if_pos (by rw [Int.tmod_eq_emod_of_nonneg (by omega)]; omega), if_pos (by rw [evs_len]; omega), w64 (by omega) (by omega), rdOf_at]
      rfl
    · refine Ev.step (fun k => ?_) (ih (i + 1) (by omega) (by omega))
      rw [evs_odd hj, ods_odd hj]
      simp only [beat_halve.l0]
      rw [if_pos (by omega), if_pos (by omega), if_pos (by omega), if_neg (by rw [Int.tmod_eq_emod_of_nonneg (by omega)]; omega), if_pos (by rw [ods_len]; omega), w64 (by omega) (by omega), rdOf_at]
      rfl

/-- The row, filled as far as j in both halves. -/
def fil (F : Nat → G) (h j : Nat) : List G := (List.range (2 * h)).map fun p => if p < j ∨ h ≤ p ∧ p < h + j then F p else G.zero
theorem fil_zero (F : Nat → G) (h : Nat) : fil F h 0 = List.replicate (2 * h) G.zero := by
  unfold fil
  apply List.ext_getElem (by simp)
  intro p h1 h2
  simp
  omega
theorem fil_full (F : Nat → G) (h : Nat) : fil F h h = (List.range (2 * h)).map F := by
  unfold fil
  refine List.map_congr_left fun p hp => ?_
  rw [List.mem_range] at hp
  rw [if_pos (by omega)]
theorem fil_step (F : Nat → G) {h j : Nat} (hj : j < h) : ((fil F h j).set j (F j)).set (j + h) (F (j + h)) = fil F h (j + 1) := by
  unfold fil
  apply List.ext_getElem (by simp)
  intro p h1 h2
  have hp : p < 2 * h := by simpa using h2
  rw [List.getElem_set]
  by_cases e1 : j + h = p
  · rw [if_pos e1]
    subst e1
    simp only [List.getElem_map, List.getElem_range]
    rw [if_pos (by omega)]
  · rw [if_neg e1, List.getElem_set]
    by_cases e2 : j = p
    · rw [if_pos e2]
      subst e2
      simp only [List.getElem_map, List.getElem_range]
      rw [if_pos (by omega)]
    · rw [if_neg e2]
      simp only [List.getElem_map, List.getElem_range]
      by_cases e3 : p < j ∨ h ≤ p ∧ p < h + j
      · rw [if_pos e3, if_pos (by omega)]
      · rw [if_neg e3, if_neg (by omega)]
theorem fil_len (F : Nat → G) (h j : Nat) : (fil F h j).length = 2 * h := by simp [fil]

/-- The joining loop. -/
theorem join_loop (F : Nat → G) (ev od : List G) (w : G) (h : Nat) (hh : 1 ≤ h) (hh2 : h ≤ 1000) (he : ev.length = h) (ho : od.length = h) (hes : ∀ g ∈ ev, IsS g) (hos : ∀ g ∈ od, IsS g) (hw : IsS w)
    (hlow : ∀ j, j < h → F j = red (G.add (atG ev j) (G.mul (G.pow w j) (atG od j)))) (hhigh : ∀ j, j < h → F (j + h) = red (G.sub (atG ev j) (G.mul (G.pow w j) (atG od j)))) :
    ∀ (d j : Nat), h - j = d → j < h → Ev (fun k => beat_halve.l1 k w ((2 * h : Nat) : Int) ev od (fil F h j) (red (G.pow w j)) (j : Int)) ((List.range (2 * h)).map F) := by
  intro d
  induction d with
  | zero => intro j hd hj; omega
  | succ d ih =>
    intro j hd hj
    have htd : wrap64 (Int.tdiv ((2 * h : Nat) : Int) 2) = (h : Int) := by
      rw [Int.tdiv_eq_ediv_of_nonneg (by omega)]
      exact (w64 (by omega) (by omega)).trans (by omega)
    have hjh : wrap64 ((j : Int) + (h : Int)) = ((j + h : Nat) : Int) := (w64 (by omega) (by omega)).trans (by omega)
    have hj1 : wrap64 ((j : Int) + 1) = ((j + 1 : Nat) : Int) := (w64 (by omega) (by omega)).trans (by omega)
    have se := atG_isS hes j
    have so := atG_isS hos j
    have sw := red_isS (G.pow w j)
    have t1 : red (G.mul (red (G.pow w j)) (atG od j)) = red (G.mul (G.pow w j) (atG od j)) := mul_cong (red_red _) rfl
    have st := red_isS (G.mul (G.pow w j) (atG od j))
    have t2 : red (G.add (atG ev j) (red (G.mul (G.pow w j) (atG od j)))) = F j := by rw [hlow j hj]; exact add_cong rfl (red_red _)
    have t3 : red (G.sub (atG ev j) (red (G.mul (G.pow w j) (atG od j)))) = F (j + h) := by
      rw [hhigh j hj, G.sub_eq, G.sub_eq]; exact add_cong rfl (by rw [red_neg])
    have t4 : red (G.mul (red (G.pow w j)) w) = red (G.pow w (j + 1)) := mul_cong (red_red _) rfl
    have e : ∀ k, beat_halve.l1 (k + 1) w ((2 * h : Nat) : Int) ev od (fil F h j) (red (G.pow w j)) (j : Int) =
        if j + 1 < h then beat_halve.l1 k w ((2 * h : Nat) : Int) ev od (fil F h (j + 1)) (red (G.pow w (j + 1))) ((j + 1 : Nat) : Int) else some (fil F h (j + 1)) := fun k => by
      simp only [beat_halve.l1]
      rw [htd, hjh, hj1, if_pos (by omega), if_pos (by omega), rdOf_at, rdOf_at, if_pos (okC_of sw so), rest_f (mul_ok sw so), t1]
      simp only [Option.bind_some]
      rw [if_pos (by omega), if_pos (okC_of se st), rest_f (add_ok se st), rest_f (sub_ok se st), t2, t3]
      simp only [Option.bind_some]
      rw [if_pos (by rw [fil_len]; omega), if_pos (by omega), if_pos (by rw [fil_len]; omega), if_pos (okC_of sw hw), rest_f (mul_ok sw hw), t4]
      simp only [Option.bind_some, Int.toNat_natCast]
      rw [fil_step F hj]
      by_cases hc : j + 1 < h
      · rw [if_pos hc, if_pos (by omega)]
      · rw [if_neg hc, if_neg (by omega)]
    by_cases hc : j + 1 < h
    · refine Ev.step (f := fun k => beat_halve.l1 k w ((2 * h : Nat) : Int) ev od (fil F h (j + 1)) (red (G.pow w (j + 1))) ((j + 1 : Nat) : Int)) (fun k => ?_) (ih (j + 1) (by omega) hc)
      rw [e k, if_pos hc]
    · refine ev_now fun k => ?_
      rw [e k, if_neg hc, show j + 1 = h by omega, fil_full]

theorem trn_len (l : List G) (w : G) : (trn l w).length = l.length := by simp [trn]
theorem trn_isS (l : List G) (w : G) : ∀ g ∈ trn l w, IsS g := by
  intro g hg
  unfold trn at hg
  obtain ⟨k, _, rfl⟩ := List.mem_map.1 hg
  exact red_isS _
theorem atG_trn {l : List G} {w : G} {k : Nat} (h : k < l.length) : atG (trn l w) k = red (dft (atG l) l.length w k) := atG_map _ h

theorem halve_f : ∀ (m : Nat) (l : List G) (w : G), m ≤ 8 → l.length = 2 ^ m → (∀ g ∈ l, IsS g) → IsS w → (1 ≤ m → red (G.pow w (2 ^ (m - 1))) = red (G.neg G.one)) →
    Ev (fun k => beat_halve.f k l w) (trn l w)
  | 0, l, w, _, hl, hs, _, _ => by
    refine ev_now fun k => ?_
    simp only [beat_halve.f]
    rw [if_pos (by rw [hl]; rfl)]
    congr 1
    match l, hl, hs with
    | [g], _, hs =>
      have hg := hs g (by simp)
      simp [trn, dft, sm, atG, G.pow, G.mul_one, G.zero_add, red_small hg]
  | m + 1, l, w, hm, hl, hs, hw, hroot => by
    have hpow : 2 ^ m ≤ 256 := Nat.le_trans (Nat.pow_le_pow_right (by decide : 0 < 2) (show m ≤ 8 by omega)) (by decide)
    have h1 : 1 ≤ 2 ^ m := Nat.one_le_two_pow
    generalize hh : 2 ^ m = h at hpow h1
    have hl2 : l.length = 2 * h := by rw [hl, Nat.pow_succ, hh]; omega
    have hroot2 : red (G.pow w h) = red (G.neg G.one) := by rw [← hh]; exact hroot (by omega)
    have hmem : ∀ (n : Nat) (f : Nat → Nat), ∀ g ∈ (List.range n).map (fun j => atG l (f j)), IsS g := fun n f g hg => by
      obtain ⟨k, _, rfl⟩ := List.mem_map.1 hg
      exact atG_isS hs _
    have hev : (evs l (2 * h)).length = h := by rw [evs_len]; omega
    have hod : (ods l (2 * h)).length = h := by rw [ods_len]; omega
    have hsub : ∀ (q : List G), q.length = h → (∀ g ∈ q, IsS g) → Ev (fun k => beat_halve.f k q (red (G.mul w w))) (trn q (red (G.mul w w))) := fun q hq hqs => by
      refine halve_f m q _ (by omega) (by rw [hq, hh]) hqs (red_isS _) fun hm1 => ?_
      rw [pow_cong (red_red (G.mul w w)), ← G.pow_two, ← G.pow_mul, show 2 * 2 ^ (m - 1) = h by rw [← hh, ← Nat.pow_succ']; congr 1; omega]
      exact hroot2
    have ge := hsub (evs l (2 * h)) (by omega) (hmem _ _)
    have go := hsub (ods l (2 * h)) (by omega) (hmem _ _)
    have hEven : ∀ j, j < h → atG (trn (evs l (2 * h)) (red (G.mul w w))) j = red (dft (fun i => atG l (2 * i)) h (G.mul w w) j) := fun j hj => by
      rw [atG_trn (by omega), show (evs l (2 * h)).length = h by omega]
      refine dft_cong (fun i hi => ?_) (red_red _) j
      unfold evs
      rw [atG_map _ (by omega)]
    have hOdd : ∀ j, j < h → atG (trn (ods l (2 * h)) (red (G.mul w w))) j = red (dft (fun i => atG l (2 * i + 1)) h (G.mul w w) j) := fun j hj => by
      rw [atG_trn (by omega), show (ods l (2 * h)).length = h by omega]
      refine dft_cong (fun i hi => ?_) (red_red _) j
      unfold ods
      rw [atG_map _ (by omega)]
    refine Ev.step (f := fun k => beat_halve.l0 k w (l.length : Int) [] [] l (l.length : Int) 0) (fun k => ?_) ?_
    · simp only [beat_halve.f]
      rw [if_neg (by omega)]
    rw [hl2]
    refine split_loop l w (2 * h) hl2 (by omega) _ ?_ (2 * h) 0 rfl (by omega)
    have hj := join_loop (fun k => red (dft (atG l) (2 * h) w k)) (trn (evs l (2 * h)) (red (G.mul w w))) (trn (ods l (2 * h)) (red (G.mul w w))) w h h1 (by omega) (by rw [trn_len]; omega) (by rw [trn_len]; omega) (trn_isS _ _) (trn_isS _ _) hw
      (fun j hj => by
        rw [hEven j hj, hOdd j hj, fft_low]
        exact add_cong (red_red _).symm (mul_cong rfl (red_red _).symm))
      (fun j hj => by
        rw [hEven j hj, hOdd j hj, fft_high _ _ _ hroot2, G.sub_eq, G.sub_eq]
        exact add_cong (red_red _).symm (neg_cong (mul_cong rfl (red_red _).symm))) _ 0 rfl h1
    have hfin : (List.range (2 * h)).map (fun k => red (dft (atG l) (2 * h) w k)) = trn l w := by unfold trn; rw [hl2]
    rw [hfin, fil_zero] at hj
    refine Ev.step (f := fun k => (beat_halve.f k (evs l (2 * h)) (red (G.mul w w))).bind fun a => (beat_halve.f k (ods l (2 * h)) (red (G.mul w w))).bind fun b => beat_halve.l1 k w ((2 * h : Nat) : Int) a b (List.replicate (2 * h) G.zero) (red (G.pow w 0)) ((0 : Nat) : Int)) (fun k => ?_) (Ev.bind ge (Ev.bind go hj))
    simp only [beat_halve.l0]
    rw [if_neg (by omega), if_pos (okC_of hw hw), rest_f (mul_ok hw hw)]
    simp only [Option.bind_some]
    congr 1
    funext a
    congr 1
    funext b
    rw [if_pos (by omega), if_pos (by omega), Int.toNat_natCast]
    rfl

#print axioms halve_f
end Go.Proofs.YtkilnknndglmnaaP
end

section
-- Laid by given.py, a program of this seat, with the kit's printer.
namespace Go.Proofs.YtkilnknndglmnaaP
open Go.Proofs.Ytkilnknndglmnaa (G fl IsS isSB okC okF okC_iff encC kcx at_cx md red run_cmul run_cadd run_csub run_fint lit_one lit_zero tdiv_32 run_store_cx)
attribute [local go_sem] run_cmul run_cadd run_csub run_fint lit_one lit_zero tdiv_32 run_store_cx
open Go.RowKit Go.Proofs.YtkilnknndglmnaaW.PrintWords Go.Proofs.YtkilnknndglmnaaW.PrintLast Go.Proofs.YtkilnknndglmnaaW.PrintMore
attribute [local go_sem] max2_int min2_int max_two min_two max_three min_three max_four min_four   -- for this text's walks alone
set_option linter.unusedVariables false
set_option linter.unusedSimpArgs false

/-! ### api_Seal: function 43 -/
def api_Seal.l0 : Nat → List (S26) → Int → Int → Option ((List (S26)))
 | 0, _, _, _ => none
 | k + 1, x0, x2, x3 => if x2 < x3 then (if 0 ≤ x3 then (if x3 < (x0.length : Int) then (if 0 ≤ x2 then (if x2 < (x0.length : Int) then (api_Seal.l0 k ((x0.set (x2 : Int).toNat (⟨(rd_T26 x0 x3).f0, (rd_T26 x0 x3).f1⟩ : S26)).set (x3 : Int).toNat (⟨(rd_T26 x0 x2).f0, (rd_T26 x0 x2).f1⟩ : S26)) (wrap64 (x2 + 1)) (wrap64 (x3 - 1))) else (none)) else (none)) else (none)) else (none)) else (some x0)
def api_Seal.f (k : Nat) (l0 : List (S26)) : Option ((List (S26))) := api_Seal.l0 k l0 0 (wrap64 ((l0.length : Int) - 1))
theorem api_Seal.mono_l : ∀ k, (∀ y0 y1 y2, LeO (api_Seal.l0 k y0 y1 y2) (api_Seal.l0 (k + 1) y0 y1 y2))
 | 0 => fun _ _ _ r h => by simp [api_Seal.l0] at h
 | k + 1 => by
  have ih0 := api_Seal.mono_l k
  ·intro y0 y1 y2
   unfold api_Seal.l0
   repeat' first
   | (with_reducible exact ih0 _ _ _)
   | (with_reducible exact LeO.refl _)
   | (with_reducible exact LeO.none _)
   | (with_reducible refine LeO.ite ?_ ?_)
   | (with_reducible refine LeO.bind ?_ (fun _ => ?_))
   | exact ih0 _ _ _
   | exact LeO.none _
   | refine LeO.ite ?_ ?_
   | refine LeO.bind ?_ (fun _ => ?_)
theorem api_Seal.mono : ∀ a0 k, LeO (api_Seal.f k a0) (api_Seal.f (k + 1) a0) := by
 intro a0 k
 have ih0 := api_Seal.mono_l k
 unfold api_Seal.f
 repeat' first
   | (with_reducible exact ih0 _ _ _)
   | (with_reducible exact LeO.refl _)
   | (with_reducible exact LeO.none _)
   | (with_reducible refine LeO.ite ?_ ?_)
   | (with_reducible refine LeO.bind ?_ (fun _ => ?_))
   | exact ih0 _ _ _
   | exact LeO.none _
   | refine LeO.ite ?_ ?_
   | refine LeO.bind ?_ (fun _ => ?_)
def api_Seal.T3 : Bool × List (List Nat × List Nat) := (true, [([], []), ([], []), ([], []), ([], []), ([], []), ([], []), ([4, 5], [4, 5]), ([6], [6]), ([], []), ([], []), ([8, 9], [8, 9]), ([10], [10]), ([0, 1, 0, 1, 4, 5, 6, 7, 11], [0, 1]), ([12, 7, 0, 1, 4, 5, 6, 7, 11], [7, 12]), ([2, 3, 0, 1, 2, 3, 4, 5, 6, 7, 8, 9, 10, 11, 12, 13], [2, 3]), ([14, 11, 13, 0, 1, 2, 3, 4, 5, 6, 7, 8, 9, 10, 11, 12, 13], [11, 14])])
def api_Seal.B3 : List Nat := [0, 0, 0, 0, 0, 0, 48, 112, 0, 0, 768, 1792, 4083, 8179, 16383, 32767]
theorem api_Seal.tab3 : rtab .any (opsOf Try.f43 3) = api_Seal.T3 := by kernel_rfl
theorem api_Seal.bits3 : waitsOk api_Seal.T3.2 api_Seal.B3 = true := by kernel_rfl
set_option maxHeartbeats 8000000 in
set_option maxRecDepth 100000 in
theorem api_Seal.calls (k : Nat) (P0_ : Nat → Prop) (u9000_ : Value) (l0 : List (S26)) (r : List (S26)) (w0 w : World) (hB : Below w0.heap.size w0 w) (ho0 : Kd.R k26 26 w w0.heap.size P0_ u9000_ l0) (h : api_Seal.f k l0 = some r) :
  Calls Try.prog 43 #[u9000_] w fun e w' => e = .returned (.tuple #[]) ∧ Kd.R k26 26 w' w0.heap.size (fun k_ => (P0_ k_ ∨ w.heap.size ≤ k_)) u9000_ r ∧ Below w0.heap.size w0 w' ∧ Kept w w' (fun k_ => P0_ k_) := by
 have hu26 := Try.underlying26
 have HO0 := Aside0.mk (show Kd.R k26 26 w w0.heap.size (fun k_ => (P0_ k_ ∨ w.heap.size ≤ k_)) u9000_ l0 from Kd.R_mono ho0 (fun k_ hk => (.inl hk)))
 have HK := Aside0.mk (Kept.refl w (fun k_ => P0_ k_))
 have HW0 := Aside0.mk hB.size
 have HB := Aside0.mk hB
 clear hB
 have H : (api_Seal.l0 k l0 0 (wrap64 ((l0.length : Int) - 1))) = some r := h
 clear h
 have H' := Aside0.mk H
 clear H
 obtain ⟨Ao2, co2, eo2⟩ := Kd.R_slice HO0.out
 subst eo2
 go_enter Try.func43, Try.ntmps43
 go_wp2
 go_loopg [2, 3] k (fun kq v2 v3 w' => ∃ (x0_1 : List (S26)) (x2_1 : Int) (x3_1 : Int), v2 = .int .i64 x2_1 ∧ v3 = .int .i64 x3_1 ∧ Aside0 (api_Seal.l0 kq x0_1 x2_1 x3_1 = some r) ∧ Aside0 (kq ≤ k) ∧ Aside0 (Kd.R k26 26 w' w0.heap.size (fun k_ => (P0_ k_ ∨ w.heap.size ≤ k_)) (.slice Ao2 l0.length co2) x0_1) ∧ Aside0 (Kept w w' (fun k_ => P0_ k_)) ∧ Aside0 (Below w0.heap.size w0 w'))
 case atStart => exact ⟨(l0), (0), (wrap64 ((l0.length : Int) - 1)), (by first | rfl | (simp; done) | (simp [*]; done) | (simp [Int.tdiv_eq_ediv_of_nonneg]; done)), (by first | rfl | (simp; done) | (simp [*]; done) | (simp [Int.tdiv_eq_ediv_of_nonneg]; done)), H', ⟨Nat.le_refl _⟩, ⟨by (with_reducible repeat (first | apply Kd.R_alloc | apply Kd.R_drewN | apply Kd.R_drew)); exact HO0.out⟩, ⟨by repeat (first | (with_reducible first | exact HK.out | apply Kept.alloc | apply Kept.drewN | apply Kept.drew) | exact HK.out)⟩, ⟨by repeat (first | (with_reducible first | exact HB.out | apply below_alloc | apply pw_below_drewN | apply below_drew1) | exact HB.out)⟩⟩
 case round =>
  clear H'
  try clear p2
  obtain ⟨x0_1, x2_1, x3_1, rfl, rfl, HA, HK1, HO_0, HK, HB⟩ := hrel
  have hl0_1 := (Kd.R_reads' HO_0.out).1
  rw [hl0_1] at HO_0
  (try simp only [hl0_1])
  cases gk with
  | zero => exact absurd HA.out (by simp [api_Seal.l0])
  | succ k1 =>
   have H := HA.out
   clear HA
   simp only [api_Seal.l0] at H
   by_cases c3 : x2_1 < x3_1
   ·rw [if_pos c3] at H
    have c3b0 : decide (x2_1 < x3_1) = true := decide_eq_true c3
    clear c3
    by_cases c4 : 0 ≤ x3_1
    ·rw [if_pos c4] at H
     have c4b0 : decide (0 ≤ x3_1) = true := decide_eq_true c4
     clear c4
     by_cases c5 : x3_1 < (x0_1.length : Int)
     ·rw [if_pos c5] at H
      have c5b0 : decide (x3_1 < (x0_1.length : Int)) = true := decide_eq_true c5
      clear c5
      by_cases c6 : 0 ≤ x2_1
      ·rw [if_pos c6] at H
       have c6b0 : decide (0 ≤ x2_1) = true := decide_eq_true c6
       clear c6
       by_cases c7 : x2_1 < (x0_1.length : Int)
       ·rw [if_pos c7] at H
        have c7b0 : decide (x2_1 < (x0_1.length : Int)) = true := decide_eq_true c7
        clear c7
        obtain ⟨y179, hy179⟩ : ∃ y_ : List (S26), y_ = (x0_1.set (x2_1 : Int).toNat (⟨(rd_T26 x0_1 x3_1).f0, (rd_T26 x0_1 x3_1).f1⟩ : S26)) := ⟨_, rfl⟩
        replace H : (api_Seal.l0 k1 (y179.set (x3_1 : Int).toNat (⟨(rd_T26 x0_1 x2_1).f0, (rd_T26 x0_1 x2_1).f1⟩ : S26)) (wrap64 (x2_1 + 1)) (wrap64 (x3_1 - 1))) = some r := by first | (rw [hy179]; with_reducible exact H) | (have H2_ := (Option.bind_some _ _).symm.trans H; rw [hy179]; with_reducible exact H2_) | (have H2_ := (Option.bind_some _ _).symm.trans H; with_reducible exact H2_) | with_reducible exact H | (rw [hy179]; exact H) | exact H
        have Ny179 := Aside0.mk hy179
        clear hy179
        obtain ⟨y180, hy180⟩ : ∃ y_ : List (S26), y_ = (y179.set (x3_1 : Int).toNat (⟨(rd_T26 x0_1 x2_1).f0, (rd_T26 x0_1 x2_1).f1⟩ : S26)) := ⟨_, rfl⟩
        replace H : (api_Seal.l0 k1 y180 (wrap64 (x2_1 + 1)) (wrap64 (x3_1 - 1))) = some r := by first | (rw [hy180]; with_reducible exact H) | (have H2_ := (Option.bind_some _ _).symm.trans H; rw [hy180]; with_reducible exact H2_) | (have H2_ := (Option.bind_some _ _).symm.trans H; with_reducible exact H2_) | with_reducible exact H | (rw [hy180]; exact H) | exact H
        have Ny180 := Aside0.mk hy180
        clear hy180
        have H' := Aside0.mk H
        clear H
        try go_wp2
        have n0_ := Aside0.mk (Kd.R_drew HO_0.out)
        have n1_ := Aside0.mk (Kept.drew HK.out)
        have n2_ := Aside0.mk (below_drew1 HB.out)
        clear HO_0
        clear HK
        clear HB
        have HO_0 := n0_
        have HK := n1_
        have HB := n2_
        clear n0_ n1_ n2_
        have p177 : 0 ≤ (x3_1 : Int) := of_decide_eq_true (by first | (with_reducible assumption) | assumption)
        have q177 : x3_1 < (x0_1.length : Int) := of_decide_eq_true (by first | (with_reducible assumption) | assumption)
        obtain ⟨ad177, e177, hx177_0, hx177_1⟩ := at_T26 (Kd.R_reads' HO_0.out).2.2 x3_1 p177 q177
        cases e177
        replace p177 := eq_true p177
        replace q177 := eq_true q177
        have p178 : 0 ≤ (x2_1 : Int) := of_decide_eq_true (by first | (with_reducible assumption) | assumption)
        have q178 : x2_1 < (x0_1.length : Int) := of_decide_eq_true (by first | (with_reducible assumption) | assumption)
        obtain ⟨ad178, e178, hx178_0, hx178_1⟩ := at_T26 (Kd.R_reads' HO_0.out).2.2 x2_1 p178 q178
        obtain rfl : ad177 = ad178 := (by injection e178)
        replace p178 := eq_true p178
        replace q178 := eq_true q178
        have p8 : 0 ≤ (x2_1 : Int) := of_decide_eq_true (by first | (with_reducible assumption) | assumption)
        have q8 : (x2_1 : Int) < ((x0_1.length : Int) : Int) := of_decide_eq_true (by first | (with_reducible assumption) | assumption)
        obtain ⟨go8, co8, eo8, gb8, gl8, cl8, HG8⟩ := Kd.R_form HO_0.out (by omega)
        (first | cases eo8 | (injection eo8 with ea_ en_ ec_; (first | subst ea_ | (injection ea_ with ea_; subst ea_)); subst ec_; clear en_))
        have GB8 := Aside0.mk gb8
        have GG8 := Aside0.mk HG8
        clear gb8 gl8 HG8
        have HMgo8 := Aside0.mk (show (P0_ go8 ∨ w.heap.size ≤ go8) from (HO_0.out.1 _ rfl))
        (first | simp only [add_plain] at hx177_0 | skip)
        (first | simp only [add_plain] at hx177_1 | skip)
        (first | simp only [add_plain] at hx178_0 | skip)
        (first | simp only [add_plain] at hx178_1 | skip)
        obtain ⟨ce8, hcl8, hM8, hcc8, hfr8⟩ := Kd.R_elem HO_0.out z26 (x2_1 : Int) p8 q8
        obtain rfl := k26_openM hM8
        have hx8_0 : World.cell? _ ⟨go8, (x2_1 : Int).toNat * 2, none⟩ = some (.int .i64 ((rd_T26 x0_1 x2_1).f0)) := hcc8 0 _ rfl
        have hx8_1 : World.cell? _ ⟨go8, (x2_1 : Int).toNat * 2 + 1, none⟩ = some (.int .i64 ((rd_T26 x0_1 x2_1).f1)) := hcc8 1 _ rfl
        have hf8_0 : World.frozen? _ ⟨go8, (x2_1 : Int).toNat * 2, none⟩ = false := hfr8 0
        have hf8_1 : World.frozen? _ ⟨go8, (x2_1 : Int).toNat * 2 + 1, none⟩ = false := hfr8 1
        clear hcl8 hcc8 hfr8 hM8
        replace p8 := eq_true p8
        replace q8 := eq_true q8
        obtain ⟨ce11, hcl11, hM11, hcc11, hfr11⟩ := Kd.R_elem HO_0.out z26 (x2_1 : Int) (of_decide_eq_true (by first | (with_reducible assumption) | assumption)) (by have h_ : (x2_1 : Int) < ((x0_1.length : Int) : Int) := of_decide_eq_true (by first | (with_reducible assumption) | assumption); first | exact h_ | (have e_ := (Kd.R_reads' HO_0.out).1; omega) | simpa using h_)
        obtain rfl := k26_openM hM11
        have HP11 := (Kd.R_seg HO_0.out (x2_1 : Int) (of_decide_eq_true (by first | (with_reducible assumption) | assumption)) (by have h_ : (x2_1 : Int) < ((x0_1.length : Int) : Int) := of_decide_eq_true (by first | (with_reducible assumption) | assumption); first | exact h_ | (have e_ := (Kd.R_reads' HO_0.out).1; omega) | simpa using h_) (seg := [.int .i64 ((rd_T26 x0_1 x3_1).f0), .int .i64 ((rd_T26 x0_1 x3_1).f1)]) (j := 0) hcl11 hcc11 (show 2 ≤ 2 from by decide) (x' := (⟨(rd_T26 x0_1 x3_1).f0, (rd_T26 x0_1 x3_1).f1⟩ : S26)) (k26_mkM _ _ _ (⟨(rd_T26 x0_1 x3_1).f0, (rd_T26 x0_1 x3_1).f1⟩ : S26) ) (fun _ hk => hk)).1
        rw [← Ny179.out] at HP11
        have HQ11 := Aside0.mk HP11
        clear hcl11 hcc11 hfr11 hM11 HP11
        have p9 : 0 ≤ (x3_1 : Int) := of_decide_eq_true (by first | (with_reducible assumption) | assumption)
        have q9 : (x3_1 : Int) < ((x0_1.length : Int) : Int) := of_decide_eq_true (by first | (with_reducible assumption) | assumption)
        obtain ⟨ce9, hcl9, hM9, hcc9, hfr9⟩ := Kd.R_elem HQ11.out z26 (x3_1 : Int) p9 q9
        obtain rfl := k26_openM hM9
        have hx9_0 : World.cell? _ ⟨go8, (x3_1 : Int).toNat * 2, none⟩ = some (.int .i64 ((rd_T26 y179 x3_1).f0)) := hcc9 0 _ rfl
        have hx9_1 : World.cell? _ ⟨go8, (x3_1 : Int).toNat * 2 + 1, none⟩ = some (.int .i64 ((rd_T26 y179 x3_1).f1)) := hcc9 1 _ rfl
        have hf9_0 : World.frozen? _ ⟨go8, (x3_1 : Int).toNat * 2, none⟩ = false := hfr9 0
        have hf9_1 : World.frozen? _ ⟨go8, (x3_1 : Int).toNat * 2 + 1, none⟩ = false := hfr9 1
        clear hcl9 hcc9 hfr9 hM9
        replace p9 := eq_true p9
        replace q9 := eq_true q9
        obtain ⟨ce12, hcl12, hM12, hcc12, hfr12⟩ := Kd.R_elem HQ11.out z26 (x3_1 : Int) (of_decide_eq_true (by first | (with_reducible assumption) | assumption)) (by have h_ : (x3_1 : Int) < ((x0_1.length : Int) : Int) := of_decide_eq_true (by first | (with_reducible assumption) | assumption); first | exact h_ | (have e_ := (Kd.R_reads' HO_0.out).1; omega) | simpa using h_)
        obtain rfl := k26_openM hM12
        have HP12 := (Kd.R_seg HQ11.out (x3_1 : Int) (of_decide_eq_true (by first | (with_reducible assumption) | assumption)) (by have h_ : (x3_1 : Int) < ((x0_1.length : Int) : Int) := of_decide_eq_true (by first | (with_reducible assumption) | assumption); first | exact h_ | (have e_ := (Kd.R_reads' HO_0.out).1; omega) | simpa using h_) (seg := [.int .i64 ((rd_T26 x0_1 x2_1).f0), .int .i64 ((rd_T26 x0_1 x2_1).f1)]) (j := 0) hcl12 hcc12 (show 2 ≤ 2 from by decide) (x' := (⟨(rd_T26 x0_1 x2_1).f0, (rd_T26 x0_1 x2_1).f1⟩ : S26)) (k26_mkM _ _ _ (⟨(rd_T26 x0_1 x2_1).f0, (rd_T26 x0_1 x2_1).f1⟩ : S26) ) (fun _ hk => hk)).1
        rw [← Ny180.out] at HP12
        have HQ12 := Aside0.mk HP12
        clear hcl12 hcc12 hfr12 hM12 HP12
        refine start_ (n := 16) (S := fun w' => w'.cell? ⟨go8, ((x3_1).toNat * 2), none⟩ = some (.int .i64 ((rd_T26 x0_1 x3_1).f0)) ∧ w'.cell? ⟨go8, ((x3_1).toNat * 2) + 1, none⟩ = some (.int .i64 ((rd_T26 x0_1 x3_1).f1)) ∧ w'.cell? ⟨go8, ((x2_1).toNat * 2), none⟩ = some (.int .i64 ((rd_T26 x0_1 x2_1).f0)) ∧ w'.cell? ⟨go8, ((x2_1).toNat * 2) + 1, none⟩ = some (.int .i64 ((rd_T26 x0_1 x2_1).f1))) (ds := [13, 15]) #[false, false, false, false, false, false, false, false, false, false, false, false, false, false, false, false] (by kernel_rfl) rfl rfl ⟨hx177_0, hx177_1, hx178_0, hx178_1⟩ (fun hHeld => ?_); refine with_tabW api_Seal.tab3 api_Seal.bits3 (fun HT_ HW_ => ?_)
        generalize wr.drew = w10 at HO_0 HK HB GG8 HQ11 HQ12 hf8_0 hf8_1 hf9_0 hf9_1 hx177_0 hx177_1 hx178_0 hx178_1 hx8_0 hx8_1 hx9_0 hx9_1 hHeld ⊢
        refine pure_ (i := 0) (N := some 14) (v := ?_) (a' := ?_) #[true, false, false, false, false, false, false, false, false, false, false, false, false, false, false, false] rfl rfl (any_of HT_.out (by kernel_rfl)) (fun _ _ _ h => h) (Or.inl ⟨by rfl, ?_⟩) ?_ ?_
        rotate_left
        ·intro w'
         go_simp
         with_reducible rfl
        rotate_left
        ·simp only [Act.put, List.setIfInBounds_toArray, List.set_cons_zero, List.set_cons_succ, i64_w, i32_w]
         rfl
        refine pure_ (i := 1) (N := some 15) (v := ?_) (a' := ?_) #[true, true, false, false, false, false, false, false, false, false, false, false, false, false, false, false] rfl rfl (any_of HT_.out (by kernel_rfl)) (fun _ _ _ h => h) (Or.inl ⟨by rfl, ?_⟩) ?_ ?_
        rotate_left
        ·intro w'
         go_simp
         with_reducible rfl
        rotate_left
        ·simp only [Act.put, List.setIfInBounds_toArray, List.set_cons_zero, List.set_cons_succ, i64_w, i32_w]
         rfl
        refine pure_ (i := 2) (N := some 16) (v := ?_) (a' := ?_) #[true, true, true, false, false, false, false, false, false, false, false, false, false, false, false, false] rfl rfl (any_of HT_.out (by kernel_rfl)) (fun _ _ _ h => h) (Or.inl ⟨by rfl, ?_⟩) ?_ ?_
        rotate_left
        ·intro w'
         go_simp
         with_reducible rfl
        rotate_left
        ·simp only [Act.put, List.setIfInBounds_toArray, List.set_cons_zero, List.set_cons_succ, i64_w, i32_w]
         rfl
        refine pure_ (i := 3) (N := some 17) (v := ?_) (a' := ?_) #[true, true, true, true, false, false, false, false, false, false, false, false, false, false, false, false] rfl rfl (any_of HT_.out (by kernel_rfl)) (fun _ _ _ h => h) (Or.inl ⟨by rfl, ?_⟩) ?_ ?_
        rotate_left
        ·intro w'
         go_simp
         with_reducible rfl
        rotate_left
        ·simp only [Act.put, List.setIfInBounds_toArray, List.set_cons_zero, List.set_cons_succ, i64_w, i32_w]
         rfl
        refine pure_ (i := 4) (N := some 18) (v := ?_) (a' := ?_) #[true, true, true, true, true, false, false, false, false, false, false, false, false, false, false, false] rfl rfl (any_of HT_.out (by kernel_rfl)) (fun _ _ _ h => h) (Or.inl ⟨by rfl, ?_⟩) ?_ ?_
        rotate_left
        ·intro w'
         go_simp
         with_reducible rfl
        rotate_left
        ·simp only [Act.put, List.setIfInBounds_toArray, List.set_cons_zero, List.set_cons_succ, i64_w, i32_w]
         rfl
        refine pure_ (i := 5) (N := some 19) (v := ?_) (a' := ?_) #[true, true, true, true, true, true, false, false, false, false, false, false, false, false, false, false] rfl rfl (any_of HT_.out (by kernel_rfl)) (fun _ _ _ h => h) (Or.inl ⟨by rfl, ?_⟩) ?_ ?_
        rotate_left
        ·intro w'
         go_simp
         with_reducible rfl
        rotate_left
        ·simp only [Act.put, List.setIfInBounds_toArray, List.set_cons_zero, List.set_cons_succ, i64_w, i32_w]
         rfl
        refine pure_ (i := 6) (N := some 20) (v := ?_) (a' := ?_) #[true, true, true, true, true, true, true, false, false, false, false, false, false, false, false, false] rfl rfl (any_of HT_.out (by kernel_rfl)) (fun _ _ _ h => h) (Or.inl ⟨by rfl, ?_⟩) ?_ ?_
        rotate_left
        ·intro w'
         go_simp
         with_reducible rfl
        rotate_left
        ·simp only [Act.put, List.setIfInBounds_toArray, List.set_cons_zero, List.set_cons_succ, i64_w, i32_w]
         rfl
        refine pure_ (i := 8) (N := some 22) (v := ?_) (a' := ?_) #[true, true, true, true, true, true, true, false, true, false, false, false, false, false, false, false] rfl rfl (any_of HT_.out (by kernel_rfl)) (fun _ _ _ h => h) (Or.inl ⟨by rfl, ?_⟩) ?_ ?_
        rotate_left
        ·intro w'
         go_simp
         with_reducible rfl
        rotate_left
        ·simp only [Act.put, List.setIfInBounds_toArray, List.set_cons_zero, List.set_cons_succ, i64_w, i32_w]
         rfl
        refine pure_ (i := 9) (N := some 23) (v := ?_) (a' := ?_) #[true, true, true, true, true, true, true, false, true, true, false, false, false, false, false, false] rfl rfl (any_of HT_.out (by kernel_rfl)) (fun _ _ _ h => h) (Or.inl ⟨by rfl, ?_⟩) ?_ ?_
        rotate_left
        ·intro w'
         go_simp
         with_reducible rfl
        rotate_left
        ·simp only [Act.put, List.setIfInBounds_toArray, List.set_cons_zero, List.set_cons_succ, i64_w, i32_w]
         rfl
        refine pure_ (i := 10) (N := some 24) (v := ?_) (a' := ?_) #[true, true, true, true, true, true, true, false, true, true, true, false, false, false, false, false] rfl rfl (any_of HT_.out (by kernel_rfl)) (fun _ _ _ h => h) (Or.inl ⟨by rfl, ?_⟩) ?_ ?_
        rotate_left
        ·intro w'
         go_simp
         with_reducible rfl
        rotate_left
        ·simp only [Act.put, List.setIfInBounds_toArray, List.set_cons_zero, List.set_cons_succ, i64_w, i32_w]
         rfl
        refine take_ (i := 7) (N := some 21) (v := ?_) (a' := ?_) #[true, true, true, true, true, true, true, true, true, true, true, false, false, false, false, false] rfl rfl (take_ofW HT_.out HW_.out (by kernel_rfl)) (fun _ _ _ h => h) (Or.inl ⟨by rfl, ?_⟩) hHeld ?_ ?_
        rotate_left
        ·rintro w' ⟨s0, s1, s2, s3⟩
         go_simp
         with_reducible rfl
        rotate_left
        ·simp only [Act.put, List.setIfInBounds_toArray, List.set_cons_zero, List.set_cons_succ, i64_w, i32_w]
         rfl
        refine take_ (i := 11) (N := some 25) (v := ?_) (a' := ?_) #[true, true, true, true, true, true, true, true, true, true, true, true, false, false, false, false] rfl rfl (take_ofW HT_.out HW_.out (by kernel_rfl)) (fun _ _ _ h => h) (Or.inl ⟨by rfl, ?_⟩) hHeld ?_ ?_
        rotate_left
        ·rintro w' ⟨s0, s1, s2, s3⟩
         go_simp
         with_reducible rfl
        rotate_left
        ·simp only [Act.put, List.setIfInBounds_toArray, List.set_cons_zero, List.set_cons_succ, i64_w, i32_w]
         rfl
        refine pure_ (i := 12) (N := some 26) (v := ?_) (a' := ?_) #[true, true, true, true, true, true, true, true, true, true, true, true, true, false, false, false] rfl rfl (any_of HT_.out (by kernel_rfl)) (fun _ _ _ h => h) (Or.inl ⟨by rfl, ?_⟩) ?_ ?_
        rotate_left
        ·intro w'
         go_simp
         with_reducible rfl
        rotate_left
        ·simp only [Act.put, List.setIfInBounds_toArray, List.set_cons_zero, List.set_cons_succ, i64_w, i32_w]
         rfl
        refine last_ (i := 13) (N := none) #[true, true, true, true, true, true, true, true, true, true, true, true, true, true, false, false] rfl rfl (one_of HT_.out (by kernel_rfl)) (by decide) (fun K hK => ?_)
        refine skip_ (w1 := ?_) (by rfl) rfl ?_ ?_
        rotate_left
        ·have hne_ : ¬ x2_1.toNat = x3_1.toNat := by
          have := of_decide_eq_true c3b0
          have := of_decide_eq_true c6b0
          omega
         have hne2_ : ¬ x3_1.toNat = x2_1.toNat := fun e => hne_ e.symm
         have hza_ := blk_frozen GG8.out (x3_1.toNat * 2)
         have hzb_ := blk_frozen GG8.out (x3_1.toNat * 2 + 1)
         go_simp
         rfl
        refine hK.out _ _ ?_
        clear hK K
        refine pure_ (i := 14) (N := some 27) (v := ?_) (a' := ?_) #[true, true, true, true, true, true, true, true, true, true, true, true, true, true, true, false] rfl rfl (any_of HT_.out (by kernel_rfl)) (fun _ _ _ h => h) (Or.inl ⟨by rfl, ?_⟩) ?_ ?_
        rotate_left
        ·intro w'
         go_simp
         with_reducible rfl
        rotate_left
        ·simp only [Act.put, List.setIfInBounds_toArray, List.set_cons_zero, List.set_cons_succ, i64_w, i32_w]
         rfl
        refine last_ (i := 15) (N := none) #[true, true, true, true, true, true, true, true, true, true, true, true, true, true, true, true] rfl rfl (one_of HT_.out (by kernel_rfl)) (by decide) (fun K hK => ?_)
        refine skip_ (w1 := ?_) (by rfl) rfl ?_ ?_
        rotate_left
        ·have hne_ : ¬ x2_1.toNat = x3_1.toNat := by
          have := of_decide_eq_true c3b0
          have := of_decide_eq_true c6b0
          omega
         have hne2_ : ¬ x3_1.toNat = x2_1.toNat := fun e => hne_ e.symm
         have hza_ := blk_frozen GG8.out (x3_1.toNat * 2)
         have hzb_ := blk_frozen GG8.out (x3_1.toNat * 2 + 1)
         go_simp
         rfl
        refine hK.out _ _ ?_
        clear hK K
        refine done_ (done_of HT_.out (by kernel_rfl)) ?_
        try go_wp2
        (try simp only [← hl0_1])
        go_roundg k1
        case measure => have := HK1.out; omega
        case rel => exact ⟨(y180), (wrap64 (x2_1 + 1)), (wrap64 (x3_1 - 1)), (by first | rfl | (simp; done) | (simp [*]; done) | (simp [Int.tdiv_eq_ediv_of_nonneg]; done)), (by first | rfl | (simp; done) | (simp [*]; done) | (simp [Int.tdiv_eq_ediv_of_nonneg]; done)), H', ⟨by have := HK1.out; omega⟩, ⟨by (try simp only [hl0_1]); (with_reducible repeat (first | apply Kd.R_alloc | apply Kd.R_drewN | apply Kd.R_drew)); exact HQ12.out⟩, ⟨by repeat (first | (with_reducible first | exact HK.out | apply Kept.alloc | apply Kept.drewN | apply Kept.drew | refine Kept.setCell ?_ HMgo8.out _ | refine Kept.setCell ?_ HMgo8.out _ | refine Kept.setCell ?_ HMgo8.out _ | refine Kept.setCell ?_ HMgo8.out _) | exact HK.out)⟩, ⟨by repeat (first | (with_reducible first | exact HB.out | apply below_alloc | apply pw_below_drewN | apply below_drew1 | refine below_set ?_ GB8.out | refine below_set ?_ GB8.out | refine below_set ?_ GB8.out | refine below_set ?_ GB8.out) | exact HB.out)⟩⟩
       ·rw [if_neg c7] at H
        exact absurd H (by simp)
      ·rw [if_neg c6] at H
       exact absurd H (by simp)
     ·rw [if_neg c5] at H
      exact absurd H (by simp)
    ·rw [if_neg c4] at H
     exact absurd H (by simp)
   ·rw [if_neg c3] at H
    have c3b0 : decide (x2_1 < x3_1) = false := decide_eq_false c3
    clear c3
    obtain rfl := Option.some.inj H
    go_wp2
    first | go_end0 | ((try simp only [Exit.inBlock, Exit.then]); refine bodyPost_ret (results_none rfl _ _ _) rfl ?_)
    exact ⟨by first | rfl | (simp [errW_none, errW_some] <;> rfl) | (simp [*, errW_none, errW_some] <;> rfl), (by first | exact (by (with_reducible repeat (first | apply Kd.R_alloc | apply Kd.R_drewN | apply Kd.R_drew)); exact HO_0.out) | (simp only [hl0_1]; exact (by (with_reducible repeat (first | apply Kd.R_alloc | apply Kd.R_drewN | apply Kd.R_drew)); exact HO_0.out))), by repeat (first | (with_reducible first | exact HB.out | apply below_alloc | apply pw_below_drewN | apply below_drew1) | exact HB.out), by repeat (first | (with_reducible first | exact HK.out | apply Kept.alloc | apply Kept.drewN | apply Kept.drew) | exact HK.out)⟩

end Go.Proofs.YtkilnknndglmnaaP
end

section
/- slices.Reverse of all but the first of a row of seals. -/
namespace Go.Proofs.YtkilnknndglmnaaP
open Go.RowKit Go.Proofs.YtkilnknndglmnaaW.PrintWords Go.Proofs.YtkilnknndglmnaaW.PrintLast Go.Proofs.YtkilnknndglmnaaW.PrintMore
attribute [local go_sem] max2_int min2_int max_two min_two max_three min_three max_four min_four
set_option linter.unusedVariables false
set_option linter.unusedSimpArgs false

def rev_tail.l0 (m : Nat) : Nat → List (S26) → Int → Int → Option ((List (S26)))
  | 0, _, _, _ => none
  | k + 1, x0, x2, x3 => if x2 < x3 then (if 0 ≤ x3 then (if x3 < (m : Int) then (if 0 ≤ x2 then (if x2 < (m : Int) then (rev_tail.l0 m k ((x0.set (x2 + 1 : Int).toNat (⟨(rd_T26 x0 (x3 + 1)).f0, (rd_T26 x0 (x3 + 1)).f1⟩ : S26)).set (x3 + 1 : Int).toNat (⟨(rd_T26 x0 (x2 + 1)).f0, (rd_T26 x0 (x2 + 1)).f1⟩ : S26)) (wrap64 (x2 + 1)) (wrap64 (x3 - 1))) else (none)) else (none)) else (none)) else (none)) else (some x0)
set_option maxHeartbeats 8000000 in
set_option maxRecDepth 100000 in
theorem rev_tail.calls (k : Nat) (P0_ : Nat → Prop) (g0 co2 m : Nat) (ad : Addr) (c' : Nat) (l0 : List (S26)) (r : List (S26)) (w0 w : World) (hm : l0.length = m + 1) (had : 0 < m → ad = ⟨g0, 2, none⟩) (hB : Below w0.heap.size w0 w) (ho0 : Kd.R k26 26 w w0.heap.size P0_ (.slice (some ⟨g0, 0, none⟩) l0.length co2) l0) (h : rev_tail.l0 m k l0 0 (wrap64 ((m : Int) - 1)) = some r) :
    Calls Try.prog 43 #[.slice (some ad) m c'] w fun e w' => e = .returned (.tuple #[]) ∧ Kd.R k26 26 w' w0.heap.size (fun k_ => (P0_ k_ ∨ w.heap.size ≤ k_)) (.slice (some ⟨g0, 0, none⟩) l0.length co2) r ∧ Below w0.heap.size w0 w' ∧ Kept w w' (fun k_ => P0_ k_) := by
  have HM := Aside0.mk hm
  have HAD := Aside0.mk had
  clear hm had
  have hu26 := Try.underlying26
  have HO0 := Aside0.mk (show Kd.R k26 26 w w0.heap.size (fun k_ => (P0_ k_ ∨ w.heap.size ≤ k_)) (.slice (some ⟨g0, 0, none⟩) l0.length co2) l0 from Kd.R_mono ho0 (fun k_ hk => (.inl hk)))
  have HK := Aside0.mk (Kept.refl w (fun k_ => P0_ k_))
  have HW0 := Aside0.mk hB.size
  have HB := Aside0.mk hB
  clear hB
  have H : (rev_tail.l0 m k l0 0 (wrap64 ((m : Int) - 1))) = some r := h
  clear h
  have H' := Aside0.mk H
  clear H
  go_enter Try.func43, Try.ntmps43
  go_wp2
  go_loopg [2, 3] k (fun kq v2 v3 w' => ∃ (x0_1 : List (S26)) (x2_1 : Int) (x3_1 : Int), v2 = .int .i64 x2_1 ∧ v3 = .int .i64 x3_1 ∧ Aside0 (rev_tail.l0 m kq x0_1 x2_1 x3_1 = some r) ∧ Aside0 (kq ≤ k) ∧ Aside0 (Kd.R k26 26 w' w0.heap.size (fun k_ => (P0_ k_ ∨ w.heap.size ≤ k_)) (.slice (some ⟨g0, 0, none⟩) l0.length co2) x0_1) ∧ Aside0 (Kept w w' (fun k_ => P0_ k_)) ∧ Aside0 (Below w0.heap.size w0 w'))
  case atStart => exact ⟨(l0), (0), (wrap64 ((m : Int) - 1)), (by first | rfl | (simp; done) | (simp [*]; done) | (simp [Int.tdiv_eq_ediv_of_nonneg]; done)), (by first | rfl | (simp; done) | (simp [*]; done) | (simp [Int.tdiv_eq_ediv_of_nonneg]; done)), H', ⟨Nat.le_refl _⟩, ⟨by (with_reducible repeat (first | apply Kd.R_alloc | apply Kd.R_drewN | apply Kd.R_drew)); exact HO0.out⟩, ⟨by repeat (first | (with_reducible first | exact HK.out | apply Kept.alloc | apply Kept.drewN | apply Kept.drew) | exact HK.out)⟩, ⟨by repeat (first | (with_reducible first | exact HB.out | apply below_alloc | apply pw_below_drewN | apply below_drew1) | exact HB.out)⟩⟩
  case round =>
    clear H'
    try clear p2
    obtain ⟨x0_1, x2_1, x3_1, rfl, rfl, HA, HK1, HO_0, HK, HB⟩ := hrel
    have hl0_1 := (Kd.R_reads' HO_0.out).1
    rw [hl0_1] at HO_0
    rw [hl0_1] at HM
    (try simp only [hl0_1])
    cases gk with
    | zero => exact absurd HA.out (by simp [rev_tail.l0])
    | succ k1 =>
      have H := HA.out
      clear HA
      simp only [rev_tail.l0] at H
      by_cases c3 : x2_1 < x3_1
      · rw [if_pos c3] at H
        have c3b0 : decide (x2_1 < x3_1) = true := decide_eq_true c3
        clear c3
        by_cases c4 : 0 ≤ x3_1
        · rw [if_pos c4] at H
          have c4b0 : decide (0 ≤ x3_1) = true := decide_eq_true c4
          clear c4
          by_cases c5 : x3_1 < (m : Int)
          · rw [if_pos c5] at H
            have c5b0 : decide (x3_1 < (m : Int)) = true := decide_eq_true c5
            clear c5
            by_cases c6 : 0 ≤ x2_1
            · rw [if_pos c6] at H
              have c6b0 : decide (0 ≤ x2_1) = true := decide_eq_true c6
              clear c6
              by_cases c7 : x2_1 < (m : Int)
              · rw [if_pos c7] at H
                have c7b0 : decide (x2_1 < (m : Int)) = true := decide_eq_true c7
                clear c7
                have HI : Aside0 (∃ i2 i3 : Int, i2 = x2_1 + 1 ∧ i3 = x3_1 + 1) := ⟨_, _, rfl, rfl⟩
                obtain ⟨i2, i3, hi2, hi3⟩ := HI.out
                clear HI
                replace H : (rev_tail.l0 m k1 ((x0_1.set (i2 : Int).toNat (⟨(rd_T26 x0_1 i3).f0, (rd_T26 x0_1 i3).f1⟩ : S26)).set (i3 : Int).toNat (⟨(rd_T26 x0_1 i2).f0, (rd_T26 x0_1 i2).f1⟩ : S26)) (wrap64 (x2_1 + 1)) (wrap64 (x3_1 - 1))) = some r := by rw [hi2, hi3]; exact H
                have e1_ := of_decide_eq_true c3b0
                have e2_ := of_decide_eq_true c4b0
                have e3_ := of_decide_eq_true c5b0
                have e4_ := of_decide_eq_true c6b0
                have e5_ := of_decide_eq_true c7b0
                have e6_ := HM.out
                have had_ := HAD.out (by omega)
                have di0 : decide (0 ≤ i3) = true := decide_eq_true (by omega)
                have di1 : decide (i3 < (x0_1.length : Int)) = true := decide_eq_true (by omega)
                have di2 : decide (0 ≤ i2) = true := decide_eq_true (by omega)
                have di3 : decide (i2 < (x0_1.length : Int)) = true := decide_eq_true (by omega)
                have HNE : Aside0 (¬ i2.toNat = i3.toNat) := ⟨by omega⟩
                have HE2 : Aside0 (2 + x2_1.toNat * 2 = i2.toNat * 2) := ⟨by omega⟩
                have HE3 : Aside0 (2 + x3_1.toNat * 2 = i3.toNat * 2) := ⟨by omega⟩
                have t2_ : (0 ≤ x2_1) = True := eq_true e4_
                have t3_ : (0 ≤ x3_1) = True := eq_true e2_
                have s2_ : (x2_1 < (m : Int)) = True := eq_true e5_
                have s3_ : (x3_1 < (m : Int)) = True := eq_true e3_
                clear hi2 hi3 e1_ e2_ e3_ e4_ e5_ e6_ HAD
                subst had_
                have he2_ := HE2.out
                have he3_ := HE3.out
                obtain ⟨y179, hy179⟩ : ∃ y_ : List (S26), y_ = (x0_1.set (i2 : Int).toNat (⟨(rd_T26 x0_1 i3).f0, (rd_T26 x0_1 i3).f1⟩ : S26)) := ⟨_, rfl⟩
                replace H : (rev_tail.l0 m k1 (y179.set (i3 : Int).toNat (⟨(rd_T26 x0_1 i2).f0, (rd_T26 x0_1 i2).f1⟩ : S26)) (wrap64 (x2_1 + 1)) (wrap64 (x3_1 - 1))) = some r := by first | (rw [hy179]; with_reducible exact H) | (have H2_ := (Option.bind_some _ _).symm.trans H; rw [hy179]; with_reducible exact H2_) | (have H2_ := (Option.bind_some _ _).symm.trans H; with_reducible exact H2_) | with_reducible exact H | (rw [hy179]; exact H) | exact H
                have Ny179 := Aside0.mk hy179
                clear hy179
                obtain ⟨y180, hy180⟩ : ∃ y_ : List (S26), y_ = (y179.set (i3 : Int).toNat (⟨(rd_T26 x0_1 i2).f0, (rd_T26 x0_1 i2).f1⟩ : S26)) := ⟨_, rfl⟩
                replace H : (rev_tail.l0 m k1 y180 (wrap64 (x2_1 + 1)) (wrap64 (x3_1 - 1))) = some r := by first | (rw [hy180]; with_reducible exact H) | (have H2_ := (Option.bind_some _ _).symm.trans H; rw [hy180]; with_reducible exact H2_) | (have H2_ := (Option.bind_some _ _).symm.trans H; with_reducible exact H2_) | with_reducible exact H | (rw [hy180]; exact H) | exact H
                have Ny180 := Aside0.mk hy180
                clear hy180
                have H' := Aside0.mk H
                clear H
                try go_wp2
                have n0_ := Aside0.mk (Kd.R_drew HO_0.out)
                have n1_ := Aside0.mk (Kept.drew HK.out)
                have n2_ := Aside0.mk (below_drew1 HB.out)
                clear HO_0
                clear HK
                clear HB
                have HO_0 := n0_
                have HK := n1_
                have HB := n2_
                clear n0_ n1_ n2_
                have p177 : 0 ≤ (i3 : Int) := of_decide_eq_true (by first | (with_reducible assumption) | assumption)
                have q177 : i3 < (x0_1.length : Int) := of_decide_eq_true (by first | (with_reducible assumption) | assumption)
                obtain ⟨ad177, e177, hx177_0, hx177_1⟩ := at_T26 (Kd.R_reads' HO_0.out).2.2 i3 p177 q177
                cases e177
                replace p177 := eq_true p177
                replace q177 := eq_true q177
                have p178 : 0 ≤ (i2 : Int) := of_decide_eq_true (by first | (with_reducible assumption) | assumption)
                have q178 : i2 < (x0_1.length : Int) := of_decide_eq_true (by first | (with_reducible assumption) | assumption)
                obtain ⟨ad178, e178, hx178_0, hx178_1⟩ := at_T26 (Kd.R_reads' HO_0.out).2.2 i2 p178 q178
                cases e178
                replace p178 := eq_true p178
                replace q178 := eq_true q178
                have p8 : 0 ≤ (i2 : Int) := of_decide_eq_true (by first | (with_reducible assumption) | assumption)
                have q8 : (i2 : Int) < ((x0_1.length : Int) : Int) := of_decide_eq_true (by first | (with_reducible assumption) | assumption)
                obtain ⟨go8, co8, eo8, gb8, gl8, cl8, HG8⟩ := Kd.R_form HO_0.out (by omega)
                (first | cases eo8 | (injection eo8 with ea_ en_ ec_; (first | subst ea_ | (injection ea_ with ea_; subst ea_)); subst ec_; clear en_))
                have GB8 := Aside0.mk gb8
                have GG8 := Aside0.mk HG8
                clear gb8 gl8 HG8
                have HMgo8 := Aside0.mk (show (P0_ g0 ∨ w.heap.size ≤ g0) from (HO_0.out.1 _ rfl))
                (first | simp only [add_plain] at hx177_0 | skip)
                (first | simp only [add_plain] at hx177_1 | skip)
                (first | simp only [add_plain] at hx178_0 | skip)
                (first | simp only [add_plain] at hx178_1 | skip)
                obtain ⟨ce8, hcl8, hM8, hcc8, hfr8⟩ := Kd.R_elem HO_0.out z26 (i2 : Int) p8 q8
                obtain rfl := k26_openM hM8
                have hx8_0 : World.cell? _ ⟨g0, (i2 : Int).toNat * 2, none⟩ = some (.int .i64 ((rd_T26 x0_1 i2).f0)) := hcc8 0 _ rfl
                have hx8_1 : World.cell? _ ⟨g0, (i2 : Int).toNat * 2 + 1, none⟩ = some (.int .i64 ((rd_T26 x0_1 i2).f1)) := hcc8 1 _ rfl
                have hf8_0 : World.frozen? _ ⟨g0, (i2 : Int).toNat * 2, none⟩ = false := hfr8 0
                have hf8_1 : World.frozen? _ ⟨g0, (i2 : Int).toNat * 2 + 1, none⟩ = false := hfr8 1
                clear hcl8 hcc8 hfr8 hM8
                replace p8 := eq_true p8
                replace q8 := eq_true q8
                obtain ⟨ce11, hcl11, hM11, hcc11, hfr11⟩ := Kd.R_elem HO_0.out z26 (i2 : Int) (of_decide_eq_true (by first | (with_reducible assumption) | assumption)) (by have h_ : (i2 : Int) < ((x0_1.length : Int) : Int) := of_decide_eq_true (by first | (with_reducible assumption) | assumption); first | exact h_ | (have e_ := (Kd.R_reads' HO_0.out).1; omega) | simpa using h_)
                obtain rfl := k26_openM hM11
                have HP11 := (Kd.R_seg HO_0.out (i2 : Int) (of_decide_eq_true (by first | (with_reducible assumption) | assumption)) (by have h_ : (i2 : Int) < ((x0_1.length : Int) : Int) := of_decide_eq_true (by first | (with_reducible assumption) | assumption); first | exact h_ | (have e_ := (Kd.R_reads' HO_0.out).1; omega) | simpa using h_) (seg := [.int .i64 ((rd_T26 x0_1 i3).f0), .int .i64 ((rd_T26 x0_1 i3).f1)]) (j := 0) hcl11 hcc11 (show 2 ≤ 2 from by decide) (x' := (⟨(rd_T26 x0_1 i3).f0, (rd_T26 x0_1 i3).f1⟩ : S26)) (k26_mkM _ _ _ (⟨(rd_T26 x0_1 i3).f0, (rd_T26 x0_1 i3).f1⟩ : S26) ) (fun _ hk => hk)).1
                rw [← Ny179.out] at HP11
                have HQ11 := Aside0.mk HP11
                clear hcl11 hcc11 hfr11 hM11 HP11
                have p9 : 0 ≤ (i3 : Int) := of_decide_eq_true (by first | (with_reducible assumption) | assumption)
                have q9 : (i3 : Int) < ((x0_1.length : Int) : Int) := of_decide_eq_true (by first | (with_reducible assumption) | assumption)
                obtain ⟨ce9, hcl9, hM9, hcc9, hfr9⟩ := Kd.R_elem HQ11.out z26 (i3 : Int) p9 q9
                obtain rfl := k26_openM hM9
                have hx9_0 : World.cell? _ ⟨g0, (i3 : Int).toNat * 2, none⟩ = some (.int .i64 ((rd_T26 y179 i3).f0)) := hcc9 0 _ rfl
                have hx9_1 : World.cell? _ ⟨g0, (i3 : Int).toNat * 2 + 1, none⟩ = some (.int .i64 ((rd_T26 y179 i3).f1)) := hcc9 1 _ rfl
                have hf9_0 : World.frozen? _ ⟨g0, (i3 : Int).toNat * 2, none⟩ = false := hfr9 0
                have hf9_1 : World.frozen? _ ⟨g0, (i3 : Int).toNat * 2 + 1, none⟩ = false := hfr9 1
                clear hcl9 hcc9 hfr9 hM9
                replace p9 := eq_true p9
                replace q9 := eq_true q9
                obtain ⟨ce12, hcl12, hM12, hcc12, hfr12⟩ := Kd.R_elem HQ11.out z26 (i3 : Int) (of_decide_eq_true (by first | (with_reducible assumption) | assumption)) (by have h_ : (i3 : Int) < ((x0_1.length : Int) : Int) := of_decide_eq_true (by first | (with_reducible assumption) | assumption); first | exact h_ | (have e_ := (Kd.R_reads' HO_0.out).1; omega) | simpa using h_)
                obtain rfl := k26_openM hM12
                have HP12 := (Kd.R_seg HQ11.out (i3 : Int) (of_decide_eq_true (by first | (with_reducible assumption) | assumption)) (by have h_ : (i3 : Int) < ((x0_1.length : Int) : Int) := of_decide_eq_true (by first | (with_reducible assumption) | assumption); first | exact h_ | (have e_ := (Kd.R_reads' HO_0.out).1; omega) | simpa using h_) (seg := [.int .i64 ((rd_T26 x0_1 i2).f0), .int .i64 ((rd_T26 x0_1 i2).f1)]) (j := 0) hcl12 hcc12 (show 2 ≤ 2 from by decide) (x' := (⟨(rd_T26 x0_1 i2).f0, (rd_T26 x0_1 i2).f1⟩ : S26)) (k26_mkM _ _ _ (⟨(rd_T26 x0_1 i2).f0, (rd_T26 x0_1 i2).f1⟩ : S26) ) (fun _ hk => hk)).1
                rw [← Ny180.out] at HP12
                have HQ12 := Aside0.mk HP12
                clear hcl12 hcc12 hfr12 hM12 HP12
                refine start_ (n := 16) (S := fun w' => w'.cell? ⟨g0, ((i3).toNat * 2), none⟩ = some (.int .i64 ((rd_T26 x0_1 i3).f0)) ∧ w'.cell? ⟨g0, ((i3).toNat * 2) + 1, none⟩ = some (.int .i64 ((rd_T26 x0_1 i3).f1)) ∧ w'.cell? ⟨g0, ((i2).toNat * 2), none⟩ = some (.int .i64 ((rd_T26 x0_1 i2).f0)) ∧ w'.cell? ⟨g0, ((i2).toNat * 2) + 1, none⟩ = some (.int .i64 ((rd_T26 x0_1 i2).f1))) (ds := [13, 15]) #[false, false, false, false, false, false, false, false, false, false, false, false, false, false, false, false] (by kernel_rfl) rfl rfl ⟨hx177_0, hx177_1, hx178_0, hx178_1⟩ (fun hHeld => ?_); refine with_tabW api_Seal.tab3 api_Seal.bits3 (fun HT_ HW_ => ?_)
                generalize wr.drew = w10 at HO_0 HK HB GG8 HQ11 HQ12 hf8_0 hf8_1 hf9_0 hf9_1 hx177_0 hx177_1 hx178_0 hx178_1 hx8_0 hx8_1 hx9_0 hx9_1 hHeld ⊢
                refine pure_ (i := 0) (N := some 14) (v := ?_) (a' := ?_) #[true, false, false, false, false, false, false, false, false, false, false, false, false, false, false, false] rfl rfl (any_of HT_.out (by kernel_rfl)) (fun _ _ _ h => h) (Or.inl ⟨by rfl, ?_⟩) ?_ ?_
                rotate_left
                · intro w'
                  go_simp
                  with_reducible rfl
                rotate_left
                · simp only [Act.put, List.setIfInBounds_toArray, List.set_cons_zero, List.set_cons_succ, i64_w, i32_w]
                  rfl
                refine pure_ (i := 1) (N := some 15) (v := ?_) (a' := ?_) #[true, true, false, false, false, false, false, false, false, false, false, false, false, false, false, false] rfl rfl (any_of HT_.out (by kernel_rfl)) (fun _ _ _ h => h) (Or.inl ⟨by rfl, ?_⟩) ?_ ?_
                rotate_left
                · intro w'
                  go_simp
                  with_reducible rfl
                rotate_left
                · simp only [Act.put, List.setIfInBounds_toArray, List.set_cons_zero, List.set_cons_succ, i64_w, i32_w]
                  rfl
                refine pure_ (i := 2) (N := some 16) (v := ?_) (a' := ?_) #[true, true, true, false, false, false, false, false, false, false, false, false, false, false, false, false] rfl rfl (any_of HT_.out (by kernel_rfl)) (fun _ _ _ h => h) (Or.inl ⟨by rfl, ?_⟩) ?_ ?_
                rotate_left
                · intro w'
                  go_simp
                  with_reducible rfl
                rotate_left
                · simp only [Act.put, List.setIfInBounds_toArray, List.set_cons_zero, List.set_cons_succ, i64_w, i32_w]
                  rfl
                refine pure_ (i := 3) (N := some 17) (v := ?_) (a' := ?_) #[true, true, true, true, false, false, false, false, false, false, false, false, false, false, false, false] rfl rfl (any_of HT_.out (by kernel_rfl)) (fun _ _ _ h => h) (Or.inl ⟨by rfl, ?_⟩) ?_ ?_
                rotate_left
                · intro w'
                  go_simp
                  with_reducible rfl
                rotate_left
                · simp only [Act.put, List.setIfInBounds_toArray, List.set_cons_zero, List.set_cons_succ, i64_w, i32_w]
                  rfl
                refine pure_ (i := 4) (N := some 18) (v := ?_) (a' := ?_) #[true, true, true, true, true, false, false, false, false, false, false, false, false, false, false, false] rfl rfl (any_of HT_.out (by kernel_rfl)) (fun _ _ _ h => h) (Or.inl ⟨by rfl, ?_⟩) ?_ ?_
                rotate_left
                · intro w'
                  go_simp
                  with_reducible rfl
                rotate_left
                · simp only [Act.put, List.setIfInBounds_toArray, List.set_cons_zero, List.set_cons_succ, i64_w, i32_w]
                  rfl
                refine pure_ (i := 5) (N := some 19) (v := ?_) (a' := ?_) #[true, true, true, true, true, true, false, false, false, false, false, false, false, false, false, false] rfl rfl (any_of HT_.out (by kernel_rfl)) (fun _ _ _ h => h) (Or.inl ⟨by rfl, ?_⟩) ?_ ?_
                rotate_left
                · intro w'
                  go_simp
                  with_reducible rfl
                rotate_left
                · simp only [Act.put, List.setIfInBounds_toArray, List.set_cons_zero, List.set_cons_succ, i64_w, i32_w]
                  rfl
                refine pure_ (i := 6) (N := some 20) (v := ?_) (a' := ?_) #[true, true, true, true, true, true, true, false, false, false, false, false, false, false, false, false] rfl rfl (any_of HT_.out (by kernel_rfl)) (fun _ _ _ h => h) (Or.inl ⟨by rfl, ?_⟩) ?_ ?_
                rotate_left
                · intro w'
                  go_simp
                  with_reducible rfl
                rotate_left
                · simp only [Act.put, List.setIfInBounds_toArray, List.set_cons_zero, List.set_cons_succ, i64_w, i32_w]
                  rfl
                refine pure_ (i := 8) (N := some 22) (v := ?_) (a' := ?_) #[true, true, true, true, true, true, true, false, true, false, false, false, false, false, false, false] rfl rfl (any_of HT_.out (by kernel_rfl)) (fun _ _ _ h => h) (Or.inl ⟨by rfl, ?_⟩) ?_ ?_
                rotate_left
                · intro w'
                  go_simp
                  with_reducible rfl
                rotate_left
                · simp only [Act.put, List.setIfInBounds_toArray, List.set_cons_zero, List.set_cons_succ, i64_w, i32_w]
                  rfl
                refine pure_ (i := 9) (N := some 23) (v := ?_) (a' := ?_) #[true, true, true, true, true, true, true, false, true, true, false, false, false, false, false, false] rfl rfl (any_of HT_.out (by kernel_rfl)) (fun _ _ _ h => h) (Or.inl ⟨by rfl, ?_⟩) ?_ ?_
                rotate_left
                · intro w'
                  go_simp
                  with_reducible rfl
                rotate_left
                · simp only [Act.put, List.setIfInBounds_toArray, List.set_cons_zero, List.set_cons_succ, i64_w, i32_w]
                  rfl
                refine pure_ (i := 10) (N := some 24) (v := ?_) (a' := ?_) #[true, true, true, true, true, true, true, false, true, true, true, false, false, false, false, false] rfl rfl (any_of HT_.out (by kernel_rfl)) (fun _ _ _ h => h) (Or.inl ⟨by rfl, ?_⟩) ?_ ?_
                rotate_left
                · intro w'
                  go_simp
                  with_reducible rfl
                rotate_left
                · simp only [Act.put, List.setIfInBounds_toArray, List.set_cons_zero, List.set_cons_succ, i64_w, i32_w]
                  rfl
                refine take_ (i := 7) (N := some 21) (v := ?_) (a' := ?_) #[true, true, true, true, true, true, true, true, true, true, true, false, false, false, false, false] rfl rfl (take_ofW HT_.out HW_.out (by kernel_rfl)) (fun _ _ _ h => h) (Or.inl ⟨by rfl, ?_⟩) hHeld ?_ ?_
                rotate_left
                · rintro w' ⟨s0, s1, s2, s3⟩
                  go_simp
                  with_reducible rfl
                rotate_left
                · simp only [Act.put, List.setIfInBounds_toArray, List.set_cons_zero, List.set_cons_succ, i64_w, i32_w]
                  rfl
                refine take_ (i := 11) (N := some 25) (v := ?_) (a' := ?_) #[true, true, true, true, true, true, true, true, true, true, true, true, false, false, false, false] rfl rfl (take_ofW HT_.out HW_.out (by kernel_rfl)) (fun _ _ _ h => h) (Or.inl ⟨by rfl, ?_⟩) hHeld ?_ ?_
                rotate_left
                · rintro w' ⟨s0, s1, s2, s3⟩
                  go_simp
                  with_reducible rfl
                rotate_left
                · simp only [Act.put, List.setIfInBounds_toArray, List.set_cons_zero, List.set_cons_succ, i64_w, i32_w]
                  rfl
                refine pure_ (i := 12) (N := some 26) (v := ?_) (a' := ?_) #[true, true, true, true, true, true, true, true, true, true, true, true, true, false, false, false] rfl rfl (any_of HT_.out (by kernel_rfl)) (fun _ _ _ h => h) (Or.inl ⟨by rfl, ?_⟩) ?_ ?_
                rotate_left
                · intro w'
                  go_simp
                  with_reducible rfl
                rotate_left
                · simp only [Act.put, List.setIfInBounds_toArray, List.set_cons_zero, List.set_cons_succ, i64_w, i32_w]
                  rfl
                refine last_ (i := 13) (N := none) #[true, true, true, true, true, true, true, true, true, true, true, true, true, true, false, false] rfl rfl (one_of HT_.out (by kernel_rfl)) (by decide) (fun K hK => ?_)
                refine skip_ (w1 := ?_) (by rfl) rfl ?_ ?_
                rotate_left
                · have hne_ : ¬ i2.toNat = i3.toNat := HNE.out
                  have hne2_ : ¬ i3.toNat = i2.toNat := fun e => hne_ e.symm
                  have hza_ := blk_frozen GG8.out (i3.toNat * 2)
                  have hzb_ := blk_frozen GG8.out (i3.toNat * 2 + 1)
                  go_simp
                  rfl
                refine hK.out _ _ ?_
                clear hK K
                refine pure_ (i := 14) (N := some 27) (v := ?_) (a' := ?_) #[true, true, true, true, true, true, true, true, true, true, true, true, true, true, true, false] rfl rfl (any_of HT_.out (by kernel_rfl)) (fun _ _ _ h => h) (Or.inl ⟨by rfl, ?_⟩) ?_ ?_
                rotate_left
                · intro w'
                  go_simp
                  with_reducible rfl
                rotate_left
                · simp only [Act.put, List.setIfInBounds_toArray, List.set_cons_zero, List.set_cons_succ, i64_w, i32_w]
                  rfl
                refine last_ (i := 15) (N := none) #[true, true, true, true, true, true, true, true, true, true, true, true, true, true, true, true] rfl rfl (one_of HT_.out (by kernel_rfl)) (by decide) (fun K hK => ?_)
                refine skip_ (w1 := ?_) (by rfl) rfl ?_ ?_
                rotate_left
                · have hne_ : ¬ i2.toNat = i3.toNat := HNE.out
                  have hne2_ : ¬ i3.toNat = i2.toNat := fun e => hne_ e.symm
                  have hza_ := blk_frozen GG8.out (i3.toNat * 2)
                  have hzb_ := blk_frozen GG8.out (i3.toNat * 2 + 1)
                  go_simp
                  rfl
                refine hK.out _ _ ?_
                clear hK K
                refine done_ (done_of HT_.out (by kernel_rfl)) ?_
                try go_wp2
                (try simp only [← hl0_1])
                go_roundg k1
                case measure => have := HK1.out; omega
                case rel => exact ⟨(y180), (wrap64 (x2_1 + 1)), (wrap64 (x3_1 - 1)), (by first | rfl | (simp; done) | (simp [*]; done) | (simp [Int.tdiv_eq_ediv_of_nonneg]; done)), (by first | rfl | (simp; done) | (simp [*]; done) | (simp [Int.tdiv_eq_ediv_of_nonneg]; done)), H', ⟨by have := HK1.out; omega⟩, ⟨by (try simp only [hl0_1]); (with_reducible repeat (first | apply Kd.R_alloc | apply Kd.R_drewN | apply Kd.R_drew)); exact HQ12.out⟩, ⟨by repeat (first | (with_reducible first | exact HK.out | apply Kept.alloc | apply Kept.drewN | apply Kept.drew | refine Kept.setCell ?_ HMgo8.out _ | refine Kept.setCell ?_ HMgo8.out _ | refine Kept.setCell ?_ HMgo8.out _ | refine Kept.setCell ?_ HMgo8.out _) | exact HK.out)⟩, ⟨by repeat (first | (with_reducible first | exact HB.out | apply below_alloc | apply pw_below_drewN | apply below_drew1 | refine below_set ?_ GB8.out | refine below_set ?_ GB8.out | refine below_set ?_ GB8.out | refine below_set ?_ GB8.out) | exact HB.out)⟩⟩
              · rw [if_neg c7] at H
                exact absurd H (by simp)
            · rw [if_neg c6] at H
              exact absurd H (by simp)
          · rw [if_neg c5] at H
            exact absurd H (by simp)
        · rw [if_neg c4] at H
          exact absurd H (by simp)
      · rw [if_neg c3] at H
        have c3b0 : decide (x2_1 < x3_1) = false := decide_eq_false c3
        clear c3
        obtain rfl := Option.some.inj H
        go_wp2
        first | go_end0 | ((try simp only [Exit.inBlock, Exit.then]); refine bodyPost_ret (results_none rfl _ _ _) rfl ?_)
        exact ⟨by first | rfl | (simp [errW_none, errW_some] <;> rfl) | (simp [*, errW_none, errW_some] <;> rfl), (by first | exact (by (with_reducible repeat (first | apply Kd.R_alloc | apply Kd.R_drewN | apply Kd.R_drew)); exact HO_0.out) | (simp only [hl0_1]; exact (by (with_reducible repeat (first | apply Kd.R_alloc | apply Kd.R_drewN | apply Kd.R_drew)); exact HO_0.out))), by repeat (first | (with_reducible first | exact HB.out | apply below_alloc | apply pw_below_drewN | apply below_drew1) | exact HB.out), by repeat (first | (with_reducible first | exact HK.out | apply Kept.alloc | apply Kept.drewN | apply Kept.drew) | exact HK.out)⟩

/-- The row with all but its first turned round. -/
def rev_tail1.f (l0 : List (S26)) : Option (List (S26)) := if 1 ≤ l0.length then rev_tail.l0 (l0.length - 1) (l0.length + 1) l0 0 (wrap64 (((l0.length - 1 : Nat) : Int) - 1)) else none
/-- Where all but the first begin. -/
def tailAt (A : Option Addr) (c : Nat) : Addr := if c = 1 then A.getD default else ((A.getD default).add 2)
theorem rev_tail1.calls (P0_ : Nat → Prop) (A : Option Addr) (c : Nat) (l0 : List (S26)) (r : List (S26)) (w0 w : World) (hB : Below w0.heap.size w0 w) (ho0 : Kd.R k26 26 w w0.heap.size P0_ (.slice A l0.length c) l0) (h : rev_tail1.f l0 = some r) :
    Calls Try.prog 43 #[.slice (some (tailAt A c)) (l0.length - 1) (c - 1)] w fun e w' => e = .returned (.tuple #[]) ∧ Kd.R k26 26 w' w0.heap.size (fun k_ => (P0_ k_ ∨ w.heap.size ≤ k_)) (.slice A l0.length c) r ∧ Below w0.heap.size w0 w' ∧ Kept w w' (fun k_ => P0_ k_) := by
  unfold rev_tail1.f at h
  split at h
  · rename_i hl
    obtain ⟨g, c2, e, _, _, _, _⟩ := Kd.R_form ho0 (by omega)
    injection e with e1 e2 e3
    subst e1
    have hc := (Kd.R_reads' ho0).2.1
    refine rev_tail.calls (l0.length + 1) P0_ g c (l0.length - 1) _ _ l0 r w0 w (by omega) (fun hm => ?_) hB ho0 h
    unfold tailAt
    rw [if_neg (by omega)]
    simp [add_plain]
  · cases h
theorem rev_tail1_pos {l r : List (S26)} (h : rev_tail1.f l = some r) : 1 ≤ l.length := by
  unfold rev_tail1.f at h
  split at h
  · assumption
  · cases h
theorem run_tail (A : Option Addr) (n c : Nat) (hA : ∃ a, A = some a) (h1 : 1 ≤ n) (h2 : n ≤ c) (W : World) : (Instr.slice 22 (.slice A n c) (some (.int .i64 1)) none none).run Try.prog W = .ok (.slice (some (tailAt A c)) (n - 1) (c - 1)) W := by
  obtain ⟨a, rfl⟩ := hA
  obtain ⟨i, hi, hz⟩ := Option.map_eq_some_iff.1 info26
  simp only [Prod.mk.injEq] at hz
  have hel : Try.prog.elem 22 = 26 := by simp [Program.elem, Try.underlying22]
  have hu : Try.prog.underlying 22 = some (.slice (Try.prog.elem 22)) := by rw [hel]; exact Try.underlying22
  rw [run_slice_l W 22 (some a) n c hu .i64 1 (by omega) (by omega), hel]
  unfold tailAt
  by_cases hc : c = 1
  · simp [sizeOf, typeInfo, hi, hz.2.1, sliced, Result.andThen, hc]
  · simp [sizeOf, typeInfo, hi, hz.2.1, sliced, Result.andThen, hc]
theorem run_tail_of {ok : Nat → Prop} {base : Nat} {w : World} {A : Option Addr} {c : Nat} {l r : List (S26)} (h : Kd.R k26 26 w base ok (.slice A l.length c) l) (hr : rev_tail1.f l = some r) (W : World) : (Instr.slice 22 (.slice A l.length c) (some (.int .i64 1)) none none).run Try.prog W = .ok (.slice (some (tailAt A c)) (l.length - 1) (c - 1)) W := by
  have h1 := rev_tail1_pos hr
  obtain ⟨g, c2, e, _, _, _, _⟩ := Kd.R_form h (by omega)
  injection e with e1 e2 e3
  exact run_tail A l.length c ⟨_, e1⟩ h1 (Kd.R_reads' h).2.1 W


end Go.Proofs.YtkilnknndglmnaaP
end

section
-- Laid by given.py, a program of this seat, with the kit's printer.
namespace Go.Proofs.YtkilnknndglmnaaP
open Go.Proofs.Ytkilnknndglmnaa (G fl IsS isSB okC okF okC_iff encC kcx at_cx md red run_cmul run_cadd run_csub run_fint lit_one lit_zero tdiv_32 run_store_cx)
attribute [local go_sem] run_cmul run_cadd run_csub run_fint lit_one lit_zero tdiv_32 run_store_cx
open Go.RowKit Go.Proofs.YtkilnknndglmnaaW.PrintWords Go.Proofs.YtkilnknndglmnaaW.PrintLast Go.Proofs.YtkilnknndglmnaaW.PrintMore
attribute [local go_sem] max2_int min2_int max_two min_two max_three min_three max_four min_four   -- for this text's walks alone
set_option linter.unusedVariables false
set_option linter.unusedSimpArgs false

/-! ### beat_Back: function 20 -/
def beat_Back.l0 : Nat → List (S26) → Int → Int → Int → Int → Int → Option ((List (S26)) × Int)
 | 0, _, _, _, _, _, _ => none
 | k + 1, x4, x5, x27, x28, x190000, x190001 => if x28 < x27 then (if 0 ≤ x28 then (if x28 < (x4.length : Int) then ((seal_Times.f k ((rd_T26 x4 x28).f0) ((rd_T26 x4 x28).f1) x190000 x190001).bind fun bt191 => (beat_Back.l0 k (x4.set (x28 : Int).toNat (⟨bt191.1, bt191.2.1⟩ : S26)) x5 x27 (wrap64 (x28 + 1)) x190000 x190001)) else (none)) else (none)) else (some (x4, x5))
def beat_Back.f (k : Nat) (l0 : List (S26)) : Option ((List (S26)) × Int) := (beat_Turn.f k l0).bind fun bt181 => (if bt181.2 = 0 then ((rev_tail1.f bt181.1).bind fun t185 => ((seal_Power.f (l0.length : Int) 0 16777197).bind fun bt186 => (beat_Back.l0 k t185 bt186.2.2 (bt181.1.length : Int) 0 bt186.1 bt186.2.1))) else (some (([] : List (S26)), bt181.2)))
theorem beat_Back.mono_l : ∀ k, (∀ y0 y1 y2 y3 y4 y5, LeO (beat_Back.l0 k y0 y1 y2 y3 y4 y5) (beat_Back.l0 (k + 1) y0 y1 y2 y3 y4 y5))
 | 0 => fun _ _ _ _ _ _ r h => by simp [beat_Back.l0] at h
 | k + 1 => by
  have ih0 := beat_Back.mono_l k
  ·intro y0 y1 y2 y3 y4 y5
   unfold beat_Back.l0
   repeat' first
   | (with_reducible exact ih0 _ _ _ _ _ _)
   | (with_reducible exact beat_Turn.mono _ _)
   | (with_reducible exact seal_Times.mono _ _ _ _ _)
   | (with_reducible exact LeO.refl _)
   | (with_reducible exact LeO.none _)
   | (with_reducible refine LeO.ite ?_ ?_)
   | (with_reducible refine LeO.bind ?_ (fun _ => ?_))
   | exact ih0 _ _ _ _ _ _
   | exact beat_Turn.mono _ _
   | exact seal_Times.mono _ _ _ _ _
   | exact LeO.none _
   | refine LeO.ite ?_ ?_
   | refine LeO.bind ?_ (fun _ => ?_)
theorem beat_Back.mono : ∀ a0 k, LeO (beat_Back.f k a0) (beat_Back.f (k + 1) a0) := by
 intro a0 k
 have ih0 := beat_Back.mono_l k
 unfold beat_Back.f
 repeat' first
   | (with_reducible exact ih0 _ _ _ _ _ _)
   | (with_reducible exact beat_Turn.mono _ _)
   | (with_reducible exact seal_Times.mono _ _ _ _ _)
   | (with_reducible exact LeO.refl _)
   | (with_reducible exact LeO.none _)
   | (with_reducible refine LeO.ite ?_ ?_)
   | (with_reducible refine LeO.bind ?_ (fun _ => ?_))
   | exact ih0 _ _ _ _ _ _
   | exact beat_Turn.mono _ _
   | exact seal_Times.mono _ _ _ _ _
   | exact LeO.none _
   | refine LeO.ite ?_ ?_
   | refine LeO.bind ?_ (fun _ => ?_)
def beat_Back.T9 : Bool × List (List Nat × List Nat) := (true, [([], []), ([], []), ([], []), ([], []), ([2, 3], [2, 3]), ([4], [4]), ([], []), ([5, 6], [5, 6]), ([7], [7]), ([8], [8]), ([8], [8]), ([0, 1, 0, 1, 2, 3, 4, 5, 6, 7, 8, 9], [0, 1]), ([11, 9, 7, 0, 1, 2, 3, 4, 5, 6, 7, 8, 9], [9, 11])])
def beat_Back.B9 : List Nat := [0, 0, 0, 0, 12, 28, 0, 124, 252, 508, 508, 1023, 3071]
theorem beat_Back.tab9 : rtab .any (opsOf Try.f20 9) = beat_Back.T9 := by kernel_rfl
theorem beat_Back.bits9 : waitsOk beat_Back.T9.2 beat_Back.B9 = true := by kernel_rfl
set_option maxHeartbeats 8000000 in
set_option maxRecDepth 100000 in
theorem beat_Back.calls (k : Nat) (A0 : Option Addr) (c0 : Nat) (l0 : List (S26)) (r1 : List (S26)) (r2 : Int) (w : World) (hr0 : Kd.C k26 w A0 l0.length l0) (hc0 : l0.length ≤ c0) (h : beat_Back.f k l0 = some (r1, r2)) :
  Calls Try.prog 20 #[.slice A0 l0.length c0] w fun e w' => ∃ v0_ : Value, e = .returned (.tuple #[v0_, .int .i64 r2]) ∧ Kd.R k26 26 w' w.heap.size (fun _ => True) v0_ r1 ∧ Below w.heap.size w w' := by
 have hu26 := Try.underlying26
 have HR0 := Aside0.mk hr0
 have HC0 := Aside0.mk hc0
 clear hr0 hc0
 have HB := Aside0.mk (Below.refl w.heap.size w)
 have H : ((beat_Turn.f k l0).bind fun bt181 => (if bt181.2 = 0 then ((rev_tail1.f bt181.1).bind fun t185 => ((seal_Power.f (l0.length : Int) 0 16777197).bind fun bt186 => (beat_Back.l0 k t185 bt186.2.2 (bt181.1.length : Int) 0 bt186.1 bt186.2.1))) else (some (([] : List (S26)), bt181.2)))) = some (r1, r2) := h
 clear h
 replace H := Option.bind_eq_some_iff.mp H
 obtain ⟨⟨t181, t182⟩, A20, H⟩ := H
 replace H : (if t182 = 0 then ((rev_tail1.f t181).bind fun t185 => ((seal_Power.f (l0.length : Int) 0 16777197).bind fun bt186 => (beat_Back.l0 k t185 bt186.2.2 (t181.length : Int) 0 bt186.1 bt186.2.1))) else (some (([] : List (S26)), t182))) = some (r1, r2) := H
 have A2 := Aside0.mk A20
 clear A20
 by_cases c3 : t182 = 0
 ·rw [if_pos c3] at H
  have c3b0 : (t182 == 0) = true := beq_iff_eq.mpr c3
  have c3b1 : (t182 != 0) = false := bne_eq_false_iff_eq.mpr c3
  clear c3
  replace H := Option.bind_eq_some_iff.mp H
  obtain ⟨t185, A40, H⟩ := H
  replace H : ((seal_Power.f (l0.length : Int) 0 16777197).bind fun bt186 => (beat_Back.l0 k t185 bt186.2.2 (t181.length : Int) 0 bt186.1 bt186.2.1)) = some (r1, r2) := H
  have A4 := Aside0.mk A40
  clear A40
  replace H := Option.bind_eq_some_iff.mp H
  obtain ⟨⟨t186, t187, t188⟩, A50, H⟩ := H
  replace H : (beat_Back.l0 k t185 t188 (t181.length : Int) 0 t186 t187) = some (r1, r2) := H
  have A5 := Aside0.mk A50
  clear A50
  have H' := Aside0.mk H
  clear H
  go_enter Try.func20, Try.ntmps20
  go_wp2_with (first | ((with_reducible refine gate_callee (f := 12) rfl ?_); refine goesL_ (some 10) rfl rfl Try.func12 (by kernel_rfl) rfl #[.slice A0 l0.length c0] rfl (by (try simp only [List.map_toArray, List.map_cons, List.map_nil]); first | done | rfl | (simp only [List.length_drop, List.length_take]; rfl)) ?_; (with_reducible refine (beat_Turn.calls k _ _ l0 t181 t182 _ ?side1 ?side2 A2.out).mono ?_); (case side1 => repeat (first | exact HR0.out | (with_reducible refine Kd.C_alloc ?_ _) | (with_reducible refine Kd.C_drewN ?_ _) | (with_reducible refine Kd.C_drew ?_))); (case side2 => exact HC0.out); rintro e w6 ⟨v183, rfl, ho0, hb⟩; refine ⟨_, rfl, ?_⟩; have n0_ := Aside0.mk (Kd.R_lower ho0 (below_size (by repeat (first | (with_reducible first | exact HB.out | apply below_alloc | apply pw_below_drewN | apply below_drew1) | exact HB.out)))); have n1_ := Aside0.mk (below_step (by repeat (first | (with_reducible first | exact HB.out | apply below_alloc | apply pw_below_drewN | apply below_drew1) | exact HB.out)) hb); clear HB; have HO184 := n0_; have HB := n1_; clear n0_ n1_; (try clear hb); (try clear hb2); (try clear hk); (try clear hi); (try clear ho0); obtain ⟨Ao7, co7, eo7⟩ := Kd.R_slice HO184.out; subst eo7; have hsl_ := run_tail_of HO184.out A4.out) | ((with_reducible refine gate_callee (f := 43) rfl ?_); refine goesL_ (some 18) rfl rfl Try.func43 (by kernel_rfl) rfl #[.slice (some (tailAt Ao7 co7)) (t181.length - 1) (co7 - 1)] rfl (by (try simp only [List.map_toArray, List.map_cons, List.map_nil]); first | done | rfl | (simp only [List.length_drop, List.length_take]; rfl)) ?_; (with_reducible refine (rev_tail1.calls (fun k_ => some k_ = (.slice Ao7 t181.length co7 : Value).ownBlock) Ao7 co7 t181 t185 w _ ?side1 ?side2 A4.out).mono ?_); (case side1 => repeat (first | (with_reducible first | exact HB.out | apply below_alloc | apply pw_below_drewN | apply below_drew1) | exact HB.out)); (case side2 => exact Kd.R_tight rfl HO184.out); rintro e w8 ⟨rfl, hy0, hb, hkp⟩; refine ⟨_, rfl, ?_⟩; have n0_ := Aside0.mk (Kd.R_reok rfl hy0 (fun k_ e_ => HO184.out.1 k_ e_)); have n1_ := Aside0.mk (hb); clear HO184; clear HB; have HO184 := n0_; have HB := n1_; clear n0_ n1_; (try clear hb); (try clear hkp); (try clear hy0)) | ((with_reducible refine gate_callee (f := 14) rfl ?_); refine goesL_ (some 23) rfl rfl Try.func14 (by kernel_rfl) rfl #[.agg #[.int .i64 (l0.length : Int), .int .i64 0], .int .i64 16777197] rfl (by (try simp only [List.map_toArray, List.map_cons, List.map_nil]); first | done | rfl | (simp only [List.length_drop, List.length_take]; rfl)) ?_; (with_reducible refine (seal_Power.calls (l0.length : Int) 0 16777197 t186 t187 t188 _ A5.out).mono ?_); rintro e w9 ⟨rfl, hb⟩; refine ⟨_, rfl, ?_⟩; have n0_ := Aside0.mk (Kd.R_below (by (with_reducible repeat (first | apply Kd.R_alloc | apply Kd.R_drewN | apply Kd.R_drew)); exact HO184.out) hb); have n1_ := Aside0.mk (below_step (by repeat (first | (with_reducible first | exact HB.out | apply below_alloc | apply pw_below_drewN | apply below_drew1) | exact HB.out)) hb); clear HO184; clear HB; have HO184 := n0_; have HB := n1_; clear n0_ n1_; (try clear hb); (try clear hb2); (try clear hk); (try clear hi)) | ((with_reducible refine gate_dst (N := 6) rfl ?_); refine box_event ?hg (N := 6) ?hd (cs := #[.int .i64 0, .int .i64 0]) (t := 26) ?hr ?_; (case hd => rfl); (case hg => rfl); (case hr => first | (go_simp; done) | (go_simp; rfl)); intro gb189 hg w10 hbox hb; have n0_ := Aside0.mk (Kd.R_below (Kd.R_elderB (by (with_reducible repeat (first | apply Kd.R_alloc | apply Kd.R_drewN | apply Kd.R_drew)); exact HO184.out) gb189 (Nat.le_of_eq hg.symm)) hb); have n1_ := Aside0.mk (below_step (by repeat (first | (with_reducible first | exact HB.out | apply below_alloc | apply pw_below_drewN | apply below_drew1) | exact HB.out)) hb); have n2_ := Aside0.mk (hbox); have n3_ := Aside0.mk ((by rw [hg]; exact (below_size (by repeat (first | (with_reducible first | exact HB.out | apply below_alloc | apply pw_below_drewN | apply below_drew1) | exact HB.out))) : w.heap.size ≤ gb189)); have n4_ := Aside0.mk ((by rw [hg]; exact (below_size (by repeat (first | (with_reducible first | exact HB.out | apply below_alloc | apply pw_below_drewN | apply below_drew1) | exact HB.out))) : w.heap.size ≤ gb189)); clear HO184; clear HB; have HO184 := n0_; have HB := n1_; have BK189 := n2_; have GW189 := n3_; have GE189 := n4_; clear n0_ n1_ n2_ n3_ n4_; clear hb hbox hg; have hcz11_0 : w10.cell? ⟨gb189, 0, none⟩ = some (.int .i64 0) := (blk_cell BK189.out 0).trans rfl; have hcz11_1 : w10.cell? ⟨gb189, 1, none⟩ = some (.int .i64 0) := (blk_cell BK189.out 1).trans rfl; have hfz11_0 := blk_frozen BK189.out 0; have hfz11_1 := blk_frozen BK189.out 1))
  go_loopg [28] k (fun kq v28 w' => ∃ (x4_1 : List (S26)) (x28_1 : Int) (x190000_1 : Int) (x190001_1 : Int), v28 = .int .i64 x28_1 ∧ Aside0 (beat_Back.l0 kq x4_1 t188 (t181.length : Int) x28_1 x190000_1 x190001_1 = some (r1, r2)) ∧ Aside0 (kq ≤ k) ∧ Aside0 (Kd.R k26 26 w' w.heap.size (fun k_ => k_ ≠ gb189) (.slice Ao7 t181.length co7) x4_1) ∧ Aside0 (w'.heap[gb189]? = some (.cells #[.int .i64 x190000_1, .int .i64 x190001_1] 26 (0, 0))) ∧ Aside0 (Below w.heap.size w w'))
  case atStart => exact ⟨(t185), (0), (t186), (t187), (by first | rfl | (simp; done) | (simp [*]; done) | (simp [Int.tdiv_eq_ediv_of_nonneg]; done)), H', ⟨Nat.le_refl _⟩, ⟨by (with_reducible repeat (first | apply Kd.R_alloc | apply Kd.R_drewN | apply Kd.R_drew)); exact Kd.R_mono (Kd.R_far (p := ⟨gb189, 1, none⟩) (Kd.R_far (p := ⟨gb189, 0, none⟩) (Kd.R_mono HO184.out (fun k_ hk => (⟨hk, hk.2⟩ : _ ∧ k_ ≠ gb189))) (fun _ hk => hk.2) (.int .i64 t186)) (fun _ hk => hk.2) (.int .i64 t187)) (fun _ hk => hk.1.2)⟩, ⟨by (with_reducible repeat (first | refine blk_drewN ?_ _ | refine blk_drew ?_ | refine blk_alloc ?_ _)); refine blk_put (cs := #[.int .i64 t186, .int .i64 0]) ?_ 1 _ rfl; (with_reducible repeat (first | refine blk_drewN ?_ _ | refine blk_drew ?_ | refine blk_alloc ?_ _)); refine blk_put (cs := #[.int .i64 0, .int .i64 0]) ?_ 0 _ rfl; (with_reducible repeat (first | refine blk_drewN ?_ _ | refine blk_drew ?_ | refine blk_alloc ?_ _)); exact BK189.out⟩, ⟨by repeat (first | (with_reducible first | exact HB.out | apply below_alloc | apply pw_below_drewN | apply below_drew1 | refine below_set ?_ GE189.out) | exact HB.out)⟩⟩
  case round =>
   clear H'
   try clear c1
   try clear c2
   try clear p2
   try clear c3
   try clear c3b0
   try clear c3b1
   try clear c9
   try clear hcz11_0
   try clear hcz11_1
   try clear hfz11_0
   try clear hfz11_1
   obtain ⟨x4_1, x28_1, x190000_1, x190001_1, rfl, HA, HK1, HO_4, BK189, HB⟩ := hrel
   have hl4_1 := (Kd.R_reads' HO_4.out).1
   rw [hl4_1] at HO_4
   (try simp only [hl4_1])
   (try simp only [hl4_1] at BK189)
   cases gk with
   | zero => exact absurd HA.out (by simp [beat_Back.l0])
   | succ k1 =>
    have H := HA.out
    clear HA
    simp only [beat_Back.l0] at H
    by_cases c12 : x28_1 < (t181.length : Int)
    ·rw [if_pos c12] at H
     have c12b0 : decide (x28_1 < (t181.length : Int)) = true := decide_eq_true c12
     clear c12
     by_cases c13 : 0 ≤ x28_1
     ·rw [if_pos c13] at H
      have c13b0 : decide (0 ≤ x28_1) = true := decide_eq_true c13
      clear c13
      by_cases c14 : x28_1 < (x4_1.length : Int)
      ·rw [if_pos c14] at H
       have c14b0 : decide (x28_1 < (x4_1.length : Int)) = true := decide_eq_true c14
       clear c14
       replace H := Option.bind_eq_some_iff.mp H
       obtain ⟨⟨t191, t192, t193⟩, A150, H⟩ := H
       replace H : (beat_Back.l0 k1 (x4_1.set (x28_1 : Int).toNat (⟨t191, t192⟩ : S26)) t188 (t181.length : Int) (wrap64 (x28_1 + 1)) x190000_1 x190001_1) = some (r1, r2) := H
       have A15 := Aside0.mk A150
       clear A150
       obtain ⟨y194, hy194⟩ : ∃ y_ : List (S26), y_ = (x4_1.set (x28_1 : Int).toNat (⟨t191, t192⟩ : S26)) := ⟨_, rfl⟩
       replace H : (beat_Back.l0 k1 y194 t188 (t181.length : Int) (wrap64 (x28_1 + 1)) x190000_1 x190001_1) = some (r1, r2) := by first | (rw [hy194]; with_reducible exact H) | (have H2_ := (Option.bind_some _ _).symm.trans H; rw [hy194]; with_reducible exact H2_) | (have H2_ := (Option.bind_some _ _).symm.trans H; with_reducible exact H2_) | with_reducible exact H | (rw [hy194]; exact H) | exact H
       have Ny194 := Aside0.mk hy194
       clear hy194
       have H' := Aside0.mk H
       clear H
       try go_wp2
       have n0_ := Aside0.mk (Kd.R_drew HO_4.out)
       have n1_ := Aside0.mk (blk_drew BK189.out)
       have n2_ := Aside0.mk (below_drew1 HB.out)
       clear HO_4
       clear BK189
       clear HB
       have HO_4 := n0_
       have BK189 := n1_
       have HB := n2_
       clear n0_ n1_ n2_
       have p190 : 0 ≤ (x28_1 : Int) := of_decide_eq_true (by first | (with_reducible assumption) | assumption)
       have q190 : x28_1 < (x4_1.length : Int) := of_decide_eq_true (by first | (with_reducible assumption) | assumption)
       obtain ⟨ad190, e190, hx190_0, hx190_1⟩ := at_T26 (Kd.R_reads' HO_4.out).2.2 x28_1 p190 q190
       cases e190
       replace p190 := eq_true p190
       replace q190 := eq_true q190
       refine start_ (n := 13) (S := fun w' => w'.cell? ⟨gb189, 0, none⟩ = some (.int .i64 x190000_1) ∧ w'.cell? ⟨gb189, 1, none⟩ = some (.int .i64 x190001_1) ∧ w'.cell? (ad190.add ((x28_1).toNat * 2)) = some (.int .i64 ((rd_T26 x4_1 x28_1).f0)) ∧ w'.cell? ⟨(ad190.add ((x28_1).toNat * 2)).block, (ad190.add ((x28_1).toNat * 2)).off + 1, none⟩ = some (.int .i64 ((rd_T26 x4_1 x28_1).f1))) (ds := [12]) #[false, false, false, false, false, false, false, false, false, false, false, false, false] (by kernel_rfl) rfl rfl ⟨(blk_cell BK189.out 0).trans rfl, (blk_cell BK189.out 1).trans rfl, hx190_0, hx190_1⟩ (fun hHeld => ?_); refine with_tabW beat_Back.tab9 beat_Back.bits9 (fun HT_ HW_ => ?_)
       generalize wr.drew = w17 at HO_4 BK189 HB hx190_0 hx190_1 hHeld ⊢
       refine pure_ (i := 0) (N := some 32) (v := ?_) (a' := ?_) #[true, false, false, false, false, false, false, false, false, false, false, false, false] rfl rfl (any_of HT_.out (by kernel_rfl)) (fun _ _ _ h => h) (Or.inl ⟨by rfl, ?_⟩) ?_ ?_
       rotate_left
       ·intro w'
        go_simp
        with_reducible rfl
       rotate_left
       ·simp only [Act.put, List.setIfInBounds_toArray, List.set_cons_zero, List.set_cons_succ, i64_w, i32_w]
        rfl
       refine pure_ (i := 1) (N := some 33) (v := ?_) (a' := ?_) #[true, true, false, false, false, false, false, false, false, false, false, false, false] rfl rfl (any_of HT_.out (by kernel_rfl)) (fun _ _ _ h => h) (Or.inl ⟨by rfl, ?_⟩) ?_ ?_
       rotate_left
       ·intro w'
        go_simp
        with_reducible rfl
       rotate_left
       ·simp only [Act.put, List.setIfInBounds_toArray, List.set_cons_zero, List.set_cons_succ, i64_w, i32_w]
        rfl
       refine pure_ (i := 2) (N := some 34) (v := ?_) (a' := ?_) #[true, true, true, false, false, false, false, false, false, false, false, false, false] rfl rfl (any_of HT_.out (by kernel_rfl)) (fun _ _ _ h => h) (Or.inl ⟨by rfl, ?_⟩) ?_ ?_
       rotate_left
       ·intro w'
        go_simp
        with_reducible rfl
       rotate_left
       ·simp only [Act.put, List.setIfInBounds_toArray, List.set_cons_zero, List.set_cons_succ, i64_w, i32_w]
        rfl
       refine pure_ (i := 3) (N := some 35) (v := ?_) (a' := ?_) #[true, true, true, true, false, false, false, false, false, false, false, false, false] rfl rfl (any_of HT_.out (by kernel_rfl)) (fun _ _ _ h => h) (Or.inl ⟨by rfl, ?_⟩) ?_ ?_
       rotate_left
       ·intro w'
        go_simp
        with_reducible rfl
       rotate_left
       ·simp only [Act.put, List.setIfInBounds_toArray, List.set_cons_zero, List.set_cons_succ, i64_w, i32_w]
        rfl
       refine pure_ (i := 4) (N := some 36) (v := ?_) (a' := ?_) #[true, true, true, true, true, false, false, false, false, false, false, false, false] rfl rfl (any_of HT_.out (by kernel_rfl)) (fun _ _ _ h => h) (Or.inl ⟨by rfl, ?_⟩) ?_ ?_
       rotate_left
       ·intro w'
        go_simp
        with_reducible rfl
       rotate_left
       ·simp only [Act.put, List.setIfInBounds_toArray, List.set_cons_zero, List.set_cons_succ, i64_w, i32_w]
        rfl
       refine take_ (i := 5) (N := some 37) (v := ?_) (a' := ?_) #[true, true, true, true, true, true, false, false, false, false, false, false, false] rfl rfl (take_ofW HT_.out HW_.out (by kernel_rfl)) (fun _ _ _ h => h) (Or.inl ⟨by rfl, ?_⟩) hHeld ?_ ?_
       rotate_left
       ·rintro w' ⟨s0, s1, s2, s3⟩
        go_simp
        with_reducible rfl
       rotate_left
       ·simp only [Act.put, List.setIfInBounds_toArray, List.set_cons_zero, List.set_cons_succ, i64_w, i32_w]
        rfl
       refine take_ (i := 6) (N := some 38) (v := ?_) (a' := ?_) #[true, true, true, true, true, true, true, false, false, false, false, false, false] rfl rfl (take_ofW HT_.out HW_.out (by kernel_rfl)) (fun _ _ _ h => h) (Or.inl ⟨by rfl, ?_⟩) hHeld ?_ ?_
       rotate_left
       ·rintro w' ⟨s0, s1, s2, s3⟩
        go_simp
        with_reducible rfl
       rotate_left
       ·simp only [Act.put, List.setIfInBounds_toArray, List.set_cons_zero, List.set_cons_succ, i64_w, i32_w]
        rfl
       refine one_ (i := 7) (N := some 39) #[true, true, true, true, true, true, true, true, false, false, false, false, false] rfl rfl (one_of HT_.out (by kernel_rfl)) (by decide) (fun K hK => ?_)
       refine goes_ Try.func15 (by kernel_rfl) rfl #[.agg #[.int .i64 ((rd_T26 x4_1 x28_1).f0), .int .i64 ((rd_T26 x4_1 x28_1).f1)], .agg #[.int .i64 x190000_1, .int .i64 x190001_1]] (by rfl) rfl rfl (by (try simp only [List.map_toArray, List.map_cons, List.map_nil]); first | done | rfl | (simp only [List.length_drop, List.length_take]; rfl)) ?_
       with_reducible refine (seal_Times.calls k1 ((rd_T26 x4_1 x28_1).f0) ((rd_T26 x4_1 x28_1).f1) x190000_1 x190001_1 t191 t192 t193 _ A15.out).mono ?_
       rintro e w18 ⟨rfl, hb⟩
       have HS2_ := (hb.cell (World.block_lt_of_cell? _ _ (hHeld.2.2.1))).trans (hHeld.2.2.1)
       have HS3_ := (hb.cell (World.block_lt_of_cell? _ _ (hHeld.2.2.2))).trans (hHeld.2.2.2)
       refine ⟨_, rfl, ?_⟩
       have n0_ := Aside0.mk (Kd.R_below (by (with_reducible repeat (first | apply Kd.R_alloc | apply Kd.R_drewN | apply Kd.R_drew)); exact HO_4.out) hb)
       have n1_ := Aside0.mk (blk_below (g := gb189) (o := .cells #[.int .i64 x190000_1, .int .i64 x190001_1] 26 (0, 0)) (by (with_reducible repeat (first | refine blk_drewN ?_ _ | refine blk_drew ?_ | refine blk_alloc ?_ _)); exact BK189.out) hb)
       have n2_ := Aside0.mk (below_step (by repeat (first | (with_reducible first | exact HB.out | apply below_alloc | apply pw_below_drewN | apply below_drew1 | refine below_set ?_ GE189.out) | exact HB.out)) hb)
       clear HO_4
       clear BK189
       clear HB
       have HO_4 := n0_
       have BK189 := n1_
       have HB := n2_
       clear n0_ n1_ n2_
       (try clear hb)
       (try clear hb2)
       (try clear hk)
       (try clear hi)
       have p16 : 0 ≤ (x28_1 : Int) := of_decide_eq_true (by first | (with_reducible assumption) | assumption)
       have q16 : (x28_1 : Int) < ((x4_1.length : Int) : Int) := of_decide_eq_true (by first | (with_reducible assumption) | assumption)
       obtain ⟨go16, co16, eo16, gb16, gl16, cl16, HG16⟩ := Kd.R_form HO_4.out (by omega)
       (first | cases eo16 | (injection eo16 with ea_ en_ ec_; (first | subst ea_ | (injection ea_ with ea_; subst ea_)); subst ec_; clear en_))
       have GB16 := Aside0.mk gb16
       have GG16 := Aside0.mk HG16
       clear gb16 gl16 HG16
       (first | simp only [add_plain] at hx190_0 | skip)
       (first | simp only [add_plain] at hx190_1 | skip)
       obtain ⟨ce16, hcl16, hM16, hcc16, hfr16⟩ := Kd.R_elem HO_4.out z26 (x28_1 : Int) p16 q16
       obtain rfl := k26_openM hM16
       have hx16_0 : World.cell? _ ⟨go16, (x28_1 : Int).toNat * 2, none⟩ = some (.int .i64 ((rd_T26 x4_1 x28_1).f0)) := hcc16 0 _ rfl
       have hx16_1 : World.cell? _ ⟨go16, (x28_1 : Int).toNat * 2 + 1, none⟩ = some (.int .i64 ((rd_T26 x4_1 x28_1).f1)) := hcc16 1 _ rfl
       have hf16_0 : World.frozen? _ ⟨go16, (x28_1 : Int).toNat * 2, none⟩ = false := hfr16 0
       have hf16_1 : World.frozen? _ ⟨go16, (x28_1 : Int).toNat * 2 + 1, none⟩ = false := hfr16 1
       clear hcl16 hcc16 hfr16 hM16
       replace p16 := eq_true p16
       replace q16 := eq_true q16
       obtain ⟨ce19, hcl19, hM19, hcc19, hfr19⟩ := Kd.R_elem HO_4.out z26 (x28_1 : Int) (of_decide_eq_true (by first | (with_reducible assumption) | assumption)) (by have h_ : (x28_1 : Int) < ((x4_1.length : Int) : Int) := of_decide_eq_true (by first | (with_reducible assumption) | assumption); first | exact h_ | (have e_ := (Kd.R_reads' HO_4.out).1; omega) | simpa using h_)
       obtain rfl := k26_openM hM19
       have HP19 := (Kd.R_seg HO_4.out (x28_1 : Int) (of_decide_eq_true (by first | (with_reducible assumption) | assumption)) (by have h_ : (x28_1 : Int) < ((x4_1.length : Int) : Int) := of_decide_eq_true (by first | (with_reducible assumption) | assumption); first | exact h_ | (have e_ := (Kd.R_reads' HO_4.out).1; omega) | simpa using h_) (seg := [.int .i64 t191, .int .i64 t192]) (j := 0) hcl19 hcc19 (show 2 ≤ 2 from by decide) (x' := (⟨t191, t192⟩ : S26)) (k26_mkM _ _ _ (⟨t191, t192⟩ : S26) ) (fun _ hk => hk)).1
       rw [← Ny194.out] at HP19
       have HQ19 := Aside0.mk HP19
       clear hcl19 hcc19 hfr19 hM19 HP19
       refine hK.out _ _ ⟨(blk_cell BK189.out 0).trans rfl, (blk_cell BK189.out 1).trans rfl, HS2_, HS3_⟩ (fun hHeld => ?_)
       clear hK K
       refine norm_ (a' := ?_) ?_ ?_
       rotate_left
       ·show Act.put _ (some 39) _ = _
        simp only [Act.put, List.setIfInBounds_toArray, List.set_cons_zero, List.set_cons_succ, i64_w, i32_w]
        rfl
       refine pure_ (i := 8) (N := some 31) (v := ?_) (a' := ?_) #[true, true, true, true, true, true, true, true, true, false, false, false, false] rfl rfl (any_of HT_.out (by kernel_rfl)) (fun _ _ _ h => h) (Or.inl ⟨by rfl, ?_⟩) ?_ ?_
       rotate_left
       ·intro w'
        go_simp
        with_reducible rfl
       rotate_left
       ·simp only [Act.put, List.setIfInBounds_toArray, List.set_cons_zero, List.set_cons_succ, i64_w, i32_w]
        rfl
       refine pure_ (i := 9) (N := some 40) (v := ?_) (a' := ?_) #[true, true, true, true, true, true, true, true, true, true, false, false, false] rfl rfl (any_of HT_.out (by kernel_rfl)) (fun _ _ _ h => h) (Or.inl ⟨by rfl, ?_⟩) ?_ ?_
       rotate_left
       ·intro w'
        go_simp
        with_reducible rfl
       rotate_left
       ·simp only [Act.put, List.setIfInBounds_toArray, List.set_cons_zero, List.set_cons_succ, i64_w, i32_w]
        rfl
       refine pure_ (i := 10) (N := some 41) (v := ?_) (a' := ?_) #[true, true, true, true, true, true, true, true, true, true, true, false, false] rfl rfl (any_of HT_.out (by kernel_rfl)) (fun _ _ _ h => h) (Or.inl ⟨by rfl, ?_⟩) ?_ ?_
       rotate_left
       ·intro w'
        go_simp
        with_reducible rfl
       rotate_left
       ·simp only [Act.put, List.setIfInBounds_toArray, List.set_cons_zero, List.set_cons_succ, i64_w, i32_w]
        rfl
       refine pure_ (i := 11) (N := some 42) (v := ?_) (a' := ?_) #[true, true, true, true, true, true, true, true, true, true, true, true, false] rfl rfl (any_of HT_.out (by kernel_rfl)) (fun _ _ _ h => h) (Or.inl ⟨by rfl, ?_⟩) ?_ ?_
       rotate_left
       ·intro w'
        go_simp
        with_reducible rfl
       rotate_left
       ·simp only [Act.put, List.setIfInBounds_toArray, List.set_cons_zero, List.set_cons_succ, i64_w, i32_w]
        rfl
       refine last_ (i := 12) (N := none) #[true, true, true, true, true, true, true, true, true, true, true, true, true] rfl rfl (one_of HT_.out (by kernel_rfl)) (by decide) (fun K hK => ?_)
       refine skip_ (w1 := ?_) (by rfl) rfl ?_ ?_
       rotate_left
       ·go_simp
        rfl
       refine hK.out _ _ ?_
       clear hK K
       refine done_ (done_of HT_.out (by kernel_rfl)) ?_
       try go_wp2
       (try simp only [← hl4_1])
       go_roundg k1
       case measure => have := HK1.out; omega
       case rel => exact ⟨(y194), (wrap64 (x28_1 + 1)), (x190000_1), (x190001_1), (by first | rfl | (simp; done) | (simp [*]; done) | (simp [Int.tdiv_eq_ediv_of_nonneg]; done)), H', ⟨by have := HK1.out; omega⟩, ⟨by (try simp only [hl4_1]); (with_reducible repeat (first | apply Kd.R_alloc | apply Kd.R_drewN | apply Kd.R_drew)); exact HQ19.out⟩, ⟨by (try simp only [hl4_1]); (with_reducible repeat (first | refine blk_drewN ?_ _ | refine blk_drew ?_ | refine blk_alloc ?_ _)); refine blk_far ?_ (by have h_ := Kd.R_away HO_4.out (fun _ hk => hk); intro e_; exact h_ (by rw [e_]; rfl)) _; (with_reducible repeat (first | refine blk_drewN ?_ _ | refine blk_drew ?_ | refine blk_alloc ?_ _)); refine blk_far ?_ (by have h_ := Kd.R_away HO_4.out (fun _ hk => hk); intro e_; exact h_ (by rw [e_]; rfl)) _; (with_reducible repeat (first | refine blk_drewN ?_ _ | refine blk_drew ?_ | refine blk_alloc ?_ _)); exact BK189.out⟩, ⟨by repeat (first | (with_reducible first | exact HB.out | apply below_alloc | apply pw_below_drewN | apply below_drew1 | refine below_set ?_ GB16.out | refine below_set ?_ GB16.out | refine below_set ?_ GE189.out) | exact HB.out)⟩⟩
      ·rw [if_neg c14] at H
       exact absurd H (by simp)
     ·rw [if_neg c13] at H
      exact absurd H (by simp)
    ·rw [if_neg c12] at H
     have c12b0 : decide (x28_1 < (t181.length : Int)) = false := decide_eq_false c12
     try rw [hl4_1] at c12b0
     clear c12
     simp only [Option.some.injEq, Prod.mk.injEq] at H
     obtain ⟨rfl, rfl⟩ := H
     go_wp2
     go_ret2
     exact ⟨_, by first | rfl | (simp [errW_none, errW_some] <;> rfl) | (simp [*, errW_none, errW_some] <;> rfl), by (with_reducible repeat (first | apply Kd.R_alloc | apply Kd.R_drewN | apply Kd.R_drew)); exact Kd.R_mono HO_4.out (fun _ hk => trivial), by repeat (first | (with_reducible first | exact HB.out | apply below_alloc | apply pw_below_drewN | apply below_drew1 | refine below_set ?_ GE189.out) | exact HB.out)⟩
 ·rw [if_neg c3] at H
  have c3b0 : (t182 == 0) = false := beq_eq_false_iff_ne.mpr c3
  have c3b1 : (t182 != 0) = true := bne_iff_ne.mpr c3
  simp only [Option.some.injEq, Prod.mk.injEq] at H
  obtain ⟨rfl, rfl⟩ := H
  go_enter Try.func20, Try.ntmps20
  go_wp2_with (first | ((with_reducible refine gate_callee (f := 12) rfl ?_); refine goesL_ (some 10) rfl rfl Try.func12 (by kernel_rfl) rfl #[.slice A0 l0.length c0] rfl (by (try simp only [List.map_toArray, List.map_cons, List.map_nil]); first | done | rfl | (simp only [List.length_drop, List.length_take]; rfl)) ?_; (with_reducible refine (beat_Turn.calls k _ _ l0 t181 t182 _ ?side1 ?side2 A2.out).mono ?_); (case side1 => repeat (first | exact HR0.out | (with_reducible refine Kd.C_alloc ?_ _) | (with_reducible refine Kd.C_drewN ?_ _) | (with_reducible refine Kd.C_drew ?_))); (case side2 => exact HC0.out); rintro e w20 ⟨v183, rfl, ho0, hb⟩; refine ⟨_, rfl, ?_⟩; have n0_ := Aside0.mk (Kd.R_lower ho0 (below_size (by repeat (first | (with_reducible first | exact HB.out | apply below_alloc | apply pw_below_drewN | apply below_drew1) | exact HB.out)))); have n1_ := Aside0.mk (below_step (by repeat (first | (with_reducible first | exact HB.out | apply below_alloc | apply pw_below_drewN | apply below_drew1) | exact HB.out)) hb); clear HB; have HO184 := n0_; have HB := n1_; clear n0_ n1_; (try clear hb); (try clear hb2); (try clear hk); (try clear hi); (try clear ho0)))
  go_ret2
  exact ⟨_, by first | rfl | (simp [errW_none, errW_some] <;> rfl) | (simp [*, errW_none, errW_some] <;> rfl), by first | exact Kd.R_nil _ _ _ _ _ | exact Kd.N_nil _ _ _ _ _ | exact Kd.V_nil _ _ _ _ _ | exact Kd.Q_nil _ _ _ _ _ | exact Kd.S_nil _ _ _ _ _, by repeat (first | (with_reducible first | exact HB.out | apply below_alloc | apply pw_below_drewN | apply below_drew1) | exact HB.out)⟩

end Go.Proofs.YtkilnknndglmnaaP
end

section
-- Laid by given.py, a program of this seat, with the kit's printer.
namespace Go.Proofs.YtkilnknndglmnaaP
open Go.Proofs.Ytkilnknndglmnaa (G fl IsS isSB okC okF okC_iff encC kcx at_cx md red run_cmul run_cadd run_csub run_fint lit_one lit_zero tdiv_32 run_store_cx)
attribute [local go_sem] run_cmul run_cadd run_csub run_fint lit_one lit_zero tdiv_32 run_store_cx
open Go.RowKit Go.Proofs.YtkilnknndglmnaaW.PrintWords Go.Proofs.YtkilnknndglmnaaW.PrintLast Go.Proofs.YtkilnknndglmnaaW.PrintMore
attribute [local go_sem] max2_int min2_int max_two min_two max_three min_three max_four min_four   -- for this text's walks alone
set_option linter.unusedVariables false
set_option linter.unusedSimpArgs false

/-! ### beat_Round: function 16 -/
mutual
def beat_Round.j0 : Nat → List (S26) → List (S26) → Bool → Option ((List (S26)) × Int)
 | 0, _, _, _ => none
 | k + 1, x0, x1, x20 => if x20 = true then (some (([] : List (S26)), 210)) else ((beat_Turn.f k x0).bind fun bt196 => (if bt196.2 = 0 then ((beat_Turn.f k x1).bind fun bt200 => (if bt200.2 = 0 then (beat_Round.l0 k bt196.1 bt200.1 (bt196.1.length : Int) 0) else (some (([] : List (S26)), bt200.2)))) else (some (([] : List (S26)), bt196.2))))
def beat_Round.l0 : Nat → List (S26) → List (S26) → Int → Int → Option ((List (S26)) × Int)
 | 0, _, _, _, _ => none
 | k + 1, x6, x8, x38, x39 => if x39 < x38 then (if 0 ≤ x39 then (if x39 < (x6.length : Int) then (if x39 < (x8.length : Int) then ((seal_Times.f k ((rd_T26 x6 x39).f0) ((rd_T26 x6 x39).f1) ((rd_T26 x8 x39).f0) ((rd_T26 x8 x39).f1)).bind fun bt206 => (beat_Round.l0 k (x6.set (x39 : Int).toNat (⟨bt206.1, bt206.2.1⟩ : S26)) x8 x38 (wrap64 (x39 + 1)))) else (none)) else (none)) else (none)) else ((beat_Back.f k x6).bind fun bt210 => (some (bt210.1, bt210.2)))
end
def beat_Round.f (k : Nat) (l0 : List (S26)) (l1 : List (S26)) : Option ((List (S26)) × Int) := (beat_turns.f (l0.length : Int)).bind fun t195 => (if t195 = true then (beat_Round.j0 k l0 l1 ((l0.length : Int) != (l1.length : Int))) else (beat_Round.j0 k l0 l1 true))
theorem beat_Round.mono_l : ∀ k, (∀ y0 y1 y2, LeO (beat_Round.j0 k y0 y1 y2) (beat_Round.j0 (k + 1) y0 y1 y2)) ∧ (∀ y0 y1 y2 y3, LeO (beat_Round.l0 k y0 y1 y2 y3) (beat_Round.l0 (k + 1) y0 y1 y2 y3))
 | 0 => ⟨fun _ _ _ r h => by simp [beat_Round.j0] at h, fun _ _ _ _ r h => by simp [beat_Round.l0] at h⟩
 | k + 1 => by
  obtain ⟨ih0, ih1⟩ := beat_Round.mono_l k
  refine ⟨?_, ?_⟩
  ·intro y0 y1 y2
   unfold beat_Round.j0
   repeat' first
   | (with_reducible exact ih0 _ _ _)
   | (with_reducible exact ih1 _ _ _ _)
   | (with_reducible exact beat_Back.mono _ _)
   | (with_reducible exact beat_Turn.mono _ _)
   | (with_reducible exact seal_Times.mono _ _ _ _ _)
   | (with_reducible exact LeO.refl _)
   | (with_reducible exact LeO.none _)
   | (with_reducible refine LeO.ite ?_ ?_)
   | (with_reducible refine LeO.bind ?_ (fun _ => ?_))
   | exact ih0 _ _ _
   | exact ih1 _ _ _ _
   | exact beat_Back.mono _ _
   | exact beat_Turn.mono _ _
   | exact seal_Times.mono _ _ _ _ _
   | exact LeO.none _
   | refine LeO.ite ?_ ?_
   | refine LeO.bind ?_ (fun _ => ?_)
  ·intro y0 y1 y2 y3
   unfold beat_Round.l0
   repeat' first
   | (with_reducible exact ih0 _ _ _)
   | (with_reducible exact ih1 _ _ _ _)
   | (with_reducible exact beat_Back.mono _ _)
   | (with_reducible exact beat_Turn.mono _ _)
   | (with_reducible exact seal_Times.mono _ _ _ _ _)
   | (with_reducible exact LeO.refl _)
   | (with_reducible exact LeO.none _)
   | (with_reducible refine LeO.ite ?_ ?_)
   | (with_reducible refine LeO.bind ?_ (fun _ => ?_))
   | exact ih0 _ _ _
   | exact ih1 _ _ _ _
   | exact beat_Back.mono _ _
   | exact beat_Turn.mono _ _
   | exact seal_Times.mono _ _ _ _ _
   | exact LeO.none _
   | refine LeO.ite ?_ ?_
   | refine LeO.bind ?_ (fun _ => ?_)
theorem beat_Round.mono : ∀ a0 a1 k, LeO (beat_Round.f k a0 a1) (beat_Round.f (k + 1) a0 a1) := by
 intro a0 a1 k
 obtain ⟨ih0, ih1⟩ := beat_Round.mono_l k
 unfold beat_Round.f
 repeat' first
   | (with_reducible exact ih0 _ _ _)
   | (with_reducible exact ih1 _ _ _ _)
   | (with_reducible exact beat_Back.mono _ _)
   | (with_reducible exact beat_Turn.mono _ _)
   | (with_reducible exact seal_Times.mono _ _ _ _ _)
   | (with_reducible exact LeO.refl _)
   | (with_reducible exact LeO.none _)
   | (with_reducible refine LeO.ite ?_ ?_)
   | (with_reducible refine LeO.bind ?_ (fun _ => ?_))
   | exact ih0 _ _ _
   | exact ih1 _ _ _ _
   | exact beat_Back.mono _ _
   | exact beat_Turn.mono _ _
   | exact seal_Times.mono _ _ _ _ _
   | exact LeO.none _
   | refine LeO.ite ?_ ?_
   | refine LeO.bind ?_ (fun _ => ?_)
def beat_Round.T12 : Bool × List (List Nat × List Nat) := (true, [([], []), ([], []), ([], []), ([], []), ([2, 3], [2, 3]), ([4], [4]), ([], []), ([], []), ([6, 7], [6, 7]), ([8], [8]), ([5, 9], [5, 9]), ([10], [10]), ([11], [11]), ([11], [11]), ([0, 1, 0, 1, 2, 3, 4, 5, 6, 7, 8, 9, 10, 11, 12], [0, 1]), ([14, 12, 10, 0, 1, 2, 3, 4, 5, 6, 7, 8, 9, 10, 11, 12], [12, 14])])
def beat_Round.B12 : List Nat := [0, 0, 0, 0, 12, 28, 0, 0, 192, 448, 1020, 2044, 4092, 4092, 8191, 24575]
theorem beat_Round.tab12 : rtab .any (opsOf Try.f16 12) = beat_Round.T12 := by kernel_rfl
theorem beat_Round.bits12 : waitsOk beat_Round.T12.2 beat_Round.B12 = true := by kernel_rfl
set_option maxHeartbeats 8000000 in
set_option maxRecDepth 100000 in
theorem beat_Round.calls (k : Nat) (A0 : Option Addr) (c0 : Nat) (l0 : List (S26)) (A1 : Option Addr) (c1 : Nat) (l1 : List (S26)) (r1 : List (S26)) (r2 : Int) (w : World) (hr0 : Kd.C k26 w A0 l0.length l0) (hc0 : l0.length ≤ c0) (hr1 : Kd.C k26 w A1 l1.length l1) (hc1 : l1.length ≤ c1) (h : beat_Round.f k l0 l1 = some (r1, r2)) :
  Calls Try.prog 16 #[.slice A0 l0.length c0, .slice A1 l1.length c1] w fun e w' => ∃ v0_ : Value, e = .returned (.tuple #[v0_, .int .i64 r2]) ∧ Kd.R k26 26 w' w.heap.size (fun _ => True) v0_ r1 ∧ Below w.heap.size w w' := by
 have hu26 := Try.underlying26
 have HR0 := Aside0.mk hr0
 have HC0 := Aside0.mk hc0
 clear hr0 hc0
 have HR1 := Aside0.mk hr1
 have HC1 := Aside0.mk hc1
 clear hr1 hc1
 have HB := Aside0.mk (Below.refl w.heap.size w)
 have H : ((beat_turns.f (l0.length : Int)).bind fun t195 => (if t195 = true then (beat_Round.j0 k l0 l1 ((l0.length : Int) != (l1.length : Int))) else (beat_Round.j0 k l0 l1 true))) = some (r1, r2) := h
 clear h
 have HC3 := Aside0.mk H
 clear H
 go_enter Try.func16, Try.ntmps16
 go_upto_region 1 with (fail)
 go_cut [20] (fun v20 wc => ∃ (kq : Nat) (x20_2 : Bool), v20 = .bool x20_2 ∧ Aside0 (beat_Round.j0 kq l0 l1 x20_2 = some (r1, r2)) ∧ Aside0 (kq ≤ k) ∧ Aside0 (Below w.heap.size w wc))
 case first =>
  have H := HC3.out
  clear HC3
  replace H := Option.bind_eq_some_iff.mp H
  obtain ⟨t195, A40, H⟩ := H
  replace H : (if t195 = true then (beat_Round.j0 k l0 l1 ((l0.length : Int) != (l1.length : Int))) else (beat_Round.j0 k l0 l1 true)) = some (r1, r2) := H
  have A4 := Aside0.mk A40
  clear A40
  by_cases c5 : t195 = true
  ·subst c5
   have H1 : (beat_Round.j0 k l0 l1 ((l0.length : Int) != (l1.length : Int))) = some (r1, r2) := by rw [if_pos rfl] at H; exact H
   clear H
   have H := H1
   clear H1
   have H' := Aside0.mk H
   clear H
   go_wp2_with (first | ((with_reducible refine gate_callee (f := 36) rfl ?_); refine goesL_ (some 12) rfl rfl Try.func36 (by kernel_rfl) rfl #[.int .i64 (l0.length : Int)] rfl (by (try simp only [List.map_toArray, List.map_cons, List.map_nil]); first | done | rfl | (simp only [List.length_drop, List.length_take]; rfl)) ?_; (with_reducible refine (beat_turns.calls (l0.length : Int) true _ A4.out).mono ?_); rintro e w' ⟨rfl, ⟨nd, rfl⟩⟩; refine ⟨_, rfl, ?_⟩))
   go_meet
   case rel => exact ⟨_, (((l0.length : Int) != (l1.length : Int))), (by first | rfl | (simp; done) | (simp [*]; done) | (simp [Int.tdiv_eq_ediv_of_nonneg]; done)), H', ⟨by first | omega | exact Nat.le_refl _⟩, ⟨by repeat (first | (with_reducible first | exact HB.out | apply below_alloc | apply pw_below_drewN | apply below_drew1) | exact HB.out)⟩⟩
  ·replace c5 := Bool.eq_false_iff.mpr c5
   subst c5
   have H1 : (beat_Round.j0 k l0 l1 true) = some (r1, r2) := by rw [if_neg (show ¬ (false = true) by decide)] at H; exact H
   clear H
   have H := H1
   clear H1
   have H' := Aside0.mk H
   clear H
   go_wp2_with (first | ((with_reducible refine gate_callee (f := 36) rfl ?_); refine goesL_ (some 12) rfl rfl Try.func36 (by kernel_rfl) rfl #[.int .i64 (l0.length : Int)] rfl (by (try simp only [List.map_toArray, List.map_cons, List.map_nil]); first | done | rfl | (simp only [List.length_drop, List.length_take]; rfl)) ?_; (with_reducible refine (beat_turns.calls (l0.length : Int) false _ A4.out).mono ?_); rintro e w' ⟨rfl, ⟨nd, rfl⟩⟩; refine ⟨_, rfl, ?_⟩))
   go_meet
   case rel => exact ⟨_, (true), (by first | rfl | (simp; done) | (simp [*]; done) | (simp [Int.tdiv_eq_ediv_of_nonneg]; done)), H', ⟨by first | omega | exact Nat.le_refl _⟩, ⟨by repeat (first | (with_reducible first | exact HB.out | apply below_alloc | apply pw_below_drewN | apply below_drew1) | exact HB.out)⟩⟩
 case rest =>
  clear HC3
  try clear c1
  try clear p2
  try clear c3
  try clear c5
  obtain ⟨kq, x20_2, rfl, HA, HJ2, HB⟩ := hcut
  cases kq with
  | zero => exact absurd HA.out (by simp [beat_Round.j0])
  | succ kj2 =>
   have H := HA.out
   clear HA
   simp only [beat_Round.j0] at H
   by_cases c6 : x20_2 = true
   ·subst c6
    have H1 : (some (([] : List (S26)), 210)) = some (r1, r2) := by rw [if_pos rfl] at H; exact H
    clear H
    have H := H1
    clear H1
    simp only [Option.some.injEq, Prod.mk.injEq] at H
    obtain ⟨rfl, rfl⟩ := H
    go_wp2
    go_ret2
    exact ⟨_, by first | rfl | (simp [errW_none, errW_some] <;> rfl) | (simp [*, errW_none, errW_some] <;> rfl), by first | exact Kd.R_nil _ _ _ _ _ | exact Kd.N_nil _ _ _ _ _ | exact Kd.V_nil _ _ _ _ _ | exact Kd.Q_nil _ _ _ _ _ | exact Kd.S_nil _ _ _ _ _, by repeat (first | (with_reducible first | exact HB.out | apply below_alloc | apply pw_below_drewN | apply below_drew1) | exact HB.out)⟩
   ·replace c6 := Bool.eq_false_iff.mpr c6
    subst c6
    have H1 : ((beat_Turn.f kj2 l0).bind fun bt196 => (if bt196.2 = 0 then ((beat_Turn.f kj2 l1).bind fun bt200 => (if bt200.2 = 0 then (beat_Round.l0 kj2 bt196.1 bt200.1 (bt196.1.length : Int) 0) else (some (([] : List (S26)), bt200.2)))) else (some (([] : List (S26)), bt196.2)))) = some (r1, r2) := by rw [if_neg (show ¬ (false = true) by decide)] at H; exact H
    clear H
    have H := H1
    clear H1
    replace H := Option.bind_eq_some_iff.mp H
    obtain ⟨⟨t196, t197⟩, A70, H⟩ := H
    replace H : (if t197 = 0 then ((beat_Turn.f kj2 l1).bind fun bt200 => (if bt200.2 = 0 then (beat_Round.l0 kj2 t196 bt200.1 (t196.length : Int) 0) else (some (([] : List (S26)), bt200.2)))) else (some (([] : List (S26)), t197))) = some (r1, r2) := H
    have A7 := Aside0.mk A70
    clear A70
    by_cases c8 : t197 = 0
    ·rw [if_pos c8] at H
     have c8b0 : (t197 == 0) = true := beq_iff_eq.mpr c8
     have c8b1 : (t197 != 0) = false := bne_eq_false_iff_eq.mpr c8
     clear c8
     replace H := Option.bind_eq_some_iff.mp H
     obtain ⟨⟨t200, t201⟩, A90, H⟩ := H
     replace H : (if t201 = 0 then (beat_Round.l0 kj2 t196 t200 (t196.length : Int) 0) else (some (([] : List (S26)), t201))) = some (r1, r2) := H
     have A9 := Aside0.mk A90
     clear A90
     by_cases c10 : t201 = 0
     ·rw [if_pos c10] at H
      have c10b0 : (t201 == 0) = true := beq_iff_eq.mpr c10
      have c10b1 : (t201 != 0) = false := bne_eq_false_iff_eq.mpr c10
      clear c10
      have H' := Aside0.mk H
      clear H
      go_wp2_with (first | ((with_reducible refine gate_callee (f := 12) rfl ?_); refine goesL_ (some 23) rfl rfl Try.func12 (by kernel_rfl) rfl #[.slice A0 l0.length c0] rfl (by (try simp only [List.map_toArray, List.map_cons, List.map_nil]); first | done | rfl | (simp only [List.length_drop, List.length_take]; rfl)) ?_; (with_reducible refine (beat_Turn.calls kj2 _ _ l0 t196 t197 _ ?side1 ?side2 A7.out).mono ?_); (case side1 => repeat (first | exact (Kd.C_below HR0.out HB.out) | (with_reducible refine Kd.C_alloc ?_ _) | (with_reducible refine Kd.C_drewN ?_ _) | (with_reducible refine Kd.C_drew ?_))); (case side2 => exact HC0.out); rintro e w11 ⟨v198, rfl, ho0, hb⟩; refine ⟨_, rfl, ?_⟩; have n0_ := Aside0.mk (Kd.R_lower ho0 (below_size (by repeat (first | (with_reducible first | exact HB.out | apply below_alloc | apply pw_below_drewN | apply below_drew1) | exact HB.out)))); have n1_ := Aside0.mk (below_step (by repeat (first | (with_reducible first | exact HB.out | apply below_alloc | apply pw_below_drewN | apply below_drew1) | exact HB.out)) hb); clear HB; have HO199 := n0_; have HB := n1_; clear n0_ n1_; (try clear hb); (try clear hb2); (try clear hk); (try clear hi); (try clear ho0)) | ((with_reducible refine gate_callee (f := 12) rfl ?_); refine goesL_ (some 31) rfl rfl Try.func12 (by kernel_rfl) rfl #[.slice A1 l1.length c1] rfl (by (try simp only [List.map_toArray, List.map_cons, List.map_nil]); first | done | rfl | (simp only [List.length_drop, List.length_take]; rfl)) ?_; (with_reducible refine (beat_Turn.calls kj2 _ _ l1 t200 t201 _ ?side1 ?side2 A9.out).mono ?_); (case side1 => repeat (first | exact (Kd.C_below HR1.out HB.out) | (with_reducible refine Kd.C_alloc ?_ _) | (with_reducible refine Kd.C_drewN ?_ _) | (with_reducible refine Kd.C_drew ?_))); (case side2 => exact HC1.out); rintro e w12 ⟨v202, rfl, ho0, hb⟩; refine ⟨_, rfl, ?_⟩; have n0_ := Aside0.mk (Kd.R_elder' (by (with_reducible repeat (first | apply Kd.R_alloc | apply Kd.R_drewN | apply Kd.R_drew)); exact HO199.out) (Kd.R_base ho0) hb); have n1_ := Aside0.mk (Kd.R_lower (Kd.R_new' ho0 (Kd.R_lt (by (with_reducible repeat (first | apply Kd.R_alloc | apply Kd.R_drewN | apply Kd.R_drew)); exact HO199.out))) (below_size (by repeat (first | (with_reducible first | exact HB.out | apply below_alloc | apply pw_below_drewN | apply below_drew1) | exact HB.out)))); have n2_ := Aside0.mk (below_step (by repeat (first | (with_reducible first | exact HB.out | apply below_alloc | apply pw_below_drewN | apply below_drew1) | exact HB.out)) hb); clear HO199; clear HB; have HO199 := n0_; have HO203 := n1_; have HB := n2_; clear n0_ n1_ n2_; (try clear hb); (try clear hb2); (try clear hk); (try clear hi); (try clear ho0); obtain ⟨Ao13, co13, eo13⟩ := Kd.R_slice HO199.out; subst eo13))
      go_loopg [39] kj2 (fun kq v39 w' => ∃ (x6_2 : List (S26)) (x39_2 : Int), v39 = .int .i64 x39_2 ∧ Aside0 (beat_Round.l0 kq x6_2 t200 (t196.length : Int) x39_2 = some (r1, r2)) ∧ Aside0 (kq ≤ kj2) ∧ Aside0 (Kd.R k26 26 w' w.heap.size (fun k_ => some k_ ≠ (v202 : Value).ownBlock) (.slice Ao13 t196.length co13) x6_2) ∧ Aside0 (Kd.R k26 26 w' w.heap.size (fun k_ => some k_ ≠ ((.slice Ao13 t196.length co13) : Value).ownBlock) v202 t200) ∧ Aside0 (Below w.heap.size w w'))
      case atStart => exact ⟨(t196), (0), (by first | rfl | (simp; done) | (simp [*]; done) | (simp [Int.tdiv_eq_ediv_of_nonneg]; done)), H', ⟨Nat.le_refl _⟩, ⟨by (with_reducible repeat (first | apply Kd.R_alloc | apply Kd.R_drewN | apply Kd.R_drew)); exact Kd.R_mono HO199.out (fun _ hk => hk.2)⟩, ⟨by (with_reducible repeat (first | apply Kd.R_alloc | apply Kd.R_drewN | apply Kd.R_drew)); exact Kd.R_mono HO203.out (fun _ hk => hk.2)⟩, ⟨by repeat (first | (with_reducible first | exact HB.out | apply below_alloc | apply pw_below_drewN | apply below_drew1) | exact HB.out)⟩⟩
      case round =>
       clear H'
       try clear c1
       try clear p2
       try clear c3
       try clear c5
       try clear c6
       try clear c8
       try clear c8b0
       try clear c8b1
       try clear c10
       try clear c10b0
       try clear c10b1
       try clear c12
       try clear p2
       obtain ⟨x6_2, x39_2, rfl, HA, HK2, HO_6, HO_8, HB⟩ := hrel
       have hl6_2 := (Kd.R_reads' HO_6.out).1
       rw [hl6_2] at HO_6
       (try simp only [hl6_2])
       (try simp only [hl6_2] at HO_8)
       cases gk with
       | zero => exact absurd HA.out (by simp [beat_Round.l0])
       | succ k2 =>
        have H := HA.out
        clear HA
        simp only [beat_Round.l0] at H
        by_cases c14 : x39_2 < (t196.length : Int)
        ·rw [if_pos c14] at H
         have c14b0 : decide (x39_2 < (t196.length : Int)) = true := decide_eq_true c14
         clear c14
         by_cases c15 : 0 ≤ x39_2
         ·rw [if_pos c15] at H
          have c15b0 : decide (0 ≤ x39_2) = true := decide_eq_true c15
          clear c15
          by_cases c16 : x39_2 < (x6_2.length : Int)
          ·rw [if_pos c16] at H
           have c16b0 : decide (x39_2 < (x6_2.length : Int)) = true := decide_eq_true c16
           clear c16
           by_cases c17 : x39_2 < (t200.length : Int)
           ·rw [if_pos c17] at H
            have c17b0 : decide (x39_2 < (t200.length : Int)) = true := decide_eq_true c17
            clear c17
            replace H := Option.bind_eq_some_iff.mp H
            obtain ⟨⟨t206, t207, t208⟩, A180, H⟩ := H
            replace H : (beat_Round.l0 k2 (x6_2.set (x39_2 : Int).toNat (⟨t206, t207⟩ : S26)) t200 (t196.length : Int) (wrap64 (x39_2 + 1))) = some (r1, r2) := H
            have A18 := Aside0.mk A180
            clear A180
            obtain ⟨y209, hy209⟩ : ∃ y_ : List (S26), y_ = (x6_2.set (x39_2 : Int).toNat (⟨t206, t207⟩ : S26)) := ⟨_, rfl⟩
            replace H : (beat_Round.l0 k2 y209 t200 (t196.length : Int) (wrap64 (x39_2 + 1))) = some (r1, r2) := by first | (rw [hy209]; with_reducible exact H) | (have H2_ := (Option.bind_some _ _).symm.trans H; rw [hy209]; with_reducible exact H2_) | (have H2_ := (Option.bind_some _ _).symm.trans H; with_reducible exact H2_) | with_reducible exact H | (rw [hy209]; exact H) | exact H
            have Ny209 := Aside0.mk hy209
            clear hy209
            have H' := Aside0.mk H
            clear H
            try go_wp2
            have n0_ := Aside0.mk (Kd.R_drew HO_6.out)
            have n1_ := Aside0.mk (Kd.R_drew HO_8.out)
            have n2_ := Aside0.mk (below_drew1 HB.out)
            clear HO_6
            clear HO_8
            clear HB
            have HO_6 := n0_
            have HO_8 := n1_
            have HB := n2_
            clear n0_ n1_ n2_
            have p204 : 0 ≤ (x39_2 : Int) := of_decide_eq_true (by first | (with_reducible assumption) | assumption)
            have q204 : x39_2 < (x6_2.length : Int) := of_decide_eq_true (by first | (with_reducible assumption) | assumption)
            obtain ⟨ad204, e204, hx204_0, hx204_1⟩ := at_T26 (Kd.R_reads' HO_6.out).2.2 x39_2 p204 q204
            cases e204
            replace p204 := eq_true p204
            replace q204 := eq_true q204
            obtain ⟨Ao21, co21, eo21⟩ := Kd.R_slice HO_8.out
            (first | subst eo21 | (injection eo21 with f1_ f2_ f3_; have f4_ := f1_.symm; have f5_ := f3_.symm; clear f1_ f2_ f3_; subst f4_; subst f5_))
            have p205 : 0 ≤ (x39_2 : Int) := of_decide_eq_true (by first | (with_reducible assumption) | assumption)
            have q205 : x39_2 < (t200.length : Int) := of_decide_eq_true (by first | (with_reducible assumption) | assumption)
            obtain ⟨ad205, e205, hx205_0, hx205_1⟩ := at_T26 (Kd.R_reads' HO_8.out).2.2 x39_2 p205 q205
            cases e205
            replace p205 := eq_true p205
            replace q205 := eq_true q205
            refine start_ (n := 16) (S := fun w' => w'.cell? (ad204.add ((x39_2).toNat * 2)) = some (.int .i64 ((rd_T26 x6_2 x39_2).f0)) ∧ w'.cell? ⟨(ad204.add ((x39_2).toNat * 2)).block, (ad204.add ((x39_2).toNat * 2)).off + 1, none⟩ = some (.int .i64 ((rd_T26 x6_2 x39_2).f1)) ∧ w'.cell? (ad205.add ((x39_2).toNat * 2)) = some (.int .i64 ((rd_T26 t200 x39_2).f0)) ∧ w'.cell? ⟨(ad205.add ((x39_2).toNat * 2)).block, (ad205.add ((x39_2).toNat * 2)).off + 1, none⟩ = some (.int .i64 ((rd_T26 t200 x39_2).f1))) (ds := [15]) #[false, false, false, false, false, false, false, false, false, false, false, false, false, false, false, false] (by kernel_rfl) rfl rfl ⟨hx204_0, hx204_1, hx205_0, hx205_1⟩ (fun hHeld => ?_); refine with_tabW beat_Round.tab12 beat_Round.bits12 (fun HT_ HW_ => ?_)
            generalize wr.drew = w20 at HO_6 HO_8 HB hx204_0 hx204_1 hx205_0 hx205_1 hHeld ⊢
            refine pure_ (i := 0) (N := some 43) (v := ?_) (a' := ?_) #[true, false, false, false, false, false, false, false, false, false, false, false, false, false, false, false] rfl rfl (any_of HT_.out (by kernel_rfl)) (fun _ _ _ h => h) (Or.inl ⟨by rfl, ?_⟩) ?_ ?_
            rotate_left
            ·intro w'
             go_simp
             with_reducible rfl
            rotate_left
            ·simp only [Act.put, List.setIfInBounds_toArray, List.set_cons_zero, List.set_cons_succ, i64_w, i32_w]
             rfl
            refine pure_ (i := 1) (N := some 44) (v := ?_) (a' := ?_) #[true, true, false, false, false, false, false, false, false, false, false, false, false, false, false, false] rfl rfl (any_of HT_.out (by kernel_rfl)) (fun _ _ _ h => h) (Or.inl ⟨by rfl, ?_⟩) ?_ ?_
            rotate_left
            ·intro w'
             go_simp
             with_reducible rfl
            rotate_left
            ·simp only [Act.put, List.setIfInBounds_toArray, List.set_cons_zero, List.set_cons_succ, i64_w, i32_w]
             rfl
            refine pure_ (i := 2) (N := some 45) (v := ?_) (a' := ?_) #[true, true, true, false, false, false, false, false, false, false, false, false, false, false, false, false] rfl rfl (any_of HT_.out (by kernel_rfl)) (fun _ _ _ h => h) (Or.inl ⟨by rfl, ?_⟩) ?_ ?_
            rotate_left
            ·intro w'
             go_simp
             with_reducible rfl
            rotate_left
            ·simp only [Act.put, List.setIfInBounds_toArray, List.set_cons_zero, List.set_cons_succ, i64_w, i32_w]
             rfl
            refine pure_ (i := 3) (N := some 46) (v := ?_) (a' := ?_) #[true, true, true, true, false, false, false, false, false, false, false, false, false, false, false, false] rfl rfl (any_of HT_.out (by kernel_rfl)) (fun _ _ _ h => h) (Or.inl ⟨by rfl, ?_⟩) ?_ ?_
            rotate_left
            ·intro w'
             go_simp
             with_reducible rfl
            rotate_left
            ·simp only [Act.put, List.setIfInBounds_toArray, List.set_cons_zero, List.set_cons_succ, i64_w, i32_w]
             rfl
            refine pure_ (i := 4) (N := some 47) (v := ?_) (a' := ?_) #[true, true, true, true, true, false, false, false, false, false, false, false, false, false, false, false] rfl rfl (any_of HT_.out (by kernel_rfl)) (fun _ _ _ h => h) (Or.inl ⟨by rfl, ?_⟩) ?_ ?_
            rotate_left
            ·intro w'
             go_simp
             with_reducible rfl
            rotate_left
            ·simp only [Act.put, List.setIfInBounds_toArray, List.set_cons_zero, List.set_cons_succ, i64_w, i32_w]
             rfl
            refine pure_ (i := 6) (N := some 49) (v := ?_) (a' := ?_) #[true, true, true, true, true, false, true, false, false, false, false, false, false, false, false, false] rfl rfl (any_of HT_.out (by kernel_rfl)) (fun _ _ _ h => h) (Or.inl ⟨by rfl, ?_⟩) ?_ ?_
            rotate_left
            ·intro w'
             go_simp
             with_reducible rfl
            rotate_left
            ·simp only [Act.put, List.setIfInBounds_toArray, List.set_cons_zero, List.set_cons_succ, i64_w, i32_w]
             rfl
            refine pure_ (i := 7) (N := some 50) (v := ?_) (a' := ?_) #[true, true, true, true, true, false, true, true, false, false, false, false, false, false, false, false] rfl rfl (any_of HT_.out (by kernel_rfl)) (fun _ _ _ h => h) (Or.inl ⟨by rfl, ?_⟩) ?_ ?_
            rotate_left
            ·intro w'
             go_simp
             with_reducible rfl
            rotate_left
            ·simp only [Act.put, List.setIfInBounds_toArray, List.set_cons_zero, List.set_cons_succ, i64_w, i32_w]
             rfl
            refine pure_ (i := 8) (N := some 51) (v := ?_) (a' := ?_) #[true, true, true, true, true, false, true, true, true, false, false, false, false, false, false, false] rfl rfl (any_of HT_.out (by kernel_rfl)) (fun _ _ _ h => h) (Or.inl ⟨by rfl, ?_⟩) ?_ ?_
            rotate_left
            ·intro w'
             go_simp
             with_reducible rfl
            rotate_left
            ·simp only [Act.put, List.setIfInBounds_toArray, List.set_cons_zero, List.set_cons_succ, i64_w, i32_w]
             rfl
            refine take_ (i := 5) (N := some 48) (v := ?_) (a' := ?_) #[true, true, true, true, true, true, true, true, true, false, false, false, false, false, false, false] rfl rfl (take_ofW HT_.out HW_.out (by kernel_rfl)) (fun _ _ _ h => h) (Or.inl ⟨by rfl, ?_⟩) hHeld ?_ ?_
            rotate_left
            ·rintro w' ⟨s0, s1, s2, s3⟩
             go_simp
             with_reducible rfl
            rotate_left
            ·simp only [Act.put, List.setIfInBounds_toArray, List.set_cons_zero, List.set_cons_succ, i64_w, i32_w]
             rfl
            refine take_ (i := 9) (N := some 52) (v := ?_) (a' := ?_) #[true, true, true, true, true, true, true, true, true, true, false, false, false, false, false, false] rfl rfl (take_ofW HT_.out HW_.out (by kernel_rfl)) (fun _ _ _ h => h) (Or.inl ⟨by rfl, ?_⟩) hHeld ?_ ?_
            rotate_left
            ·rintro w' ⟨s0, s1, s2, s3⟩
             go_simp
             with_reducible rfl
            rotate_left
            ·simp only [Act.put, List.setIfInBounds_toArray, List.set_cons_zero, List.set_cons_succ, i64_w, i32_w]
             rfl
            refine one_ (i := 10) (N := some 53) #[true, true, true, true, true, true, true, true, true, true, true, false, false, false, false, false] rfl rfl (one_of HT_.out (by kernel_rfl)) (by decide) (fun K hK => ?_)
            refine goes_ Try.func15 (by kernel_rfl) rfl #[.agg #[.int .i64 ((rd_T26 x6_2 x39_2).f0), .int .i64 ((rd_T26 x6_2 x39_2).f1)], .agg #[.int .i64 ((rd_T26 t200 x39_2).f0), .int .i64 ((rd_T26 t200 x39_2).f1)]] (by rfl) rfl rfl (by (try simp only [List.map_toArray, List.map_cons, List.map_nil]); first | done | rfl | (simp only [List.length_drop, List.length_take]; rfl)) ?_
            with_reducible refine (seal_Times.calls k2 ((rd_T26 x6_2 x39_2).f0) ((rd_T26 x6_2 x39_2).f1) ((rd_T26 t200 x39_2).f0) ((rd_T26 t200 x39_2).f1) t206 t207 t208 _ A18.out).mono ?_
            rintro e w22 ⟨rfl, hb⟩
            have HS0_ := (hb.cell (World.block_lt_of_cell? _ _ (hHeld.1))).trans (hHeld.1)
            have HS1_ := (hb.cell (World.block_lt_of_cell? _ _ (hHeld.2.1))).trans (hHeld.2.1)
            have HS2_ := (hb.cell (World.block_lt_of_cell? _ _ (hHeld.2.2.1))).trans (hHeld.2.2.1)
            have HS3_ := (hb.cell (World.block_lt_of_cell? _ _ (hHeld.2.2.2))).trans (hHeld.2.2.2)
            refine ⟨_, rfl, ?_⟩
            have n0_ := Aside0.mk (Kd.R_below (by (with_reducible repeat (first | apply Kd.R_alloc | apply Kd.R_drewN | apply Kd.R_drew)); exact HO_6.out) hb)
            have n1_ := Aside0.mk (Kd.R_below (by (with_reducible repeat (first | apply Kd.R_alloc | apply Kd.R_drewN | apply Kd.R_drew)); exact HO_8.out) hb)
            have n2_ := Aside0.mk (below_step (by repeat (first | (with_reducible first | exact HB.out | apply below_alloc | apply pw_below_drewN | apply below_drew1) | exact HB.out)) hb)
            clear HO_6
            clear HO_8
            clear HB
            have HO_6 := n0_
            have HO_8 := n1_
            have HB := n2_
            clear n0_ n1_ n2_
            (try clear hb)
            (try clear hb2)
            (try clear hk)
            (try clear hi)
            have p19 : 0 ≤ (x39_2 : Int) := of_decide_eq_true (by first | (with_reducible assumption) | assumption)
            have q19 : (x39_2 : Int) < ((x6_2.length : Int) : Int) := of_decide_eq_true (by first | (with_reducible assumption) | assumption)
            obtain ⟨go19, co19, eo19, gb19, gl19, cl19, HG19⟩ := Kd.R_form HO_6.out (by omega)
            (first | cases eo19 | (injection eo19 with ea_ en_ ec_; (first | subst ea_ | (injection ea_ with ea_; subst ea_)); subst ec_; clear en_))
            have GB19 := Aside0.mk gb19
            have GG19 := Aside0.mk HG19
            clear gb19 gl19 HG19
            (first | simp only [add_plain] at hx204_0 | skip)
            (first | simp only [add_plain] at hx204_1 | skip)
            obtain ⟨ce19, hcl19, hM19, hcc19, hfr19⟩ := Kd.R_elem HO_6.out z26 (x39_2 : Int) p19 q19
            obtain rfl := k26_openM hM19
            have hx19_0 : World.cell? _ ⟨go19, (x39_2 : Int).toNat * 2, none⟩ = some (.int .i64 ((rd_T26 x6_2 x39_2).f0)) := hcc19 0 _ rfl
            have hx19_1 : World.cell? _ ⟨go19, (x39_2 : Int).toNat * 2 + 1, none⟩ = some (.int .i64 ((rd_T26 x6_2 x39_2).f1)) := hcc19 1 _ rfl
            have hf19_0 : World.frozen? _ ⟨go19, (x39_2 : Int).toNat * 2, none⟩ = false := hfr19 0
            have hf19_1 : World.frozen? _ ⟨go19, (x39_2 : Int).toNat * 2 + 1, none⟩ = false := hfr19 1
            clear hcl19 hcc19 hfr19 hM19
            replace p19 := eq_true p19
            replace q19 := eq_true q19
            obtain ⟨ce23, hcl23, hM23, hcc23, hfr23⟩ := Kd.R_elem HO_6.out z26 (x39_2 : Int) (of_decide_eq_true (by first | (with_reducible assumption) | assumption)) (by have h_ : (x39_2 : Int) < ((x6_2.length : Int) : Int) := of_decide_eq_true (by first | (with_reducible assumption) | assumption); first | exact h_ | (have e_ := (Kd.R_reads' HO_6.out).1; omega) | simpa using h_)
            obtain rfl := k26_openM hM23
            have HP23 := (Kd.R_seg HO_6.out (x39_2 : Int) (of_decide_eq_true (by first | (with_reducible assumption) | assumption)) (by have h_ : (x39_2 : Int) < ((x6_2.length : Int) : Int) := of_decide_eq_true (by first | (with_reducible assumption) | assumption); first | exact h_ | (have e_ := (Kd.R_reads' HO_6.out).1; omega) | simpa using h_) (seg := [.int .i64 t206, .int .i64 t207]) (j := 0) hcl23 hcc23 (show 2 ≤ 2 from by decide) (x' := (⟨t206, t207⟩ : S26)) (k26_mkM _ _ _ (⟨t206, t207⟩ : S26) ) (fun _ hk => hk)).1
            rw [← Ny209.out] at HP23
            have HQ23 := Aside0.mk HP23
            clear hcl23 hcc23 hfr23 hM23 HP23
            refine hK.out _ _ ⟨HS0_, HS1_, HS2_, HS3_⟩ (fun hHeld => ?_)
            clear hK K
            refine norm_ (a' := ?_) ?_ ?_
            rotate_left
            ·show Act.put _ (some 53) _ = _
             simp only [Act.put, List.setIfInBounds_toArray, List.set_cons_zero, List.set_cons_succ, i64_w, i32_w]
             rfl
            refine pure_ (i := 11) (N := some 42) (v := ?_) (a' := ?_) #[true, true, true, true, true, true, true, true, true, true, true, true, false, false, false, false] rfl rfl (any_of HT_.out (by kernel_rfl)) (fun _ _ _ h => h) (Or.inl ⟨by rfl, ?_⟩) ?_ ?_
            rotate_left
            ·intro w'
             go_simp
             with_reducible rfl
            rotate_left
            ·simp only [Act.put, List.setIfInBounds_toArray, List.set_cons_zero, List.set_cons_succ, i64_w, i32_w]
             rfl
            refine pure_ (i := 12) (N := some 54) (v := ?_) (a' := ?_) #[true, true, true, true, true, true, true, true, true, true, true, true, true, false, false, false] rfl rfl (any_of HT_.out (by kernel_rfl)) (fun _ _ _ h => h) (Or.inl ⟨by rfl, ?_⟩) ?_ ?_
            rotate_left
            ·intro w'
             go_simp
             with_reducible rfl
            rotate_left
            ·simp only [Act.put, List.setIfInBounds_toArray, List.set_cons_zero, List.set_cons_succ, i64_w, i32_w]
             rfl
            refine pure_ (i := 13) (N := some 55) (v := ?_) (a' := ?_) #[true, true, true, true, true, true, true, true, true, true, true, true, true, true, false, false] rfl rfl (any_of HT_.out (by kernel_rfl)) (fun _ _ _ h => h) (Or.inl ⟨by rfl, ?_⟩) ?_ ?_
            rotate_left
            ·intro w'
             go_simp
             with_reducible rfl
            rotate_left
            ·simp only [Act.put, List.setIfInBounds_toArray, List.set_cons_zero, List.set_cons_succ, i64_w, i32_w]
             rfl
            refine pure_ (i := 14) (N := some 56) (v := ?_) (a' := ?_) #[true, true, true, true, true, true, true, true, true, true, true, true, true, true, true, false] rfl rfl (any_of HT_.out (by kernel_rfl)) (fun _ _ _ h => h) (Or.inl ⟨by rfl, ?_⟩) ?_ ?_
            rotate_left
            ·intro w'
             go_simp
             with_reducible rfl
            rotate_left
            ·simp only [Act.put, List.setIfInBounds_toArray, List.set_cons_zero, List.set_cons_succ, i64_w, i32_w]
             rfl
            refine last_ (i := 15) (N := none) #[true, true, true, true, true, true, true, true, true, true, true, true, true, true, true, true] rfl rfl (one_of HT_.out (by kernel_rfl)) (by decide) (fun K hK => ?_)
            refine skip_ (w1 := ?_) (by rfl) rfl ?_ ?_
            rotate_left
            ·go_simp
             rfl
            refine hK.out _ _ ?_
            clear hK K
            refine done_ (done_of HT_.out (by kernel_rfl)) ?_
            try go_wp2
            (try simp only [← hl6_2])
            go_roundg k2
            case measure => have := HJ2.out; have := HK2.out; omega
            case rel => exact ⟨(y209), (wrap64 (x39_2 + 1)), (by first | rfl | (simp; done) | (simp [*]; done) | (simp [Int.tdiv_eq_ediv_of_nonneg]; done)), H', ⟨by have := HJ2.out; have := HK2.out; omega⟩, ⟨by (try simp only [hl6_2]); (with_reducible repeat (first | apply Kd.R_alloc | apply Kd.R_drewN | apply Kd.R_drew)); exact HQ23.out⟩, ⟨by (try simp only [hl6_2]); (with_reducible repeat (first | apply Kd.R_alloc | apply Kd.R_drewN | apply Kd.R_drew)); exact Kd.R_mono (Kd.R_far (p := ⟨go19, (x39_2 : Int).toNat * 2 + 1, none⟩) (Kd.R_far (p := ⟨go19, (x39_2 : Int).toNat * 2, none⟩) (Kd.R_mono HO_8.out (fun k_ hk => (⟨hk, fun e_ => hk (by rw [e_]; rfl)⟩ : _ ∧ k_ ≠ go19))) (fun _ hk => hk.2) (.int .i64 t206)) (fun _ hk => hk.2) (.int .i64 t207)) (fun _ hk => hk.1)⟩, ⟨by repeat (first | (with_reducible first | exact HB.out | apply below_alloc | apply pw_below_drewN | apply below_drew1 | refine below_set ?_ GB19.out | refine below_set ?_ GB19.out) | exact HB.out)⟩⟩
           ·rw [if_neg c17] at H
            exact absurd H (by simp)
          ·rw [if_neg c16] at H
           exact absurd H (by simp)
         ·rw [if_neg c15] at H
          exact absurd H (by simp)
        ·rw [if_neg c14] at H
         have c14b0 : decide (x39_2 < (t196.length : Int)) = false := decide_eq_false c14
         try rw [hl6_2] at c14b0
         clear c14
         replace H := Option.bind_eq_some_iff.mp H
         obtain ⟨⟨t210, t211⟩, A240, H⟩ := H
         replace H : (some (t210, t211)) = some (r1, r2) := H
         have A24 := Aside0.mk A240
         clear A240
         simp only [Option.some.injEq, Prod.mk.injEq] at H
         obtain ⟨rfl, rfl⟩ := H
         go_wp2_with (first | ((with_reducible refine gate_callee (f := 20) rfl ?_); refine goesL_ (some 59) rfl rfl Try.func20 (by kernel_rfl) rfl #[.slice Ao13 x6_2.length co13] rfl (by (try simp only [List.map_toArray, List.map_cons, List.map_nil]); first | done | rfl | (simp only [List.length_drop, List.length_take]; rfl)) ?_; (with_reducible refine (beat_Back.calls k2 _ _ x6_2 t210 t211 _ ?side1 ?side2 A24.out).mono ?_); (case side1 => repeat (first | exact (Kd.R_reads' HO_6.out).2.2 | (with_reducible refine Kd.C_alloc ?_ _) | (with_reducible refine Kd.C_drewN ?_ _) | (with_reducible refine Kd.C_drew ?_))); (case side2 => exact (Kd.R_reads' HO_6.out).2.1); rintro e w25 ⟨v212, rfl, ho0, hb⟩; refine ⟨_, rfl, ?_⟩; have n0_ := Aside0.mk (Kd.R_elder' (by (with_reducible repeat (first | apply Kd.R_alloc | apply Kd.R_drewN | apply Kd.R_drew)); exact HO_6.out) (Kd.R_base ho0) hb); have n1_ := Aside0.mk (Kd.R_elder' (by (with_reducible repeat (first | apply Kd.R_alloc | apply Kd.R_drewN | apply Kd.R_drew)); exact HO_8.out) (Kd.R_base ho0) hb); have n2_ := Aside0.mk (Kd.R_lower (Kd.R_new' (Kd.R_new' ho0 (Kd.R_lt (by (with_reducible repeat (first | apply Kd.R_alloc | apply Kd.R_drewN | apply Kd.R_drew)); exact HO_6.out))) (Kd.R_lt (by (with_reducible repeat (first | apply Kd.R_alloc | apply Kd.R_drewN | apply Kd.R_drew)); exact HO_8.out))) (below_size (by repeat (first | (with_reducible first | exact HB.out | apply below_alloc | apply pw_below_drewN | apply below_drew1) | exact HB.out)))); have n3_ := Aside0.mk (below_step (by repeat (first | (with_reducible first | exact HB.out | apply below_alloc | apply pw_below_drewN | apply below_drew1) | exact HB.out)) hb); clear HO_6; clear HO_8; clear HB; have HO_6 := n0_; have HO_8 := n1_; have HO213 := n2_; have HB := n3_; clear n0_ n1_ n2_ n3_; (try clear hb); (try clear hb2); (try clear hk); (try clear hi); (try clear ho0)))
         go_ret2
         exact ⟨_, by first | rfl | (simp [errW_none, errW_some] <;> rfl) | (simp [*, errW_none, errW_some] <;> rfl), by (with_reducible repeat (first | apply Kd.R_alloc | apply Kd.R_drewN | apply Kd.R_drew)); exact Kd.R_mono HO213.out (fun _ hk => trivial), by repeat (first | (with_reducible first | exact HB.out | apply below_alloc | apply pw_below_drewN | apply below_drew1) | exact HB.out)⟩
     ·rw [if_neg c10] at H
      have c10b0 : (t201 == 0) = false := beq_eq_false_iff_ne.mpr c10
      have c10b1 : (t201 != 0) = true := bne_iff_ne.mpr c10
      simp only [Option.some.injEq, Prod.mk.injEq] at H
      obtain ⟨rfl, rfl⟩ := H
      go_wp2_with (first | ((with_reducible refine gate_callee (f := 12) rfl ?_); refine goesL_ (some 23) rfl rfl Try.func12 (by kernel_rfl) rfl #[.slice A0 l0.length c0] rfl (by (try simp only [List.map_toArray, List.map_cons, List.map_nil]); first | done | rfl | (simp only [List.length_drop, List.length_take]; rfl)) ?_; (with_reducible refine (beat_Turn.calls kj2 _ _ l0 t196 t197 _ ?side1 ?side2 A7.out).mono ?_); (case side1 => repeat (first | exact (Kd.C_below HR0.out HB.out) | (with_reducible refine Kd.C_alloc ?_ _) | (with_reducible refine Kd.C_drewN ?_ _) | (with_reducible refine Kd.C_drew ?_))); (case side2 => exact HC0.out); rintro e w26 ⟨v198, rfl, ho0, hb⟩; refine ⟨_, rfl, ?_⟩; have n0_ := Aside0.mk (Kd.R_lower ho0 (below_size (by repeat (first | (with_reducible first | exact HB.out | apply below_alloc | apply pw_below_drewN | apply below_drew1) | exact HB.out)))); have n1_ := Aside0.mk (below_step (by repeat (first | (with_reducible first | exact HB.out | apply below_alloc | apply pw_below_drewN | apply below_drew1) | exact HB.out)) hb); clear HB; have HO199 := n0_; have HB := n1_; clear n0_ n1_; (try clear hb); (try clear hb2); (try clear hk); (try clear hi); (try clear ho0)) | ((with_reducible refine gate_callee (f := 12) rfl ?_); refine goesL_ (some 31) rfl rfl Try.func12 (by kernel_rfl) rfl #[.slice A1 l1.length c1] rfl (by (try simp only [List.map_toArray, List.map_cons, List.map_nil]); first | done | rfl | (simp only [List.length_drop, List.length_take]; rfl)) ?_; (with_reducible refine (beat_Turn.calls kj2 _ _ l1 t200 t201 _ ?side1 ?side2 A9.out).mono ?_); (case side1 => repeat (first | exact (Kd.C_below HR1.out HB.out) | (with_reducible refine Kd.C_alloc ?_ _) | (with_reducible refine Kd.C_drewN ?_ _) | (with_reducible refine Kd.C_drew ?_))); (case side2 => exact HC1.out); rintro e w27 ⟨v202, rfl, ho0, hb⟩; refine ⟨_, rfl, ?_⟩; have n0_ := Aside0.mk (Kd.R_elder' (by (with_reducible repeat (first | apply Kd.R_alloc | apply Kd.R_drewN | apply Kd.R_drew)); exact HO199.out) (Kd.R_base ho0) hb); have n1_ := Aside0.mk (Kd.R_lower (Kd.R_new' ho0 (Kd.R_lt (by (with_reducible repeat (first | apply Kd.R_alloc | apply Kd.R_drewN | apply Kd.R_drew)); exact HO199.out))) (below_size (by repeat (first | (with_reducible first | exact HB.out | apply below_alloc | apply pw_below_drewN | apply below_drew1) | exact HB.out)))); have n2_ := Aside0.mk (below_step (by repeat (first | (with_reducible first | exact HB.out | apply below_alloc | apply pw_below_drewN | apply below_drew1) | exact HB.out)) hb); clear HO199; clear HB; have HO199 := n0_; have HO203 := n1_; have HB := n2_; clear n0_ n1_ n2_; (try clear hb); (try clear hb2); (try clear hk); (try clear hi); (try clear ho0)))
      go_ret2
      exact ⟨_, by first | rfl | (simp [errW_none, errW_some] <;> rfl) | (simp [*, errW_none, errW_some] <;> rfl), by first | exact Kd.R_nil _ _ _ _ _ | exact Kd.N_nil _ _ _ _ _ | exact Kd.V_nil _ _ _ _ _ | exact Kd.Q_nil _ _ _ _ _ | exact Kd.S_nil _ _ _ _ _, by repeat (first | (with_reducible first | exact HB.out | apply below_alloc | apply pw_below_drewN | apply below_drew1) | exact HB.out)⟩
    ·rw [if_neg c8] at H
     have c8b0 : (t197 == 0) = false := beq_eq_false_iff_ne.mpr c8
     have c8b1 : (t197 != 0) = true := bne_iff_ne.mpr c8
     simp only [Option.some.injEq, Prod.mk.injEq] at H
     obtain ⟨rfl, rfl⟩ := H
     go_wp2_with (first | ((with_reducible refine gate_callee (f := 12) rfl ?_); refine goesL_ (some 23) rfl rfl Try.func12 (by kernel_rfl) rfl #[.slice A0 l0.length c0] rfl (by (try simp only [List.map_toArray, List.map_cons, List.map_nil]); first | done | rfl | (simp only [List.length_drop, List.length_take]; rfl)) ?_; (with_reducible refine (beat_Turn.calls kj2 _ _ l0 t196 t197 _ ?side1 ?side2 A7.out).mono ?_); (case side1 => repeat (first | exact (Kd.C_below HR0.out HB.out) | (with_reducible refine Kd.C_alloc ?_ _) | (with_reducible refine Kd.C_drewN ?_ _) | (with_reducible refine Kd.C_drew ?_))); (case side2 => exact HC0.out); rintro e w28 ⟨v198, rfl, ho0, hb⟩; refine ⟨_, rfl, ?_⟩; have n0_ := Aside0.mk (Kd.R_lower ho0 (below_size (by repeat (first | (with_reducible first | exact HB.out | apply below_alloc | apply pw_below_drewN | apply below_drew1) | exact HB.out)))); have n1_ := Aside0.mk (below_step (by repeat (first | (with_reducible first | exact HB.out | apply below_alloc | apply pw_below_drewN | apply below_drew1) | exact HB.out)) hb); clear HB; have HO199 := n0_; have HB := n1_; clear n0_ n1_; (try clear hb); (try clear hb2); (try clear hk); (try clear hi); (try clear ho0)))
     go_ret2
     exact ⟨_, by first | rfl | (simp [errW_none, errW_some] <;> rfl) | (simp [*, errW_none, errW_some] <;> rfl), by first | exact Kd.R_nil _ _ _ _ _ | exact Kd.N_nil _ _ _ _ _ | exact Kd.V_nil _ _ _ _ _ | exact Kd.Q_nil _ _ _ _ _ | exact Kd.S_nil _ _ _ _ _, by repeat (first | (with_reducible first | exact HB.out | apply below_alloc | apply pw_below_drewN | apply below_drew1) | exact HB.out)⟩

end Go.Proofs.YtkilnknndglmnaaP
end

section
/- What Turn, Back and Round answer. -/
namespace Go.Proofs.YtkilnknndglmnaaP
open Go.RowKit Go.Proofs.Ytkilnknndglmnaa Go.Proofs.YtkilnknndglmnaaW.PrintWords

def allS (l : List S26) : Bool := l.all fun x => isSB (sG x)
theorem allS_iff {l : List S26} : allS l = true ↔ ∀ g ∈ l.map sG, IsS g := by
  unfold allS
  rw [List.all_eq_true]
  constructor
  · intro h g hg
    obtain ⟨x, hx, rfl⟩ := List.mem_map.1 hg
    exact isSB_iff.1 (h x hx)
  · intro h x hx
    exact isSB_iff.2 (h _ (List.mem_map_of_mem hx))
/-- A row is one that can be turned, of right numbers: 0, or the error. -/
def rowE (l : List S26) : Int := if lenB l.length then (if allS l then 0 else 20) else 210
def bck (g : List G) : List G := (List.range g.length).map fun i => red (bft (atG g) g.length (rootW g.length) (rootU g.length) i)
def rnd (a b : List G) : List G := (List.range a.length).map fun i => red (conv (atG a) (atG b) a.length i)
def turnP (l : List S26) : List S26 := (trn (l.map sG) (rootW l.length)).map gS
def backP (l : List S26) : List S26 := (bck (l.map sG)).map gS
def roundP (x y : List S26) : List S26 := (rnd (x.map sG) (y.map sG)).map gS
def roundE (x y : List S26) : Int := if lenB x.length && x.length == y.length then (if allS x && allS y then 0 else 20) else 210

theorem map_sG_gS (g : List G) : (g.map gS).map sG = g := by rw [List.map_map]; exact List.map_id' _
theorem map_gS_sG (l : List S26) : (l.map sG).map gS = l := by rw [List.map_map]; exact List.map_id' _
theorem rootW_isS {n : Nat} (h : isLen n) : IsS (rootW n) := by rw [← rootW_eq h]; exact red_isS _
theorem root_half {n m : Nat} (h : isLen n) (hm : n = 2 ^ m) (h1 : 1 ≤ m) : red (G.pow (rootW n) (2 ^ (m - 1))) = red (G.neg G.one) := by
  have h5 : m ≤ 5 := by
    rcases Nat.lt_or_ge 5 m with h6 | h6
    · have := Nat.pow_le_pow_right (by decide : 0 < 2) h6
      have := len_small h
      omega
    · exact h6
  subst hm
  rw [← powR_eq]
  rcases (show m = 1 ∨ m = 2 ∨ m = 3 ∨ m = 4 ∨ m = 5 by omega) with rfl | rfl | rfl | rfl | rfl <;> decide +kernel
theorem halve_len {l : List G} (h : isLen l.length) (hs : ∀ g ∈ l, IsS g) : Ev (fun k => beat_halve.f k l (rootW l.length)) (trn l (rootW l.length)) := by
  obtain ⟨m, hm, hn⟩ := len_pow h
  exact halve_f m l _ (by omega) hn hs (rootW_isS h) fun h1 => root_half h hn h1

theorem Turn_f (l : List S26) : Ev (fun k => beat_Turn.f k l) (if rowE l = 0 then turnP l else [], rowE l) := by
  have hn := numbers_f l
  unfold rowE
  cases hb : lenB l.length with
  | false =>
    rw [hb] at hn
    have := Ev.bind (f := fun k (bt153 : List G × Int) => (if bt153.2 = 0 then ((beat_Root.f (l.length : Int)).bind fun bt157 => ((beat_number.f bt157.1 bt157.2.1).bind fun t161 => ((beat_halve.f k bt153.1 t161).bind fun t162 => ((beat_seals.f k t162).bind fun t165 => (some (t165, bt157.2.2)))))) else (some (([] : List (S26)), bt153.2)))) hn (Ev.now _)
    exact this
  | true =>
    rw [hb] at hn
    cases ha : allS l with
    | false =>
      rw [show (l.all fun x => isSB (sG x)) = false from ha] at hn
      exact Ev.bind (f := fun k (bt153 : List G × Int) => (if bt153.2 = 0 then ((beat_Root.f (l.length : Int)).bind fun bt157 => ((beat_number.f bt157.1 bt157.2.1).bind fun t161 => ((beat_halve.f k bt153.1 t161).bind fun t162 => ((beat_seals.f k t162).bind fun t165 => (some (t165, bt157.2.2)))))) else (some (([] : List (S26)), bt153.2)))) hn (Ev.now _)
    | true =>
      rw [show (l.all fun x => isSB (sG x)) = true from ha] at hn
      have hl := lenB_iff.1 hb
      have hs := allS_iff.1 ha
      have hlen : (l.map sG).length = l.length := List.length_map ..
      have hh := halve_len (l := l.map sG) (by rw [hlen]; exact hl) hs
      rw [hlen] at hh
      have hq := seals_f (trn (l.map sG) (rootW l.length)) (trn_isS _ _) (by rw [trn_len, hlen]; have := len_small hl; omega)
      refine Ev.bind (f := fun k (bt153 : List G × Int) => (if bt153.2 = 0 then ((beat_Root.f (l.length : Int)).bind fun bt157 => ((beat_number.f bt157.1 bt157.2.1).bind fun t161 => ((beat_halve.f k bt153.1 t161).bind fun t162 => ((beat_seals.f k t162).bind fun t165 => (some (t165, bt157.2.2)))))) else (some (([] : List (S26)), bt153.2)))) hn ?_
      have hf := Ev.bind (f := fun k t162 => (beat_seals.f k t162).bind fun t165 => (some (t165, (0 : Int)))) hh (Ev.bind (f := fun k t165 => (some (t165, (0 : Int)))) hq (Ev.now _))
      refine Ev.congr (fun k => ?_) hf
      rw [root_f, hb]
      rfl

/-! ### A row, changed as far as i -/
def upd {α : Type} (d : α) (t : List α) (F : Nat → α) (i : Nat) : List α := (List.range t.length).map fun p => if p < i then F p else t.getD p d
theorem upd_len {α : Type} (d : α) (t : List α) (F : Nat → α) (i : Nat) : (upd d t F i).length = t.length := by simp [upd]
theorem upd_zero {α : Type} (d : α) (t : List α) (F : Nat → α) : upd d t F 0 = t := by
  unfold upd
  apply List.ext_getElem (by simp)
  intro p h1 h2
  simp [h2]
theorem upd_full {α : Type} (d : α) (t : List α) (F : Nat → α) : upd d t F t.length = (List.range t.length).map F := by
  unfold upd
  refine List.map_congr_left fun p hp => ?_
  rw [if_pos (List.mem_range.1 hp)]
theorem upd_step {α : Type} (d : α) (t : List α) (F : Nat → α) (i : Nat) : (upd d t F i).set i (F i) = upd d t F (i + 1) := by
  unfold upd
  apply List.ext_getElem (by simp)
  intro p h1 h2
  rw [List.getElem_set]
  by_cases e : i = p
  · subst e
    simp
  · rw [if_neg e]
    simp only [List.getElem_map, List.getElem_range]
    by_cases e3 : p < i
    · rw [if_pos e3, if_pos (by omega)]
    · rw [if_neg e3, if_neg (by omega)]
theorem upd_at {α : Type} (d : α) (t : List α) (F : Nat → α) {i : Nat} (h : i < t.length) : (upd d t F i).getD i d = t.getD i d := by simp [upd, h]

/-! ### All but the first, the other way round -/
def rv (t : List S26) (i : Nat) : List S26 := (List.range t.length).map fun p => if 1 ≤ p ∧ (p ≤ i ∨ t.length - i ≤ p) then t.getD (t.length - p) z26 else t.getD p z26
theorem rv_len (t : List S26) (i : Nat) : (rv t i).length = t.length := by simp [rv]
theorem rv_at (t : List S26) (i : Nat) {p : Nat} (h : p < t.length) : (rv t i).getD p z26 = if 1 ≤ p ∧ (p ≤ i ∨ t.length - i ≤ p) then t.getD (t.length - p) z26 else t.getD p z26 := by simp [rv, h]
theorem rv_zero (t : List S26) : rv t 0 = t := by
  unfold rv
  apply List.ext_getElem (by simp)
  intro p h1 h2
  simp only [List.getElem_map, List.getElem_range]
  rw [if_neg (by omega)]
  simp [h2]
theorem rv_step (t : List S26) {i : Nat} (h : i + (i + 2) < t.length) : ((rv t i).set (i + 1) (t.getD (t.length - 1 - i) z26)).set (t.length - 1 - i) (t.getD (i + 1) z26) = rv t (i + 1) := by
  unfold rv
  apply List.ext_getElem (by simp)
  intro p h1 h2
  have hp : p < t.length := by simpa using h2
  rw [List.getElem_set]
  by_cases e1 : t.length - 1 - i = p
  · rw [if_pos e1]
    simp only [List.getElem_map, List.getElem_range]
    rw [if_pos (by omega), show t.length - p = i + 1 by omega]
  · rw [if_neg e1, List.getElem_set]
    by_cases e2 : i + 1 = p
    · rw [if_pos e2]
      simp only [List.getElem_map, List.getElem_range]
      rw [if_pos (by omega), show t.length - p = t.length - 1 - i by omega]
    · rw [if_neg e2]
      simp only [List.getElem_map, List.getElem_range]
      by_cases e3 : 1 ≤ p ∧ (p ≤ i ∨ t.length - i ≤ p)
      · rw [if_pos e3, if_pos (by omega)]
      · rw [if_neg e3, if_neg (by omega)]
/-- The row but for its first, the other way round. -/
def rvd (t : List S26) : List S26 := (List.range t.length).map fun p => t.getD ((t.length - p) % t.length) z26
theorem rv_full (t : List S26) {i : Nat} (h : t.length ≤ i + (i + 2)) : rv t i = rvd t := by
  unfold rv rvd
  refine List.map_congr_left fun p hp => ?_
  rw [List.mem_range] at hp
  rcases Nat.eq_zero_or_pos p with h0 | h0
  · rw [if_neg (by omega), h0, Nat.sub_zero, Nat.mod_self]
  · rw [Nat.mod_eq_of_lt (show t.length - p < t.length by omega)]
    by_cases e : 1 ≤ p ∧ (p ≤ i ∨ t.length - i ≤ p)
    · rw [if_pos e]
    · rw [if_neg e, show t.length - p = p by omega]
theorem rev_loop (t : List S26) (m : Nat) (hm : t.length = m + 1) (hl : m ≤ 1000) : ∀ (d i : Nat), m - i = d → i ≤ m → 2 * i ≤ m → ∀ k, d < k → rev_tail.l0 m k (rv t i) (i : Int) ((m : Int) - 1 - i) = some (rvd t) := by
  intro d
  induction d using Nat.strongRecOn with
  | _ d ih =>
    intro i hd hi h2 k hk
    obtain ⟨k, rfl⟩ : ∃ k', k = k' + 1 := ⟨k - 1, by omega⟩
    unfold rev_tail.l0
    by_cases hc : (i : Int) < (m : Int) - 1 - i
    · have hA : rd_T26 (rv t i) ((m : Int) - 1 - i + 1) = t.getD (t.length - 1 - i) z26 := by
        unfold rd_T26
        rw [show ((m : Int) - 1 - i + 1).toNat = t.length - 1 - i by omega, rv_at _ _ (by omega), if_neg (by omega)]
      have hB : rd_T26 (rv t i) ((i : Int) + 1) = t.getD (i + 1) z26 := by
        unfold rd_T26
        rw [show ((i : Int) + 1).toNat = i + 1 by omega, rv_at _ _ (by omega), if_neg (by omega)]
      rw [if_pos hc, if_pos (by omega), if_pos (by omega), if_pos (by omega), if_pos (by omega), hA, hB, show ((i : Int) + 1).toNat = i + 1 by omega, show ((m : Int) - 1 - i + 1).toNat = t.length - 1 - i by omega, rv_step t (by omega), w64 (by omega) (by omega), w64 (by omega) (by omega)]
      have := ih (m - (i + 1)) (by omega) (i + 1) rfl (by omega) (by omega) k (by omega)
      rw [show ((i + 1 : Nat) : Int) = (i : Int) + 1 by omega, show (m : Int) - 1 - ((i : Int) + 1) = (m : Int) - 1 - i - 1 by omega] at this
      exact this
    · rw [if_neg hc, rv_full _ (by omega)]
theorem rev_f {t : List S26} (h : 1 ≤ t.length) (hl : t.length ≤ 1000) : rev_tail1.f t = some (rvd t) := by
  unfold rev_tail1.f
  rw [if_pos h, w64 (by omega) (by omega)]
  have := rev_loop t (t.length - 1) (by omega) (by omega) _ 0 rfl (by omega) (by omega) (t.length + 1) (by omega)
  rw [rv_zero] at this
  simpa using this

/-! ### Back -/
theorem getD_map_sG (l : List S26) (p : Nat) : sG (l.getD p z26) = atG (l.map sG) p := by
  unfold atG
  rw [List.getD_eq_getElem?_getD, List.getD_eq_getElem?_getD, List.getElem?_map]
  cases l[p]? <;> rfl
theorem back_loop (r : List S26) (u : G) (hr : allS r = true) (hu : IsS u) (hl : r.length ≤ 1000) (e : Int) : ∀ (d i : Nat), r.length - i = d → i ≤ r.length →
    Ev (fun k => beat_Back.l0 k (upd z26 r (fun p => gS (red (G.mul (atG (r.map sG) p) u))) i) e (r.length : Int) (i : Int) u.re u.im) ((List.range r.length).map fun p => gS (red (G.mul (atG (r.map sG) p) u)), e) := by
  intro d
  induction d with
  | zero =>
    intro i hd hi
    have ei : i = r.length := by omega
    subst ei
    refine ev_now fun k => ?_
    simp only [beat_Back.l0]
    rw [if_neg (by omega), upd_full]
  | succ d ih =>
    intro i hd hi
    have hlt : i < r.length := by omega
    have hg : IsS (atG (r.map sG) i) := atG_isS (allS_iff.1 hr) i
    have hrd : rd_T26 (upd z26 r (fun p => gS (red (G.mul (atG (r.map sG) p) u))) i) (i : Int) = gS (atG (r.map sG) i) := by
      unfold rd_T26
      rw [Int.toNat_natCast, upd_at _ _ _ hlt, ← getD_map_sG]
      rfl
    have ht := times_ok hg hu
    refine Ev.step (f := fun k => (seal_Times.f k (atG (r.map sG) i).re (atG (r.map sG) i).im u.re u.im).bind fun bt191 => beat_Back.l0 k ((upd z26 r (fun p => gS (red (G.mul (atG (r.map sG) p) u))) i).set i (⟨bt191.1, bt191.2.1⟩ : S26)) e (r.length : Int) ((i + 1 : Nat) : Int) u.re u.im) (fun k => ?_) (Ev.bind ht ?_)
    · simp only [beat_Back.l0]
      rw [if_pos (by omega), if_pos (by omega), if_pos (by rw [upd_len]; omega), hrd, w64 (by omega) (by omega)]
      rfl
    · refine Ev.congr (fun k => ?_) (ih (i + 1) (by omega) (by omega))
      rw [← upd_step]
      rfl
theorem rvd_len (t : List S26) : (rvd t).length = t.length := by simp [rvd]
theorem turnP_len (l : List S26) : (turnP l).length = l.length := by simp [turnP, trn_len]
theorem turnP_allS (l : List S26) : allS (turnP l) = true := by
  rw [allS_iff]
  unfold turnP
  rw [map_sG_gS]
  exact trn_isS _ _
theorem rvd_allS {t : List S26} (h : allS t = true) : allS (rvd t) = true := by
  rw [allS_iff]
  intro g hg
  obtain ⟨x, hx, rfl⟩ := List.mem_map.1 hg
  unfold rvd at hx
  obtain ⟨p, _, rfl⟩ := List.mem_map.1 hx
  rw [getD_map_sG]
  exact atG_isS (allS_iff.1 h) _
theorem rowE_iff {l : List S26} : rowE l = 0 ↔ lenB l.length = true ∧ allS l = true := by
  unfold rowE
  cases lenB l.length <;> cases allS l <;> simp
theorem rootU_isS {n : Nat} (h : isLen n) : IsS (rootU n) := by rw [← rootU_eq h]; exact red_isS _
theorem Back_f (l : List S26) : Ev (fun k => beat_Back.f k l) (if rowE l = 0 then backP l else [], rowE l) := by
  have ht := Turn_f l
  by_cases h0 : rowE l = 0
  · rw [if_pos h0] at ht
    rw [if_pos h0]
    obtain ⟨hb, ha⟩ := rowE_iff.1 h0
    have hl := lenB_iff.1 hb
    have hsm := len_small hl
    have hp := power_f (x := num l.length) (by simp [IsS, num]; omega) (n := 16777197) (by omega)
    rw [rootU_eq hl] at hp
    have hlt : (turnP l).length = l.length := turnP_len l
    have hlr : (rvd (turnP l)).length = l.length := by rw [rvd_len, hlt]
    refine Ev.bind ht ?_
    have hq := back_loop (rvd (turnP l)) (rootU l.length) (rvd_allS (turnP_allS l)) (rootU_isS hl) (by omega) 0 _ 0 rfl (by omega)
    rw [upd_zero] at hq
    have hfin : ((List.range (rvd (turnP l)).length).map fun p => gS (red (G.mul (atG ((rvd (turnP l)).map sG) p) (rootU l.length)))) = backP l := by
      unfold backP bck
      rw [List.map_map, hlr, List.length_map]
      refine List.map_congr_left fun p hp => ?_
      rw [List.mem_range] at hp
      refine congrArg gS (mul_cong ?_ rfl)
      rw [← getD_map_sG]
      unfold rvd
      rw [hlt]
      have hmod : (l.length - p) % l.length < l.length := Nat.mod_lt _ (by omega)
      simp only [List.getD_eq_getElem?_getD, List.getElem?_map, List.getElem?_range hp, Option.map_some, Option.getD_some]
      rw [← List.getD_eq_getElem?_getD, getD_map_sG, turnP, map_sG_gS, atG_trn (by rw [List.length_map]; exact hmod), red_red, List.length_map]
    rw [hfin] at hq
    rw [h0]
    refine Ev.congr (fun k => ?_) hq
    have hp' : seal_Power.f (l.length : Int) 0 16777197 = some ((rootU l.length).re, (rootU l.length).im, 0) := hp
    simp only [if_true]
    rw [rev_f (by omega) (by omega), hp', hlr]
    simp only [Option.bind_some, hlt]
    rfl
  · rw [if_neg h0] at ht
    rw [if_neg h0]
    refine Ev.bind ht ?_
    refine Ev.congr (fun k => ?_) (Ev.now _)
    rw [if_neg h0]


/-! ### Round -/
theorem round_loop (a b : List S26) (ha : allS a = true) (hb : allS b = true) (hab : a.length = b.length) (hl : a.length ≤ 1000) (r : List S26 × Int)
    (hr : Ev (fun k => beat_Back.f k ((List.range a.length).map fun p => gS (red (G.mul (atG (a.map sG) p) (atG (b.map sG) p))))) r) : ∀ (d i : Nat), a.length - i = d → i ≤ a.length →
    Ev (fun k => beat_Round.l0 k (upd z26 a (fun p => gS (red (G.mul (atG (a.map sG) p) (atG (b.map sG) p)))) i) b (a.length : Int) (i : Int)) r := by
  intro d
  induction d with
  | zero =>
    intro i hd hi
    have ei : i = a.length := by omega
    subst ei
    refine Ev.step (f := fun k => (beat_Back.f k ((List.range a.length).map fun p => gS (red (G.mul (atG (a.map sG) p) (atG (b.map sG) p))))).bind fun bt210 => (some (bt210.1, bt210.2))) (fun k => ?_) (Ev.bind hr (Ev.now _))
    simp only [beat_Round.l0]
    rw [if_neg (by omega), upd_full]
  | succ d ih =>
    intro i hd hi
    have hlt : i < a.length := by omega
    have hg : IsS (atG (a.map sG) i) := atG_isS (allS_iff.1 ha) i
    have hg2 : IsS (atG (b.map sG) i) := atG_isS (allS_iff.1 hb) i
    have hrd : rd_T26 (upd z26 a (fun p => gS (red (G.mul (atG (a.map sG) p) (atG (b.map sG) p)))) i) (i : Int) = gS (atG (a.map sG) i) := by
      unfold rd_T26
      rw [Int.toNat_natCast, upd_at _ _ _ hlt, ← getD_map_sG]
      rfl
    have hrd2 : rd_T26 b (i : Int) = gS (atG (b.map sG) i) := by
      unfold rd_T26
      rw [Int.toNat_natCast, ← getD_map_sG]
      rfl
    have ht := times_ok hg hg2
    refine Ev.step (f := fun k => (seal_Times.f k (atG (a.map sG) i).re (atG (a.map sG) i).im (atG (b.map sG) i).re (atG (b.map sG) i).im).bind fun bt191 => beat_Round.l0 k ((upd z26 a (fun p => gS (red (G.mul (atG (a.map sG) p) (atG (b.map sG) p)))) i).set i (⟨bt191.1, bt191.2.1⟩ : S26)) b (a.length : Int) ((i + 1 : Nat) : Int)) (fun k => ?_) (Ev.bind ht ?_)
    · simp only [beat_Round.l0]
      rw [if_pos (by omega), if_pos (by omega), if_pos (by rw [upd_len]; omega), if_pos (by omega), hrd, hrd2, w64 (by omega) (by omega)]
      rfl
    · refine Ev.congr (fun k => ?_) (ih (i + 1) (by omega) (by omega))
      rw [← upd_step]
      rfl
theorem range_allS (n : Nat) (f : Nat → G) : allS ((List.range n).map fun p => gS (red (f p))) = true := by
  rw [allS_iff]
  intro g hg
  rw [List.map_map] at hg
  obtain ⟨p, _, rfl⟩ := List.mem_map.1 hg
  exact red_isS _
theorem Round_f (x y : List S26) : Ev (fun k => beat_Round.f k x y) (if roundE x y = 0 then roundP x y else [], roundE x y) := by
  have e1 : ∀ k, beat_Round.f k x y = beat_Round.j0 k x y (!(lenB x.length && x.length == y.length)) := fun k => by
    unfold beat_Round.f
    rw [turns_f]
    simp only [Option.bind_some]
    cases hb : lenB x.length with
    | false => rfl
    | true =>
      rw [if_pos rfl]
      congr 1
      by_cases hq : x.length = y.length
      · simp [hq]
      · have h1 : ((x.length : Int) != (y.length : Int)) = true := bne_iff_ne.2 (by omega)
        have h2 : (x.length == y.length) = false := beq_eq_false_iff_ne.2 hq
        rw [h1, h2]
        rfl
  refine Ev.congr e1 ?_
  unfold roundE
  cases hb : (lenB x.length && x.length == y.length) with
  | false =>
    refine ev_now fun k => ?_
    simp [beat_Round.j0]
  | true =>
    rw [Bool.and_eq_true, beq_iff_eq] at hb
    obtain ⟨hb, hxy⟩ := hb
    have hl := lenB_iff.1 hb
    have hsm := len_small hl
    have tx := Turn_f x
    have ty := Turn_f y
    have ex : rowE x = if allS x then 0 else 20 := by unfold rowE; rw [hb]; rfl
    have ey : rowE y = if allS y then 0 else 20 := by unfold rowE; rw [← hxy, hb]; rfl
    rw [ex] at tx
    rw [ey] at ty
    refine Ev.step (f := fun k => (beat_Turn.f k x).bind fun bt196 => (if bt196.2 = 0 then ((beat_Turn.f k y).bind fun bt200 => (if bt200.2 = 0 then (beat_Round.l0 k bt196.1 bt200.1 (bt196.1.length : Int) 0) else (some (([] : List (S26)), bt200.2)))) else (some (([] : List (S26)), bt196.2)))) (fun k => by simp [beat_Round.j0]) ?_
    cases hx : allS x with
    | false =>
      rw [hx] at tx
      exact Ev.bind tx (Ev.now _)
    | true =>
      rw [hx] at tx
      refine Ev.bind tx ?_
      simp only [if_true, Bool.true_and]
      cases hy : allS y with
      | false =>
        rw [hy] at ty
        exact Ev.bind ty (Ev.now _)
      | true =>
        rw [hy] at ty
        refine Ev.bind ty ?_
        simp only [if_true]
        have lx : (turnP x).length = x.length := turnP_len x
        have ly : (turnP y).length = x.length := by rw [turnP_len, hxy]
        let pr : List S26 := (List.range x.length).map fun p => gS (red (G.mul (atG ((turnP x).map sG) p) (atG ((turnP y).map sG) p)))
        have lp : pr.length = x.length := by simp [pr]
        have hbk := Back_f pr
        have hE : rowE pr = 0 := rowE_iff.2 ⟨by rw [lp]; exact hb, range_allS _ _⟩
        rw [hE, if_pos rfl] at hbk
        have hfin : backP pr = roundP x y := by
          unfold backP roundP bck rnd
          refine congrArg (List.map gS) ?_
          simp only [List.length_map, lp]
          refine List.map_congr_left fun i hi => ?_
          rw [List.mem_range] at hi
          refine Eq.trans ?_ (conv_turn (root_len hl) (atG (x.map sG)) (atG (y.map sG)) hi)
          unfold bft
          refine mul_cong (dft_cong (fun m hm => ?_) rfl _) rfl
          have : pr.map sG = (List.range x.length).map fun p => red (G.mul (atG ((turnP x).map sG) p) (atG ((turnP y).map sG) p)) := by
            simp only [pr, List.map_map]
            rfl
          rw [this, atG_map _ hm, red_red]
          refine mul_cong ?_ ?_
          · rw [turnP, map_sG_gS, atG_trn (by rw [List.length_map]; exact hm), red_red, List.length_map]
          · rw [turnP, map_sG_gS, atG_trn (by rw [List.length_map, ← hxy]; exact hm), red_red, List.length_map, ← hxy]
        rw [hfin] at hbk
        have hq := round_loop (turnP x) (turnP y) (turnP_allS x) (turnP_allS y) (by rw [lx, ly]) (by omega) (roundP x y, 0) (by rw [lx]; exact hbk) _ 0 rfl (by omega)
        rw [upd_zero] at hq
        exact hq

#print axioms Round_f
end Go.Proofs.YtkilnknndglmnaaP
end

section
/- slices.ContainsFunc of records with a tick that may not be. -/
namespace Go.Proofs.YtkilnknndglmnaaP
open Go.RowKit Go.Proofs.Ytkilnknndglmnaa Go.Proofs.YtkilnknndglmnaaW.PrintWords
set_option linter.unusedVariables false

/-- A tick that may not be. -/
def badT (n : Int) : Bool := decide (n < 0 ∨ 1099511627776 < n)
theorem badT_low {n : Int} (h : n < 0) : badT n = true := by simp [badT]; omega
theorem badT_high {n : Int} (h : 1099511627776 < n) : badT n = true := by simp [badT]; omega
theorem badT_not {n : Int} (h0 : 0 ≤ n) (h : n ≤ 1099511627776) : badT n = false := by simp [badT]; omega
theorem badT_iff {n : Int} : badT n = false ↔ 0 ≤ n ∧ n ≤ 1099511627776 := by simp [badT]

theorem wrong48 (t : Int) (s : ByteArray) (c v : Int) (w : World) : Calls Try.prog 48 #[.agg #[.int .i64 t, .string s, .int .i64 c, .int .i64 v]] w fun e w' => e = .returned (.bool (badT t)) ∧ Below w.heap.size w w' := by
  by_cases h1 : t < 0
  · have e := hid (badT_low h1)
    generalize badT t = q at *
    go_enter Try.func48, Try.ntmps48
    go_wp2
    go_ret
    exact ⟨by rw [e.out]; rfl, (Below.refl _ _).alloc (Nat.le_refl _) _⟩
  · by_cases h2 : 1099511627776 < t
    · have e := hid (badT_high h2)
      generalize badT t = q at *
      go_enter Try.func48, Try.ntmps48
      go_wp2
      go_ret
      exact ⟨by rw [e.out]; rfl, (Below.refl _ _).alloc (Nat.le_refl _) _⟩
    · have e := hid (badT_not (n := t) (by omega) (by omega))
      generalize badT t = q at *
      go_enter Try.func48, Try.ntmps48
      go_wp2
      go_ret
      exact ⟨by rw [e.out]; rfl, (Below.refl _ _).alloc (Nat.le_refl _) _⟩

theorem take_any (l : List S49) (k : Nat) (h : k < l.length) : (l.take (k + 1)).any (fun x => badT x.f0) = ((l.take k).any (fun x => badT x.f0) || badT (l.getD k z49).f0) := by
  rw [List.take_succ_eq_append_getElem h, List.any_append]
  simp [h]

set_option maxHeartbeats 1000000 in
theorem index54 (l : List S49) (A : Option Addr) (c : Nat) (w : World) (hr : Kd.C k49 w A l.length l) :
    Calls Try.prog 54 #[.slice A l.length c, .func (.func 48) #[] #[]] w fun e w' => (∃ r : Int, e = .returned (.int .i64 r) ∧ decide (0 ≤ r) = l.any (fun x => badT x.f0)) ∧ Below w.heap.size w w' := by
  have R := hid hr
  have hl := hr.2.1
  clear hr
  generalize hn : l.length = n at *
  have N := hid hn
  clear hn
  go_enter Try.func54, Try.ntmps54
  go_wp2_with fail
  go_loopw [5, 8] (fun _ s8 wr => ∃ k : Nat, k ≤ n ∧ s8 = .int .i64 k ∧ Aside0 ((l.take k).any (fun x => badT x.f0) = false) ∧ Aside0 (Below w.heap.size w wr)) (fun _ i _ => n - (intOf i).toNat)
  case atStart => exact ⟨0, by omega, rfl, ⟨by simp⟩, ⟨Below.refl _ _⟩⟩
  case round =>
    obtain ⟨k, hk, rfl, hA, hB⟩ := hrel
    by_cases hlt : k < n
    · have hki : (0 : Int) ≤ (k : Int) := by omega
      have hkn : (k : Int) < (n : Int) := by omega
      obtain ⟨ad, rfl, hx0, hx1, hx2, hx3⟩ := at_T49 (Kd.C_below R.out hB.out) (k : Int) hki hkn
      simp only [Int.toNat_natCast] at hx0 hx1 hx2 hx3
      have S := hid (take_any l k (by have := N.out; omega))
      have K := hid (show k < l.length by have := N.out; omega)
      have RD := hid (show rd_T49 l (k : Int) = l.getD k z49 by simp [rd_T49])
      have WR := hid (wrong48 (rd_T49 l (k : Int)).f0 (rd_T49 l (k : Int)).f1 (rd_T49 l (k : Int)).f2 (rd_T49 l (k : Int)).f3)
      have Q := hid (show badT (rd_T49 l (k : Int)).f0 = badT (l.getD k z49).f0 by rw [RD.out])
      generalize badT (rd_T49 l (k : Int)).f0 = q at *
      generalize rd_T49 l (k : Int) = x at *
      cases q with
      | true =>
        go_wp2_with (go_at_call 48; refine (WR.out _).mono ?_; rintro e w1 ⟨rfl, hb⟩)
        go_ret
        refine ⟨⟨_, rfl, ?_⟩, hB.out.trans (hb.mono hB.out.size)⟩
        have : l.any (fun x => badT x.f0) = true := List.any_eq_true.2 ⟨l[k]'K.out, List.getElem_mem _, by have := Q.out; simp [K.out] at this; exact this⟩
        rw [this]
        simp
      | false =>
        go_wp2_with (go_at_call 48; refine (WR.out _).mono ?_; rintro e w1 ⟨rfl, hb⟩)
        go_roundw
        case rel => exact ⟨k + 1, by omega, by go_num, ⟨by rw [S.out, hA.out, ← Q.out]; rfl⟩, ⟨hB.out.trans (hb.mono hB.out.size)⟩⟩
        case measure => simp [intOf]; omega
    · have : k = n := by omega
      subst this
      have hlt : ¬ (k : Int) < (k : Int) := by omega
      have hA' := hA.out
      rw [← N.out, List.take_length] at hA'
      have HA := hid hA'
      clear hA' hA
      go_wp2_with fail
      go_ret
      exact ⟨⟨_, rfl, by rw [HA.out]; rfl⟩, hB.out⟩

def api_Record_49.f (l0 : List (S49)) : Option (Bool) := some (l0.any (fun x => badT x.f0))
theorem api_Record_49.calls (A0 : Option Addr) (c0 : Nat) (l0 : List (S49)) (r : Bool) (w : World) (hr0 : Kd.C k49 w A0 l0.length l0) (hc0 : l0.length ≤ c0) (h : api_Record_49.f l0 = some r) :
    Calls Try.prog 49 #[.slice A0 l0.length c0, .func (.func 48) #[] #[]] w fun e w' => e = .returned (.bool r) ∧ Below w.heap.size w w' := by
  obtain rfl := Option.some.inj h
  have I := hid (index54 l0 A0 c0 w hr0)
  clear hr0 hc0 h
  generalize l0.length = n at *
  generalize l0.any (fun x => badT x.f0) = b at *
  go_enter Try.func49, Try.ntmps49
  go_wp2_with fail
  refine I.out.mono ?_
  rintro e w1 ⟨⟨r, rfl, hr⟩, hb⟩
  by_cases h : 0 ≤ r
  · go_wp2_with fail
    go_ret
    exact ⟨by rw [← hr]; simp [h], hb⟩
  · go_wp2_with fail
    go_ret
    exact ⟨by rw [← hr]; simp, hb⟩

end Go.Proofs.YtkilnknndglmnaaP
end
