/- The law Meets: its walk, and its plain law. -/
import Derived.Test.YtkilnknndglmnaaK3

section
-- Laid by given.py, a program of this seat, with the kit's printer.
namespace Go.Proofs.YtkilnknndglmnaaM
open Go.Proofs.YtkilnknndglmnaaP
open Go.Proofs.Ytkilnknndglmnaa (G fl IsS isSB okC okF okC_iff encC kcx at_cx md red run_cmul run_cadd run_csub run_fint lit_one lit_zero tdiv_32 run_store_cx)
attribute [local go_sem] run_cmul run_cadd run_csub run_fint lit_one lit_zero tdiv_32 run_store_cx
open Go.RowKit Go.Proofs.YtkilnknndglmnaaW.PrintWords Go.Proofs.YtkilnknndglmnaaW.PrintLast Go.Proofs.YtkilnknndglmnaaW.PrintMore
attribute [local go_sem] max2_int min2_int max_two min_two max_three min_three max_four min_four   -- for this text's walks alone
set_option linter.unusedVariables false
set_option linter.unusedSimpArgs false

/-! ### reevelaw21_BeatMeets: function 8 -/
mutual
def reevelaw21_BeatMeets.l0 : Nat → List (S49) → Int → Int → List Int → List Int → Int → Int → Option (Bool)
 | 0, _, _, _, _, _, _, _ => none
 | k + 1, x0, x1, x3, x10, x11, x13, x14 => if x14 < (x0.length : Int) then (if 0 ≤ x14 then (if ((rd_T49 x0 x14).f3) = x1 then (reevelaw21_BeatMeets.l0 k x0 x1 x3 x10 x11 (wrap64 (x13 + 1)) (wrap64 (x14 + 1))) else (reevelaw21_BeatMeets.l0 k x0 x1 x3 x10 x11 x13 (wrap64 (x14 + 1)))) else (none)) else (if (x10.length : Int) = x3 then (if (x11.length : Int) = x3 then (reevelaw21_BeatMeets.l1 k x3 x10 x11 x13 0 0 0) else (none)) else (none))
def reevelaw21_BeatMeets.l1 : Nat → Int → List Int → List Int → Int → Int → Int → Int → Option (Bool)
 | 0, _, _, _, _, _, _, _ => none
 | k + 1, x3, x10, x11, x13, x15, x16, x17 => if x17 < x3 then (if 0 ≤ x17 then (if x17 < (x10.length : Int) then (if x17 < (x11.length : Int) then (if (rd x10 x17) < 0 then (none) else (if (rd x11 x17) < 0 then (none) else (if 0 < (x11.length : Int) then (if (rd x11 x17) > (rd x11 0) then (none) else (if x3 = 0 then (none) else (if 0 ≤ (Int.tmod (wrap64 (x3 - x17)) x3) then (if (Int.tmod (wrap64 (x3 - x17)) x3) < (x11.length : Int) then (if (rd x11 x17) = (rd x11 (Int.tmod (wrap64 (x3 - x17)) x3)) then (reevelaw21_BeatMeets.l1 k x3 x10 x11 x13 (wrap64 (x15 + (rd x10 x17))) (wrap64 (x16 + (rd x11 x17))) (wrap64 (x17 + 1))) else (none)) else (none)) else (none)))) else (none)))) else (none)) else (none)) else (none)) else (if x15 = x13 then (some (x16 == (wrap64 (x13 * x13)))) else (none))
end
def reevelaw21_BeatMeets.f (k : Nat) (l0 : List (S49)) (a1 : Int) (a2 : Int) (a3 : Int) : Option (Bool) := (awake_ok.f).bind fun _ => ((beats_ok.f l0 a1 a2 a3).bind fun bt137 => (if bt137.2.2 = 0 then (reevelaw21_BeatMeets.l0 k l0 a1 a3 bt137.1 bt137.2.1 0 0) else (some true)))
theorem reevelaw21_BeatMeets.mono_l : ∀ k, (∀ y0 y1 y2 y3 y4 y5 y6, LeO (reevelaw21_BeatMeets.l0 k y0 y1 y2 y3 y4 y5 y6) (reevelaw21_BeatMeets.l0 (k + 1) y0 y1 y2 y3 y4 y5 y6)) ∧ (∀ y0 y1 y2 y3 y4 y5 y6, LeO (reevelaw21_BeatMeets.l1 k y0 y1 y2 y3 y4 y5 y6) (reevelaw21_BeatMeets.l1 (k + 1) y0 y1 y2 y3 y4 y5 y6))
 | 0 => ⟨fun _ _ _ _ _ _ _ r h => by simp [reevelaw21_BeatMeets.l0] at h, fun _ _ _ _ _ _ _ r h => by simp [reevelaw21_BeatMeets.l1] at h⟩
 | k + 1 => by
  obtain ⟨ih0, ih1⟩ := reevelaw21_BeatMeets.mono_l k
  refine ⟨?_, ?_⟩
  ·intro y0 y1 y2 y3 y4 y5 y6
   unfold reevelaw21_BeatMeets.l0
   repeat' first
   | (with_reducible exact ih0 _ _ _ _ _ _ _)
   | (with_reducible exact ih1 _ _ _ _ _ _ _)
   | (with_reducible exact LeO.refl _)
   | (with_reducible exact LeO.none _)
   | (with_reducible refine LeO.ite ?_ ?_)
   | (with_reducible refine LeO.bind ?_ (fun _ => ?_))
   | exact ih0 _ _ _ _ _ _ _
   | exact ih1 _ _ _ _ _ _ _
   | exact LeO.none _
   | refine LeO.ite ?_ ?_
   | refine LeO.bind ?_ (fun _ => ?_)
  ·intro y0 y1 y2 y3 y4 y5 y6
   unfold reevelaw21_BeatMeets.l1
   repeat' first
   | (with_reducible exact ih0 _ _ _ _ _ _ _)
   | (with_reducible exact ih1 _ _ _ _ _ _ _)
   | (with_reducible exact LeO.refl _)
   | (with_reducible exact LeO.none _)
   | (with_reducible refine LeO.ite ?_ ?_)
   | (with_reducible refine LeO.bind ?_ (fun _ => ?_))
   | exact ih0 _ _ _ _ _ _ _
   | exact ih1 _ _ _ _ _ _ _
   | exact LeO.none _
   | refine LeO.ite ?_ ?_
   | refine LeO.bind ?_ (fun _ => ?_)
theorem reevelaw21_BeatMeets.mono : ∀ a0 a1 a2 a3 k, LeO (reevelaw21_BeatMeets.f k a0 a1 a2 a3) (reevelaw21_BeatMeets.f (k + 1) a0 a1 a2 a3) := by
 intro a0 a1 a2 a3 k
 obtain ⟨ih0, ih1⟩ := reevelaw21_BeatMeets.mono_l k
 unfold reevelaw21_BeatMeets.f
 repeat' first
   | (with_reducible exact ih0 _ _ _ _ _ _ _)
   | (with_reducible exact ih1 _ _ _ _ _ _ _)
   | (with_reducible exact LeO.refl _)
   | (with_reducible exact LeO.none _)
   | (with_reducible refine LeO.ite ?_ ?_)
   | (with_reducible refine LeO.bind ?_ (fun _ => ?_))
   | exact ih0 _ _ _ _ _ _ _
   | exact ih1 _ _ _ _ _ _ _
   | exact LeO.none _
   | refine LeO.ite ?_ ?_
   | refine LeO.bind ?_ (fun _ => ?_)
set_option maxHeartbeats 8000000 in
set_option maxRecDepth 100000 in
theorem reevelaw21_BeatMeets.calls (k : Nat) (A0 : Option Addr) (c0 : Nat) (l0 : List (S49)) (a1 : Int) (a2 : Int) (a3 : Int) (r : Bool) (w : World) (hr0 : Kd.C k49 w A0 l0.length l0) (hc0 : l0.length ≤ c0) (h : reevelaw21_BeatMeets.f k l0 a1 a2 a3 = some r) :
  Calls Try.prog 8 #[.slice A0 l0.length c0, .int .i64 a1, .int .i64 a2, .int .i64 a3] w fun e w' => e = .returned (.bool r) ∧ Below w.heap.size w w' := by
 have HR0 := Aside0.mk hr0
 have HC0 := Aside0.mk hc0
 clear hr0 hc0
 have HB := Aside0.mk (Below.refl w.heap.size w)
 have H : ((awake_ok.f).bind fun _ => ((beats_ok.f l0 a1 a2 a3).bind fun bt137 => (if bt137.2.2 = 0 then (reevelaw21_BeatMeets.l0 k l0 a1 a3 bt137.1 bt137.2.1 0 0) else (some true)))) = some r := h
 clear h
 replace H := Option.bind_eq_some_iff.mp H
 obtain ⟨_, A50, H⟩ := H
 replace H : ((beats_ok.f l0 a1 a2 a3).bind fun bt137 => (if bt137.2.2 = 0 then (reevelaw21_BeatMeets.l0 k l0 a1 a3 bt137.1 bt137.2.1 0 0) else (some true))) = some r := H
 have A5 := Aside0.mk A50
 clear A50
 replace H := Option.bind_eq_some_iff.mp H
 obtain ⟨⟨t137, t138, t139⟩, A60, H⟩ := H
 replace H : (if t139 = 0 then (reevelaw21_BeatMeets.l0 k l0 a1 a3 t137 t138 0 0) else (some true)) = some r := H
 have A6 := Aside0.mk A60
 clear A60
 by_cases c7 : t139 = 0
 ·rw [if_pos c7] at H
  have c7b0 : (t139 == 0) = true := beq_iff_eq.mpr c7
  have c7b1 : (t139 != 0) = false := bne_eq_false_iff_eq.mpr c7
  clear c7
  have H' := Aside0.mk H
  clear H
  go_enter Try.func8, Try.ntmps8
  go_wp2_with (first | (go_at_call 10; (with_reducible refine (awake_ok.calls   _ A5.out).mono ?_); rintro e w8 ⟨rfl, hb⟩; have n0_ := Aside0.mk (below_step (by repeat (first | (with_reducible first | exact HB.out | apply below_alloc | apply pw_below_drewN | apply below_drew1) | exact HB.out)) hb); clear HB; have HB := n0_; clear n0_; (try clear hb); (try clear hb2); (try clear hk); (try clear hi)) | (go_at_call 27; (with_reducible refine (beats_ok.calls _ _ l0 a1 a2 a3 t137 t138 t139 _ ?side1 ?side2 A6.out).mono ?_); (case side1 => repeat (first | exact (Kd.C_below HR0.out HB.out) | (with_reducible refine Kd.C_alloc ?_ _) | (with_reducible refine Kd.C_drewN ?_ _) | (with_reducible refine Kd.C_drew ?_))); (case side2 => exact HC0.out); rintro e w9 ⟨v140, v142, rfl, ho0, ho1, hb⟩; have n0_ := Aside0.mk (Kd.R_lower ho0 (below_size (by repeat (first | (with_reducible first | exact HB.out | apply below_alloc | apply pw_below_drewN | apply below_drew1) | exact HB.out)))); have n1_ := Aside0.mk (Kd.R_lower ho1 (below_size (by repeat (first | (with_reducible first | exact HB.out | apply below_alloc | apply pw_below_drewN | apply below_drew1) | exact HB.out)))); have n2_ := Aside0.mk (below_step (by repeat (first | (with_reducible first | exact HB.out | apply below_alloc | apply pw_below_drewN | apply below_drew1) | exact HB.out)) hb); clear HB; have HO141 := n0_; have HO143 := n1_; have HB := n2_; clear n0_ n1_ n2_; (try clear hb); (try clear hb2); (try clear hk); (try clear hi); (try clear ho0); (try clear ho1)))
  repeat (go_quiet (first | (go_at_call 10; (with_reducible refine (awake_ok.calls   _ A5.out).mono ?_); rintro e w8 ⟨rfl, hb⟩; have n0_ := Aside0.mk (below_step (by repeat (first | (with_reducible first | exact HB.out | apply below_alloc | apply pw_below_drewN | apply below_drew1) | exact HB.out)) hb); clear HB; have HB := n0_; clear n0_; (try clear hb); (try clear hb2); (try clear hk); (try clear hi)) | (go_at_call 27; (with_reducible refine (beats_ok.calls _ _ l0 a1 a2 a3 t137 t138 t139 _ ?side1 ?side2 A6.out).mono ?_); (case side1 => repeat (first | exact (Kd.C_below HR0.out HB.out) | (with_reducible refine Kd.C_alloc ?_ _) | (with_reducible refine Kd.C_drewN ?_ _) | (with_reducible refine Kd.C_drew ?_))); (case side2 => exact HC0.out); rintro e w9 ⟨v140, v142, rfl, ho0, ho1, hb⟩; have n0_ := Aside0.mk (Kd.R_lower ho0 (below_size (by repeat (first | (with_reducible first | exact HB.out | apply below_alloc | apply pw_below_drewN | apply below_drew1) | exact HB.out)))); have n1_ := Aside0.mk (Kd.R_lower ho1 (below_size (by repeat (first | (with_reducible first | exact HB.out | apply below_alloc | apply pw_below_drewN | apply below_drew1) | exact HB.out)))); have n2_ := Aside0.mk (below_step (by repeat (first | (with_reducible first | exact HB.out | apply below_alloc | apply pw_below_drewN | apply below_drew1) | exact HB.out)) hb); clear HB; have HO141 := n0_; have HO143 := n1_; have HB := n2_; clear n0_ n1_ n2_; (try clear hb); (try clear hb2); (try clear hk); (try clear hi); (try clear ho0); (try clear ho1))); try go_wp2_with (first | (go_at_call 10; (with_reducible refine (awake_ok.calls   _ A5.out).mono ?_); rintro e w8 ⟨rfl, hb⟩; have n0_ := Aside0.mk (below_step (by repeat (first | (with_reducible first | exact HB.out | apply below_alloc | apply pw_below_drewN | apply below_drew1) | exact HB.out)) hb); clear HB; have HB := n0_; clear n0_; (try clear hb); (try clear hb2); (try clear hk); (try clear hi)) | (go_at_call 27; (with_reducible refine (beats_ok.calls _ _ l0 a1 a2 a3 t137 t138 t139 _ ?side1 ?side2 A6.out).mono ?_); (case side1 => repeat (first | exact (Kd.C_below HR0.out HB.out) | (with_reducible refine Kd.C_alloc ?_ _) | (with_reducible refine Kd.C_drewN ?_ _) | (with_reducible refine Kd.C_drew ?_))); (case side2 => exact HC0.out); rintro e w9 ⟨v140, v142, rfl, ho0, ho1, hb⟩; have n0_ := Aside0.mk (Kd.R_lower ho0 (below_size (by repeat (first | (with_reducible first | exact HB.out | apply below_alloc | apply pw_below_drewN | apply below_drew1) | exact HB.out)))); have n1_ := Aside0.mk (Kd.R_lower ho1 (below_size (by repeat (first | (with_reducible first | exact HB.out | apply below_alloc | apply pw_below_drewN | apply below_drew1) | exact HB.out)))); have n2_ := Aside0.mk (below_step (by repeat (first | (with_reducible first | exact HB.out | apply below_alloc | apply pw_below_drewN | apply below_drew1) | exact HB.out)) hb); clear HB; have HO141 := n0_; have HO143 := n1_; have HB := n2_; clear n0_ n1_ n2_; (try clear hb); (try clear hb2); (try clear hk); (try clear hi); (try clear ho0); (try clear ho1))))
  go_loopg [13, 14] k (fun kq v13 v14 w' => ∃ (x13_1 : Int) (x14_1 : Int), v13 = .int .i64 x13_1 ∧ v14 = .int .i64 x14_1 ∧ Aside0 (reevelaw21_BeatMeets.l0 kq l0 a1 a3 t137 t138 x13_1 x14_1 = some r) ∧ Aside0 (kq ≤ k) ∧ Aside0 (Kd.R (Kd.int .i64) 3 w' w.heap.size (fun k_ => some k_ ≠ (v142 : Value).ownBlock) v140 t137) ∧ Aside0 (Kd.R (Kd.int .i64) 3 w' w.heap.size (fun k_ => some k_ ≠ (v140 : Value).ownBlock) v142 t138) ∧ Aside0 (Below w.heap.size w w'))
  case atStart => exact ⟨(0), (0), (by first | rfl | (simp; done) | (simp [*]; done) | (simp [Int.tdiv_eq_ediv_of_nonneg]; done)), (by first | rfl | (simp; done) | (simp [*]; done) | (simp [Int.tdiv_eq_ediv_of_nonneg]; done)), H', ⟨Nat.le_refl _⟩, ⟨by (with_reducible repeat (first | apply Kd.R_alloc | apply Kd.R_drewN | apply Kd.R_drew)); exact HO141.out⟩, ⟨by (with_reducible repeat (first | apply Kd.R_alloc | apply Kd.R_drewN | apply Kd.R_drew)); exact HO143.out⟩, ⟨by repeat (first | (with_reducible first | exact HB.out | apply below_alloc | apply pw_below_drewN | apply below_drew1) | exact HB.out)⟩⟩
  case round =>
   clear H'
   try clear p2
   try clear c7
   try clear c7b0
   try clear c7b1
   try clear c8
   obtain ⟨x13_1, x14_1, rfl, rfl, HA, HK1, HO_10, HO_11, HB⟩ := hrel
   cases gk with
   | zero => exact absurd HA.out (by simp [reevelaw21_BeatMeets.l0])
   | succ k1 =>
    have H := HA.out
    clear HA
    simp only [reevelaw21_BeatMeets.l0] at H
    by_cases c10 : x14_1 < (l0.length : Int)
    ·rw [if_pos c10] at H
     have c10b0 : decide (x14_1 < (l0.length : Int)) = true := decide_eq_true c10
     clear c10
     by_cases c11 : 0 ≤ x14_1
     ·rw [if_pos c11] at H
      have c11b0 : decide (0 ≤ x14_1) = true := decide_eq_true c11
      clear c11
      by_cases c12 : ((rd_T49 l0 x14_1).f3) = a1
      ·rw [if_pos c12] at H
       have c12b0 : (((rd_T49 l0 x14_1).f3) == a1) = true := beq_iff_eq.mpr c12
       have c12b1 : (((rd_T49 l0 x14_1).f3) != a1) = false := bne_eq_false_iff_eq.mpr c12
       clear c12
       have H' := Aside0.mk H
       clear H
       have p144 : 0 ≤ (x14_1 : Int) := of_decide_eq_true (by first | (with_reducible assumption) | assumption)
       have q144 : x14_1 < (l0.length : Int) := of_decide_eq_true (by first | (with_reducible assumption) | assumption)
       obtain ⟨ad144, e144, hx144_0, hx144_1, hx144_2, hx144_3⟩ := at_T49 HR0.out x14_1 p144 q144
       cases e144
       replace hx144_0 := (HB.out.cell (World.block_lt_of_cell? w _ hx144_0)).trans hx144_0
       replace hx144_1 := (HB.out.cell (World.block_lt_of_cell? w _ hx144_1)).trans hx144_1
       replace hx144_2 := (HB.out.cell (World.block_lt_of_cell? w _ hx144_2)).trans hx144_2
       replace hx144_3 := (HB.out.cell (World.block_lt_of_cell? w _ hx144_3)).trans hx144_3
       replace p144 := eq_true p144
       replace q144 := eq_true q144
       go_wp2
       repeat (go_quiet (fail); try go_wp2)
       go_roundg k1
       case measure => have := HK1.out; omega
       case rel => exact ⟨(wrap64 (x13_1 + 1)), (wrap64 (x14_1 + 1)), (by first | rfl | (simp; done) | (simp [*]; done) | (simp [Int.tdiv_eq_ediv_of_nonneg]; done)), (by first | rfl | (simp; done) | (simp [*]; done) | (simp [Int.tdiv_eq_ediv_of_nonneg]; done)), H', ⟨by have := HK1.out; omega⟩, ⟨by (with_reducible repeat (first | apply Kd.R_alloc | apply Kd.R_drewN | apply Kd.R_drew)); exact HO_10.out⟩, ⟨by (with_reducible repeat (first | apply Kd.R_alloc | apply Kd.R_drewN | apply Kd.R_drew)); exact HO_11.out⟩, ⟨by repeat (first | (with_reducible first | exact HB.out | apply below_alloc | apply pw_below_drewN | apply below_drew1) | exact HB.out)⟩⟩
      ·rw [if_neg c12] at H
       have c12b0 : (((rd_T49 l0 x14_1).f3) == a1) = false := beq_eq_false_iff_ne.mpr c12
       have c12b1 : (((rd_T49 l0 x14_1).f3) != a1) = true := bne_iff_ne.mpr c12
       have H' := Aside0.mk H
       clear H
       have p144 : 0 ≤ (x14_1 : Int) := of_decide_eq_true (by first | (with_reducible assumption) | assumption)
       have q144 : x14_1 < (l0.length : Int) := of_decide_eq_true (by first | (with_reducible assumption) | assumption)
       obtain ⟨ad144, e144, hx144_0, hx144_1, hx144_2, hx144_3⟩ := at_T49 HR0.out x14_1 p144 q144
       cases e144
       replace hx144_0 := (HB.out.cell (World.block_lt_of_cell? w _ hx144_0)).trans hx144_0
       replace hx144_1 := (HB.out.cell (World.block_lt_of_cell? w _ hx144_1)).trans hx144_1
       replace hx144_2 := (HB.out.cell (World.block_lt_of_cell? w _ hx144_2)).trans hx144_2
       replace hx144_3 := (HB.out.cell (World.block_lt_of_cell? w _ hx144_3)).trans hx144_3
       replace p144 := eq_true p144
       replace q144 := eq_true q144
       go_wp2
       repeat (go_quiet (fail); try go_wp2)
       go_roundg k1
       case measure => have := HK1.out; omega
       case rel => exact ⟨(x13_1), (wrap64 (x14_1 + 1)), (by first | rfl | (simp; done) | (simp [*]; done) | (simp [Int.tdiv_eq_ediv_of_nonneg]; done)), (by first | rfl | (simp; done) | (simp [*]; done) | (simp [Int.tdiv_eq_ediv_of_nonneg]; done)), H', ⟨by have := HK1.out; omega⟩, ⟨by (with_reducible repeat (first | apply Kd.R_alloc | apply Kd.R_drewN | apply Kd.R_drew)); exact HO_10.out⟩, ⟨by (with_reducible repeat (first | apply Kd.R_alloc | apply Kd.R_drewN | apply Kd.R_drew)); exact HO_11.out⟩, ⟨by repeat (first | (with_reducible first | exact HB.out | apply below_alloc | apply pw_below_drewN | apply below_drew1) | exact HB.out)⟩⟩
     ·rw [if_neg c11] at H
      exact absurd H (by simp)
    ·rw [if_neg c10] at H
     have c10b0 : decide (x14_1 < (l0.length : Int)) = false := decide_eq_false c10
     clear c10
     by_cases c13 : (t137.length : Int) = a3
     ·rw [if_pos c13] at H
      have c13b0 : ((t137.length : Int) == a3) = true := beq_iff_eq.mpr c13
      have c13b1 : ((t137.length : Int) != a3) = false := bne_eq_false_iff_eq.mpr c13
      clear c13
      by_cases c14 : (t138.length : Int) = a3
      ·rw [if_pos c14] at H
       have c14b0 : ((t138.length : Int) == a3) = true := beq_iff_eq.mpr c14
       have c14b1 : ((t138.length : Int) != a3) = false := bne_eq_false_iff_eq.mpr c14
       clear c14
       have H' := Aside0.mk H
       clear H
       obtain ⟨Ao15, co15, eo15⟩ := Kd.R_slice HO_10.out
       subst eo15
       obtain ⟨Ao16, co16, eo16⟩ := Kd.R_slice HO_11.out
       subst eo16
       go_wp2
       repeat (go_quiet (fail); try go_wp2)
       go_loopg [15, 16, 17] k1 (fun kq v15 v16 v17 w' => ∃ (x15_2 : Int) (x16_2 : Int) (x17_2 : Int), v15 = .int .i64 x15_2 ∧ v16 = .int .i64 x16_2 ∧ v17 = .int .i64 x17_2 ∧ Aside0 (reevelaw21_BeatMeets.l1 kq a3 t137 t138 x13_1 x15_2 x16_2 x17_2 = some r) ∧ Aside0 (kq ≤ k1) ∧ Aside0 (Kd.R (Kd.int .i64) 3 w' w.heap.size (fun k_ => some k_ ≠ ((.slice Ao16 t138.length co16) : Value).ownBlock) (.slice Ao15 t137.length co15) t137) ∧ Aside0 (Kd.R (Kd.int .i64) 3 w' w.heap.size (fun k_ => some k_ ≠ ((.slice Ao15 t137.length co15) : Value).ownBlock) (.slice Ao16 t138.length co16) t138) ∧ Aside0 (Below w.heap.size w w'))
       case atStart => exact ⟨(0), (0), (0), (by first | rfl | (simp; done) | (simp [*]; done) | (simp [Int.tdiv_eq_ediv_of_nonneg]; done)), (by first | rfl | (simp; done) | (simp [*]; done) | (simp [Int.tdiv_eq_ediv_of_nonneg]; done)), (by first | rfl | (simp; done) | (simp [*]; done) | (simp [Int.tdiv_eq_ediv_of_nonneg]; done)), H', ⟨Nat.le_refl _⟩, ⟨by (with_reducible repeat (first | apply Kd.R_alloc | apply Kd.R_drewN | apply Kd.R_drew)); exact HO_10.out⟩, ⟨by (with_reducible repeat (first | apply Kd.R_alloc | apply Kd.R_drewN | apply Kd.R_drew)); exact HO_11.out⟩, ⟨by repeat (first | (with_reducible first | exact HB.out | apply below_alloc | apply pw_below_drewN | apply below_drew1) | exact HB.out)⟩⟩
       case round =>
        clear H'
        try clear c1
        try clear p1
        try clear q1
        try clear hx1
        try clear p2
        try clear p6
        try clear c7
        try clear c7b0
        try clear c7b1
        try clear c8
        try clear c10
        try clear c10b0
        try clear c11
        try clear c11b0
        try clear c12
        try clear c12b0
        try clear c12b1
        try clear c13
        try clear c13b0
        try clear c13b1
        try clear c14
        try clear c14b0
        try clear c14b1
        try clear p14
        try clear q14
        try clear hx14
        try clear hx144_0
        try clear hx144_1
        try clear hx144_2
        try clear hx144_3
        try clear p144
        try clear p2
        try clear q144
        obtain ⟨x15_2, x16_2, x17_2, rfl, rfl, rfl, HA, HK2, HO_10, HO_11, HB⟩ := hrel
        cases gk with
        | zero => exact absurd HA.out (by simp [reevelaw21_BeatMeets.l1])
        | succ k2 =>
         have H := HA.out
         clear HA
         simp only [reevelaw21_BeatMeets.l1] at H
         by_cases c17 : x17_2 < a3
         ·rw [if_pos c17] at H
          have c17b0 : decide (x17_2 < a3) = true := decide_eq_true c17
          clear c17
          by_cases c18 : 0 ≤ x17_2
          ·rw [if_pos c18] at H
           have c18b0 : decide (0 ≤ x17_2) = true := decide_eq_true c18
           clear c18
           by_cases c19 : x17_2 < (t137.length : Int)
           ·rw [if_pos c19] at H
            have c19b0 : decide (x17_2 < (t137.length : Int)) = true := decide_eq_true c19
            clear c19
            by_cases c20 : x17_2 < (t138.length : Int)
            ·rw [if_pos c20] at H
             have c20b0 : decide (x17_2 < (t138.length : Int)) = true := decide_eq_true c20
             clear c20
             by_cases c21 : (rd t137 x17_2) < 0
             ·rw [if_pos c21] at H
              exact absurd H (by simp)
             ·rw [if_neg c21] at H
              have c21b0 : decide ((rd t137 x17_2) < 0) = false := decide_eq_false c21
              clear c21
              by_cases c22 : (rd t138 x17_2) < 0
              ·rw [if_pos c22] at H
               exact absurd H (by simp)
              ·rw [if_neg c22] at H
               have c22b0 : decide ((rd t138 x17_2) < 0) = false := decide_eq_false c22
               clear c22
               by_cases c23 : 0 < (t138.length : Int)
               ·rw [if_pos c23] at H
                have c23b0 : decide (0 < (t138.length : Int)) = true := decide_eq_true c23
                have c23b1 : decide (0 < t138.length) = true := decide_eq_true (by omega)
                clear c23
                by_cases c24 : (rd t138 x17_2) > (rd t138 0)
                ·rw [if_pos c24] at H
                 exact absurd H (by simp)
                ·rw [if_neg c24] at H
                 have c24b0 : decide ((rd t138 0) < (rd t138 x17_2)) = false := decide_eq_false c24
                 clear c24
                 by_cases c25 : a3 = 0
                 ·rw [if_pos c25] at H
                  exact absurd H (by simp)
                 ·rw [if_neg c25] at H
                  have c25b0 : (a3 == 0) = false := beq_eq_false_iff_ne.mpr c25
                  have c25b1 : (a3 != 0) = true := bne_iff_ne.mpr c25
                  obtain ⟨ji26, hji26⟩ : ∃ j_ : Int, (Int.tmod (wrap64 (a3 - x17_2)) a3) = j_ := ⟨_, rfl⟩
                  replace H : (if 0 ≤ (ji26) then (if (ji26) < (t138.length : Int) then (if (rd t138 x17_2) = (rd t138 (ji26)) then (reevelaw21_BeatMeets.l1 k2 a3 t137 t138 x13_1 (wrap64 (x15_2 + (rd t137 x17_2))) (wrap64 (x16_2 + (rd t138 x17_2))) (wrap64 (x17_2 + 1))) else (none)) else (none)) else (none)) = some r := by first | (rw [hji26] at H; exact H) | (simp only [hji26] at H ⊢; exact H)
                  by_cases c27 : 0 ≤ (ji26)
                  ·rw [if_pos c27] at H
                   have c27b0 : decide (0 ≤ (ji26)) = true := decide_eq_true c27
                   clear c27
                   by_cases c28 : (ji26) < (t138.length : Int)
                   ·rw [if_pos c28] at H
                    have c28b0 : decide ((ji26) < (t138.length : Int)) = true := decide_eq_true c28
                    clear c28
                    by_cases c29 : (rd t138 x17_2) = (rd t138 (ji26))
                    ·rw [if_pos c29] at H
                     have c29b0 : ((rd t138 x17_2) == (rd t138 (ji26))) = true := beq_iff_eq.mpr c29
                     have c29b1 : ((rd t138 x17_2) != (rd t138 (ji26))) = false := bne_eq_false_iff_eq.mpr c29
                     clear c29
                     have H' := Aside0.mk H
                     clear H
                     have p145 : 0 ≤ (x17_2 : Int) := of_decide_eq_true (by first | (with_reducible assumption) | assumption)
                     have q145 : x17_2 < (t137.length : Int) := of_decide_eq_true (by first | (with_reducible assumption) | assumption)
                     obtain ⟨ad145, e145, hx145_0⟩ := Kd.at_int (Kd.R_reads' HO_10.out).2.2 x17_2 p145 q145
                     cases e145
                     replace p145 := eq_true p145
                     replace q145 := eq_true q145
                     have p146 : 0 ≤ (x17_2 : Int) := of_decide_eq_true (by first | (with_reducible assumption) | assumption)
                     have q146 : x17_2 < (t138.length : Int) := of_decide_eq_true (by first | (with_reducible assumption) | assumption)
                     obtain ⟨ad146, e146, hx146_0⟩ := Kd.at_int (Kd.R_reads' HO_11.out).2.2 x17_2 p146 q146
                     cases e146
                     replace p146 := eq_true p146
                     replace q146 := eq_true q146
                     have p147 : 0 ≤ (x17_2 : Int) := of_decide_eq_true (by first | (with_reducible assumption) | assumption)
                     have q147 : x17_2 < (t137.length : Int) := of_decide_eq_true (by first | (with_reducible assumption) | assumption)
                     obtain ⟨ad147, e147, hx147_0⟩ := Kd.at_int (Kd.R_reads' HO_10.out).2.2 x17_2 p147 q147
                     obtain rfl : ad145 = ad147 := (by injection e147)
                     replace p147 := eq_true p147
                     replace q147 := eq_true q147
                     have p148 : 0 ≤ (x17_2 : Int) := of_decide_eq_true (by first | (with_reducible assumption) | assumption)
                     have q148 : x17_2 < (t138.length : Int) := of_decide_eq_true (by first | (with_reducible assumption) | assumption)
                     obtain ⟨ad148, e148, hx148_0⟩ := Kd.at_int (Kd.R_reads' HO_11.out).2.2 x17_2 p148 q148
                     obtain rfl : ad146 = ad148 := (by injection e148)
                     replace p148 := eq_true p148
                     replace q148 := eq_true q148
                     have p149 : 0 ≤ (x17_2 : Int) := of_decide_eq_true (by first | (with_reducible assumption) | assumption)
                     have q149 : x17_2 < (t138.length : Int) := of_decide_eq_true (by first | (with_reducible assumption) | assumption)
                     obtain ⟨ad149, e149, hx149_0⟩ := Kd.at_int (Kd.R_reads' HO_11.out).2.2 x17_2 p149 q149
                     obtain rfl : ad146 = ad149 := (by injection e149)
                     replace p149 := eq_true p149
                     replace q149 := eq_true q149
                     have p150 : 0 ≤ (0 : Int) := (by omega)
                     have q150 : 0 < (t138.length : Int) := of_decide_eq_true (by first | (with_reducible assumption) | assumption)
                     obtain ⟨ad150, e150, hx150_0⟩ := Kd.at_int (Kd.R_reads' HO_11.out).2.2 0 p150 q150
                     obtain rfl : ad146 = ad150 := (by injection e150)
                     have qi150 : (0 < t138.length) = True := eq_true (by omega)
                     (try rw [show ((0 : Int)).toNat = 0 from rfl] at hx150_0)
                     (try rw [Addr.add_zero'] at hx150_0)
                     replace p150 := eq_true p150
                     replace q150 := eq_true q150
                     have p151 : 0 ≤ (x17_2 : Int) := of_decide_eq_true (by first | (with_reducible assumption) | assumption)
                     have q151 : x17_2 < (t138.length : Int) := of_decide_eq_true (by first | (with_reducible assumption) | assumption)
                     obtain ⟨ad151, e151, hx151_0⟩ := Kd.at_int (Kd.R_reads' HO_11.out).2.2 x17_2 p151 q151
                     obtain rfl : ad146 = ad151 := (by injection e151)
                     replace p151 := eq_true p151
                     replace q151 := eq_true q151
                     have p152 : 0 ≤ ((ji26) : Int) := of_decide_eq_true (by first | (with_reducible assumption) | assumption)
                     have q152 : (ji26) < (t138.length : Int) := of_decide_eq_true (by first | (with_reducible assumption) | assumption)
                     obtain ⟨ad152, e152, hx152_0⟩ := Kd.at_int (Kd.R_reads' HO_11.out).2.2 (ji26) p152 q152
                     obtain rfl : ad146 = ad152 := (by injection e152)
                     replace p152 := eq_true p152
                     replace q152 := eq_true q152
                     go_wp2
                     repeat (go_quiet (fail); try go_wp2)
                     go_roundg k2
                     case measure => have := HK1.out; have := HK2.out; omega
                     case rel => exact ⟨(wrap64 (x15_2 + (rd t137 x17_2))), (wrap64 (x16_2 + (rd t138 x17_2))), (wrap64 (x17_2 + 1)), (by first | rfl | (simp; done) | (simp [*]; done) | (simp [Int.tdiv_eq_ediv_of_nonneg]; done)), (by first | rfl | (simp; done) | (simp [*]; done) | (simp [Int.tdiv_eq_ediv_of_nonneg]; done)), (by first | rfl | (simp; done) | (simp [*]; done) | (simp [Int.tdiv_eq_ediv_of_nonneg]; done)), H', ⟨by have := HK1.out; have := HK2.out; omega⟩, ⟨by (with_reducible repeat (first | apply Kd.R_alloc | apply Kd.R_drewN | apply Kd.R_drew)); exact HO_10.out⟩, ⟨by (with_reducible repeat (first | apply Kd.R_alloc | apply Kd.R_drewN | apply Kd.R_drew)); exact HO_11.out⟩, ⟨by repeat (first | (with_reducible first | exact HB.out | apply below_alloc | apply pw_below_drewN | apply below_drew1) | exact HB.out)⟩⟩
                    ·rw [if_neg c29] at H
                     exact absurd H (by simp)
                   ·rw [if_neg c28] at H
                    exact absurd H (by simp)
                  ·rw [if_neg c27] at H
                   exact absurd H (by simp)
               ·rw [if_neg c23] at H
                exact absurd H (by simp)
            ·rw [if_neg c20] at H
             exact absurd H (by simp)
           ·rw [if_neg c19] at H
            exact absurd H (by simp)
          ·rw [if_neg c18] at H
           exact absurd H (by simp)
         ·rw [if_neg c17] at H
          have c17b0 : decide (x17_2 < a3) = false := decide_eq_false c17
          clear c17
          by_cases c30 : x15_2 = x13_1
          ·rw [if_pos c30] at H
           have c30b0 : (x15_2 == x13_1) = true := beq_iff_eq.mpr c30
           have c30b1 : (x15_2 != x13_1) = false := bne_eq_false_iff_eq.mpr c30
           clear c30
           obtain rfl := Option.some.inj H
           go_wp2
           repeat (go_quiet (fail); try go_wp2)
           go_ret
           exact ⟨by first | rfl | (simp [errW_none, errW_some] <;> rfl) | (simp [*, errW_none, errW_some] <;> rfl), by repeat (first | (with_reducible first | exact HB.out | apply below_alloc | apply pw_below_drewN | apply below_drew1) | exact HB.out)⟩
          ·rw [if_neg c30] at H
           exact absurd H (by simp)
      ·rw [if_neg c14] at H
       exact absurd H (by simp)
     ·rw [if_neg c13] at H
      exact absurd H (by simp)
 ·rw [if_neg c7] at H
  have c7b0 : (t139 == 0) = false := beq_eq_false_iff_ne.mpr c7
  have c7b1 : (t139 != 0) = true := bne_iff_ne.mpr c7
  obtain rfl := Option.some.inj H
  go_enter Try.func8, Try.ntmps8
  go_wp2_with (first | (go_at_call 10; (with_reducible refine (awake_ok.calls   _ A5.out).mono ?_); rintro e w31 ⟨rfl, hb⟩; have n0_ := Aside0.mk (below_step (by repeat (first | (with_reducible first | exact HB.out | apply below_alloc | apply pw_below_drewN | apply below_drew1) | exact HB.out)) hb); clear HB; have HB := n0_; clear n0_; (try clear hb); (try clear hb2); (try clear hk); (try clear hi)) | (go_at_call 27; (with_reducible refine (beats_ok.calls _ _ l0 a1 a2 a3 t137 t138 t139 _ ?side1 ?side2 A6.out).mono ?_); (case side1 => repeat (first | exact (Kd.C_below HR0.out HB.out) | (with_reducible refine Kd.C_alloc ?_ _) | (with_reducible refine Kd.C_drewN ?_ _) | (with_reducible refine Kd.C_drew ?_))); (case side2 => exact HC0.out); rintro e w32 ⟨v140, v142, rfl, ho0, ho1, hb⟩; have n0_ := Aside0.mk (Kd.R_lower ho0 (below_size (by repeat (first | (with_reducible first | exact HB.out | apply below_alloc | apply pw_below_drewN | apply below_drew1) | exact HB.out)))); have n1_ := Aside0.mk (Kd.R_lower ho1 (below_size (by repeat (first | (with_reducible first | exact HB.out | apply below_alloc | apply pw_below_drewN | apply below_drew1) | exact HB.out)))); have n2_ := Aside0.mk (below_step (by repeat (first | (with_reducible first | exact HB.out | apply below_alloc | apply pw_below_drewN | apply below_drew1) | exact HB.out)) hb); clear HB; have HO141 := n0_; have HO143 := n1_; have HB := n2_; clear n0_ n1_ n2_; (try clear hb); (try clear hb2); (try clear hk); (try clear hi); (try clear ho0); (try clear ho1)))
  repeat (go_quiet (first | (go_at_call 10; (with_reducible refine (awake_ok.calls   _ A5.out).mono ?_); rintro e w31 ⟨rfl, hb⟩; have n0_ := Aside0.mk (below_step (by repeat (first | (with_reducible first | exact HB.out | apply below_alloc | apply pw_below_drewN | apply below_drew1) | exact HB.out)) hb); clear HB; have HB := n0_; clear n0_; (try clear hb); (try clear hb2); (try clear hk); (try clear hi)) | (go_at_call 27; (with_reducible refine (beats_ok.calls _ _ l0 a1 a2 a3 t137 t138 t139 _ ?side1 ?side2 A6.out).mono ?_); (case side1 => repeat (first | exact (Kd.C_below HR0.out HB.out) | (with_reducible refine Kd.C_alloc ?_ _) | (with_reducible refine Kd.C_drewN ?_ _) | (with_reducible refine Kd.C_drew ?_))); (case side2 => exact HC0.out); rintro e w32 ⟨v140, v142, rfl, ho0, ho1, hb⟩; have n0_ := Aside0.mk (Kd.R_lower ho0 (below_size (by repeat (first | (with_reducible first | exact HB.out | apply below_alloc | apply pw_below_drewN | apply below_drew1) | exact HB.out)))); have n1_ := Aside0.mk (Kd.R_lower ho1 (below_size (by repeat (first | (with_reducible first | exact HB.out | apply below_alloc | apply pw_below_drewN | apply below_drew1) | exact HB.out)))); have n2_ := Aside0.mk (below_step (by repeat (first | (with_reducible first | exact HB.out | apply below_alloc | apply pw_below_drewN | apply below_drew1) | exact HB.out)) hb); clear HB; have HO141 := n0_; have HO143 := n1_; have HB := n2_; clear n0_ n1_ n2_; (try clear hb); (try clear hb2); (try clear hk); (try clear hi); (try clear ho0); (try clear ho1))); try go_wp2_with (first | (go_at_call 10; (with_reducible refine (awake_ok.calls   _ A5.out).mono ?_); rintro e w31 ⟨rfl, hb⟩; have n0_ := Aside0.mk (below_step (by repeat (first | (with_reducible first | exact HB.out | apply below_alloc | apply pw_below_drewN | apply below_drew1) | exact HB.out)) hb); clear HB; have HB := n0_; clear n0_; (try clear hb); (try clear hb2); (try clear hk); (try clear hi)) | (go_at_call 27; (with_reducible refine (beats_ok.calls _ _ l0 a1 a2 a3 t137 t138 t139 _ ?side1 ?side2 A6.out).mono ?_); (case side1 => repeat (first | exact (Kd.C_below HR0.out HB.out) | (with_reducible refine Kd.C_alloc ?_ _) | (with_reducible refine Kd.C_drewN ?_ _) | (with_reducible refine Kd.C_drew ?_))); (case side2 => exact HC0.out); rintro e w32 ⟨v140, v142, rfl, ho0, ho1, hb⟩; have n0_ := Aside0.mk (Kd.R_lower ho0 (below_size (by repeat (first | (with_reducible first | exact HB.out | apply below_alloc | apply pw_below_drewN | apply below_drew1) | exact HB.out)))); have n1_ := Aside0.mk (Kd.R_lower ho1 (below_size (by repeat (first | (with_reducible first | exact HB.out | apply below_alloc | apply pw_below_drewN | apply below_drew1) | exact HB.out)))); have n2_ := Aside0.mk (below_step (by repeat (first | (with_reducible first | exact HB.out | apply below_alloc | apply pw_below_drewN | apply below_drew1) | exact HB.out)) hb); clear HB; have HO141 := n0_; have HO143 := n1_; have HB := n2_; clear n0_ n1_ n2_; (try clear hb); (try clear hb2); (try clear hk); (try clear hi); (try clear ho0); (try clear ho1))))
  go_ret
  exact ⟨by first | rfl | (simp [errW_none, errW_some] <;> rfl) | (simp [*, errW_none, errW_some] <;> rfl), by repeat (first | (with_reducible first | exact HB.out | apply below_alloc | apply pw_below_drewN | apply below_drew1) | exact HB.out)⟩

end Go.Proofs.YtkilnknndglmnaaM
end

section
/- The law of how phases meet, told plainly. -/
namespace Go.Proofs.YtkilnknndglmnaaP
open Go.RowKit Go.Proofs.Ytkilnknndglmnaa Go.Proofs.YtkilnknndglmnaaW.PrintWords

theorem sN_shift {n a : Nat} (ha : a ≤ n) (f : Nat → Nat) : sN n (fun i => f ((i + a) % n)) = sN n f := by
  have h := sm_shift ha (fun i => (⟨(f i : Nat), 0⟩ : G))
  rw [sm_sN n f, sm_sN n (fun i => f ((i + a) % n))] at h
  have := congrArg G.re h
  simp only at this
  omega
theorem sN_swap (n m : Nat) (f : Nat → Nat → Nat) : sN n (fun i => sN m (fun j => f i j)) = sN m (fun j => sN n (fun i => f i j)) := by
  induction n with
  | zero => exact (sN_zero m).symm
  | succ n ih =>
    simp only [sN]
    rw [ih, ← sN_add]
theorem mt_ngm (r : Nat → Nat) {n i : Nat} (hi : i < n) : mt r n (ngm n i) = mt r n i := by
  unfold mt
  rw [← sN_shift (a := i) (by omega)]
  refine sN_congr fun q hq => ?_
  have e : ((q + i) % n + ngm n i) % n = q := by
    rw [← ngm_mod hi, Nat.add_mod_mod, Nat.mod_add_mod, show q + i + (n - i) = q + n by omega, Nat.add_mod_right, Nat.mod_eq_of_lt hq]
  show r ((q + i) % n) * r (((q + i) % n + ngm n i) % n) = _
  rw [e, Nat.mul_comm]
theorem two_le (a b : Nat) : 2 * (a * b) ≤ a * a + b * b := by
  rcases Nat.le_total a b with h | h
  · obtain ⟨c, rfl⟩ := Nat.exists_eq_add_of_le h
    have := Nat.mul_comm a c
    simp only [Nat.mul_add, Nat.add_mul]
    omega
  · obtain ⟨c, rfl⟩ := Nat.exists_eq_add_of_le h
    have := Nat.mul_comm b c
    simp only [Nat.mul_add, Nat.add_mul]
    omega
theorem mt_zero (r : Nat → Nat) (n : Nat) : mt r n 0 = sN n fun q => r q * r q := by
  unfold mt
  refine sN_congr fun q hq => ?_
  rw [Nat.add_zero, Nat.mod_eq_of_lt hq]
theorem mt_most (r : Nat → Nat) {n i : Nat} (hi : i < n) : mt r n i ≤ mt r n 0 := by
  have h : sN n (fun q => 2 * (r q * r ((q + i) % n))) ≤ sN n fun q => r q * r q + r ((q + i) % n) * r ((q + i) % n) := sN_le fun q _ => two_le _ _
  rw [sN_add, sN_shift (a := i) (by omega) (fun q => r q * r q)] at h
  have h2 : sN n (fun q => 2 * (r q * r ((q + i) % n))) = 2 * mt r n i := by
    unfold mt
    rw [Nat.mul_comm, ← sN_mul]
    exact sN_congr fun q _ => Nat.mul_comm _ _
  rw [mt_zero]
  omega
theorem mt_sum (r : Nat → Nat) (n : Nat) : sN n (mt r n) = sN n r * sN n r := by
  show sN n (fun i => sN n fun q => r q * r ((q + i) % n)) = _
  rw [sN_swap, ← sN_mul]
  refine sN_congr fun q hq => ?_
  have h : sN n (fun i => r q * r ((q + i) % n)) = sN n (fun i => r ((i + q) % n)) * r q := by
    rw [← sN_mul]
    refine sN_congr fun i _ => ?_
    rw [Nat.add_comm q i, Nat.mul_comm]
  rw [h, sN_shift (by omega), Nat.mul_comm]
theorem rd_meetsL (l : List S49) (v : Int) (w : Nat) {n p : Nat} (hp : p < n) : rd (meetsL l v w n) (p : Int) = (mt (cnt l v w n) n p : Int) := by simp [rd, meetsL, hp]
theorem meetsL_len (l : List S49) (v : Int) (w n : Nat) : (meetsL l v w n).length = n := by simp [meetsL]
theorem many_take (l : List S49) (v : Int) {i : Nat} (h : i < l.length) : many (l.take (i + 1)) v = many (l.take i) v + if l[i].f3 = v then 1 else 0 := by
  unfold many
  rw [List.take_succ_eq_append_getElem h, List.countP_append]
  by_cases c : l[i].f3 = v
  · simp [c]
  · simp [c]
theorem sN_part {n i : Nat} (h : i ≤ n) (f : Nat → Nat) : sN i f ≤ sN n f := by
  induction n with
  | zero => rw [show i = 0 by omega]; exact Nat.le_refl _
  | succ n ih =>
    rcases Nat.lt_or_ge n i with h2 | h2
    · rw [show i = n + 1 by omega]; exact Nat.le_refl _
    · exact Nat.le_trans (ih h2) (Nat.le_add_right _ _)
theorem many_le (l : List S49) (v : Int) : many l v ≤ l.length := List.countP_le_length
theorem meets_end (l : List S49) (v : Int) (w n : Nat) (hl : l.length ≤ 4000) (h1 : 1 ≤ n) (h2 : n ≤ 32) : ∀ (d i : Nat), n - i = d → i ≤ n →
    Ev (fun k => YtkilnknndglmnaaM.reevelaw21_BeatMeets.l1 k (n : Int) (rowL l v w n) (meetsL l v w n) (many l v : Int) (sN i (cnt l v w n) : Int) (sN i (mt (cnt l v w n) n) : Int) (i : Int)) true := by
  have hm := many_le l v
  have hs := cnt_sum l v w (n := n) (by omega)
  have hmm := mt_sum (cnt l v w n) n
  rw [hs] at hmm
  have hmul : many l v * many l v ≤ 4000 * 4000 := Nat.mul_le_mul (by omega) (by omega)
  intro d
  induction d with
  | zero =>
    intro i hd hi
    have ei : i = n := by omega
    subst ei
    refine ev_now fun k => ?_
    simp only [YtkilnknndglmnaaM.reevelaw21_BeatMeets.l1]
    rw [if_neg (by omega), hs, if_pos rfl, hmm]
    have e : wrap64 ((many l v : Int) * (many l v : Int)) = ((many l v * many l v : Nat) : Int) := by
      rw [← Int.natCast_mul]
      generalize many l v * many l v = q at hmul
      exact w64 (by omega) (by omega)
    rw [e, beq_self_eq_true]
  | succ d ih =>
    intro i hd hi
    have hi2 : i < n := by omega
    have p1 := sN_part (n := n) (i := i + 1) (by omega) (cnt l v w n)
    have p2 := sN_part (n := n) (i := i + 1) (by omega) (mt (cnt l v w n) n)
    rw [hs] at p1
    rw [hmm] at p2
    refine Ev.step (fun k => ?_) (ih (i + 1) (by omega) (by omega))
    have most := mt_most (cnt l v w n) hi2
    have rm0 : rd (meetsL l v w n) 0 = (mt (cnt l v w n) n 0 : Int) := rd_meetsL l v w (p := 0) (by omega)
    have e1 : wrap64 ((sN i (cnt l v w n) : Int) + (cnt l v w n i : Int)) = (sN (i + 1) (cnt l v w n) : Int) := by
      simp only [sN] at p1 ⊢
      exact (w64 (by omega) (by omega)).trans (by omega)
    have e2 : wrap64 ((sN i (mt (cnt l v w n) n) : Int) + (mt (cnt l v w n) n i : Int)) = (sN (i + 1) (mt (cnt l v w n) n) : Int) := by
      simp only [sN] at p2 ⊢
      generalize many l v * many l v = q at p2 hmul
      exact (w64 (by omega) (by omega)).trans (by omega)
    have hng := ngm_lt hi2
    simp only [YtkilnknndglmnaaM.reevelaw21_BeatMeets.l1]
    rw [rd_rowL _ _ _ hi2, rd_meetsL _ _ _ hi2, rm0, rowL_len, meetsL_len, if_pos (by omega), if_pos (by omega), if_pos (by omega), if_pos (by omega), if_neg (by omega), if_neg (by omega), if_pos (by omega), if_neg (by omega), if_neg (by omega), ngm_int hi2 (by omega), if_pos (by omega), if_pos (by omega), rd_meetsL _ _ _ hng, mt_ngm _ hi2, if_pos rfl, e1, e2, w64 (x := (i : Int) + 1) (by omega) (by omega)]
    rfl
theorem meets_count (l : List S49) (v : Int) (w n : Nat) (hl : l.length ≤ 4000) (h1 : 1 ≤ n) (h2 : n ≤ 32) : ∀ (d i : Nat), l.length - i = d → i ≤ l.length →
    Ev (fun k => YtkilnknndglmnaaM.reevelaw21_BeatMeets.l0 k l v (n : Int) (rowL l v w n) (meetsL l v w n) (many (l.take i) v : Int) (i : Int)) true := by
  intro d
  induction d with
  | zero =>
    intro i hd hi
    have ei : i = l.length := by omega
    subst ei
    rw [List.take_length]
    refine Ev.step (fun k => ?_) (meets_end l v w n hl h1 h2 _ 0 rfl (by omega))
    simp only [YtkilnknndglmnaaM.reevelaw21_BeatMeets.l0]
    rw [if_neg (by omega), rowL_len, meetsL_len, if_pos rfl, if_pos rfl]
    rfl
  | succ d ih =>
    intro i hd hi
    have hi2 : i < l.length := by omega
    have hrd : rd_T49 l (i : Int) = l[i] := by simp [rd_T49, hi2]
    have ht := many_take l v hi2
    have hm := many_le (l.take i) v
    rw [List.length_take] at hm
    refine Ev.step (fun k => ?_) (ih (i + 1) (by omega) (by omega))
    simp only [YtkilnknndglmnaaM.reevelaw21_BeatMeets.l0]
    rw [if_pos (by omega), if_pos (by omega), hrd, ht, w64 (x := (i : Int) + 1) (by omega) (by omega)]
    by_cases c : l[i].f3 = v
    · rw [if_pos c, if_pos c, w64 (x := (many (l.take i) v : Int) + 1) (by omega) (by omega)]
      rfl
    · rw [if_neg c, if_neg c]
      rfl
theorem meets_pure (l : List S49) (v w n : Int) : Ev (fun k => YtkilnknndglmnaaM.reevelaw21_BeatMeets.f k l v w n) true := by
  by_cases h0 : beatsE l v w n = 0
  · have hE := h0
    unfold beatsE at hE
    split at hE
    · exact absurd hE (by decide)
    rename_i c1
    split at hE
    · exact absurd hE (by decide)
    split at hE
    · exact absurd hE (by decide)
    rename_i c3
    rw [Bool.not_eq_false] at c3
    unfold lenI at c3
    rw [Bool.and_eq_true, decide_eq_true_iff] at c3
    obtain ⟨hn, hb⟩ := c3
    have hs := len_small (lenB_iff.1 hb)
    obtain ⟨m, rfl⟩ : ∃ m : Nat, n = (m : Int) := ⟨n.toNat, by omega⟩
    rw [Int.toNat_natCast] at hs
    refine Ev.congr (fun k => ?_) (meets_count l v w.toNat m (by omega) hs.1 hs.2 _ 0 rfl (by omega))
    unfold YtkilnknndglmnaaM.reevelaw21_BeatMeets.f awake_ok.f beats_ok.f beatsP
    rw [if_pos h0, Int.toNat_natCast]
    simp only [Option.bind_some, if_true, List.take_zero]
    rfl
  · refine ev_now fun k => ?_
    unfold YtkilnknndglmnaaM.reevelaw21_BeatMeets.f awake_ok.f beats_ok.f beatsP
    rw [if_neg h0]
    simp only [Option.bind_some]
    rw [if_neg h0]
theorem meets_call (A0 : Option Addr) (c0 : Nat) (l0 : List S49) (a1 a2 a3 : Int) (w : World) (h0 : Kd.C k49 w A0 l0.length l0) (g0 : l0.length ≤ c0) :
    Calls Try.prog 8 #[.slice A0 l0.length c0, .int .i64 a1, .int .i64 a2, .int .i64 a3] w fun e w' => e = .returned (.bool true) ∧ Below w.heap.size w w' := by
  obtain ⟨k, hk⟩ := (meets_pure l0 a1 a2 a3).rounds
  exact YtkilnknndglmnaaM.reevelaw21_BeatMeets.calls k A0 c0 l0 a1 a2 a3 true w h0 g0 hk

#print axioms meets_call
end Go.Proofs.YtkilnknndglmnaaP
end
