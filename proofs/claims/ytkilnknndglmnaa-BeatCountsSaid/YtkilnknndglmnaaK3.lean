/- What the laws of layer 21 share, part 3. -/
import Derived.WalkKit
import Derived.Below
import Derived.ChangeSame
import Derived.ProofKit
import Derived.OpenShut
import Derived.Lib.SmallJoins
import Derived.Deep.Fields
import Derived.Deep.Slices
import Derived.Carry
import Derived.Test.YtkilnknndglmnaaK2
import Derived.Test.YtkilnknndglmnaaRows

section
-- Laid by given.py, a program of this seat, with the kit's printer.
namespace Go.Proofs.YtkilnknndglmnaaP
open Go.Proofs.Ytkilnknndglmnaa (G fl IsS isSB okC okF okC_iff encC kcx at_cx md red run_cmul run_cadd run_csub run_fint lit_one lit_zero tdiv_32 run_store_cx)
attribute [local go_sem] run_cmul run_cadd run_csub run_fint lit_one lit_zero tdiv_32 run_store_cx
open Go.RowKit Go.Proofs.YtkilnknndglmnaaW.PrintWords Go.Proofs.YtkilnknndglmnaaW.PrintLast Go.Proofs.YtkilnknndglmnaaW.PrintMore
attribute [local go_sem] max2_int min2_int max_two min_two max_three min_three max_four min_four   -- for this text's walks alone
set_option linter.unusedVariables false
set_option linter.unusedSimpArgs false

/-! ### beat_Beats: function 27 -/
mutual
def beat_Beats.j0 : Nat → List (S49) → Int → Int → Int → Bool → Option (List Int × List Int × Int)
 | 0, _, _, _, _, _ => none
 | k + 1, x0, x1, x2, x3, x28 => if x28 = true then (some (([] : List Int), ([] : List Int), 1)) else ((beat_turns.f x3).bind fun t214 => (if t214 = true then ((api_Record_49.f x0).bind fun t215 => (if t215 = true then (some (([] : List Int), ([] : List Int), 1)) else (if 0 ≤ x3 then (if (x3 : Int).toNat ≤ 35184372088832 then (beat_Beats.l0 k x1 x2 x3 (List.replicate (x3 : Int).toNat 0) x0 (x0.length : Int) 0) else (none)) else (none)))) else (some (([] : List Int), ([] : List Int), 210))))
def beat_Beats.l0 : Nat → Int → Int → Int → List Int → List (S49) → Int → Int → Option (List Int × List Int × Int)
 | 0, _, _, _, _, _, _, _ => none
 | k + 1, x1, x2, x3, x12, x53, x54, x55 => if x55 < x54 then (if 0 ≤ x55 then (if x55 < (x53.length : Int) then (if ((rd_T49 x53 x55).f3) = x1 then (if x2 = 0 then (none) else (if x3 = 0 then (none) else (if 0 ≤ (Int.tmod (wrap64 (Int.tdiv ((rd_T49 x53 x55).f0) x2)) x3) then (if (Int.tmod (wrap64 (Int.tdiv ((rd_T49 x53 x55).f0) x2)) x3) < (x12.length : Int) then (beat_Beats.l0 k x1 x2 x3 (x12.set ((Int.tmod (wrap64 (Int.tdiv ((rd_T49 x53 x55).f0) x2)) x3) : Int).toNat (wrap64 ((rd x12 (Int.tmod (wrap64 (Int.tdiv ((rd_T49 x53 x55).f0) x2)) x3)) + 1))) x53 x54 (wrap64 (x55 + 1))) else (none)) else (none)))) else (beat_Beats.l0 k x1 x2 x3 x12 x53 x54 (wrap64 (x55 + 1)))) else (none)) else (none)) else (if 0 ≤ x3 then (if (x3 : Int).toNat ≤ 17592186044416 then (beat_Beats.l1 k x3 x12 (List.replicate (x3 : Int).toNat z26) (List.replicate (x3 : Int).toNat z26) x12 (x12.length : Int) 0) else (none)) else (none))
def beat_Beats.l1 : Nat → Int → List Int → List (S26) → List (S26) → List Int → Int → Int → Option (List Int × List Int × Int)
 | 0, _, _, _, _, _, _, _ => none
 | k + 1, x3, x12, x15, x16, x79, x80, x81 => if x81 < x80 then (if 0 ≤ x81 then (if x81 < (x79.length : Int) then (if x3 = 0 then (none) else (if x81 < (x15.length : Int) then (if 0 ≤ (Int.tmod (wrap64 (x3 - x81)) x3) then (if (Int.tmod (wrap64 (x3 - x81)) x3) < (x16.length : Int) then (beat_Beats.l1 k x3 x12 (x15.set (x81 : Int).toNat (⟨rd x79 x81, (rd_T26 x15 x81).f1⟩ : S26)) (x16.set ((Int.tmod (wrap64 (x3 - x81)) x3) : Int).toNat (⟨rd x79 x81, (rd_T26 x16 (Int.tmod (wrap64 (x3 - x81)) x3)).f1⟩ : S26)) x79 x80 (wrap64 (x81 + 1))) else (none)) else (none)) else (none))) else (none)) else (none)) else ((beat_Round.f k x15 x16).bind fun bt232 => (if bt232.2 = 0 then (if 0 ≤ x3 then (if (x3 : Int).toNat ≤ 35184372088832 then (beat_Beats.l2 k x3 x12 (List.replicate (x3 : Int).toNat 0) bt232.1 (bt232.1.length : Int) 0) else (none)) else (none)) else (some (([] : List Int), ([] : List Int), bt232.2))))
def beat_Beats.l2 : Nat → Int → List Int → List Int → List (S26) → Int → Int → Option (List Int × List Int × Int)
 | 0, _, _, _, _, _, _ => none
 | k + 1, x3, x12, x21, x112, x113, x114 => if x114 < x113 then (if 0 ≤ x114 then (if x114 < (x112.length : Int) then (if x3 = 0 then (none) else (if 0 ≤ (Int.tmod (wrap64 (x3 - x114)) x3) then (if (Int.tmod (wrap64 (x3 - x114)) x3) < (x21.length : Int) then (beat_Beats.l2 k x3 x12 (x21.set ((Int.tmod (wrap64 (x3 - x114)) x3) : Int).toNat ((rd_T26 x112 x114).f0)) x112 x113 (wrap64 (x114 + 1))) else (none)) else (none))) else (none)) else (none)) else (some (x12, x21, 0))
end
def beat_Beats.f (k : Nat) (l0 : List (S49)) (a1 : Int) (a2 : Int) (a3 : Int) : Option (List Int × List Int × Int) := if (l0.length : Int) > 4000 then (some (([] : List Int), ([] : List Int), 2)) else (if a1 < 0 then (beat_Beats.j0 k l0 a1 a2 a3 true) else (if a1 > 2 then (beat_Beats.j0 k l0 a1 a2 a3 true) else (if a2 < 1 then (beat_Beats.j0 k l0 a1 a2 a3 true) else (beat_Beats.j0 k l0 a1 a2 a3 (decide (a2 > 1048576))))))
theorem beat_Beats.mono_l : ∀ k, (∀ y0 y1 y2 y3 y4, LeO (beat_Beats.j0 k y0 y1 y2 y3 y4) (beat_Beats.j0 (k + 1) y0 y1 y2 y3 y4)) ∧ (∀ y0 y1 y2 y3 y4 y5 y6, LeO (beat_Beats.l0 k y0 y1 y2 y3 y4 y5 y6) (beat_Beats.l0 (k + 1) y0 y1 y2 y3 y4 y5 y6)) ∧ (∀ y0 y1 y2 y3 y4 y5 y6, LeO (beat_Beats.l1 k y0 y1 y2 y3 y4 y5 y6) (beat_Beats.l1 (k + 1) y0 y1 y2 y3 y4 y5 y6)) ∧ (∀ y0 y1 y2 y3 y4 y5, LeO (beat_Beats.l2 k y0 y1 y2 y3 y4 y5) (beat_Beats.l2 (k + 1) y0 y1 y2 y3 y4 y5))
 | 0 => ⟨fun _ _ _ _ _ r h => by simp [beat_Beats.j0] at h, fun _ _ _ _ _ _ _ r h => by simp [beat_Beats.l0] at h, fun _ _ _ _ _ _ _ r h => by simp [beat_Beats.l1] at h, fun _ _ _ _ _ _ r h => by simp [beat_Beats.l2] at h⟩
 | k + 1 => by
  obtain ⟨ih0, ih1, ih2, ih3⟩ := beat_Beats.mono_l k
  refine ⟨?_, ?_, ?_, ?_⟩
  ·intro y0 y1 y2 y3 y4
   unfold beat_Beats.j0
   repeat' first
   | (with_reducible exact ih0 _ _ _ _ _)
   | (with_reducible exact ih1 _ _ _ _ _ _ _)
   | (with_reducible exact ih2 _ _ _ _ _ _ _)
   | (with_reducible exact ih3 _ _ _ _ _ _)
   | (with_reducible exact beat_Round.mono _ _ _)
   | (with_reducible exact LeO.refl _)
   | (with_reducible exact LeO.none _)
   | (with_reducible refine LeO.ite ?_ ?_)
   | (with_reducible refine LeO.bind ?_ (fun _ => ?_))
   | exact ih0 _ _ _ _ _
   | exact ih1 _ _ _ _ _ _ _
   | exact ih2 _ _ _ _ _ _ _
   | exact ih3 _ _ _ _ _ _
   | exact beat_Round.mono _ _ _
   | exact LeO.none _
   | refine LeO.ite ?_ ?_
   | refine LeO.bind ?_ (fun _ => ?_)
  ·intro y0 y1 y2 y3 y4 y5 y6
   unfold beat_Beats.l0
   repeat' first
   | (with_reducible exact ih0 _ _ _ _ _)
   | (with_reducible exact ih1 _ _ _ _ _ _ _)
   | (with_reducible exact ih2 _ _ _ _ _ _ _)
   | (with_reducible exact ih3 _ _ _ _ _ _)
   | (with_reducible exact beat_Round.mono _ _ _)
   | (with_reducible exact LeO.refl _)
   | (with_reducible exact LeO.none _)
   | (with_reducible refine LeO.ite ?_ ?_)
   | (with_reducible refine LeO.bind ?_ (fun _ => ?_))
   | exact ih0 _ _ _ _ _
   | exact ih1 _ _ _ _ _ _ _
   | exact ih2 _ _ _ _ _ _ _
   | exact ih3 _ _ _ _ _ _
   | exact beat_Round.mono _ _ _
   | exact LeO.none _
   | refine LeO.ite ?_ ?_
   | refine LeO.bind ?_ (fun _ => ?_)
  ·intro y0 y1 y2 y3 y4 y5 y6
   unfold beat_Beats.l1
   repeat' first
   | (with_reducible exact ih0 _ _ _ _ _)
   | (with_reducible exact ih1 _ _ _ _ _ _ _)
   | (with_reducible exact ih2 _ _ _ _ _ _ _)
   | (with_reducible exact ih3 _ _ _ _ _ _)
   | (with_reducible exact beat_Round.mono _ _ _)
   | (with_reducible exact LeO.refl _)
   | (with_reducible exact LeO.none _)
   | (with_reducible refine LeO.ite ?_ ?_)
   | (with_reducible refine LeO.bind ?_ (fun _ => ?_))
   | exact ih0 _ _ _ _ _
   | exact ih1 _ _ _ _ _ _ _
   | exact ih2 _ _ _ _ _ _ _
   | exact ih3 _ _ _ _ _ _
   | exact beat_Round.mono _ _ _
   | exact LeO.none _
   | refine LeO.ite ?_ ?_
   | refine LeO.bind ?_ (fun _ => ?_)
  ·intro y0 y1 y2 y3 y4 y5
   unfold beat_Beats.l2
   repeat' first
   | (with_reducible exact ih0 _ _ _ _ _)
   | (with_reducible exact ih1 _ _ _ _ _ _ _)
   | (with_reducible exact ih2 _ _ _ _ _ _ _)
   | (with_reducible exact ih3 _ _ _ _ _ _)
   | (with_reducible exact beat_Round.mono _ _ _)
   | (with_reducible exact LeO.refl _)
   | (with_reducible exact LeO.none _)
   | (with_reducible refine LeO.ite ?_ ?_)
   | (with_reducible refine LeO.bind ?_ (fun _ => ?_))
   | exact ih0 _ _ _ _ _
   | exact ih1 _ _ _ _ _ _ _
   | exact ih2 _ _ _ _ _ _ _
   | exact ih3 _ _ _ _ _ _
   | exact beat_Round.mono _ _ _
   | exact LeO.none _
   | refine LeO.ite ?_ ?_
   | refine LeO.bind ?_ (fun _ => ?_)
theorem beat_Beats.mono : ∀ a0 a1 a2 a3 k, LeO (beat_Beats.f k a0 a1 a2 a3) (beat_Beats.f (k + 1) a0 a1 a2 a3) := by
 intro a0 a1 a2 a3 k
 obtain ⟨ih0, ih1, ih2, ih3⟩ := beat_Beats.mono_l k
 unfold beat_Beats.f
 repeat' first
   | (with_reducible exact ih0 _ _ _ _ _)
   | (with_reducible exact ih1 _ _ _ _ _ _ _)
   | (with_reducible exact ih2 _ _ _ _ _ _ _)
   | (with_reducible exact ih3 _ _ _ _ _ _)
   | (with_reducible exact beat_Round.mono _ _ _)
   | (with_reducible exact LeO.refl _)
   | (with_reducible exact LeO.none _)
   | (with_reducible refine LeO.ite ?_ ?_)
   | (with_reducible refine LeO.bind ?_ (fun _ => ?_))
   | exact ih0 _ _ _ _ _
   | exact ih1 _ _ _ _ _ _ _
   | exact ih2 _ _ _ _ _ _ _
   | exact ih3 _ _ _ _ _ _
   | exact beat_Round.mono _ _ _
   | exact LeO.none _
   | refine LeO.ite ?_ ?_
   | refine LeO.bind ?_ (fun _ => ?_)
def beat_Beats.T21 : Bool × List (List Nat × List Nat) := (true, [([], []), ([], []), ([], []), ([], []), ([], []), ([3, 4], [3, 4]), ([], []), ([5, 6], [5, 6]), ([], []), ([], []), ([0, 1, 0, 1, 8], [0, 1]), ([10, 0, 1, 8], [10]), ([11, 8, 0, 1, 8], [8, 11]), ([2, 7, 0, 1, 2, 3, 4, 5, 6, 7, 8, 9, 10, 11, 12], [2, 7]), ([13, 0, 1, 2, 3, 4, 5, 6, 7, 8, 9, 10, 11, 12], [13]), ([14, 9, 12, 0, 1, 2, 3, 4, 5, 6, 7, 8, 9, 10, 11, 12], [9, 14])])
def beat_Beats.B21 : List Nat := [0, 0, 0, 0, 0, 24, 0, 120, 0, 0, 259, 1283, 3331, 8191, 16383, 32767]
theorem beat_Beats.tab21 : rtab .any (opsOf Try.f27 21) = beat_Beats.T21 := by kernel_rfl
theorem beat_Beats.bits21 : waitsOk beat_Beats.T21.2 beat_Beats.B21 = true := by kernel_rfl
def beat_Beats.T30 : Bool × List (List Nat × List Nat) := (true, [([], []), ([], []), ([], []), ([1, 2], [1, 2]), ([], []), ([3, 4], [3, 4]), ([], []), ([6], [6]), ([0, 5, 0, 1, 2, 3, 4, 5, 6, 7], [0, 5]), ([8, 7, 0, 1, 2, 3, 4, 5, 6, 7], [7, 8])])
def beat_Beats.B30 : List Nat := [0, 0, 0, 6, 0, 30, 0, 64, 255, 511]
theorem beat_Beats.tab30 : rtab .any (opsOf Try.f27 30) = beat_Beats.T30 := by kernel_rfl
theorem beat_Beats.bits30 : waitsOk beat_Beats.T30.2 beat_Beats.B30 = true := by kernel_rfl
set_option maxHeartbeats 8000000 in
set_option maxRecDepth 100000 in
theorem beat_Beats.calls (k : Nat) (A0 : Option Addr) (c0 : Nat) (l0 : List (S49)) (a1 : Int) (a2 : Int) (a3 : Int) (r1 : List Int) (r2 : List Int) (r3 : Int) (w : World) (hr0 : Kd.C k49 w A0 l0.length l0) (hc0 : l0.length ≤ c0) (h : beat_Beats.f k l0 a1 a2 a3 = some (r1, r2, r3)) :
  Calls Try.prog 27 #[.slice A0 l0.length c0, .int .i64 a1, .int .i64 a2, .int .i64 a3] w fun e w' => ∃ v0_ v1_ : Value, e = .returned (.tuple #[v0_, v1_, .int .i64 r3]) ∧ Kd.R (Kd.int .i64) 3 w' w.heap.size (fun k_ => some k_ ≠ (v1_ : Value).ownBlock) v0_ r1 ∧ Kd.R (Kd.int .i64) 3 w' w.heap.size (fun k_ => some k_ ≠ (v0_ : Value).ownBlock) v1_ r2 ∧ Below w.heap.size w w' := by
 have hu49 := Try.underlying49
 have hu26 := Try.underlying26
 have HR0 := Aside0.mk hr0
 have HC0 := Aside0.mk hc0
 clear hr0 hc0
 have HB := Aside0.mk (Below.refl w.heap.size w)
 have H : (if (l0.length : Int) > 4000 then (some (([] : List Int), ([] : List Int), 2)) else (if a1 < 0 then (beat_Beats.j0 k l0 a1 a2 a3 true) else (if a1 > 2 then (beat_Beats.j0 k l0 a1 a2 a3 true) else (if a2 < 1 then (beat_Beats.j0 k l0 a1 a2 a3 true) else (beat_Beats.j0 k l0 a1 a2 a3 (decide (a2 > 1048576))))))) = some (r1, r2, r3) := h
 clear h
 by_cases c5 : (l0.length : Int) > 4000
 ·rw [if_pos c5] at H
  have c5b0 : decide (4000 < (l0.length : Int)) = true := decide_eq_true c5
  have c5b1 : decide (4000 < l0.length) = true := decide_eq_true (by omega)
  clear c5
  simp only [Option.some.injEq, Prod.mk.injEq] at H
  obtain ⟨rfl, rfl, rfl⟩ := H
  go_enter Try.func27, Try.ntmps27
  go_wp2
  go_ret3
  exact ⟨_, _, by first | rfl | (simp [errW_none, errW_some] <;> rfl) | (simp [*, errW_none, errW_some] <;> rfl), by first | exact Kd.R_nil _ _ _ _ _ | exact Kd.N_nil _ _ _ _ _ | exact Kd.V_nil _ _ _ _ _ | exact Kd.Q_nil _ _ _ _ _ | exact Kd.S_nil _ _ _ _ _, by first | exact Kd.R_nil _ _ _ _ _ | exact Kd.N_nil _ _ _ _ _ | exact Kd.V_nil _ _ _ _ _ | exact Kd.Q_nil _ _ _ _ _ | exact Kd.S_nil _ _ _ _ _, by repeat (first | (with_reducible first | exact HB.out | apply below_alloc | apply pw_below_drewN | apply below_drew1) | exact HB.out)⟩
 ·rw [if_neg c5] at H
  have c5b0 : decide (4000 < (l0.length : Int)) = false := decide_eq_false c5
  have c5b1 : decide (4000 < l0.length) = false := decide_eq_false (by omega)
  clear c5
  have HC6 := Aside0.mk H
  clear H
  go_enter Try.func27, Try.ntmps27
  go_upto_region 4 with (fail)
  go_cut [28] (fun v28 wc => ∃ (kq : Nat) (x28_5 : Bool), v28 = .bool x28_5 ∧ Aside0 (beat_Beats.j0 kq l0 a1 a2 a3 x28_5 = some (r1, r2, r3)) ∧ Aside0 (kq ≤ k) ∧ Aside0 (Below w.heap.size w wc))
  case first =>
   have H := HC6.out
   clear HC6
   by_cases c7 : a1 < 0
   ·rw [if_pos c7] at H
    have c7b0 : decide (a1 < 0) = true := decide_eq_true c7
    clear c7
    (first | rw [c7b0] | (simp only [i64_w, i32_w]; rw [c7b0]) | skip)
    have H' := Aside0.mk H
    clear H
    go_wp2
    go_meet
    case rel => exact ⟨_, (true), (by first | rfl | (simp; done) | (simp [*]; done) | (simp [Int.tdiv_eq_ediv_of_nonneg]; done)), H', ⟨by first | omega | exact Nat.le_refl _⟩, ⟨by repeat (first | (with_reducible first | exact HB.out | apply below_alloc | apply pw_below_drewN | apply below_drew1) | exact HB.out)⟩⟩
   ·rw [if_neg c7] at H
    have c7b0 : decide (a1 < 0) = false := decide_eq_false c7
    clear c7
    (first | rw [c7b0] | (simp only [i64_w, i32_w]; rw [c7b0]) | skip)
    by_cases c8 : a1 > 2
    ·rw [if_pos c8] at H
     have c8b0 : decide (2 < a1) = true := decide_eq_true c8
     clear c8
     have H' := Aside0.mk H
     clear H
     go_wp2
     go_meet
     case rel => exact ⟨_, (true), (by first | rfl | (simp; done) | (simp [*]; done) | (simp [Int.tdiv_eq_ediv_of_nonneg]; done)), H', ⟨by first | omega | exact Nat.le_refl _⟩, ⟨by repeat (first | (with_reducible first | exact HB.out | apply below_alloc | apply pw_below_drewN | apply below_drew1) | exact HB.out)⟩⟩
    ·rw [if_neg c8] at H
     have c8b0 : decide (2 < a1) = false := decide_eq_false c8
     clear c8
     by_cases c9 : a2 < 1
     ·rw [if_pos c9] at H
      have c9b0 : decide (a2 < 1) = true := decide_eq_true c9
      clear c9
      have H' := Aside0.mk H
      clear H
      go_wp2
      go_meet
      case rel => exact ⟨_, (true), (by first | rfl | (simp; done) | (simp [*]; done) | (simp [Int.tdiv_eq_ediv_of_nonneg]; done)), H', ⟨by first | omega | exact Nat.le_refl _⟩, ⟨by repeat (first | (with_reducible first | exact HB.out | apply below_alloc | apply pw_below_drewN | apply below_drew1) | exact HB.out)⟩⟩
     ·rw [if_neg c9] at H
      have c9b0 : decide (a2 < 1) = false := decide_eq_false c9
      clear c9
      have H' := Aside0.mk H
      clear H
      go_wp2
      go_meet
      case rel => exact ⟨_, (decide (a2 > 1048576)), (by first | rfl | (simp; done) | (simp [*]; done) | (simp [Int.tdiv_eq_ediv_of_nonneg]; done)), H', ⟨by first | omega | exact Nat.le_refl _⟩, ⟨by repeat (first | (with_reducible first | exact HB.out | apply below_alloc | apply pw_below_drewN | apply below_drew1) | exact HB.out)⟩⟩
  case rest =>
   clear HC6
   try clear c2
   try clear p2
   try clear c5
   try clear c5b0
   try clear c5b1
   try clear c7
   try clear c7b0
   try clear c8
   try clear c8b0
   try clear c9
   try clear c9b0
   obtain ⟨kq, x28_5, rfl, HA, HJ5, HB⟩ := hcut
   cases kq with
   | zero => exact absurd HA.out (by simp [beat_Beats.j0])
   | succ kj5 =>
    have H := HA.out
    clear HA
    simp only [beat_Beats.j0] at H
    by_cases c10 : x28_5 = true
    ·subst c10
     have H1 : (some (([] : List Int), ([] : List Int), 1)) = some (r1, r2, r3) := by rw [if_pos rfl] at H; exact H
     clear H
     have H := H1
     clear H1
     simp only [Option.some.injEq, Prod.mk.injEq] at H
     obtain ⟨rfl, rfl, rfl⟩ := H
     go_wp2
     go_ret3
     exact ⟨_, _, by first | rfl | (simp [errW_none, errW_some] <;> rfl) | (simp [*, errW_none, errW_some] <;> rfl), by first | exact Kd.R_nil _ _ _ _ _ | exact Kd.N_nil _ _ _ _ _ | exact Kd.V_nil _ _ _ _ _ | exact Kd.Q_nil _ _ _ _ _ | exact Kd.S_nil _ _ _ _ _, by first | exact Kd.R_nil _ _ _ _ _ | exact Kd.N_nil _ _ _ _ _ | exact Kd.V_nil _ _ _ _ _ | exact Kd.Q_nil _ _ _ _ _ | exact Kd.S_nil _ _ _ _ _, by repeat (first | (with_reducible first | exact HB.out | apply below_alloc | apply pw_below_drewN | apply below_drew1) | exact HB.out)⟩
    ·replace c10 := Bool.eq_false_iff.mpr c10
     subst c10
     have H1 : ((beat_turns.f a3).bind fun t214 => (if t214 = true then ((api_Record_49.f l0).bind fun t215 => (if t215 = true then (some (([] : List Int), ([] : List Int), 1)) else (if 0 ≤ a3 then (if (a3 : Int).toNat ≤ 35184372088832 then (beat_Beats.l0 kj5 a1 a2 a3 (List.replicate (a3 : Int).toNat 0) l0 (l0.length : Int) 0) else (none)) else (none)))) else (some (([] : List Int), ([] : List Int), 210)))) = some (r1, r2, r3) := by rw [if_neg (show ¬ (false = true) by decide)] at H; exact H
     clear H
     have H := H1
     clear H1
     replace H := Option.bind_eq_some_iff.mp H
     obtain ⟨t214, A110, H⟩ := H
     replace H : (if t214 = true then ((api_Record_49.f l0).bind fun t215 => (if t215 = true then (some (([] : List Int), ([] : List Int), 1)) else (if 0 ≤ a3 then (if (a3 : Int).toNat ≤ 35184372088832 then (beat_Beats.l0 kj5 a1 a2 a3 (List.replicate (a3 : Int).toNat 0) l0 (l0.length : Int) 0) else (none)) else (none)))) else (some (([] : List Int), ([] : List Int), 210))) = some (r1, r2, r3) := H
     have A11 := Aside0.mk A110
     clear A110
     by_cases c12 : t214 = true
     ·subst c12
      have H1 : ((api_Record_49.f l0).bind fun t215 => (if t215 = true then (some (([] : List Int), ([] : List Int), 1)) else (if 0 ≤ a3 then (if (a3 : Int).toNat ≤ 35184372088832 then (beat_Beats.l0 kj5 a1 a2 a3 (List.replicate (a3 : Int).toNat 0) l0 (l0.length : Int) 0) else (none)) else (none)))) = some (r1, r2, r3) := by rw [if_pos rfl] at H; exact H
      clear H
      have H := H1
      clear H1
      replace H := Option.bind_eq_some_iff.mp H
      obtain ⟨t215, A130, H⟩ := H
      replace H : (if t215 = true then (some (([] : List Int), ([] : List Int), 1)) else (if 0 ≤ a3 then (if (a3 : Int).toNat ≤ 35184372088832 then (beat_Beats.l0 kj5 a1 a2 a3 (List.replicate (a3 : Int).toNat 0) l0 (l0.length : Int) 0) else (none)) else (none))) = some (r1, r2, r3) := H
      have A13 := Aside0.mk A130
      clear A130
      by_cases c14 : t215 = true
      ·subst c14
       have H1 : (some (([] : List Int), ([] : List Int), 1)) = some (r1, r2, r3) := by rw [if_pos rfl] at H; exact H
       clear H
       have H := H1
       clear H1
       simp only [Option.some.injEq, Prod.mk.injEq] at H
       obtain ⟨rfl, rfl, rfl⟩ := H
       go_wp2_with (first | ((with_reducible refine gate_callee (f := 36) rfl ?_); refine goesL_ (some 45) rfl rfl Try.func36 (by kernel_rfl) rfl #[.int .i64 a3] rfl (by (try simp only [List.map_toArray, List.map_cons, List.map_nil]); first | done | rfl | (simp only [List.length_drop, List.length_take]; rfl)) ?_; (with_reducible refine (beat_turns.calls a3 true _ A11.out).mono ?_); rintro e w' ⟨rfl, ⟨nd, rfl⟩⟩; refine ⟨_, rfl, ?_⟩) | ((with_reducible refine gate_callee (f := 49) rfl ?_); refine goesL_ (some 50) rfl rfl Try.func49 (by kernel_rfl) rfl #[.slice A0 l0.length c0, .func (.func 48) #[] #[]] rfl (by (try simp only [List.map_toArray, List.map_cons, List.map_nil]); first | done | rfl | (simp only [List.length_drop, List.length_take]; rfl)) ?_; (with_reducible refine (api_Record_49.calls _ _ l0 true _ ?side1 ?side2 A13.out).mono ?_); (case side1 => repeat (first | exact (Kd.C_below HR0.out (by repeat (first | (with_reducible first | exact HB.out | apply below_alloc | apply pw_below_drewN | apply below_drew1) | exact HB.out))) | (with_reducible refine Kd.C_alloc ?_ _) | (with_reducible refine Kd.C_drewN ?_ _) | (with_reducible refine Kd.C_drew ?_))); (case side2 => exact HC0.out); rintro e w15 ⟨rfl, hb⟩; refine ⟨_, rfl, ?_⟩; have n0_ := Aside0.mk (below_step (by repeat (first | (with_reducible first | exact HB.out | apply below_alloc | apply pw_below_drewN | apply below_drew1) | exact HB.out)) hb); clear HB; have HB := n0_; clear n0_; (try clear hb); (try clear hb2); (try clear hk); (try clear hi)))
       go_ret3
       exact ⟨_, _, by first | rfl | (simp [errW_none, errW_some] <;> rfl) | (simp [*, errW_none, errW_some] <;> rfl), by first | exact Kd.R_nil _ _ _ _ _ | exact Kd.N_nil _ _ _ _ _ | exact Kd.V_nil _ _ _ _ _ | exact Kd.Q_nil _ _ _ _ _ | exact Kd.S_nil _ _ _ _ _, by first | exact Kd.R_nil _ _ _ _ _ | exact Kd.N_nil _ _ _ _ _ | exact Kd.V_nil _ _ _ _ _ | exact Kd.Q_nil _ _ _ _ _ | exact Kd.S_nil _ _ _ _ _, by repeat (first | (with_reducible first | exact HB.out | apply below_alloc | apply pw_below_drewN | apply below_drew1) | exact HB.out)⟩
      ·replace c14 := Bool.eq_false_iff.mpr c14
       subst c14
       have H1 : (if 0 ≤ a3 then (if (a3 : Int).toNat ≤ 35184372088832 then (beat_Beats.l0 kj5 a1 a2 a3 (List.replicate (a3 : Int).toNat 0) l0 (l0.length : Int) 0) else (none)) else (none)) = some (r1, r2, r3) := by rw [if_neg (show ¬ (false = true) by decide)] at H; exact H
       clear H
       have H := H1
       clear H1
       by_cases c16 : 0 ≤ a3
       ·rw [if_pos c16] at H
        have c16b0 := eq_true c16
        have c16b1 : decide (0 ≤ a3) = true := decide_eq_true c16
        clear c16
        by_cases c17 : (a3 : Int).toNat ≤ 35184372088832
        ·rw [if_pos c17] at H
         have c17b0 := eq_true c17
         have c17b1 : decide ((a3 : Int).toNat ≤ 35184372088832) = true := decide_eq_true c17
         clear c17
         obtain ⟨y216, hy216⟩ : ∃ y_ : List Int, y_ = (List.replicate (a3 : Int).toNat 0) := ⟨_, rfl⟩
         replace H : (beat_Beats.l0 kj5 a1 a2 a3 y216 l0 (l0.length : Int) 0) = some (r1, r2, r3) := by first | (rw [hy216]; with_reducible exact H) | (have H2_ := (Option.bind_some _ _).symm.trans H; rw [hy216]; with_reducible exact H2_) | (have H2_ := (Option.bind_some _ _).symm.trans H; with_reducible exact H2_) | with_reducible exact H | (rw [hy216]; exact H) | exact H
         have Ny216 := Aside0.mk hy216
         clear hy216
         have H' := Aside0.mk H
         clear H
         go_wp2_with (first | ((with_reducible refine gate_callee (f := 36) rfl ?_); refine goesL_ (some 45) rfl rfl Try.func36 (by kernel_rfl) rfl #[.int .i64 a3] rfl (by (try simp only [List.map_toArray, List.map_cons, List.map_nil]); first | done | rfl | (simp only [List.length_drop, List.length_take]; rfl)) ?_; (with_reducible refine (beat_turns.calls a3 true _ A11.out).mono ?_); rintro e w' ⟨rfl, ⟨nd, rfl⟩⟩; refine ⟨_, rfl, ?_⟩) | ((with_reducible refine gate_callee (f := 49) rfl ?_); refine goesL_ (some 50) rfl rfl Try.func49 (by kernel_rfl) rfl #[.slice A0 l0.length c0, .func (.func 48) #[] #[]] rfl (by (try simp only [List.map_toArray, List.map_cons, List.map_nil]); first | done | rfl | (simp only [List.length_drop, List.length_take]; rfl)) ?_; (with_reducible refine (api_Record_49.calls _ _ l0 false _ ?side1 ?side2 A13.out).mono ?_); (case side1 => repeat (first | exact (Kd.C_below HR0.out (by repeat (first | (with_reducible first | exact HB.out | apply below_alloc | apply pw_below_drewN | apply below_drew1) | exact HB.out))) | (with_reducible refine Kd.C_alloc ?_ _) | (with_reducible refine Kd.C_drewN ?_ _) | (with_reducible refine Kd.C_drew ?_))); (case side2 => exact HC0.out); rintro e w18 ⟨rfl, hb⟩; refine ⟨_, rfl, ?_⟩; have n0_ := Aside0.mk (below_step (by repeat (first | (with_reducible first | exact HB.out | apply below_alloc | apply pw_below_drewN | apply below_drew1) | exact HB.out)) hb); clear HB; have HB := n0_; clear n0_; (try clear hb); (try clear hb2); (try clear hk); (try clear hi)) | ((with_reducible refine gate_dst (N := 52) rfl ?_); refine Kd.R_make (Kd.int .i64) _ 3 rfl (N := 52) rfl 40 _ _ rfl a3 rfl rfl Try.underlying40 (.int .i64 0) 8 info3 rfl (by decide) (by omega) 0 (ok := fun _ => True) (okp := fun _ => True) rfl (fun _ hk => hk) trivial (of_decide_eq_true (by first | (with_reducible assumption) | assumption)) (Nat.le_trans (Nat.mul_le_mul_right _ (of_decide_eq_true (by first | (with_reducible assumption) | assumption) : a3.toNat ≤ 35184372088832)) (by omega)) (Below.refl _ _) (Nat.le_refl _) ?_; intro v217 w19 ho20 hb hg_ hnew_; clear hg_ hnew_; (first | rw [← Ny216.out] at ho20 | (simp only [Int.reduceToNat] at ho20; rw [← Ny216.out] at ho20)); have n0_ := Aside0.mk (Kd.R_lower ho20 (below_size (by repeat (first | (with_reducible first | exact HB.out | apply below_alloc | apply pw_below_drewN | apply below_drew1) | exact HB.out)))); have n1_ := Aside0.mk (below_step (by repeat (first | (with_reducible first | exact HB.out | apply below_alloc | apply pw_below_drewN | apply below_drew1) | exact HB.out)) hb); clear HB; have HO218 := n0_; have HB := n1_; clear n0_ n1_; clear hb ho20))
         go_loopg [55] kj5 (fun kq v55 w' => ∃ (x12_2 : List Int) (x55_2 : Int), v55 = .int .i64 x55_2 ∧ Aside0 (beat_Beats.l0 kq a1 a2 a3 x12_2 l0 (l0.length : Int) x55_2 = some (r1, r2, r3)) ∧ Aside0 (kq ≤ kj5) ∧ Aside0 (Kd.R (Kd.int .i64) 3 w' w.heap.size (fun _ => True) v217 x12_2) ∧ Aside0 (Below w.heap.size w w'))
         case atStart => exact ⟨(y216), (0), (by first | rfl | (simp; done) | (simp [*]; done) | (simp [Int.tdiv_eq_ediv_of_nonneg]; done)), H', ⟨Nat.le_refl _⟩, ⟨by (with_reducible repeat (first | apply Kd.R_alloc | apply Kd.R_drewN | apply Kd.R_drew)); exact HO218.out⟩, ⟨by repeat (first | (with_reducible first | exact HB.out | apply below_alloc | apply pw_below_drewN | apply below_drew1) | exact HB.out)⟩⟩
         case round =>
          clear H'
          try clear c1
          try clear c2
          try clear p2
          try clear c3
          try clear c4
          try clear c5
          try clear c5b0
          try clear c5b1
          try clear c7
          try clear c7b0
          try clear c8
          try clear c8b0
          try clear c9
          try clear c9b0
          try clear c10
          try clear c12
          try clear c14
          try clear c16
          try clear c16b0
          try clear c16b1
          try clear c17
          try clear c17b0
          try clear c17b1
          try clear p2
          obtain ⟨x12_2, x55_2, rfl, HA, HK2, HO_12, HB⟩ := hrel
          cases gk with
          | zero => exact absurd HA.out (by simp [beat_Beats.l0])
          | succ k2 =>
           have H := HA.out
           clear HA
           simp only [beat_Beats.l0] at H
           by_cases c21 : x55_2 < (l0.length : Int)
           ·rw [if_pos c21] at H
            have c21b0 : decide (x55_2 < (l0.length : Int)) = true := decide_eq_true c21
            clear c21
            by_cases c22 : 0 ≤ x55_2
            ·rw [if_pos c22] at H
             have c22b0 : decide (0 ≤ x55_2) = true := decide_eq_true c22
             clear c22
             by_cases c23 : x55_2 < (l0.length : Int)
             ·rw [if_pos c23] at H
              have c23b0 : decide (x55_2 < (l0.length : Int)) = true := decide_eq_true c23
              clear c23
              by_cases c24 : ((rd_T49 l0 x55_2).f3) = a1
              ·rw [if_pos c24] at H
               have c24b0 : (((rd_T49 l0 x55_2).f3) == a1) = true := beq_iff_eq.mpr c24
               have c24b1 : (((rd_T49 l0 x55_2).f3) != a1) = false := bne_eq_false_iff_eq.mpr c24
               clear c24
               by_cases c25 : a2 = 0
               ·rw [if_pos c25] at H
                exact absurd H (by simp)
               ·rw [if_neg c25] at H
                have c25b0 : (a2 == 0) = false := beq_eq_false_iff_ne.mpr c25
                have c25b1 : (a2 != 0) = true := bne_iff_ne.mpr c25
                by_cases c26 : a3 = 0
                ·rw [if_pos c26] at H
                 exact absurd H (by simp)
                ·rw [if_neg c26] at H
                 have c26b0 : (a3 == 0) = false := beq_eq_false_iff_ne.mpr c26
                 have c26b1 : (a3 != 0) = true := bne_iff_ne.mpr c26
                 obtain ⟨ji27, hji27⟩ : ∃ j_ : Int, (Int.tmod (wrap64 (Int.tdiv ((rd_T49 l0 x55_2).f0) a2)) a3) = j_ := ⟨_, rfl⟩
                 replace H : (if 0 ≤ (ji27) then (if (ji27) < (x12_2.length : Int) then (beat_Beats.l0 k2 a1 a2 a3 (x12_2.set ((ji27) : Int).toNat (wrap64 ((rd x12_2 (ji27)) + 1))) l0 (l0.length : Int) (wrap64 (x55_2 + 1))) else (none)) else (none)) = some (r1, r2, r3) := by first | (rw [hji27] at H; exact H) | (simp only [hji27] at H ⊢; exact H)
                 by_cases c28 : 0 ≤ (ji27)
                 ·rw [if_pos c28] at H
                  have c28b0 : decide (0 ≤ (ji27)) = true := decide_eq_true c28
                  clear c28
                  by_cases c29 : (ji27) < (x12_2.length : Int)
                  ·rw [if_pos c29] at H
                   have c29b0 : decide ((ji27) < (x12_2.length : Int)) = true := decide_eq_true c29
                   clear c29
                   obtain ⟨y222, hy222⟩ : ∃ y_ : List Int, y_ = (x12_2.set ((ji27) : Int).toNat (wrap64 ((rd x12_2 (ji27)) + 1))) := ⟨_, rfl⟩
                   replace H : (beat_Beats.l0 k2 a1 a2 a3 y222 l0 (l0.length : Int) (wrap64 (x55_2 + 1))) = some (r1, r2, r3) := by first | (rw [hy222]; with_reducible exact H) | (have H2_ := (Option.bind_some _ _).symm.trans H; rw [hy222]; with_reducible exact H2_) | (have H2_ := (Option.bind_some _ _).symm.trans H; with_reducible exact H2_) | with_reducible exact H | (rw [hy222]; exact H) | exact H
                   have Ny222 := Aside0.mk hy222
                   clear hy222
                   have H' := Aside0.mk H
                   clear H
                   have p219 : 0 ≤ (x55_2 : Int) := of_decide_eq_true (by first | (with_reducible assumption) | assumption)
                   have q219 : x55_2 < (l0.length : Int) := of_decide_eq_true (by first | (with_reducible assumption) | assumption)
                   obtain ⟨ad219, e219, hx219_0, hx219_1, hx219_2, hx219_3⟩ := at_T49 HR0.out x55_2 p219 q219
                   cases e219
                   replace hx219_0 := (HB.out.cell (World.block_lt_of_cell? w _ hx219_0)).trans hx219_0
                   replace hx219_1 := (HB.out.cell (World.block_lt_of_cell? w _ hx219_1)).trans hx219_1
                   replace hx219_2 := (HB.out.cell (World.block_lt_of_cell? w _ hx219_2)).trans hx219_2
                   replace hx219_3 := (HB.out.cell (World.block_lt_of_cell? w _ hx219_3)).trans hx219_3
                   replace p219 := eq_true p219
                   replace q219 := eq_true q219
                   go_wp2_with (first | ((with_reducible refine gate_dst (N := 14) rfl ?_); refine box_event ?hg (N := 14) ?hd (cs := #[.int .i64 0, .string (⟨#[]⟩ : ByteArray), .int .i64 0, .int .i64 0]) (t := 49) ?hr ?_; (case hd => rfl); (case hg => rfl); (case hr => first | (go_simp; done) | (go_simp; rfl)); intro gb220 hg w31 hbox hb; have n0_ := Aside0.mk (Kd.R_below (by (with_reducible repeat (first | apply Kd.R_alloc | apply Kd.R_drewN | apply Kd.R_drew)); exact HO_12.out) hb); have n1_ := Aside0.mk (below_step (by repeat (first | (with_reducible first | exact HB.out | apply below_alloc | apply pw_below_drewN | apply below_drew1) | exact HB.out)) hb); have n2_ := Aside0.mk (hbox); have n3_ := Aside0.mk ((by rw [hg]; exact (below_size (by repeat (first | (with_reducible first | exact HB.out | apply below_alloc | apply pw_below_drewN | apply below_drew1) | exact HB.out))) : w.heap.size ≤ gb220)); have n4_ := Aside0.mk ((by rw [hg]; exact (below_size (by repeat (first | (with_reducible first | exact HB.out | apply below_alloc | apply pw_below_drewN | apply below_drew1) | exact HB.out))) : w.heap.size ≤ gb220)); clear HO_12; clear HB; have HO_12 := n0_; have HB := n1_; have BK220 := n2_; have GW220 := n3_; have GE220 := n4_; clear n0_ n1_ n2_ n3_ n4_; clear hb hbox hg; have hcz32_0 : w31.cell? ⟨gb220, 0, none⟩ = some (.int .i64 0) := (blk_cell BK220.out 0).trans rfl; have hcz32_1 : w31.cell? ⟨gb220, 1, none⟩ = some (.string (⟨#[]⟩ : ByteArray)) := (blk_cell BK220.out 1).trans rfl; have hcz32_2 : w31.cell? ⟨gb220, 2, none⟩ = some (.int .i64 0) := (blk_cell BK220.out 2).trans rfl; have hcz32_3 : w31.cell? ⟨gb220, 3, none⟩ = some (.int .i64 0) := (blk_cell BK220.out 3).trans rfl; have hfz32_0 := blk_frozen BK220.out 0; have hfz32_1 := blk_frozen BK220.out 1; have hfz32_2 := blk_frozen BK220.out 2; have hfz32_3 := blk_frozen BK220.out 3) | ((with_reducible refine gate_store (t := 49) (p := 14) rfl ?_); refine store_event (t := 49) (p := 14) (v := ?vo_w33) (w1 := ((((w31.setCell ⟨gb220, 0, none⟩ (.int .i64 ((rd_T49 l0 x55_2).f0))).setCell ⟨gb220, 1, none⟩ (.string ((rd_T49 l0 x55_2).f1))).setCell ⟨gb220, 2, none⟩ (.int .i64 ((rd_T49 l0 x55_2).f2))).setCell ⟨gb220, 3, none⟩ (.int .i64 ((rd_T49 l0 x55_2).f3)))) ?hg ?ho ?hn ?hr ?_; (case ho => rfl); (case hg => rfl); (case hn => rfl); (case hr => first | (go_simp; done) | (go_simp; rfl)); intro w33 hw; have n0_ : Aside0 (Kd.R (Kd.int .i64) 3 w33 w.heap.size (fun _ => True) v217 x12_2) := ⟨(by rw [hw]; exact (by (with_reducible repeat (first | apply Kd.R_alloc | apply Kd.R_drewN | apply Kd.R_drew)); exact Kd.R_mono (Kd.R_far (p := ⟨gb220, 3, none⟩) (Kd.R_far (p := ⟨gb220, 2, none⟩) (Kd.R_far (p := ⟨gb220, 1, none⟩) (Kd.R_far (p := ⟨gb220, 0, none⟩) (Kd.R_types HO_12.out BK220.out (by decide)) (fun _ hk => hk.2) (.int .i64 ((rd_T49 l0 x55_2).f0))) (fun _ hk => hk.2) (.string ((rd_T49 l0 x55_2).f1))) (fun _ hk => hk.2) (.int .i64 ((rd_T49 l0 x55_2).f2))) (fun _ hk => hk.2) (.int .i64 ((rd_T49 l0 x55_2).f3))) (fun _ hk => trivial)))⟩; have n1_ : Aside0 (w33.heap[gb220]? = some (.cells #[.int .i64 ((rd_T49 l0 x55_2).f0), .string ((rd_T49 l0 x55_2).f1), .int .i64 ((rd_T49 l0 x55_2).f2), .int .i64 ((rd_T49 l0 x55_2).f3)] 49 (0, 0))) := ⟨(by rw [hw]; exact (by (with_reducible repeat (first | refine blk_drewN ?_ _ | refine blk_drew ?_ | refine blk_alloc ?_ _)); refine blk_put (cs := #[.int .i64 ((rd_T49 l0 x55_2).f0), .string ((rd_T49 l0 x55_2).f1), .int .i64 ((rd_T49 l0 x55_2).f2), .int .i64 0]) ?_ 3 _ rfl; (with_reducible repeat (first | refine blk_drewN ?_ _ | refine blk_drew ?_ | refine blk_alloc ?_ _)); refine blk_put (cs := #[.int .i64 ((rd_T49 l0 x55_2).f0), .string ((rd_T49 l0 x55_2).f1), .int .i64 0, .int .i64 0]) ?_ 2 _ rfl; (with_reducible repeat (first | refine blk_drewN ?_ _ | refine blk_drew ?_ | refine blk_alloc ?_ _)); refine blk_put (cs := #[.int .i64 ((rd_T49 l0 x55_2).f0), .string (⟨#[]⟩ : ByteArray), .int .i64 0, .int .i64 0]) ?_ 1 _ rfl; (with_reducible repeat (first | refine blk_drewN ?_ _ | refine blk_drew ?_ | refine blk_alloc ?_ _)); refine blk_put (cs := #[.int .i64 0, .string (⟨#[]⟩ : ByteArray), .int .i64 0, .int .i64 0]) ?_ 0 _ rfl; (with_reducible repeat (first | refine blk_drewN ?_ _ | refine blk_drew ?_ | refine blk_alloc ?_ _)); exact BK220.out))⟩; have n2_ : Aside0 (Below w.heap.size w w33) := ⟨(by rw [hw]; exact (by repeat (first | (with_reducible first | exact HB.out | apply below_alloc | apply pw_below_drewN | apply below_drew1 | refine below_set ?_ GE220.out) | exact HB.out)))⟩; clear hw; clear HO_12; clear BK220; clear HB; have HO_12 := n0_; have BK220 := n1_; have HB := n2_; clear n0_ n1_ n2_; have hcz34_0 : w33.cell? ⟨gb220, 0, none⟩ = some (.int .i64 ((rd_T49 l0 x55_2).f0)) := (blk_cell BK220.out 0).trans rfl; have hcz34_1 : w33.cell? ⟨gb220, 1, none⟩ = some (.string ((rd_T49 l0 x55_2).f1)) := (blk_cell BK220.out 1).trans rfl; have hcz34_2 : w33.cell? ⟨gb220, 2, none⟩ = some (.int .i64 ((rd_T49 l0 x55_2).f2)) := (blk_cell BK220.out 2).trans rfl; have hcz34_3 : w33.cell? ⟨gb220, 3, none⟩ = some (.int .i64 ((rd_T49 l0 x55_2).f3)) := (blk_cell BK220.out 3).trans rfl; have hfz34_0 := blk_frozen BK220.out 0; have hfz34_1 := blk_frozen BK220.out 1; have hfz34_2 := blk_frozen BK220.out 2; have hfz34_3 := blk_frozen BK220.out 3; obtain ⟨Ao35, co35, eo35⟩ := Kd.R_slice HO_12.out; subst eo35; have p221 : 0 ≤ ((ji27) : Int) := of_decide_eq_true (by first | (with_reducible assumption) | assumption); have q221 : (ji27) < (x12_2.length : Int) := of_decide_eq_true (by first | (with_reducible assumption) | assumption); obtain ⟨ad221, e221, hx221_0⟩ := Kd.at_int (Kd.R_reads' HO_12.out).2.2 (ji27) p221 q221; cases e221; replace p221 := eq_true p221; replace q221 := eq_true q221; have p30 : 0 ≤ ((ji27) : Int) := of_decide_eq_true (by first | (with_reducible assumption) | assumption); have q30 : ((ji27) : Int) < ((x12_2.length : Int) : Int) := of_decide_eq_true (by first | (with_reducible assumption) | assumption); obtain ⟨go30, co30, eo30, gb30, gl30, cl30, HG30⟩ := Kd.R_form HO_12.out (by omega); (first | cases eo30 | (injection eo30 with ea_ en_ ec_; (first | subst ea_ | (injection ea_ with ea_; subst ea_)); subst ec_; clear en_)); have GB30 := Aside0.mk gb30; have GG30 := Aside0.mk HG30; clear gb30 gl30 HG30; (first | simp only [add_plain] at hx221_0 | skip); obtain ⟨hx30_0, hf30_0⟩ := Kd.R_celln 0 HO_12.out ((ji27) : Int) p30 q30; replace p30 := eq_true p30; replace q30 := eq_true q30; obtain ⟨hy36_, hz36_⟩ := Kd.R_celln 0 HO_12.out ((ji27) : Int) (of_decide_eq_true (by first | (with_reducible assumption) | assumption)) (of_decide_eq_true (by first | (with_reducible assumption) | assumption)); have HP36 := Kd.R_putg HO_12.out ((ji27) : Int) (wrap64 ((rd x12_2 (ji27)) + 1))) | ((with_reducible refine gate_store (t := 3) (p := 73) rfl ?_); refine store_event (t := 3) (p := 73) (v := ?vo_w37) (w1 := (w33.setCell ⟨go30, ((ji27) : Int).toNat, none⟩ (.int .i64 (wrap64 ((rd x12_2 (ji27)) + 1))))) ?hg ?ho ?hn ?hr ?_; (case ho => rfl); (case hg => rfl); (case hn => rfl); (case hr => first | (go_simp; done) | (go_simp; rfl)); intro w37 hw; have hg : w33.grownBy w37 (some go30) := (by rw [hw]; exact HP36.2); have hp_ : Kd.R (Kd.int .i64) 3 w37 w.heap.size (fun _ => True) (.slice (some ⟨go30, 0, none⟩) x12_2.length co35) y222 := (by rw [hw, Ny222.out]; exact HP36.1); clear HP36; have n0_ := Aside0.mk (hp_); have n1_ := Aside0.mk (blk_grown (g := gb220) (o := .cells #[.int .i64 ((rd_T49 l0 x55_2).f0), .string ((rd_T49 l0 x55_2).f1), .int .i64 ((rd_T49 l0 x55_2).f2), .int .i64 ((rd_T49 l0 x55_2).f3)] 49 (0, 0)) (by (with_reducible repeat (first | refine blk_drewN ?_ _ | refine blk_drew ?_ | refine blk_alloc ?_ _)); exact BK220.out) hg (Kd.R_ne HO_12.out BK220.out (by decide))); have n2_ := Aside0.mk ((by rw [hw]; exact below_set (HB.out) GB30.out : Below w.heap.size w w37)); clear HO_12; clear BK220; clear HB; have HO_12 := n0_; have BK220 := n1_; have HB := n2_; clear n0_ n1_ n2_; clear hg hw hp_))
                   go_roundg k2
                   case measure => have := HJ5.out; have := HK2.out; omega
                   case rel => exact ⟨(y222), (wrap64 (x55_2 + 1)), (by first | rfl | (simp; done) | (simp [*]; done) | (simp [Int.tdiv_eq_ediv_of_nonneg]; done)), H', ⟨by have := HJ5.out; have := HK2.out; omega⟩, ⟨by (with_reducible repeat (first | apply Kd.R_alloc | apply Kd.R_drewN | apply Kd.R_drew)); exact HO_12.out⟩, ⟨by repeat (first | (with_reducible first | exact HB.out | apply below_alloc | apply pw_below_drewN | apply below_drew1 | refine below_set ?_ GE220.out) | exact HB.out)⟩⟩
                  ·rw [if_neg c29] at H
                   exact absurd H (by simp)
                 ·rw [if_neg c28] at H
                  exact absurd H (by simp)
              ·rw [if_neg c24] at H
               have c24b0 : (((rd_T49 l0 x55_2).f3) == a1) = false := beq_eq_false_iff_ne.mpr c24
               have c24b1 : (((rd_T49 l0 x55_2).f3) != a1) = true := bne_iff_ne.mpr c24
               have H' := Aside0.mk H
               clear H
               have p219 : 0 ≤ (x55_2 : Int) := of_decide_eq_true (by first | (with_reducible assumption) | assumption)
               have q219 : x55_2 < (l0.length : Int) := of_decide_eq_true (by first | (with_reducible assumption) | assumption)
               obtain ⟨ad219, e219, hx219_0, hx219_1, hx219_2, hx219_3⟩ := at_T49 HR0.out x55_2 p219 q219
               cases e219
               replace hx219_0 := (HB.out.cell (World.block_lt_of_cell? w _ hx219_0)).trans hx219_0
               replace hx219_1 := (HB.out.cell (World.block_lt_of_cell? w _ hx219_1)).trans hx219_1
               replace hx219_2 := (HB.out.cell (World.block_lt_of_cell? w _ hx219_2)).trans hx219_2
               replace hx219_3 := (HB.out.cell (World.block_lt_of_cell? w _ hx219_3)).trans hx219_3
               replace p219 := eq_true p219
               replace q219 := eq_true q219
               go_wp2_with (first | ((with_reducible refine gate_dst (N := 14) rfl ?_); refine box_event ?hg (N := 14) ?hd (cs := #[.int .i64 0, .string (⟨#[]⟩ : ByteArray), .int .i64 0, .int .i64 0]) (t := 49) ?hr ?_; (case hd => rfl); (case hg => rfl); (case hr => first | (go_simp; done) | (go_simp; rfl)); intro gb220 hg w38 hbox hb; have n0_ := Aside0.mk (Kd.R_below (by (with_reducible repeat (first | apply Kd.R_alloc | apply Kd.R_drewN | apply Kd.R_drew)); exact HO_12.out) hb); have n1_ := Aside0.mk (below_step (by repeat (first | (with_reducible first | exact HB.out | apply below_alloc | apply pw_below_drewN | apply below_drew1) | exact HB.out)) hb); have n2_ := Aside0.mk (hbox); have n3_ := Aside0.mk ((by rw [hg]; exact (below_size (by repeat (first | (with_reducible first | exact HB.out | apply below_alloc | apply pw_below_drewN | apply below_drew1) | exact HB.out))) : w.heap.size ≤ gb220)); have n4_ := Aside0.mk ((by rw [hg]; exact (below_size (by repeat (first | (with_reducible first | exact HB.out | apply below_alloc | apply pw_below_drewN | apply below_drew1) | exact HB.out))) : w.heap.size ≤ gb220)); clear HO_12; clear HB; have HO_12 := n0_; have HB := n1_; have BK220 := n2_; have GW220 := n3_; have GE220 := n4_; clear n0_ n1_ n2_ n3_ n4_; clear hb hbox hg; have hcz39_0 : w38.cell? ⟨gb220, 0, none⟩ = some (.int .i64 0) := (blk_cell BK220.out 0).trans rfl; have hcz39_1 : w38.cell? ⟨gb220, 1, none⟩ = some (.string (⟨#[]⟩ : ByteArray)) := (blk_cell BK220.out 1).trans rfl; have hcz39_2 : w38.cell? ⟨gb220, 2, none⟩ = some (.int .i64 0) := (blk_cell BK220.out 2).trans rfl; have hcz39_3 : w38.cell? ⟨gb220, 3, none⟩ = some (.int .i64 0) := (blk_cell BK220.out 3).trans rfl; have hfz39_0 := blk_frozen BK220.out 0; have hfz39_1 := blk_frozen BK220.out 1; have hfz39_2 := blk_frozen BK220.out 2; have hfz39_3 := blk_frozen BK220.out 3))
               go_roundg k2
               case measure => have := HJ5.out; have := HK2.out; omega
               case rel => exact ⟨(x12_2), (wrap64 (x55_2 + 1)), (by first | rfl | (simp; done) | (simp [*]; done) | (simp [Int.tdiv_eq_ediv_of_nonneg]; done)), H', ⟨by have := HJ5.out; have := HK2.out; omega⟩, ⟨by (with_reducible repeat (first | apply Kd.R_alloc | apply Kd.R_drewN | apply Kd.R_drew)); exact Kd.R_mono (Kd.R_far (p := ⟨gb220, 3, none⟩) (Kd.R_far (p := ⟨gb220, 2, none⟩) (Kd.R_far (p := ⟨gb220, 1, none⟩) (Kd.R_far (p := ⟨gb220, 0, none⟩) (Kd.R_types HO_12.out BK220.out (by decide)) (fun _ hk => hk.2) (.int .i64 ((rd_T49 l0 x55_2).f0))) (fun _ hk => hk.2) (.string ((rd_T49 l0 x55_2).f1))) (fun _ hk => hk.2) (.int .i64 ((rd_T49 l0 x55_2).f2))) (fun _ hk => hk.2) (.int .i64 ((rd_T49 l0 x55_2).f3))) (fun _ hk => trivial)⟩, ⟨by repeat (first | (with_reducible first | exact HB.out | apply below_alloc | apply pw_below_drewN | apply below_drew1 | refine below_set ?_ GE220.out) | exact HB.out)⟩⟩
             ·rw [if_neg c23] at H
              exact absurd H (by simp)
            ·rw [if_neg c22] at H
             exact absurd H (by simp)
           ·rw [if_neg c21] at H
            have c21b0 : decide (x55_2 < (l0.length : Int)) = false := decide_eq_false c21
            clear c21
            by_cases c40 : 0 ≤ a3
            ·rw [if_pos c40] at H
             have c40b0 := eq_true c40
             have c40b1 : decide (0 ≤ a3) = true := decide_eq_true c40
             clear c40
             by_cases c41 : (a3 : Int).toNat ≤ 17592186044416
             ·rw [if_pos c41] at H
              have c41b0 := eq_true c41
              have c41b1 : decide ((a3 : Int).toNat ≤ 17592186044416) = true := decide_eq_true c41
              clear c41
              obtain ⟨y223, hy223⟩ : ∃ y_ : List (S26), y_ = (List.replicate (a3 : Int).toNat z26) := ⟨_, rfl⟩
              replace H : (beat_Beats.l1 k2 a3 x12_2 y223 (List.replicate (a3 : Int).toNat z26) x12_2 (x12_2.length : Int) 0) = some (r1, r2, r3) := by first | (rw [hy223]; with_reducible exact H) | (have H2_ := (Option.bind_some _ _).symm.trans H; rw [hy223]; with_reducible exact H2_) | (have H2_ := (Option.bind_some _ _).symm.trans H; with_reducible exact H2_) | with_reducible exact H | (rw [hy223]; exact H) | exact H
              have Ny223 := Aside0.mk hy223
              clear hy223
              obtain ⟨y226, hy226⟩ : ∃ y_ : List (S26), y_ = (List.replicate (a3 : Int).toNat z26) := ⟨_, rfl⟩
              replace H : (beat_Beats.l1 k2 a3 x12_2 y223 y226 x12_2 (x12_2.length : Int) 0) = some (r1, r2, r3) := by first | (rw [hy226]; with_reducible exact H) | (have H2_ := (Option.bind_some _ _).symm.trans H; rw [hy226]; with_reducible exact H2_) | (have H2_ := (Option.bind_some _ _).symm.trans H; with_reducible exact H2_) | with_reducible exact H | (rw [hy226]; exact H) | exact H
              have Ny226 := Aside0.mk hy226
              clear hy226
              have H' := Aside0.mk H
              clear H
              try go_wp2
              have n0_ := Aside0.mk (Kd.R_drew HO_12.out)
              have n1_ := Aside0.mk (below_drew1 HB.out)
              clear HO_12
              clear HB
              have HO_12 := n0_
              have HB := n1_
              clear n0_ n1_
              refine start_ (n := 6) (S := fun w' => True) (ds := []) #[false, false, false, false, false, false] (by kernel_rfl) rfl rfl trivial (fun hHeld => ?_)
              generalize wr.drew = w42 at HO_12 HB hHeld ⊢
              refine pure_ (i := 0) (N := some 75) (v := ?_) (a' := ?_) #[true, false, false, false, false, false] rfl rfl (by kernel_rfl) (fun _ _ _ h => h) (Or.inl ⟨by rfl, ?_⟩) ?_ ?_
              rotate_left
              ·intro w'
               go_simp
               with_reducible rfl
              rotate_left
              ·simp only [Act.put, List.setIfInBounds_toArray, List.set_cons_zero, List.set_cons_succ, i64_w, i32_w]
               rfl
              refine pure_ (i := 2) (N := some 77) (v := ?_) (a' := ?_) #[true, false, true, false, false, false] rfl rfl (by kernel_rfl) (fun _ _ _ h => h) (Or.inl ⟨by rfl, ?_⟩) ?_ ?_
              rotate_left
              ·intro w'
               go_simp
               with_reducible rfl
              rotate_left
              ·simp only [Act.put, List.setIfInBounds_toArray, List.set_cons_zero, List.set_cons_succ, i64_w, i32_w]
               rfl
              refine join_ (σ := Value × Value) 1 #[true, true, true, true, true, false] (fun s_ => [(76, s_.1), (78, s_.2), (15, s_.1)]) (fun s_ w' => (Kd.R k26 26 w' w.heap.size (fun k_ => some k_ ≠ (s_.2 : Value).ownBlock) s_.1 y223) ∧ (Kd.R k26 26 w' w.heap.size (fun k_ => some k_ ≠ (s_.1 : Value).ownBlock) s_.2 y226) ∧ (Kd.R (Kd.int .i64) 3 w' w.heap.size (fun _ => True) v217 x12_2) ∧ (Below w.heap.size w w')) ?_ ?_
              rotate_left
              ·intro hCont
               refine two_ (i := 1) (j := 3) (Ni := some 76) (Nj := some 78) #[true, true, true, false, false, false] #[true, false, true, true, false, false] rfl rfl rfl rfl (by kernel_rfl) (by decide) (by decide) (fun K hK => ?_) (fun K hK => ?_)
               ·skip
                refine Kd.R_make_step k26 _ 26 (by rfl) (N := 76) rfl 22 _ _ rfl a3 rfl rfl Try.underlying22 (.agg #[(.int .i64 0), (.int .i64 0)]) 16 info26 rfl (by decide) (by omega) z26 (ok := fun _ => True) (okp := fun _ => True) (k26_mkM _ _ _ z26 ) (fun _ hk => hk) trivial (of_decide_eq_true (by first | (with_reducible assumption) | assumption)) (Nat.le_trans (Nat.mul_le_mul_right _ (of_decide_eq_true (by first | (with_reducible assumption) | assumption) : a3.toNat ≤ 17592186044416)) (by omega)) (Below.refl _ _) (Nat.le_refl _) ?_
                intro v224 w43 ho44 hb hg_ hnew_
                clear hg_ hnew_
                (first | rw [← Ny223.out] at ho44 | (simp only [Int.reduceToNat] at ho44; rw [← Ny223.out] at ho44))
                have n0_ := Aside0.mk (Kd.R_below (by (with_reducible repeat (first | apply Kd.R_alloc | apply Kd.R_drewN | apply Kd.R_drew)); exact HO_12.out) hb)
                have n1_ := Aside0.mk (Kd.R_lower ho44 (below_size (by repeat (first | (with_reducible first | exact HB.out | apply below_alloc | apply pw_below_drewN | apply below_drew1) | exact HB.out))))
                have n2_ := Aside0.mk (below_step (by repeat (first | (with_reducible first | exact HB.out | apply below_alloc | apply pw_below_drewN | apply below_drew1) | exact HB.out)) hb)
                clear HO_12
                clear HB
                have HO_12 := n0_
                have HO225 := n1_
                have HB := n2_
                clear n0_ n1_ n2_
                clear hb ho44
                refine hK.out _ _ trivial (fun hHeld => ?_)
                clear hK K
                refine norm_ (a' := ?_) ?_ ?_
                rotate_left
                ·show Act.put _ (some 76) _ = _
                 simp only [Act.put, List.setIfInBounds_toArray, List.set_cons_zero, List.set_cons_succ, i64_w, i32_w]
                 rfl
                refine pure_ (i := 4) (N := some 15) (v := ?_) (a' := ?_) #[true, true, true, false, true, false] rfl rfl (by kernel_rfl) (fun _ _ _ h => h) (Or.inl ⟨by rfl, ?_⟩) ?_ ?_
                rotate_left
                ·intro w'
                 go_simp
                 with_reducible rfl
                rotate_left
                ·simp only [Act.put, List.setIfInBounds_toArray, List.set_cons_zero, List.set_cons_succ, i64_w, i32_w]
                 rfl
                refine one_ (i := 3) (N := some 78) #[true, true, true, true, true, false] rfl rfl (by kernel_rfl) (by decide) (fun K hK => ?_)
                refine Kd.R_make_step k26 _ 26 (by rfl) (N := 78) rfl 22 _ _ rfl a3 rfl rfl Try.underlying22 (.agg #[(.int .i64 0), (.int .i64 0)]) 16 info26 rfl (by decide) (by omega) z26 (ok := fun _ => True) (okp := fun _ => True) (k26_mkM _ _ _ z26 ) (fun _ hk => hk) trivial (of_decide_eq_true (by first | (with_reducible assumption) | assumption)) (Nat.le_trans (Nat.mul_le_mul_right _ (of_decide_eq_true (by first | (with_reducible assumption) | assumption) : a3.toNat ≤ 17592186044416)) (by omega)) (Below.refl _ _) (Nat.le_refl _) ?_
                intro v227 w45 ho46 hb hg_ hnew_
                clear hg_ hnew_
                (first | rw [← Ny226.out] at ho46 | (simp only [Int.reduceToNat] at ho46; rw [← Ny226.out] at ho46))
                have n0_ := Aside0.mk (Kd.R_below (by (with_reducible repeat (first | apply Kd.R_alloc | apply Kd.R_drewN | apply Kd.R_drew)); exact HO_12.out) hb)
                have n1_ := Aside0.mk (Kd.R_elder' (by (with_reducible repeat (first | apply Kd.R_alloc | apply Kd.R_drewN | apply Kd.R_drew)); exact HO225.out) (Kd.R_base ho46) hb)
                have n2_ := Aside0.mk (Kd.R_lower (Kd.R_new' ho46 (Kd.R_lt (by (with_reducible repeat (first | apply Kd.R_alloc | apply Kd.R_drewN | apply Kd.R_drew)); exact HO225.out))) (below_size (by repeat (first | (with_reducible first | exact HB.out | apply below_alloc | apply pw_below_drewN | apply below_drew1) | exact HB.out))))
                have n3_ := Aside0.mk (below_step (by repeat (first | (with_reducible first | exact HB.out | apply below_alloc | apply pw_below_drewN | apply below_drew1) | exact HB.out)) hb)
                clear HO_12
                clear HO225
                clear HB
                have HO_12 := n0_
                have HO225 := n1_
                have HO228 := n2_
                have HB := n3_
                clear n0_ n1_ n2_ n3_
                clear hb ho46
                refine hK.out _ _ trivial (fun hHeld => ?_)
                clear hK K
                refine norm_ (a' := ?_) ?_ ?_
                rotate_left
                ·show Act.put _ (some 78) _ = _
                 simp only [Act.put, List.setIfInBounds_toArray, List.set_cons_zero, List.set_cons_succ, i64_w, i32_w]
                 rfl
                exact norm_ (by simp only [putAll, Act.put, List.setIfInBounds_toArray, List.set_cons_zero, List.set_cons_succ]) (hCont (v224, v227) _ ⟨(by (with_reducible repeat (first | apply Kd.R_alloc | apply Kd.R_drewN | apply Kd.R_drew)); exact Kd.R_mono HO225.out (fun _ hk => hk.2)), (by (with_reducible repeat (first | apply Kd.R_alloc | apply Kd.R_drewN | apply Kd.R_drew)); exact Kd.R_mono HO228.out (fun _ hk => hk.2)), (by (with_reducible repeat (first | apply Kd.R_alloc | apply Kd.R_drewN | apply Kd.R_drew)); exact HO_12.out), (by repeat (first | (with_reducible first | exact HB.out | apply below_alloc | apply pw_below_drewN | apply below_drew1) | exact HB.out))⟩)
               ·skip
                refine Kd.R_make_step k26 _ 26 (by rfl) (N := 78) rfl 22 _ _ rfl a3 rfl rfl Try.underlying22 (.agg #[(.int .i64 0), (.int .i64 0)]) 16 info26 rfl (by decide) (by omega) z26 (ok := fun _ => True) (okp := fun _ => True) (k26_mkM _ _ _ z26 ) (fun _ hk => hk) trivial (of_decide_eq_true (by first | (with_reducible assumption) | assumption)) (Nat.le_trans (Nat.mul_le_mul_right _ (of_decide_eq_true (by first | (with_reducible assumption) | assumption) : a3.toNat ≤ 17592186044416)) (by omega)) (Below.refl _ _) (Nat.le_refl _) ?_
                intro v227 w43 ho44 hb hg_ hnew_
                clear hg_ hnew_
                (first | rw [← Ny226.out] at ho44 | (simp only [Int.reduceToNat] at ho44; rw [← Ny226.out] at ho44))
                have n0_ := Aside0.mk (Kd.R_below (by (with_reducible repeat (first | apply Kd.R_alloc | apply Kd.R_drewN | apply Kd.R_drew)); exact HO_12.out) hb)
                have n1_ := Aside0.mk (Kd.R_lower ho44 (below_size (by repeat (first | (with_reducible first | exact HB.out | apply below_alloc | apply pw_below_drewN | apply below_drew1) | exact HB.out))))
                have n2_ := Aside0.mk (below_step (by repeat (first | (with_reducible first | exact HB.out | apply below_alloc | apply pw_below_drewN | apply below_drew1) | exact HB.out)) hb)
                clear HO_12
                clear HB
                have HO_12 := n0_
                have HO228 := n1_
                have HB := n2_
                clear n0_ n1_ n2_
                clear hb ho44
                refine hK.out _ _ trivial (fun hHeld => ?_)
                clear hK K
                refine norm_ (a' := ?_) ?_ ?_
                rotate_left
                ·show Act.put _ (some 78) _ = _
                 simp only [Act.put, List.setIfInBounds_toArray, List.set_cons_zero, List.set_cons_succ, i64_w, i32_w]
                 rfl
                refine one_ (i := 1) (N := some 76) #[true, true, true, true, false, false] rfl rfl (by kernel_rfl) (by decide) (fun K hK => ?_)
                refine Kd.R_make_step k26 _ 26 (by rfl) (N := 76) rfl 22 _ _ rfl a3 rfl rfl Try.underlying22 (.agg #[(.int .i64 0), (.int .i64 0)]) 16 info26 rfl (by decide) (by omega) z26 (ok := fun _ => True) (okp := fun _ => True) (k26_mkM _ _ _ z26 ) (fun _ hk => hk) trivial (of_decide_eq_true (by first | (with_reducible assumption) | assumption)) (Nat.le_trans (Nat.mul_le_mul_right _ (of_decide_eq_true (by first | (with_reducible assumption) | assumption) : a3.toNat ≤ 17592186044416)) (by omega)) (Below.refl _ _) (Nat.le_refl _) ?_
                intro v224 w45 ho46 hb hg_ hnew_
                clear hg_ hnew_
                (first | rw [← Ny223.out] at ho46 | (simp only [Int.reduceToNat] at ho46; rw [← Ny223.out] at ho46))
                have n0_ := Aside0.mk (Kd.R_below (by (with_reducible repeat (first | apply Kd.R_alloc | apply Kd.R_drewN | apply Kd.R_drew)); exact HO_12.out) hb)
                have n1_ := Aside0.mk (Kd.R_elder' (by (with_reducible repeat (first | apply Kd.R_alloc | apply Kd.R_drewN | apply Kd.R_drew)); exact HO228.out) (Kd.R_base ho46) hb)
                have n2_ := Aside0.mk (Kd.R_lower (Kd.R_new' ho46 (Kd.R_lt (by (with_reducible repeat (first | apply Kd.R_alloc | apply Kd.R_drewN | apply Kd.R_drew)); exact HO228.out))) (below_size (by repeat (first | (with_reducible first | exact HB.out | apply below_alloc | apply pw_below_drewN | apply below_drew1) | exact HB.out))))
                have n3_ := Aside0.mk (below_step (by repeat (first | (with_reducible first | exact HB.out | apply below_alloc | apply pw_below_drewN | apply below_drew1) | exact HB.out)) hb)
                clear HO_12
                clear HO228
                clear HB
                have HO_12 := n0_
                have HO228 := n1_
                have HO225 := n2_
                have HB := n3_
                clear n0_ n1_ n2_ n3_
                clear hb ho46
                refine hK.out _ _ trivial (fun hHeld => ?_)
                clear hK K
                refine norm_ (a' := ?_) ?_ ?_
                rotate_left
                ·show Act.put _ (some 76) _ = _
                 simp only [Act.put, List.setIfInBounds_toArray, List.set_cons_zero, List.set_cons_succ, i64_w, i32_w]
                 rfl
                refine pure_ (i := 4) (N := some 15) (v := ?_) (a' := ?_) #[true, true, true, true, true, false] rfl rfl (by kernel_rfl) (fun _ _ _ h => h) (Or.inl ⟨by rfl, ?_⟩) ?_ ?_
                rotate_left
                ·intro w'
                 go_simp
                 with_reducible rfl
                rotate_left
                ·simp only [Act.put, List.setIfInBounds_toArray, List.set_cons_zero, List.set_cons_succ, i64_w, i32_w]
                 rfl
                exact norm_ (by simp only [putAll, Act.put, List.setIfInBounds_toArray, List.set_cons_zero, List.set_cons_succ]) (hCont (v224, v227) _ ⟨(by (with_reducible repeat (first | apply Kd.R_alloc | apply Kd.R_drewN | apply Kd.R_drew)); exact Kd.R_mono HO225.out (fun _ hk => hk.2)), (by (with_reducible repeat (first | apply Kd.R_alloc | apply Kd.R_drewN | apply Kd.R_drew)); exact Kd.R_mono HO228.out (fun _ hk => hk.2)), (by (with_reducible repeat (first | apply Kd.R_alloc | apply Kd.R_drewN | apply Kd.R_drew)); exact HO_12.out), (by repeat (first | (with_reducible first | exact HB.out | apply below_alloc | apply pw_below_drewN | apply below_drew1) | exact HB.out))⟩)
              rintro ⟨v224, v227⟩ w47 ⟨h0_, h1_, h2_, h3_⟩
              have n0_ : Aside0 (Kd.R k26 26 w47 w.heap.size (fun k_ => some k_ ≠ (v227 : Value).ownBlock) v224 y223) := ⟨h0_⟩
              have n1_ : Aside0 (Kd.R k26 26 w47 w.heap.size (fun k_ => some k_ ≠ (v224 : Value).ownBlock) v227 y226) := ⟨h1_⟩
              have n2_ : Aside0 (Kd.R (Kd.int .i64) 3 w47 w.heap.size (fun _ => True) v217 x12_2) := ⟨h2_⟩
              have n3_ : Aside0 (Below w.heap.size w w47) := ⟨h3_⟩
              clear HO_12
              clear HB
              clear h0_ h1_ h2_ h3_
              have HO225 := n0_
              have HO228 := n1_
              have HO_12 := n2_
              have HB := n3_
              clear n0_ n1_ n2_ n3_
              have hHeld := trivial
              refine norm_ (a' := ?_) ?_ ?_
              rotate_left
              ·simp only [putAll, Act.put, List.setIfInBounds_toArray, List.set_cons_zero, List.set_cons_succ]
               rfl
              refine pure_ (i := 5) (N := some 16) (v := ?_) (a' := ?_) #[true, true, true, true, true, true] rfl rfl (by kernel_rfl) (fun _ _ _ h => h) (Or.inl ⟨by rfl, ?_⟩) ?_ ?_
              rotate_left
              ·intro w'
               go_simp
               with_reducible rfl
              rotate_left
              ·simp only [Act.put, List.setIfInBounds_toArray, List.set_cons_zero, List.set_cons_succ, i64_w, i32_w]
               rfl
              refine done_ (by kernel_rfl) ?_
              obtain ⟨Ao48, co48, eo48⟩ := Kd.R_slice HO_12.out
              subst eo48
              try go_wp2
              go_loopg [81] k2 (fun kq v81 w' => ∃ (x15_3 : List (S26)) (x16_3 : List (S26)) (x81_3 : Int), v81 = .int .i64 x81_3 ∧ Aside0 (beat_Beats.l1 kq a3 x12_2 x15_3 x16_3 x12_2 (x12_2.length : Int) x81_3 = some (r1, r2, r3)) ∧ Aside0 (kq ≤ k2) ∧ Aside0 (Kd.R (Kd.int .i64) 3 w' w.heap.size (fun _ => True) (.slice Ao48 x12_2.length co48) x12_2) ∧ Aside0 (Kd.R k26 26 w' w.heap.size (fun k_ => some k_ ≠ (v227 : Value).ownBlock) v224 x15_3) ∧ Aside0 (Kd.R k26 26 w' w.heap.size (fun k_ => some k_ ≠ (v224 : Value).ownBlock) v227 x16_3) ∧ Aside0 (Kd.R (Kd.int .i64) 3 w' w.heap.size (fun _ => True) (.slice Ao48 x12_2.length co48) x12_2) ∧ Aside0 (Below w.heap.size w w'))
              case atStart => exact ⟨(y223), (y226), (0), (by first | rfl | (simp; done) | (simp [*]; done) | (simp [Int.tdiv_eq_ediv_of_nonneg]; done)), H', ⟨Nat.le_refl _⟩, ⟨by (with_reducible repeat (first | apply Kd.R_alloc | apply Kd.R_drewN | apply Kd.R_drew)); exact HO_12.out⟩, ⟨by (with_reducible repeat (first | apply Kd.R_alloc | apply Kd.R_drewN | apply Kd.R_drew)); exact HO225.out⟩, ⟨by (with_reducible repeat (first | apply Kd.R_alloc | apply Kd.R_drewN | apply Kd.R_drew)); exact HO228.out⟩, ⟨by (with_reducible repeat (first | apply Kd.R_alloc | apply Kd.R_drewN | apply Kd.R_drew)); exact HO_12.out⟩, ⟨by repeat (first | (with_reducible first | exact HB.out | apply below_alloc | apply pw_below_drewN | apply below_drew1) | exact HB.out)⟩⟩
              case round =>
               clear H'
               try clear c1
               try clear c2
               try clear p2
               try clear q2
               try clear hx2
               try clear c3
               try clear p3
               try clear q3
               try clear hx3
               try clear c4
               try clear c5
               try clear c5b0
               try clear c5b1
               try clear p6
               try clear c7
               try clear c7b0
               try clear c8
               try clear c8b0
               try clear c9
               try clear c9b0
               try clear c10
               try clear c12
               try clear c14
               try clear c16
               try clear c16b0
               try clear c16b1
               try clear c17
               try clear c17b0
               try clear c17b1
               try clear c21
               try clear c21b0
               try clear p21
               try clear q21
               try clear hx21
               try clear c22
               try clear c22b0
               try clear p22
               try clear q22
               try clear hx22
               try clear c23
               try clear c23b0
               try clear c24
               try clear c24b0
               try clear c24b1
               try clear c25
               try clear c25b0
               try clear c25b1
               try clear c26
               try clear c26b0
               try clear c26b1
               try clear c27
               try clear c28
               try clear c28b0
               try clear c29
               try clear c29b0
               try clear p30
               try clear q30
               try clear hx30
               try clear hf30
               try clear c36
               try clear c40
               try clear c40b0
               try clear c40b1
               try clear c41
               try clear c41b0
               try clear c41b1
               try clear hcz32_0
               try clear hcz32_1
               try clear hcz32_2
               try clear hcz32_3
               try clear hcz34_0
               try clear hcz34_1
               try clear hcz34_2
               try clear hcz34_3
               try clear hcz39_0
               try clear hcz39_1
               try clear hcz39_2
               try clear hcz39_3
               try clear hfz32_0
               try clear hfz32_1
               try clear hfz32_2
               try clear hfz32_3
               try clear hfz34_0
               try clear hfz34_1
               try clear hfz34_2
               try clear hfz34_3
               try clear hfz39_0
               try clear hfz39_1
               try clear hfz39_2
               try clear hfz39_3
               try clear hx219_0
               try clear hx219_1
               try clear hx219_2
               try clear hx219_3
               try clear hx221_0
               try clear hx30_0
               try clear p2
               try clear p219
               try clear p221
               try clear p30
               try clear q219
               try clear q221
               try clear q30
               obtain ⟨x15_3, x16_3, x81_3, rfl, HA, HK3, HO_12, HO_15, HO_16, HO_79, HB⟩ := hrel
               cases gk with
               | zero => exact absurd HA.out (by simp [beat_Beats.l1])
               | succ k3 =>
                have H := HA.out
                clear HA
                simp only [beat_Beats.l1] at H
                by_cases c49 : x81_3 < (x12_2.length : Int)
                ·rw [if_pos c49] at H
                 have c49b0 : decide (x81_3 < (x12_2.length : Int)) = true := decide_eq_true c49
                 clear c49
                 by_cases c50 : 0 ≤ x81_3
                 ·rw [if_pos c50] at H
                  have c50b0 : decide (0 ≤ x81_3) = true := decide_eq_true c50
                  clear c50
                  by_cases c51 : x81_3 < (x12_2.length : Int)
                  ·rw [if_pos c51] at H
                   have c51b0 : decide (x81_3 < (x12_2.length : Int)) = true := decide_eq_true c51
                   clear c51
                   by_cases c52 : a3 = 0
                   ·rw [if_pos c52] at H
                    exact absurd H (by simp)
                   ·rw [if_neg c52] at H
                    have c52b0 : (a3 == 0) = false := beq_eq_false_iff_ne.mpr c52
                    have c52b1 : (a3 != 0) = true := bne_iff_ne.mpr c52
                    by_cases c53 : x81_3 < (x15_3.length : Int)
                    ·rw [if_pos c53] at H
                     have c53b0 : decide (x81_3 < (x15_3.length : Int)) = true := decide_eq_true c53
                     clear c53
                     obtain ⟨y230, hy230⟩ : ∃ y_ : List (S26), y_ = (x15_3.set (x81_3 : Int).toNat (⟨rd x12_2 x81_3, (rd_T26 x15_3 x81_3).f1⟩ : S26)) := ⟨_, rfl⟩
                     replace H : (if 0 ≤ (Int.tmod (wrap64 (a3 - x81_3)) a3) then (if (Int.tmod (wrap64 (a3 - x81_3)) a3) < (x16_3.length : Int) then (beat_Beats.l1 k3 a3 x12_2 y230 (x16_3.set ((Int.tmod (wrap64 (a3 - x81_3)) a3) : Int).toNat (⟨rd x12_2 x81_3, (rd_T26 x16_3 (Int.tmod (wrap64 (a3 - x81_3)) a3)).f1⟩ : S26)) x12_2 (x12_2.length : Int) (wrap64 (x81_3 + 1))) else (none)) else (none)) = some (r1, r2, r3) := by first | (rw [hy230]; with_reducible exact H) | (have H2_ := (Option.bind_some _ _).symm.trans H; rw [hy230]; with_reducible exact H2_) | (have H2_ := (Option.bind_some _ _).symm.trans H; with_reducible exact H2_) | with_reducible exact H | (rw [hy230]; exact H) | exact H
                     have Ny230 := Aside0.mk hy230
                     clear hy230
                     obtain ⟨ji55, hji55⟩ : ∃ j_ : Int, (Int.tmod (wrap64 (a3 - x81_3)) a3) = j_ := ⟨_, rfl⟩
                     replace H : (if 0 ≤ (ji55) then (if (ji55) < (x16_3.length : Int) then (beat_Beats.l1 k3 a3 x12_2 y230 (x16_3.set ((ji55) : Int).toNat (⟨rd x12_2 x81_3, (rd_T26 x16_3 (ji55)).f1⟩ : S26)) x12_2 (x12_2.length : Int) (wrap64 (x81_3 + 1))) else (none)) else (none)) = some (r1, r2, r3) := by first | (rw [hji55] at H; exact H) | (simp only [hji55] at H ⊢; exact H)
                     by_cases c56 : 0 ≤ (ji55)
                     ·rw [if_pos c56] at H
                      have c56b0 : decide (0 ≤ (ji55)) = true := decide_eq_true c56
                      clear c56
                      by_cases c57 : (ji55) < (x16_3.length : Int)
                      ·rw [if_pos c57] at H
                       have c57b0 : decide ((ji55) < (x16_3.length : Int)) = true := decide_eq_true c57
                       clear c57
                       obtain ⟨y231, hy231⟩ : ∃ y_ : List (S26), y_ = (x16_3.set ((ji55) : Int).toNat (⟨rd x12_2 x81_3, (rd_T26 x16_3 (ji55)).f1⟩ : S26)) := ⟨_, rfl⟩
                       replace H : (beat_Beats.l1 k3 a3 x12_2 y230 y231 x12_2 (x12_2.length : Int) (wrap64 (x81_3 + 1))) = some (r1, r2, r3) := by first | (rw [hy231]; with_reducible exact H) | (have H2_ := (Option.bind_some _ _).symm.trans H; rw [hy231]; with_reducible exact H2_) | (have H2_ := (Option.bind_some _ _).symm.trans H; with_reducible exact H2_) | with_reducible exact H | (rw [hy231]; exact H) | exact H
                       have Ny231 := Aside0.mk hy231
                       clear hy231
                       have H' := Aside0.mk H
                       clear H
                       have p229 : 0 ≤ (x81_3 : Int) := of_decide_eq_true (by first | (with_reducible assumption) | assumption)
                       have q229 : x81_3 < (x12_2.length : Int) := of_decide_eq_true (by first | (with_reducible assumption) | assumption)
                       obtain ⟨ad229, e229, hx229_0⟩ := Kd.at_int (Kd.R_reads' HO_79.out).2.2 x81_3 p229 q229
                       cases e229
                       replace p229 := eq_true p229
                       replace q229 := eq_true q229
                       try go_wp2
                       have n0_ := Aside0.mk (Kd.R_drew HO_12.out)
                       have n1_ := Aside0.mk (Kd.R_drew HO_15.out)
                       have n2_ := Aside0.mk (Kd.R_drew HO_16.out)
                       have n3_ := Aside0.mk (Kd.R_drew HO_79.out)
                       have n4_ := Aside0.mk (below_drew1 HB.out)
                       clear HO_12
                       clear HO_15
                       clear HO_16
                       clear HO_79
                       clear HB
                       have HO_12 := n0_
                       have HO_15 := n1_
                       have HO_16 := n2_
                       have HO_79 := n3_
                       have HB := n4_
                       clear n0_ n1_ n2_ n3_ n4_
                       have p54 : 0 ≤ (x81_3 : Int) := of_decide_eq_true (by first | (with_reducible assumption) | assumption)
                       have q54 : (x81_3 : Int) < ((x15_3.length : Int) : Int) := of_decide_eq_true (by first | (with_reducible assumption) | assumption)
                       obtain ⟨go54, co54, eo54, gb54, gl54, cl54, HG54⟩ := Kd.R_form HO_15.out (by omega)
                       (first | cases eo54 | (injection eo54 with ea_ en_ ec_; (first | subst ea_ | (injection ea_ with ea_; subst ea_)); subst ec_; clear en_))
                       have GB54 := Aside0.mk gb54
                       have GG54 := Aside0.mk HG54
                       clear gb54 gl54 HG54
                       obtain ⟨ce54, hcl54, hM54, hcc54, hfr54⟩ := Kd.R_elem HO_15.out z26 (x81_3 : Int) p54 q54
                       obtain rfl := k26_openM hM54
                       have hx54_0 : World.cell? _ ⟨go54, (x81_3 : Int).toNat * 2, none⟩ = some (.int .i64 ((rd_T26 x15_3 x81_3).f0)) := hcc54 0 _ rfl
                       have hx54_1 : World.cell? _ ⟨go54, (x81_3 : Int).toNat * 2 + 1, none⟩ = some (.int .i64 ((rd_T26 x15_3 x81_3).f1)) := hcc54 1 _ rfl
                       have hf54_0 : World.frozen? _ ⟨go54, (x81_3 : Int).toNat * 2, none⟩ = false := hfr54 0
                       have hf54_1 : World.frozen? _ ⟨go54, (x81_3 : Int).toNat * 2 + 1, none⟩ = false := hfr54 1
                       clear hcl54 hcc54 hfr54 hM54
                       replace p54 := eq_true p54
                       replace q54 := eq_true q54
                       obtain ⟨ce60, hcl60, hM60, hcc60, hfr60⟩ := Kd.R_elem HO_15.out z26 (x81_3 : Int) (of_decide_eq_true (by first | (with_reducible assumption) | assumption)) (by have h_ : (x81_3 : Int) < ((x15_3.length : Int) : Int) := of_decide_eq_true (by first | (with_reducible assumption) | assumption); first | exact h_ | (have e_ := (Kd.R_reads' HO_15.out).1; omega) | simpa using h_)
                       obtain rfl := k26_openM hM60
                       have HP60 := (Kd.R_seg HO_15.out (x81_3 : Int) (of_decide_eq_true (by first | (with_reducible assumption) | assumption)) (by have h_ : (x81_3 : Int) < ((x15_3.length : Int) : Int) := of_decide_eq_true (by first | (with_reducible assumption) | assumption); first | exact h_ | (have e_ := (Kd.R_reads' HO_15.out).1; omega) | simpa using h_) (seg := [.int .i64 (rd x12_2 x81_3)]) (j := 0) hcl60 hcc60 (show 1 ≤ 2 from by decide) (x' := (⟨rd x12_2 x81_3, (rd_T26 x15_3 x81_3).f1⟩ : S26)) (k26_mkM _ _ _ (⟨rd x12_2 x81_3, (rd_T26 x15_3 x81_3).f1⟩ : S26) ) (fun _ hk => hk)).1
                       rw [← Ny230.out] at HP60
                       have HQ60 := Aside0.mk HP60
                       clear hcl60 hcc60 hfr60 hM60 HP60
                       have p58 : 0 ≤ ((ji55) : Int) := of_decide_eq_true (by first | (with_reducible assumption) | assumption)
                       have q58 : ((ji55) : Int) < ((x16_3.length : Int) : Int) := of_decide_eq_true (by first | (with_reducible assumption) | assumption)
                       obtain ⟨go58, co58, eo58, gb58, gl58, cl58, HG58⟩ := Kd.R_form HO_16.out (by omega)
                       (first | cases eo58 | (injection eo58 with ea_ en_ ec_; (first | subst ea_ | (injection ea_ with ea_; subst ea_)); subst ec_; clear en_))
                       have GB58 := Aside0.mk gb58
                       have GG58 := Aside0.mk HG58
                       clear gb58 gl58 HG58
                       obtain ⟨ce58, hcl58, hM58, hcc58, hfr58⟩ := Kd.R_elem (Kd.R_far (p := ⟨go54, (x81_3 : Int).toNat * 2, none⟩) (Kd.R_mono HO_16.out (fun k_ hk => (⟨hk, fun e_ => hk (by rw [e_]; rfl)⟩ : _ ∧ k_ ≠ go54))) (fun _ hk => hk.2) (.int .i64 (rd x12_2 x81_3))) z26 ((ji55) : Int) p58 q58
                       obtain rfl := k26_openM hM58
                       have hx58_0 : World.cell? _ ⟨go58, ((ji55) : Int).toNat * 2, none⟩ = some (.int .i64 ((rd_T26 x16_3 (ji55)).f0)) := hcc58 0 _ rfl
                       have hx58_1 : World.cell? _ ⟨go58, ((ji55) : Int).toNat * 2 + 1, none⟩ = some (.int .i64 ((rd_T26 x16_3 (ji55)).f1)) := hcc58 1 _ rfl
                       have hf58_0 : World.frozen? _ ⟨go58, ((ji55) : Int).toNat * 2, none⟩ = false := hfr58 0
                       have hf58_1 : World.frozen? _ ⟨go58, ((ji55) : Int).toNat * 2 + 1, none⟩ = false := hfr58 1
                       clear hcl58 hcc58 hfr58 hM58
                       replace p58 := eq_true p58
                       replace q58 := eq_true q58
                       obtain ⟨ce61, hcl61, hM61, hcc61, hfr61⟩ := Kd.R_elem (Kd.R_far (p := ⟨go54, (x81_3 : Int).toNat * 2, none⟩) (Kd.R_mono HO_16.out (fun k_ hk => (⟨hk, fun e_ => hk (by rw [e_]; rfl)⟩ : _ ∧ k_ ≠ go54))) (fun _ hk => hk.2) (.int .i64 (rd x12_2 x81_3))) z26 ((ji55) : Int) (of_decide_eq_true (by first | (with_reducible assumption) | assumption)) (by have h_ : ((ji55) : Int) < ((x16_3.length : Int) : Int) := of_decide_eq_true (by first | (with_reducible assumption) | assumption); first | exact h_ | (have e_ := (Kd.R_reads' HO_16.out).1; omega) | simpa using h_)
                       obtain rfl := k26_openM hM61
                       have HP61 := (Kd.R_seg (Kd.R_far (p := ⟨go54, (x81_3 : Int).toNat * 2, none⟩) (Kd.R_mono HO_16.out (fun k_ hk => (⟨hk, fun e_ => hk (by rw [e_]; rfl)⟩ : _ ∧ k_ ≠ go54))) (fun _ hk => hk.2) (.int .i64 (rd x12_2 x81_3))) ((ji55) : Int) (of_decide_eq_true (by first | (with_reducible assumption) | assumption)) (by have h_ : ((ji55) : Int) < ((x16_3.length : Int) : Int) := of_decide_eq_true (by first | (with_reducible assumption) | assumption); first | exact h_ | (have e_ := (Kd.R_reads' HO_16.out).1; omega) | simpa using h_) (seg := [.int .i64 (rd x12_2 x81_3)]) (j := 0) hcl61 hcc61 (show 1 ≤ 2 from by decide) (x' := (⟨rd x12_2 x81_3, (rd_T26 x16_3 (ji55)).f1⟩ : S26)) (k26_mkM _ _ _ (⟨rd x12_2 x81_3, (rd_T26 x16_3 (ji55)).f1⟩ : S26) ) (fun _ hk => hk)).1
                       rw [← Ny231.out] at HP61
                       have HQ61 := Aside0.mk HP61
                       clear hcl61 hcc61 hfr61 hM61 HP61
                       refine start_ (n := 16) (S := fun w' => True) (ds := [12, 15]) #[false, false, false, false, false, false, false, false, false, false, false, false, false, false, false, false] (by kernel_rfl) rfl rfl trivial (fun hHeld => ?_); refine with_tabW beat_Beats.tab21 beat_Beats.bits21 (fun HT_ HW_ => ?_)
                       generalize wr.drew = w59 at HO_12 HO_15 HO_16 HO_79 HB GG54 GG58 HQ60 HQ61 hf54_0 hf54_1 hf58_0 hf58_1 hx54_0 hx54_1 hx58_0 hx58_1 hHeld ⊢
                       refine pure_ (i := 0) (N := some 86) (v := ?_) (a' := ?_) #[true, false, false, false, false, false, false, false, false, false, false, false, false, false, false, false] rfl rfl (any_of HT_.out (by kernel_rfl)) (fun _ _ _ h => h) (Or.inl ⟨by rfl, ?_⟩) ?_ ?_
                       rotate_left
                       ·intro w'
                        go_simp
                        with_reducible rfl
                       rotate_left
                       ·simp only [Act.put, List.setIfInBounds_toArray, List.set_cons_zero, List.set_cons_succ, i64_w, i32_w]
                        rfl
                       refine pure_ (i := 1) (N := some 87) (v := ?_) (a' := ?_) #[true, true, false, false, false, false, false, false, false, false, false, false, false, false, false, false] rfl rfl (any_of HT_.out (by kernel_rfl)) (fun _ _ _ h => h) (Or.inl ⟨by rfl, ?_⟩) ?_ ?_
                       rotate_left
                       ·intro w'
                        go_simp
                        with_reducible rfl
                       rotate_left
                       ·simp only [Act.put, List.setIfInBounds_toArray, List.set_cons_zero, List.set_cons_succ, i64_w, i32_w]
                        rfl
                       refine pure_ (i := 2) (N := some 88) (v := ?_) (a' := ?_) #[true, true, true, false, false, false, false, false, false, false, false, false, false, false, false, false] rfl rfl (any_of HT_.out (by kernel_rfl)) (fun _ _ _ h => h) (Or.inl ⟨by rfl, ?_⟩) ?_ ?_
                       rotate_left
                       ·intro w'
                        go_simp
                        with_reducible rfl
                       rotate_left
                       ·simp only [Act.put, List.setIfInBounds_toArray, List.set_cons_zero, List.set_cons_succ, i64_w, i32_w]
                        rfl
                       refine pure_ (i := 3) (N := some 89) (v := ?_) (a' := ?_) #[true, true, true, true, false, false, false, false, false, false, false, false, false, false, false, false] rfl rfl (any_of HT_.out (by kernel_rfl)) (fun _ _ _ h => h) (Or.inl ⟨by rfl, ?_⟩) ?_ ?_
                       rotate_left
                       ·intro w'
                        go_simp
                        with_reducible rfl
                       rotate_left
                       ·simp only [Act.put, List.setIfInBounds_toArray, List.set_cons_zero, List.set_cons_succ, i64_w, i32_w]
                        rfl
                       refine pure_ (i := 4) (N := some 90) (v := ?_) (a' := ?_) #[true, true, true, true, true, false, false, false, false, false, false, false, false, false, false, false] rfl rfl (any_of HT_.out (by kernel_rfl)) (fun _ _ _ h => h) (Or.inl ⟨by rfl, ?_⟩) ?_ ?_
                       rotate_left
                       ·intro w'
                        go_simp
                        with_reducible rfl
                       rotate_left
                       ·simp only [Act.put, List.setIfInBounds_toArray, List.set_cons_zero, List.set_cons_succ, i64_w, i32_w]
                        rfl
                       refine pure_ (i := 5) (N := some 91) (v := ?_) (a' := ?_) #[true, true, true, true, true, true, false, false, false, false, false, false, false, false, false, false] rfl rfl (any_of HT_.out (by kernel_rfl)) (fun _ _ _ h => h) (Or.inl ⟨by rfl, ?_⟩) ?_ ?_
                       rotate_left
                       ·intro w'
                        go_simp
                        with_reducible rfl
                       rotate_left
                       ·simp only [Act.put, List.setIfInBounds_toArray, List.set_cons_zero, List.set_cons_succ, i64_w, i32_w]
                        rfl
                       refine pure_ (i := 6) (N := some 92) (v := ?_) (a' := ?_) #[true, true, true, true, true, true, true, false, false, false, false, false, false, false, false, false] rfl rfl (any_of HT_.out (by kernel_rfl)) (fun _ _ _ h => h) (Or.inl ⟨by rfl, ?_⟩) ?_ ?_
                       rotate_left
                       ·intro w'
                        go_simp
                        with_reducible rfl
                       rotate_left
                       ·simp only [Act.put, List.setIfInBounds_toArray, List.set_cons_zero, List.set_cons_succ, i64_w, i32_w]
                        rfl
                       refine pure_ (i := 7) (N := some 93) (v := ?_) (a' := ?_) #[true, true, true, true, true, true, true, true, false, false, false, false, false, false, false, false] rfl rfl (any_of HT_.out (by kernel_rfl)) (fun _ _ _ h => h) (Or.inl ⟨by rfl, ?_⟩) ?_ ?_
                       rotate_left
                       ·intro w'
                        go_simp
                        with_reducible rfl
                       rotate_left
                       ·simp only [Act.put, List.setIfInBounds_toArray, List.set_cons_zero, List.set_cons_succ, i64_w, i32_w]
                        rfl
                       refine pure_ (i := 8) (N := some 94) (v := ?_) (a' := ?_) #[true, true, true, true, true, true, true, true, true, false, false, false, false, false, false, false] rfl rfl (any_of HT_.out (by kernel_rfl)) (fun _ _ _ h => h) (Or.inl ⟨by rfl, ?_⟩) ?_ ?_
                       rotate_left
                       ·intro w'
                        go_simp
                        with_reducible rfl
                       rotate_left
                       ·simp only [Act.put, List.setIfInBounds_toArray, List.set_cons_zero, List.set_cons_succ, i64_w, i32_w]
                        rfl
                       refine pure_ (i := 9) (N := some 95) (v := ?_) (a' := ?_) #[true, true, true, true, true, true, true, true, true, true, false, false, false, false, false, false] rfl rfl (any_of HT_.out (by kernel_rfl)) (fun _ _ _ h => h) (Or.inl ⟨by rfl, ?_⟩) ?_ ?_
                       rotate_left
                       ·intro w'
                        go_simp
                        with_reducible rfl
                       rotate_left
                       ·simp only [Act.put, List.setIfInBounds_toArray, List.set_cons_zero, List.set_cons_succ, i64_w, i32_w]
                        rfl
                       refine pure_ (i := 10) (N := some 96) (v := ?_) (a' := ?_) #[true, true, true, true, true, true, true, true, true, true, true, false, false, false, false, false] rfl rfl (any_of HT_.out (by kernel_rfl)) (fun _ _ _ h => h) (Or.inl ⟨by rfl, ?_⟩) ?_ ?_
                       rotate_left
                       ·intro w'
                        go_simp
                        with_reducible rfl
                       rotate_left
                       ·simp only [Act.put, List.setIfInBounds_toArray, List.set_cons_zero, List.set_cons_succ, i64_w, i32_w]
                        rfl
                       refine pure_ (i := 11) (N := some 97) (v := ?_) (a' := ?_) #[true, true, true, true, true, true, true, true, true, true, true, true, false, false, false, false] rfl rfl (any_of HT_.out (by kernel_rfl)) (fun _ _ _ h => h) (Or.inl ⟨by rfl, ?_⟩) ?_ ?_
                       rotate_left
                       ·intro w'
                        go_simp
                        with_reducible rfl
                       rotate_left
                       ·simp only [Act.put, List.setIfInBounds_toArray, List.set_cons_zero, List.set_cons_succ, i64_w, i32_w]
                        rfl
                       refine last_ (i := 12) (N := none) #[true, true, true, true, true, true, true, true, true, true, true, true, true, false, false, false] rfl rfl (one_of HT_.out (by kernel_rfl)) (by decide) (fun K hK => ?_)
                       refine skip_ (w1 := ?_) (by rfl) rfl ?_ ?_
                       rotate_left
                       ·go_simp
                        rfl
                       refine hK.out _ _ ?_
                       clear hK K
                       refine pure_ (i := 13) (N := some 98) (v := ?_) (a' := ?_) #[true, true, true, true, true, true, true, true, true, true, true, true, true, true, false, false] rfl rfl (any_of HT_.out (by kernel_rfl)) (fun _ _ _ h => h) (Or.inl ⟨by rfl, ?_⟩) ?_ ?_
                       rotate_left
                       ·intro w'
                        go_simp
                        with_reducible rfl
                       rotate_left
                       ·simp only [Act.put, List.setIfInBounds_toArray, List.set_cons_zero, List.set_cons_succ, i64_w, i32_w]
                        rfl
                       refine pure_ (i := 14) (N := some 99) (v := ?_) (a' := ?_) #[true, true, true, true, true, true, true, true, true, true, true, true, true, true, true, false] rfl rfl (any_of HT_.out (by kernel_rfl)) (fun _ _ _ h => h) (Or.inl ⟨by rfl, ?_⟩) ?_ ?_
                       rotate_left
                       ·intro w'
                        go_simp
                        with_reducible rfl
                       rotate_left
                       ·simp only [Act.put, List.setIfInBounds_toArray, List.set_cons_zero, List.set_cons_succ, i64_w, i32_w]
                        rfl
                       refine last_ (i := 15) (N := none) #[true, true, true, true, true, true, true, true, true, true, true, true, true, true, true, true] rfl rfl (one_of HT_.out (by kernel_rfl)) (by decide) (fun K hK => ?_)
                       refine skip_ (w1 := ?_) (by rfl) rfl ?_ ?_
                       rotate_left
                       ·go_simp
                        rfl
                       refine hK.out _ _ ?_
                       clear hK K
                       refine done_ (done_of HT_.out (by kernel_rfl)) ?_
                       try go_wp2
                       go_roundg k3
                       case measure => have := HJ5.out; have := HK2.out; have := HK3.out; omega
                       case rel => exact ⟨(y230), (y231), (wrap64 (x81_3 + 1)), (by first | rfl | (simp; done) | (simp [*]; done) | (simp [Int.tdiv_eq_ediv_of_nonneg]; done)), H', ⟨by have := HJ5.out; have := HK2.out; have := HK3.out; omega⟩, ⟨by (with_reducible repeat (first | apply Kd.R_alloc | apply Kd.R_drewN | apply Kd.R_drew)); exact Kd.R_mono (Kd.R_far (p := ⟨go58, ((ji55) : Int).toNat * 2, none⟩) (Kd.R_far (p := ⟨go54, (x81_3 : Int).toNat * 2, none⟩) (Kd.R_types (Kd.R_types HO_12.out GG54.out (by decide)) GG58.out (by decide)) (fun _ hk => hk.1.2) (.int .i64 (rd x12_2 x81_3))) (fun _ hk => hk.2) (.int .i64 (rd x12_2 x81_3))) (fun _ hk => trivial)⟩, ⟨by (with_reducible repeat (first | apply Kd.R_alloc | apply Kd.R_drewN | apply Kd.R_drew)); exact Kd.R_mono (Kd.R_far (p := ⟨go58, ((ji55) : Int).toNat * 2, none⟩) (Kd.R_mono HQ60.out (fun k_ hk => (⟨hk, fun e_ => hk (by rw [e_]; rfl)⟩ : _ ∧ k_ ≠ go58))) (fun _ hk => hk.2) (.int .i64 (rd x12_2 x81_3))) (fun _ hk => hk.1)⟩, ⟨by (with_reducible repeat (first | apply Kd.R_alloc | apply Kd.R_drewN | apply Kd.R_drew)); exact Kd.R_mono HQ61.out (fun _ hk => hk.1)⟩, ⟨by (with_reducible repeat (first | apply Kd.R_alloc | apply Kd.R_drewN | apply Kd.R_drew)); exact Kd.R_mono (Kd.R_far (p := ⟨go58, ((ji55) : Int).toNat * 2, none⟩) (Kd.R_far (p := ⟨go54, (x81_3 : Int).toNat * 2, none⟩) (Kd.R_types (Kd.R_types HO_79.out GG54.out (by decide)) GG58.out (by decide)) (fun _ hk => hk.1.2) (.int .i64 (rd x12_2 x81_3))) (fun _ hk => hk.2) (.int .i64 (rd x12_2 x81_3))) (fun _ hk => trivial)⟩, ⟨by repeat (first | (with_reducible first | exact HB.out | apply below_alloc | apply pw_below_drewN | apply below_drew1 | refine below_set ?_ GB54.out | refine below_set ?_ GB58.out) | exact HB.out)⟩⟩
                      ·rw [if_neg c57] at H
                       exact absurd H (by simp)
                     ·rw [if_neg c56] at H
                      exact absurd H (by simp)
                    ·rw [if_neg c53] at H
                     exact absurd H (by simp)
                  ·rw [if_neg c51] at H
                   exact absurd H (by simp)
                 ·rw [if_neg c50] at H
                  exact absurd H (by simp)
                ·rw [if_neg c49] at H
                 have c49b0 : decide (x81_3 < (x12_2.length : Int)) = false := decide_eq_false c49
                 clear c49
                 replace H := Option.bind_eq_some_iff.mp H
                 obtain ⟨⟨t232, t233⟩, A620, H⟩ := H
                 replace H : (if t233 = 0 then (if 0 ≤ a3 then (if (a3 : Int).toNat ≤ 35184372088832 then (beat_Beats.l2 k3 a3 x12_2 (List.replicate (a3 : Int).toNat 0) t232 (t232.length : Int) 0) else (none)) else (none)) else (some (([] : List Int), ([] : List Int), t233))) = some (r1, r2, r3) := H
                 have A62 := Aside0.mk A620
                 clear A620
                 by_cases c63 : t233 = 0
                 ·rw [if_pos c63] at H
                  have c63b0 : (t233 == 0) = true := beq_iff_eq.mpr c63
                  have c63b1 : (t233 != 0) = false := bne_eq_false_iff_eq.mpr c63
                  clear c63
                  by_cases c64 : 0 ≤ a3
                  ·rw [if_pos c64] at H
                   have c64b0 := eq_true c64
                   have c64b1 : decide (0 ≤ a3) = true := decide_eq_true c64
                   clear c64
                   by_cases c65 : (a3 : Int).toNat ≤ 35184372088832
                   ·rw [if_pos c65] at H
                    have c65b0 := eq_true c65
                    have c65b1 : decide ((a3 : Int).toNat ≤ 35184372088832) = true := decide_eq_true c65
                    clear c65
                    obtain ⟨y236, hy236⟩ : ∃ y_ : List Int, y_ = (List.replicate (a3 : Int).toNat 0) := ⟨_, rfl⟩
                    replace H : (beat_Beats.l2 k3 a3 x12_2 y236 t232 (t232.length : Int) 0) = some (r1, r2, r3) := by first | (rw [hy236]; with_reducible exact H) | (have H2_ := (Option.bind_some _ _).symm.trans H; rw [hy236]; with_reducible exact H2_) | (have H2_ := (Option.bind_some _ _).symm.trans H; with_reducible exact H2_) | with_reducible exact H | (rw [hy236]; exact H) | exact H
                    have Ny236 := Aside0.mk hy236
                    clear hy236
                    have H' := Aside0.mk H
                    clear H
                    obtain ⟨Ao66, co66, eo66⟩ := Kd.R_slice HO_15.out
                    subst eo66
                    obtain ⟨Ao67, co67, eo67⟩ := Kd.R_slice HO_16.out
                    subst eo67
                    go_wp2_with (first | ((with_reducible refine gate_callee (f := 16) rfl ?_); refine goesL_ (some 104) rfl rfl Try.func16 (by kernel_rfl) rfl #[.slice Ao66 x15_3.length co66, .slice Ao67 x16_3.length co67] rfl (by (try simp only [List.map_toArray, List.map_cons, List.map_nil]); first | done | rfl | (simp only [List.length_drop, List.length_take]; rfl)) ?_; (with_reducible refine (beat_Round.calls k3 _ _ x15_3 _ _ x16_3 t232 t233 _ ?side1 ?side2 ?side3 ?side4 A62.out).mono ?_); (case side1 => repeat (first | exact (Kd.R_reads' HO_15.out).2.2 | (with_reducible refine Kd.C_alloc ?_ _) | (with_reducible refine Kd.C_drewN ?_ _) | (with_reducible refine Kd.C_drew ?_))); (case side2 => exact (Kd.R_reads' HO_15.out).2.1); (case side3 => repeat (first | exact (Kd.R_reads' HO_16.out).2.2 | (with_reducible refine Kd.C_alloc ?_ _) | (with_reducible refine Kd.C_drewN ?_ _) | (with_reducible refine Kd.C_drew ?_))); (case side4 => exact (Kd.R_reads' HO_16.out).2.1); rintro e w68 ⟨v234, rfl, ho0, hb⟩; refine ⟨_, rfl, ?_⟩; have n0_ := Aside0.mk (Kd.R_below (by (with_reducible repeat (first | apply Kd.R_alloc | apply Kd.R_drewN | apply Kd.R_drew)); exact HO_12.out) hb); have n1_ := Aside0.mk (Kd.R_elder' (by (with_reducible repeat (first | apply Kd.R_alloc | apply Kd.R_drewN | apply Kd.R_drew)); exact HO_15.out) (Kd.R_base ho0) hb); have n2_ := Aside0.mk (Kd.R_elder' (by (with_reducible repeat (first | apply Kd.R_alloc | apply Kd.R_drewN | apply Kd.R_drew)); exact HO_16.out) (Kd.R_base ho0) hb); have n3_ := Aside0.mk (Kd.R_below (by (with_reducible repeat (first | apply Kd.R_alloc | apply Kd.R_drewN | apply Kd.R_drew)); exact HO_79.out) hb); have n4_ := Aside0.mk (Kd.R_lower (Kd.R_new' (Kd.R_new' ho0 (Kd.R_lt (by (with_reducible repeat (first | apply Kd.R_alloc | apply Kd.R_drewN | apply Kd.R_drew)); exact HO_15.out))) (Kd.R_lt (by (with_reducible repeat (first | apply Kd.R_alloc | apply Kd.R_drewN | apply Kd.R_drew)); exact HO_16.out))) (below_size (by repeat (first | (with_reducible first | exact HB.out | apply below_alloc | apply pw_below_drewN | apply below_drew1) | exact HB.out)))); have n5_ := Aside0.mk (below_step (by repeat (first | (with_reducible first | exact HB.out | apply below_alloc | apply pw_below_drewN | apply below_drew1) | exact HB.out)) hb); clear HO_12; clear HO_15; clear HO_16; clear HO_79; clear HB; have HO_12 := n0_; have HO_15 := n1_; have HO_16 := n2_; have HO_79 := n3_; have HO235 := n4_; have HB := n5_; clear n0_ n1_ n2_ n3_ n4_ n5_; (try clear hb); (try clear hb2); (try clear hk); (try clear hi); (try clear ho0)) | ((with_reducible refine gate_dst (N := 111) rfl ?_); refine Kd.R_make (Kd.int .i64) _ 3 rfl (N := 111) rfl 40 _ _ rfl a3 rfl rfl Try.underlying40 (.int .i64 0) 8 info3 rfl (by decide) (by omega) 0 (ok := fun _ => True) (okp := fun _ => True) rfl (fun _ hk => hk) trivial (of_decide_eq_true (by first | (with_reducible assumption) | assumption)) (Nat.le_trans (Nat.mul_le_mul_right _ (of_decide_eq_true (by first | (with_reducible assumption) | assumption) : a3.toNat ≤ 35184372088832)) (by omega)) (Below.refl _ _) (Nat.le_refl _) ?_; intro v237 w69 ho70 hb hg_ hnew_; clear hg_ hnew_; (first | rw [← Ny236.out] at ho70 | (simp only [Int.reduceToNat] at ho70; rw [← Ny236.out] at ho70)); have n0_ := Aside0.mk (Kd.R_elder' (by (with_reducible repeat (first | apply Kd.R_alloc | apply Kd.R_drewN | apply Kd.R_drew)); exact HO_12.out) (Kd.R_base ho70) hb); have n1_ := Aside0.mk (Kd.R_below (by (with_reducible repeat (first | apply Kd.R_alloc | apply Kd.R_drewN | apply Kd.R_drew)); exact HO_15.out) hb); have n2_ := Aside0.mk (Kd.R_below (by (with_reducible repeat (first | apply Kd.R_alloc | apply Kd.R_drewN | apply Kd.R_drew)); exact HO_16.out) hb); have n3_ := Aside0.mk (Kd.R_elder' (by (with_reducible repeat (first | apply Kd.R_alloc | apply Kd.R_drewN | apply Kd.R_drew)); exact HO_79.out) (Kd.R_base ho70) hb); have n4_ := Aside0.mk (Kd.R_below (by (with_reducible repeat (first | apply Kd.R_alloc | apply Kd.R_drewN | apply Kd.R_drew)); exact HO235.out) hb); have n5_ := Aside0.mk (Kd.R_lower (Kd.R_new' (Kd.R_new' ho70 (Kd.R_lt (by (with_reducible repeat (first | apply Kd.R_alloc | apply Kd.R_drewN | apply Kd.R_drew)); exact HO_12.out))) (Kd.R_lt (by (with_reducible repeat (first | apply Kd.R_alloc | apply Kd.R_drewN | apply Kd.R_drew)); exact HO_79.out))) (below_size (by repeat (first | (with_reducible first | exact HB.out | apply below_alloc | apply pw_below_drewN | apply below_drew1) | exact HB.out)))); have n6_ := Aside0.mk (below_step (by repeat (first | (with_reducible first | exact HB.out | apply below_alloc | apply pw_below_drewN | apply below_drew1) | exact HB.out)) hb); clear HO_12; clear HO_15; clear HO_16; clear HO_79; clear HO235; clear HB; have HO_12 := n0_; have HO_15 := n1_; have HO_16 := n2_; have HO_79 := n3_; have HO235 := n4_; have HO238 := n5_; have HB := n6_; clear n0_ n1_ n2_ n3_ n4_ n5_ n6_; clear hb ho70; obtain ⟨Ao71, co71, eo71⟩ := Kd.R_slice HO235.out; subst eo71))
                    go_loopg [114] k3 (fun kq v114 w' => ∃ (x21_4 : List Int) (x114_4 : Int), v114 = .int .i64 x114_4 ∧ Aside0 (beat_Beats.l2 kq a3 x12_2 x21_4 t232 (t232.length : Int) x114_4 = some (r1, r2, r3)) ∧ Aside0 (kq ≤ k3) ∧ Aside0 (Kd.R (Kd.int .i64) 3 w' w.heap.size (fun k_ => some k_ ≠ (v237 : Value).ownBlock) (.slice Ao48 x12_2.length co48) x12_2) ∧ Aside0 (Kd.R (Kd.int .i64) 3 w' w.heap.size (fun k_ => some k_ ≠ ((.slice Ao48 x12_2.length co48) : Value).ownBlock) v237 x21_4) ∧ Aside0 (Kd.R k26 26 w' w.heap.size (fun _ => True) (.slice Ao71 t232.length co71) t232) ∧ Aside0 (Below w.heap.size w w'))
                    case atStart => exact ⟨(y236), (0), (by first | rfl | (simp; done) | (simp [*]; done) | (simp [Int.tdiv_eq_ediv_of_nonneg]; done)), H', ⟨Nat.le_refl _⟩, ⟨by (with_reducible repeat (first | apply Kd.R_alloc | apply Kd.R_drewN | apply Kd.R_drew)); exact Kd.R_mono HO_12.out (fun _ hk => hk.2)⟩, ⟨by (with_reducible repeat (first | apply Kd.R_alloc | apply Kd.R_drewN | apply Kd.R_drew)); exact Kd.R_mono HO238.out (fun _ hk => hk.1.2)⟩, ⟨by (with_reducible repeat (first | apply Kd.R_alloc | apply Kd.R_drewN | apply Kd.R_drew)); exact Kd.R_mono HO235.out (fun _ hk => trivial)⟩, ⟨by repeat (first | (with_reducible first | exact HB.out | apply below_alloc | apply pw_below_drewN | apply below_drew1) | exact HB.out)⟩⟩
                    case round =>
                     clear H'
                     try clear c1
                     try clear c2
                     try clear p2
                     try clear q2
                     try clear hx2
                     try clear c3
                     try clear p3
                     try clear q3
                     try clear hx3
                     try clear c4
                     try clear c5
                     try clear c5b0
                     try clear c5b1
                     try clear p5
                     try clear q5
                     try clear hx5
                     try clear hf5
                     try clear c6
                     try clear p6
                     try clear c7
                     try clear c7b0
                     try clear c8
                     try clear c8b0
                     try clear c9
                     try clear c9b0
                     try clear c10
                     try clear c12
                     try clear c14
                     try clear c16
                     try clear c16b0
                     try clear c16b1
                     try clear c17
                     try clear c17b0
                     try clear c17b1
                     try clear c21
                     try clear c21b0
                     try clear p21
                     try clear q21
                     try clear hx21
                     try clear c22
                     try clear c22b0
                     try clear p22
                     try clear q22
                     try clear hx22
                     try clear c23
                     try clear c23b0
                     try clear c24
                     try clear c24b0
                     try clear c24b1
                     try clear c25
                     try clear c25b0
                     try clear c25b1
                     try clear c26
                     try clear c26b0
                     try clear c26b1
                     try clear c27
                     try clear c28
                     try clear c28b0
                     try clear c29
                     try clear c29b0
                     try clear p30
                     try clear q30
                     try clear hx30
                     try clear hf30
                     try clear c36
                     try clear c40
                     try clear c40b0
                     try clear c40b1
                     try clear c41
                     try clear c41b0
                     try clear c41b1
                     try clear c49
                     try clear c49b0
                     try clear c50
                     try clear c50b0
                     try clear c51
                     try clear c51b0
                     try clear c52
                     try clear c52b0
                     try clear c52b1
                     try clear c53
                     try clear c53b0
                     try clear c54
                     try clear p54
                     try clear q54
                     try clear hx54
                     try clear hf54
                     try clear c56
                     try clear c56b0
                     try clear c57
                     try clear c57b0
                     try clear c58
                     try clear p58
                     try clear q58
                     try clear hx58
                     try clear hf58
                     try clear c60
                     try clear c61
                     try clear c63
                     try clear c63b0
                     try clear c63b1
                     try clear c64
                     try clear c64b0
                     try clear c64b1
                     try clear p64
                     try clear c65
                     try clear c65b0
                     try clear c65b1
                     try clear hcz32_0
                     try clear hcz32_1
                     try clear hcz32_2
                     try clear hcz32_3
                     try clear hcz34_0
                     try clear hcz34_1
                     try clear hcz34_2
                     try clear hcz34_3
                     try clear hcz39_0
                     try clear hcz39_1
                     try clear hcz39_2
                     try clear hcz39_3
                     try clear hfz32_0
                     try clear hfz32_1
                     try clear hfz32_2
                     try clear hfz32_3
                     try clear hfz34_0
                     try clear hfz34_1
                     try clear hfz34_2
                     try clear hfz34_3
                     try clear hfz39_0
                     try clear hfz39_1
                     try clear hfz39_2
                     try clear hfz39_3
                     try clear hx219_0
                     try clear hx219_1
                     try clear hx219_2
                     try clear hx219_3
                     try clear hx221_0
                     try clear hx229_0
                     try clear hx30_0
                     try clear hx54_0
                     try clear hx54_1
                     try clear hx58_0
                     try clear hx58_1
                     try clear p2
                     try clear p21
                     try clear p219
                     try clear p22
                     try clear p221
                     try clear p229
                     try clear p3
                     try clear p30
                     try clear p54
                     try clear p58
                     try clear p6
                     try clear q2
                     try clear q21
                     try clear q219
                     try clear q22
                     try clear q221
                     try clear q229
                     try clear q3
                     try clear q30
                     try clear q54
                     try clear q58
                     obtain ⟨x21_4, x114_4, rfl, HA, HK4, HO_12, HO_21, HO_112, HB⟩ := hrel
                     cases gk with
                     | zero => exact absurd HA.out (by simp [beat_Beats.l2])
                     | succ k4 =>
                      have H := HA.out
                      clear HA
                      simp only [beat_Beats.l2] at H
                      by_cases c72 : x114_4 < (t232.length : Int)
                      ·rw [if_pos c72] at H
                       have c72b0 : decide (x114_4 < (t232.length : Int)) = true := decide_eq_true c72
                       clear c72
                       by_cases c73 : 0 ≤ x114_4
                       ·rw [if_pos c73] at H
                        have c73b0 : decide (0 ≤ x114_4) = true := decide_eq_true c73
                        clear c73
                        by_cases c74 : x114_4 < (t232.length : Int)
                        ·rw [if_pos c74] at H
                         have c74b0 : decide (x114_4 < (t232.length : Int)) = true := decide_eq_true c74
                         clear c74
                         by_cases c75 : a3 = 0
                         ·rw [if_pos c75] at H
                          exact absurd H (by simp)
                         ·rw [if_neg c75] at H
                          have c75b0 : (a3 == 0) = false := beq_eq_false_iff_ne.mpr c75
                          have c75b1 : (a3 != 0) = true := bne_iff_ne.mpr c75
                          obtain ⟨ji76, hji76⟩ : ∃ j_ : Int, (Int.tmod (wrap64 (a3 - x114_4)) a3) = j_ := ⟨_, rfl⟩
                          replace H : (if 0 ≤ (ji76) then (if (ji76) < (x21_4.length : Int) then (beat_Beats.l2 k4 a3 x12_2 (x21_4.set ((ji76) : Int).toNat ((rd_T26 t232 x114_4).f0)) t232 (t232.length : Int) (wrap64 (x114_4 + 1))) else (none)) else (none)) = some (r1, r2, r3) := by first | (rw [hji76] at H; exact H) | (simp only [hji76] at H ⊢; exact H)
                          by_cases c77 : 0 ≤ (ji76)
                          ·rw [if_pos c77] at H
                           have c77b0 : decide (0 ≤ (ji76)) = true := decide_eq_true c77
                           clear c77
                           by_cases c78 : (ji76) < (x21_4.length : Int)
                           ·rw [if_pos c78] at H
                            have c78b0 : decide ((ji76) < (x21_4.length : Int)) = true := decide_eq_true c78
                            clear c78
                            obtain ⟨y241, hy241⟩ : ∃ y_ : List Int, y_ = (x21_4.set ((ji76) : Int).toNat ((rd_T26 t232 x114_4).f0)) := ⟨_, rfl⟩
                            replace H : (beat_Beats.l2 k4 a3 x12_2 y241 t232 (t232.length : Int) (wrap64 (x114_4 + 1))) = some (r1, r2, r3) := by first | (rw [hy241]; with_reducible exact H) | (have H2_ := (Option.bind_some _ _).symm.trans H; rw [hy241]; with_reducible exact H2_) | (have H2_ := (Option.bind_some _ _).symm.trans H; with_reducible exact H2_) | with_reducible exact H | (rw [hy241]; exact H) | exact H
                            have Ny241 := Aside0.mk hy241
                            clear hy241
                            have H' := Aside0.mk H
                            clear H
                            have p239 : 0 ≤ (x114_4 : Int) := of_decide_eq_true (by first | (with_reducible assumption) | assumption)
                            have q239 : x114_4 < (t232.length : Int) := of_decide_eq_true (by first | (with_reducible assumption) | assumption)
                            obtain ⟨ad239, e239, hx239_0, hx239_1⟩ := at_T26 (Kd.R_reads' HO_112.out).2.2 x114_4 p239 q239
                            cases e239
                            replace p239 := eq_true p239
                            replace q239 := eq_true q239
                            try go_wp2_with (first | ((with_reducible refine gate_dst (N := 23) rfl ?_); refine box_event ?hg (N := 23) ?hd (cs := #[.int .i64 0, .int .i64 0]) (t := 26) ?hr ?_; (case hd => rfl); (case hg => rfl); (case hr => first | (go_simp; done) | (go_simp; rfl)); intro gb240 hg w80 hbox hb; have n0_ := Aside0.mk (Kd.R_below (by (with_reducible repeat (first | apply Kd.R_alloc | apply Kd.R_drewN | apply Kd.R_drew)); exact HO_12.out) hb); have n1_ := Aside0.mk (Kd.R_below (by (with_reducible repeat (first | apply Kd.R_alloc | apply Kd.R_drewN | apply Kd.R_drew)); exact HO_21.out) hb); have n2_ := Aside0.mk (Kd.R_below (Kd.R_elderB (by (with_reducible repeat (first | apply Kd.R_alloc | apply Kd.R_drewN | apply Kd.R_drew)); exact HO_112.out) gb240 (Nat.le_of_eq hg.symm)) hb); have n3_ := Aside0.mk (below_step (by repeat (first | (with_reducible first | exact HB.out | apply below_alloc | apply pw_below_drewN | apply below_drew1) | exact HB.out)) hb); have n4_ := Aside0.mk (hbox); have n5_ := Aside0.mk ((by rw [hg]; exact (below_size (by repeat (first | (with_reducible first | exact HB.out | apply below_alloc | apply pw_below_drewN | apply below_drew1) | exact HB.out))) : w.heap.size ≤ gb240)); have n6_ := Aside0.mk ((by rw [hg]; exact (below_size (by repeat (first | (with_reducible first | exact HB.out | apply below_alloc | apply pw_below_drewN | apply below_drew1) | exact HB.out))) : w.heap.size ≤ gb240)); clear HO_12; clear HO_21; clear HO_112; clear HB; have HO_12 := n0_; have HO_21 := n1_; have HO_112 := n2_; have HB := n3_; have BK240 := n4_; have GW240 := n5_; have GE240 := n6_; clear n0_ n1_ n2_ n3_ n4_ n5_ n6_; clear hb hbox hg; have hcz81_0 : w80.cell? ⟨gb240, 0, none⟩ = some (.int .i64 0) := (blk_cell BK240.out 0).trans rfl; have hcz81_1 : w80.cell? ⟨gb240, 1, none⟩ = some (.int .i64 0) := (blk_cell BK240.out 1).trans rfl; have hfz81_0 := blk_frozen BK240.out 0; have hfz81_1 := blk_frozen BK240.out 1))
                            have n0_ : Aside0 (Kd.R (Kd.int .i64) 3 ((w80.setCell ⟨gb240, 0, none⟩ (.int .i64 ((rd_T26 t232 x114_4).f0))).setCell ⟨gb240, 1, none⟩ (.int .i64 ((rd_T26 t232 x114_4).f1))) w.heap.size (fun k_ => some k_ ≠ (v237 : Value).ownBlock) (.slice Ao48 x12_2.length co48) x12_2) := ⟨by (with_reducible repeat (first | apply Kd.R_alloc | apply Kd.R_drewN | apply Kd.R_drew)); exact Kd.R_mono (Kd.R_far (p := ⟨gb240, 1, none⟩) (Kd.R_far (p := ⟨gb240, 0, none⟩) (Kd.R_types HO_12.out BK240.out (by decide)) (fun _ hk => hk.2) (.int .i64 ((rd_T26 t232 x114_4).f0))) (fun _ hk => hk.2) (.int .i64 ((rd_T26 t232 x114_4).f1))) (fun _ hk => hk.1)⟩
                            have n1_ : Aside0 (Kd.R (Kd.int .i64) 3 ((w80.setCell ⟨gb240, 0, none⟩ (.int .i64 ((rd_T26 t232 x114_4).f0))).setCell ⟨gb240, 1, none⟩ (.int .i64 ((rd_T26 t232 x114_4).f1))) w.heap.size (fun k_ => some k_ ≠ (.slice Ao48 x12_2.length co48 : Value).ownBlock) v237 x21_4) := ⟨by (with_reducible repeat (first | apply Kd.R_alloc | apply Kd.R_drewN | apply Kd.R_drew)); exact Kd.R_mono (Kd.R_far (p := ⟨gb240, 1, none⟩) (Kd.R_far (p := ⟨gb240, 0, none⟩) (Kd.R_types HO_21.out BK240.out (by decide)) (fun _ hk => hk.2) (.int .i64 ((rd_T26 t232 x114_4).f0))) (fun _ hk => hk.2) (.int .i64 ((rd_T26 t232 x114_4).f1))) (fun _ hk => hk.1)⟩
                            have n2_ : Aside0 (Kd.R k26 26 ((w80.setCell ⟨gb240, 0, none⟩ (.int .i64 ((rd_T26 t232 x114_4).f0))).setCell ⟨gb240, 1, none⟩ (.int .i64 ((rd_T26 t232 x114_4).f1))) w.heap.size (fun k_ => k_ ≠ gb240) (.slice (some ad239) t232.length co71) t232) := ⟨by (with_reducible repeat (first | apply Kd.R_alloc | apply Kd.R_drewN | apply Kd.R_drew)); exact Kd.R_mono (Kd.R_far (p := ⟨gb240, 1, none⟩) (Kd.R_far (p := ⟨gb240, 0, none⟩) (Kd.R_mono HO_112.out (fun k_ hk => (⟨hk, hk.2⟩ : _ ∧ k_ ≠ gb240))) (fun _ hk => hk.2) (.int .i64 ((rd_T26 t232 x114_4).f0))) (fun _ hk => hk.2) (.int .i64 ((rd_T26 t232 x114_4).f1))) (fun _ hk => hk.1.2)⟩
                            have n3_ : Aside0 (((w80.setCell ⟨gb240, 0, none⟩ (.int .i64 ((rd_T26 t232 x114_4).f0))).setCell ⟨gb240, 1, none⟩ (.int .i64 ((rd_T26 t232 x114_4).f1))).heap[gb240]? = some (.cells #[.int .i64 ((rd_T26 t232 x114_4).f0), .int .i64 ((rd_T26 t232 x114_4).f1)] 26 (0, 0))) := ⟨by (with_reducible repeat (first | refine blk_drewN ?_ _ | refine blk_drew ?_ | refine blk_alloc ?_ _)); refine blk_put (cs := #[.int .i64 ((rd_T26 t232 x114_4).f0), .int .i64 0]) ?_ 1 _ rfl; (with_reducible repeat (first | refine blk_drewN ?_ _ | refine blk_drew ?_ | refine blk_alloc ?_ _)); refine blk_put (cs := #[.int .i64 0, .int .i64 0]) ?_ 0 _ rfl; (with_reducible repeat (first | refine blk_drewN ?_ _ | refine blk_drew ?_ | refine blk_alloc ?_ _)); exact BK240.out⟩
                            have n4_ : Aside0 (Below w.heap.size w ((w80.setCell ⟨gb240, 0, none⟩ (.int .i64 ((rd_T26 t232 x114_4).f0))).setCell ⟨gb240, 1, none⟩ (.int .i64 ((rd_T26 t232 x114_4).f1)))) := ⟨by repeat (first | (with_reducible first | exact HB.out | apply below_alloc | apply pw_below_drewN | apply below_drew1 | refine below_set ?_ GE240.out) | exact HB.out)⟩
                            (try clear HO_12)
                            (try clear HO_21)
                            (try clear HO_112)
                            (try clear BK240)
                            (try clear HB)
                            generalize ((w80.setCell ⟨gb240, 0, none⟩ (.int .i64 ((rd_T26 t232 x114_4).f0))).setCell ⟨gb240, 1, none⟩ (.int .i64 ((rd_T26 t232 x114_4).f1))) = w82 at n0_ n1_ n2_ n3_ n4_ ⊢
                            have HO_12 := n0_
                            have HO_21 := n1_
                            have HO_112 := n2_
                            have BK240 := n3_
                            have HB := n4_
                            clear n0_ n1_ n2_ n3_ n4_
                            have n0_ := Aside0.mk (Kd.R_drew HO_12.out)
                            have n1_ := Aside0.mk (Kd.R_drew HO_21.out)
                            have n2_ := Aside0.mk (Kd.R_drew HO_112.out)
                            have n3_ := Aside0.mk (blk_drew BK240.out)
                            have n4_ := Aside0.mk (below_drew1 HB.out)
                            clear HO_12
                            clear HO_21
                            clear HO_112
                            clear BK240
                            clear HB
                            have HO_12 := n0_
                            have HO_21 := n1_
                            have HO_112 := n2_
                            have BK240 := n3_
                            have HB := n4_
                            clear n0_ n1_ n2_ n3_ n4_
                            have p79 : 0 ≤ ((ji76) : Int) := of_decide_eq_true (by first | (with_reducible assumption) | assumption)
                            have q79 : ((ji76) : Int) < ((x21_4.length : Int) : Int) := of_decide_eq_true (by first | (with_reducible assumption) | assumption)
                            obtain ⟨go79, co79, eo79, gb79, gl79, cl79, HG79⟩ := Kd.R_form HO_21.out (by omega)
                            (first | cases eo79 | (injection eo79 with ea_ en_ ec_; (first | subst ea_ | (injection ea_ with ea_; subst ea_)); subst ec_; clear en_))
                            have GB79 := Aside0.mk gb79
                            have GG79 := Aside0.mk HG79
                            clear gb79 gl79 HG79
                            obtain ⟨hx79_0, hf79_0⟩ := Kd.R_celln 0 HO_21.out ((ji76) : Int) p79 q79
                            replace p79 := eq_true p79
                            replace q79 := eq_true q79
                            have HP84 := Kd.R_putn HO_21.out ((ji76) : Int) ((rd_T26 t232 x114_4).f0)
                            rw [← Ny241.out] at HP84
                            have HQ84 := Aside0.mk HP84
                            clear HP84
                            refine start_ (n := 10) (S := fun w' => w'.cell? ⟨gb240, 0, none⟩ = some (.int .i64 ((rd_T26 t232 x114_4).f0)) ∧ w'.cell? ⟨gb240, 1, none⟩ = some (.int .i64 ((rd_T26 t232 x114_4).f1))) (ds := [9]) #[false, false, false, false, false, false, false, false, false, false] (by kernel_rfl) rfl rfl ⟨(blk_cell BK240.out 0).trans rfl, (blk_cell BK240.out 1).trans rfl⟩ (fun hHeld => ?_); refine with_tabW beat_Beats.tab30 beat_Beats.bits30 (fun HT_ HW_ => ?_)
                            generalize w82.drew = w83 at HO_12 HO_21 HO_112 BK240 HB GG79 HQ84 hf79_0 hx79_0 hHeld ⊢
                            refine pure_ (i := 0) (N := some 119) (v := ?_) (a' := ?_) #[true, false, false, false, false, false, false, false, false, false] rfl rfl (any_of HT_.out (by kernel_rfl)) (fun _ _ _ h => h) (Or.inl ⟨by rfl, ?_⟩) ?_ ?_
                            rotate_left
                            ·intro w'
                             go_simp
                             with_reducible rfl
                            rotate_left
                            ·simp only [Act.put, List.setIfInBounds_toArray, List.set_cons_zero, List.set_cons_succ, i64_w, i32_w]
                             rfl
                            refine pure_ (i := 1) (N := some 120) (v := ?_) (a' := ?_) #[true, true, false, false, false, false, false, false, false, false] rfl rfl (any_of HT_.out (by kernel_rfl)) (fun _ _ _ h => h) (Or.inl ⟨by rfl, ?_⟩) ?_ ?_
                            rotate_left
                            ·intro w'
                             go_simp
                             with_reducible rfl
                            rotate_left
                            ·simp only [Act.put, List.setIfInBounds_toArray, List.set_cons_zero, List.set_cons_succ, i64_w, i32_w]
                             rfl
                            refine pure_ (i := 2) (N := some 121) (v := ?_) (a' := ?_) #[true, true, true, false, false, false, false, false, false, false] rfl rfl (any_of HT_.out (by kernel_rfl)) (fun _ _ _ h => h) (Or.inl ⟨by rfl, ?_⟩) ?_ ?_
                            rotate_left
                            ·intro w'
                             go_simp
                             with_reducible rfl
                            rotate_left
                            ·simp only [Act.put, List.setIfInBounds_toArray, List.set_cons_zero, List.set_cons_succ, i64_w, i32_w]
                             rfl
                            refine pure_ (i := 3) (N := some 122) (v := ?_) (a' := ?_) #[true, true, true, true, false, false, false, false, false, false] rfl rfl (any_of HT_.out (by kernel_rfl)) (fun _ _ _ h => h) (Or.inl ⟨by rfl, ?_⟩) ?_ ?_
                            rotate_left
                            ·intro w'
                             go_simp
                             with_reducible rfl
                            rotate_left
                            ·simp only [Act.put, List.setIfInBounds_toArray, List.set_cons_zero, List.set_cons_succ, i64_w, i32_w]
                             rfl
                            refine pure_ (i := 4) (N := some 123) (v := ?_) (a' := ?_) #[true, true, true, true, true, false, false, false, false, false] rfl rfl (any_of HT_.out (by kernel_rfl)) (fun _ _ _ h => h) (Or.inl ⟨by rfl, ?_⟩) ?_ ?_
                            rotate_left
                            ·intro w'
                             go_simp
                             with_reducible rfl
                            rotate_left
                            ·simp only [Act.put, List.setIfInBounds_toArray, List.set_cons_zero, List.set_cons_succ, i64_w, i32_w]
                             rfl
                            refine pure_ (i := 5) (N := some 124) (v := ?_) (a' := ?_) #[true, true, true, true, true, true, false, false, false, false] rfl rfl (any_of HT_.out (by kernel_rfl)) (fun _ _ _ h => h) (Or.inl ⟨by rfl, ?_⟩) ?_ ?_
                            rotate_left
                            ·intro w'
                             go_simp
                             with_reducible rfl
                            rotate_left
                            ·simp only [Act.put, List.setIfInBounds_toArray, List.set_cons_zero, List.set_cons_succ, i64_w, i32_w]
                             rfl
                            refine pure_ (i := 6) (N := some 125) (v := ?_) (a' := ?_) #[true, true, true, true, true, true, true, false, false, false] rfl rfl (any_of HT_.out (by kernel_rfl)) (fun _ _ _ h => h) (Or.inl ⟨by rfl, ?_⟩) ?_ ?_
                            rotate_left
                            ·intro w'
                             go_simp
                             with_reducible rfl
                            rotate_left
                            ·simp only [Act.put, List.setIfInBounds_toArray, List.set_cons_zero, List.set_cons_succ, i64_w, i32_w]
                             rfl
                            refine take_ (i := 7) (N := some 126) (v := ?_) (a' := ?_) #[true, true, true, true, true, true, true, true, false, false] rfl rfl (take_ofW HT_.out HW_.out (by kernel_rfl)) (fun _ _ _ h => h) (Or.inl ⟨by rfl, ?_⟩) hHeld ?_ ?_
                            rotate_left
                            ·rintro w' ⟨s0, s1⟩
                             go_simp
                             with_reducible rfl
                            rotate_left
                            ·simp only [Act.put, List.setIfInBounds_toArray, List.set_cons_zero, List.set_cons_succ, i64_w, i32_w]
                             rfl
                            refine pure_ (i := 8) (N := some 127) (v := ?_) (a' := ?_) #[true, true, true, true, true, true, true, true, true, false] rfl rfl (any_of HT_.out (by kernel_rfl)) (fun _ _ _ h => h) (Or.inl ⟨by rfl, ?_⟩) ?_ ?_
                            rotate_left
                            ·intro w'
                             go_simp
                             with_reducible rfl
                            rotate_left
                            ·simp only [Act.put, List.setIfInBounds_toArray, List.set_cons_zero, List.set_cons_succ, i64_w, i32_w]
                             rfl
                            refine last_ (i := 9) (N := none) #[true, true, true, true, true, true, true, true, true, true] rfl rfl (one_of HT_.out (by kernel_rfl)) (by decide) (fun K hK => ?_)
                            refine skip_ (w1 := ?_) (by rfl) rfl ?_ ?_
                            rotate_left
                            ·go_simp
                             rfl
                            refine hK.out _ _ ?_
                            clear hK K
                            refine done_ (done_of HT_.out (by kernel_rfl)) ?_
                            try go_wp2
                            go_roundg k4
                            case measure => have := HJ5.out; have := HK2.out; have := HK3.out; have := HK4.out; omega
                            case rel => exact ⟨(y241), (wrap64 (x114_4 + 1)), (by first | rfl | (simp; done) | (simp [*]; done) | (simp [Int.tdiv_eq_ediv_of_nonneg]; done)), H', ⟨by have := HJ5.out; have := HK2.out; have := HK3.out; have := HK4.out; omega⟩, ⟨by (with_reducible repeat (first | apply Kd.R_alloc | apply Kd.R_drewN | apply Kd.R_drew)); exact Kd.R_mono (Kd.R_far (p := ⟨go79, ((ji76) : Int).toNat, none⟩) (Kd.R_mono HO_12.out (fun k_ hk => (⟨hk, fun e_ => hk (by rw [e_]; rfl)⟩ : _ ∧ k_ ≠ go79))) (fun _ hk => hk.2) (.int .i64 ((rd_T26 t232 x114_4).f0))) (fun _ hk => hk.1)⟩, ⟨by (with_reducible repeat (first | apply Kd.R_alloc | apply Kd.R_drewN | apply Kd.R_drew)); exact HQ84.out⟩, ⟨by (with_reducible repeat (first | apply Kd.R_alloc | apply Kd.R_drewN | apply Kd.R_drew)); exact Kd.R_mono (Kd.R_far (p := ⟨go79, ((ji76) : Int).toNat, none⟩) (Kd.R_types HO_112.out GG79.out (by decide)) (fun _ hk => hk.2) (.int .i64 ((rd_T26 t232 x114_4).f0))) (fun _ hk => trivial)⟩, ⟨by repeat (first | (with_reducible first | exact HB.out | apply below_alloc | apply pw_below_drewN | apply below_drew1 | refine below_set ?_ GB79.out | refine below_set ?_ GE240.out) | exact HB.out)⟩⟩
                           ·rw [if_neg c78] at H
                            exact absurd H (by simp)
                          ·rw [if_neg c77] at H
                           exact absurd H (by simp)
                        ·rw [if_neg c74] at H
                         exact absurd H (by simp)
                       ·rw [if_neg c73] at H
                        exact absurd H (by simp)
                      ·rw [if_neg c72] at H
                       have c72b0 : decide (x114_4 < (t232.length : Int)) = false := decide_eq_false c72
                       clear c72
                       simp only [Option.some.injEq, Prod.mk.injEq] at H
                       obtain ⟨rfl, rfl, rfl⟩ := H
                       go_wp2
                       go_ret3
                       exact ⟨_, _, by first | rfl | (simp [errW_none, errW_some] <;> rfl) | (simp [*, errW_none, errW_some] <;> rfl), by (with_reducible repeat (first | apply Kd.R_alloc | apply Kd.R_drewN | apply Kd.R_drew)); exact HO_12.out, by (with_reducible repeat (first | apply Kd.R_alloc | apply Kd.R_drewN | apply Kd.R_drew)); exact HO_21.out, by repeat (first | (with_reducible first | exact HB.out | apply below_alloc | apply pw_below_drewN | apply below_drew1) | exact HB.out)⟩
                   ·rw [if_neg c65] at H
                    exact absurd H (by simp)
                  ·rw [if_neg c64] at H
                   exact absurd H (by simp)
                 ·rw [if_neg c63] at H
                  have c63b0 : (t233 == 0) = false := beq_eq_false_iff_ne.mpr c63
                  have c63b1 : (t233 != 0) = true := bne_iff_ne.mpr c63
                  simp only [Option.some.injEq, Prod.mk.injEq] at H
                  obtain ⟨rfl, rfl, rfl⟩ := H
                  obtain ⟨Ao85, co85, eo85⟩ := Kd.R_slice HO_15.out
                  subst eo85
                  obtain ⟨Ao86, co86, eo86⟩ := Kd.R_slice HO_16.out
                  subst eo86
                  go_wp2_with (first | ((with_reducible refine gate_callee (f := 16) rfl ?_); refine goesL_ (some 104) rfl rfl Try.func16 (by kernel_rfl) rfl #[.slice Ao85 x15_3.length co85, .slice Ao86 x16_3.length co86] rfl (by (try simp only [List.map_toArray, List.map_cons, List.map_nil]); first | done | rfl | (simp only [List.length_drop, List.length_take]; rfl)) ?_; (with_reducible refine (beat_Round.calls k3 _ _ x15_3 _ _ x16_3 t232 t233 _ ?side1 ?side2 ?side3 ?side4 A62.out).mono ?_); (case side1 => repeat (first | exact (Kd.R_reads' HO_15.out).2.2 | (with_reducible refine Kd.C_alloc ?_ _) | (with_reducible refine Kd.C_drewN ?_ _) | (with_reducible refine Kd.C_drew ?_))); (case side2 => exact (Kd.R_reads' HO_15.out).2.1); (case side3 => repeat (first | exact (Kd.R_reads' HO_16.out).2.2 | (with_reducible refine Kd.C_alloc ?_ _) | (with_reducible refine Kd.C_drewN ?_ _) | (with_reducible refine Kd.C_drew ?_))); (case side4 => exact (Kd.R_reads' HO_16.out).2.1); rintro e w87 ⟨v234, rfl, ho0, hb⟩; refine ⟨_, rfl, ?_⟩; have n0_ := Aside0.mk (Kd.R_below (by (with_reducible repeat (first | apply Kd.R_alloc | apply Kd.R_drewN | apply Kd.R_drew)); exact HO_12.out) hb); have n1_ := Aside0.mk (Kd.R_elder' (by (with_reducible repeat (first | apply Kd.R_alloc | apply Kd.R_drewN | apply Kd.R_drew)); exact HO_15.out) (Kd.R_base ho0) hb); have n2_ := Aside0.mk (Kd.R_elder' (by (with_reducible repeat (first | apply Kd.R_alloc | apply Kd.R_drewN | apply Kd.R_drew)); exact HO_16.out) (Kd.R_base ho0) hb); have n3_ := Aside0.mk (Kd.R_below (by (with_reducible repeat (first | apply Kd.R_alloc | apply Kd.R_drewN | apply Kd.R_drew)); exact HO_79.out) hb); have n4_ := Aside0.mk (Kd.R_lower (Kd.R_new' (Kd.R_new' ho0 (Kd.R_lt (by (with_reducible repeat (first | apply Kd.R_alloc | apply Kd.R_drewN | apply Kd.R_drew)); exact HO_15.out))) (Kd.R_lt (by (with_reducible repeat (first | apply Kd.R_alloc | apply Kd.R_drewN | apply Kd.R_drew)); exact HO_16.out))) (below_size (by repeat (first | (with_reducible first | exact HB.out | apply below_alloc | apply pw_below_drewN | apply below_drew1) | exact HB.out)))); have n5_ := Aside0.mk (below_step (by repeat (first | (with_reducible first | exact HB.out | apply below_alloc | apply pw_below_drewN | apply below_drew1) | exact HB.out)) hb); clear HO_12; clear HO_15; clear HO_16; clear HO_79; clear HB; have HO_12 := n0_; have HO_15 := n1_; have HO_16 := n2_; have HO_79 := n3_; have HO235 := n4_; have HB := n5_; clear n0_ n1_ n2_ n3_ n4_ n5_; (try clear hb); (try clear hb2); (try clear hk); (try clear hi); (try clear ho0)))
                  go_ret3
                  exact ⟨_, _, by first | rfl | (simp [errW_none, errW_some] <;> rfl) | (simp [*, errW_none, errW_some] <;> rfl), by first | exact Kd.R_nil _ _ _ _ _ | exact Kd.N_nil _ _ _ _ _ | exact Kd.V_nil _ _ _ _ _ | exact Kd.Q_nil _ _ _ _ _ | exact Kd.S_nil _ _ _ _ _, by first | exact Kd.R_nil _ _ _ _ _ | exact Kd.N_nil _ _ _ _ _ | exact Kd.V_nil _ _ _ _ _ | exact Kd.Q_nil _ _ _ _ _ | exact Kd.S_nil _ _ _ _ _, by repeat (first | (with_reducible first | exact HB.out | apply below_alloc | apply pw_below_drewN | apply below_drew1) | exact HB.out)⟩
             ·rw [if_neg c41] at H
              exact absurd H (by simp)
            ·rw [if_neg c40] at H
             exact absurd H (by simp)
        ·rw [if_neg c17] at H
         exact absurd H (by simp)
       ·rw [if_neg c16] at H
        exact absurd H (by simp)
     ·replace c12 := Bool.eq_false_iff.mpr c12
      subst c12
      have H1 : (some (([] : List Int), ([] : List Int), 210)) = some (r1, r2, r3) := by rw [if_neg (show ¬ (false = true) by decide)] at H; exact H
      clear H
      have H := H1
      clear H1
      simp only [Option.some.injEq, Prod.mk.injEq] at H
      obtain ⟨rfl, rfl, rfl⟩ := H
      go_wp2_with (first | ((with_reducible refine gate_callee (f := 36) rfl ?_); refine goesL_ (some 45) rfl rfl Try.func36 (by kernel_rfl) rfl #[.int .i64 a3] rfl (by (try simp only [List.map_toArray, List.map_cons, List.map_nil]); first | done | rfl | (simp only [List.length_drop, List.length_take]; rfl)) ?_; (with_reducible refine (beat_turns.calls a3 false _ A11.out).mono ?_); rintro e w' ⟨rfl, ⟨nd, rfl⟩⟩; refine ⟨_, rfl, ?_⟩))
      go_ret3
      exact ⟨_, _, by first | rfl | (simp [errW_none, errW_some] <;> rfl) | (simp [*, errW_none, errW_some] <;> rfl), by first | exact Kd.R_nil _ _ _ _ _ | exact Kd.N_nil _ _ _ _ _ | exact Kd.V_nil _ _ _ _ _ | exact Kd.Q_nil _ _ _ _ _ | exact Kd.S_nil _ _ _ _ _, by first | exact Kd.R_nil _ _ _ _ _ | exact Kd.N_nil _ _ _ _ _ | exact Kd.V_nil _ _ _ _ _ | exact Kd.Q_nil _ _ _ _ _ | exact Kd.S_nil _ _ _ _ _, by repeat (first | (with_reducible first | exact HB.out | apply below_alloc | apply pw_below_drewN | apply below_drew1) | exact HB.out)⟩

end Go.Proofs.YtkilnknndglmnaaP
end

section
/- What Beats answers. -/
namespace Go.Proofs.YtkilnknndglmnaaP
open Go.RowKit Go.Proofs.Ytkilnknndglmnaa Go.Proofs.YtkilnknndglmnaaW.PrintWords

/-! ### Sums of numbers from 0 on -/
def sN : Nat → (Nat → Nat) → Nat
  | 0, _ => 0
  | n + 1, f => sN n f + f n
theorem sN_congr {n : Nat} {f g : Nat → Nat} (h : ∀ i, i < n → f i = g i) : sN n f = sN n g := by
  induction n with
  | zero => rfl
  | succ n ih => simp only [sN]; rw [ih (fun i hi => h i (by omega)), h n (by omega)]
theorem sN_le {n : Nat} {f g : Nat → Nat} (h : ∀ i, i < n → f i ≤ g i) : sN n f ≤ sN n g := by
  induction n with
  | zero => exact Nat.le_refl _
  | succ n ih => simp only [sN]; exact Nat.add_le_add (ih (fun i hi => h i (by omega))) (h n (by omega))
theorem sN_mul (n : Nat) (f : Nat → Nat) (c : Nat) : sN n (fun i => f i * c) = sN n f * c := by
  induction n with
  | zero => simp [sN]
  | succ n ih => simp only [sN]; rw [ih, Nat.add_mul]
theorem sN_add (n : Nat) (f g : Nat → Nat) : sN n (fun i => f i + g i) = sN n f + sN n g := by
  induction n with
  | zero => rfl
  | succ n ih => simp only [sN]; rw [ih]; omega
theorem sN_zero (n : Nat) : sN n (fun _ => 0) = 0 := by
  induction n with
  | zero => rfl
  | succ n ih => simp only [sN]; rw [ih]
theorem sN_one {n : Nat} {i : Nat} (hi : i < n) : sN n (fun p => if i = p then 1 else 0) = 1 := by
  induction n with
  | zero => omega
  | succ n ih =>
    simp only [sN]
    by_cases h : i = n
    · subst h
      rw [if_pos rfl, sN_congr (g := fun _ => 0) (fun j hj => if_neg (by omega)), sN_zero]
    · rw [if_neg h, ih (by omega)]
theorem sm_sN (n : Nat) (f : Nat → Nat) : sm n (fun j => (⟨(f j : Nat), 0⟩ : G)) = ⟨(sN n f : Nat), 0⟩ := by
  induction n with
  | zero => rfl
  | succ n ih =>
    simp only [sm, sN]
    rw [ih]
    simp [G.add]

/-! ### Places counted from the end -/
def ngm (n p : Nat) : Nat := if p = 0 then 0 else n - p
theorem ngm_mod {n p : Nat} (hp : p < n) : (n - p) % n = ngm n p := by
  unfold ngm
  by_cases h : p = 0
  · rw [if_pos h, h, Nat.sub_zero, Nat.mod_self]
  · rw [if_neg h, Nat.mod_eq_of_lt (by omega)]
theorem ngm_lt {n p : Nat} (hp : p < n) : ngm n p < n := by unfold ngm; split <;> omega
theorem ngm_ngm {n p : Nat} (hp : p < n) : ngm n (ngm n p) = p := by unfold ngm; split <;> split <;> omega
theorem ngm_int {n p : Nat} (hp : p < n) (hn : n ≤ 1000) : Int.tmod (wrap64 ((n : Int) - (p : Int))) (n : Int) = (ngm n p : Int) := by
  rw [w64 (by omega) (by omega), Int.tmod_eq_emod_of_nonneg (by omega), show (n : Int) - (p : Int) = ((n - p : Nat) : Int) by omega, ← Int.natCast_emod, ngm_mod hp]
def updn {α : Type} (d : α) (n : Nat) (F : Nat → α) (i : Nat) : List α := (List.range n).map fun p => if ngm n p < i then F p else d
theorem updn_len {α : Type} (d : α) (n : Nat) (F : Nat → α) (i : Nat) : (updn d n F i).length = n := by simp [updn]
theorem updn_zero {α : Type} (d : α) (n : Nat) (F : Nat → α) : updn d n F 0 = List.replicate n d := by
  unfold updn
  apply List.ext_getElem (by simp)
  intro p h1 h2
  simp
theorem updn_full {α : Type} (d : α) (n : Nat) (F : Nat → α) : updn d n F n = (List.range n).map F := by
  unfold updn
  refine List.map_congr_left fun p hp => ?_
  rw [if_pos (ngm_lt (List.mem_range.1 hp))]
theorem updn_step {α : Type} (d : α) {n : Nat} (F : Nat → α) {i : Nat} (hi : i < n) : (updn d n F i).set (ngm n i) (F (ngm n i)) = updn d n F (i + 1) := by
  unfold updn
  apply List.ext_getElem (by simp)
  intro p h1 h2
  have hp : p < n := by simpa using h2
  rw [List.getElem_set]
  by_cases e : ngm n i = p
  · subst e
    simp [ngm_ngm hi]
  · rw [if_neg e]
    simp only [List.getElem_map, List.getElem_range]
    by_cases e3 : ngm n p < i
    · rw [if_pos e3, if_pos (by omega)]
    · rw [if_neg e3, if_neg]
      intro h
      have : ngm n p = i := by omega
      rw [← this, ngm_ngm hp] at e
      exact e rfl
theorem updn_at {α : Type} (d : α) {n : Nat} (F : Nat → α) {i : Nat} (hi : i < n) : (updn d n F i).getD (ngm n i) d = d := by
  simp [updn, ngm_lt hi, ngm_ngm hi]

/-! ### How many of a verdict fell on a phase -/
def phN (x : S49) (w n : Nat) : Nat := (x.f0.toNat / w) % n
def cnt (l : List S49) (v : Int) (w n p : Nat) : Nat := l.countP fun x => x.f3 == v && phN x w n == p
def many (l : List S49) (v : Int) : Nat := l.countP fun x => x.f3 == v
def rowL (l : List S49) (v : Int) (w n : Nat) : List Int := (List.range n).map fun p => (cnt l v w n p : Int)
def mt (r : Nat → Nat) (n i : Nat) : Nat := sN n fun q => r q * r ((q + i) % n)
def meetsL (l : List S49) (v : Int) (w n : Nat) : List Int := (List.range n).map fun i => (mt (cnt l v w n) n i : Int)
theorem cnt_le (l : List S49) (v : Int) (w n p : Nat) : cnt l v w n p ≤ l.length := List.countP_le_length
theorem cnt_cons (x : S49) (l : List S49) (v : Int) (w n p : Nat) : cnt (x :: l) v w n p = cnt l v w n p + if x.f3 = v ∧ phN x w n = p then 1 else 0 := by
  unfold cnt
  rw [List.countP_cons]
  congr 1
  by_cases h : x.f3 = v ∧ phN x w n = p
  · rw [if_pos h, if_pos (by simp [h])]
  · rw [if_neg h, if_neg (by simpa using h)]
theorem cnt_append (l : List S49) (x : S49) (v : Int) (w n p : Nat) : cnt (l ++ [x]) v w n p = cnt l v w n p + if x.f3 = v ∧ phN x w n = p then 1 else 0 := by
  have h := cnt_cons x [] v w n p
  unfold cnt at *
  rw [List.countP_append, h]
  simp
theorem cnt_sum (l : List S49) (v : Int) (w : Nat) {n : Nat} (hn : 0 < n) : sN n (cnt l v w n) = many l v := by
  induction l with
  | nil => exact sN_zero n
  | cons x l ih =>
    rw [sN_congr (fun p _ => cnt_cons x l v w n p), sN_add, ih]
    unfold many
    rw [List.countP_cons]
    congr 1
    by_cases h : x.f3 = v
    · rw [if_pos (by simp [h]), sN_congr (g := fun p => if phN x w n = p then 1 else 0) (fun p _ => by simp [h]), sN_one (show phN x w n < n from Nat.mod_lt _ hn)]
    · rw [if_neg (by simp [h]), sN_congr (g := fun _ => 0) (fun p _ => by simp [h]), sN_zero]
theorem mt_le (l : List S49) (v : Int) (w : Nat) {n : Nat} (hn : 0 < n) (i : Nat) : mt (cnt l v w n) n i ≤ l.length * l.length := by
  unfold mt
  refine Nat.le_trans (sN_le (g := fun q => cnt l v w n q * l.length) fun q _ => Nat.mul_le_mul_left _ (cnt_le ..)) ?_
  rw [sN_mul, cnt_sum l v w hn]
  exact Nat.mul_le_mul_right _ List.countP_le_length
theorem rowL_len (l : List S49) (v : Int) (w n : Nat) : (rowL l v w n).length = n := by simp [rowL]
theorem rd_rowL (l : List S49) (v : Int) (w : Nat) {n p : Nat} (hp : p < n) : rd (rowL l v w n) (p : Int) = (cnt l v w n p : Int) := by simp [rd, rowL, hp]
theorem rowL_nil (v : Int) (w n : Nat) : rowL [] v w n = List.replicate n 0 := by
  unfold rowL
  apply List.ext_getElem (by simp)
  intro p h1 h2
  simp [cnt]
theorem rowL_step (l : List S49) (x : S49) (v : Int) (w n : Nat) (hx : x.f3 = v) : (rowL l v w n).set (phN x w n) ((cnt l v w n (phN x w n) : Int) + 1) = rowL (l ++ [x]) v w n := by
  unfold rowL
  apply List.ext_getElem (by simp)
  intro p h1 h2
  have hp : p < n := by simpa using h2
  rw [List.getElem_set]
  simp only [List.getElem_map, List.getElem_range]
  rw [cnt_append]
  by_cases e : phN x w n = p
  · rw [if_pos e, if_pos ⟨hx, e⟩, e]; omega
  · rw [if_neg e, if_neg (fun h => e h.2)]; omega
theorem rowL_skip (l : List S49) (x : S49) (v : Int) (w n : Nat) (hx : ¬ x.f3 = v) : rowL l v w n = rowL (l ++ [x]) v w n := by
  unfold rowL
  refine List.map_congr_left fun p _ => ?_
  rw [cnt_append, if_neg (fun h => hx h.1)]
  omega

/-- The counting loop. -/
theorem count_loop (l : List S49) (v : Int) (w n : Nat) (hg : ∀ x ∈ l, 0 ≤ x.f0 ∧ x.f0 ≤ 1099511627776) (hl : l.length ≤ 4000) (hw : 1 ≤ w) (hw2 : w ≤ 1048576) (hn : 1 ≤ n) (hn2 : n ≤ 32) (r : List Int × List Int × Int)
    (hr : Ev (fun k => beat_Beats.l0 k v (w : Int) (n : Int) (rowL l v w n) l (l.length : Int) (l.length : Int)) r) : ∀ (d i : Nat), l.length - i = d → i ≤ l.length →
    Ev (fun k => beat_Beats.l0 k v (w : Int) (n : Int) (rowL (l.take i) v w n) l (l.length : Int) (i : Int)) r := by
  intro d
  induction d with
  | zero =>
    intro i hd hi
    have ei : i = l.length := by omega
    subst ei
    rw [List.take_length]
    exact hr
  | succ d ih =>
    intro i hd hi
    have hlt : i < l.length := by omega
    have hrd : rd_T49 l (i : Int) = l[i] := by simp [rd_T49, hlt]
    obtain ⟨g0, g1⟩ := hg l[i] (List.getElem_mem hlt)
    have hph : Int.tmod (wrap64 (Int.tdiv l[i].f0 (w : Int))) (n : Int) = (phN l[i] w n : Int) := by
      unfold phN
      generalize l[i].f0 = t at g0 g1 ⊢
      obtain ⟨t', rfl⟩ : ∃ t' : Nat, t = (t' : Int) := ⟨t.toNat, by omega⟩
      have hle := Nat.div_le_self t' w
      rw [Int.tdiv_eq_ediv_of_nonneg (by omega), ← Int.natCast_ediv]
      generalize hq : t' / w = q at hle ⊢
      rw [w64 (by omega) (by omega), Int.tmod_eq_emod_of_nonneg (by omega), ← Int.natCast_emod, Int.toNat_natCast, hq]
    have hpl : phN l[i] w n < n := Nat.mod_lt _ (by omega)
    refine Ev.step (fun k => ?_) (ih (i + 1) (by omega) (by omega))
    have htk : l.take (i + 1) = l.take i ++ [l[i]] := List.take_succ_eq_append_getElem hlt
    rw [htk]
    simp only [beat_Beats.l0]
    rw [if_pos (by omega), if_pos (by omega), if_pos (by omega), hrd]
    by_cases hv : l[i].f3 = v
    · rw [if_pos hv, if_neg (by omega), if_neg (by omega), hph, if_pos (by omega), if_pos (by rw [rowL_len]; omega), rd_rowL _ _ _ hpl, w64 (x := (i : Int) + 1) (by omega) (by omega), w64 (x := (cnt (l.take i) v w n (phN l[i] w n) : Int) + 1) (by omega) (by have := cnt_le (l.take i) v w n (phN l[i] w n); rw [List.length_take] at this; omega), Int.toNat_natCast, rowL_step _ _ _ _ _ hv]
      rfl
    · rw [if_neg hv, w64 (x := (i : Int) + 1) (by omega) (by omega), rowL_skip _ _ _ _ _ hv]
      rfl

def aheadL (r : Nat → Nat) (n : Nat) : List S26 := (List.range n).map fun p => ⟨(r p : Int), 0⟩
def behindL (r : Nat → Nat) (n : Nat) : List S26 := (List.range n).map fun p => ⟨(r (ngm n p) : Int), 0⟩
theorem lay_loop (l : List S49) (v : Int) (w n : Nat) (hn : 1 ≤ n) (hn2 : n ≤ 32) (r : List Int × List Int × Int)
    (hr : Ev (fun k => beat_Beats.l1 k (n : Int) (rowL l v w n) (aheadL (cnt l v w n) n) (behindL (cnt l v w n) n) (rowL l v w n) (n : Int) (n : Int)) r) : ∀ (d i : Nat), n - i = d → i ≤ n →
    Ev (fun k => beat_Beats.l1 k (n : Int) (rowL l v w n) (upd z26 (List.replicate n z26) (fun p => ⟨(cnt l v w n p : Int), 0⟩) i) (updn z26 n (fun p => ⟨(cnt l v w n (ngm n p) : Int), 0⟩) i) (rowL l v w n) (n : Int) (i : Int)) r := by
  intro d
  induction d with
  | zero =>
    intro i hd hi
    have ei : i = n := by omega
    subst ei
    have h1 := upd_full z26 (List.replicate i z26) (fun p => (⟨(cnt l v w i p : Int), 0⟩ : S26))
    rw [List.length_replicate] at h1
    rw [h1, updn_full]
    exact hr
  | succ d ih =>
    intro i hd hi
    have hlt : i < n := by omega
    refine Ev.step (fun k => ?_) (ih (i + 1) (by omega) (by omega))
    have hng := ngm_lt hlt
    have a1 : rd_T26 (upd z26 (List.replicate n z26) (fun p => (⟨(cnt l v w n p : Int), 0⟩ : S26)) i) (i : Int) = z26 := by
      unfold rd_T26
      rw [Int.toNat_natCast, upd_at _ _ _ (by simpa using hlt)]
      simp [hlt]
    have a2 : rd_T26 (updn z26 n (fun p => (⟨(cnt l v w n (ngm n p) : Int), 0⟩ : S26)) i) (ngm n i : Int) = z26 := by
      unfold rd_T26
      rw [Int.toNat_natCast, updn_at _ _ hlt]
    rw [← upd_step, ← updn_step _ _ hlt]
    simp only [beat_Beats.l1]
    rw [if_pos (by omega), if_pos (by omega), if_pos (by rw [rowL_len]; omega), if_neg (by omega), if_pos (by rw [upd_len]; simp; omega), ngm_int hlt (by omega), if_pos (by omega), if_pos (by rw [updn_len]; omega), a1, a2, rd_rowL _ _ _ hlt, w64 (x := (i : Int) + 1) (by omega) (by omega), ngm_ngm hlt]
    rfl
theorem meet_loop (l : List S49) (v : Int) (w n : Nat) (m : List S26) (hm : m = (List.range n).map fun i => ⟨(mt (cnt l v w n) n (ngm n i) : Int), 0⟩) (hn : 1 ≤ n) (hn2 : n ≤ 32) : ∀ (d i : Nat), n - i = d → i ≤ n →
    Ev (fun k => beat_Beats.l2 k (n : Int) (rowL l v w n) (updn 0 n (fun p => (mt (cnt l v w n) n p : Int)) i) m (n : Int) (i : Int)) (rowL l v w n, meetsL l v w n, 0) := by
  intro d
  have hml : m.length = n := by rw [hm]; simp
  induction d with
  | zero =>
    intro i hd hi
    have ei : i = n := by omega
    subst ei
    rw [updn_full]
    refine ev_now fun k => ?_
    simp only [beat_Beats.l2]
    rw [if_neg (by omega)]
    rfl
  | succ d ih =>
    intro i hd hi
    have hlt : i < n := by omega
    refine Ev.step (fun k => ?_) (ih (i + 1) (by omega) (by omega))
    have hng := ngm_lt hlt
    have a1 : (rd_T26 m (i : Int)).f0 = (mt (cnt l v w n) n (ngm n i) : Int) := by
      rw [hm]
      simp [rd_T26, hlt]
    rw [← updn_step _ _ hlt]
    simp only [beat_Beats.l2]
    rw [if_pos (by omega), if_pos (by omega), if_pos (by omega), if_neg (by omega), ngm_int hlt (by omega), if_pos (by omega), if_pos (by rw [updn_len]; omega), a1, w64 (x := (i : Int) + 1) (by omega) (by omega)]
    rfl

/-! ### The whole -/
def lenI (n : Int) : Bool := decide (0 ≤ n) && lenB n.toNat
theorem turns_fI (n : Int) : beat_turns.f n = some (lenI n) := by
  by_cases h : 0 ≤ n
  · have := turns_f n.toNat
    rw [Int.toNat_of_nonneg h] at this
    rw [this]
    simp [lenI, h]
  · unfold beat_turns.f
    rw [if_neg (by omega)]
    simp [lenI, h]
def beatsE (l : List S49) (v w n : Int) : Int :=
  if 4000 < l.length then 2 else if v < 0 ∨ 2 < v ∨ w < 1 ∨ 1048576 < w then 1 else if lenI n = false then 210 else if l.any (fun x => badT x.f0) then 1 else 0
def beatsP (l : List S49) (v w n : Int) : List Int × List Int × Int :=
  if beatsE l v w n = 0 then (rowL l v w.toNat n.toNat, meetsL l v w.toNat n.toNat, 0) else ([], [], beatsE l v w n)
theorem round_meets (r : Nat → Nat) {n : Nat} (hl : isLen n) (hr : ∀ i, r i ≤ 4000) (hs : ∀ i, mt r n i ≤ 16000000) :
    roundE (aheadL r n) (behindL r n) = 0 ∧ roundP (aheadL r n) (behindL r n) = (List.range n).map fun i => ⟨(mt r n (ngm n i) : Int), 0⟩ := by
  have h1 : (aheadL r n).length = n := by simp [aheadL]
  have h2 : (behindL r n).length = n := by simp [behindL]
  have hsm := len_small hl
  constructor
  · unfold roundE
    have a1 : allS (aheadL r n) = true := by
      unfold allS aheadL
      rw [List.all_eq_true]
      intro x hx
      obtain ⟨p, _, rfl⟩ := List.mem_map.1 hx
      have := hr p
      exact isSB_iff.2 (by simp [IsS, sG]; omega)
    have a2 : allS (behindL r n) = true := by
      unfold allS behindL
      rw [List.all_eq_true]
      intro x hx
      obtain ⟨p, _, rfl⟩ := List.mem_map.1 hx
      have := hr (ngm n p)
      exact isSB_iff.2 (by simp [IsS, sG]; omega)
    rw [h1, h2, lenB_iff.2 hl, a1, a2]
    simp
  · unfold roundP rnd
    rw [List.length_map, h1, List.map_map]
    refine List.map_congr_left fun i hi => ?_
    rw [List.mem_range] at hi
    have hc : conv (atG ((aheadL r n).map sG)) (atG ((behindL r n).map sG)) n i = ⟨(mt r n (ngm n i) : Int), 0⟩ := by
      unfold conv mt
      rw [← sm_sN]
      refine sm_congr fun j hj => ?_
      have hm : (i + (n - j)) % n < n := Nat.mod_lt _ (by omega)
      have e1 : atG ((aheadL r n).map sG) j = ⟨(r j : Int), 0⟩ := by simp [atG, aheadL, hj, sG]
      have e2 : atG ((behindL r n).map sG) ((i + (n - j)) % n) = ⟨(r (ngm n ((i + (n - j)) % n)) : Int), 0⟩ := by simp [atG, behindL, hm, sG]
      have e3 : ngm n ((i + (n - j)) % n) = (j + ngm n i) % n := by
        rw [← ngm_mod hm, ← ngm_mod hi]
        rw [Nat.add_mod_mod]
        rcases Nat.lt_or_ge (i + (n - j)) n with h3 | h3
        · rw [Nat.mod_eq_of_lt h3, show j + (n - i) = (n - (i + (n - j))) + n by omega, Nat.add_mod_right]
        · rw [Nat.mod_eq_sub_mod h3, Nat.mod_eq_of_lt (show i + (n - j) - n < n by omega), show n - (i + (n - j) - n) = j + (n - i) by omega]
      rw [e1, e2, e3]
      simp [G.mul]
    show gS (red (conv _ _ n i)) = _
    rw [hc, red_small]
    · rfl
    · have := hs (ngm n i)
      simp [IsS]
      omega
theorem Beats_f (l : List S49) (v w n : Int) : Ev (fun k => beat_Beats.f k l v w n) (beatsP l v w n) := by
  unfold beatsP beatsE
  by_cases c1 : 4000 < l.length
  · rw [if_pos c1]
    refine ev_now fun k => ?_
    unfold beat_Beats.f
    rw [if_pos (by omega)]
    rfl
  rw [if_neg c1]
  by_cases c2 : v < 0 ∨ 2 < v ∨ w < 1 ∨ 1048576 < w
  · rw [if_pos c2]
    refine ev_now fun k => ?_
    unfold beat_Beats.f
    rw [if_neg (by omega)]
    by_cases d1 : v < 0
    · rw [if_pos d1]; simp [beat_Beats.j0]
    rw [if_neg d1]
    by_cases d2 : v > 2
    · rw [if_pos d2]; simp [beat_Beats.j0]
    rw [if_neg d2]
    by_cases d3 : w < 1
    · rw [if_pos d3]; simp [beat_Beats.j0]
    rw [if_neg d3, decide_eq_true (by omega)]
    simp [beat_Beats.j0]
  rw [if_neg c2]
  have e1 : ∀ k, beat_Beats.f k l v w n = beat_Beats.j0 k l v w n false := fun k => by
    unfold beat_Beats.f
    rw [if_neg (by omega), if_neg (by omega), if_neg (by omega), if_neg (by omega), decide_eq_false (by omega)]
  refine Ev.congr e1 ?_
  cases hb : lenI n with
  | false =>
    refine ev_now fun k => ?_
    simp only [beat_Beats.j0]
    rw [turns_fI, hb]
    rfl
  | true =>
    unfold lenI at hb
    rw [Bool.and_eq_true, decide_eq_true_iff] at hb
    obtain ⟨hn0, hb⟩ := hb
    have hl := lenB_iff.1 hb
    have hsm := len_small hl
    obtain ⟨n', rfl⟩ : ∃ n' : Nat, n = (n' : Int) := ⟨n.toNat, by omega⟩
    obtain ⟨w', rfl⟩ : ∃ w' : Nat, w = (w' : Int) := ⟨w.toNat, by omega⟩
    rw [Int.toNat_natCast] at hb hl hsm
    simp only [Int.toNat_natCast]
    have hi : lenI (n' : Int) = true := by simp [lenI, hb]
    cases ha : l.any (fun x => badT x.f0) with
    | true =>
      refine ev_now fun k => ?_
      simp only [beat_Beats.j0]
      rw [turns_fI, hi, api_Record_49.f, ha]
      rfl
    | false =>
      have hg : ∀ x ∈ l, 0 ≤ x.f0 ∧ x.f0 ≤ 1099511627776 := fun x hx => by
        rw [List.any_eq_false] at ha
        exact badT_iff.1 (by simpa using ha x hx)
      simp only [if_true, Bool.false_eq_true, if_false, Bool.true_eq_false]
      have hmt : ∀ i, mt (cnt l v w' n') n' i ≤ 16000000 := fun i => by
        have := mt_le l v w' (n := n') (by omega) i
        have h4 : l.length * l.length ≤ 4000 * 4000 := Nat.mul_le_mul (by omega) (by omega)
        omega
      obtain ⟨rE, rP⟩ := round_meets (cnt l v w' n') hl (fun i => by have := cnt_le l v w' n' i; omega) hmt
      have hrd := Round_f (aheadL (cnt l v w' n') n') (behindL (cnt l v w' n') n')
      rw [rE, if_pos rfl, rP] at hrd
      have h3 := meet_loop l v w' n' _ rfl (by omega) (by omega) _ 0 rfl (by omega)
      rw [updn_zero] at h3
      have h2 := lay_loop l v w' n' (by omega) (by omega) (rowL l v w' n', meetsL l v w' n', 0) (by
        refine Ev.step (f := fun k => (beat_Round.f k (aheadL (cnt l v w' n') n') (behindL (cnt l v w' n') n')).bind fun bt232 => (if bt232.2 = 0 then (if 0 ≤ (n' : Int) then (if ((n' : Int) : Int).toNat ≤ 35184372088832 then (beat_Beats.l2 k (n' : Int) (rowL l v w' n') (List.replicate ((n' : Int) : Int).toNat 0) bt232.1 (bt232.1.length : Int) 0) else (none)) else (none)) else (some (([] : List Int), ([] : List Int), bt232.2)))) (fun k => ?_) (Ev.bind hrd ?_)
        · simp only [beat_Beats.l1]
          rw [if_neg (by omega)]
        · refine Ev.congr (fun k => ?_) h3
          rw [if_pos rfl, if_pos (by omega), if_pos (by omega), Int.toNat_natCast, List.length_map, List.length_range]
          rfl) _ 0 rfl (by omega)
      rw [upd_zero, updn_zero] at h2
      have h1 := count_loop l v w' n' hg (by omega) (by omega) (by omega) (by omega) (by omega) (rowL l v w' n', meetsL l v w' n', 0) (by
        refine Ev.step (fun k => ?_) h2
        simp only [beat_Beats.l0]
        rw [if_neg (by omega), if_pos (by omega), if_pos (by omega), Int.toNat_natCast, rowL_len]
        rfl) _ 0 rfl (by omega)
      rw [List.take_zero, rowL_nil] at h1
      refine Ev.step (fun k => ?_) h1
      simp only [beat_Beats.j0]
      rw [turns_fI, hi, api_Record_49.f, ha]
      simp only [Bool.false_eq_true, if_false, Option.bind_some, if_true]
      rw [if_pos (by omega), if_pos (by omega), Int.toNat_natCast]
      rfl

#print axioms Beats_f
end Go.Proofs.YtkilnknndglmnaaP
end

section
-- Laid by given.py, a program of this seat, with the kit's printer.
namespace Go.Proofs.YtkilnknndglmnaaP
open Go.Proofs.Ytkilnknndglmnaa (G fl IsS isSB okC okF okC_iff encC kcx at_cx md red run_cmul run_cadd run_csub run_fint lit_one lit_zero tdiv_32 run_store_cx)
attribute [local go_sem] run_cmul run_cadd run_csub run_fint lit_one lit_zero tdiv_32 run_store_cx
open Go.RowKit Go.Proofs.YtkilnknndglmnaaW.PrintWords Go.Proofs.YtkilnknndglmnaaW.PrintLast Go.Proofs.YtkilnknndglmnaaW.PrintMore
attribute [local go_sem] max2_int min2_int max_two min_two max_three min_three max_four min_four   -- for this text's walks alone
set_option linter.unusedVariables false
set_option linter.unusedSimpArgs false

-- NOT PRINTED: function 9 (reevelaw21_BeatRoots)

/-! ### reevelaw02_Fold: function 30 -/
def reevelaw02_Fold.f (a0 : Int) : Option (Int) := if (Int.tmod a0 16777199) < 0 then (some (wrap64 ((Int.tmod a0 16777199) + 16777199))) else (some (Int.tmod a0 16777199))
set_option maxHeartbeats 8000000 in
set_option maxRecDepth 100000 in
theorem reevelaw02_Fold.calls (a0 : Int) (r : Int) (w : World) (h : reevelaw02_Fold.f a0 = some r) :
  Calls Try.prog 30 #[.int .i64 a0] w fun e w' => e = .returned (.int .i64 r) ∧ Drawn0 w w' := by
 have H : (if (Int.tmod a0 16777199) < 0 then (some (wrap64 ((Int.tmod a0 16777199) + 16777199))) else (some (Int.tmod a0 16777199))) = some r := h
 clear h
 by_cases c2 : (Int.tmod a0 16777199) < 0
 ·rw [if_pos c2] at H
  have c2b0 : decide ((Int.tmod a0 16777199) < 0) = true := decide_eq_true c2
  clear c2
  obtain rfl := Option.some.inj H
  go_enter Try.func30, Try.ntmps30
  go_wp2
  go_ret
  exact ⟨by first | rfl | (simp; done) | (simp [*]; done), by repeat (first | exact Drawn0.refl _ | apply Drawn0.step)⟩
 ·rw [if_neg c2] at H
  have c2b0 : decide ((Int.tmod a0 16777199) < 0) = false := decide_eq_false c2
  clear c2
  obtain rfl := Option.some.inj H
  go_enter Try.func30, Try.ntmps30
  go_wp2
  go_ret
  exact ⟨by first | rfl | (simp; done) | (simp [*]; done), by repeat (first | exact Drawn0.refl _ | apply Drawn0.step)⟩

/-! ### reevelaw02_Of: function 31 -/
def reevelaw02_Of.f (a0 : Int) (a1 : Int) : Option (Int × Int) := (reevelaw02_Fold.f a0).bind fun t264 => ((reevelaw02_Fold.f a1).bind fun t265 => (some (t264, t265)))
set_option maxHeartbeats 8000000 in
set_option maxRecDepth 100000 in
theorem reevelaw02_Of.calls (a0 : Int) (a1 : Int) (r1 : Int) (r2 : Int) (w : World) (h : reevelaw02_Of.f a0 a1 = some (r1, r2)) :
  Calls Try.prog 31 #[.int .i64 a0, .int .i64 a1] w fun e w' => e = .returned (.agg #[.int .i64 r1, .int .i64 r2]) ∧ Below w.heap.size w w' := by
 have hu26 := Try.underlying26
 have HB := Aside0.mk (Below.refl w.heap.size w)
 have H : ((reevelaw02_Fold.f a0).bind fun t264 => ((reevelaw02_Fold.f a1).bind fun t265 => (some (t264, t265)))) = some (r1, r2) := h
 clear h
 replace H := Option.bind_eq_some_iff.mp H
 obtain ⟨t264, A30, H⟩ := H
 replace H : ((reevelaw02_Fold.f a1).bind fun t265 => (some (t264, t265))) = some (r1, r2) := H
 have A3 := Aside0.mk A30
 clear A30
 replace H := Option.bind_eq_some_iff.mp H
 obtain ⟨t265, A40, H⟩ := H
 replace H : (some (t264, t265)) = some (r1, r2) := H
 have A4 := Aside0.mk A40
 clear A40
 simp only [Option.some.injEq, Prod.mk.injEq] at H
 obtain ⟨rfl, rfl⟩ := H
 go_enter Try.func31, Try.ntmps31
 go_wp2_with (first | ((with_reducible refine gate_dst (N := 4) rfl ?_); refine box_event ?hg (N := 4) ?hd (cs := #[.int .i64 0, .int .i64 0]) (t := 26) ?hr ?_; (case hd => rfl); (case hg => rfl); (case hr => first | (go_simp; done) | (go_simp; rfl)); intro gb263 hg w5 hbox hb; have n0_ := Aside0.mk (below_step (by repeat (first | (with_reducible first | exact HB.out | apply below_alloc | apply pw_below_drewN | apply below_drew1) | exact HB.out)) hb); have n1_ := Aside0.mk (hbox); have n2_ := Aside0.mk ((by rw [hg]; exact (below_size (by repeat (first | (with_reducible first | exact HB.out | apply below_alloc | apply pw_below_drewN | apply below_drew1) | exact HB.out))) : w.heap.size ≤ gb263)); have n3_ := Aside0.mk ((by rw [hg]; exact (below_size (by repeat (first | (with_reducible first | exact HB.out | apply below_alloc | apply pw_below_drewN | apply below_drew1) | exact HB.out))) : w.heap.size ≤ gb263)); clear HB; have HB := n0_; have BK263 := n1_; have GW263 := n2_; have GE263 := n3_; clear n0_ n1_ n2_ n3_; clear hb hbox hg) | ((with_reducible refine gate_callee (f := 30) rfl ?_); refine goesL_ (some 6) rfl rfl Try.func30 (by kernel_rfl) rfl #[.int .i64 a0] rfl (by (try simp only [List.map_toArray, List.map_cons, List.map_nil]); first | done | rfl | (simp only [List.length_drop, List.length_take]; rfl)) ?_; (with_reducible refine (reevelaw02_Fold.calls a0 t264 _ A3.out).mono ?_); rintro e w' ⟨rfl, ⟨nd, rfl⟩⟩; refine ⟨_, rfl, ?_⟩; (try (rw [drewN_self w5]; generalize hq_ : World.drewN w5 _ = w5; have n0_ : Aside0 (w5.heap[gb263]? = some (.cells #[.int .i64 0, .int .i64 0] 26 (0, 0))) := ⟨by rw [← hq_]; exact (by (with_reducible repeat (first | refine blk_drewN ?_ _ | refine blk_drew ?_ | refine blk_alloc ?_ _)); exact BK263.out)⟩; have n1_ : Aside0 (Below w.heap.size w w5) := ⟨by rw [← hq_]; exact (by repeat (first | (with_reducible first | exact HB.out | apply below_alloc | apply pw_below_drewN | apply below_drew1 | refine below_set ?_ GE263.out) | exact HB.out))⟩; clear BK263 HB hq_; have BK263 := n0_; have HB := n1_; clear n0_ n1_))) | ((with_reducible refine gate_callee (f := 30) rfl ?_); refine goesL_ (some 8) rfl rfl Try.func30 (by kernel_rfl) rfl #[.int .i64 a1] rfl (by (try simp only [List.map_toArray, List.map_cons, List.map_nil]); first | done | rfl | (simp only [List.length_drop, List.length_take]; rfl)) ?_; (with_reducible refine (reevelaw02_Fold.calls a1 t265 _ A4.out).mono ?_); rintro e w' ⟨rfl, ⟨nd, rfl⟩⟩; refine ⟨_, rfl, ?_⟩; (try (rw [drewN_self w5]; generalize hq_ : World.drewN w5 _ = w5; have n0_ : Aside0 (w5.heap[gb263]? = some (.cells #[.int .i64 0, .int .i64 0] 26 (0, 0))) := ⟨by rw [← hq_]; exact (by (with_reducible repeat (first | refine blk_drewN ?_ _ | refine blk_drew ?_ | refine blk_alloc ?_ _)); exact BK263.out)⟩; have n1_ : Aside0 (Below w.heap.size w w5) := ⟨by rw [← hq_]; exact (by repeat (first | (with_reducible first | exact HB.out | apply below_alloc | apply pw_below_drewN | apply below_drew1 | refine below_set ?_ GE263.out) | exact HB.out))⟩; clear BK263 HB hq_; have BK263 := n0_; have HB := n1_; clear n0_ n1_)); have hcz6_0 : w5.cell? ⟨gb263, 0, none⟩ = some (.int .i64 0) := (blk_cell BK263.out 0).trans rfl; have hcz6_1 : w5.cell? ⟨gb263, 1, none⟩ = some (.int .i64 0) := (blk_cell BK263.out 1).trans rfl; have hfz6_0 := blk_frozen BK263.out 0; have hfz6_1 := blk_frozen BK263.out 1))
 refine bodyPost_ret (results_cell_row rfl _ _ gb263 26 #[.int .i64 t264, .int .i64 t265] (0, 0) _ rfl (by (with_reducible repeat (first | refine blk_drewN ?_ _ | refine blk_drew ?_ | refine blk_alloc ?_ _)); refine blk_put (cs := #[.int .i64 t264, .int .i64 0]) ?_ 1 _ rfl; (with_reducible repeat (first | refine blk_drewN ?_ _ | refine blk_drew ?_ | refine blk_alloc ?_ _)); refine blk_put (cs := #[.int .i64 0, .int .i64 0]) ?_ 0 _ rfl; (with_reducible repeat (first | refine blk_drewN ?_ _ | refine blk_drew ?_ | refine blk_alloc ?_ _)); exact BK263.out) Try.underlying26 rfl (by kernel_rfl)) rfl ?_
 exact ⟨by first | rfl | (simp [errW_none, errW_some] <;> rfl) | (simp [*, errW_none, errW_some] <;> rfl), by repeat (first | (with_reducible first | exact HB.out | apply below_alloc | apply pw_below_drewN | apply below_drew1 | refine below_set ?_ GE263.out) | exact HB.out)⟩

end Go.Proofs.YtkilnknndglmnaaP
end

section
-- Laid by given.py, a program of this seat, with the kit's printer.
namespace Go.Proofs.YtkilnknndglmnaaP
open Go.Proofs.Ytkilnknndglmnaa (G fl IsS isSB okC okF okC_iff encC kcx at_cx md red run_cmul run_cadd run_csub run_fint lit_one lit_zero tdiv_32 run_store_cx)
attribute [local go_sem] run_cmul run_cadd run_csub run_fint lit_one lit_zero tdiv_32 run_store_cx
open Go.RowKit Go.Proofs.YtkilnknndglmnaaW.PrintWords Go.Proofs.YtkilnknndglmnaaW.PrintLast Go.Proofs.YtkilnknndglmnaaW.PrintMore
attribute [local go_sem] max2_int min2_int max_two min_two max_three min_three max_four min_four   -- for this text's walks alone
set_option linter.unusedVariables false
set_option linter.unusedSimpArgs false

/-! ### reevelaw21_right: function 11 -/
mutual
def reevelaw21_right.j1 : Nat → List (S26) → Int → Option ((List (S26)))
 | 0, _, _ => none
 | k + 1, x0, x5 => reevelaw21_right.l1 k x0 x5 ([] : List (S26)) 0
def reevelaw21_right.l1 : Nat → List (S26) → Int → List (S26) → Int → Option ((List (S26)))
 | 0, _, _, _, _ => none
 | k + 1, x0, x5, x7, x8 => if x8 < x5 then (if x8 < (x0.length : Int) then (if 0 ≤ x8 then ((reevelaw02_Of.f ((rd_T26 x0 x8).f0) ((rd_T26 x0 x8).f1)).bind fun bt269 => (if x7.length < 8796093022208 then (reevelaw21_right.l1 k x0 x5 (x7 ++ [(⟨bt269.1, bt269.2⟩ : S26)]) (wrap64 (x8 + 1))) else (none))) else (none)) else (if x7.length < 8796093022208 then (reevelaw21_right.l1 k x0 x5 (x7 ++ [(⟨0, 0⟩ : S26)]) (wrap64 (x8 + 1))) else (none))) else (some x7)
def reevelaw21_right.l0 : Nat → List (S26) → Int → Int → Int → Option ((List (S26)))
 | 0, _, _, _, _ => none
 | k + 1, x0, x1, x5, x6 => if x6 < (Go.bits .and .i64 x1 7) then (if x5 < 32 then (reevelaw21_right.l0 k x0 x1 (wrap64 (2 * x5)) (wrap64 (x6 + 1))) else (reevelaw21_right.j1 k x0 x5)) else (reevelaw21_right.j1 k x0 x5)
end
def reevelaw21_right.f (k : Nat) (l0 : List (S26)) (a1 : Int) : Option ((List (S26))) := reevelaw21_right.l0 k l0 a1 1 0
theorem reevelaw21_right.mono_l : ∀ k, (∀ y0 y1, LeO (reevelaw21_right.j1 k y0 y1) (reevelaw21_right.j1 (k + 1) y0 y1)) ∧ (∀ y0 y1 y2 y3, LeO (reevelaw21_right.l1 k y0 y1 y2 y3) (reevelaw21_right.l1 (k + 1) y0 y1 y2 y3)) ∧ (∀ y0 y1 y2 y3, LeO (reevelaw21_right.l0 k y0 y1 y2 y3) (reevelaw21_right.l0 (k + 1) y0 y1 y2 y3))
 | 0 => ⟨fun _ _ r h => by simp [reevelaw21_right.j1] at h, fun _ _ _ _ r h => by simp [reevelaw21_right.l1] at h, fun _ _ _ _ r h => by simp [reevelaw21_right.l0] at h⟩
 | k + 1 => by
  obtain ⟨ih0, ih1, ih2⟩ := reevelaw21_right.mono_l k
  refine ⟨?_, ?_, ?_⟩
  ·intro y0 y1
   unfold reevelaw21_right.j1
   repeat' first
   | (with_reducible exact ih0 _ _)
   | (with_reducible exact ih1 _ _ _ _)
   | (with_reducible exact ih2 _ _ _ _)
   | (with_reducible exact LeO.refl _)
   | (with_reducible exact LeO.none _)
   | (with_reducible refine LeO.ite ?_ ?_)
   | (with_reducible refine LeO.bind ?_ (fun _ => ?_))
   | exact ih0 _ _
   | exact ih1 _ _ _ _
   | exact ih2 _ _ _ _
   | exact LeO.none _
   | refine LeO.ite ?_ ?_
   | refine LeO.bind ?_ (fun _ => ?_)
  ·intro y0 y1 y2 y3
   unfold reevelaw21_right.l1
   repeat' first
   | (with_reducible exact ih0 _ _)
   | (with_reducible exact ih1 _ _ _ _)
   | (with_reducible exact ih2 _ _ _ _)
   | (with_reducible exact LeO.refl _)
   | (with_reducible exact LeO.none _)
   | (with_reducible refine LeO.ite ?_ ?_)
   | (with_reducible refine LeO.bind ?_ (fun _ => ?_))
   | exact ih0 _ _
   | exact ih1 _ _ _ _
   | exact ih2 _ _ _ _
   | exact LeO.none _
   | refine LeO.ite ?_ ?_
   | refine LeO.bind ?_ (fun _ => ?_)
  ·intro y0 y1 y2 y3
   unfold reevelaw21_right.l0
   repeat' first
   | (with_reducible exact ih0 _ _)
   | (with_reducible exact ih1 _ _ _ _)
   | (with_reducible exact ih2 _ _ _ _)
   | (with_reducible exact LeO.refl _)
   | (with_reducible exact LeO.none _)
   | (with_reducible refine LeO.ite ?_ ?_)
   | (with_reducible refine LeO.bind ?_ (fun _ => ?_))
   | exact ih0 _ _
   | exact ih1 _ _ _ _
   | exact ih2 _ _ _ _
   | exact LeO.none _
   | refine LeO.ite ?_ ?_
   | refine LeO.bind ?_ (fun _ => ?_)
theorem reevelaw21_right.mono : ∀ a0 a1 k, LeO (reevelaw21_right.f k a0 a1) (reevelaw21_right.f (k + 1) a0 a1) := by
 intro a0 a1 k
 obtain ⟨ih0, ih1, ih2⟩ := reevelaw21_right.mono_l k
 unfold reevelaw21_right.f
 repeat' first
   | (with_reducible exact ih0 _ _)
   | (with_reducible exact ih1 _ _ _ _)
   | (with_reducible exact ih2 _ _ _ _)
   | (with_reducible exact LeO.refl _)
   | (with_reducible exact LeO.none _)
   | (with_reducible refine LeO.ite ?_ ?_)
   | (with_reducible refine LeO.bind ?_ (fun _ => ?_))
   | exact ih0 _ _
   | exact ih1 _ _ _ _
   | exact ih2 _ _ _ _
   | exact LeO.none _
   | refine LeO.ite ?_ ?_
   | refine LeO.bind ?_ (fun _ => ?_)
def reevelaw21_right.T12 : Bool × List (List Nat × List Nat) := (true, [([], []), ([], []), ([0, 1], [0, 1]), ([2], [2]), ([3], [3]), ([], []), ([], []), ([5, 6], [5, 6]), ([7], [7]), ([8], [8]), ([4, 9], [4, 9]), ([10, 10, 0, 1, 2, 3, 4, 5, 6, 7, 8, 9, 10], [10])])
def reevelaw21_right.B12 : List Nat := [0, 0, 3, 7, 15, 0, 0, 96, 224, 480, 1023, 2047]
theorem reevelaw21_right.tab12 : rtab .any (opsOf Try.f11 12) = reevelaw21_right.T12 := by kernel_rfl
theorem reevelaw21_right.bits12 : waitsOk reevelaw21_right.T12.2 reevelaw21_right.B12 = true := by kernel_rfl
set_option maxHeartbeats 8000000 in
set_option maxRecDepth 100000 in
theorem reevelaw21_right.calls (k : Nat) (A0 : Option Addr) (c0 : Nat) (l0 : List (S26)) (a1 : Int) (r : List (S26)) (w : World) (hr0 : Kd.C k26 w A0 l0.length l0) (hc0 : l0.length ≤ c0) (h : reevelaw21_right.f k l0 a1 = some r) :
  Calls Try.prog 11 #[.slice A0 l0.length c0, .int .i64 a1] w fun e w' => ∃ v0_ : Value, e = .returned (v0_) ∧ Kd.R k26 26 w' w.heap.size (fun _ => True) v0_ r ∧ Below w.heap.size w w' := by
 have hu26 := Try.underlying26
 have HR0 := Aside0.mk hr0
 have HC0 := Aside0.mk hc0
 clear hr0 hc0
 have HB := Aside0.mk (Below.refl w.heap.size w)
 have H : (reevelaw21_right.l0 k l0 a1 1 0) = some r := h
 clear h
 have HC3 := Aside0.mk H
 clear H
 go_enter Try.func11, Try.ntmps11
 go_upto_block 0 with (fail)
 go_cut [5] (fun v5 wc => ∃ (kq : Nat) (x5_2 : Int), v5 = .int .i64 x5_2 ∧ Aside0 (reevelaw21_right.j1 kq l0 x5_2 = some r) ∧ Aside0 (kq ≤ k) ∧ Aside0 (Below w.heap.size w wc))
 case first =>
  have H := HC3.out
  clear HC3
  have H' := Aside0.mk H
  clear H
  go_wp2
  go_loopg [5, 6] k (fun kq v5 v6 w' => ∃ (x5_1 : Int) (x6_1 : Int), v5 = .int .i64 x5_1 ∧ v6 = .int .i64 x6_1 ∧ Aside0 (reevelaw21_right.l0 kq l0 a1 x5_1 x6_1 = some r) ∧ Aside0 (kq ≤ k) ∧ Aside0 (Below w.heap.size w w'))
  case atStart => exact ⟨(1), (0), (by first | rfl | (simp; done) | (simp [*]; done) | (simp [Int.tdiv_eq_ediv_of_nonneg]; done)), (by first | rfl | (simp; done) | (simp [*]; done) | (simp [Int.tdiv_eq_ediv_of_nonneg]; done)), H', ⟨Nat.le_refl _⟩, ⟨by repeat (first | (with_reducible first | exact HB.out | apply below_alloc | apply pw_below_drewN | apply below_drew1) | exact HB.out)⟩⟩
  case round =>
   clear H'
   try clear c1
   try clear p2
   obtain ⟨x5_1, x6_1, rfl, rfl, HA, HK1, HB⟩ := hrel
   cases gk with
   | zero => exact absurd HA.out (by simp [reevelaw21_right.l0])
   | succ k1 =>
    have H := HA.out
    clear HA
    simp only [reevelaw21_right.l0] at H
    by_cases c4 : x6_1 < (Go.bits .and .i64 a1 7)
    ·rw [if_pos c4] at H
     have c4b0 : decide (x6_1 < (Go.bits .and .i64 a1 7)) = true := decide_eq_true c4
     clear c4
     (first | rw [c4b0] | (simp only [i64_w, i32_w]; rw [c4b0]) | skip)
     by_cases c5 : x5_1 < 32
     ·rw [if_pos c5] at H
      have c5b0 : decide (x5_1 < 32) = true := decide_eq_true c5
      clear c5
      have H' := Aside0.mk H
      clear H
      go_wp2
      go_roundg k1
      case measure => have := HK1.out; omega
      case rel => exact ⟨(wrap64 (2 * x5_1)), (wrap64 (x6_1 + 1)), (by first | rfl | (simp; done) | (simp [*]; done) | (simp [Int.tdiv_eq_ediv_of_nonneg]; done)), (by first | rfl | (simp; done) | (simp [*]; done) | (simp [Int.tdiv_eq_ediv_of_nonneg]; done)), H', ⟨by have := HK1.out; omega⟩, ⟨by repeat (first | (with_reducible first | exact HB.out | apply below_alloc | apply pw_below_drewN | apply below_drew1) | exact HB.out)⟩⟩
     ·rw [if_neg c5] at H
      have c5b0 : decide (x5_1 < 32) = false := decide_eq_false c5
      clear c5
      have H' := Aside0.mk H
      clear H
      go_wp2
      go_meet
      case rel => exact ⟨_, (x5_1), (by first | rfl | (simp; done) | (simp [*]; done) | (simp [Int.tdiv_eq_ediv_of_nonneg]; done)), H', ⟨by have := HK1.out; first | omega | exact Nat.le_refl _⟩, ⟨by repeat (first | (with_reducible first | exact HB.out | apply below_alloc | apply pw_below_drewN | apply below_drew1) | exact HB.out)⟩⟩
    ·rw [if_neg c4] at H
     have c4b0 : decide (x6_1 < (Go.bits .and .i64 a1 7)) = false := decide_eq_false c4
     clear c4
     (first | rw [c4b0] | (simp only [i64_w, i32_w]; rw [c4b0]) | skip)
     have H' := Aside0.mk H
     clear H
     go_wp2
     go_meet
     case rel => exact ⟨_, (x5_1), (by first | rfl | (simp; done) | (simp [*]; done) | (simp [Int.tdiv_eq_ediv_of_nonneg]; done)), H', ⟨by have := HK1.out; first | omega | exact Nat.le_refl _⟩, ⟨by repeat (first | (with_reducible first | exact HB.out | apply below_alloc | apply pw_below_drewN | apply below_drew1) | exact HB.out)⟩⟩
 case rest =>
  clear HC3
  try clear c1
  try clear p2
  try clear c4
  try clear c4b0
  try clear c5
  try clear c5b0
  try clear p2
  obtain ⟨kq, x5_2, rfl, HA, HJ2, HB⟩ := hcut
  cases kq with
  | zero => exact absurd HA.out (by simp [reevelaw21_right.j1])
  | succ kj2 =>
   have H := HA.out
   clear HA
   simp only [reevelaw21_right.j1] at H
   have H' := Aside0.mk H
   clear H
   go_wp2
   go_loopg [7, 8] kj2 (fun kq v7 v8 w' => ∃ (x7_2 : List (S26)) (x8_2 : Int), v8 = .int .i64 x8_2 ∧ Aside0 (reevelaw21_right.l1 kq l0 x5_2 x7_2 x8_2 = some r) ∧ Aside0 (kq ≤ kj2) ∧ Aside0 (Kd.R k26 26 w' w.heap.size (fun _ => True) v7 x7_2) ∧ Aside0 (Below w.heap.size w w'))
   case atStart => exact ⟨(([] : List (S26))), (0), (by first | rfl | (simp; done) | (simp [*]; done) | (simp [Int.tdiv_eq_ediv_of_nonneg]; done)), H', ⟨Nat.le_refl _⟩, ⟨by first | exact Kd.R_nil _ _ _ _ _ | exact Kd.N_nil _ _ _ _ _ | exact Kd.V_nil _ _ _ _ _ | exact Kd.Q_nil _ _ _ _ _ | exact Kd.S_nil _ _ _ _ _⟩, ⟨by repeat (first | (with_reducible first | exact HB.out | apply below_alloc | apply pw_below_drewN | apply below_drew1) | exact HB.out)⟩⟩
   case round =>
    clear H'
    try clear c1
    try clear p2
    try clear c4
    try clear c4b0
    try clear c5
    try clear c5b0
    try clear p2
    obtain ⟨x7_2, x8_2, rfl, HA, HK2, HO_7, HB⟩ := hrel
    cases gk with
    | zero => exact absurd HA.out (by simp [reevelaw21_right.l1])
    | succ k2 =>
     have H := HA.out
     clear HA
     simp only [reevelaw21_right.l1] at H
     by_cases c6 : x8_2 < x5_2
     ·rw [if_pos c6] at H
      have c6b0 : decide (x8_2 < x5_2) = true := decide_eq_true c6
      clear c6
      by_cases c7 : x8_2 < (l0.length : Int)
      ·rw [if_pos c7] at H
       have c7b0 : decide (x8_2 < (l0.length : Int)) = true := decide_eq_true c7
       clear c7
       by_cases c8 : 0 ≤ x8_2
       ·rw [if_pos c8] at H
        have c8b0 : decide (0 ≤ x8_2) = true := decide_eq_true c8
        clear c8
        replace H := Option.bind_eq_some_iff.mp H
        obtain ⟨⟨t269, t270⟩, A90, H⟩ := H
        replace H : (if x7_2.length < 8796093022208 then (reevelaw21_right.l1 k2 l0 x5_2 (x7_2 ++ [(⟨t269, t270⟩ : S26)]) (wrap64 (x8_2 + 1))) else (none)) = some r := H
        have A9 := Aside0.mk A90
        clear A90
        by_cases c10 : x7_2.length < 8796093022208
        ·rw [if_pos c10] at H
         have LMc10 := Aside0.mk c10
         clear c10
         obtain ⟨y271, hy271⟩ : ∃ y_ : List (S26), y_ = (x7_2 ++ [(⟨t269, t270⟩ : S26)]) := ⟨_, rfl⟩
         replace H : (reevelaw21_right.l1 k2 l0 x5_2 y271 (wrap64 (x8_2 + 1))) = some r := by first | (rw [hy271]; with_reducible exact H) | (have H2_ := (Option.bind_some _ _).symm.trans H; rw [hy271]; with_reducible exact H2_) | (have H2_ := (Option.bind_some _ _).symm.trans H; with_reducible exact H2_) | with_reducible exact H | (rw [hy271]; exact H) | exact H
         have Ny271 := Aside0.mk hy271
         clear hy271
         have H' := Aside0.mk H
         clear H
         try go_wp2_with (first | ((with_reducible refine gate_dst (N := 9) rfl ?_); refine box_event ?hg (N := 9) ?hd (cs := #[.int .i64 0, .int .i64 0]) (t := 26) ?hr ?_; (case hd => rfl); (case hg => rfl); (case hr => first | (go_simp; done) | (go_simp; rfl)); intro gb266 hg w11 hbox hb; have n0_ := Aside0.mk (Kd.R_below (Kd.R_elderB (by (with_reducible repeat (first | apply Kd.R_alloc | apply Kd.R_drewN | apply Kd.R_drew)); exact HO_7.out) gb266 (Nat.le_of_eq hg.symm)) hb); have n1_ := Aside0.mk (below_step (by repeat (first | (with_reducible first | exact HB.out | apply below_alloc | apply pw_below_drewN | apply below_drew1) | exact HB.out)) hb); have n2_ := Aside0.mk (hbox); have n3_ := Aside0.mk ((by rw [hg]; exact (below_size (by repeat (first | (with_reducible first | exact HB.out | apply below_alloc | apply pw_below_drewN | apply below_drew1) | exact HB.out))) : w.heap.size ≤ gb266)); have n4_ := Aside0.mk ((by rw [hg]; exact (below_size (by repeat (first | (with_reducible first | exact HB.out | apply below_alloc | apply pw_below_drewN | apply below_drew1) | exact HB.out))) : w.heap.size ≤ gb266)); clear HO_7; clear HB; have HO_7 := n0_; have HB := n1_; have BK266 := n2_; have GW266 := n3_; have GE266 := n4_; clear n0_ n1_ n2_ n3_ n4_; clear hb hbox hg; have hcz12_0 : w11.cell? ⟨gb266, 0, none⟩ = some (.int .i64 0) := (blk_cell BK266.out 0).trans rfl; have hcz12_1 : w11.cell? ⟨gb266, 1, none⟩ = some (.int .i64 0) := (blk_cell BK266.out 1).trans rfl; have hfz12_0 := blk_frozen BK266.out 0; have hfz12_1 := blk_frozen BK266.out 1))
         have n0_ : Aside0 (Kd.R k26 26 ((w11.setCell ⟨gb266, 0, none⟩ (.int .i64 0)).setCell ⟨gb266, 1, none⟩ (.int .i64 0)) w.heap.size (fun k_ => k_ ≠ gb266) u7 x7_2) := ⟨by (with_reducible repeat (first | apply Kd.R_alloc | apply Kd.R_drewN | apply Kd.R_drew)); exact Kd.R_mono (Kd.R_far (p := ⟨gb266, 1, none⟩) (Kd.R_far (p := ⟨gb266, 0, none⟩) (Kd.R_mono HO_7.out (fun k_ hk => (⟨hk, hk.2⟩ : _ ∧ k_ ≠ gb266))) (fun _ hk => hk.2) (.int .i64 0)) (fun _ hk => hk.2) (.int .i64 0)) (fun _ hk => hk.1.2)⟩
         have n1_ : Aside0 (((w11.setCell ⟨gb266, 0, none⟩ (.int .i64 0)).setCell ⟨gb266, 1, none⟩ (.int .i64 0)).heap[gb266]? = some (.cells #[.int .i64 0, .int .i64 0] 26 (0, 0))) := ⟨by (with_reducible repeat (first | refine blk_drewN ?_ _ | refine blk_drew ?_ | refine blk_alloc ?_ _)); refine blk_put (cs := #[.int .i64 0, .int .i64 0]) ?_ 1 _ rfl; (with_reducible repeat (first | refine blk_drewN ?_ _ | refine blk_drew ?_ | refine blk_alloc ?_ _)); refine blk_put (cs := #[.int .i64 0, .int .i64 0]) ?_ 0 _ rfl; (with_reducible repeat (first | refine blk_drewN ?_ _ | refine blk_drew ?_ | refine blk_alloc ?_ _)); exact BK266.out⟩
         have n2_ : Aside0 (Below w.heap.size w ((w11.setCell ⟨gb266, 0, none⟩ (.int .i64 0)).setCell ⟨gb266, 1, none⟩ (.int .i64 0))) := ⟨by repeat (first | (with_reducible first | exact HB.out | apply below_alloc | apply pw_below_drewN | apply below_drew1 | refine below_set ?_ GE266.out) | exact HB.out)⟩
         (try clear HO_7)
         (try clear BK266)
         (try clear HB)
         generalize ((w11.setCell ⟨gb266, 0, none⟩ (.int .i64 0)).setCell ⟨gb266, 1, none⟩ (.int .i64 0)) = w13 at n0_ n1_ n2_ ⊢
         have HO_7 := n0_
         have BK266 := n1_
         have HB := n2_
         clear n0_ n1_ n2_
         have n0_ := Aside0.mk (Kd.R_drew HO_7.out)
         have n1_ := Aside0.mk (blk_drew BK266.out)
         have n2_ := Aside0.mk (below_drew1 HB.out)
         clear HO_7
         clear BK266
         clear HB
         have HO_7 := n0_
         have BK266 := n1_
         have HB := n2_
         clear n0_ n1_ n2_
         have p267 : 0 ≤ (x8_2 : Int) := of_decide_eq_true (by first | (with_reducible assumption) | assumption)
         have q267 : x8_2 < (l0.length : Int) := of_decide_eq_true (by first | (with_reducible assumption) | assumption)
         obtain ⟨ad267, e267, hx267_0, hx267_1⟩ := at_T26 HR0.out x8_2 p267 q267
         have hw267_1 := hx267_1
         have hw267_0 := hx267_0
         cases e267
         replace hx267_0 := (HB.out.cell (World.block_lt_of_cell? w _ hx267_0)).trans hx267_0
         replace hx267_1 := (HB.out.cell (World.block_lt_of_cell? w _ hx267_1)).trans hx267_1
         replace p267 := eq_true p267
         replace q267 := eq_true q267
         have p268 : 0 ≤ (x8_2 : Int) := of_decide_eq_true (by first | (with_reducible assumption) | assumption)
         have q268 : x8_2 < (l0.length : Int) := of_decide_eq_true (by first | (with_reducible assumption) | assumption)
         obtain ⟨ad268, e268, hx268_0, hx268_1⟩ := at_T26 HR0.out x8_2 p268 q268
         have hw268_1 := hx268_1
         have hw268_0 := hx268_0
         obtain rfl : ad267 = ad268 := (by injection e268)
         replace hx268_0 := (HB.out.cell (World.block_lt_of_cell? w _ hx268_0)).trans hx268_0
         replace hx268_1 := (HB.out.cell (World.block_lt_of_cell? w _ hx268_1)).trans hx268_1
         replace p268 := eq_true p268
         replace q268 := eq_true q268
         refine start_ (n := 12) (S := fun w' => w'.cell? (ad267.add ((x8_2).toNat * 2)) = some (.int .i64 ((rd_T26 l0 x8_2).f0)) ∧ w'.cell? ⟨(ad267.add ((x8_2).toNat * 2)).block, (ad267.add ((x8_2).toNat * 2)).off + 1, none⟩ = some (.int .i64 ((rd_T26 l0 x8_2).f1)) ∧ w'.cell? (ad267.add ((x8_2).toNat * 2)) = some (.int .i64 ((rd_T26 l0 x8_2).f0)) ∧ w'.cell? ⟨(ad267.add ((x8_2).toNat * 2)).block, (ad267.add ((x8_2).toNat * 2)).off + 1, none⟩ = some (.int .i64 ((rd_T26 l0 x8_2).f1))) (ds := []) #[false, false, false, false, false, false, false, false, false, false, false, false] (by kernel_rfl) rfl rfl ⟨((HB.out.cell (World.block_lt_of_cell? w _ hw267_0)).trans hw267_0), ((HB.out.cell (World.block_lt_of_cell? w _ hw267_1)).trans hw267_1), ((HB.out.cell (World.block_lt_of_cell? w _ hw268_0)).trans hw268_0), ((HB.out.cell (World.block_lt_of_cell? w _ hw268_1)).trans hw268_1)⟩ (fun hHeld => ?_); refine with_tabW reevelaw21_right.tab12 reevelaw21_right.bits12 (fun HT_ HW_ => ?_)
         generalize w13.drew = w14 at HO_7 BK266 HB hx267_0 hx267_1 hx268_0 hx268_1 hHeld ⊢
         refine pure_ (i := 0) (N := some 32) (v := ?_) (a' := ?_) #[true, false, false, false, false, false, false, false, false, false, false, false] rfl rfl (any_of HT_.out (by kernel_rfl)) (fun _ _ _ h => h) (Or.inl ⟨by rfl, ?_⟩) ?_ ?_
         rotate_left
         ·intro w'
          go_simp
          with_reducible rfl
         rotate_left
         ·simp only [Act.put, List.setIfInBounds_toArray, List.set_cons_zero, List.set_cons_succ, i64_w, i32_w]
          rfl
         refine pure_ (i := 1) (N := some 33) (v := ?_) (a' := ?_) #[true, true, false, false, false, false, false, false, false, false, false, false] rfl rfl (any_of HT_.out (by kernel_rfl)) (fun _ _ _ h => h) (Or.inl ⟨by rfl, ?_⟩) ?_ ?_
         rotate_left
         ·intro w'
          go_simp
          with_reducible rfl
         rotate_left
         ·simp only [Act.put, List.setIfInBounds_toArray, List.set_cons_zero, List.set_cons_succ, i64_w, i32_w]
          rfl
         refine pure_ (i := 2) (N := some 34) (v := ?_) (a' := ?_) #[true, true, true, false, false, false, false, false, false, false, false, false] rfl rfl (any_of HT_.out (by kernel_rfl)) (fun _ _ _ h => h) (Or.inl ⟨by rfl, ?_⟩) ?_ ?_
         rotate_left
         ·intro w'
          go_simp
          with_reducible rfl
         rotate_left
         ·simp only [Act.put, List.setIfInBounds_toArray, List.set_cons_zero, List.set_cons_succ, i64_w, i32_w]
          rfl
         refine pure_ (i := 3) (N := some 35) (v := ?_) (a' := ?_) #[true, true, true, true, false, false, false, false, false, false, false, false] rfl rfl (any_of HT_.out (by kernel_rfl)) (fun _ _ _ h => h) (Or.inl ⟨by rfl, ?_⟩) ?_ ?_
         rotate_left
         ·intro w'
          go_simp
          with_reducible rfl
         rotate_left
         ·simp only [Act.put, List.setIfInBounds_toArray, List.set_cons_zero, List.set_cons_succ, i64_w, i32_w]
          rfl
         refine pure_ (i := 5) (N := some 37) (v := ?_) (a' := ?_) #[true, true, true, true, false, true, false, false, false, false, false, false] rfl rfl (any_of HT_.out (by kernel_rfl)) (fun _ _ _ h => h) (Or.inl ⟨by rfl, ?_⟩) ?_ ?_
         rotate_left
         ·intro w'
          go_simp
          with_reducible rfl
         rotate_left
         ·simp only [Act.put, List.setIfInBounds_toArray, List.set_cons_zero, List.set_cons_succ, i64_w, i32_w]
          rfl
         refine pure_ (i := 6) (N := some 38) (v := ?_) (a' := ?_) #[true, true, true, true, false, true, true, false, false, false, false, false] rfl rfl (any_of HT_.out (by kernel_rfl)) (fun _ _ _ h => h) (Or.inl ⟨by rfl, ?_⟩) ?_ ?_
         rotate_left
         ·intro w'
          go_simp
          with_reducible rfl
         rotate_left
         ·simp only [Act.put, List.setIfInBounds_toArray, List.set_cons_zero, List.set_cons_succ, i64_w, i32_w]
          rfl
         refine pure_ (i := 7) (N := some 39) (v := ?_) (a' := ?_) #[true, true, true, true, false, true, true, true, false, false, false, false] rfl rfl (any_of HT_.out (by kernel_rfl)) (fun _ _ _ h => h) (Or.inl ⟨by rfl, ?_⟩) ?_ ?_
         rotate_left
         ·intro w'
          go_simp
          with_reducible rfl
         rotate_left
         ·simp only [Act.put, List.setIfInBounds_toArray, List.set_cons_zero, List.set_cons_succ, i64_w, i32_w]
          rfl
         refine pure_ (i := 8) (N := some 40) (v := ?_) (a' := ?_) #[true, true, true, true, false, true, true, true, true, false, false, false] rfl rfl (any_of HT_.out (by kernel_rfl)) (fun _ _ _ h => h) (Or.inl ⟨by rfl, ?_⟩) ?_ ?_
         rotate_left
         ·intro w'
          go_simp
          with_reducible rfl
         rotate_left
         ·simp only [Act.put, List.setIfInBounds_toArray, List.set_cons_zero, List.set_cons_succ, i64_w, i32_w]
          rfl
         refine take_ (i := 4) (N := some 36) (v := ?_) (a' := ?_) #[true, true, true, true, true, true, true, true, true, false, false, false] rfl rfl (take_ofW HT_.out HW_.out (by kernel_rfl)) (fun _ _ _ h => h) (Or.inl ⟨by rfl, ?_⟩) hHeld ?_ ?_
         rotate_left
         ·rintro w' ⟨s0, s1, s2, s3⟩
          go_simp
          with_reducible rfl
         rotate_left
         ·simp only [Act.put, List.setIfInBounds_toArray, List.set_cons_zero, List.set_cons_succ, i64_w, i32_w]
          rfl
         refine take_ (i := 9) (N := some 41) (v := ?_) (a' := ?_) #[true, true, true, true, true, true, true, true, true, true, false, false] rfl rfl (take_ofW HT_.out HW_.out (by kernel_rfl)) (fun _ _ _ h => h) (Or.inl ⟨by rfl, ?_⟩) hHeld ?_ ?_
         rotate_left
         ·rintro w' ⟨s0, s1, s2, s3⟩
          go_simp
          with_reducible rfl
         rotate_left
         ·simp only [Act.put, List.setIfInBounds_toArray, List.set_cons_zero, List.set_cons_succ, i64_w, i32_w]
          rfl
         refine one_ (i := 10) (N := some 42) #[true, true, true, true, true, true, true, true, true, true, true, false] rfl rfl (one_of HT_.out (by kernel_rfl)) (by decide) (fun K hK => ?_)
         refine goes_ Try.func31 (by kernel_rfl) rfl #[.int .i64 ((rd_T26 l0 x8_2).f0), .int .i64 ((rd_T26 l0 x8_2).f1)] (by rfl) rfl rfl (by (try simp only [List.map_toArray, List.map_cons, List.map_nil]); first | done | rfl | (simp only [List.length_drop, List.length_take]; rfl)) ?_
         with_reducible refine (reevelaw02_Of.calls ((rd_T26 l0 x8_2).f0) ((rd_T26 l0 x8_2).f1) t269 t270 _ A9.out).mono ?_
         rintro e w15 ⟨rfl, hb⟩
         refine ⟨_, rfl, ?_⟩
         have n0_ := Aside0.mk (Kd.R_below (by (with_reducible repeat (first | apply Kd.R_alloc | apply Kd.R_drewN | apply Kd.R_drew)); exact HO_7.out) hb)
         have n1_ := Aside0.mk (blk_below (g := gb266) (o := .cells #[.int .i64 0, .int .i64 0] 26 (0, 0)) (by (with_reducible repeat (first | refine blk_drewN ?_ _ | refine blk_drew ?_ | refine blk_alloc ?_ _)); exact BK266.out) hb)
         have n2_ := Aside0.mk (below_step (by repeat (first | (with_reducible first | exact HB.out | apply below_alloc | apply pw_below_drewN | apply below_drew1 | refine below_set ?_ GE266.out) | exact HB.out)) hb)
         clear HO_7
         clear BK266
         clear HB
         have HO_7 := n0_
         have BK266 := n1_
         have HB := n2_
         clear n0_ n1_ n2_
         (try clear hb)
         (try clear hb2)
         (try clear hk)
         (try clear hi)
         refine hK.out _ _ ⟨((HB.out.cell (World.block_lt_of_cell? w _ hw267_0)).trans hw267_0), ((HB.out.cell (World.block_lt_of_cell? w _ hw267_1)).trans hw267_1), ((HB.out.cell (World.block_lt_of_cell? w _ hw268_0)).trans hw268_0), ((HB.out.cell (World.block_lt_of_cell? w _ hw268_1)).trans hw268_1)⟩ (fun hHeld => ?_)
         clear hK K
         refine norm_ (a' := ?_) ?_ ?_
         rotate_left
         ·show Act.put _ (some 42) _ = _
          simp only [Act.put, List.setIfInBounds_toArray, List.set_cons_zero, List.set_cons_succ, i64_w, i32_w]
          rfl
         refine one_ (i := 11) (N := none) #[true, true, true, true, true, true, true, true, true, true, true, true] rfl rfl (one_of HT_.out (by kernel_rfl)) (by decide) (fun K hK => ?_)
         have hs16 : w15.cell? ⟨gb266, 0, none⟩ = some (.int .i64 0) := (blk_cell BK266.out 0).trans rfl
         have hfs16 := blk_frozen BK266.out 0
         have hs17 : w15.cell? ⟨gb266, 1, none⟩ = some (.int .i64 0) := (blk_cell BK266.out 1).trans rfl
         have hfs17 := blk_frozen BK266.out 1
         refine skip_ (w1 := ?_) (by rfl) rfl ?_ ?_
         rotate_left
         ·go_simp
          rfl
         refine hK.out _ _ ⟨((cell_far (p := ⟨gb266, _, none⟩) (by first | exact Nat.ne_of_lt (Nat.lt_of_lt_of_le (by have := World.block_lt_of_cell? _ _ hw267_0; first | rwa [add_block] at this | exact this) GW266.out) | (rw [add_block]; exact Nat.ne_of_lt (Nat.lt_of_lt_of_le (by have := World.block_lt_of_cell? _ _ hw267_0; first | rwa [add_block] at this | exact this) GW266.out)) | (show (Addr.add _ _).block ≠ _; rw [add_block]; exact Nat.ne_of_lt (Nat.lt_of_lt_of_le (by have := World.block_lt_of_cell? _ _ hw267_0; first | rwa [add_block] at this | exact this) GW266.out)) | (dsimp only; exact Nat.ne_of_lt (Nat.lt_of_lt_of_le (by have := World.block_lt_of_cell? _ _ hw267_0; first | rwa [add_block] at this | exact this) GW266.out))) _).trans (((cell_far (p := ⟨gb266, _, none⟩) (by first | exact Nat.ne_of_lt (Nat.lt_of_lt_of_le (by have := World.block_lt_of_cell? _ _ hw267_0; first | rwa [add_block] at this | exact this) GW266.out) | (rw [add_block]; exact Nat.ne_of_lt (Nat.lt_of_lt_of_le (by have := World.block_lt_of_cell? _ _ hw267_0; first | rwa [add_block] at this | exact this) GW266.out)) | (show (Addr.add _ _).block ≠ _; rw [add_block]; exact Nat.ne_of_lt (Nat.lt_of_lt_of_le (by have := World.block_lt_of_cell? _ _ hw267_0; first | rwa [add_block] at this | exact this) GW266.out)) | (dsimp only; exact Nat.ne_of_lt (Nat.lt_of_lt_of_le (by have := World.block_lt_of_cell? _ _ hw267_0; first | rwa [add_block] at this | exact this) GW266.out))) _).trans (hHeld.1)))), ((cell_far (p := ⟨gb266, _, none⟩) (by first | exact Nat.ne_of_lt (Nat.lt_of_lt_of_le (by have := World.block_lt_of_cell? _ _ hw267_1; first | rwa [add_block] at this | exact this) GW266.out) | (rw [add_block]; exact Nat.ne_of_lt (Nat.lt_of_lt_of_le (by have := World.block_lt_of_cell? _ _ hw267_1; first | rwa [add_block] at this | exact this) GW266.out)) | (show (Addr.add _ _).block ≠ _; rw [add_block]; exact Nat.ne_of_lt (Nat.lt_of_lt_of_le (by have := World.block_lt_of_cell? _ _ hw267_1; first | rwa [add_block] at this | exact this) GW266.out)) | (dsimp only; exact Nat.ne_of_lt (Nat.lt_of_lt_of_le (by have := World.block_lt_of_cell? _ _ hw267_1; first | rwa [add_block] at this | exact this) GW266.out))) _).trans (((cell_far (p := ⟨gb266, _, none⟩) (by first | exact Nat.ne_of_lt (Nat.lt_of_lt_of_le (by have := World.block_lt_of_cell? _ _ hw267_1; first | rwa [add_block] at this | exact this) GW266.out) | (rw [add_block]; exact Nat.ne_of_lt (Nat.lt_of_lt_of_le (by have := World.block_lt_of_cell? _ _ hw267_1; first | rwa [add_block] at this | exact this) GW266.out)) | (show (Addr.add _ _).block ≠ _; rw [add_block]; exact Nat.ne_of_lt (Nat.lt_of_lt_of_le (by have := World.block_lt_of_cell? _ _ hw267_1; first | rwa [add_block] at this | exact this) GW266.out)) | (dsimp only; exact Nat.ne_of_lt (Nat.lt_of_lt_of_le (by have := World.block_lt_of_cell? _ _ hw267_1; first | rwa [add_block] at this | exact this) GW266.out))) _).trans (hHeld.2.1)))), ((cell_far (p := ⟨gb266, _, none⟩) (by first | exact Nat.ne_of_lt (Nat.lt_of_lt_of_le (by have := World.block_lt_of_cell? _ _ hw268_0; first | rwa [add_block] at this | exact this) GW266.out) | (rw [add_block]; exact Nat.ne_of_lt (Nat.lt_of_lt_of_le (by have := World.block_lt_of_cell? _ _ hw268_0; first | rwa [add_block] at this | exact this) GW266.out)) | (show (Addr.add _ _).block ≠ _; rw [add_block]; exact Nat.ne_of_lt (Nat.lt_of_lt_of_le (by have := World.block_lt_of_cell? _ _ hw268_0; first | rwa [add_block] at this | exact this) GW266.out)) | (dsimp only; exact Nat.ne_of_lt (Nat.lt_of_lt_of_le (by have := World.block_lt_of_cell? _ _ hw268_0; first | rwa [add_block] at this | exact this) GW266.out))) _).trans (((cell_far (p := ⟨gb266, _, none⟩) (by first | exact Nat.ne_of_lt (Nat.lt_of_lt_of_le (by have := World.block_lt_of_cell? _ _ hw268_0; first | rwa [add_block] at this | exact this) GW266.out) | (rw [add_block]; exact Nat.ne_of_lt (Nat.lt_of_lt_of_le (by have := World.block_lt_of_cell? _ _ hw268_0; first | rwa [add_block] at this | exact this) GW266.out)) | (show (Addr.add _ _).block ≠ _; rw [add_block]; exact Nat.ne_of_lt (Nat.lt_of_lt_of_le (by have := World.block_lt_of_cell? _ _ hw268_0; first | rwa [add_block] at this | exact this) GW266.out)) | (dsimp only; exact Nat.ne_of_lt (Nat.lt_of_lt_of_le (by have := World.block_lt_of_cell? _ _ hw268_0; first | rwa [add_block] at this | exact this) GW266.out))) _).trans (hHeld.2.2.1)))), ((cell_far (p := ⟨gb266, _, none⟩) (by first | exact Nat.ne_of_lt (Nat.lt_of_lt_of_le (by have := World.block_lt_of_cell? _ _ hw268_1; first | rwa [add_block] at this | exact this) GW266.out) | (rw [add_block]; exact Nat.ne_of_lt (Nat.lt_of_lt_of_le (by have := World.block_lt_of_cell? _ _ hw268_1; first | rwa [add_block] at this | exact this) GW266.out)) | (show (Addr.add _ _).block ≠ _; rw [add_block]; exact Nat.ne_of_lt (Nat.lt_of_lt_of_le (by have := World.block_lt_of_cell? _ _ hw268_1; first | rwa [add_block] at this | exact this) GW266.out)) | (dsimp only; exact Nat.ne_of_lt (Nat.lt_of_lt_of_le (by have := World.block_lt_of_cell? _ _ hw268_1; first | rwa [add_block] at this | exact this) GW266.out))) _).trans (((cell_far (p := ⟨gb266, _, none⟩) (by first | exact Nat.ne_of_lt (Nat.lt_of_lt_of_le (by have := World.block_lt_of_cell? _ _ hw268_1; first | rwa [add_block] at this | exact this) GW266.out) | (rw [add_block]; exact Nat.ne_of_lt (Nat.lt_of_lt_of_le (by have := World.block_lt_of_cell? _ _ hw268_1; first | rwa [add_block] at this | exact this) GW266.out)) | (show (Addr.add _ _).block ≠ _; rw [add_block]; exact Nat.ne_of_lt (Nat.lt_of_lt_of_le (by have := World.block_lt_of_cell? _ _ hw268_1; first | rwa [add_block] at this | exact this) GW266.out)) | (dsimp only; exact Nat.ne_of_lt (Nat.lt_of_lt_of_le (by have := World.block_lt_of_cell? _ _ hw268_1; first | rwa [add_block] at this | exact this) GW266.out))) _).trans (hHeld.2.2.2))))⟩ (fun hHeld => ?_)
         clear hK K
         refine done_ (done_of HT_.out (by kernel_rfl)) ?_
         have hcz18_0 : w15.cell? ⟨gb266, 0, none⟩ = some (.int .i64 0) := (blk_cell BK266.out 0).trans rfl
         have hcz18_1 : w15.cell? ⟨gb266, 1, none⟩ = some (.int .i64 0) := (blk_cell BK266.out 1).trans rfl
         have hfz18_0 := blk_frozen BK266.out 0
         have hfz18_1 := blk_frozen BK266.out 1
         try go_wp2_with (first | ((with_reducible refine gate_builtin (b := .append) (xs := #[.tmp 43, .tmp 45]) rfl ?_); at_builtin; refine Kd.R_append k26 (w0 := w) w.heap.size rfl (.tmp 43) (.tmp 45) 22 26 (.agg #[(.int .i64 0), (.int .i64 0)]) 16 rfl Try.underlying22 info26 rfl (by decide) (by omega) u7 x7_2 (⟨t269, t270⟩ : S26) [.int .i64 t269, .int .i64 t270] (fun k_ => k_ ≠ gb266) (fun _ => False) rfl (by first | (go_simp; done) | (go_simp; rfl)) ?aP (fun _ hk => hk.elim) ?aF ?aO ?aB ?aS ?aL ?_; (case aP => exact k26_mkM _ _ _ (⟨t269, t270⟩ : S26)); (case aB => exact (by repeat (first | (with_reducible first | exact HB.out | apply below_alloc | apply pw_below_drewN | apply below_drew1 | refine below_set ?_ GE266.out) | exact HB.out))); (case aF => exact (fun k_ hk => Kd.freshB (g := gb266) (o := .cells #[.int .i64 t269, .int .i64 t270] 26 (0, 0)) (by (with_reducible repeat (first | refine blk_drewN ?_ _ | refine blk_drew ?_ | refine blk_alloc ?_ _)); refine blk_put (cs := #[.int .i64 t269, .int .i64 0]) ?_ 1 _ rfl; (with_reducible repeat (first | refine blk_drewN ?_ _ | refine blk_drew ?_ | refine blk_alloc ?_ _)); refine blk_put (cs := #[.int .i64 0, .int .i64 0]) ?_ 0 _ rfl; (with_reducible repeat (first | refine blk_drewN ?_ _ | refine blk_drew ?_ | refine blk_alloc ?_ _)); exact BK266.out) k_ hk)); (case aO => exact (by (with_reducible repeat (first | apply Kd.R_alloc | apply Kd.R_drewN | apply Kd.R_drew)); exact Kd.R_mono (Kd.R_far (p := ⟨gb266, 1, none⟩) (Kd.R_far (p := ⟨gb266, 0, none⟩) (Kd.R_mono HO_7.out (fun k_ hk => (⟨hk, hk⟩ : _ ∧ k_ ≠ gb266))) (fun _ hk => hk.2) (.int .i64 t269)) (fun _ hk => hk.2) (.int .i64 t270)) (fun _ hk => hk.1))); (case aS => exact (below_size (by repeat (first | (with_reducible first | exact HB.out | apply below_alloc | apply pw_below_drewN | apply below_drew1 | refine below_set ?_ GE266.out) | exact HB.out)))); (case aL => have := LMc10.out; omega); intro v272 w19 ho hb hg hat; rw [← Ny271.out] at ho; have n0_ := Aside0.mk (blk_grown (g := gb266) (o := .cells #[.int .i64 t269, .int .i64 t270] 26 (0, 0)) (by (with_reducible repeat (first | refine blk_drewN ?_ _ | refine blk_drew ?_ | refine blk_alloc ?_ _)); refine blk_put (cs := #[.int .i64 t269, .int .i64 0]) ?_ 1 _ rfl; (with_reducible repeat (first | refine blk_drewN ?_ _ | refine blk_drew ?_ | refine blk_alloc ?_ _)); refine blk_put (cs := #[.int .i64 0, .int .i64 0]) ?_ 0 _ rfl; (with_reducible repeat (first | refine blk_drewN ?_ _ | refine blk_drew ?_ | refine blk_alloc ?_ _)); exact BK266.out) hg (Kd.R_away HO_7.out (fun _ hk => hk))); have n1_ := Aside0.mk (hb); have n2_ := Aside0.mk (ho); clear BK266; clear HB; clear HO_7; have BK266 := n0_; have HB := n1_; have HO273 := n2_; clear n0_ n1_ n2_; clear ho hb hg hat))
         go_roundg k2
         case measure => have := HJ2.out; have := HK2.out; omega
         case rel => exact ⟨(y271), (wrap64 (x8_2 + 1)), (by first | rfl | (simp; done) | (simp [*]; done) | (simp [Int.tdiv_eq_ediv_of_nonneg]; done)), H', ⟨by have := HJ2.out; have := HK2.out; omega⟩, ⟨by (with_reducible repeat (first | apply Kd.R_alloc | apply Kd.R_drewN | apply Kd.R_drew)); exact Kd.R_mono HO273.out (fun _ hk => trivial)⟩, ⟨by repeat (first | (with_reducible first | exact HB.out | apply below_alloc | apply pw_below_drewN | apply below_drew1 | refine below_set ?_ GE266.out) | exact HB.out)⟩⟩
        ·rw [if_neg c10] at H
         exact absurd H (by simp)
       ·rw [if_neg c8] at H
        exact absurd H (by simp)
      ·rw [if_neg c7] at H
       have c7b0 : decide (x8_2 < (l0.length : Int)) = false := decide_eq_false c7
       clear c7
       by_cases c20 : x7_2.length < 8796093022208
       ·rw [if_pos c20] at H
        have LMc20 := Aside0.mk c20
        clear c20
        obtain ⟨y274, hy274⟩ : ∃ y_ : List (S26), y_ = (x7_2 ++ [(⟨0, 0⟩ : S26)]) := ⟨_, rfl⟩
        replace H : (reevelaw21_right.l1 k2 l0 x5_2 y274 (wrap64 (x8_2 + 1))) = some r := by first | (rw [hy274]; with_reducible exact H) | (have H2_ := (Option.bind_some _ _).symm.trans H; rw [hy274]; with_reducible exact H2_) | (have H2_ := (Option.bind_some _ _).symm.trans H; with_reducible exact H2_) | with_reducible exact H | (rw [hy274]; exact H) | exact H
        have Ny274 := Aside0.mk hy274
        clear hy274
        have H' := Aside0.mk H
        clear H
        go_wp2_with (first | ((with_reducible refine gate_dst (N := 9) rfl ?_); refine box_event ?hg (N := 9) ?hd (cs := #[.int .i64 0, .int .i64 0]) (t := 26) ?hr ?_; (case hd => rfl); (case hg => rfl); (case hr => first | (go_simp; done) | (go_simp; rfl)); intro gb266 hg w21 hbox hb; have n0_ := Aside0.mk (Kd.R_below (Kd.R_elderB (by (with_reducible repeat (first | apply Kd.R_alloc | apply Kd.R_drewN | apply Kd.R_drew)); exact HO_7.out) gb266 (Nat.le_of_eq hg.symm)) hb); have n1_ := Aside0.mk (below_step (by repeat (first | (with_reducible first | exact HB.out | apply below_alloc | apply pw_below_drewN | apply below_drew1) | exact HB.out)) hb); have n2_ := Aside0.mk (hbox); have n3_ := Aside0.mk ((by rw [hg]; exact (below_size (by repeat (first | (with_reducible first | exact HB.out | apply below_alloc | apply pw_below_drewN | apply below_drew1) | exact HB.out))) : w.heap.size ≤ gb266)); have n4_ := Aside0.mk ((by rw [hg]; exact (below_size (by repeat (first | (with_reducible first | exact HB.out | apply below_alloc | apply pw_below_drewN | apply below_drew1) | exact HB.out))) : w.heap.size ≤ gb266)); clear HO_7; clear HB; have HO_7 := n0_; have HB := n1_; have BK266 := n2_; have GW266 := n3_; have GE266 := n4_; clear n0_ n1_ n2_ n3_ n4_; clear hb hbox hg; have hcz22_0 : w21.cell? ⟨gb266, 0, none⟩ = some (.int .i64 0) := (blk_cell BK266.out 0).trans rfl; have hcz22_1 : w21.cell? ⟨gb266, 1, none⟩ = some (.int .i64 0) := (blk_cell BK266.out 1).trans rfl; have hfz22_0 := blk_frozen BK266.out 0; have hfz22_1 := blk_frozen BK266.out 1) | ((with_reducible refine gate_builtin (b := .append) (xs := #[.tmp 43, .tmp 45]) rfl ?_); at_builtin; refine Kd.R_append k26 (w0 := w) w.heap.size rfl (.tmp 43) (.tmp 45) 22 26 (.agg #[(.int .i64 0), (.int .i64 0)]) 16 rfl Try.underlying22 info26 rfl (by decide) (by omega) u7 x7_2 (⟨0, 0⟩ : S26) [.int .i64 0, .int .i64 0] (fun k_ => k_ ≠ gb266) (fun _ => False) rfl (by first | (go_simp; done) | (go_simp; rfl)) ?aP (fun _ hk => hk.elim) ?aF ?aO ?aB ?aS ?aL ?_; (case aP => exact k26_mkM _ _ _ (⟨0, 0⟩ : S26)); (case aB => exact (by repeat (first | (with_reducible first | exact HB.out | apply below_alloc | apply pw_below_drewN | apply below_drew1 | refine below_set ?_ GE266.out) | exact HB.out))); (case aF => exact (fun k_ hk => Kd.freshB (g := gb266) (o := .cells #[.int .i64 0, .int .i64 0] 26 (0, 0)) (by (with_reducible repeat (first | refine blk_drewN ?_ _ | refine blk_drew ?_ | refine blk_alloc ?_ _)); refine blk_put (cs := #[.int .i64 0, .int .i64 0]) ?_ 1 _ rfl; (with_reducible repeat (first | refine blk_drewN ?_ _ | refine blk_drew ?_ | refine blk_alloc ?_ _)); refine blk_put (cs := #[.int .i64 0, .int .i64 0]) ?_ 0 _ rfl; (with_reducible repeat (first | refine blk_drewN ?_ _ | refine blk_drew ?_ | refine blk_alloc ?_ _)); exact BK266.out) k_ hk)); (case aO => exact (by (with_reducible repeat (first | apply Kd.R_alloc | apply Kd.R_drewN | apply Kd.R_drew)); exact Kd.R_mono (Kd.R_far (p := ⟨gb266, 1, none⟩) (Kd.R_far (p := ⟨gb266, 0, none⟩) (Kd.R_mono HO_7.out (fun k_ hk => (⟨hk, hk.2⟩ : _ ∧ k_ ≠ gb266))) (fun _ hk => hk.2) (.int .i64 0)) (fun _ hk => hk.2) (.int .i64 0)) (fun _ hk => hk.1.2))); (case aS => exact (below_size (by repeat (first | (with_reducible first | exact HB.out | apply below_alloc | apply pw_below_drewN | apply below_drew1 | refine below_set ?_ GE266.out) | exact HB.out)))); (case aL => have := LMc20.out; omega); intro v275 w23 ho hb hg hat; rw [← Ny274.out] at ho; have n0_ := Aside0.mk (blk_grown (g := gb266) (o := .cells #[.int .i64 0, .int .i64 0] 26 (0, 0)) (by (with_reducible repeat (first | refine blk_drewN ?_ _ | refine blk_drew ?_ | refine blk_alloc ?_ _)); refine blk_put (cs := #[.int .i64 0, .int .i64 0]) ?_ 1 _ rfl; (with_reducible repeat (first | refine blk_drewN ?_ _ | refine blk_drew ?_ | refine blk_alloc ?_ _)); refine blk_put (cs := #[.int .i64 0, .int .i64 0]) ?_ 0 _ rfl; (with_reducible repeat (first | refine blk_drewN ?_ _ | refine blk_drew ?_ | refine blk_alloc ?_ _)); exact BK266.out) hg (Kd.R_away HO_7.out (fun _ hk => hk.2))); have n1_ := Aside0.mk (hb); have n2_ := Aside0.mk (ho); clear BK266; clear HB; clear HO_7; have BK266 := n0_; have HB := n1_; have HO276 := n2_; clear n0_ n1_ n2_; clear ho hb hg hat))
        go_roundg k2
        case measure => have := HJ2.out; have := HK2.out; omega
        case rel => exact ⟨(y274), (wrap64 (x8_2 + 1)), (by first | rfl | (simp; done) | (simp [*]; done) | (simp [Int.tdiv_eq_ediv_of_nonneg]; done)), H', ⟨by have := HJ2.out; have := HK2.out; omega⟩, ⟨by (with_reducible repeat (first | apply Kd.R_alloc | apply Kd.R_drewN | apply Kd.R_drew)); exact Kd.R_mono HO276.out (fun _ hk => trivial)⟩, ⟨by repeat (first | (with_reducible first | exact HB.out | apply below_alloc | apply pw_below_drewN | apply below_drew1 | refine below_set ?_ GE266.out) | exact HB.out)⟩⟩
       ·rw [if_neg c20] at H
        exact absurd H (by simp)
     ·rw [if_neg c6] at H
      have c6b0 : decide (x8_2 < x5_2) = false := decide_eq_false c6
      clear c6
      obtain rfl := Option.some.inj H
      go_wp2
      go_ret
      exact ⟨_, by first | rfl | (simp [errW_none, errW_some] <;> rfl) | (simp [*, errW_none, errW_some] <;> rfl), by (with_reducible repeat (first | apply Kd.R_alloc | apply Kd.R_drewN | apply Kd.R_drew)); exact HO_7.out, by repeat (first | (with_reducible first | exact HB.out | apply below_alloc | apply pw_below_drewN | apply below_drew1) | exact HB.out)⟩

end Go.Proofs.YtkilnknndglmnaaP
end

section
-- Laid by given.py, a program of this seat, with the kit's printer.
namespace Go.Proofs.YtkilnknndglmnaaP
open Go.Proofs.Ytkilnknndglmnaa (G fl IsS isSB okC okF okC_iff encC kcx at_cx md red run_cmul run_cadd run_csub run_fint lit_one lit_zero tdiv_32 run_store_cx)
attribute [local go_sem] run_cmul run_cadd run_csub run_fint lit_one lit_zero tdiv_32 run_store_cx
open Go.RowKit Go.Proofs.YtkilnknndglmnaaW.PrintWords Go.Proofs.YtkilnknndglmnaaW.PrintLast Go.Proofs.YtkilnknndglmnaaW.PrintMore
attribute [local go_sem] max2_int min2_int max_two min_two max_three min_three max_four min_four   -- for this text's walks alone
set_option linter.unusedVariables false
set_option linter.unusedSimpArgs false

theorem eqA26 (d : Nat) (w : World) (x0 y0 : Int) (x1 y1 : Int) :
    (Op.equalIn (d + 2) 26 (.agg #[.int .i64 x0, .int .i64 x1]) (.agg #[.int .i64 y0, .int .i64 y1])).run Try.prog w = .ok (x0 == y0 && (x1 == y1)) w := by
  refine eqA_of Try.underlying26 (by kernel_rfl) ?_
  refine eqf_cons (by rfl) (by go_simp; rfl) (by go_simp; rfl) (by go_simp) ?_
  exact eqf_last (by rfl) (by go_simp; rfl) (by go_simp; rfl) (by go_simp)
end Go.Proofs.YtkilnknndglmnaaP
end

section
-- Laid by given.py, a program of this seat, with the kit's printer.
namespace Go.Proofs.YtkilnknndglmnaaP
open Go.Proofs.Ytkilnknndglmnaa (G fl IsS isSB okC okF okC_iff encC kcx at_cx md red run_cmul run_cadd run_csub run_fint lit_one lit_zero tdiv_32 run_store_cx)
attribute [local go_sem] run_cmul run_cadd run_csub run_fint lit_one lit_zero tdiv_32 run_store_cx
open Go.RowKit Go.Proofs.YtkilnknndglmnaaW.PrintWords Go.Proofs.YtkilnknndglmnaaW.PrintLast Go.Proofs.YtkilnknndglmnaaW.PrintMore
attribute [local go_sem] max2_int min2_int max_two min_two max_three min_three max_four min_four   -- for this text's walks alone
set_option linter.unusedVariables false
set_option linter.unusedSimpArgs false

attribute [local go_sem high] eqA26
-- NOT PRINTED: function 3 (reevelaw21_BeatMoved)

/-! ### reevelaw21_same: function 17 -/
def reevelaw21_same.l0 : Nat → List (S26) → List (S26) → Int → Option (Bool)
  | 0, _, _, _ => none
  | k + 1, x0, x1, x5 => if x5 < (x0.length : Int) then (if 0 ≤ x5 then (if x5 < (x1.length : Int) then (if (!(((rd_T26 x0 x5).f0) == ((rd_T26 x1 x5).f0)) || (!(((rd_T26 x0 x5).f1) == ((rd_T26 x1 x5).f1)))) = true then (some false) else (reevelaw21_same.l0 k x0 x1 (wrap64 (x5 + 1)))) else (none)) else (none)) else (some true)
def reevelaw21_same.f (k : Nat) (l0 : List (S26)) (l1 : List (S26)) : Option (Bool) := if (l0.length : Int) = (l1.length : Int) then (reevelaw21_same.l0 k l0 l1 0) else (some false)
theorem reevelaw21_same.mono_l : ∀ k, (∀ y0 y1 y2, LeO (reevelaw21_same.l0 k y0 y1 y2) (reevelaw21_same.l0 (k + 1) y0 y1 y2))
  | 0 => fun _ _ _ r h => by simp [reevelaw21_same.l0] at h
  | k + 1 => by
    have ih0 := reevelaw21_same.mono_l k
    · intro y0 y1 y2
      unfold reevelaw21_same.l0
      repeat' first
      | (with_reducible exact ih0 _ _ _)
      | (with_reducible exact LeO.refl _)
      | (with_reducible exact LeO.none _)
      | (with_reducible refine LeO.ite ?_ ?_)
      | (with_reducible refine LeO.bind ?_ (fun _ => ?_))
      | exact ih0 _ _ _
      | exact LeO.none _
      | refine LeO.ite ?_ ?_
      | refine LeO.bind ?_ (fun _ => ?_)
theorem reevelaw21_same.mono : ∀ a0 a1 k, LeO (reevelaw21_same.f k a0 a1) (reevelaw21_same.f (k + 1) a0 a1) := by
  intro a0 a1 k
  have ih0 := reevelaw21_same.mono_l k
  unfold reevelaw21_same.f
  repeat' first
      | (with_reducible exact ih0 _ _ _)
      | (with_reducible exact LeO.refl _)
      | (with_reducible exact LeO.none _)
      | (with_reducible refine LeO.ite ?_ ?_)
      | (with_reducible refine LeO.bind ?_ (fun _ => ?_))
      | exact ih0 _ _ _
      | exact LeO.none _
      | refine LeO.ite ?_ ?_
      | refine LeO.bind ?_ (fun _ => ?_)
set_option maxHeartbeats 8000000 in
set_option maxRecDepth 100000 in
theorem reevelaw21_same.calls (k : Nat) (A0 : Option Addr) (c0 : Nat) (l0 : List (S26)) (A1 : Option Addr) (c1 : Nat) (l1 : List (S26)) (r : Bool) (w : World) (hr0 : Kd.C k26 w A0 l0.length l0) (hc0 : l0.length ≤ c0) (hr1 : Kd.C k26 w A1 l1.length l1) (hc1 : l1.length ≤ c1) (h : reevelaw21_same.f k l0 l1 = some r) :
    Calls Try.prog 17 #[.slice A0 l0.length c0, .slice A1 l1.length c1] w fun e w' => e = .returned (.bool r) ∧ Drawn0 w w' := by
  have hu26 := Try.underlying26
  have HR0 := Aside0.mk hr0
  have HC0 := Aside0.mk hc0
  clear hr0 hc0
  have HR1 := Aside0.mk hr1
  have HC1 := Aside0.mk hc1
  clear hr1 hc1
  have H : (if (l0.length : Int) = (l1.length : Int) then (reevelaw21_same.l0 k l0 l1 0) else (some false)) = some r := h
  clear h
  by_cases c3 : (l0.length : Int) = (l1.length : Int)
  · rw [if_pos c3] at H
    have c3b0 : ((l0.length : Int) == (l1.length : Int)) = true := beq_iff_eq.mpr c3
    have c3b1 : ((l0.length : Int) != (l1.length : Int)) = false := bne_eq_false_iff_eq.mpr c3
    have c3b2 : (l0.length == l1.length) = true := by first | simpa using c3 | (simp at c3 ⊢; omega)
    clear c3
    have H' := Aside0.mk H
    clear H
    go_enter Try.func17, Try.ntmps17
    go_wp2
    repeat (go_quiet (fail); try go_wp2)
    go_loopg [5] k (fun kq v5 w' => ∃ (x5_1 : Int), v5 = .int .i64 x5_1 ∧ Aside0 (reevelaw21_same.l0 kq l0 l1 x5_1 = some r) ∧ Aside0 (kq ≤ k) ∧ Drawn0 w w')
    case atStart => exact ⟨(0), (by first | rfl | (simp; done) | (simp [*]; done) | (simp [Int.tdiv_eq_ediv_of_nonneg]; done)), H', ⟨Nat.le_refl _⟩, by repeat (first | exact Drawn0.refl _ | apply Drawn0.step)⟩
    case round =>
      clear H'
      try clear c1
      try clear p2
      try clear c3
      try clear c3b0
      try clear c3b1
      try clear c3b2
      obtain ⟨x5_1, rfl, HA, HK1, ⟨m1, rfl⟩⟩ := hrel
      cases gk with
      | zero => exact absurd HA.out (by simp [reevelaw21_same.l0])
      | succ k1 =>
        have H := HA.out
        clear HA
        simp only [reevelaw21_same.l0] at H
        by_cases c4 : x5_1 < (l0.length : Int)
        · rw [if_pos c4] at H
          have c4b0 : decide (x5_1 < (l0.length : Int)) = true := decide_eq_true c4
          clear c4
          by_cases c5 : 0 ≤ x5_1
          · rw [if_pos c5] at H
            have c5b0 : decide (0 ≤ x5_1) = true := decide_eq_true c5
            clear c5
            by_cases c6 : x5_1 < (l1.length : Int)
            · rw [if_pos c6] at H
              have c6b0 : decide (x5_1 < (l1.length : Int)) = true := decide_eq_true c6
              clear c6
              by_cases c7 : (!(((rd_T26 l0 x5_1).f0) == ((rd_T26 l1 x5_1).f0)) || (!(((rd_T26 l0 x5_1).f1) == ((rd_T26 l1 x5_1).f1)))) = true
              · rw [if_pos c7] at H
                have c7b0 : (!(((rd_T26 l0 x5_1).f0) == ((rd_T26 l1 x5_1).f0)) || (!(((rd_T26 l0 x5_1).f1) == ((rd_T26 l1 x5_1).f1)))) = true := c7
                clear c7
                obtain rfl := Option.some.inj H
                have p312 : 0 ≤ (x5_1 : Int) := of_decide_eq_true (by first | (with_reducible assumption) | assumption)
                have q312 : x5_1 < (l0.length : Int) := of_decide_eq_true (by first | (with_reducible assumption) | assumption)
                obtain ⟨ad312, e312, hx312_0, hx312_1⟩ := at_T26 HR0.out x5_1 p312 q312
                cases e312
                replace p312 := eq_true p312
                replace q312 := eq_true q312
                have p313 : 0 ≤ (x5_1 : Int) := of_decide_eq_true (by first | (with_reducible assumption) | assumption)
                have q313 : x5_1 < (l1.length : Int) := of_decide_eq_true (by first | (with_reducible assumption) | assumption)
                obtain ⟨ad313, e313, hx313_0, hx313_1⟩ := at_T26 HR1.out x5_1 p313 q313
                cases e313
                replace p313 := eq_true p313
                replace q313 := eq_true q313
                go_wp2
                repeat (go_quiet (fail); try go_wp2)
                go_ret
                exact ⟨by first | rfl | (simp; done) | (simp [*]; done), by repeat (first | exact Drawn0.refl _ | apply Drawn0.step)⟩
              · rw [if_neg c7] at H
                have c7b0 : (!(((rd_T26 l0 x5_1).f0) == ((rd_T26 l1 x5_1).f0)) || (!(((rd_T26 l0 x5_1).f1) == ((rd_T26 l1 x5_1).f1)))) = false := by simpa using c7
                clear c7
                have H' := Aside0.mk H
                clear H
                have p312 : 0 ≤ (x5_1 : Int) := of_decide_eq_true (by first | (with_reducible assumption) | assumption)
                have q312 : x5_1 < (l0.length : Int) := of_decide_eq_true (by first | (with_reducible assumption) | assumption)
                obtain ⟨ad312, e312, hx312_0, hx312_1⟩ := at_T26 HR0.out x5_1 p312 q312
                cases e312
                replace p312 := eq_true p312
                replace q312 := eq_true q312
                have p313 : 0 ≤ (x5_1 : Int) := of_decide_eq_true (by first | (with_reducible assumption) | assumption)
                have q313 : x5_1 < (l1.length : Int) := of_decide_eq_true (by first | (with_reducible assumption) | assumption)
                obtain ⟨ad313, e313, hx313_0, hx313_1⟩ := at_T26 HR1.out x5_1 p313 q313
                cases e313
                replace p313 := eq_true p313
                replace q313 := eq_true q313
                go_wp2
                repeat (go_quiet (fail); try go_wp2)
                go_roundg k1
                case measure => have := HK1.out; omega
                case rel => exact ⟨(wrap64 (x5_1 + 1)), (by first | rfl | (simp; done) | (simp [*]; done) | (simp [Int.tdiv_eq_ediv_of_nonneg]; done)), H', ⟨by have := HK1.out; omega⟩, by repeat (first | exact Drawn0.refl _ | apply Drawn0.step)⟩
            · rw [if_neg c6] at H
              exact absurd H (by simp)
          · rw [if_neg c5] at H
            exact absurd H (by simp)
        · rw [if_neg c4] at H
          have c4b0 : decide (x5_1 < (l0.length : Int)) = false := decide_eq_false c4
          clear c4
          obtain rfl := Option.some.inj H
          go_wp2
          repeat (go_quiet (fail); try go_wp2)
          go_ret
          exact ⟨by first | rfl | (simp; done) | (simp [*]; done), by repeat (first | exact Drawn0.refl _ | apply Drawn0.step)⟩
  · rw [if_neg c3] at H
    have c3b0 : ((l0.length : Int) == (l1.length : Int)) = false := beq_eq_false_iff_ne.mpr c3
    have c3b1 : ((l0.length : Int) != (l1.length : Int)) = true := bne_iff_ne.mpr c3
    have c3b2 : (l0.length == l1.length) = false := by first | simpa using c3 | (simp at c3 ⊢; omega)
    obtain rfl := Option.some.inj H
    go_enter Try.func17, Try.ntmps17
    go_wp2
    repeat (go_quiet (fail); try go_wp2)
    go_ret
    exact ⟨by first | rfl | (simp; done) | (simp [*]; done), by repeat (first | exact Drawn0.refl _ | apply Drawn0.step)⟩


end Go.Proofs.YtkilnknndglmnaaP
end

section
/- Contracts of the functions where nothing goes wrong; right, same. -/
namespace Go.Proofs.YtkilnknndglmnaaP
open Go.RowKit Go.Proofs.Ytkilnknndglmnaa Go.Proofs.YtkilnknndglmnaaW.PrintWords

def turn_ok.f (l : List S26) : Option (List S26) := if rowE l = 0 then some (turnP l) else none
theorem turn_ok.calls (A0 : Option Addr) (c0 : Nat) (l0 : List (S26)) (r : List (S26)) (w : World) (hr0 : Kd.C k26 w A0 l0.length l0) (hc0 : l0.length ≤ c0) (h : turn_ok.f l0 = some r) :
    Calls Try.prog 12 #[.slice A0 l0.length c0] w fun e w' => ∃ v0_ : Value, e = .returned (.tuple #[v0_, .int .i64 0]) ∧ Kd.R k26 26 w' w.heap.size (fun _ => True) v0_ r ∧ Below w.heap.size w w' := by
  have hE := Turn_f l0
  rw [turn_ok.f] at h
  by_cases c : rowE l0 = 0
  · rw [if_pos c] at h
    obtain rfl := Option.some.inj h
    rw [c, if_pos rfl] at hE
    obtain ⟨k, hk⟩ := hE.rounds
    exact beat_Turn.calls k A0 c0 l0 _ 0 w hr0 hc0 hk
  · rw [if_neg c] at h
    exact absurd h (by simp)

def back_ok.f (l : List S26) : Option (List S26) := if rowE l = 0 then some (backP l) else none
theorem back_ok.calls (A0 : Option Addr) (c0 : Nat) (l0 : List (S26)) (r : List (S26)) (w : World) (hr0 : Kd.C k26 w A0 l0.length l0) (hc0 : l0.length ≤ c0) (h : back_ok.f l0 = some r) :
    Calls Try.prog 20 #[.slice A0 l0.length c0] w fun e w' => ∃ v0_ : Value, e = .returned (.tuple #[v0_, .int .i64 0]) ∧ Kd.R k26 26 w' w.heap.size (fun _ => True) v0_ r ∧ Below w.heap.size w w' := by
  have hE := Back_f l0
  rw [back_ok.f] at h
  by_cases c : rowE l0 = 0
  · rw [if_pos c] at h
    obtain rfl := Option.some.inj h
    rw [c, if_pos rfl] at hE
    obtain ⟨k, hk⟩ := hE.rounds
    exact beat_Back.calls k A0 c0 l0 _ 0 w hr0 hc0 hk
  · rw [if_neg c] at h
    exact absurd h (by simp)

def round_ok.f (x y : List S26) : Option (List S26) := if roundE x y = 0 then some (roundP x y) else none
theorem round_ok.calls (A0 : Option Addr) (c0 : Nat) (l0 : List (S26)) (A1 : Option Addr) (c1 : Nat) (l1 : List (S26)) (r : List (S26)) (w : World) (hr0 : Kd.C k26 w A0 l0.length l0) (hc0 : l0.length ≤ c0) (hr1 : Kd.C k26 w A1 l1.length l1) (hc1 : l1.length ≤ c1) (h : round_ok.f l0 l1 = some r) :
    Calls Try.prog 16 #[.slice A0 l0.length c0, .slice A1 l1.length c1] w fun e w' => ∃ v0_ : Value, e = .returned (.tuple #[v0_, .int .i64 0]) ∧ Kd.R k26 26 w' w.heap.size (fun _ => True) v0_ r ∧ Below w.heap.size w w' := by
  have hE := Round_f l0 l1
  rw [round_ok.f] at h
  by_cases c : roundE l0 l1 = 0
  · rw [if_pos c] at h
    obtain rfl := Option.some.inj h
    rw [c, if_pos rfl] at hE
    obtain ⟨k, hk⟩ := hE.rounds
    exact beat_Round.calls k A0 c0 l0 A1 c1 l1 _ 0 w hr0 hc0 hr1 hc1 hk
  · rw [if_neg c] at h
    exact absurd h (by simp)

def root_ok.f (n : Int) : Option (Int × Int) := if 0 ≤ n ∧ lenB n.toNat = true then some ((rootW n.toNat).re, (rootW n.toNat).im) else none
theorem root_ok.calls (a0 : Int) (r1 : Int) (r2 : Int) (w : World) (h : root_ok.f a0 = some (r1, r2)) :
    Calls Try.prog 13 #[.int .i64 a0] w fun e w' => e = .returned (.tuple #[.agg #[.int .i64 r1, .int .i64 r2], .int .i64 0]) ∧ Below w.heap.size w w' := by
  rw [root_ok.f] at h
  by_cases c : 0 ≤ a0 ∧ lenB a0.toNat = true
  · rw [if_pos c] at h
    obtain ⟨rfl, rfl⟩ := Prod.mk.inj (Option.some.inj h)
    have hE := root_f a0.toNat
    rw [c.2, Int.toNat_of_nonneg c.1] at hE
    exact beat_Root.calls a0 _ _ 0 w hE
  · rw [if_neg c] at h
    exact absurd h (by simp)

def power_ok.f (re im n : Int) : Option (Int × Int) := if isSB ⟨re, im⟩ = true ∧ 0 ≤ n ∧ n ≤ 1000000000 then some ((red (G.pow ⟨re, im⟩ n.toNat)).re, (red (G.pow ⟨re, im⟩ n.toNat)).im) else none
theorem power_ok.calls (a0_0 : Int) (a0_1 : Int) (a1 : Int) (r1 : Int) (r2 : Int) (w : World) (h : power_ok.f a0_0 a0_1 a1 = some (r1, r2)) :
    Calls Try.prog 14 #[.agg #[.int .i64 a0_0, .int .i64 a0_1], .int .i64 a1] w fun e w' => e = .returned (.tuple #[.agg #[.int .i64 r1, .int .i64 r2], .int .i64 0]) ∧ Below w.heap.size w w' := by
  rw [power_ok.f] at h
  by_cases c : isSB ⟨a0_0, a0_1⟩ = true ∧ 0 ≤ a1 ∧ a1 ≤ 1000000000
  · rw [if_pos c] at h
    obtain ⟨rfl, rfl⟩ := Prod.mk.inj (Option.some.inj h)
    have hE := power_f (x := ⟨a0_0, a0_1⟩) (isSB_iff.1 c.1) (n := a1.toNat) (by omega)
    rw [Int.toNat_of_nonneg c.2.1] at hE
    exact seal_Power.calls a0_0 a0_1 a1 _ _ 0 w hE
  · rw [if_neg c] at h
    exact absurd h (by simp)

def times_ok.f (a b c d : Int) : Option (Int × Int) := if isSB ⟨a, b⟩ = true ∧ isSB ⟨c, d⟩ = true then some ((red (G.mul ⟨a, b⟩ ⟨c, d⟩)).re, (red (G.mul ⟨a, b⟩ ⟨c, d⟩)).im) else none
theorem times_ok.calls (a0_0 : Int) (a0_1 : Int) (a1_0 : Int) (a1_1 : Int) (r1 : Int) (r2 : Int) (w : World) (h : times_ok.f a0_0 a0_1 a1_0 a1_1 = some (r1, r2)) :
    Calls Try.prog 15 #[.agg #[.int .i64 a0_0, .int .i64 a0_1], .agg #[.int .i64 a1_0, .int .i64 a1_1]] w fun e w' => e = .returned (.tuple #[.agg #[.int .i64 r1, .int .i64 r2], .int .i64 0]) ∧ Below w.heap.size w w' := by
  rw [times_ok.f] at h
  by_cases c : isSB ⟨a0_0, a0_1⟩ = true ∧ isSB ⟨a1_0, a1_1⟩ = true
  · rw [if_pos c] at h
    obtain ⟨rfl, rfl⟩ := Prod.mk.inj (Option.some.inj h)
    obtain ⟨k, hk⟩ := (times_ok (isSB_iff.1 c.1) (isSB_iff.1 c.2)).rounds
    exact seal_Times.calls k a0_0 a0_1 a1_0 a1_1 _ _ 0 w hk
  · rw [if_neg c] at h
    exact absurd h (by simp)

theorem fold_f (a : Int) : reevelaw02_Fold.f a = some (md a) := by
  unfold reevelaw02_Fold.f md
  rcases Int.le_total 0 a with h | h
  · rw [Int.tmod_eq_emod_of_nonneg h, if_neg (by omega)]
  · have e : Int.tmod a 16777199 = -((-a) % 16777199) := by
      rw [← Int.tmod_eq_emod_of_nonneg (by omega), Int.neg_tmod, Int.neg_neg]
    rw [e]
    by_cases c : -(-a % 16777199) < 0
    · rw [if_pos c, w64 (by omega) (by omega)]
      congr 1
      omega
    · rw [if_neg c]
      congr 1
      omega
def fold_ok.f (a : Int) : Option Int := some (md a)
theorem fold_ok.calls (a0 : Int) (r : Int) (w : World) (h : fold_ok.f a0 = some r) :
    Calls Try.prog 30 #[.int .i64 a0] w fun e w' => e = .returned (.int .i64 r) ∧ Below w.heap.size w w' := by
  have hd := reevelaw02_Fold.calls a0 r w ((fold_f a0).trans h)
  refine hd.mono ?_
  rintro e w' ⟨he, h0⟩
  exact ⟨he, h0.below⟩

/-- The same row: nothing else is let through. -/
def same_ok.f (a b : List S26) : Option Unit := if a.length ≤ 4000000000 ∧ a.map sG = b.map sG then some () else none
theorem same_loop (a b : List S26) (hl : a.length = b.length) (hm : a.length ≤ 4000000000) : ∀ (d i : Nat), a.length - i = d → i ≤ a.length →
    Ev (fun k => reevelaw21_same.l0 k a b (i : Int)) (decide ((a.map sG).drop i = (b.map sG).drop i)) := by
  intro d
  induction d with
  | zero =>
    intro i hd hi
    refine ev_now fun k => ?_
    simp only [reevelaw21_same.l0]
    rw [if_neg (by omega), List.drop_eq_nil_of_le (by simp; omega), List.drop_eq_nil_of_le (by simp; omega)]
    simp
  | succ d ih =>
    intro i hd hi
    have h1 : i < a.length := by omega
    have h2 : i < b.length := by omega
    have r1 : rd_T26 a (i : Int) = a[i] := by simp [rd_T26, h1]
    have r2 : rd_T26 b (i : Int) = b[i] := by simp [rd_T26, h2]
    have e : decide ((a.map sG).drop i = (b.map sG).drop i) = (a[i].f0 == b[i].f0 && a[i].f1 == b[i].f1 && decide ((a.map sG).drop (i + 1) = (b.map sG).drop (i + 1))) := by
      rw [List.drop_eq_getElem_cons (l := a.map sG) (by simpa using h1), List.drop_eq_getElem_cons (l := b.map sG) (by simpa using h2)]
      rw [Bool.eq_iff_iff]
      simp [sG]
    by_cases c : a[i].f0 = b[i].f0 ∧ a[i].f1 = b[i].f1
    · rw [e]
      simp only [c.1, c.2, beq_self_eq_true, Bool.true_and]
      refine Ev.step (fun k => ?_) (ih (i + 1) (by omega) (by omega))
      simp only [reevelaw21_same.l0]
      rw [if_pos (by omega), if_pos (by omega), if_pos (by omega), r1, r2, if_neg (by simp [c.1, c.2]), w64 (by omega) (by omega)]
      rfl
    · have e2 : (a[i].f0 == b[i].f0 && a[i].f1 == b[i].f1 && decide ((a.map sG).drop (i + 1) = (b.map sG).drop (i + 1))) = false := by
        simp only [Bool.and_eq_false_iff, beq_eq_false_iff_ne]
        by_cases c1 : a[i].f0 = b[i].f0
        · exact Or.inl (Or.inr fun c2 => c ⟨c1, c2⟩)
        · exact Or.inl (Or.inl c1)
      rw [e, e2]
      refine ev_now fun k => ?_
      simp only [reevelaw21_same.l0]
      rw [if_pos (by omega), if_pos (by omega), if_pos (by omega), r1, r2, if_pos]
      simp only [Bool.or_eq_true, Bool.not_eq_true', beq_eq_false_iff_ne]
      by_cases c1 : a[i].f0 = b[i].f0
      · exact Or.inr fun c2 => c ⟨c1, c2⟩
      · exact Or.inl c1
theorem same_f (a b : List S26) (hm : a.length ≤ 4000000000) : Ev (fun k => reevelaw21_same.f k a b) (decide (a.map sG = b.map sG)) := by
  by_cases hl : a.length = b.length
  · have h := same_loop a b hl hm _ 0 rfl (by omega)
    rw [List.drop_zero, List.drop_zero] at h
    refine Ev.congr (fun k => ?_) h
    unfold reevelaw21_same.f
    rw [if_pos (by omega)]
    rfl
  · refine Ev.congr (fun k => ?_) (Ev.now _)
    unfold reevelaw21_same.f
    rw [if_neg (by omega), decide_eq_false]
    intro h
    have := congrArg List.length h
    simp only [List.length_map] at this
    exact hl this
theorem same_ok.calls (A0 : Option Addr) (c0 : Nat) (l0 : List (S26)) (A1 : Option Addr) (c1 : Nat) (l1 : List (S26)) {r_ : Unit} (w : World) (hr0 : Kd.C k26 w A0 l0.length l0) (hc0 : l0.length ≤ c0) (hr1 : Kd.C k26 w A1 l1.length l1) (hc1 : l1.length ≤ c1) (h : same_ok.f l0 l1 = some r_) :
    Calls Try.prog 17 #[.slice A0 l0.length c0, .slice A1 l1.length c1] w fun e w' => e = .returned (.bool true) ∧ Below w.heap.size w w' := by
  rw [same_ok.f] at h
  by_cases c : l0.length ≤ 4000000000 ∧ l0.map sG = l1.map sG
  · have hE := same_f l0 l1 c.1
    rw [decide_eq_true c.2] at hE
    obtain ⟨k, hk⟩ := hE.rounds
    refine (reevelaw21_same.calls k A0 c0 l0 A1 c1 l1 _ w hr0 hc0 hr1 hc1 hk).mono ?_
    rintro e w' ⟨he, h0⟩
    exact ⟨he, h0.below⟩
  · rw [if_neg c] at h
    exact absurd h (by simp)

/-- A row of a length that can be turned, of right numbers. -/
def rightN (a : Int) : Nat := 2 ^ min (Go.bits .and .i64 a 7).toNat 5
def rightP (l : List S26) (n : Nat) : List S26 := (List.range n).map fun i => gS (red (atG (l.map sG) i))
theorem rightN_len (a : Int) : isLen (rightN a) := by
  unfold rightN isLen
  have h : min (Go.bits .and .i64 a 7).toNat 5 ≤ 5 := Nat.min_le_right _ _
  generalize min (Go.bits .and .i64 a 7).toNat 5 = m at h
  rcases (show m = 0 ∨ m = 1 ∨ m = 2 ∨ m = 3 ∨ m = 4 ∨ m = 5 by omega) with rfl | rfl | rfl | rfl | rfl | rfl <;> decide
theorem rightP_len (l : List S26) (n : Nat) : (rightP l n).length = n := by simp [rightP]
theorem rightP_allS (l : List S26) (n : Nat) : allS (rightP l n) = true := range_allS n _
theorem of_f (a b : Int) : reevelaw02_Of.f a b = some (md a, md b) := by
  unfold reevelaw02_Of.f
  rw [fold_f, fold_f]
  rfl
theorem right_fill (l : List S26) (n : Nat) (hn : n ≤ 32) : ∀ (d i : Nat), n - i = d → i ≤ n → Ev (fun k => reevelaw21_right.l1 k l (n : Int) (rightP l i) (i : Int)) (rightP l n) := by
  intro d
  induction d with
  | zero =>
    intro i hd hi
    have ei : i = n := by omega
    subst ei
    refine ev_now fun k => ?_
    simp only [reevelaw21_right.l1]
    rw [if_neg (by omega)]
  | succ d ih =>
    intro i hd hi
    refine Ev.step (fun k => ?_) (ih (i + 1) (by omega) (by omega))
    have e : rightP l (i + 1) = rightP l i ++ [gS (red (atG (l.map sG) i))] := by
      unfold rightP
      rw [List.range_succ, List.map_append]
      rfl
    simp only [reevelaw21_right.l1]
    rw [if_pos (by omega), e]
    by_cases c : i < l.length
    · rw [if_pos (by omega), if_pos (by omega), of_f, Option.bind_some, if_pos (by rw [rightP_len]; omega), w64 (by omega) (by omega)]
      rw [← getD_map_sG]
      rfl
    · have e0 : atG (l.map sG) i = G.zero := by
        unfold atG
        rw [List.getD_eq_getElem?_getD, List.getElem?_eq_none (by simp; omega)]
        rfl
      rw [if_neg (by omega), if_pos (by rw [rightP_len]; omega), w64 (by omega) (by omega), e0, red_zero]
      rfl
theorem right_grow (l : List S26) (a : Int) : ∀ (d i : Nat), 5 - i = d → i ≤ min (Go.bits .and .i64 a 7).toNat 5 → Ev (fun k => reevelaw21_right.l0 k l a ((2 ^ i : Nat) : Int) (i : Int)) (rightP l (rightN a)) := by
  intro d
  induction d with
  | zero =>
    intro i hd hi
    have ei : i = 5 := by omega
    subst ei
    have en : rightN a = 32 := by
      unfold rightN
      rw [show min (Go.bits .and .i64 a 7).toNat 5 = 5 by omega]
    have hf := right_fill l 32 (by omega) _ 0 rfl (by omega)
    rw [en]
    refine Ev.step (f := fun k => reevelaw21_right.j1 k l 32) (fun k => ?_) (Ev.step (fun k => ?_) hf)
    · simp only [reevelaw21_right.l0]
      rw [if_neg (show ¬ ((2 ^ 5 : Nat) : Int) < 32 by decide)]
      exact ite_self _
    · rfl
  | succ d ih =>
    intro i hd hi
    have h2 : 2 ^ i < 32 := Nat.pow_lt_pow_right (by decide : 1 < 2) (show i < 5 by omega)
    by_cases c : (i : Int) < Go.bits .and .i64 a 7
    · have hw : wrap64 (2 * ((2 ^ i : Nat) : Int)) = ((2 ^ (i + 1) : Nat) : Int) := by
        rw [Nat.pow_succ]
        generalize 2 ^ i = q at h2
        exact (w64 (by omega) (by omega)).trans (by omega)
      refine Ev.step (fun k => ?_) (ih (i + 1) (by omega) (by omega))
      simp only [reevelaw21_right.l0]
      rw [if_pos c, if_pos (by omega), w64 (x := (i : Int) + 1) (by omega) (by omega), hw]
      rfl
    · have en : rightN a = 2 ^ i := by
        unfold rightN
        rw [show min (Go.bits .and .i64 a 7).toNat 5 = i by omega]
      have hf := right_fill l (2 ^ i) (by omega) _ 0 rfl (by omega)
      rw [en]
      refine Ev.step (f := fun k => reevelaw21_right.j1 k l ((2 ^ i : Nat) : Int)) (fun k => ?_) (Ev.step (fun k => ?_) hf)
      · simp only [reevelaw21_right.l0]
        rw [if_neg c]
      · rfl
theorem right_row (l : List S26) (a : Int) : Ev (fun k => reevelaw21_right.f k l a) (rightP l (rightN a)) := right_grow l a _ 0 rfl (by omega)
def right_ok.f (l : List S26) (a : Int) : Option (List S26) := some (rightP l (rightN a))
theorem right_ok.calls (A0 : Option Addr) (c0 : Nat) (l0 : List (S26)) (a1 : Int) (r : List (S26)) (w : World) (hr0 : Kd.C k26 w A0 l0.length l0) (hc0 : l0.length ≤ c0) (h : right_ok.f l0 a1 = some r) :
    Calls Try.prog 11 #[.slice A0 l0.length c0, .int .i64 a1] w fun e w' => ∃ v0_ : Value, e = .returned (v0_) ∧ Kd.R k26 26 w' w.heap.size (fun _ => True) v0_ r ∧ Below w.heap.size w w' := by
  obtain rfl := Option.some.inj h
  obtain ⟨k, hk⟩ := (right_row l0 a1).rounds
  exact reevelaw21_right.calls k A0 c0 l0 a1 _ w hr0 hc0 hk

end Go.Proofs.YtkilnknndglmnaaP
end

section
/- Beats' contract, told by what it answers. -/
namespace Go.Proofs.YtkilnknndglmnaaP
open Go.RowKit Go.Proofs.Ytkilnknndglmnaa Go.Proofs.YtkilnknndglmnaaW.PrintWords

def beats_ok.f (l : List S49) (v w n : Int) : Option (List Int × List Int × Int) := some (beatsP l v w n)
theorem beats_ok.calls (A0 : Option Addr) (c0 : Nat) (l0 : List (S49)) (a1 : Int) (a2 : Int) (a3 : Int) (r1 : List Int) (r2 : List Int) (r3 : Int) (w : World) (hr0 : Kd.C k49 w A0 l0.length l0) (hc0 : l0.length ≤ c0) (h : beats_ok.f l0 a1 a2 a3 = some (r1, r2, r3)) :
    Calls Try.prog 27 #[.slice A0 l0.length c0, .int .i64 a1, .int .i64 a2, .int .i64 a3] w fun e w' => ∃ v0_ v1_ : Value, e = .returned (.tuple #[v0_, v1_, .int .i64 r3]) ∧ Kd.R (Kd.int .i64) 3 w' w.heap.size (fun k_ => some k_ ≠ (v1_ : Value).ownBlock) v0_ r1 ∧ Kd.R (Kd.int .i64) 3 w' w.heap.size (fun k_ => some k_ ≠ (v0_ : Value).ownBlock) v1_ r2 ∧ Below w.heap.size w w' := by
  obtain ⟨k, hk⟩ := (Beats_f l0 a1 a2 a3).rounds
  exact beat_Beats.calls k A0 c0 l0 a1 a2 a3 r1 r2 r3 w hr0 hc0 (hk.trans h)
/-- The same, where nothing is wrong. -/
def beats_zero.f (l : List S49) (v w n : Int) : Option (List Int × List Int) := if beatsE l v w n = 0 then some (rowL l v w.toNat n.toNat, meetsL l v w.toNat n.toNat) else none
theorem beats_zero.calls (A0 : Option Addr) (c0 : Nat) (l0 : List (S49)) (a1 : Int) (a2 : Int) (a3 : Int) (r1 : List Int) (r2 : List Int) (w : World) (hr0 : Kd.C k49 w A0 l0.length l0) (hc0 : l0.length ≤ c0) (h : beats_zero.f l0 a1 a2 a3 = some (r1, r2)) :
    Calls Try.prog 27 #[.slice A0 l0.length c0, .int .i64 a1, .int .i64 a2, .int .i64 a3] w fun e w' => ∃ v0_ v1_ : Value, e = .returned (.tuple #[v0_, v1_, .int .i64 0]) ∧ Kd.R (Kd.int .i64) 3 w' w.heap.size (fun k_ => some k_ ≠ (v1_ : Value).ownBlock) v0_ r1 ∧ Kd.R (Kd.int .i64) 3 w' w.heap.size (fun k_ => some k_ ≠ (v0_ : Value).ownBlock) v1_ r2 ∧ Below w.heap.size w w' := by
  rw [beats_zero.f] at h
  by_cases c : beatsE l0 a1 a2 a3 = 0
  · rw [if_pos c] at h
    obtain ⟨rfl, rfl⟩ := Prod.mk.inj (Option.some.inj h)
    refine beats_ok.calls A0 c0 l0 a1 a2 a3 _ _ 0 w hr0 hc0 ?_
    unfold beats_ok.f beatsP
    rw [if_pos c]
  · rw [if_neg c] at h
    exact absurd h (by simp)
end Go.Proofs.YtkilnknndglmnaaP
end

section
-- Laid by given.py, a program of this seat, with the kit's printer.
namespace Go.Proofs.YtkilnknndglmnaaA
open Go.Proofs.YtkilnknndglmnaaP
open Go.Proofs.Ytkilnknndglmnaa (G fl IsS isSB okC okF okC_iff encC kcx at_cx md red run_cmul run_cadd run_csub run_fint lit_one lit_zero tdiv_32 run_store_cx)
attribute [local go_sem] run_cmul run_cadd run_csub run_fint lit_one lit_zero tdiv_32 run_store_cx
open Go.RowKit Go.Proofs.YtkilnknndglmnaaW.PrintWords Go.Proofs.YtkilnknndglmnaaW.PrintLast Go.Proofs.YtkilnknndglmnaaW.PrintMore
attribute [local go_sem] max2_int min2_int max_two min_two max_three min_three max_four min_four   -- for this text's walks alone
set_option linter.unusedVariables false
set_option linter.unusedSimpArgs false

theorem eqA26 (d : Nat) (w : World) (x0 y0 : Int) (x1 y1 : Int) :
    (Op.equalIn (d + 2) 26 (.agg #[.int .i64 x0, .int .i64 x1]) (.agg #[.int .i64 y0, .int .i64 y1])).run Try.prog w = .ok (x0 == y0 && (x1 == y1)) w := by
  refine eqA_of Try.underlying26 (by kernel_rfl) ?_
  refine eqf_cons (by rfl) (by go_simp; rfl) (by go_simp; rfl) (by go_simp) ?_
  exact eqf_last (by rfl) (by go_simp; rfl) (by go_simp; rfl) (by go_simp)
end Go.Proofs.YtkilnknndglmnaaA
end

section
-- Laid by given.py, a program of this seat, with the kit's printer.
namespace Go.Proofs.YtkilnknndglmnaaA
open Go.Proofs.YtkilnknndglmnaaP
open Go.Proofs.Ytkilnknndglmnaa (G fl IsS isSB okC okF okC_iff encC kcx at_cx md red run_cmul run_cadd run_csub run_fint lit_one lit_zero tdiv_32 run_store_cx)
attribute [local go_sem] run_cmul run_cadd run_csub run_fint lit_one lit_zero tdiv_32 run_store_cx
open Go.RowKit Go.Proofs.YtkilnknndglmnaaW.PrintWords Go.Proofs.YtkilnknndglmnaaW.PrintLast Go.Proofs.YtkilnknndglmnaaW.PrintMore
attribute [local go_sem] max2_int min2_int max_two min_two max_three min_three max_four min_four   -- for this text's walks alone
set_option linter.unusedVariables false
set_option linter.unusedSimpArgs false

attribute [local go_sem high] eqA26
/-! ### reevelaw21_awake: function 10 -/
def reevelaw21_awake.f  : Option (Bool) := (root_ok.f 2).bind fun bt133 => ((round_ok.f (([(⟨1, 0⟩ : S26), (⟨2, 0⟩ : S26)] : List (S26))) (([(⟨3, 0⟩ : S26), (⟨4, 0⟩ : S26)] : List (S26)))).bind fun t143 => ((beats_zero.f (([(⟨0, (⟨#[]⟩ : ByteArray), 0, 1⟩ : S49), (⟨1, (⟨#[]⟩ : ByteArray), 0, 1⟩ : S49), (⟨5, (⟨#[]⟩ : ByteArray), 0, 1⟩ : S49), (⟨8, (⟨#[]⟩ : ByteArray), 0, 1⟩ : S49)] : List (S49))) 1 1 4).bind fun bt150 => (if (bt133.1 == 16777198 && (bt133.2 == 0)) = true then (if (t143.length : Int) = 2 then (if 0 < (t143.length : Int) then (if ((rd_T26 t143 0).f0) = 11 then (if 1 < (t143.length : Int) then (if ((rd_T26 t143 1).f0) = 10 then (if (bt150.1.length : Int) = 4 then (if (bt150.2.length : Int) = 4 then (if 0 < (bt150.1.length : Int) then (if (rd bt150.1 0) = 2 then (if 0 < (bt150.2.length : Int) then (if (rd bt150.2 0) = 8 then (if 1 < (bt150.2.length : Int) then (some ((rd bt150.2 1) == 4)) else (none)) else (none)) else (none)) else (none)) else (none)) else (none)) else (none)) else (none)) else (none)) else (none)) else (none)) else (none)) else (none))))
set_option maxHeartbeats 8000000 in
set_option maxRecDepth 100000 in
theorem reevelaw21_awake.calls  (r : Bool) (w : World) (h : reevelaw21_awake.f  = some r) :
  Calls Try.prog 10 #[] w fun e w' => e = .returned (.bool r) ∧ Below w.heap.size w w' := by
 have hu26 := Try.underlying26
 have hu49 := Try.underlying49
 have HB := Aside0.mk (Below.refl w.heap.size w)
 have H : ((root_ok.f 2).bind fun bt133 => ((round_ok.f (([(⟨1, 0⟩ : S26), (⟨2, 0⟩ : S26)] : List (S26))) (([(⟨3, 0⟩ : S26), (⟨4, 0⟩ : S26)] : List (S26)))).bind fun t143 => ((beats_zero.f (([(⟨0, (⟨#[]⟩ : ByteArray), 0, 1⟩ : S49), (⟨1, (⟨#[]⟩ : ByteArray), 0, 1⟩ : S49), (⟨5, (⟨#[]⟩ : ByteArray), 0, 1⟩ : S49), (⟨8, (⟨#[]⟩ : ByteArray), 0, 1⟩ : S49)] : List (S49))) 1 1 4).bind fun bt150 => (if (bt133.1 == 16777198 && (bt133.2 == 0)) = true then (if (t143.length : Int) = 2 then (if 0 < (t143.length : Int) then (if ((rd_T26 t143 0).f0) = 11 then (if 1 < (t143.length : Int) then (if ((rd_T26 t143 1).f0) = 10 then (if (bt150.1.length : Int) = 4 then (if (bt150.2.length : Int) = 4 then (if 0 < (bt150.1.length : Int) then (if (rd bt150.1 0) = 2 then (if 0 < (bt150.2.length : Int) then (if (rd bt150.2 0) = 8 then (if 1 < (bt150.2.length : Int) then (some ((rd bt150.2 1) == 4)) else (none)) else (none)) else (none)) else (none)) else (none)) else (none)) else (none)) else (none)) else (none)) else (none)) else (none)) else (none)) else (none))))) = some r := h
 clear h
 replace H := Option.bind_eq_some_iff.mp H
 obtain ⟨⟨t133, t134⟩, A10, H⟩ := H
 replace H : ((round_ok.f (([(⟨1, 0⟩ : S26), (⟨2, 0⟩ : S26)] : List (S26))) (([(⟨3, 0⟩ : S26), (⟨4, 0⟩ : S26)] : List (S26)))).bind fun t143 => ((beats_zero.f (([(⟨0, (⟨#[]⟩ : ByteArray), 0, 1⟩ : S49), (⟨1, (⟨#[]⟩ : ByteArray), 0, 1⟩ : S49), (⟨5, (⟨#[]⟩ : ByteArray), 0, 1⟩ : S49), (⟨8, (⟨#[]⟩ : ByteArray), 0, 1⟩ : S49)] : List (S49))) 1 1 4).bind fun bt150 => (if (t133 == 16777198 && (t134 == 0)) = true then (if (t143.length : Int) = 2 then (if 0 < (t143.length : Int) then (if ((rd_T26 t143 0).f0) = 11 then (if 1 < (t143.length : Int) then (if ((rd_T26 t143 1).f0) = 10 then (if (bt150.1.length : Int) = 4 then (if (bt150.2.length : Int) = 4 then (if 0 < (bt150.1.length : Int) then (if (rd bt150.1 0) = 2 then (if 0 < (bt150.2.length : Int) then (if (rd bt150.2 0) = 8 then (if 1 < (bt150.2.length : Int) then (some ((rd bt150.2 1) == 4)) else (none)) else (none)) else (none)) else (none)) else (none)) else (none)) else (none)) else (none)) else (none)) else (none)) else (none)) else (none)) else (none)))) = some r := H
 have A1 := Aside0.mk A10
 clear A10
 obtain ⟨y137, hy137⟩ : ∃ y_ : List (S26), y_ = (([(⟨1, 0⟩ : S26), (⟨2, 0⟩ : S26)] : List (S26))) := ⟨_, rfl⟩
 replace H : ((round_ok.f y137 (([(⟨3, 0⟩ : S26), (⟨4, 0⟩ : S26)] : List (S26)))).bind fun t143 => ((beats_zero.f (([(⟨0, (⟨#[]⟩ : ByteArray), 0, 1⟩ : S49), (⟨1, (⟨#[]⟩ : ByteArray), 0, 1⟩ : S49), (⟨5, (⟨#[]⟩ : ByteArray), 0, 1⟩ : S49), (⟨8, (⟨#[]⟩ : ByteArray), 0, 1⟩ : S49)] : List (S49))) 1 1 4).bind fun bt150 => (if (t133 == 16777198 && (t134 == 0)) = true then (if (t143.length : Int) = 2 then (if 0 < (t143.length : Int) then (if ((rd_T26 t143 0).f0) = 11 then (if 1 < (t143.length : Int) then (if ((rd_T26 t143 1).f0) = 10 then (if (bt150.1.length : Int) = 4 then (if (bt150.2.length : Int) = 4 then (if 0 < (bt150.1.length : Int) then (if (rd bt150.1 0) = 2 then (if 0 < (bt150.2.length : Int) then (if (rd bt150.2 0) = 8 then (if 1 < (bt150.2.length : Int) then (some ((rd bt150.2 1) == 4)) else (none)) else (none)) else (none)) else (none)) else (none)) else (none)) else (none)) else (none)) else (none)) else (none)) else (none)) else (none)) else (none)))) = some r := by first | (rw [hy137]; with_reducible exact H) | (have H2_ := (Option.bind_some _ _).symm.trans H; rw [hy137]; with_reducible exact H2_) | (have H2_ := (Option.bind_some _ _).symm.trans H; with_reducible exact H2_) | with_reducible exact H | (rw [hy137]; exact H) | exact H
 have Ny137 := Aside0.mk hy137
 clear hy137
 obtain ⟨y140, hy140⟩ : ∃ y_ : List (S26), y_ = (([(⟨3, 0⟩ : S26), (⟨4, 0⟩ : S26)] : List (S26))) := ⟨_, rfl⟩
 replace H : ((round_ok.f y137 y140).bind fun t143 => ((beats_zero.f (([(⟨0, (⟨#[]⟩ : ByteArray), 0, 1⟩ : S49), (⟨1, (⟨#[]⟩ : ByteArray), 0, 1⟩ : S49), (⟨5, (⟨#[]⟩ : ByteArray), 0, 1⟩ : S49), (⟨8, (⟨#[]⟩ : ByteArray), 0, 1⟩ : S49)] : List (S49))) 1 1 4).bind fun bt150 => (if (t133 == 16777198 && (t134 == 0)) = true then (if (t143.length : Int) = 2 then (if 0 < (t143.length : Int) then (if ((rd_T26 t143 0).f0) = 11 then (if 1 < (t143.length : Int) then (if ((rd_T26 t143 1).f0) = 10 then (if (bt150.1.length : Int) = 4 then (if (bt150.2.length : Int) = 4 then (if 0 < (bt150.1.length : Int) then (if (rd bt150.1 0) = 2 then (if 0 < (bt150.2.length : Int) then (if (rd bt150.2 0) = 8 then (if 1 < (bt150.2.length : Int) then (some ((rd bt150.2 1) == 4)) else (none)) else (none)) else (none)) else (none)) else (none)) else (none)) else (none)) else (none)) else (none)) else (none)) else (none)) else (none)) else (none)))) = some r := by first | (rw [hy140]; with_reducible exact H) | (have H2_ := (Option.bind_some _ _).symm.trans H; rw [hy140]; with_reducible exact H2_) | (have H2_ := (Option.bind_some _ _).symm.trans H; with_reducible exact H2_) | with_reducible exact H | (rw [hy140]; exact H) | exact H
 have Ny140 := Aside0.mk hy140
 clear hy140
 replace H := Option.bind_eq_some_iff.mp H
 obtain ⟨t143, A20, H⟩ := H
 replace H : ((beats_zero.f (([(⟨0, (⟨#[]⟩ : ByteArray), 0, 1⟩ : S49), (⟨1, (⟨#[]⟩ : ByteArray), 0, 1⟩ : S49), (⟨5, (⟨#[]⟩ : ByteArray), 0, 1⟩ : S49), (⟨8, (⟨#[]⟩ : ByteArray), 0, 1⟩ : S49)] : List (S49))) 1 1 4).bind fun bt150 => (if (t133 == 16777198 && (t134 == 0)) = true then (if (t143.length : Int) = 2 then (if 0 < (t143.length : Int) then (if ((rd_T26 t143 0).f0) = 11 then (if 1 < (t143.length : Int) then (if ((rd_T26 t143 1).f0) = 10 then (if (bt150.1.length : Int) = 4 then (if (bt150.2.length : Int) = 4 then (if 0 < (bt150.1.length : Int) then (if (rd bt150.1 0) = 2 then (if 0 < (bt150.2.length : Int) then (if (rd bt150.2 0) = 8 then (if 1 < (bt150.2.length : Int) then (some ((rd bt150.2 1) == 4)) else (none)) else (none)) else (none)) else (none)) else (none)) else (none)) else (none)) else (none)) else (none)) else (none)) else (none)) else (none)) else (none))) = some r := H
 have A2 := Aside0.mk A20
 clear A20
 obtain ⟨y147, hy147⟩ : ∃ y_ : List (S49), y_ = (([(⟨0, (⟨#[]⟩ : ByteArray), 0, 1⟩ : S49), (⟨1, (⟨#[]⟩ : ByteArray), 0, 1⟩ : S49), (⟨5, (⟨#[]⟩ : ByteArray), 0, 1⟩ : S49), (⟨8, (⟨#[]⟩ : ByteArray), 0, 1⟩ : S49)] : List (S49))) := ⟨_, rfl⟩
 replace H : ((beats_zero.f y147 1 1 4).bind fun bt150 => (if (t133 == 16777198 && (t134 == 0)) = true then (if (t143.length : Int) = 2 then (if 0 < (t143.length : Int) then (if ((rd_T26 t143 0).f0) = 11 then (if 1 < (t143.length : Int) then (if ((rd_T26 t143 1).f0) = 10 then (if (bt150.1.length : Int) = 4 then (if (bt150.2.length : Int) = 4 then (if 0 < (bt150.1.length : Int) then (if (rd bt150.1 0) = 2 then (if 0 < (bt150.2.length : Int) then (if (rd bt150.2 0) = 8 then (if 1 < (bt150.2.length : Int) then (some ((rd bt150.2 1) == 4)) else (none)) else (none)) else (none)) else (none)) else (none)) else (none)) else (none)) else (none)) else (none)) else (none)) else (none)) else (none)) else (none))) = some r := by first | (rw [hy147]; with_reducible exact H) | (have H2_ := (Option.bind_some _ _).symm.trans H; rw [hy147]; with_reducible exact H2_) | (have H2_ := (Option.bind_some _ _).symm.trans H; with_reducible exact H2_) | with_reducible exact H | (rw [hy147]; exact H) | exact H
 have Ny147 := Aside0.mk hy147
 clear hy147
 replace H := Option.bind_eq_some_iff.mp H
 obtain ⟨⟨t150, t151⟩, A30, H⟩ := H
 replace H : (if (t133 == 16777198 && (t134 == 0)) = true then (if (t143.length : Int) = 2 then (if 0 < (t143.length : Int) then (if ((rd_T26 t143 0).f0) = 11 then (if 1 < (t143.length : Int) then (if ((rd_T26 t143 1).f0) = 10 then (if (t150.length : Int) = 4 then (if (t151.length : Int) = 4 then (if 0 < (t150.length : Int) then (if (rd t150 0) = 2 then (if 0 < (t151.length : Int) then (if (rd t151 0) = 8 then (if 1 < (t151.length : Int) then (some ((rd t151 1) == 4)) else (none)) else (none)) else (none)) else (none)) else (none)) else (none)) else (none)) else (none)) else (none)) else (none)) else (none)) else (none)) else (none)) = some r := H
 have A3 := Aside0.mk A30
 clear A30
 by_cases c4 : (t133 == 16777198 && (t134 == 0)) = true
 ·rw [if_pos c4] at H
  have c4b0 : (t133 == 16777198 && (t134 == 0)) = true := c4
  (try (have c4b1 : decide (t133 = 16777198 && (t134 == 0)) = true := by simpa using c4))
  (try (have c4b2 : (t133 == 16777198 && (t134 == 0)) = true := by simpa using c4))
  clear c4
  by_cases c5 : (t143.length : Int) = 2
  ·rw [if_pos c5] at H
   have c5b0 : ((t143.length : Int) == 2) = true := beq_iff_eq.mpr c5
   have c5b1 : ((t143.length : Int) != 2) = false := bne_eq_false_iff_eq.mpr c5
   clear c5
   by_cases c6 : 0 < (t143.length : Int)
   ·rw [if_pos c6] at H
    have c6b0 : decide (0 < (t143.length : Int)) = true := decide_eq_true c6
    have c6b1 : decide (0 < t143.length) = true := decide_eq_true (by omega)
    clear c6
    by_cases c7 : ((rd_T26 t143 0).f0) = 11
    ·rw [if_pos c7] at H
     have c7b0 : (((rd_T26 t143 0).f0) == 11) = true := beq_iff_eq.mpr c7
     have c7b1 : (((rd_T26 t143 0).f0) != 11) = false := bne_eq_false_iff_eq.mpr c7
     clear c7
     by_cases c8 : 1 < (t143.length : Int)
     ·rw [if_pos c8] at H
      have c8b0 : decide (1 < (t143.length : Int)) = true := decide_eq_true c8
      have c8b1 : decide (1 < t143.length) = true := decide_eq_true (by omega)
      clear c8
      by_cases c9 : ((rd_T26 t143 1).f0) = 10
      ·rw [if_pos c9] at H
       have c9b0 : (((rd_T26 t143 1).f0) == 10) = true := beq_iff_eq.mpr c9
       have c9b1 : (((rd_T26 t143 1).f0) != 10) = false := bne_eq_false_iff_eq.mpr c9
       clear c9
       by_cases c10 : (t150.length : Int) = 4
       ·rw [if_pos c10] at H
        have c10b0 : ((t150.length : Int) == 4) = true := beq_iff_eq.mpr c10
        have c10b1 : ((t150.length : Int) != 4) = false := bne_eq_false_iff_eq.mpr c10
        clear c10
        by_cases c11 : (t151.length : Int) = 4
        ·rw [if_pos c11] at H
         have c11b0 : ((t151.length : Int) == 4) = true := beq_iff_eq.mpr c11
         have c11b1 : ((t151.length : Int) != 4) = false := bne_eq_false_iff_eq.mpr c11
         clear c11
         by_cases c12 : 0 < (t150.length : Int)
         ·rw [if_pos c12] at H
          have c12b0 : decide (0 < (t150.length : Int)) = true := decide_eq_true c12
          have c12b1 : decide (0 < t150.length) = true := decide_eq_true (by omega)
          clear c12
          by_cases c13 : (rd t150 0) = 2
          ·rw [if_pos c13] at H
           have c13b0 : ((rd t150 0) == 2) = true := beq_iff_eq.mpr c13
           have c13b1 : ((rd t150 0) != 2) = false := bne_eq_false_iff_eq.mpr c13
           clear c13
           by_cases c14 : 0 < (t151.length : Int)
           ·rw [if_pos c14] at H
            have c14b0 : decide (0 < (t151.length : Int)) = true := decide_eq_true c14
            have c14b1 : decide (0 < t151.length) = true := decide_eq_true (by omega)
            clear c14
            by_cases c15 : (rd t151 0) = 8
            ·rw [if_pos c15] at H
             have c15b0 : ((rd t151 0) == 8) = true := beq_iff_eq.mpr c15
             have c15b1 : ((rd t151 0) != 8) = false := bne_eq_false_iff_eq.mpr c15
             clear c15
             by_cases c16 : 1 < (t151.length : Int)
             ·rw [if_pos c16] at H
              have c16b0 : decide (1 < (t151.length : Int)) = true := decide_eq_true c16
              have c16b1 : decide (1 < t151.length) = true := decide_eq_true (by omega)
              clear c16
              obtain rfl := Option.some.inj H
              go_enter Try.func10, Try.ntmps10
              go_wp2_with (first | ((with_reducible refine gate_callee (f := 13) rfl ?_); refine goesL_ (some 9) rfl rfl Try.func13 (by kernel_rfl) rfl #[.int .i64 2] rfl (by (try simp only [List.map_toArray, List.map_cons, List.map_nil]); first | done | rfl | (simp only [List.length_drop, List.length_take]; rfl)) ?_; (with_reducible refine (root_ok.calls 2 t133 t134 _ A1.out).mono ?_); rintro e w17 ⟨rfl, hb⟩; refine ⟨_, rfl, ?_⟩; have n0_ := Aside0.mk (below_step (by repeat (first | (with_reducible first | exact HB.out | apply below_alloc | apply pw_below_drewN | apply below_drew1) | exact HB.out)) hb); clear HB; have HB := n0_; clear n0_; (try clear hb); (try clear hb2); (try clear hk); (try clear hi)) | ((with_reducible refine gate_dst (N := 1) rfl ?_); (try (refine gate_guard (by rfl) ?_; dsimp only)); refine box_event ?hg (N := 1) ?hd (cs := #[.int .i64 0, .int .i64 0]) (t := 26) ?hr ?_; (case hd => rfl); (case hg => rfl); (case hr => first | (go_simp; done) | (go_simp; rfl)); intro gb136 hg w18 hbox hb; have n0_ := Aside0.mk (below_step (by repeat (first | (with_reducible first | exact HB.out | apply below_alloc | apply pw_below_drewN | apply below_drew1) | exact HB.out)) hb); have n1_ := Aside0.mk (hbox); have n2_ := Aside0.mk ((by rw [hg]; exact (below_size (by repeat (first | (with_reducible first | exact HB.out | apply below_alloc | apply pw_below_drewN | apply below_drew1) | exact HB.out))) : w.heap.size ≤ gb136)); have n3_ := Aside0.mk ((by rw [hg]; exact (below_size (by repeat (first | (with_reducible first | exact HB.out | apply below_alloc | apply pw_below_drewN | apply below_drew1) | exact HB.out))) : w.heap.size ≤ gb136)); clear HB; have HB := n0_; have BK136 := n1_; have GW136 := n2_; have GE136 := n3_; clear n0_ n1_ n2_ n3_; clear hb hbox hg; have hcz19_0 : w18.cell? ⟨gb136, 0, none⟩ = some (.int .i64 0) := (blk_cell BK136.out 0).trans rfl; have hcz19_1 : w18.cell? ⟨gb136, 1, none⟩ = some (.int .i64 0) := (blk_cell BK136.out 1).trans rfl; have hfz19_0 := blk_frozen BK136.out 0; have hfz19_1 := blk_frozen BK136.out 1) | ((with_reducible refine gate_dst (N := 15) rfl ?_); (try (refine gate_guard (by rfl) ?_; dsimp only)); refine Kd.R_lit k26 _ 26 ?hg (N := 15) ?hd (xs := ([(⟨1, 0⟩ : S26), (⟨2, 0⟩ : S26)] : List (S26))) (inner := [.int .i64 1, .int .i64 0, .int .i64 2, .int .i64 0]) (ok := fun _ => True) (okp := fun _ => True) ?hr ?hp (fun _ hk => hk) trivial (Below.refl _ _) (Nat.le_refl _) (by simp) ?_; (case hd => rfl); (case hg => rfl); (case hr => first | (go_simp; done) | (go_simp; rfl)); (case hp => exact (Reps.c2 (show Kd.M k26 _ _ _ (⟨1, 0⟩ : S26) [.int .i64 1, .int .i64 0] from (k26_mkM _ _ _ (⟨1, 0⟩ : S26) )) (Reps.c2 (show Kd.M k26 _ _ _ (⟨2, 0⟩ : S26) [.int .i64 2, .int .i64 0] from (k26_mkM _ _ _ (⟨2, 0⟩ : S26) )) (Reps.none _ _)))); intro v138 w20 ho21 hb hg_ hnew_; clear hg_ hnew_; (first | rw [← Ny137.out] at ho21 | (simp only [Int.reduceToNat] at ho21; rw [← Ny137.out] at ho21)); have n0_ := Aside0.mk (Kd.R_lower (Kd.R_newB ho21 (g := gb136) (o := .cells #[.int .i64 t133, .int .i64 t134] 26 (0, 0)) (by (with_reducible repeat (first | refine blk_drewN ?_ _ | refine blk_drew ?_ | refine blk_alloc ?_ _)); refine blk_put (cs := #[.int .i64 t133, .int .i64 0]) ?_ 1 _ rfl; (with_reducible repeat (first | refine blk_drewN ?_ _ | refine blk_drew ?_ | refine blk_alloc ?_ _)); refine blk_put (cs := #[.int .i64 0, .int .i64 0]) ?_ 0 _ rfl; (with_reducible repeat (first | refine blk_drewN ?_ _ | refine blk_drew ?_ | refine blk_alloc ?_ _)); exact BK136.out)) (below_size (by repeat (first | (with_reducible first | exact HB.out | apply below_alloc | apply pw_below_drewN | apply below_drew1 | refine below_set ?_ GE136.out) | exact HB.out)))); have n1_ := Aside0.mk (blk_below (g := gb136) (o := .cells #[.int .i64 t133, .int .i64 t134] 26 (0, 0)) (by (with_reducible repeat (first | refine blk_drewN ?_ _ | refine blk_drew ?_ | refine blk_alloc ?_ _)); refine blk_put (cs := #[.int .i64 t133, .int .i64 0]) ?_ 1 _ rfl; (with_reducible repeat (first | refine blk_drewN ?_ _ | refine blk_drew ?_ | refine blk_alloc ?_ _)); refine blk_put (cs := #[.int .i64 0, .int .i64 0]) ?_ 0 _ rfl; (with_reducible repeat (first | refine blk_drewN ?_ _ | refine blk_drew ?_ | refine blk_alloc ?_ _)); exact BK136.out) hb); have n2_ := Aside0.mk (below_step (by repeat (first | (with_reducible first | exact HB.out | apply below_alloc | apply pw_below_drewN | apply below_drew1 | refine below_set ?_ GE136.out) | exact HB.out)) hb); clear BK136; clear HB; have HO139 := n0_; have BK136 := n1_; have HB := n2_; clear n0_ n1_ n2_; clear hb ho21) | ((with_reducible refine gate_dst (N := 18) rfl ?_); (try (refine gate_guard (by rfl) ?_; dsimp only)); refine Kd.R_lit k26 _ 26 ?hg (N := 18) ?hd (xs := ([(⟨3, 0⟩ : S26), (⟨4, 0⟩ : S26)] : List (S26))) (inner := [.int .i64 3, .int .i64 0, .int .i64 4, .int .i64 0]) (ok := fun _ => True) (okp := fun _ => True) ?hr ?hp (fun _ hk => hk) trivial (Below.refl _ _) (Nat.le_refl _) (by simp) ?_; (case hd => rfl); (case hg => rfl); (case hr => first | (go_simp; done) | (go_simp; rfl)); (case hp => exact (Reps.c2 (show Kd.M k26 _ _ _ (⟨3, 0⟩ : S26) [.int .i64 3, .int .i64 0] from (k26_mkM _ _ _ (⟨3, 0⟩ : S26) )) (Reps.c2 (show Kd.M k26 _ _ _ (⟨4, 0⟩ : S26) [.int .i64 4, .int .i64 0] from (k26_mkM _ _ _ (⟨4, 0⟩ : S26) )) (Reps.none _ _)))); intro v141 w22 ho23 hb hg_ hnew_; clear hg_ hnew_; (first | rw [← Ny140.out] at ho23 | (simp only [Int.reduceToNat] at ho23; rw [← Ny140.out] at ho23)); have n0_ := Aside0.mk (Kd.R_elder' (by (with_reducible repeat (first | apply Kd.R_alloc | apply Kd.R_drewN | apply Kd.R_drew)); exact HO139.out) (Kd.R_base ho23) hb); have n1_ := Aside0.mk (Kd.R_lower (Kd.R_newB (Kd.R_new' ho23 (Kd.R_lt (by (with_reducible repeat (first | apply Kd.R_alloc | apply Kd.R_drewN | apply Kd.R_drew)); exact HO139.out))) (g := gb136) (o := .cells #[.int .i64 t133, .int .i64 t134] 26 (0, 0)) (by (with_reducible repeat (first | refine blk_drewN ?_ _ | refine blk_drew ?_ | refine blk_alloc ?_ _)); exact BK136.out)) (below_size (by repeat (first | (with_reducible first | exact HB.out | apply below_alloc | apply pw_below_drewN | apply below_drew1 | refine below_set ?_ GE136.out) | exact HB.out)))); have n2_ := Aside0.mk (blk_below (g := gb136) (o := .cells #[.int .i64 t133, .int .i64 t134] 26 (0, 0)) (by (with_reducible repeat (first | refine blk_drewN ?_ _ | refine blk_drew ?_ | refine blk_alloc ?_ _)); exact BK136.out) hb); have n3_ := Aside0.mk (below_step (by repeat (first | (with_reducible first | exact HB.out | apply below_alloc | apply pw_below_drewN | apply below_drew1 | refine below_set ?_ GE136.out) | exact HB.out)) hb); clear HO139; clear BK136; clear HB; have HO139 := n0_; have HO142 := n1_; have BK136 := n2_; have HB := n3_; clear n0_ n1_ n2_ n3_; clear hb ho23; obtain ⟨Ao24, co24, eo24⟩ := Kd.R_slice HO139.out; subst eo24; obtain ⟨Ao25, co25, eo25⟩ := Kd.R_slice HO142.out; subst eo25) | ((with_reducible refine gate_callee (f := 16) rfl ?_); refine goesL_ (some 19) rfl rfl Try.func16 (by kernel_rfl) rfl #[.slice Ao24 y137.length co24, .slice Ao25 y140.length co25] rfl (by (try simp only [List.map_toArray, List.map_cons, List.map_nil]); first | done | rfl | (simp only [List.length_drop, List.length_take]; rfl)) ?_; (with_reducible refine (round_ok.calls _ _ y137 _ _ y140 t143 _ ?side1 ?side2 ?side3 ?side4 A2.out).mono ?_); (case side1 => repeat (first | exact (Kd.R_reads' HO139.out).2.2 | (with_reducible refine Kd.C_alloc ?_ _) | (with_reducible refine Kd.C_drewN ?_ _) | (with_reducible refine Kd.C_drew ?_))); (case side2 => exact (Kd.R_reads' HO139.out).2.1); (case side3 => repeat (first | exact (Kd.R_reads' HO142.out).2.2 | (with_reducible refine Kd.C_alloc ?_ _) | (with_reducible refine Kd.C_drewN ?_ _) | (with_reducible refine Kd.C_drew ?_))); (case side4 => exact (Kd.R_reads' HO142.out).2.1); rintro e w26 ⟨v145, rfl, ho0, hb⟩; refine ⟨_, rfl, ?_⟩; have n0_ := Aside0.mk (Kd.R_elder' (by (with_reducible repeat (first | apply Kd.R_alloc | apply Kd.R_drewN | apply Kd.R_drew)); exact HO139.out) (Kd.R_base ho0) hb); have n1_ := Aside0.mk (Kd.R_elder' (by (with_reducible repeat (first | apply Kd.R_alloc | apply Kd.R_drewN | apply Kd.R_drew)); exact HO142.out) (Kd.R_base ho0) hb); have n2_ := Aside0.mk (Kd.R_lower (Kd.R_newB (Kd.R_new' (Kd.R_new' ho0 (Kd.R_lt (by (with_reducible repeat (first | apply Kd.R_alloc | apply Kd.R_drewN | apply Kd.R_drew)); exact HO139.out))) (Kd.R_lt (by (with_reducible repeat (first | apply Kd.R_alloc | apply Kd.R_drewN | apply Kd.R_drew)); exact HO142.out))) (g := gb136) (o := .cells #[.int .i64 t133, .int .i64 t134] 26 (0, 0)) (by (with_reducible repeat (first | refine blk_drewN ?_ _ | refine blk_drew ?_ | refine blk_alloc ?_ _)); exact BK136.out)) (below_size (by repeat (first | (with_reducible first | exact HB.out | apply below_alloc | apply pw_below_drewN | apply below_drew1 | refine below_set ?_ GE136.out) | exact HB.out)))); have n3_ := Aside0.mk (blk_below (g := gb136) (o := .cells #[.int .i64 t133, .int .i64 t134] 26 (0, 0)) (by (with_reducible repeat (first | refine blk_drewN ?_ _ | refine blk_drew ?_ | refine blk_alloc ?_ _)); exact BK136.out) hb); have n4_ := Aside0.mk (below_step (by repeat (first | (with_reducible first | exact HB.out | apply below_alloc | apply pw_below_drewN | apply below_drew1 | refine below_set ?_ GE136.out) | exact HB.out)) hb); clear HO139; clear HO142; clear BK136; clear HB; have HO139 := n0_; have HO142 := n1_; have HO146 := n2_; have BK136 := n3_; have HB := n4_; clear n0_ n1_ n2_ n3_ n4_; (try clear hb); (try clear hb2); (try clear hk); (try clear hi); (try clear ho0)) | ((with_reducible refine gate_dst (N := 27) rfl ?_); (try (refine gate_guard (by rfl) ?_; dsimp only)); refine Kd.R_lit k49 _ 49 ?hg (N := 27) ?hd (xs := ([(⟨0, (⟨#[]⟩ : ByteArray), 0, 1⟩ : S49), (⟨1, (⟨#[]⟩ : ByteArray), 0, 1⟩ : S49), (⟨5, (⟨#[]⟩ : ByteArray), 0, 1⟩ : S49), (⟨8, (⟨#[]⟩ : ByteArray), 0, 1⟩ : S49)] : List (S49))) (inner := [.int .i64 0, .string (⟨#[]⟩ : ByteArray), .int .i64 0, .int .i64 1, .int .i64 1, .string (⟨#[]⟩ : ByteArray), .int .i64 0, .int .i64 1, .int .i64 5, .string (⟨#[]⟩ : ByteArray), .int .i64 0, .int .i64 1, .int .i64 8, .string (⟨#[]⟩ : ByteArray), .int .i64 0, .int .i64 1]) (ok := fun _ => True) (okp := fun _ => True) ?hr ?hp (fun _ hk => hk) trivial (Below.refl _ _) (Nat.le_refl _) (by simp) ?_; (case hd => rfl); (case hg => rfl); (case hr => first | (go_simp; done) | (go_simp; rfl)); (case hp => exact (Reps.c4 (show Kd.M k49 _ _ _ (⟨0, (⟨#[]⟩ : ByteArray), 0, 1⟩ : S49) [.int .i64 0, .string (⟨#[]⟩ : ByteArray), .int .i64 0, .int .i64 1] from (k49_mkM _ _ _ (⟨0, (⟨#[]⟩ : ByteArray), 0, 1⟩ : S49) )) (Reps.c4 (show Kd.M k49 _ _ _ (⟨1, (⟨#[]⟩ : ByteArray), 0, 1⟩ : S49) [.int .i64 1, .string (⟨#[]⟩ : ByteArray), .int .i64 0, .int .i64 1] from (k49_mkM _ _ _ (⟨1, (⟨#[]⟩ : ByteArray), 0, 1⟩ : S49) )) (Reps.c4 (show Kd.M k49 _ _ _ (⟨5, (⟨#[]⟩ : ByteArray), 0, 1⟩ : S49) [.int .i64 5, .string (⟨#[]⟩ : ByteArray), .int .i64 0, .int .i64 1] from (k49_mkM _ _ _ (⟨5, (⟨#[]⟩ : ByteArray), 0, 1⟩ : S49) )) (Reps.c4 (show Kd.M k49 _ _ _ (⟨8, (⟨#[]⟩ : ByteArray), 0, 1⟩ : S49) [.int .i64 8, .string (⟨#[]⟩ : ByteArray), .int .i64 0, .int .i64 1] from (k49_mkM _ _ _ (⟨8, (⟨#[]⟩ : ByteArray), 0, 1⟩ : S49) )) (Reps.none _ _)))))); intro v148 w27 ho28 hb hg_ hnew_; clear hg_ hnew_; (first | rw [← Ny147.out] at ho28 | (simp only [Int.reduceToNat] at ho28; rw [← Ny147.out] at ho28)); have n0_ := Aside0.mk (Kd.R_below (by (with_reducible repeat (first | apply Kd.R_alloc | apply Kd.R_drewN | apply Kd.R_drew)); exact HO139.out) hb); have n1_ := Aside0.mk (Kd.R_below (by (with_reducible repeat (first | apply Kd.R_alloc | apply Kd.R_drewN | apply Kd.R_drew)); exact HO142.out) hb); have n2_ := Aside0.mk (Kd.R_below (by (with_reducible repeat (first | apply Kd.R_alloc | apply Kd.R_drewN | apply Kd.R_drew)); exact HO146.out) hb); have n3_ := Aside0.mk (Kd.R_lower ho28 (below_size (by repeat (first | (with_reducible first | exact HB.out | apply below_alloc | apply pw_below_drewN | apply below_drew1 | refine below_set ?_ GE136.out) | exact HB.out)))); have n4_ := Aside0.mk (blk_below (g := gb136) (o := .cells #[.int .i64 t133, .int .i64 t134] 26 (0, 0)) (by (with_reducible repeat (first | refine blk_drewN ?_ _ | refine blk_drew ?_ | refine blk_alloc ?_ _)); exact BK136.out) hb); have n5_ := Aside0.mk (below_step (by repeat (first | (with_reducible first | exact HB.out | apply below_alloc | apply pw_below_drewN | apply below_drew1 | refine below_set ?_ GE136.out) | exact HB.out)) hb); clear HO139; clear HO142; clear HO146; clear BK136; clear HB; have HO139 := n0_; have HO142 := n1_; have HO146 := n2_; have HO149 := n3_; have BK136 := n4_; have HB := n5_; clear n0_ n1_ n2_ n3_ n4_ n5_; clear hb ho28; obtain ⟨Ao29, co29, eo29⟩ := Kd.R_slice HO149.out; subst eo29) | ((with_reducible refine gate_callee (f := 27) rfl ?_); refine goesL_ (some 28) rfl rfl Try.func27 (by kernel_rfl) rfl #[.slice Ao29 y147.length co29, .int .i64 1, .int .i64 1, .int .i64 4] rfl (by (try simp only [List.map_toArray, List.map_cons, List.map_nil]); first | done | rfl | (simp only [List.length_drop, List.length_take]; rfl)) ?_; (with_reducible refine (beats_zero.calls _ _ y147 1 1 4 t150 t151 _ ?side1 ?side2 A3.out).mono ?_); (case side1 => repeat (first | exact (Kd.R_reads' HO149.out).2.2 | (with_reducible refine Kd.C_alloc ?_ _) | (with_reducible refine Kd.C_drewN ?_ _) | (with_reducible refine Kd.C_drew ?_))); (case side2 => exact (Kd.R_reads' HO149.out).2.1); rintro e w30 ⟨v153, v155, rfl, ho0, ho1, hb⟩; refine ⟨_, rfl, ?_⟩; have n0_ := Aside0.mk (Kd.R_below (by (with_reducible repeat (first | apply Kd.R_alloc | apply Kd.R_drewN | apply Kd.R_drew)); exact HO139.out) hb); have n1_ := Aside0.mk (Kd.R_below (by (with_reducible repeat (first | apply Kd.R_alloc | apply Kd.R_drewN | apply Kd.R_drew)); exact HO142.out) hb); have n2_ := Aside0.mk (Kd.R_below (by (with_reducible repeat (first | apply Kd.R_alloc | apply Kd.R_drewN | apply Kd.R_drew)); exact HO146.out) hb); have n3_ := Aside0.mk (Kd.R_below (by (with_reducible repeat (first | apply Kd.R_alloc | apply Kd.R_drewN | apply Kd.R_drew)); exact HO149.out) hb); have n4_ := Aside0.mk (Kd.R_lower ho0 (below_size (by repeat (first | (with_reducible first | exact HB.out | apply below_alloc | apply pw_below_drewN | apply below_drew1 | refine below_set ?_ GE136.out) | exact HB.out)))); have n5_ := Aside0.mk (Kd.R_lower ho1 (below_size (by repeat (first | (with_reducible first | exact HB.out | apply below_alloc | apply pw_below_drewN | apply below_drew1 | refine below_set ?_ GE136.out) | exact HB.out)))); have n6_ := Aside0.mk (blk_below (g := gb136) (o := .cells #[.int .i64 t133, .int .i64 t134] 26 (0, 0)) (by (with_reducible repeat (first | refine blk_drewN ?_ _ | refine blk_drew ?_ | refine blk_alloc ?_ _)); exact BK136.out) hb); have n7_ := Aside0.mk (below_step (by repeat (first | (with_reducible first | exact HB.out | apply below_alloc | apply pw_below_drewN | apply below_drew1 | refine below_set ?_ GE136.out) | exact HB.out)) hb); clear HO139; clear HO142; clear HO146; clear HO149; clear BK136; clear HB; have HO139 := n0_; have HO142 := n1_; have HO146 := n2_; have HO149 := n3_; have HO154 := n4_; have HO156 := n5_; have BK136 := n6_; have HB := n7_; clear n0_ n1_ n2_ n3_ n4_ n5_ n6_ n7_; (try clear hb); (try clear hb2); (try clear hk); (try clear hi); (try clear ho0); (try clear ho1); have hcz31_0 : w30.cell? ⟨gb136, 0, none⟩ = some (.int .i64 t133) := (blk_cell BK136.out 0).trans rfl; have hcz31_1 : w30.cell? ⟨gb136, 1, none⟩ = some (.int .i64 t134) := (blk_cell BK136.out 1).trans rfl; have hfz31_0 := blk_frozen BK136.out 0; have hfz31_1 := blk_frozen BK136.out 1; obtain ⟨Ao32, co32, eo32⟩ := Kd.R_slice HO146.out; subst eo32; have p157 : 0 ≤ (0 : Int) := (by omega); have q157 : 0 < (t143.length : Int) := of_decide_eq_true (by first | (with_reducible assumption) | assumption); obtain ⟨ad157, e157, hx157_0, hx157_1⟩ := at_T26 (Kd.R_reads' HO146.out).2.2 0 p157 q157; cases e157; have qi157 : (0 < t143.length) = True := eq_true (by omega); (try rw [show ((0 : Int)).toNat = 0 from rfl] at hx157_0); (try rw [show 0 * 2 = 0 from rfl] at hx157_0); (try rw [Addr.add_zero'] at hx157_0); (try rw [show ((0 : Int)).toNat = 0 from rfl] at hx157_1); (try rw [show 0 * 2 = 0 from rfl] at hx157_1); (try rw [Addr.add_zero'] at hx157_1); replace p157 := eq_true p157; replace q157 := eq_true q157; have p158 : 0 ≤ (1 : Int) := (by omega); have q158 : 1 < (t143.length : Int) := of_decide_eq_true (by first | (with_reducible assumption) | assumption); obtain ⟨ad158, e158, hx158_0, hx158_1⟩ := at_T26 (Kd.R_reads' HO146.out).2.2 1 p158 q158; obtain rfl : ad157 = ad158 := (by injection e158); (try simp only [show (1 : Int).toNat = 1 from rfl, Nat.reduceMul, Nat.reduceEqDiff, Go.Addr.add, ↓reduceIte] at hx158_0); (try simp only [show (1 : Int).toNat = 1 from rfl, Nat.reduceMul, Nat.reduceEqDiff, Go.Addr.add, ↓reduceIte] at hx158_1); have qi158 : (1 < t143.length) = True := eq_true (by omega); (try rw [show ((1 : Int)).toNat = 1 from rfl] at hx158_0); (try rw [show 1 * 2 = 2 from rfl] at hx158_0); (try rw [show ((1 : Int)).toNat = 1 from rfl] at hx158_1); (try rw [show 1 * 2 = 2 from rfl] at hx158_1); replace p158 := eq_true p158; replace q158 := eq_true q158; obtain ⟨Ao33, co33, eo33⟩ := Kd.R_slice HO154.out; subst eo33; obtain ⟨Ao34, co34, eo34⟩ := Kd.R_slice HO156.out; subst eo34; have p159 : 0 ≤ (0 : Int) := (by omega); have q159 : 0 < (t150.length : Int) := of_decide_eq_true (by first | (with_reducible assumption) | assumption); obtain ⟨ad159, e159, hx159_0⟩ := Kd.at_int (Kd.R_reads' HO154.out).2.2 0 p159 q159; cases e159; have qi159 : (0 < t150.length) = True := eq_true (by omega); (try rw [show ((0 : Int)).toNat = 0 from rfl] at hx159_0); (try rw [Addr.add_zero'] at hx159_0); replace p159 := eq_true p159; replace q159 := eq_true q159; have p160 : 0 ≤ (0 : Int) := (by omega); have q160 : 0 < (t151.length : Int) := of_decide_eq_true (by first | (with_reducible assumption) | assumption); obtain ⟨ad160, e160, hx160_0⟩ := Kd.at_int (Kd.R_reads' HO156.out).2.2 0 p160 q160; cases e160; have qi160 : (0 < t151.length) = True := eq_true (by omega); (try rw [show ((0 : Int)).toNat = 0 from rfl] at hx160_0); (try rw [Addr.add_zero'] at hx160_0); replace p160 := eq_true p160; replace q160 := eq_true q160; have p161 : 0 ≤ (1 : Int) := (by omega); have q161 : 1 < (t151.length : Int) := of_decide_eq_true (by first | (with_reducible assumption) | assumption); obtain ⟨ad161, e161, hx161_0⟩ := Kd.at_int (Kd.R_reads' HO156.out).2.2 1 p161 q161; obtain rfl : ad160 = ad161 := (by injection e161); (try simp only [show (1 : Int).toNat = 1 from rfl, Nat.reduceMul, Nat.reduceEqDiff, Go.Addr.add, ↓reduceIte] at hx161_0); have qi161 : (1 < t151.length) = True := eq_true (by omega); (try rw [show ((1 : Int)).toNat = 1 from rfl] at hx161_0); replace p161 := eq_true p161; replace q161 := eq_true q161))
              go_ret
              exact ⟨by first | rfl | (simp [errW_none, errW_some] <;> rfl) | (simp [*, errW_none, errW_some] <;> rfl), by repeat (first | (with_reducible first | exact HB.out | apply below_alloc | apply pw_below_drewN | apply below_drew1 | refine below_set ?_ GE136.out) | exact HB.out)⟩
             ·rw [if_neg c16] at H
              exact absurd H (by simp)
            ·rw [if_neg c15] at H
             exact absurd H (by simp)
           ·rw [if_neg c14] at H
            exact absurd H (by simp)
          ·rw [if_neg c13] at H
           exact absurd H (by simp)
         ·rw [if_neg c12] at H
          exact absurd H (by simp)
        ·rw [if_neg c11] at H
         exact absurd H (by simp)
       ·rw [if_neg c10] at H
        exact absurd H (by simp)
      ·rw [if_neg c9] at H
       exact absurd H (by simp)
     ·rw [if_neg c8] at H
      exact absurd H (by simp)
    ·rw [if_neg c7] at H
     exact absurd H (by simp)
   ·rw [if_neg c6] at H
    exact absurd H (by simp)
  ·rw [if_neg c5] at H
   exact absurd H (by simp)
 ·rw [if_neg c4] at H
  exact absurd H (by simp)

/-- THE ONE PURE STATEMENT of reevelaw21_awake: yours. -/
def reevelaw21_awake.Pure : Prop := reevelaw21_awake.f  = some true
theorem reevelaw21_awake.walk (P : reevelaw21_awake.Pure)  (w : World)  :
  Calls Try.prog 10 #[] w fun e w' => e = .returned (.bool true) ∧ Below w.heap.size w w' := by
 have h := P  
 refine (reevelaw21_awake.calls  true w h).mono ?_
 rintro e w' ⟨rfl, hd⟩
 exact ⟨rfl, hd⟩

end Go.Proofs.YtkilnknndglmnaaA
end

section
/- awake answers true. -/
namespace Go.Proofs.YtkilnknndglmnaaP
open Go.RowKit Go.Proofs.Ytkilnknndglmnaa Go.Proofs.YtkilnknndglmnaaW.PrintWords

theorem awake_f : YtkilnknndglmnaaA.reevelaw21_awake.f = some true := by kernel_rfl
/-- awake, told as a fact. -/
def awake_ok.f : Option Unit := some ()
theorem awake_ok.calls {r_ : Unit} (w : World) (_h : awake_ok.f = some r_) :
    Calls Try.prog 10 #[] w fun e w' => e = .returned (.bool true) ∧ Below w.heap.size w w' :=
  YtkilnknndglmnaaA.reevelaw21_awake.calls true w awake_f

#print axioms awake_ok.calls
end Go.Proofs.YtkilnknndglmnaaP
end

section
/- Right rows, and what their round products are: plain. -/
namespace Go.Proofs.YtkilnknndglmnaaP
open Go.RowKit Go.Proofs.Ytkilnknndglmnaa Go.Proofs.YtkilnknndglmnaaW.PrintWords

theorem rightP_map (l : List S26) (n : Nat) : (rightP l n).map sG = (List.range n).map fun i => red (atG (l.map sG) i) := by
  unfold rightP
  rw [List.map_map]
  rfl
theorem rightP_at (l : List S26) {n i : Nat} (h : i < n) : atG ((rightP l n).map sG) i = red (atG (l.map sG) i) := by rw [rightP_map, atG_map _ h]
theorem right_rowE (l : List S26) {n : Nat} (h : isLen n) : rowE (rightP l n) = 0 := rowE_iff.2 ⟨by rw [rightP_len]; exact lenB_iff.2 h, rightP_allS l n⟩
theorem right_roundE (x y : List S26) {n : Nat} (h : isLen n) : roundE (rightP x n) (rightP y n) = 0 := by
  unfold roundE
  rw [rightP_len, rightP_len, lenB_iff.2 h, rightP_allS, rightP_allS]
  simp
theorem roundP_map (x y : List S26) : (roundP x y).map sG = rnd (x.map sG) (y.map sG) := map_sG_gS _
theorem roundP_len (x y : List S26) : (roundP x y).length = x.length := by simp [roundP, rnd]
theorem rnd_comm {a b : List G} (h : a.length = b.length) : rnd a b = rnd b a := by
  unfold rnd
  rw [← h]
  refine List.map_congr_left fun i hi => ?_
  rw [conv_comm _ _ (List.mem_range.1 hi)]
theorem conv_one {n i : Nat} (x e : Nat → G) (hi : i < n) (h0 : e 0 = G.one) (h1 : ∀ j, j < n → j ≠ 0 → e j = G.zero) : conv x e n i = x i := by
  unfold conv
  rw [sm_at hi fun j hj hne => ?_]
  · rw [show i + (n - i) = n by omega, Nat.mod_self, h0, G.mul_one]
  · rw [h1 _ (Nat.mod_lt _ (by omega)) ?_, G.mul_zero]
    rcases Nat.lt_or_ge (i + (n - j)) n with h3 | h3
    · rw [Nat.mod_eq_of_lt h3]; omega
    · rw [Nat.mod_eq_sub_mod h3, Nat.mod_eq_of_lt (show i + (n - j) - n < n by omega)]; omega
theorem rnd_one (x : List S26) (n : Nat) : rnd ((rightP x n).map sG) ((rightP [⟨1, 0⟩] n).map sG) = (rightP x n).map sG := by
  unfold rnd
  rw [List.length_map, rightP_len]
  refine Eq.trans (List.map_congr_left fun i hi => ?_) (rightP_map x n).symm
  rw [List.mem_range] at hi
  rw [conv_one _ _ hi, rightP_at _ hi, red_red]
  · rw [rightP_at _ (by omega)]; rfl
  · intro j hj hne
    rw [rightP_at _ hj]
    obtain ⟨j, rfl⟩ : ∃ m, j = m + 1 := ⟨j - 1, by omega⟩
    rfl

/-! ### Growing to a length -/
theorem pow_wrap {i : Nat} (h : 2 ^ i < 32) : wrap64 (2 * ((2 ^ i : Nat) : Int)) = ((2 ^ (i + 1) : Nat) : Int) := by
  rw [Nat.pow_succ]
  generalize 2 ^ i = q at h
  exact (w64 (by omega) (by omega)).trans (by omega)
theorem rightN_at {a : Int} {i : Nat} (h : min (Go.bits .and .i64 a 7).toNat 5 = i) : rightN a = 2 ^ i := by unfold rightN; rw [h]
theorem turnP_map (l : List S26) : (turnP l).map sG = trn (l.map sG) (rootW l.length) := map_sG_gS _
theorem backP_map (l : List S26) : (backP l).map sG = bck (l.map sG) := map_sG_gS _
theorem backP_len (l : List S26) : (backP l).length = l.length := by simp [backP, bck]
theorem rd_sG (l : List S26) (i : Nat) : sG (rd_T26 l (i : Int)) = atG (l.map sG) i := getD_map_sG l i
theorem turnP_at {l : List S26} {i : Nat} (h : i < l.length) : sG (rd_T26 (turnP l) (i : Int)) = red (dft (atG (l.map sG)) l.length (rootW l.length) i) := by
  rw [rd_sG, turnP_map, atG_trn (by rw [List.length_map]; exact h), List.length_map]
theorem roundP_at {x y : List S26} {i : Nat} (h : i < x.length) : sG (rd_T26 (roundP x y) (i : Int)) = red (conv (atG (x.map sG)) (atG (y.map sG)) x.length i) := by
  rw [rd_sG, roundP_map]
  unfold rnd
  rw [List.length_map, atG_map _ h]
theorem backP_at {l : List S26} {i : Nat} (h : i < l.length) : sG (rd_T26 (backP l) (i : Int)) = red (bft (atG (l.map sG)) l.length (rootW l.length) (rootU l.length) i) := by
  rw [rd_sG, backP_map]
  unfold bck
  rw [List.length_map, atG_map _ h]
theorem map_ext {l m : List S26} (hl : l.length = m.length) (h : ∀ i, i < l.length → atG (l.map sG) i = atG (m.map sG) i) : l.map sG = m.map sG := by
  apply List.ext_getElem (by simpa using hl)
  intro i h1 h2
  have k1 : i < l.length := by simpa using h1
  have k2 : i < m.length := by simpa using h2
  have := h i k1
  simpa [atG, List.getD_eq_getElem?_getD, k1, k2] using this
theorem turn_okR {l : List S26} (h : rowE l = 0) : turn_ok.f l = some (turnP l) := by unfold turn_ok.f; rw [if_pos h]
theorem root_okN {n : Nat} (h : isLen n) : root_ok.f (n : Int) = some ((rootW n).re, (rootW n).im) := by
  unfold root_ok.f
  rw [if_pos ⟨by omega, by rw [Int.toNat_natCast]; exact lenB_iff.2 h⟩, Int.toNat_natCast]
theorem power_okN {g : G} (h : IsS g) {n : Nat} (hn : n ≤ 1000000000) : power_ok.f g.re g.im (n : Int) = some ((red (G.pow g n)).re, (red (G.pow g n)).im) := by
  unfold power_ok.f
  rw [if_pos ⟨isSB_iff.2 h, by omega, by omega⟩, Int.toNat_natCast]
theorem times_okN {g u : G} (h : IsS g) (hu : IsS u) : times_ok.f g.re g.im u.re u.im = some ((red (G.mul g u)).re, (red (G.mul g u)).im) := by
  unfold times_ok.f
  rw [if_pos ⟨isSB_iff.2 h, isSB_iff.2 hu⟩]
end Go.Proofs.YtkilnknndglmnaaP
end

section
/- Rows of seals and of records as arguments: what they read as. -/
namespace Go.Proofs.YtkilnknndglmnaaP
open Go.Joins Go.ChangeShapes Go.WideShapes Go.RowKit Go.Deep Go.Proofs.YtkilnknndglmnaaW.PrintWords

theorem laidOut : laidOutB Try.prog = true := by kernel_rfl
theorem cells3 : Try.prog.cellsOf 3 = 1 := by kernel_rfl
theorem cells9 : Try.prog.cellsOf 9 = 1 := by kernel_rfl
theorem cells26 : Try.prog.cellsOf 26 = 2 := by kernel_rfl
theorem cells49 : Try.prog.cellsOf 49 = 4 := by kernel_rfl

section
variable {H : Type} {enc : TypeId × Value → H} {W : World}
theorem seal_cells {fuel : Nat} {cs : List Value} {y : DataW H × List MemPlace} (h : DataW.trod enc Try.prog W 0 (fun _ => true) true fuel 26 cs = some y) (hl : cs.length = 2) :
    ∃ x : S26, cs = [.int .i64 x.f0, .int .i64 x.f1] := by
  match cs, hl with
  | [c0, c1], _ =>
    obtain ⟨xs, n, _, hx, _, hlen, hg⟩ := DataW.trod_struct Try.underlying26 h
    match xs, hlen with
    | [y0, y1], _ =>
      have g0 := hg 0 _ rfl
      have g1 := hg 1 _ rfl
      simp [cells3] at g0 g1
      obtain ⟨n0, e0, f0, w0⟩ := DataW.trod_int Try.underlying3 g0
      obtain ⟨n1, e1, f1, w1⟩ := DataW.trod_int Try.underlying3 g1
      simp at e0 e1
      exact ⟨⟨n0, n1⟩, by rw [e0, e1]⟩
theorem rec_cells {fuel : Nat} {cs : List Value} {y : DataW H × List MemPlace} (h : DataW.trod enc Try.prog W 0 (fun _ => true) true fuel 49 cs = some y) (hl : cs.length = 4) :
    ∃ x : S49, cs = [.int .i64 x.f0, .string x.f1, .int .i64 x.f2, .int .i64 x.f3] := by
  match cs, hl with
  | [c0, c1, c2, c3], _ =>
    obtain ⟨xs, n, _, hx, _, hlen, hg⟩ := DataW.trod_struct Try.underlying49 h
    match xs, hlen with
    | [y0, y1, y2, y3], _ =>
      have g0 := hg 0 _ rfl
      have g1 := hg 1 _ rfl
      have g2 := hg 2 _ rfl
      have g3 := hg 3 _ rfl
      simp [cells3, cells9] at g0 g1 g2 g3
      obtain ⟨n0, e0, f0, w0⟩ := DataW.trod_int Try.underlying3 g0
      obtain ⟨n1, e1, f1, w1⟩ := DataW.trod_string Try.underlying9 g1
      obtain ⟨n2, e2, f2, w2⟩ := DataW.trod_int Try.underlying3 g2
      obtain ⟨n3, e3, f3, w3⟩ := DataW.trod_int Try.underlying3 g3
      simp at e0 e1 e2 e3
      exact ⟨⟨n0, n1, n2, n3⟩, by rw [e0, e1, e2, e3]⟩

/-- A slice of elements of several cells each, as the row that it reads as. -/
theorem open_row {α : Type} (d : Kd α) (t e C : Nat) (z : α) (shape : α → List Value) (hsh : ∀ x, d.K W x (shape x)) (hC : Try.prog.cellsOf e = C) (hsz : d.sz = C) (hshl : ∀ x, (shape x).length = C)
    (hone : ∀ {fuel : Nat} {cs : List Value} {y : DataW H × List MemPlace}, DataW.trod enc Try.prog W 0 (fun _ => true) true fuel e cs = some y → cs.length = C → ∃ x : α, cs = shape x)
    (ht : Try.prog.underlying t = some (.slice e)) {r : Reach} {b0 : Nat} {v : Value} {dw : DataW H} {ps : List MemPlace} (hv : Value.okWide Try.prog W r b0 t v) (h : DataW.Trod enc Try.prog W 0 (fun _ => true) true t v dw ps) :
    ∃ (l : List α) (A : Option Addr) (c : Nat), v = .slice A l.length c ∧ d.C W A l.length l ∧ l.length ≤ c := by
  obtain ⟨a0, len0, cap0, rfl⟩ := okWide_slice ht hv
  obtain ⟨fuel, hf⟩ := h
  have hf' : DataW.trod enc Try.prog W 0 (fun _ => true) true fuel t [.slice a0 len0 cap0] = some (dw, ps) := by simpa [Value.cells] using hf
  rcases open_slice ht hf' with ⟨hcs, _⟩ | ⟨a, len, cap, m, n, D, Pl, hcs, _, hl, hm, hmm, _, hi⟩
  · simp at hcs
    obtain ⟨rfl, rfl, rfl⟩ := hcs
    exact ⟨[], none, 0, rfl, ⟨rfl, by simp, fun h0 => absurd h0 (by simp)⟩, Nat.le_refl _⟩
  · simp at hcs
    obtain ⟨rfl, rfl, rfl⟩ := hcs
    rw [if_pos rfl] at hmm
    subst hmm
    unfold maxLen at hm
    have hex : ∀ i, ∃ x : α, i < m → ∀ j u, (shape x)[j]? = some u → W.cell? (a.add (i * C + j)) = some u := fun i => by
      by_cases hic : i < m
      · obtain ⟨cs', hc', ht'⟩ := hi i hic
        rw [hC] at hc'
        obtain ⟨_, hcl, hat⟩ := World.cells?_some hc'
        obtain ⟨x, rfl⟩ := hone ht' hcl
        refine ⟨x, fun _ j u hu => ?_⟩
        have hj : j < C := by
          have := (List.getElem?_eq_some_iff.1 hu).1
          rw [hshl] at this
          exact this
        have := hat j hj
        rw [← Go.Deep.add_add, this, hu]
      · exact ⟨z, fun h0 => absurd h0 hic⟩
    let f : Nat → α := fun i => Classical.choose (hex i)
    have hf : ∀ i, i < m → ∀ j u, (shape (f i))[j]? = some u → W.cell? (a.add (i * C + j)) = some u := fun i => Classical.choose_spec (hex i)
    have hll : ((List.range len0).map f).length = len0 := by simp
    refine ⟨(List.range len0).map f, some a, m, by rw [hll], ?_, by omega⟩
    rw [hll]
    refine ⟨hll, by omega, fun _ => ⟨a, rfl, fun j p hj => ⟨shape p, by rw [hshl, hsz], hsh p, fun i u hu => ?_⟩⟩⟩
    have hjl : j < len0 := by
      have := (List.getElem?_eq_some_iff.1 hj).1
      rw [hll] at this
      exact this
    have hp : p = f j := by simpa [hjl] using hj.symm
    subst hp
    rw [hsz]
    exact hf j (by omega) i u hu
theorem open_seals {r : Reach} {b0 : Nat} {v : Value} {dw : DataW H} {ps : List MemPlace} (hv : Value.okWide Try.prog W r b0 22 v) (h : DataW.Trod enc Try.prog W 0 (fun _ => true) true 22 v dw ps) :
    ∃ (l : List S26) (A : Option Addr) (c : Nat), v = .slice A l.length c ∧ Kd.C k26 W A l.length l ∧ l.length ≤ c :=
  open_row k26 22 26 2 z26 (fun x => [.int .i64 x.f0, .int .i64 x.f1]) (fun x => k26_mk W x) cells26 rfl (fun _ => rfl) (fun ht hl => seal_cells ht hl) Try.underlying22 hv h
theorem open_recs {r : Reach} {b0 : Nat} {v : Value} {dw : DataW H} {ps : List MemPlace} (hv : Value.okWide Try.prog W r b0 39 v) (h : DataW.Trod enc Try.prog W 0 (fun _ => true) true 39 v dw ps) :
    ∃ (l : List S49) (A : Option Addr) (c : Nat), v = .slice A l.length c ∧ Kd.C k49 W A l.length l ∧ l.length ≤ c :=
  open_row k49 39 49 4 z49 (fun x => [.int .i64 x.f0, .string x.f1, .int .i64 x.f2, .int .i64 x.f3]) (fun x => k49_mk W x) cells49 rfl (fun _ => rfl) (fun ht hl => rec_cells ht hl) Try.underlying39 hv h
end
#print axioms open_recs
end Go.Proofs.YtkilnknndglmnaaP
end
