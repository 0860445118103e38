/- The law Counts, part 1. -/
import Derived.SizedLaws
import Derived.Test.YtkilnknndglmnaaKX

section
-- Laid by given.py, a program of this seat, with the kit's printer.
namespace Go.Proofs.YtkilnknndglmnaaP
open Go.Proofs.Ytkilnknndglmnaa (G fl IsS isSB okC okF okC_iff encC kcx at_cx md red run_cmul run_cadd run_csub run_fint lit_one lit_zero tdiv_32 run_store_cx)
attribute [local go_sem] run_cmul run_cadd run_csub run_fint lit_one lit_zero tdiv_32 run_store_cx
open Go.RowKit Go.Proofs.YtkilnknndglmnaaW.PrintWords Go.Proofs.YtkilnknndglmnaaW.PrintLast Go.Proofs.YtkilnknndglmnaaW.PrintMore
attribute [local go_sem] max2_int min2_int max_two min_two max_three min_three max_four min_four   -- for this text's walks alone
set_option linter.unusedVariables false
set_option linter.unusedSimpArgs false

/-! ### reeveref21_turns: function 41 -/
def reeveref21_turns.f (a0 : Int) : Option (Bool) := if a0 = 1 then (some true) else (if a0 = 2 then (some true) else (if a0 = 4 then (some true) else (if a0 = 8 then (some true) else (if a0 = 16 then (some true) else (some (a0 == 32))))))
set_option maxHeartbeats 8000000 in
set_option maxRecDepth 100000 in
theorem reeveref21_turns.calls (a0 : Int) (r : Bool) (w : World) (h : reeveref21_turns.f a0 = some r) :
  Calls Try.prog 41 #[.int .i64 a0] w fun e w' => e = .returned (.bool r) ∧ Drawn0 w w' := by
 have H : (if a0 = 1 then (some true) else (if a0 = 2 then (some true) else (if a0 = 4 then (some true) else (if a0 = 8 then (some true) else (if a0 = 16 then (some true) else (some (a0 == 32))))))) = some r := h
 clear h
 by_cases c2 : a0 = 1
 ·rw [if_pos c2] at H
  have c2b0 : (a0 == 1) = true := beq_iff_eq.mpr c2
  have c2b1 : (a0 != 1) = false := bne_eq_false_iff_eq.mpr c2
  clear c2
  obtain rfl := Option.some.inj H
  go_enter Try.func41, Try.ntmps41
  go_wp2
  go_ret
  exact ⟨by first | rfl | (simp; done) | (simp [*]; done), by repeat (first | exact Drawn0.refl _ | apply Drawn0.step)⟩
 ·rw [if_neg c2] at H
  have c2b0 : (a0 == 1) = false := beq_eq_false_iff_ne.mpr c2
  have c2b1 : (a0 != 1) = true := bne_iff_ne.mpr c2
  by_cases c3 : a0 = 2
  ·rw [if_pos c3] at H
   have c3b0 : (a0 == 2) = true := beq_iff_eq.mpr c3
   have c3b1 : (a0 != 2) = false := bne_eq_false_iff_eq.mpr c3
   clear c3
   obtain rfl := Option.some.inj H
   go_enter Try.func41, Try.ntmps41
   go_wp2
   go_ret
   exact ⟨by first | rfl | (simp; done) | (simp [*]; done), by repeat (first | exact Drawn0.refl _ | apply Drawn0.step)⟩
  ·rw [if_neg c3] at H
   have c3b0 : (a0 == 2) = false := beq_eq_false_iff_ne.mpr c3
   have c3b1 : (a0 != 2) = true := bne_iff_ne.mpr c3
   by_cases c4 : a0 = 4
   ·rw [if_pos c4] at H
    have c4b0 : (a0 == 4) = true := beq_iff_eq.mpr c4
    have c4b1 : (a0 != 4) = false := bne_eq_false_iff_eq.mpr c4
    clear c4
    obtain rfl := Option.some.inj H
    go_enter Try.func41, Try.ntmps41
    go_wp2
    go_ret
    exact ⟨by first | rfl | (simp; done) | (simp [*]; done), by repeat (first | exact Drawn0.refl _ | apply Drawn0.step)⟩
   ·rw [if_neg c4] at H
    have c4b0 : (a0 == 4) = false := beq_eq_false_iff_ne.mpr c4
    have c4b1 : (a0 != 4) = true := bne_iff_ne.mpr c4
    by_cases c5 : a0 = 8
    ·rw [if_pos c5] at H
     have c5b0 : (a0 == 8) = true := beq_iff_eq.mpr c5
     have c5b1 : (a0 != 8) = false := bne_eq_false_iff_eq.mpr c5
     clear c5
     obtain rfl := Option.some.inj H
     go_enter Try.func41, Try.ntmps41
     go_wp2
     go_ret
     exact ⟨by first | rfl | (simp; done) | (simp [*]; done), by repeat (first | exact Drawn0.refl _ | apply Drawn0.step)⟩
    ·rw [if_neg c5] at H
     have c5b0 : (a0 == 8) = false := beq_eq_false_iff_ne.mpr c5
     have c5b1 : (a0 != 8) = true := bne_iff_ne.mpr c5
     by_cases c6 : a0 = 16
     ·rw [if_pos c6] at H
      have c6b0 : (a0 == 16) = true := beq_iff_eq.mpr c6
      have c6b1 : (a0 != 16) = false := bne_eq_false_iff_eq.mpr c6
      clear c6
      obtain rfl := Option.some.inj H
      go_enter Try.func41, Try.ntmps41
      go_wp2
      go_ret
      exact ⟨by first | rfl | (simp; done) | (simp [*]; done), by repeat (first | exact Drawn0.refl _ | apply Drawn0.step)⟩
     ·rw [if_neg c6] at H
      have c6b0 : (a0 == 16) = false := beq_eq_false_iff_ne.mpr c6
      have c6b1 : (a0 != 16) = true := bne_iff_ne.mpr c6
      obtain rfl := Option.some.inj H
      go_enter Try.func41, Try.ntmps41
      go_wp2
      go_ret
      exact ⟨by first | rfl | (simp; done) | (simp [*]; done), by repeat (first | exact Drawn0.refl _ | apply Drawn0.step)⟩

/-! ### reeveref02_rest: function 53 -/
def reeveref02_rest.f (a0 : Int) : Option (Int) := if (Int.tmod a0 16777199) < 0 then (some (wrap64 ((Int.tmod a0 16777199) + 16777199))) else (some (Int.tmod a0 16777199))
set_option maxHeartbeats 8000000 in
set_option maxRecDepth 100000 in
theorem reeveref02_rest.calls (a0 : Int) (r : Int) (w : World) (h : reeveref02_rest.f a0 = some r) :
  Calls Try.prog 53 #[.int .i64 a0] w fun e w' => e = .returned (.int .i64 r) ∧ Drawn0 w w' := by
 have H : (if (Int.tmod a0 16777199) < 0 then (some (wrap64 ((Int.tmod a0 16777199) + 16777199))) else (some (Int.tmod a0 16777199))) = some r := h
 clear h
 by_cases c2 : (Int.tmod a0 16777199) < 0
 ·rw [if_pos c2] at H
  have c2b0 : decide ((Int.tmod a0 16777199) < 0) = true := decide_eq_true c2
  clear c2
  obtain rfl := Option.some.inj H
  go_enter Try.func53, Try.ntmps53
  go_wp2
  go_ret
  exact ⟨by first | rfl | (simp; done) | (simp [*]; done), by repeat (first | exact Drawn0.refl _ | apply Drawn0.step)⟩
 ·rw [if_neg c2] at H
  have c2b0 : decide ((Int.tmod a0 16777199) < 0) = false := decide_eq_false c2
  clear c2
  obtain rfl := Option.some.inj H
  go_enter Try.func53, Try.ntmps53
  go_wp2
  go_ret
  exact ⟨by first | rfl | (simp; done) | (simp [*]; done), by repeat (first | exact Drawn0.refl _ | apply Drawn0.step)⟩

end Go.Proofs.YtkilnknndglmnaaP
end

section
/- Lengths that can be turned, as the reference tells them. -/
namespace Go.Proofs.YtkilnknndglmnaaP
open Go.RowKit Go.Proofs.Ytkilnknndglmnaa Go.Proofs.YtkilnknndglmnaaW.PrintWords

theorem ref_turns (n : Int) : reeveref21_turns.f n = some (lenI n) := by
  unfold reeveref21_turns.f
  have e : lenI n = (n == 1 || n == 2 || n == 4 || n == 8 || n == 16 || n == 32) := by
    rw [Bool.eq_iff_iff]
    unfold lenI
    rw [Bool.and_eq_true, decide_eq_true_iff, lenB_iff]
    unfold isLen
    simp only [Bool.or_eq_true, beq_iff_eq]
    omega
  rw [e]
  by_cases h1 : n = 1
  · subst h1; rfl
  by_cases h2 : n = 2
  · subst h2; rfl
  by_cases h4 : n = 4
  · subst h4; rfl
  by_cases h8 : n = 8
  · subst h8; rfl
  by_cases h16 : n = 16
  · subst h16; rfl
  rw [if_neg h1, if_neg h2, if_neg h4, if_neg h8, if_neg h16]
  simp [h1, h2, h4, h8, h16]
theorem lenI_nat (n : Nat) : lenI (n : Int) = lenB n := by simp [lenI]
end Go.Proofs.YtkilnknndglmnaaP
end

section
-- Laid by given.py, a program of this seat, with the kit's printer.
namespace Go.Proofs.YtkilnknndglmnaaP
open Go.Proofs.Ytkilnknndglmnaa (G fl IsS isSB okC okF okC_iff encC kcx at_cx md red run_cmul run_cadd run_csub run_fint lit_one lit_zero tdiv_32 run_store_cx)
attribute [local go_sem] run_cmul run_cadd run_csub run_fint lit_one lit_zero tdiv_32 run_store_cx
open Go.RowKit Go.Proofs.YtkilnknndglmnaaW.PrintWords Go.Proofs.YtkilnknndglmnaaW.PrintLast Go.Proofs.YtkilnknndglmnaaW.PrintMore
attribute [local go_sem] max2_int min2_int max_two min_two max_three min_three max_four min_four   -- for this text's walks alone
set_option linter.unusedVariables false
set_option linter.unusedSimpArgs false

/-! ### reeveref21_Beats: function 25 -/
mutual
def reeveref21_Beats.j0 : Nat → List (S49) → Int → Int → Int → Bool → Option (List Int × List Int × Int)
 | 0, _, _, _, _, _ => none
 | k + 1, x0, x1, x2, x3, x34 => if x34 = true then (some (([] : List Int), ([] : List Int), 1)) else ((reeveref21_turns.f x3).bind fun t517 => (if t517 = true then (reeveref21_Beats.l0 k x0 x1 x2 x3 0) else (some (([] : List Int), ([] : List Int), 210))))
def reeveref21_Beats.l0 : Nat → List (S49) → Int → Int → Int → Int → Option (List Int × List Int × Int)
 | 0, _, _, _, _, _ => none
 | k + 1, x0, x1, x2, x3, x12 => if x12 < (x0.length : Int) then (if 0 ≤ x12 then (if ((rd_T49 x0 x12).f0) < 0 then (some (([] : List Int), ([] : List Int), 1)) else (if ((rd_T49 x0 x12).f0) > 1099511627776 then (some (([] : List Int), ([] : List Int), 1)) else (reeveref21_Beats.l0 k x0 x1 x2 x3 (wrap64 (x12 + 1))))) else (none)) else (if 0 ≤ x3 then (if (x3 : Int).toNat ≤ 35184372088832 then (reeveref21_Beats.l1 k x0 x1 x2 x3 (List.replicate (x3 : Int).toNat 0) 0) else (none)) else (none))
def reeveref21_Beats.l1 : Nat → List (S49) → Int → Int → Int → List Int → Int → Option (List Int × List Int × Int)
 | 0, _, _, _, _, _, _ => none
 | k + 1, x0, x1, x2, x3, x13, x14 => if x14 < (x0.length : Int) then (if 0 ≤ x14 then (if ((rd_T49 x0 x14).f3) = x1 then (if x2 = 0 then (none) else (if x3 = 0 then (none) else (if 0 ≤ (Int.tmod (wrap64 (Int.tdiv ((rd_T49 x0 x14).f0) x2)) x3) then (if (Int.tmod (wrap64 (Int.tdiv ((rd_T49 x0 x14).f0) x2)) x3) < (x13.length : Int) then (reeveref21_Beats.l1 k x0 x1 x2 x3 (x13.set ((Int.tmod (wrap64 (Int.tdiv ((rd_T49 x0 x14).f0) x2)) x3) : Int).toNat (wrap64 ((rd x13 (Int.tmod (wrap64 (Int.tdiv ((rd_T49 x0 x14).f0) x2)) x3)) + 1))) (wrap64 (x14 + 1))) else (none)) else (none)))) else (reeveref21_Beats.l1 k x0 x1 x2 x3 x13 (wrap64 (x14 + 1)))) else (none)) else (if 0 ≤ x3 then (if (x3 : Int).toNat ≤ 35184372088832 then (reeveref21_Beats.l2 k x3 x13 (List.replicate (x3 : Int).toNat 0) 0) else (none)) else (none))
def reeveref21_Beats.l2 : Nat → Int → List Int → List Int → Int → Option (List Int × List Int × Int)
 | 0, _, _, _, _ => none
 | k + 1, x3, x13, x15, x16 => if x16 < x3 then (reeveref21_Beats.l3 k x3 x13 x15 x16 0) else (some (x13, x15, 0))
def reeveref21_Beats.l3 : Nat → Int → List Int → List Int → Int → Int → Option (List Int × List Int × Int)
 | 0, _, _, _, _, _ => none
 | k + 1, x3, x13, x15, x16, x17 => if x17 < x3 then (if 0 ≤ x16 then (if x16 < (x15.length : Int) then (if 0 ≤ x17 then (if x17 < (x13.length : Int) then (if x3 = 0 then (none) else (if 0 ≤ (Int.tmod (wrap64 (x17 + x16)) x3) then (if (Int.tmod (wrap64 (x17 + x16)) x3) < (x13.length : Int) then (reeveref21_Beats.l3 k x3 x13 (x15.set (x16 : Int).toNat (wrap64 ((rd x15 x16) + (wrap64 ((rd x13 x17) * (rd x13 (Int.tmod (wrap64 (x17 + x16)) x3))))))) x16 (wrap64 (x17 + 1))) else (none)) else (none))) else (none)) else (none)) else (none)) else (none)) else (reeveref21_Beats.l2 k x3 x13 x15 (wrap64 (x16 + 1)))
end
def reeveref21_Beats.f (k : Nat) (l0 : List (S49)) (a1 : Int) (a2 : Int) (a3 : Int) : Option (List Int × List Int × Int) := if (l0.length : Int) > 4000 then (some (([] : List Int), ([] : List Int), 2)) else (if a1 < 0 then (reeveref21_Beats.j0 k l0 a1 a2 a3 true) else (if a1 > 2 then (reeveref21_Beats.j0 k l0 a1 a2 a3 true) else (if a2 < 1 then (reeveref21_Beats.j0 k l0 a1 a2 a3 true) else (reeveref21_Beats.j0 k l0 a1 a2 a3 (decide (a2 > 1048576))))))
theorem reeveref21_Beats.mono_l : ∀ k, (∀ y0 y1 y2 y3 y4, LeO (reeveref21_Beats.j0 k y0 y1 y2 y3 y4) (reeveref21_Beats.j0 (k + 1) y0 y1 y2 y3 y4)) ∧ (∀ y0 y1 y2 y3 y4, LeO (reeveref21_Beats.l0 k y0 y1 y2 y3 y4) (reeveref21_Beats.l0 (k + 1) y0 y1 y2 y3 y4)) ∧ (∀ y0 y1 y2 y3 y4 y5, LeO (reeveref21_Beats.l1 k y0 y1 y2 y3 y4 y5) (reeveref21_Beats.l1 (k + 1) y0 y1 y2 y3 y4 y5)) ∧ (∀ y0 y1 y2 y3, LeO (reeveref21_Beats.l2 k y0 y1 y2 y3) (reeveref21_Beats.l2 (k + 1) y0 y1 y2 y3)) ∧ (∀ y0 y1 y2 y3 y4, LeO (reeveref21_Beats.l3 k y0 y1 y2 y3 y4) (reeveref21_Beats.l3 (k + 1) y0 y1 y2 y3 y4))
 | 0 => ⟨fun _ _ _ _ _ r h => by simp [reeveref21_Beats.j0] at h, fun _ _ _ _ _ r h => by simp [reeveref21_Beats.l0] at h, fun _ _ _ _ _ _ r h => by simp [reeveref21_Beats.l1] at h, fun _ _ _ _ r h => by simp [reeveref21_Beats.l2] at h, fun _ _ _ _ _ r h => by simp [reeveref21_Beats.l3] at h⟩
 | k + 1 => by
  obtain ⟨ih0, ih1, ih2, ih3, ih4⟩ := reeveref21_Beats.mono_l k
  refine ⟨?_, ?_, ?_, ?_, ?_⟩
  ·intro y0 y1 y2 y3 y4
   unfold reeveref21_Beats.j0
   repeat' first
   | (with_reducible exact ih0 _ _ _ _ _)
   | (with_reducible exact ih1 _ _ _ _ _)
   | (with_reducible exact ih2 _ _ _ _ _ _)
   | (with_reducible exact ih3 _ _ _ _)
   | (with_reducible exact ih4 _ _ _ _ _)
   | (with_reducible exact LeO.refl _)
   | (with_reducible exact LeO.none _)
   | (with_reducible refine LeO.ite ?_ ?_)
   | (with_reducible refine LeO.bind ?_ (fun _ => ?_))
   | exact ih0 _ _ _ _ _
   | exact ih1 _ _ _ _ _
   | exact ih2 _ _ _ _ _ _
   | exact ih3 _ _ _ _
   | exact ih4 _ _ _ _ _
   | exact LeO.none _
   | refine LeO.ite ?_ ?_
   | refine LeO.bind ?_ (fun _ => ?_)
  ·intro y0 y1 y2 y3 y4
   unfold reeveref21_Beats.l0
   repeat' first
   | (with_reducible exact ih0 _ _ _ _ _)
   | (with_reducible exact ih1 _ _ _ _ _)
   | (with_reducible exact ih2 _ _ _ _ _ _)
   | (with_reducible exact ih3 _ _ _ _)
   | (with_reducible exact ih4 _ _ _ _ _)
   | (with_reducible exact LeO.refl _)
   | (with_reducible exact LeO.none _)
   | (with_reducible refine LeO.ite ?_ ?_)
   | (with_reducible refine LeO.bind ?_ (fun _ => ?_))
   | exact ih0 _ _ _ _ _
   | exact ih1 _ _ _ _ _
   | exact ih2 _ _ _ _ _ _
   | exact ih3 _ _ _ _
   | exact ih4 _ _ _ _ _
   | exact LeO.none _
   | refine LeO.ite ?_ ?_
   | refine LeO.bind ?_ (fun _ => ?_)
  ·intro y0 y1 y2 y3 y4 y5
   unfold reeveref21_Beats.l1
   repeat' first
   | (with_reducible exact ih0 _ _ _ _ _)
   | (with_reducible exact ih1 _ _ _ _ _)
   | (with_reducible exact ih2 _ _ _ _ _ _)
   | (with_reducible exact ih3 _ _ _ _)
   | (with_reducible exact ih4 _ _ _ _ _)
   | (with_reducible exact LeO.refl _)
   | (with_reducible exact LeO.none _)
   | (with_reducible refine LeO.ite ?_ ?_)
   | (with_reducible refine LeO.bind ?_ (fun _ => ?_))
   | exact ih0 _ _ _ _ _
   | exact ih1 _ _ _ _ _
   | exact ih2 _ _ _ _ _ _
   | exact ih3 _ _ _ _
   | exact ih4 _ _ _ _ _
   | exact LeO.none _
   | refine LeO.ite ?_ ?_
   | refine LeO.bind ?_ (fun _ => ?_)
  ·intro y0 y1 y2 y3
   unfold reeveref21_Beats.l2
   repeat' first
   | (with_reducible exact ih0 _ _ _ _ _)
   | (with_reducible exact ih1 _ _ _ _ _)
   | (with_reducible exact ih2 _ _ _ _ _ _)
   | (with_reducible exact ih3 _ _ _ _)
   | (with_reducible exact ih4 _ _ _ _ _)
   | (with_reducible exact LeO.refl _)
   | (with_reducible exact LeO.none _)
   | (with_reducible refine LeO.ite ?_ ?_)
   | (with_reducible refine LeO.bind ?_ (fun _ => ?_))
   | exact ih0 _ _ _ _ _
   | exact ih1 _ _ _ _ _
   | exact ih2 _ _ _ _ _ _
   | exact ih3 _ _ _ _
   | exact ih4 _ _ _ _ _
   | exact LeO.none _
   | refine LeO.ite ?_ ?_
   | refine LeO.bind ?_ (fun _ => ?_)
  ·intro y0 y1 y2 y3 y4
   unfold reeveref21_Beats.l3
   repeat' first
   | (with_reducible exact ih0 _ _ _ _ _)
   | (with_reducible exact ih1 _ _ _ _ _)
   | (with_reducible exact ih2 _ _ _ _ _ _)
   | (with_reducible exact ih3 _ _ _ _)
   | (with_reducible exact ih4 _ _ _ _ _)
   | (with_reducible exact LeO.refl _)
   | (with_reducible exact LeO.none _)
   | (with_reducible refine LeO.ite ?_ ?_)
   | (with_reducible refine LeO.bind ?_ (fun _ => ?_))
   | exact ih0 _ _ _ _ _
   | exact ih1 _ _ _ _ _
   | exact ih2 _ _ _ _ _ _
   | exact ih3 _ _ _ _
   | exact ih4 _ _ _ _ _
   | exact LeO.none _
   | refine LeO.ite ?_ ?_
   | refine LeO.bind ?_ (fun _ => ?_)
theorem reeveref21_Beats.mono : ∀ a0 a1 a2 a3 k, LeO (reeveref21_Beats.f k a0 a1 a2 a3) (reeveref21_Beats.f (k + 1) a0 a1 a2 a3) := by
 intro a0 a1 a2 a3 k
 obtain ⟨ih0, ih1, ih2, ih3, ih4⟩ := reeveref21_Beats.mono_l k
 unfold reeveref21_Beats.f
 repeat' first
   | (with_reducible exact ih0 _ _ _ _ _)
   | (with_reducible exact ih1 _ _ _ _ _)
   | (with_reducible exact ih2 _ _ _ _ _ _)
   | (with_reducible exact ih3 _ _ _ _)
   | (with_reducible exact ih4 _ _ _ _ _)
   | (with_reducible exact LeO.refl _)
   | (with_reducible exact LeO.none _)
   | (with_reducible refine LeO.ite ?_ ?_)
   | (with_reducible refine LeO.bind ?_ (fun _ => ?_))
   | exact ih0 _ _ _ _ _
   | exact ih1 _ _ _ _ _
   | exact ih2 _ _ _ _ _ _
   | exact ih3 _ _ _ _
   | exact ih4 _ _ _ _ _
   | exact LeO.none _
   | refine LeO.ite ?_ ?_
   | refine LeO.bind ?_ (fun _ => ?_)
def reeveref21_Beats.T26 : Bool × List (List Nat × List Nat) := (true, [([], []), ([], []), ([], []), ([], []), ([2, 3], [2, 3]), ([4], [4]), ([], []), ([], []), ([6, 7], [6, 7]), ([8], [8]), ([], []), ([], []), ([], []), ([11, 12], [11, 12]), ([], []), ([13, 14], [13, 14]), ([10, 15], [10, 15]), ([16], [16]), ([9, 17], [9, 17]), ([5, 18], [5, 18]), ([0, 1, 0, 1, 2, 3, 4, 5, 6, 7, 8, 9, 10, 11, 12, 13, 14, 15, 16, 17, 18, 19], [0, 1]), ([20, 19, 0, 1, 2, 3, 4, 5, 6, 7, 8, 9, 10, 11, 12, 13, 14, 15, 16, 17, 18, 19], [19, 20])])
def reeveref21_Beats.B26 : List Nat := [0, 0, 0, 0, 12, 28, 0, 0, 192, 448, 0, 0, 0, 6144, 0, 30720, 64512, 130048, 262080, 524284, 1048575, 2097151]
theorem reeveref21_Beats.tab26 : rtab .any (opsOf Try.f25 26) = reeveref21_Beats.T26 := by kernel_rfl
theorem reeveref21_Beats.bits26 : waitsOk reeveref21_Beats.T26.2 reeveref21_Beats.B26 = true := by kernel_rfl
set_option maxHeartbeats 8000000 in
set_option maxRecDepth 100000 in
theorem reeveref21_Beats.calls (k : Nat) (A0 : Option Addr) (c0 : Nat) (l0 : List (S49)) (a1 : Int) (a2 : Int) (a3 : Int) (r1 : List Int) (r2 : List Int) (r3 : Int) (w : World) (hr0 : Kd.C k49 w A0 l0.length l0) (hc0 : l0.length ≤ c0) (h : reeveref21_Beats.f k l0 a1 a2 a3 = some (r1, r2, r3)) :
  Calls Try.prog 25 #[.slice A0 l0.length c0, .int .i64 a1, .int .i64 a2, .int .i64 a3] w fun e w' => ∃ v0_ v1_ : Value, e = .returned (.tuple #[v0_, v1_, .int .i64 r3]) ∧ Kd.R (Kd.int .i64) 3 w' w.heap.size (fun k_ => some k_ ≠ (v1_ : Value).ownBlock) v0_ r1 ∧ Kd.R (Kd.int .i64) 3 w' w.heap.size (fun k_ => some k_ ≠ (v0_ : Value).ownBlock) v1_ r2 ∧ Below w.heap.size w w' := by
 have HR0 := Aside0.mk hr0
 have HC0 := Aside0.mk hc0
 clear hr0 hc0
 have HB := Aside0.mk (Below.refl w.heap.size w)
 have H : (if (l0.length : Int) > 4000 then (some (([] : List Int), ([] : List Int), 2)) else (if a1 < 0 then (reeveref21_Beats.j0 k l0 a1 a2 a3 true) else (if a1 > 2 then (reeveref21_Beats.j0 k l0 a1 a2 a3 true) else (if a2 < 1 then (reeveref21_Beats.j0 k l0 a1 a2 a3 true) else (reeveref21_Beats.j0 k l0 a1 a2 a3 (decide (a2 > 1048576))))))) = some (r1, r2, r3) := h
 clear h
 by_cases c5 : (l0.length : Int) > 4000
 ·rw [if_pos c5] at H
  have c5b0 : decide (4000 < (l0.length : Int)) = true := decide_eq_true c5
  have c5b1 : decide (4000 < l0.length) = true := decide_eq_true (by omega)
  clear c5
  simp only [Option.some.injEq, Prod.mk.injEq] at H
  obtain ⟨rfl, rfl, rfl⟩ := H
  go_enter Try.func25, Try.ntmps25
  go_wp2
  go_ret3
  exact ⟨_, _, by first | rfl | (simp [errW_none, errW_some] <;> rfl) | (simp [*, errW_none, errW_some] <;> rfl), by first | exact Kd.R_nil _ _ _ _ _ | exact Kd.N_nil _ _ _ _ _ | exact Kd.V_nil _ _ _ _ _ | exact Kd.Q_nil _ _ _ _ _ | exact Kd.S_nil _ _ _ _ _, by first | exact Kd.R_nil _ _ _ _ _ | exact Kd.N_nil _ _ _ _ _ | exact Kd.V_nil _ _ _ _ _ | exact Kd.Q_nil _ _ _ _ _ | exact Kd.S_nil _ _ _ _ _, by repeat (first | (with_reducible first | exact HB.out | apply below_alloc | apply pw_below_drewN | apply below_drew1) | exact HB.out)⟩
 ·rw [if_neg c5] at H
  have c5b0 : decide (4000 < (l0.length : Int)) = false := decide_eq_false c5
  have c5b1 : decide (4000 < l0.length) = false := decide_eq_false (by omega)
  clear c5
  have HC6 := Aside0.mk H
  clear H
  go_enter Try.func25, Try.ntmps25
  go_upto_region 3 with (fail)
  go_cut [34] (fun v34 wc => ∃ (kq : Nat) (x34_5 : Bool), v34 = .bool x34_5 ∧ Aside0 (reeveref21_Beats.j0 kq l0 a1 a2 a3 x34_5 = some (r1, r2, r3)) ∧ Aside0 (kq ≤ k) ∧ Aside0 (Below w.heap.size w wc))
  case first =>
   have H := HC6.out
   clear HC6
   by_cases c7 : a1 < 0
   ·rw [if_pos c7] at H
    have c7b0 : decide (a1 < 0) = true := decide_eq_true c7
    clear c7
    (first | rw [c7b0] | (simp only [i64_w, i32_w]; rw [c7b0]) | skip)
    have H' := Aside0.mk H
    clear H
    go_wp2
    go_meet
    case rel => exact ⟨_, (true), (by first | rfl | (simp; done) | (simp [*]; done) | (simp [Int.tdiv_eq_ediv_of_nonneg]; done)), H', ⟨by first | omega | exact Nat.le_refl _⟩, ⟨by repeat (first | (with_reducible first | exact HB.out | apply below_alloc | apply pw_below_drewN | apply below_drew1) | exact HB.out)⟩⟩
   ·rw [if_neg c7] at H
    have c7b0 : decide (a1 < 0) = false := decide_eq_false c7
    clear c7
    (first | rw [c7b0] | (simp only [i64_w, i32_w]; rw [c7b0]) | skip)
    by_cases c8 : a1 > 2
    ·rw [if_pos c8] at H
     have c8b0 : decide (2 < a1) = true := decide_eq_true c8
     clear c8
     have H' := Aside0.mk H
     clear H
     go_wp2
     go_meet
     case rel => exact ⟨_, (true), (by first | rfl | (simp; done) | (simp [*]; done) | (simp [Int.tdiv_eq_ediv_of_nonneg]; done)), H', ⟨by first | omega | exact Nat.le_refl _⟩, ⟨by repeat (first | (with_reducible first | exact HB.out | apply below_alloc | apply pw_below_drewN | apply below_drew1) | exact HB.out)⟩⟩
    ·rw [if_neg c8] at H
     have c8b0 : decide (2 < a1) = false := decide_eq_false c8
     clear c8
     by_cases c9 : a2 < 1
     ·rw [if_pos c9] at H
      have c9b0 : decide (a2 < 1) = true := decide_eq_true c9
      clear c9
      have H' := Aside0.mk H
      clear H
      go_wp2
      go_meet
      case rel => exact ⟨_, (true), (by first | rfl | (simp; done) | (simp [*]; done) | (simp [Int.tdiv_eq_ediv_of_nonneg]; done)), H', ⟨by first | omega | exact Nat.le_refl _⟩, ⟨by repeat (first | (with_reducible first | exact HB.out | apply below_alloc | apply pw_below_drewN | apply below_drew1) | exact HB.out)⟩⟩
     ·rw [if_neg c9] at H
      have c9b0 : decide (a2 < 1) = false := decide_eq_false c9
      clear c9
      have H' := Aside0.mk H
      clear H
      go_wp2
      go_meet
      case rel => exact ⟨_, (decide (a2 > 1048576)), (by first | rfl | (simp; done) | (simp [*]; done) | (simp [Int.tdiv_eq_ediv_of_nonneg]; done)), H', ⟨by first | omega | exact Nat.le_refl _⟩, ⟨by repeat (first | (with_reducible first | exact HB.out | apply below_alloc | apply pw_below_drewN | apply below_drew1) | exact HB.out)⟩⟩
  case rest =>
   clear HC6
   try clear c2
   try clear p2
   try clear c5
   try clear c5b0
   try clear c5b1
   try clear c7
   try clear c7b0
   try clear c8
   try clear c8b0
   try clear c9
   try clear c9b0
   obtain ⟨kq, x34_5, rfl, HA, HJ5, HB⟩ := hcut
   cases kq with
   | zero => exact absurd HA.out (by simp [reeveref21_Beats.j0])
   | succ kj5 =>
    have H := HA.out
    clear HA
    simp only [reeveref21_Beats.j0] at H
    by_cases c10 : x34_5 = true
    ·subst c10
     have H1 : (some (([] : List Int), ([] : List Int), 1)) = some (r1, r2, r3) := by rw [if_pos rfl] at H; exact H
     clear H
     have H := H1
     clear H1
     simp only [Option.some.injEq, Prod.mk.injEq] at H
     obtain ⟨rfl, rfl, rfl⟩ := H
     go_wp2
     go_ret3
     exact ⟨_, _, by first | rfl | (simp [errW_none, errW_some] <;> rfl) | (simp [*, errW_none, errW_some] <;> rfl), by first | exact Kd.R_nil _ _ _ _ _ | exact Kd.N_nil _ _ _ _ _ | exact Kd.V_nil _ _ _ _ _ | exact Kd.Q_nil _ _ _ _ _ | exact Kd.S_nil _ _ _ _ _, by first | exact Kd.R_nil _ _ _ _ _ | exact Kd.N_nil _ _ _ _ _ | exact Kd.V_nil _ _ _ _ _ | exact Kd.Q_nil _ _ _ _ _ | exact Kd.S_nil _ _ _ _ _, by repeat (first | (with_reducible first | exact HB.out | apply below_alloc | apply pw_below_drewN | apply below_drew1) | exact HB.out)⟩
    ·replace c10 := Bool.eq_false_iff.mpr c10
     subst c10
     have H1 : ((reeveref21_turns.f a3).bind fun t517 => (if t517 = true then (reeveref21_Beats.l0 kj5 l0 a1 a2 a3 0) else (some (([] : List Int), ([] : List Int), 210)))) = some (r1, r2, r3) := by rw [if_neg (show ¬ (false = true) by decide)] at H; exact H
     clear H
     have H := H1
     clear H1
     replace H := Option.bind_eq_some_iff.mp H
     obtain ⟨t517, A110, H⟩ := H
     replace H : (if t517 = true then (reeveref21_Beats.l0 kj5 l0 a1 a2 a3 0) else (some (([] : List Int), ([] : List Int), 210))) = some (r1, r2, r3) := H
     have A11 := Aside0.mk A110
     clear A110
     by_cases c12 : t517 = true
     ·subst c12
      have H1 : (reeveref21_Beats.l0 kj5 l0 a1 a2 a3 0) = some (r1, r2, r3) := by rw [if_pos rfl] at H; exact H
      clear H
      have H := H1
      clear H1
      have H' := Aside0.mk H
      clear H
      go_wp2_with (first | ((with_reducible refine gate_callee (f := 41) rfl ?_); refine goesL_ (some 36) rfl rfl Try.func41 (by kernel_rfl) rfl #[.int .i64 a3] rfl (by (try simp only [List.map_toArray, List.map_cons, List.map_nil]); first | done | rfl | (simp only [List.length_drop, List.length_take]; rfl)) ?_; (with_reducible refine (reeveref21_turns.calls a3 true _ A11.out).mono ?_); rintro e w' ⟨rfl, ⟨nd, rfl⟩⟩; refine ⟨_, rfl, ?_⟩))
      go_loopg [12] kj5 (fun kq v12 w' => ∃ (x12_2 : Int), v12 = .int .i64 x12_2 ∧ Aside0 (reeveref21_Beats.l0 kq l0 a1 a2 a3 x12_2 = some (r1, r2, r3)) ∧ Aside0 (kq ≤ kj5) ∧ Aside0 (Below w.heap.size w w'))
      case atStart => exact ⟨(0), (by first | rfl | (simp; done) | (simp [*]; done) | (simp [Int.tdiv_eq_ediv_of_nonneg]; done)), H', ⟨Nat.le_refl _⟩, ⟨by repeat (first | (with_reducible first | exact HB.out | apply below_alloc | apply pw_below_drewN | apply below_drew1) | exact HB.out)⟩⟩
      case round =>
       clear H'
       try clear c1
       try clear c2
       try clear p2
       try clear c4
       try clear c5
       try clear c5b0
       try clear c5b1
       try clear c7
       try clear c7b0
       try clear c8
       try clear c8b0
       try clear c9
       try clear c9b0
       try clear c10
       try clear c12
       try clear p2
       obtain ⟨x12_2, rfl, HA, HK2, HB⟩ := hrel
       cases gk with
       | zero => exact absurd HA.out (by simp [reeveref21_Beats.l0])
       | succ k2 =>
        have H := HA.out
        clear HA
        simp only [reeveref21_Beats.l0] at H
        by_cases c13 : x12_2 < (l0.length : Int)
        ·rw [if_pos c13] at H
         have c13b0 : decide (x12_2 < (l0.length : Int)) = true := decide_eq_true c13
         clear c13
         by_cases c14 : 0 ≤ x12_2
         ·rw [if_pos c14] at H
          have c14b0 : decide (0 ≤ x12_2) = true := decide_eq_true c14
          clear c14
          by_cases c15 : ((rd_T49 l0 x12_2).f0) < 0
          ·rw [if_pos c15] at H
           have c15b0 : decide (((rd_T49 l0 x12_2).f0) < 0) = true := decide_eq_true c15
           clear c15
           simp only [Option.some.injEq, Prod.mk.injEq] at H
           obtain ⟨rfl, rfl, rfl⟩ := H
           have p518 : 0 ≤ (x12_2 : Int) := of_decide_eq_true (by first | (with_reducible assumption) | assumption)
           have q518 : x12_2 < (l0.length : Int) := of_decide_eq_true (by first | (with_reducible assumption) | assumption)
           obtain ⟨ad518, e518, hx518_0, hx518_1, hx518_2, hx518_3⟩ := at_T49 HR0.out x12_2 p518 q518
           cases e518
           replace hx518_0 := (HB.out.cell (World.block_lt_of_cell? w _ hx518_0)).trans hx518_0
           replace hx518_1 := (HB.out.cell (World.block_lt_of_cell? w _ hx518_1)).trans hx518_1
           replace hx518_2 := (HB.out.cell (World.block_lt_of_cell? w _ hx518_2)).trans hx518_2
           replace hx518_3 := (HB.out.cell (World.block_lt_of_cell? w _ hx518_3)).trans hx518_3
           replace p518 := eq_true p518
           replace q518 := eq_true q518
           go_wp2
           go_ret3
           exact ⟨_, _, by first | rfl | (simp [errW_none, errW_some] <;> rfl) | (simp [*, errW_none, errW_some] <;> rfl), by first | exact Kd.R_nil _ _ _ _ _ | exact Kd.N_nil _ _ _ _ _ | exact Kd.V_nil _ _ _ _ _ | exact Kd.Q_nil _ _ _ _ _ | exact Kd.S_nil _ _ _ _ _, by first | exact Kd.R_nil _ _ _ _ _ | exact Kd.N_nil _ _ _ _ _ | exact Kd.V_nil _ _ _ _ _ | exact Kd.Q_nil _ _ _ _ _ | exact Kd.S_nil _ _ _ _ _, by repeat (first | (with_reducible first | exact HB.out | apply below_alloc | apply pw_below_drewN | apply below_drew1) | exact HB.out)⟩
          ·rw [if_neg c15] at H
           have c15b0 : decide (((rd_T49 l0 x12_2).f0) < 0) = false := decide_eq_false c15
           clear c15
           by_cases c16 : ((rd_T49 l0 x12_2).f0) > 1099511627776
           ·rw [if_pos c16] at H
            have c16b0 : decide (1099511627776 < ((rd_T49 l0 x12_2).f0)) = true := decide_eq_true c16
            clear c16
            simp only [Option.some.injEq, Prod.mk.injEq] at H
            obtain ⟨rfl, rfl, rfl⟩ := H
            have p518 : 0 ≤ (x12_2 : Int) := of_decide_eq_true (by first | (with_reducible assumption) | assumption)
            have q518 : x12_2 < (l0.length : Int) := of_decide_eq_true (by first | (with_reducible assumption) | assumption)
            obtain ⟨ad518, e518, hx518_0, hx518_1, hx518_2, hx518_3⟩ := at_T49 HR0.out x12_2 p518 q518
            cases e518
            replace hx518_0 := (HB.out.cell (World.block_lt_of_cell? w _ hx518_0)).trans hx518_0
            replace hx518_1 := (HB.out.cell (World.block_lt_of_cell? w _ hx518_1)).trans hx518_1
            replace hx518_2 := (HB.out.cell (World.block_lt_of_cell? w _ hx518_2)).trans hx518_2
            replace hx518_3 := (HB.out.cell (World.block_lt_of_cell? w _ hx518_3)).trans hx518_3
            replace p518 := eq_true p518
            replace q518 := eq_true q518
            have p519 : 0 ≤ (x12_2 : Int) := of_decide_eq_true (by first | (with_reducible assumption) | assumption)
            have q519 : x12_2 < (l0.length : Int) := of_decide_eq_true (by first | (with_reducible assumption) | assumption)
            obtain ⟨ad519, e519, hx519_0, hx519_1, hx519_2, hx519_3⟩ := at_T49 HR0.out x12_2 p519 q519
            obtain rfl : ad518 = ad519 := (by injection e519)
            replace hx519_0 := (HB.out.cell (World.block_lt_of_cell? w _ hx519_0)).trans hx519_0
            replace hx519_1 := (HB.out.cell (World.block_lt_of_cell? w _ hx519_1)).trans hx519_1
            replace hx519_2 := (HB.out.cell (World.block_lt_of_cell? w _ hx519_2)).trans hx519_2
            replace hx519_3 := (HB.out.cell (World.block_lt_of_cell? w _ hx519_3)).trans hx519_3
            replace p519 := eq_true p519
            replace q519 := eq_true q519
            go_wp2
            go_ret3
            exact ⟨_, _, by first | rfl | (simp [errW_none, errW_some] <;> rfl) | (simp [*, errW_none, errW_some] <;> rfl), by first | exact Kd.R_nil _ _ _ _ _ | exact Kd.N_nil _ _ _ _ _ | exact Kd.V_nil _ _ _ _ _ | exact Kd.Q_nil _ _ _ _ _ | exact Kd.S_nil _ _ _ _ _, by first | exact Kd.R_nil _ _ _ _ _ | exact Kd.N_nil _ _ _ _ _ | exact Kd.V_nil _ _ _ _ _ | exact Kd.Q_nil _ _ _ _ _ | exact Kd.S_nil _ _ _ _ _, by repeat (first | (with_reducible first | exact HB.out | apply below_alloc | apply pw_below_drewN | apply below_drew1) | exact HB.out)⟩
           ·rw [if_neg c16] at H
            have c16b0 : decide (1099511627776 < ((rd_T49 l0 x12_2).f0)) = false := decide_eq_false c16
            clear c16
            have H' := Aside0.mk H
            clear H
            have p518 : 0 ≤ (x12_2 : Int) := of_decide_eq_true (by first | (with_reducible assumption) | assumption)
            have q518 : x12_2 < (l0.length : Int) := of_decide_eq_true (by first | (with_reducible assumption) | assumption)
            obtain ⟨ad518, e518, hx518_0, hx518_1, hx518_2, hx518_3⟩ := at_T49 HR0.out x12_2 p518 q518
            cases e518
            replace hx518_0 := (HB.out.cell (World.block_lt_of_cell? w _ hx518_0)).trans hx518_0
            replace hx518_1 := (HB.out.cell (World.block_lt_of_cell? w _ hx518_1)).trans hx518_1
            replace hx518_2 := (HB.out.cell (World.block_lt_of_cell? w _ hx518_2)).trans hx518_2
            replace hx518_3 := (HB.out.cell (World.block_lt_of_cell? w _ hx518_3)).trans hx518_3
            replace p518 := eq_true p518
            replace q518 := eq_true q518
            have p519 : 0 ≤ (x12_2 : Int) := of_decide_eq_true (by first | (with_reducible assumption) | assumption)
            have q519 : x12_2 < (l0.length : Int) := of_decide_eq_true (by first | (with_reducible assumption) | assumption)
            obtain ⟨ad519, e519, hx519_0, hx519_1, hx519_2, hx519_3⟩ := at_T49 HR0.out x12_2 p519 q519
            obtain rfl : ad518 = ad519 := (by injection e519)
            replace hx519_0 := (HB.out.cell (World.block_lt_of_cell? w _ hx519_0)).trans hx519_0
            replace hx519_1 := (HB.out.cell (World.block_lt_of_cell? w _ hx519_1)).trans hx519_1
            replace hx519_2 := (HB.out.cell (World.block_lt_of_cell? w _ hx519_2)).trans hx519_2
            replace hx519_3 := (HB.out.cell (World.block_lt_of_cell? w _ hx519_3)).trans hx519_3
            replace p519 := eq_true p519
            replace q519 := eq_true q519
            go_wp2
            go_roundg k2
            case measure => have := HJ5.out; have := HK2.out; omega
            case rel => exact ⟨(wrap64 (x12_2 + 1)), (by first | rfl | (simp; done) | (simp [*]; done) | (simp [Int.tdiv_eq_ediv_of_nonneg]; done)), H', ⟨by have := HJ5.out; have := HK2.out; omega⟩, ⟨by repeat (first | (with_reducible first | exact HB.out | apply below_alloc | apply pw_below_drewN | apply below_drew1) | exact HB.out)⟩⟩
         ·rw [if_neg c14] at H
          exact absurd H (by simp)
        ·rw [if_neg c13] at H
         have c13b0 : decide (x12_2 < (l0.length : Int)) = false := decide_eq_false c13
         clear c13
         by_cases c17 : 0 ≤ a3
         ·rw [if_pos c17] at H
          have c17b0 := eq_true c17
          have c17b1 : decide (0 ≤ a3) = true := decide_eq_true c17
          clear c17
          by_cases c18 : (a3 : Int).toNat ≤ 35184372088832
          ·rw [if_pos c18] at H
           have c18b0 := eq_true c18
           have c18b1 : decide ((a3 : Int).toNat ≤ 35184372088832) = true := decide_eq_true c18
           clear c18
           obtain ⟨y520, hy520⟩ : ∃ y_ : List Int, y_ = (List.replicate (a3 : Int).toNat 0) := ⟨_, rfl⟩
           replace H : (reeveref21_Beats.l1 k2 l0 a1 a2 a3 y520 0) = some (r1, r2, r3) := by first | (rw [hy520]; with_reducible exact H) | (have H2_ := (Option.bind_some _ _).symm.trans H; rw [hy520]; with_reducible exact H2_) | (have H2_ := (Option.bind_some _ _).symm.trans H; with_reducible exact H2_) | with_reducible exact H | (rw [hy520]; exact H) | exact H
           have Ny520 := Aside0.mk hy520
           clear hy520
           have H' := Aside0.mk H
           clear H
           go_wp2_with (first | ((with_reducible refine gate_dst (N := 60) rfl ?_); refine Kd.R_make (Kd.int .i64) _ 3 rfl (N := 60) rfl 40 _ _ rfl a3 rfl rfl Try.underlying40 (.int .i64 0) 8 info3 rfl (by decide) (by omega) 0 (ok := fun _ => True) (okp := fun _ => True) rfl (fun _ hk => hk) trivial (of_decide_eq_true (by first | (with_reducible assumption) | assumption)) (Nat.le_trans (Nat.mul_le_mul_right _ (of_decide_eq_true (by first | (with_reducible assumption) | assumption) : a3.toNat ≤ 35184372088832)) (by omega)) (Below.refl _ _) (Nat.le_refl _) ?_; intro v521 w19 ho20 hb hg_ hnew_; clear hg_ hnew_; (first | rw [← Ny520.out] at ho20 | (simp only [Int.reduceToNat] at ho20; rw [← Ny520.out] at ho20)); have n0_ := Aside0.mk (Kd.R_lower ho20 (below_size (by repeat (first | (with_reducible first | exact HB.out | apply below_alloc | apply pw_below_drewN | apply below_drew1) | exact HB.out)))); have n1_ := Aside0.mk (below_step (by repeat (first | (with_reducible first | exact HB.out | apply below_alloc | apply pw_below_drewN | apply below_drew1) | exact HB.out)) hb); clear HB; have HO522 := n0_; have HB := n1_; clear n0_ n1_; clear hb ho20))
           go_loopg [14] k2 (fun kq v14 w' => ∃ (x13_3 : List Int) (x14_3 : Int), v14 = .int .i64 x14_3 ∧ Aside0 (reeveref21_Beats.l1 kq l0 a1 a2 a3 x13_3 x14_3 = some (r1, r2, r3)) ∧ Aside0 (kq ≤ k2) ∧ Aside0 (Kd.R (Kd.int .i64) 3 w' w.heap.size (fun _ => True) v521 x13_3) ∧ Aside0 (Below w.heap.size w w'))
           case atStart => exact ⟨(y520), (0), (by first | rfl | (simp; done) | (simp [*]; done) | (simp [Int.tdiv_eq_ediv_of_nonneg]; done)), H', ⟨Nat.le_refl _⟩, ⟨by (with_reducible repeat (first | apply Kd.R_alloc | apply Kd.R_drewN | apply Kd.R_drew)); exact HO522.out⟩, ⟨by repeat (first | (with_reducible first | exact HB.out | apply below_alloc | apply pw_below_drewN | apply below_drew1) | exact HB.out)⟩⟩
           case round =>
            clear H'
            try clear c1
            try clear c2
            try clear p2
            try clear c4
            try clear c5
            try clear c5b0
            try clear c5b1
            try clear p5
            try clear q5
            try clear hx5
            try clear p6
            try clear c7
            try clear c7b0
            try clear c8
            try clear c8b0
            try clear c9
            try clear c9b0
            try clear c10
            try clear c12
            try clear c13
            try clear c13b0
            try clear c14
            try clear c14b0
            try clear c15
            try clear c15b0
            try clear c16
            try clear c16b0
            try clear c17
            try clear c17b0
            try clear c17b1
            try clear c18
            try clear c18b0
            try clear c18b1
            try clear hx518_0
            try clear hx518_1
            try clear hx518_2
            try clear hx518_3
            try clear hx519_0
            try clear hx519_1
            try clear hx519_2
            try clear hx519_3
            try clear p2
            try clear p518
            try clear p519
            try clear q518
            try clear q519
            obtain ⟨x13_3, x14_3, rfl, HA, HK3, HO_13, HB⟩ := hrel
            cases gk with
            | zero => exact absurd HA.out (by simp [reeveref21_Beats.l1])
            | succ k3 =>
             have H := HA.out
             clear HA
             simp only [reeveref21_Beats.l1] at H
             by_cases c21 : x14_3 < (l0.length : Int)
             ·rw [if_pos c21] at H
              have c21b0 : decide (x14_3 < (l0.length : Int)) = true := decide_eq_true c21
              clear c21
              by_cases c22 : 0 ≤ x14_3
              ·rw [if_pos c22] at H
               have c22b0 : decide (0 ≤ x14_3) = true := decide_eq_true c22
               clear c22
               by_cases c23 : ((rd_T49 l0 x14_3).f3) = a1
               ·rw [if_pos c23] at H
                have c23b0 : (((rd_T49 l0 x14_3).f3) == a1) = true := beq_iff_eq.mpr c23
                have c23b1 : (((rd_T49 l0 x14_3).f3) != a1) = false := bne_eq_false_iff_eq.mpr c23
                clear c23
                by_cases c24 : a2 = 0
                ·rw [if_pos c24] at H
                 exact absurd H (by simp)
                ·rw [if_neg c24] at H
                 have c24b0 : (a2 == 0) = false := beq_eq_false_iff_ne.mpr c24
                 have c24b1 : (a2 != 0) = true := bne_iff_ne.mpr c24
                 by_cases c25 : a3 = 0
                 ·rw [if_pos c25] at H
                  exact absurd H (by simp)
                 ·rw [if_neg c25] at H
                  have c25b0 : (a3 == 0) = false := beq_eq_false_iff_ne.mpr c25
                  have c25b1 : (a3 != 0) = true := bne_iff_ne.mpr c25
                  obtain ⟨ji26, hji26⟩ : ∃ j_ : Int, (Int.tmod (wrap64 (Int.tdiv ((rd_T49 l0 x14_3).f0) a2)) a3) = j_ := ⟨_, rfl⟩
                  replace H : (if 0 ≤ (ji26) then (if (ji26) < (x13_3.length : Int) then (reeveref21_Beats.l1 k3 l0 a1 a2 a3 (x13_3.set ((ji26) : Int).toNat (wrap64 ((rd x13_3 (ji26)) + 1))) (wrap64 (x14_3 + 1))) else (none)) else (none)) = some (r1, r2, r3) := by first | (rw [hji26] at H; exact H) | (simp only [hji26] at H ⊢; exact H)
                  by_cases c27 : 0 ≤ (ji26)
                  ·rw [if_pos c27] at H
                   have c27b0 : decide (0 ≤ (ji26)) = true := decide_eq_true c27
                   clear c27
                   by_cases c28 : (ji26) < (x13_3.length : Int)
                   ·rw [if_pos c28] at H
                    have c28b0 : decide ((ji26) < (x13_3.length : Int)) = true := decide_eq_true c28
                    clear c28
                    obtain ⟨y526, hy526⟩ : ∃ y_ : List Int, y_ = (x13_3.set ((ji26) : Int).toNat (wrap64 ((rd x13_3 (ji26)) + 1))) := ⟨_, rfl⟩
                    replace H : (reeveref21_Beats.l1 k3 l0 a1 a2 a3 y526 (wrap64 (x14_3 + 1))) = some (r1, r2, r3) := by first | (rw [hy526]; with_reducible exact H) | (have H2_ := (Option.bind_some _ _).symm.trans H; rw [hy526]; with_reducible exact H2_) | (have H2_ := (Option.bind_some _ _).symm.trans H; with_reducible exact H2_) | with_reducible exact H | (rw [hy526]; exact H) | exact H
                    have Ny526 := Aside0.mk hy526
                    clear hy526
                    have H' := Aside0.mk H
                    clear H
                    have p523 : 0 ≤ (x14_3 : Int) := of_decide_eq_true (by first | (with_reducible assumption) | assumption)
                    have q523 : x14_3 < (l0.length : Int) := of_decide_eq_true (by first | (with_reducible assumption) | assumption)
                    obtain ⟨ad523, e523, hx523_0, hx523_1, hx523_2, hx523_3⟩ := at_T49 HR0.out x14_3 p523 q523
                    cases e523
                    replace hx523_0 := (HB.out.cell (World.block_lt_of_cell? w _ hx523_0)).trans hx523_0
                    replace hx523_1 := (HB.out.cell (World.block_lt_of_cell? w _ hx523_1)).trans hx523_1
                    replace hx523_2 := (HB.out.cell (World.block_lt_of_cell? w _ hx523_2)).trans hx523_2
                    replace hx523_3 := (HB.out.cell (World.block_lt_of_cell? w _ hx523_3)).trans hx523_3
                    replace p523 := eq_true p523
                    replace q523 := eq_true q523
                    have p524 : 0 ≤ (x14_3 : Int) := of_decide_eq_true (by first | (with_reducible assumption) | assumption)
                    have q524 : x14_3 < (l0.length : Int) := of_decide_eq_true (by first | (with_reducible assumption) | assumption)
                    obtain ⟨ad524, e524, hx524_0, hx524_1, hx524_2, hx524_3⟩ := at_T49 HR0.out x14_3 p524 q524
                    obtain rfl : ad523 = ad524 := (by injection e524)
                    replace hx524_0 := (HB.out.cell (World.block_lt_of_cell? w _ hx524_0)).trans hx524_0
                    replace hx524_1 := (HB.out.cell (World.block_lt_of_cell? w _ hx524_1)).trans hx524_1
                    replace hx524_2 := (HB.out.cell (World.block_lt_of_cell? w _ hx524_2)).trans hx524_2
                    replace hx524_3 := (HB.out.cell (World.block_lt_of_cell? w _ hx524_3)).trans hx524_3
                    replace p524 := eq_true p524
                    replace q524 := eq_true q524
                    obtain ⟨Ao30, co30, eo30⟩ := Kd.R_slice HO_13.out
                    subst eo30
                    have p525 : 0 ≤ ((ji26) : Int) := of_decide_eq_true (by first | (with_reducible assumption) | assumption)
                    have q525 : (ji26) < (x13_3.length : Int) := of_decide_eq_true (by first | (with_reducible assumption) | assumption)
                    obtain ⟨ad525, e525, hx525_0⟩ := Kd.at_int (Kd.R_reads' HO_13.out).2.2 (ji26) p525 q525
                    cases e525
                    replace p525 := eq_true p525
                    replace q525 := eq_true q525
                    have p29 : 0 ≤ ((ji26) : Int) := of_decide_eq_true (by first | (with_reducible assumption) | assumption)
                    have q29 : ((ji26) : Int) < ((x13_3.length : Int) : Int) := of_decide_eq_true (by first | (with_reducible assumption) | assumption)
                    obtain ⟨go29, co29, eo29, gb29, gl29, cl29, HG29⟩ := Kd.R_form HO_13.out (by omega)
                    (first | cases eo29 | (injection eo29 with ea_ en_ ec_; (first | subst ea_ | (injection ea_ with ea_; subst ea_)); subst ec_; clear en_))
                    have GB29 := Aside0.mk gb29
                    have GG29 := Aside0.mk HG29
                    clear gb29 gl29 HG29
                    (first | simp only [add_plain] at hx525_0 | skip)
                    obtain ⟨hx29_0, hf29_0⟩ := Kd.R_celln 0 HO_13.out ((ji26) : Int) p29 q29
                    replace p29 := eq_true p29
                    replace q29 := eq_true q29
                    have HP31 := Kd.R_putg HO_13.out ((ji26) : Int) (wrap64 ((rd x13_3 (ji26)) + 1))
                    go_wp2_with (first | ((with_reducible refine gate_store (t := 3) (p := 87) rfl ?_); refine store_event (t := 3) (p := 87) (v := ?vo_w32) (w1 := (wr.setCell ⟨go29, ((ji26) : Int).toNat, none⟩ (.int .i64 (wrap64 ((rd x13_3 (ji26)) + 1))))) ?hg ?ho ?hn ?hr ?_; (case ho => rfl); (case hg => rfl); (case hn => rfl); (case hr => first | (go_simp; done) | (go_simp; rfl)); intro w32 hw; have hg : wr.grownBy w32 (some go29) := (by rw [hw]; exact HP31.2); have hp_ : Kd.R (Kd.int .i64) 3 w32 w.heap.size (fun _ => True) (.slice (some ⟨go29, 0, none⟩) x13_3.length co30) y526 := (by rw [hw, Ny526.out]; exact HP31.1); clear HP31; have n0_ := Aside0.mk (hp_); have n1_ := Aside0.mk ((by rw [hw]; exact below_set (HB.out) GB29.out : Below w.heap.size w w32)); clear HO_13; clear HB; have HO_13 := n0_; have HB := n1_; clear n0_ n1_; clear hg hw hp_))
                    go_roundg k3
                    case measure => have := HJ5.out; have := HK2.out; have := HK3.out; omega
                    case rel => exact ⟨(y526), (wrap64 (x14_3 + 1)), (by first | rfl | (simp; done) | (simp [*]; done) | (simp [Int.tdiv_eq_ediv_of_nonneg]; done)), H', ⟨by have := HJ5.out; have := HK2.out; have := HK3.out; omega⟩, ⟨by (with_reducible repeat (first | apply Kd.R_alloc | apply Kd.R_drewN | apply Kd.R_drew)); exact HO_13.out⟩, ⟨by repeat (first | (with_reducible first | exact HB.out | apply below_alloc | apply pw_below_drewN | apply below_drew1) | exact HB.out)⟩⟩
                   ·rw [if_neg c28] at H
                    exact absurd H (by simp)
                  ·rw [if_neg c27] at H
                   exact absurd H (by simp)
               ·rw [if_neg c23] at H
                have c23b0 : (((rd_T49 l0 x14_3).f3) == a1) = false := beq_eq_false_iff_ne.mpr c23
                have c23b1 : (((rd_T49 l0 x14_3).f3) != a1) = true := bne_iff_ne.mpr c23
                have H' := Aside0.mk H
                clear H
                have p523 : 0 ≤ (x14_3 : Int) := of_decide_eq_true (by first | (with_reducible assumption) | assumption)
                have q523 : x14_3 < (l0.length : Int) := of_decide_eq_true (by first | (with_reducible assumption) | assumption)
                obtain ⟨ad523, e523, hx523_0, hx523_1, hx523_2, hx523_3⟩ := at_T49 HR0.out x14_3 p523 q523
                cases e523
                replace hx523_0 := (HB.out.cell (World.block_lt_of_cell? w _ hx523_0)).trans hx523_0
                replace hx523_1 := (HB.out.cell (World.block_lt_of_cell? w _ hx523_1)).trans hx523_1
                replace hx523_2 := (HB.out.cell (World.block_lt_of_cell? w _ hx523_2)).trans hx523_2
                replace hx523_3 := (HB.out.cell (World.block_lt_of_cell? w _ hx523_3)).trans hx523_3
                replace p523 := eq_true p523
                replace q523 := eq_true q523
                go_wp2
                go_roundg k3
                case measure => have := HJ5.out; have := HK2.out; have := HK3.out; omega
                case rel => exact ⟨(x13_3), (wrap64 (x14_3 + 1)), (by first | rfl | (simp; done) | (simp [*]; done) | (simp [Int.tdiv_eq_ediv_of_nonneg]; done)), H', ⟨by have := HJ5.out; have := HK2.out; have := HK3.out; omega⟩, ⟨by (with_reducible repeat (first | apply Kd.R_alloc | apply Kd.R_drewN | apply Kd.R_drew)); exact HO_13.out⟩, ⟨by repeat (first | (with_reducible first | exact HB.out | apply below_alloc | apply pw_below_drewN | apply below_drew1) | exact HB.out)⟩⟩
              ·rw [if_neg c22] at H
               exact absurd H (by simp)
             ·rw [if_neg c21] at H
              have c21b0 : decide (x14_3 < (l0.length : Int)) = false := decide_eq_false c21
              clear c21
              by_cases c33 : 0 ≤ a3
              ·rw [if_pos c33] at H
               have c33b0 := eq_true c33
               have c33b1 : decide (0 ≤ a3) = true := decide_eq_true c33
               clear c33
               by_cases c34 : (a3 : Int).toNat ≤ 35184372088832
               ·rw [if_pos c34] at H
                have c34b0 := eq_true c34
                have c34b1 : decide ((a3 : Int).toNat ≤ 35184372088832) = true := decide_eq_true c34
                clear c34
                obtain ⟨y527, hy527⟩ : ∃ y_ : List Int, y_ = (List.replicate (a3 : Int).toNat 0) := ⟨_, rfl⟩
                replace H : (reeveref21_Beats.l2 k3 a3 x13_3 y527 0) = some (r1, r2, r3) := by first | (rw [hy527]; with_reducible exact H) | (have H2_ := (Option.bind_some _ _).symm.trans H; rw [hy527]; with_reducible exact H2_) | (have H2_ := (Option.bind_some _ _).symm.trans H; with_reducible exact H2_) | with_reducible exact H | (rw [hy527]; exact H) | exact H
                have Ny527 := Aside0.mk hy527
                clear hy527
                have H' := Aside0.mk H
                clear H
                go_wp2_with (first | ((with_reducible refine gate_dst (N := 89) rfl ?_); refine Kd.R_make (Kd.int .i64) _ 3 rfl (N := 89) rfl 40 _ _ rfl a3 rfl rfl Try.underlying40 (.int .i64 0) 8 info3 rfl (by decide) (by omega) 0 (ok := fun _ => True) (okp := fun _ => True) rfl (fun _ hk => hk) trivial (of_decide_eq_true (by first | (with_reducible assumption) | assumption)) (Nat.le_trans (Nat.mul_le_mul_right _ (of_decide_eq_true (by first | (with_reducible assumption) | assumption) : a3.toNat ≤ 35184372088832)) (by omega)) (Below.refl _ _) (Nat.le_refl _) ?_; intro v528 w35 ho36 hb hg_ hnew_; clear hg_ hnew_; (first | rw [← Ny527.out] at ho36 | (simp only [Int.reduceToNat] at ho36; rw [← Ny527.out] at ho36)); have n0_ := Aside0.mk (Kd.R_elder' (by (with_reducible repeat (first | apply Kd.R_alloc | apply Kd.R_drewN | apply Kd.R_drew)); exact HO_13.out) (Kd.R_base ho36) hb); have n1_ := Aside0.mk (Kd.R_lower (Kd.R_new' ho36 (Kd.R_lt (by (with_reducible repeat (first | apply Kd.R_alloc | apply Kd.R_drewN | apply Kd.R_drew)); exact HO_13.out))) (below_size (by repeat (first | (with_reducible first | exact HB.out | apply below_alloc | apply pw_below_drewN | apply below_drew1) | exact HB.out)))); have n2_ := Aside0.mk (below_step (by repeat (first | (with_reducible first | exact HB.out | apply below_alloc | apply pw_below_drewN | apply below_drew1) | exact HB.out)) hb); clear HO_13; clear HB; have HO_13 := n0_; have HO529 := n1_; have HB := n2_; clear n0_ n1_ n2_; clear hb ho36))
                go_loopg [16] k3 (fun kq v16 w' => ∃ (x15_4 : List Int) (x16_4 : Int), v16 = .int .i64 x16_4 ∧ Aside0 (reeveref21_Beats.l2 kq a3 x13_3 x15_4 x16_4 = some (r1, r2, r3)) ∧ Aside0 (kq ≤ k3) ∧ Aside0 (Kd.R (Kd.int .i64) 3 w' w.heap.size (fun k_ => some k_ ≠ (v528 : Value).ownBlock) v521 x13_3) ∧ Aside0 (Kd.R (Kd.int .i64) 3 w' w.heap.size (fun k_ => some k_ ≠ (v521 : Value).ownBlock) v528 x15_4) ∧ Aside0 (Below w.heap.size w w'))
                case atStart => exact ⟨(y527), (0), (by first | rfl | (simp; done) | (simp [*]; done) | (simp [Int.tdiv_eq_ediv_of_nonneg]; done)), H', ⟨Nat.le_refl _⟩, ⟨by (with_reducible repeat (first | apply Kd.R_alloc | apply Kd.R_drewN | apply Kd.R_drew)); exact Kd.R_mono HO_13.out (fun _ hk => hk.2)⟩, ⟨by (with_reducible repeat (first | apply Kd.R_alloc | apply Kd.R_drewN | apply Kd.R_drew)); exact Kd.R_mono HO529.out (fun _ hk => hk.2)⟩, ⟨by repeat (first | (with_reducible first | exact HB.out | apply below_alloc | apply pw_below_drewN | apply below_drew1) | exact HB.out)⟩⟩
                case round =>
                 clear H'
                 try clear c1
                 try clear c2
                 try clear p2
                 try clear q2
                 try clear hx2
                 try clear c3
                 try clear c4
                 try clear c5
                 try clear c5b0
                 try clear c5b1
                 try clear p5
                 try clear q5
                 try clear hx5
                 try clear p6
                 try clear c7
                 try clear c7b0
                 try clear c8
                 try clear c8b0
                 try clear c9
                 try clear c9b0
                 try clear c10
                 try clear c12
                 try clear c13
                 try clear c13b0
                 try clear c14
                 try clear c14b0
                 try clear c15
                 try clear c15b0
                 try clear c16
                 try clear c16b0
                 try clear c17
                 try clear c17b0
                 try clear c17b1
                 try clear c18
                 try clear c18b0
                 try clear c18b1
                 try clear c21
                 try clear c21b0
                 try clear c22
                 try clear c22b0
                 try clear c23
                 try clear c23b0
                 try clear c23b1
                 try clear c24
                 try clear c24b0
                 try clear c24b1
                 try clear c25
                 try clear c25b0
                 try clear c25b1
                 try clear c27
                 try clear c27b0
                 try clear c28
                 try clear c28b0
                 try clear p29
                 try clear q29
                 try clear hx29
                 try clear hf29
                 try clear c33
                 try clear c33b0
                 try clear c33b1
                 try clear c34
                 try clear c34b0
                 try clear c34b1
                 try clear hx29_0
                 try clear hx518_0
                 try clear hx518_1
                 try clear hx518_2
                 try clear hx518_3
                 try clear hx519_0
                 try clear hx519_1
                 try clear hx519_2
                 try clear hx519_3
                 try clear hx523_0
                 try clear hx523_1
                 try clear hx523_2
                 try clear hx523_3
                 try clear hx524_0
                 try clear hx524_1
                 try clear hx524_2
                 try clear hx524_3
                 try clear hx525_0
                 try clear p2
                 try clear p29
                 try clear p5
                 try clear p518
                 try clear p519
                 try clear p523
                 try clear p524
                 try clear p525
                 try clear p6
                 try clear q29
                 try clear q5
                 try clear q518
                 try clear q519
                 try clear q523
                 try clear q524
                 try clear q525
                 obtain ⟨x15_4, x16_4, rfl, HA, HK4, HO_13, HO_15, HB⟩ := hrel
                 cases gk with
                 | zero => exact absurd HA.out (by simp [reeveref21_Beats.l2])
                 | succ k4 =>
                  have H := HA.out
                  clear HA
                  simp only [reeveref21_Beats.l2] at H
                  by_cases c37 : x16_4 < a3
                  ·rw [if_pos c37] at H
                   have c37b0 : decide (x16_4 < a3) = true := decide_eq_true c37
                   clear c37
                   have H' := Aside0.mk H
                   clear H
                   go_wp2
                   go_loopg [17] k4 (fun kq v17 w' => ∃ (x15_5 : List Int) (x17_5 : Int), v17 = .int .i64 x17_5 ∧ Aside0 (reeveref21_Beats.l3 kq a3 x13_3 x15_5 x16_4 x17_5 = some (r1, r2, r3)) ∧ Aside0 (kq ≤ k4) ∧ Aside0 (Kd.R (Kd.int .i64) 3 w' w.heap.size (fun k_ => some k_ ≠ (v528 : Value).ownBlock) v521 x13_3) ∧ Aside0 (Kd.R (Kd.int .i64) 3 w' w.heap.size (fun k_ => some k_ ≠ (v521 : Value).ownBlock) v528 x15_5) ∧ Aside0 (Below w.heap.size w w'))
                   case atStart => exact ⟨(x15_4), (0), (by first | rfl | (simp; done) | (simp [*]; done) | (simp [Int.tdiv_eq_ediv_of_nonneg]; done)), H', ⟨Nat.le_refl _⟩, ⟨by (with_reducible repeat (first | apply Kd.R_alloc | apply Kd.R_drewN | apply Kd.R_drew)); exact HO_13.out⟩, ⟨by (with_reducible repeat (first | apply Kd.R_alloc | apply Kd.R_drewN | apply Kd.R_drew)); exact HO_15.out⟩, ⟨by repeat (first | (with_reducible first | exact HB.out | apply below_alloc | apply pw_below_drewN | apply below_drew1) | exact HB.out)⟩⟩
                   case round =>
                    clear H'
                    try clear c1
                    try clear c2
                    try clear p2
                    try clear q2
                    try clear hx2
                    try clear c3
                    try clear c4
                    try clear c5
                    try clear c5b0
                    try clear c5b1
                    try clear p5
                    try clear q5
                    try clear hx5
                    try clear p6
                    try clear c7
                    try clear c7b0
                    try clear c8
                    try clear c8b0
                    try clear c9
                    try clear c9b0
                    try clear c10
                    try clear c12
                    try clear c13
                    try clear c13b0
                    try clear c14
                    try clear c14b0
                    try clear c15
                    try clear c15b0
                    try clear c16
                    try clear c16b0
                    try clear c17
                    try clear c17b0
                    try clear c17b1
                    try clear c18
                    try clear c18b0
                    try clear c18b1
                    try clear c21
                    try clear c21b0
                    try clear c22
                    try clear c22b0
                    try clear c23
                    try clear c23b0
                    try clear c23b1
                    try clear c24
                    try clear c24b0
                    try clear c24b1
                    try clear c25
                    try clear c25b0
                    try clear c25b1
                    try clear c27
                    try clear c27b0
                    try clear c28
                    try clear c28b0
                    try clear p29
                    try clear q29
                    try clear hx29
                    try clear hf29
                    try clear c33
                    try clear c33b0
                    try clear c33b1
                    try clear c34
                    try clear c34b0
                    try clear c34b1
                    try clear c37
                    try clear c37b0
                    try clear hx29_0
                    try clear hx518_0
                    try clear hx518_1
                    try clear hx518_2
                    try clear hx518_3
                    try clear hx519_0
                    try clear hx519_1
                    try clear hx519_2
                    try clear hx519_3
                    try clear hx523_0
                    try clear hx523_1
                    try clear hx523_2
                    try clear hx523_3
                    try clear hx524_0
                    try clear hx524_1
                    try clear hx524_2
                    try clear hx524_3
                    try clear hx525_0
                    try clear p2
                    try clear p29
                    try clear p5
                    try clear p518
                    try clear p519
                    try clear p523
                    try clear p524
                    try clear p525
                    try clear p6
                    try clear q2
                    try clear q29
                    try clear q5
                    try clear q518
                    try clear q519
                    try clear q523
                    try clear q524
                    try clear q525
                    obtain ⟨x15_5, x17_5, rfl, HA, HK5, HO_13, HO_15, HB⟩ := hrel
                    cases gk with
                    | zero => exact absurd HA.out (by simp [reeveref21_Beats.l3])
                    | succ k5 =>
                     have H := HA.out
                     clear HA
                     simp only [reeveref21_Beats.l3] at H
                     by_cases c38 : x17_5 < a3
                     ·rw [if_pos c38] at H
                      have c38b0 : decide (x17_5 < a3) = true := decide_eq_true c38
                      clear c38
                      by_cases c39 : 0 ≤ x16_4
                      ·rw [if_pos c39] at H
                       have c39b0 : decide (0 ≤ x16_4) = true := decide_eq_true c39
                       clear c39
                       by_cases c40 : x16_4 < (x15_5.length : Int)
                       ·rw [if_pos c40] at H
                        have c40b0 : decide (x16_4 < (x15_5.length : Int)) = true := decide_eq_true c40
                        clear c40
                        by_cases c41 : 0 ≤ x17_5
                        ·rw [if_pos c41] at H
                         have c41b0 : decide (0 ≤ x17_5) = true := decide_eq_true c41
                         clear c41
                         by_cases c42 : x17_5 < (x13_3.length : Int)
                         ·rw [if_pos c42] at H
                          have c42b0 : decide (x17_5 < (x13_3.length : Int)) = true := decide_eq_true c42
                          clear c42
                          by_cases c43 : a3 = 0
                          ·rw [if_pos c43] at H
                           exact absurd H (by simp)
                          ·rw [if_neg c43] at H
                           have c43b0 : (a3 == 0) = false := beq_eq_false_iff_ne.mpr c43
                           have c43b1 : (a3 != 0) = true := bne_iff_ne.mpr c43
                           obtain ⟨ji44, hji44⟩ : ∃ j_ : Int, (Int.tmod (wrap64 (x17_5 + x16_4)) a3) = j_ := ⟨_, rfl⟩
                           replace H : (if 0 ≤ (ji44) then (if (ji44) < (x13_3.length : Int) then (reeveref21_Beats.l3 k5 a3 x13_3 (x15_5.set (x16_4 : Int).toNat (wrap64 ((rd x15_5 x16_4) + (wrap64 ((rd x13_3 x17_5) * (rd x13_3 (ji44))))))) x16_4 (wrap64 (x17_5 + 1))) else (none)) else (none)) = some (r1, r2, r3) := by first | (rw [hji44] at H; exact H) | (simp only [hji44] at H ⊢; exact H)
                           by_cases c45 : 0 ≤ (ji44)
                           ·rw [if_pos c45] at H
                            have c45b0 : decide (0 ≤ (ji44)) = true := decide_eq_true c45
                            clear c45
                            by_cases c46 : (ji44) < (x13_3.length : Int)
                            ·rw [if_pos c46] at H
                             have c46b0 : decide ((ji44) < (x13_3.length : Int)) = true := decide_eq_true c46
                             clear c46
                             obtain ⟨y533, hy533⟩ : ∃ y_ : List Int, y_ = (x15_5.set (x16_4 : Int).toNat (wrap64 ((rd x15_5 x16_4) + (wrap64 ((rd x13_3 x17_5) * (rd x13_3 (ji44))))))) := ⟨_, rfl⟩
                             replace H : (reeveref21_Beats.l3 k5 a3 x13_3 y533 x16_4 (wrap64 (x17_5 + 1))) = some (r1, r2, r3) := by first | (rw [hy533]; with_reducible exact H) | (have H2_ := (Option.bind_some _ _).symm.trans H; rw [hy533]; with_reducible exact H2_) | (have H2_ := (Option.bind_some _ _).symm.trans H; with_reducible exact H2_) | with_reducible exact H | (rw [hy533]; exact H) | exact H
                             have Ny533 := Aside0.mk hy533
                             clear hy533
                             have H' := Aside0.mk H
                             clear H
                             try go_wp2
                             have n0_ := Aside0.mk (Kd.R_drew HO_13.out)
                             have n1_ := Aside0.mk (Kd.R_drew HO_15.out)
                             have n2_ := Aside0.mk (below_drew1 HB.out)
                             clear HO_13
                             clear HO_15
                             clear HB
                             have HO_13 := n0_
                             have HO_15 := n1_
                             have HB := n2_
                             clear n0_ n1_ n2_
                             obtain ⟨Ao49, co49, eo49⟩ := Kd.R_slice HO_15.out
                             (first | subst eo49 | (injection eo49 with f1_ f2_ f3_; have f4_ := f1_.symm; have f5_ := f3_.symm; clear f1_ f2_ f3_; subst f4_; subst f5_))
                             have p530 : 0 ≤ (x16_4 : Int) := of_decide_eq_true (by first | (with_reducible assumption) | assumption)
                             have q530 : x16_4 < (x15_5.length : Int) := of_decide_eq_true (by first | (with_reducible assumption) | assumption)
                             obtain ⟨ad530, e530, hx530_0⟩ := Kd.at_int (Kd.R_reads' HO_15.out).2.2 x16_4 p530 q530
                             cases e530
                             replace p530 := eq_true p530
                             replace q530 := eq_true q530
                             obtain ⟨Ao50, co50, eo50⟩ := Kd.R_slice HO_13.out
                             (first | subst eo50 | (injection eo50 with f1_ f2_ f3_; have f4_ := f1_.symm; have f5_ := f3_.symm; clear f1_ f2_ f3_; subst f4_; subst f5_))
                             have p531 : 0 ≤ (x17_5 : Int) := of_decide_eq_true (by first | (with_reducible assumption) | assumption)
                             have q531 : x17_5 < (x13_3.length : Int) := of_decide_eq_true (by first | (with_reducible assumption) | assumption)
                             obtain ⟨ad531, e531, hx531_0⟩ := Kd.at_int (Kd.R_reads' HO_13.out).2.2 x17_5 p531 q531
                             cases e531
                             replace p531 := eq_true p531
                             replace q531 := eq_true q531
                             have p532 : 0 ≤ ((ji44) : Int) := of_decide_eq_true (by first | (with_reducible assumption) | assumption)
                             have q532 : (ji44) < (x13_3.length : Int) := of_decide_eq_true (by first | (with_reducible assumption) | assumption)
                             obtain ⟨ad532, e532, hx532_0⟩ := Kd.at_int (Kd.R_reads' HO_13.out).2.2 (ji44) p532 q532
                             obtain rfl : ad531 = ad532 := (by injection e532)
                             replace p532 := eq_true p532
                             replace q532 := eq_true q532
                             have p47 : 0 ≤ (x16_4 : Int) := of_decide_eq_true (by first | (with_reducible assumption) | assumption)
                             have q47 : (x16_4 : Int) < ((x15_5.length : Int) : Int) := of_decide_eq_true (by first | (with_reducible assumption) | assumption)
                             obtain ⟨go47, co47, eo47, gb47, gl47, cl47, HG47⟩ := Kd.R_form HO_15.out (by omega)
                             (first | cases eo47 | (injection eo47 with ea_ en_ ec_; (first | subst ea_ | (injection ea_ with ea_; subst ea_)); subst ec_; clear en_))
                             have GB47 := Aside0.mk gb47
                             have GG47 := Aside0.mk HG47
                             clear gb47 gl47 HG47
                             (first | simp only [add_plain] at hx530_0 | skip)
                             obtain ⟨hx47_0, hf47_0⟩ := Kd.R_celln 0 HO_15.out (x16_4 : Int) p47 q47
                             replace p47 := eq_true p47
                             replace q47 := eq_true q47
                             have HP51 := Kd.R_putn HO_15.out (x16_4 : Int) (wrap64 ((rd x15_5 x16_4) + (wrap64 ((rd x13_3 x17_5) * (rd x13_3 (ji44))))))
                             rw [← Ny533.out] at HP51
                             have HQ51 := Aside0.mk HP51
                             clear HP51
                             refine start_ (n := 22) (S := fun w' => w'.cell? ⟨go47, (x16_4).toNat, none⟩ = some (.int .i64 (rd x15_5 x16_4)) ∧ w'.cell? (ad531.add (x17_5).toNat) = some (.int .i64 (rd x13_3 x17_5)) ∧ w'.cell? (ad531.add ((ji44)).toNat) = some (.int .i64 (rd x13_3 (ji44)))) (ds := [21]) #[false, false, false, false, false, false, false, false, false, false, false, false, false, false, false, false, false, false, false, false, false, false] (by kernel_rfl) rfl rfl ⟨hx530_0, hx531_0, hx532_0⟩ (fun hHeld => ?_); refine with_tabW reeveref21_Beats.tab26 reeveref21_Beats.bits26 (fun HT_ HW_ => ?_)
                             generalize wr.drew = w48 at HO_13 HO_15 HB GG47 HQ51 hf47_0 hx47_0 hx530_0 hx531_0 hx532_0 hHeld ⊢
                             refine pure_ (i := 0) (N := some 100) (v := ?_) (a' := ?_) #[true, false, false, false, false, false, false, false, false, false, false, false, false, false, false, false, false, false, false, false, false, false] rfl rfl (any_of HT_.out (by kernel_rfl)) (fun _ _ _ h => h) (Or.inl ⟨by rfl, ?_⟩) ?_ ?_
                             rotate_left
                             ·intro w'
                              go_simp
                              with_reducible rfl
                             rotate_left
                             ·simp only [Act.put, List.setIfInBounds_toArray, List.set_cons_zero, List.set_cons_succ, i64_w, i32_w]
                              rfl
                             refine pure_ (i := 1) (N := some 101) (v := ?_) (a' := ?_) #[true, true, false, false, false, false, false, false, false, false, false, false, false, false, false, false, false, false, false, false, false, false] rfl rfl (any_of HT_.out (by kernel_rfl)) (fun _ _ _ h => h) (Or.inl ⟨by rfl, ?_⟩) ?_ ?_
                             rotate_left
                             ·intro w'
                              go_simp
                              with_reducible rfl
                             rotate_left
                             ·simp only [Act.put, List.setIfInBounds_toArray, List.set_cons_zero, List.set_cons_succ, i64_w, i32_w]
                              rfl
                             refine pure_ (i := 2) (N := some 102) (v := ?_) (a' := ?_) #[true, true, true, false, false, false, false, false, false, false, false, false, false, false, false, false, false, false, false, false, false, false] rfl rfl (any_of HT_.out (by kernel_rfl)) (fun _ _ _ h => h) (Or.inl ⟨by rfl, ?_⟩) ?_ ?_
                             rotate_left
                             ·intro w'
                              go_simp
                              with_reducible rfl
                             rotate_left
                             ·simp only [Act.put, List.setIfInBounds_toArray, List.set_cons_zero, List.set_cons_succ, i64_w, i32_w]
                              rfl
                             refine pure_ (i := 3) (N := some 103) (v := ?_) (a' := ?_) #[true, true, true, true, false, false, false, false, false, false, false, false, false, false, false, false, false, false, false, false, false, false] rfl rfl (any_of HT_.out (by kernel_rfl)) (fun _ _ _ h => h) (Or.inl ⟨by rfl, ?_⟩) ?_ ?_
                             rotate_left
                             ·intro w'
                              go_simp
                              with_reducible rfl
                             rotate_left
                             ·simp only [Act.put, List.setIfInBounds_toArray, List.set_cons_zero, List.set_cons_succ, i64_w, i32_w]
                              rfl
                             refine pure_ (i := 4) (N := some 104) (v := ?_) (a' := ?_) #[true, true, true, true, true, false, false, false, false, false, false, false, false, false, false, false, false, false, false, false, false, false] rfl rfl (any_of HT_.out (by kernel_rfl)) (fun _ _ _ h => h) (Or.inl ⟨by rfl, ?_⟩) ?_ ?_
                             rotate_left
                             ·intro w'
                              go_simp
                              with_reducible rfl
                             rotate_left
                             ·simp only [Act.put, List.setIfInBounds_toArray, List.set_cons_zero, List.set_cons_succ, i64_w, i32_w]
                              rfl
                             refine pure_ (i := 6) (N := some 106) (v := ?_) (a' := ?_) #[true, true, true, true, true, false, true, false, false, false, false, false, false, false, false, false, false, false, false, false, false, false] rfl rfl (any_of HT_.out (by kernel_rfl)) (fun _ _ _ h => h) (Or.inl ⟨by rfl, ?_⟩) ?_ ?_
                             rotate_left
                             ·intro w'
                              go_simp
                              with_reducible rfl
                             rotate_left
                             ·simp only [Act.put, List.setIfInBounds_toArray, List.set_cons_zero, List.set_cons_succ, i64_w, i32_w]
                              rfl
                             refine pure_ (i := 7) (N := some 107) (v := ?_) (a' := ?_) #[true, true, true, true, true, false, true, true, false, false, false, false, false, false, false, false, false, false, false, false, false, false] rfl rfl (any_of HT_.out (by kernel_rfl)) (fun _ _ _ h => h) (Or.inl ⟨by rfl, ?_⟩) ?_ ?_
                             rotate_left
                             ·intro w'
                              go_simp
                              with_reducible rfl
                             rotate_left
                             ·simp only [Act.put, List.setIfInBounds_toArray, List.set_cons_zero, List.set_cons_succ, i64_w, i32_w]
                              rfl
                             refine pure_ (i := 8) (N := some 108) (v := ?_) (a' := ?_) #[true, true, true, true, true, false, true, true, true, false, false, false, false, false, false, false, false, false, false, false, false, false] rfl rfl (any_of HT_.out (by kernel_rfl)) (fun _ _ _ h => h) (Or.inl ⟨by rfl, ?_⟩) ?_ ?_
                             rotate_left
                             ·intro w'
                              go_simp
                              with_reducible rfl
                             rotate_left
                             ·simp only [Act.put, List.setIfInBounds_toArray, List.set_cons_zero, List.set_cons_succ, i64_w, i32_w]
                              rfl
                             refine pure_ (i := 10) (N := some 110) (v := ?_) (a' := ?_) #[true, true, true, true, true, false, true, true, true, false, true, false, false, false, false, false, false, false, false, false, false, false] rfl rfl (any_of HT_.out (by kernel_rfl)) (fun _ _ _ h => h) (Or.inl ⟨by rfl, ?_⟩) ?_ ?_
                             rotate_left
                             ·intro w'
                              go_simp
                              with_reducible rfl
                             rotate_left
                             ·simp only [Act.put, List.setIfInBounds_toArray, List.set_cons_zero, List.set_cons_succ, i64_w, i32_w]
                              rfl
                             refine pure_ (i := 11) (N := some 111) (v := ?_) (a' := ?_) #[true, true, true, true, true, false, true, true, true, false, true, true, false, false, false, false, false, false, false, false, false, false] rfl rfl (any_of HT_.out (by kernel_rfl)) (fun _ _ _ h => h) (Or.inl ⟨by rfl, ?_⟩) ?_ ?_
                             rotate_left
                             ·intro w'
                              go_simp
                              with_reducible rfl
                             rotate_left
                             ·simp only [Act.put, List.setIfInBounds_toArray, List.set_cons_zero, List.set_cons_succ, i64_w, i32_w]
                              rfl
                             refine pure_ (i := 12) (N := some 112) (v := ?_) (a' := ?_) #[true, true, true, true, true, false, true, true, true, false, true, true, true, false, false, false, false, false, false, false, false, false] rfl rfl (any_of HT_.out (by kernel_rfl)) (fun _ _ _ h => h) (Or.inl ⟨by rfl, ?_⟩) ?_ ?_
                             rotate_left
                             ·intro w'
                              go_simp
                              with_reducible rfl
                             rotate_left
                             ·simp only [Act.put, List.setIfInBounds_toArray, List.set_cons_zero, List.set_cons_succ, i64_w, i32_w]
                              rfl
                             refine pure_ (i := 13) (N := some 113) (v := ?_) (a' := ?_) #[true, true, true, true, true, false, true, true, true, false, true, true, true, true, false, false, false, false, false, false, false, false] rfl rfl (any_of HT_.out (by kernel_rfl)) (fun _ _ _ h => h) (Or.inl ⟨by rfl, ?_⟩) ?_ ?_
                             rotate_left
                             ·intro w'
                              go_simp
                              with_reducible rfl
                             rotate_left
                             ·simp only [Act.put, List.setIfInBounds_toArray, List.set_cons_zero, List.set_cons_succ, i64_w, i32_w]
                              rfl
                             refine pure_ (i := 14) (N := some 114) (v := ?_) (a' := ?_) #[true, true, true, true, true, false, true, true, true, false, true, true, true, true, true, false, false, false, false, false, false, false] rfl rfl (any_of HT_.out (by kernel_rfl)) (fun _ _ _ h => h) (Or.inl ⟨by rfl, ?_⟩) ?_ ?_
                             rotate_left
                             ·intro w'
                              go_simp
                              with_reducible rfl
                             rotate_left
                             ·simp only [Act.put, List.setIfInBounds_toArray, List.set_cons_zero, List.set_cons_succ, i64_w, i32_w]
                              rfl
                             refine pure_ (i := 15) (N := some 115) (v := ?_) (a' := ?_) #[true, true, true, true, true, false, true, true, true, false, true, true, true, true, true, true, false, false, false, false, false, false] rfl rfl (any_of HT_.out (by kernel_rfl)) (fun _ _ _ h => h) (Or.inl ⟨by rfl, ?_⟩) ?_ ?_
                             rotate_left
                             ·intro w'
                              go_simp
                              with_reducible rfl
                             rotate_left
                             ·simp only [Act.put, List.setIfInBounds_toArray, List.set_cons_zero, List.set_cons_succ, i64_w, i32_w]
                              rfl
                             refine pure_ (i := 16) (N := some 116) (v := ?_) (a' := ?_) #[true, true, true, true, true, false, true, true, true, false, true, true, true, true, true, true, true, false, false, false, false, false] rfl rfl (any_of HT_.out (by kernel_rfl)) (fun _ _ _ h => h) (Or.inl ⟨by rfl, ?_⟩) ?_ ?_
                             rotate_left
                             ·intro w'
                              go_simp
                              with_reducible rfl
                             rotate_left
                             ·simp only [Act.put, List.setIfInBounds_toArray, List.set_cons_zero, List.set_cons_succ, i64_w, i32_w]
                              rfl
                             refine take_ (i := 5) (N := some 105) (v := ?_) (a' := ?_) #[true, true, true, true, true, true, true, true, true, false, true, true, true, true, true, true, true, false, false, false, false, false] rfl rfl (take_ofW HT_.out HW_.out (by kernel_rfl)) (fun _ _ _ h => h) (Or.inl ⟨by rfl, ?_⟩) hHeld ?_ ?_
                             rotate_left
                             ·rintro w' ⟨s0, s1, s2⟩
                              go_simp
                              with_reducible rfl
                             rotate_left
                             ·simp only [Act.put, List.setIfInBounds_toArray, List.set_cons_zero, List.set_cons_succ, i64_w, i32_w]
                              rfl
                             refine take_ (i := 9) (N := some 109) (v := ?_) (a' := ?_) #[true, true, true, true, true, true, true, true, true, true, true, true, true, true, true, true, true, false, false, false, false, false] rfl rfl (take_ofW HT_.out HW_.out (by kernel_rfl)) (fun _ _ _ h => h) (Or.inl ⟨by rfl, ?_⟩) hHeld ?_ ?_
                             rotate_left
                             ·rintro w' ⟨s0, s1, s2⟩
                              go_simp
                              with_reducible rfl
                             rotate_left
                             ·simp only [Act.put, List.setIfInBounds_toArray, List.set_cons_zero, List.set_cons_succ, i64_w, i32_w]
                              rfl
                             refine take_ (i := 17) (N := some 117) (v := ?_) (a' := ?_) #[true, true, true, true, true, true, true, true, true, true, true, true, true, true, true, true, true, true, false, false, false, false] rfl rfl (take_ofW HT_.out HW_.out (by kernel_rfl)) (fun _ _ _ h => h) (Or.inl ⟨by rfl, ?_⟩) hHeld ?_ ?_
                             rotate_left
                             ·rintro w' ⟨s0, s1, s2⟩
                              go_simp
                              with_reducible rfl
                             rotate_left
                             ·simp only [Act.put, List.setIfInBounds_toArray, List.set_cons_zero, List.set_cons_succ, i64_w, i32_w]
                              rfl
                             refine pure_ (i := 18) (N := some 118) (v := ?_) (a' := ?_) #[true, true, true, true, true, true, true, true, true, true, true, true, true, true, true, true, true, true, true, false, false, false] rfl rfl (any_of HT_.out (by kernel_rfl)) (fun _ _ _ h => h) (Or.inl ⟨by rfl, ?_⟩) ?_ ?_
                             rotate_left
                             ·intro w'
                              go_simp
                              with_reducible rfl
                             rotate_left
                             ·simp only [Act.put, List.setIfInBounds_toArray, List.set_cons_zero, List.set_cons_succ, i64_w, i32_w]
                              rfl
                             refine pure_ (i := 19) (N := some 119) (v := ?_) (a' := ?_) #[true, true, true, true, true, true, true, true, true, true, true, true, true, true, true, true, true, true, true, true, false, false] rfl rfl (any_of HT_.out (by kernel_rfl)) (fun _ _ _ h => h) (Or.inl ⟨by rfl, ?_⟩) ?_ ?_
                             rotate_left
                             ·intro w'
                              go_simp
                              with_reducible rfl
                             rotate_left
                             ·simp only [Act.put, List.setIfInBounds_toArray, List.set_cons_zero, List.set_cons_succ, i64_w, i32_w]
                              rfl
                             refine pure_ (i := 20) (N := some 120) (v := ?_) (a' := ?_) #[true, true, true, true, true, true, true, true, true, true, true, true, true, true, true, true, true, true, true, true, true, false] rfl rfl (any_of HT_.out (by kernel_rfl)) (fun _ _ _ h => h) (Or.inl ⟨by rfl, ?_⟩) ?_ ?_
                             rotate_left
                             ·intro w'
                              go_simp
                              with_reducible rfl
                             rotate_left
                             ·simp only [Act.put, List.setIfInBounds_toArray, List.set_cons_zero, List.set_cons_succ, i64_w, i32_w]
                              rfl
                             refine last_ (i := 21) (N := none) #[true, true, true, true, true, true, true, true, true, true, true, true, true, true, true, true, true, true, true, true, true, true] rfl rfl (one_of HT_.out (by kernel_rfl)) (by decide) (fun K hK => ?_)
                             refine skip_ (w1 := ?_) (by rfl) rfl ?_ ?_
                             rotate_left
                             ·go_simp
                              rfl
                             refine hK.out _ _ ?_
                             clear hK K
                             refine done_ (done_of HT_.out (by kernel_rfl)) ?_
                             try go_wp2
                             go_roundg k5
                             case measure => have := HJ5.out; have := HK2.out; have := HK3.out; have := HK4.out; have := HK5.out; omega
                             case rel => exact ⟨(y533), (wrap64 (x17_5 + 1)), (by first | rfl | (simp; done) | (simp [*]; done) | (simp [Int.tdiv_eq_ediv_of_nonneg]; done)), H', ⟨by have := HJ5.out; have := HK2.out; have := HK3.out; have := HK4.out; have := HK5.out; omega⟩, ⟨by (with_reducible repeat (first | apply Kd.R_alloc | apply Kd.R_drewN | apply Kd.R_drew)); exact Kd.R_mono (Kd.R_far (p := ⟨go47, (x16_4 : Int).toNat, none⟩) (Kd.R_mono HO_13.out (fun k_ hk => (⟨hk, fun e_ => hk (by rw [e_]; rfl)⟩ : _ ∧ k_ ≠ go47))) (fun _ hk => hk.2) (.int .i64 (wrap64 ((rd x15_5 x16_4) + (wrap64 ((rd x13_3 x17_5) * (rd x13_3 (ji44)))))))) (fun _ hk => hk.1)⟩, ⟨by (with_reducible repeat (first | apply Kd.R_alloc | apply Kd.R_drewN | apply Kd.R_drew)); exact HQ51.out⟩, ⟨by repeat (first | (with_reducible first | exact HB.out | apply below_alloc | apply pw_below_drewN | apply below_drew1 | refine below_set ?_ GB47.out) | exact HB.out)⟩⟩
                            ·rw [if_neg c46] at H
                             exact absurd H (by simp)
                           ·rw [if_neg c45] at H
                            exact absurd H (by simp)
                         ·rw [if_neg c42] at H
                          exact absurd H (by simp)
                        ·rw [if_neg c41] at H
                         exact absurd H (by simp)
                       ·rw [if_neg c40] at H
                        exact absurd H (by simp)
                      ·rw [if_neg c39] at H
                       exact absurd H (by simp)
                     ·rw [if_neg c38] at H
                      have c38b0 : decide (x17_5 < a3) = false := decide_eq_false c38
                      clear c38
                      have H' := Aside0.mk H
                      clear H
                      go_wp2
                      go_roundg k5
                      case measure => have := HJ5.out; have := HK2.out; have := HK3.out; have := HK4.out; have := HK5.out; omega
                      case rel => exact ⟨(x15_5), (wrap64 (x16_4 + 1)), (by first | rfl | (simp; done) | (simp [*]; done) | (simp [Int.tdiv_eq_ediv_of_nonneg]; done)), H', ⟨by have := HJ5.out; have := HK2.out; have := HK3.out; have := HK4.out; have := HK5.out; omega⟩, ⟨by (with_reducible repeat (first | apply Kd.R_alloc | apply Kd.R_drewN | apply Kd.R_drew)); exact HO_13.out⟩, ⟨by (with_reducible repeat (first | apply Kd.R_alloc | apply Kd.R_drewN | apply Kd.R_drew)); exact HO_15.out⟩, ⟨by repeat (first | (with_reducible first | exact HB.out | apply below_alloc | apply pw_below_drewN | apply below_drew1) | exact HB.out)⟩⟩
                  ·rw [if_neg c37] at H
                   have c37b0 : decide (x16_4 < a3) = false := decide_eq_false c37
                   clear c37
                   simp only [Option.some.injEq, Prod.mk.injEq] at H
                   obtain ⟨rfl, rfl, rfl⟩ := H
                   go_wp2
                   go_ret3
                   exact ⟨_, _, by first | rfl | (simp [errW_none, errW_some] <;> rfl) | (simp [*, errW_none, errW_some] <;> rfl), by (with_reducible repeat (first | apply Kd.R_alloc | apply Kd.R_drewN | apply Kd.R_drew)); exact HO_13.out, by (with_reducible repeat (first | apply Kd.R_alloc | apply Kd.R_drewN | apply Kd.R_drew)); exact HO_15.out, by repeat (first | (with_reducible first | exact HB.out | apply below_alloc | apply pw_below_drewN | apply below_drew1) | exact HB.out)⟩
               ·rw [if_neg c34] at H
                exact absurd H (by simp)
              ·rw [if_neg c33] at H
               exact absurd H (by simp)
          ·rw [if_neg c18] at H
           exact absurd H (by simp)
         ·rw [if_neg c17] at H
          exact absurd H (by simp)
     ·replace c12 := Bool.eq_false_iff.mpr c12
      subst c12
      have H1 : (some (([] : List Int), ([] : List Int), 210)) = some (r1, r2, r3) := by rw [if_neg (show ¬ (false = true) by decide)] at H; exact H
      clear H
      have H := H1
      clear H1
      simp only [Option.some.injEq, Prod.mk.injEq] at H
      obtain ⟨rfl, rfl, rfl⟩ := H
      go_wp2_with (first | ((with_reducible refine gate_callee (f := 41) rfl ?_); refine goesL_ (some 36) rfl rfl Try.func41 (by kernel_rfl) rfl #[.int .i64 a3] rfl (by (try simp only [List.map_toArray, List.map_cons, List.map_nil]); first | done | rfl | (simp only [List.length_drop, List.length_take]; rfl)) ?_; (with_reducible refine (reeveref21_turns.calls a3 false _ A11.out).mono ?_); rintro e w' ⟨rfl, ⟨nd, rfl⟩⟩; refine ⟨_, rfl, ?_⟩))
      go_ret3
      exact ⟨_, _, by first | rfl | (simp [errW_none, errW_some] <;> rfl) | (simp [*, errW_none, errW_some] <;> rfl), by first | exact Kd.R_nil _ _ _ _ _ | exact Kd.N_nil _ _ _ _ _ | exact Kd.V_nil _ _ _ _ _ | exact Kd.Q_nil _ _ _ _ _ | exact Kd.S_nil _ _ _ _ _, by first | exact Kd.R_nil _ _ _ _ _ | exact Kd.N_nil _ _ _ _ _ | exact Kd.V_nil _ _ _ _ _ | exact Kd.Q_nil _ _ _ _ _ | exact Kd.S_nil _ _ _ _ _, by repeat (first | (with_reducible first | exact HB.out | apply below_alloc | apply pw_below_drewN | apply below_drew1) | exact HB.out)⟩

end Go.Proofs.YtkilnknndglmnaaP
end

section
-- Laid by given.py, a program of this seat, with the kit's printer.
namespace Go.Proofs.YtkilnknndglmnaaP
open Go.Proofs.Ytkilnknndglmnaa (G fl IsS isSB okC okF okC_iff encC kcx at_cx md red run_cmul run_cadd run_csub run_fint lit_one lit_zero tdiv_32 run_store_cx)
attribute [local go_sem] run_cmul run_cadd run_csub run_fint lit_one lit_zero tdiv_32 run_store_cx
open Go.RowKit Go.Proofs.YtkilnknndglmnaaW.PrintWords Go.Proofs.YtkilnknndglmnaaW.PrintLast Go.Proofs.YtkilnknndglmnaaW.PrintMore
attribute [local go_sem] max2_int min2_int max_two min_two max_three min_three max_four min_four   -- for this text's walks alone
set_option linter.unusedVariables false
set_option linter.unusedSimpArgs false

/-! ### reevelaw21_sameInts: function 29 -/
def reevelaw21_sameInts.l0 : Nat → List Int → List Int → Int → Option (Bool)
 | 0, _, _, _ => none
 | k + 1, x0, x1, x5 => if x5 < (x0.length : Int) then (if 0 ≤ x5 then (if x5 < (x1.length : Int) then (if (rd x0 x5) = (rd x1 x5) then (reevelaw21_sameInts.l0 k x0 x1 (wrap64 (x5 + 1))) else (some false)) else (none)) else (none)) else (some true)
def reevelaw21_sameInts.f (k : Nat) (l0 : List Int) (l1 : List Int) : Option (Bool) := if (l0.length : Int) = (l1.length : Int) then (reevelaw21_sameInts.l0 k l0 l1 0) else (some false)
theorem reevelaw21_sameInts.mono_l : ∀ k, (∀ y0 y1 y2, LeO (reevelaw21_sameInts.l0 k y0 y1 y2) (reevelaw21_sameInts.l0 (k + 1) y0 y1 y2))
 | 0 => fun _ _ _ r h => by simp [reevelaw21_sameInts.l0] at h
 | k + 1 => by
  have ih0 := reevelaw21_sameInts.mono_l k
  ·intro y0 y1 y2
   unfold reevelaw21_sameInts.l0
   repeat' first
   | (with_reducible exact ih0 _ _ _)
   | (with_reducible exact LeO.refl _)
   | (with_reducible exact LeO.none _)
   | (with_reducible refine LeO.ite ?_ ?_)
   | (with_reducible refine LeO.bind ?_ (fun _ => ?_))
   | exact ih0 _ _ _
   | exact LeO.none _
   | refine LeO.ite ?_ ?_
   | refine LeO.bind ?_ (fun _ => ?_)
theorem reevelaw21_sameInts.mono : ∀ a0 a1 k, LeO (reevelaw21_sameInts.f k a0 a1) (reevelaw21_sameInts.f (k + 1) a0 a1) := by
 intro a0 a1 k
 have ih0 := reevelaw21_sameInts.mono_l k
 unfold reevelaw21_sameInts.f
 repeat' first
   | (with_reducible exact ih0 _ _ _)
   | (with_reducible exact LeO.refl _)
   | (with_reducible exact LeO.none _)
   | (with_reducible refine LeO.ite ?_ ?_)
   | (with_reducible refine LeO.bind ?_ (fun _ => ?_))
   | exact ih0 _ _ _
   | exact LeO.none _
   | refine LeO.ite ?_ ?_
   | refine LeO.bind ?_ (fun _ => ?_)
set_option maxHeartbeats 8000000 in
set_option maxRecDepth 100000 in
theorem reevelaw21_sameInts.calls (k : Nat) (A0 : Option Addr) (c0 : Nat) (l0 : List Int) (A1 : Option Addr) (c1 : Nat) (l1 : List Int) (r : Bool) (w : World) (hr0 : Kd.C (Kd.int .i64) w A0 l0.length l0) (hc0 : l0.length ≤ c0) (hr1 : Kd.C (Kd.int .i64) w A1 l1.length l1) (hc1 : l1.length ≤ c1) (h : reevelaw21_sameInts.f k l0 l1 = some r) :
  Calls Try.prog 29 #[.slice A0 l0.length c0, .slice A1 l1.length c1] w fun e w' => e = .returned (.bool r) ∧ Drawn0 w w' := by
 have HR0 := Aside0.mk hr0
 have HC0 := Aside0.mk hc0
 clear hr0 hc0
 have HR1 := Aside0.mk hr1
 have HC1 := Aside0.mk hc1
 clear hr1 hc1
 have H : (if (l0.length : Int) = (l1.length : Int) then (reevelaw21_sameInts.l0 k l0 l1 0) else (some false)) = some r := h
 clear h
 by_cases c3 : (l0.length : Int) = (l1.length : Int)
 ·rw [if_pos c3] at H
  have c3b0 : ((l0.length : Int) == (l1.length : Int)) = true := beq_iff_eq.mpr c3
  have c3b1 : ((l0.length : Int) != (l1.length : Int)) = false := bne_eq_false_iff_eq.mpr c3
  have c3b2 : (l0.length == l1.length) = true := by first | simpa using c3 | (simp at c3 ⊢; omega)
  clear c3
  have H' := Aside0.mk H
  clear H
  go_enter Try.func29, Try.ntmps29
  go_wp2
  repeat (go_quiet (fail); try go_wp2)
  go_loopg [5] k (fun kq v5 w' => ∃ (x5_1 : Int), v5 = .int .i64 x5_1 ∧ Aside0 (reevelaw21_sameInts.l0 kq l0 l1 x5_1 = some r) ∧ Aside0 (kq ≤ k) ∧ Drawn0 w w')
  case atStart => exact ⟨(0), (by first | rfl | (simp; done) | (simp [*]; done) | (simp [Int.tdiv_eq_ediv_of_nonneg]; done)), H', ⟨Nat.le_refl _⟩, by repeat (first | exact Drawn0.refl _ | apply Drawn0.step)⟩
  case round =>
   clear H'
   try clear c1
   try clear c2
   try clear p2
   try clear c3
   try clear c3b0
   try clear c3b1
   try clear c3b2
   obtain ⟨x5_1, rfl, HA, HK1, ⟨m1, rfl⟩⟩ := hrel
   cases gk with
   | zero => exact absurd HA.out (by simp [reevelaw21_sameInts.l0])
   | succ k1 =>
    have H := HA.out
    clear HA
    simp only [reevelaw21_sameInts.l0] at H
    by_cases c4 : x5_1 < (l0.length : Int)
    ·rw [if_pos c4] at H
     have c4b0 : decide (x5_1 < (l0.length : Int)) = true := decide_eq_true c4
     clear c4
     by_cases c5 : 0 ≤ x5_1
     ·rw [if_pos c5] at H
      have c5b0 : decide (0 ≤ x5_1) = true := decide_eq_true c5
      clear c5
      by_cases c6 : x5_1 < (l1.length : Int)
      ·rw [if_pos c6] at H
       have c6b0 : decide (x5_1 < (l1.length : Int)) = true := decide_eq_true c6
       clear c6
       by_cases c7 : (rd l0 x5_1) = (rd l1 x5_1)
       ·rw [if_pos c7] at H
        have c7b0 : ((rd l0 x5_1) == (rd l1 x5_1)) = true := beq_iff_eq.mpr c7
        have c7b1 : ((rd l0 x5_1) != (rd l1 x5_1)) = false := bne_eq_false_iff_eq.mpr c7
        clear c7
        have H' := Aside0.mk H
        clear H
        have p541 : 0 ≤ (x5_1 : Int) := of_decide_eq_true (by first | (with_reducible assumption) | assumption)
        have q541 : x5_1 < (l0.length : Int) := of_decide_eq_true (by first | (with_reducible assumption) | assumption)
        obtain ⟨ad541, e541, hx541_0⟩ := Kd.at_int HR0.out x5_1 p541 q541
        cases e541
        replace p541 := eq_true p541
        replace q541 := eq_true q541
        have p542 : 0 ≤ (x5_1 : Int) := of_decide_eq_true (by first | (with_reducible assumption) | assumption)
        have q542 : x5_1 < (l1.length : Int) := of_decide_eq_true (by first | (with_reducible assumption) | assumption)
        obtain ⟨ad542, e542, hx542_0⟩ := Kd.at_int HR1.out x5_1 p542 q542
        cases e542
        replace p542 := eq_true p542
        replace q542 := eq_true q542
        go_wp2
        repeat (go_quiet (fail); try go_wp2)
        go_roundg k1
        case measure => have := HK1.out; omega
        case rel => exact ⟨(wrap64 (x5_1 + 1)), (by first | rfl | (simp; done) | (simp [*]; done) | (simp [Int.tdiv_eq_ediv_of_nonneg]; done)), H', ⟨by have := HK1.out; omega⟩, by repeat (first | exact Drawn0.refl _ | apply Drawn0.step)⟩
       ·rw [if_neg c7] at H
        have c7b0 : ((rd l0 x5_1) == (rd l1 x5_1)) = false := beq_eq_false_iff_ne.mpr c7
        have c7b1 : ((rd l0 x5_1) != (rd l1 x5_1)) = true := bne_iff_ne.mpr c7
        obtain rfl := Option.some.inj H
        have p541 : 0 ≤ (x5_1 : Int) := of_decide_eq_true (by first | (with_reducible assumption) | assumption)
        have q541 : x5_1 < (l0.length : Int) := of_decide_eq_true (by first | (with_reducible assumption) | assumption)
        obtain ⟨ad541, e541, hx541_0⟩ := Kd.at_int HR0.out x5_1 p541 q541
        cases e541
        replace p541 := eq_true p541
        replace q541 := eq_true q541
        have p542 : 0 ≤ (x5_1 : Int) := of_decide_eq_true (by first | (with_reducible assumption) | assumption)
        have q542 : x5_1 < (l1.length : Int) := of_decide_eq_true (by first | (with_reducible assumption) | assumption)
        obtain ⟨ad542, e542, hx542_0⟩ := Kd.at_int HR1.out x5_1 p542 q542
        cases e542
        replace p542 := eq_true p542
        replace q542 := eq_true q542
        go_wp2
        repeat (go_quiet (fail); try go_wp2)
        go_ret
        exact ⟨by first | rfl | (simp; done) | (simp [*]; done), by repeat (first | exact Drawn0.refl _ | apply Drawn0.step)⟩
      ·rw [if_neg c6] at H
       exact absurd H (by simp)
     ·rw [if_neg c5] at H
      exact absurd H (by simp)
    ·rw [if_neg c4] at H
     have c4b0 : decide (x5_1 < (l0.length : Int)) = false := decide_eq_false c4
     clear c4
     obtain rfl := Option.some.inj H
     go_wp2
     repeat (go_quiet (fail); try go_wp2)
     go_ret
     exact ⟨by first | rfl | (simp; done) | (simp [*]; done), by repeat (first | exact Drawn0.refl _ | apply Drawn0.step)⟩
 ·rw [if_neg c3] at H
  have c3b0 : ((l0.length : Int) == (l1.length : Int)) = false := beq_eq_false_iff_ne.mpr c3
  have c3b1 : ((l0.length : Int) != (l1.length : Int)) = true := bne_iff_ne.mpr c3
  have c3b2 : (l0.length == l1.length) = false := by first | simpa using c3 | (simp at c3 ⊢; omega)
  obtain rfl := Option.some.inj H
  go_enter Try.func29, Try.ntmps29
  go_wp2
  repeat (go_quiet (fail); try go_wp2)
  go_ret
  exact ⟨by first | rfl | (simp; done) | (simp [*]; done), by repeat (first | exact Drawn0.refl _ | apply Drawn0.step)⟩

-- NOT PRINTED: function 6 (reevelaw21_BeatCounts)

end Go.Proofs.YtkilnknndglmnaaP
end

section
/- What the reference Beats answers; rows of numbers compared. -/
namespace Go.Proofs.YtkilnknndglmnaaP
open Go.RowKit Go.Proofs.Ytkilnknndglmnaa Go.Proofs.YtkilnknndglmnaaW.PrintWords

/-! ### Beats -/
def mtB (r : Nat → Nat) (n : Nat) : Prop := ∀ i, i < n → mt r n i ≤ 16000000
theorem sN_part {n i : Nat} (h : i ≤ n) (f : Nat → Nat) : sN i f ≤ sN n f := by
  induction n with
  | zero => rw [show i = 0 by omega]; exact Nat.le_refl _
  | succ n ih =>
    rcases Nat.lt_or_ge n i with h2 | h2
    · rw [show i = n + 1 by omega]; exact Nat.le_refl _
    · exact Nat.le_trans (ih h2) (Nat.le_add_right _ _)
theorem ref_pair_inner (r : Nat → Nat) (row : List Int) (n : Nat) (hrow : row = (List.range n).map fun p => (r p : Int)) (h2 : n ≤ 32) (hb : mtB r n) (i : Nat) (hi : i < n) (res : List Int × List Int × Int)
    (hr : Ev (fun q => reeveref21_Beats.l2 q (n : Int) row (upd 0 (List.replicate n 0) (fun p => (mt r n p : Int)) (i + 1)) ((i + 1 : Nat) : Int)) res) :
    ∀ (d j : Nat), n - j = d → j ≤ n → Ev (fun q => reeveref21_Beats.l3 q (n : Int) row ((upd 0 (List.replicate n 0) (fun p => (mt r n p : Int)) i).set i (sN j (fun q => r q * r ((q + i) % n)) : Int)) (i : Int) (j : Int)) res := by
  have hlen : ∀ v : Int, ((upd 0 (List.replicate n 0) (fun p => (mt r n p : Int)) i).set i v).length = n := fun v => by rw [List.length_set, upd_len, List.length_replicate]
  have hrl : row.length = n := by rw [hrow]; simp
  have hat : ∀ p, p < n → rd row (p : Int) = (r p : Int) := fun p hp => by rw [hrow]; simp [rd, hp]
  intro d
  induction d with
  | zero =>
    intro j hd hj
    have ej : j = n := by omega
    subst ej
    refine Ev.step (fun q => ?_) hr
    simp only [reeveref21_Beats.l3]
    rw [if_neg (by omega), w64 (x := (i : Int) + 1) (by omega) (by omega), ← upd_step]
    rfl
  | succ d ih =>
    intro j hd hj
    have hjn : j < n := by omega
    have hm : (j + i) % n < n := Nat.mod_lt _ (by omega)
    have hpart := sN_part (n := n) (i := j + 1) (by omega) (fun q => r q * r ((q + i) % n))
    have hbi := hb i hi
    unfold mt at hbi
    have e1 : Int.tmod (wrap64 ((j : Int) + (i : Int))) (n : Int) = (((j + i) % n : Nat) : Int) := by
      rw [w64 (by omega) (by omega), Int.tmod_eq_emod_of_nonneg (by omega), show (j : Int) + (i : Int) = ((j + i : Nat) : Int) by omega, ← Int.natCast_emod]
    have hcell : rd ((upd 0 (List.replicate n 0) (fun p => (mt r n p : Int)) i).set i (sN j (fun q => r q * r ((q + i) % n)) : Int)) (i : Int) = (sN j (fun q => r q * r ((q + i) % n)) : Int) := by
      have hu : i < (upd 0 (List.replicate n 0) (fun p => (mt r n p : Int)) i).length := by rw [upd_len, List.length_replicate]; exact hi
      simp [rd, hu]
    simp only [sN] at hpart
    have e2 : wrap64 ((sN j (fun q => r q * r ((q + i) % n)) : Int) + wrap64 ((r j : Int) * (r ((j + i) % n) : Int))) = (sN (j + 1) (fun q => r q * r ((q + i) % n)) : Int) := by
      rw [← Int.natCast_mul]
      show _ = ((sN j (fun q => r q * r ((q + i) % n)) + r j * r ((j + i) % n) : Nat) : Int)
      generalize r j * r ((j + i) % n) = a at hpart ⊢
      rw [w64 (x := (a : Int)) (by clear e1; omega) (by clear e1; omega)]
      exact (w64 (by clear e1; omega) (by clear e1; omega)).trans (by clear e1; omega)
    refine Ev.step (fun q => ?_) (ih (j + 1) (by clear e1 e2; omega) (by clear e1 e2; omega))
    have hl := hlen (sN j (fun q => r q * r ((q + i) % n)) : Int)
    simp only [reeveref21_Beats.l3]
    rw [hl, hrl, if_pos (by clear e1 e2; omega), if_pos (by clear e1 e2; omega), if_pos (by clear e1 e2; omega), if_pos (by clear e1 e2; omega), if_pos (by clear e1 e2; omega), if_neg (by clear e1 e2; omega), e1, if_pos (by clear e1 e2; omega), if_pos (by clear e1 e2; omega), hcell, hat j hjn, hat _ hm, e2, Int.toNat_natCast, List.set_set, w64 (x := (j : Int) + 1) (by clear e1 e2; omega) (by clear e1 e2; omega)]
    rfl
theorem ref_pair_outer (r : Nat → Nat) (row : List Int) (n : Nat) (hrow : row = (List.range n).map fun p => (r p : Int)) (h2 : n ≤ 32) (hb : mtB r n) :
    ∀ (d i : Nat), n - i = d → i ≤ n → Ev (fun q => reeveref21_Beats.l2 q (n : Int) row (upd 0 (List.replicate n 0) (fun p => (mt r n p : Int)) i) (i : Int)) (row, (List.range n).map (fun i => (mt r n i : Int)), 0) := by
  intro d
  induction d with
  | zero =>
    intro i hd hi
    have ei : i = n := by omega
    subst ei
    refine ev_now fun q => ?_
    have h := upd_full 0 (List.replicate i 0) (fun p => (mt r i p : Int))
    rw [List.length_replicate] at h
    simp only [reeveref21_Beats.l2]
    rw [if_neg (by omega), h]
  | succ d ih =>
    intro i hd hi
    have hi2 : i < n := by omega
    have hin := ref_pair_inner r row n hrow h2 hb i hi2 _ (ih (i + 1) (by omega) (by omega)) _ 0 rfl (by omega)
    have e0 : (upd 0 (List.replicate n 0) (fun p => (mt r n p : Int)) i).set i ((sN 0 (fun q => r q * r ((q + i) % n)) : Nat) : Int) = upd 0 (List.replicate n 0) (fun p => (mt r n p : Int)) i := by
      apply List.ext_getElem (by simp)
      intro p h1 h3
      rw [List.getElem_set]
      by_cases e : i = p
      · subst e
        simp [upd, sN, hi2]
      · rw [if_neg e]
    rw [e0] at hin
    refine Ev.step (fun q => ?_) hin
    simp only [reeveref21_Beats.l2]
    rw [if_pos (by omega)]
    rfl
theorem ref_count (l : List S49) (v : Int) (w n : Nat) (hg : ∀ x ∈ l, 0 ≤ x.f0 ∧ x.f0 ≤ 1099511627776) (hl : l.length ≤ 4000) (hw : 1 ≤ w) (hw2 : w ≤ 1048576) (hn : 1 ≤ n) (hn2 : n ≤ 32) (r : List Int × List Int × Int)
    (hr : Ev (fun k => reeveref21_Beats.l1 k l v (w : Int) (n : Int) (rowL l v w n) (l.length : Int)) r) : ∀ (d i : Nat), l.length - i = d → i ≤ l.length →
    Ev (fun k => reeveref21_Beats.l1 k l v (w : Int) (n : Int) (rowL (l.take i) v w n) (i : Int)) r := by
  intro d
  induction d with
  | zero =>
    intro i hd hi
    have ei : i = l.length := by omega
    subst ei
    rw [List.take_length]
    exact hr
  | succ d ih =>
    intro i hd hi
    have hlt : i < l.length := by omega
    have hrd : rd_T49 l (i : Int) = l[i] := by simp [rd_T49, hlt]
    obtain ⟨g0, g1⟩ := hg l[i] (List.getElem_mem hlt)
    have hph : Int.tmod (wrap64 (Int.tdiv l[i].f0 (w : Int))) (n : Int) = (phN l[i] w n : Int) := by
      unfold phN
      generalize l[i].f0 = t at g0 g1 ⊢
      obtain ⟨t', rfl⟩ : ∃ t' : Nat, t = (t' : Int) := ⟨t.toNat, by omega⟩
      have hle := Nat.div_le_self t' w
      rw [Int.tdiv_eq_ediv_of_nonneg (by omega), ← Int.natCast_ediv]
      generalize hq : t' / w = q at hle ⊢
      rw [w64 (by omega) (by omega), Int.tmod_eq_emod_of_nonneg (by omega), ← Int.natCast_emod, Int.toNat_natCast, hq]
    have hpl : phN l[i] w n < n := Nat.mod_lt _ (by omega)
    refine Ev.step (fun k => ?_) (ih (i + 1) (by omega) (by omega))
    have htk : l.take (i + 1) = l.take i ++ [l[i]] := List.take_succ_eq_append_getElem hlt
    rw [htk]
    simp only [reeveref21_Beats.l1]
    rw [if_pos (by omega), if_pos (by omega), hrd]
    by_cases hv : l[i].f3 = v
    · rw [if_pos hv, if_neg (by omega), if_neg (by omega), hph, if_pos (by omega), if_pos (by rw [rowL_len]; omega), rd_rowL _ _ _ hpl, w64 (x := (i : Int) + 1) (by omega) (by omega), w64 (x := (cnt (l.take i) v w n (phN l[i] w n) : Int) + 1) (by omega) (by have := cnt_le (l.take i) v w n (phN l[i] w n); rw [List.length_take] at this; omega), Int.toNat_natCast, rowL_step _ _ _ _ _ hv]
      rfl
    · rw [if_neg hv, w64 (x := (i : Int) + 1) (by omega) (by omega), rowL_skip _ _ _ _ _ hv]
      rfl
theorem ref_ticks (l : List S49) (v w n : Int) (hl : l.length ≤ 4000) (r : List Int × List Int × Int)
    (hr : l.any (fun x => badT x.f0) = false → Ev (fun k => reeveref21_Beats.l0 k l v w n (l.length : Int)) r) (he : l.any (fun x => badT x.f0) = true → r = ([], [], 1)) : ∀ (d i : Nat), l.length - i = d → i ≤ l.length → (l.take i).any (fun x => badT x.f0) = false →
    Ev (fun k => reeveref21_Beats.l0 k l v w n (i : Int)) r := by
  intro d
  induction d with
  | zero =>
    intro i hd hi hb
    have ei : i = l.length := by omega
    subst ei
    rw [List.take_length] at hb
    exact hr hb
  | succ d ih =>
    intro i hd hi hb
    have hlt : i < l.length := by omega
    have hrd : rd_T49 l (i : Int) = l[i] := by simp [rd_T49, hlt]
    rcases Bool.eq_false_or_eq_true (badT l[i].f0) with hx | hx
    · have hall : l.any (fun x => badT x.f0) = true := List.any_eq_true.2 ⟨l[i], List.getElem_mem hlt, hx⟩
      rw [he hall]
      refine ev_now fun k => ?_
      simp only [reeveref21_Beats.l0]
      rw [if_pos (by omega), if_pos (by omega), hrd]
      by_cases c : l[i].f0 < 0
      · rw [if_pos c]
      · have : l[i].f0 > 1099511627776 := by
          unfold badT at hx
          rw [decide_eq_true_iff] at hx
          omega
        rw [if_neg c, if_pos this]
    · have hx2 := badT_iff.1 hx
      have htk : (l.take (i + 1)).any (fun x => badT x.f0) = false := by
        rw [List.take_succ_eq_append_getElem hlt, List.any_append, hb]
        simp [hx]
      refine Ev.step (fun k => ?_) (ih (i + 1) (by omega) (by omega) htk)
      simp only [reeveref21_Beats.l0]
      rw [if_pos (by omega), if_pos (by omega), hrd, if_neg (by omega), if_neg (by omega), w64 (x := (i : Int) + 1) (by omega) (by omega)]
      rfl
theorem ref_beats (l : List S49) (v w n : Int) : Ev (fun k => reeveref21_Beats.f k l v w n) (beatsP l v w n) := by
  unfold beatsP beatsE
  by_cases c1 : 4000 < l.length
  · rw [if_pos c1]
    refine ev_now fun k => ?_
    unfold reeveref21_Beats.f
    rw [if_pos (by omega)]
    rfl
  rw [if_neg c1]
  by_cases c2 : v < 0 ∨ 2 < v ∨ w < 1 ∨ 1048576 < w
  · rw [if_pos c2]
    refine ev_now fun k => ?_
    unfold reeveref21_Beats.f
    rw [if_neg (by omega)]
    by_cases d1 : v < 0
    · rw [if_pos d1]; simp [reeveref21_Beats.j0]
    rw [if_neg d1]
    by_cases d2 : v > 2
    · rw [if_pos d2]; simp [reeveref21_Beats.j0]
    rw [if_neg d2]
    by_cases d3 : w < 1
    · rw [if_pos d3]; simp [reeveref21_Beats.j0]
    rw [if_neg d3, decide_eq_true (by omega)]
    simp [reeveref21_Beats.j0]
  rw [if_neg c2]
  have e1 : ∀ k, reeveref21_Beats.f k l v w n = reeveref21_Beats.j0 k l v w n false := fun k => by
    unfold reeveref21_Beats.f
    rw [if_neg (by omega), if_neg (by omega), if_neg (by omega), if_neg (by omega), decide_eq_false (by omega)]
  refine Ev.congr e1 ?_
  cases hb : lenI n with
  | false =>
    refine ev_now fun k => ?_
    simp only [reeveref21_Beats.j0]
    rw [ref_turns, hb]
    rfl
  | true =>
    have hb' := hb
    unfold lenI at hb'
    rw [Bool.and_eq_true, decide_eq_true_iff] at hb'
    obtain ⟨hn0, hb1⟩ := hb'
    have hl := lenB_iff.1 hb1
    have hsm := len_small hl
    obtain ⟨n', rfl⟩ : ∃ n' : Nat, n = (n' : Int) := ⟨n.toNat, by omega⟩
    obtain ⟨w', rfl⟩ : ∃ w' : Nat, w = (w' : Int) := ⟨w.toNat, by omega⟩
    rw [Int.toNat_natCast] at hb1 hl hsm
    simp only [Int.toNat_natCast, Bool.true_eq_false, if_false]
    have hmt : mtB (cnt l v w' n') n' := fun i _ => by
      have := mt_le l v w' (n := n') (by omega) i
      have h4 : l.length * l.length ≤ 4000 * 4000 := Nat.mul_le_mul (by omega) (by omega)
      omega
    have h0 := ref_ticks l v (w' : Int) (n' : Int) (by omega) (if (if l.any (fun x => badT x.f0) then (1 : Int) else 0) = 0 then (rowL l v w' n', meetsL l v w' n', 0) else ([], [], if l.any (fun x => badT x.f0) then 1 else 0)) (fun ha => by
      rw [ha]
      have hg : ∀ x ∈ l, 0 ≤ x.f0 ∧ x.f0 ≤ 1099511627776 := fun x hx => by
        rw [List.any_eq_false] at ha
        exact badT_iff.1 (by simpa using ha x hx)
      simp only [Bool.false_eq_true, if_false, if_true]
      have h3 := ref_pair_outer (cnt l v w' n') (rowL l v w' n') n' rfl (by omega) hmt _ 0 rfl (by omega)
      rw [upd_zero] at h3
      have h1 := ref_count l v w' n' hg (by omega) (by omega) (by omega) (by omega) (by omega) (rowL l v w' n', meetsL l v w' n', 0) (by
        refine Ev.step (fun k => ?_) h3
        simp only [reeveref21_Beats.l1]
        rw [if_neg (by omega), if_pos (by omega), if_pos (by omega), Int.toNat_natCast]
        rfl) _ 0 rfl (by omega)
      rw [List.take_zero, rowL_nil] at h1
      refine Ev.step (fun k => ?_) h1
      simp only [reeveref21_Beats.l0]
      rw [if_neg (by omega), if_pos (by omega), if_pos (by omega), Int.toNat_natCast]
      rfl) (fun ha => by rw [ha]; rfl) _ 0 rfl (by omega) rfl
    refine Ev.step (fun k => ?_) h0
    simp only [reeveref21_Beats.j0]
    rw [ref_turns, hb]
    rfl

/-! ### Rows of numbers compared -/
theorem ints_loop (a : List Int) (hm : a.length ≤ 4000000000) : ∀ (d i : Nat), a.length - i = d → i ≤ a.length → Ev (fun k => reevelaw21_sameInts.l0 k a a (i : Int)) true := by
  intro d
  induction d with
  | zero =>
    intro i hd hi
    refine ev_now fun k => ?_
    simp only [reevelaw21_sameInts.l0]
    rw [if_neg (by omega)]
  | succ d ih =>
    intro i hd hi
    refine Ev.step (fun k => ?_) (ih (i + 1) (by omega) (by omega))
    simp only [reevelaw21_sameInts.l0]
    rw [if_pos (by omega), if_pos (by omega), if_pos (by omega), w64 (by omega) (by omega)]
    simp only [if_true]
    rfl
theorem ints_f (a : List Int) (hm : a.length ≤ 4000000000) : Ev (fun k => reevelaw21_sameInts.f k a a) true := by
  refine Ev.congr (fun k => ?_) (ints_loop a hm _ 0 rfl (by omega))
  unfold reevelaw21_sameInts.f
  rw [if_pos rfl]
  rfl
#print axioms ref_beats
end Go.Proofs.YtkilnknndglmnaaP
end

section
/- Rows cut one short; an empty row with room. -/
namespace Go.Proofs.YtkilnknndglmnaaP
open Go.Proofs.Ytkilnknndglmnaa (G fl IsS isSB okC okF okC_iff encC kcx at_cx md red run_cmul run_cadd run_csub run_fint lit_one lit_zero tdiv_32 run_store_cx)
attribute [local go_sem] run_cmul run_cadd run_csub run_fint lit_one lit_zero tdiv_32 run_store_cx
open Go.RowKit Go.Proofs.YtkilnknndglmnaaW.PrintWords Go.Proofs.YtkilnknndglmnaaW.PrintLast Go.Proofs.YtkilnknndglmnaaW.PrintMore
attribute [local go_sem] max2_int min2_int max_two min_two max_three min_three max_four min_four
set_option linter.unusedVariables false
set_option linter.unusedSimpArgs false

theorem k26_heap : Kd.Heap k26 := Kd.heap_iso _ (Kd.heap_pair (Kd.heap_int .i64) (Kd.heap_int .i64))
theorem k49_heap : Kd.Heap k49 := Kd.heap_iso _ (Kd.heap_pair (Kd.heap_int .i64) (Kd.heap_pair Kd.heap_string (Kd.heap_pair (Kd.heap_int .i64) (Kd.heap_int .i64))))
/-- A slice with its last element cut off. -/
def shortV : Value → Value
  | .slice A n c => .slice A (n - 1) c
  | v => v
section
variable {P : Program} {a : Act} {o : Oper} {ops : Array Oper} {rest : List Oper} {Q : Exit → Act → World → Prop}
theorem cut_up (t e : TypeId) (kh : IntKind) {i : TypeInfo} (ht : P.underlying t = some (.slice e)) (hi : P.info? e = some i) (A : Option Addr) (n c : Nat) (j : Int) (h0 : 0 ≤ j) (hm : j ≤ c) :
    ∀ W : World, (Instr.slice t (.slice A n c) none (some (.int kh j)) none).run P W = .ok (.slice A j.toNat c) W := by
  intro W
  have hel : P.elem t = e := by simp [Program.elem, ht]
  have hu : P.underlying t = some (.slice (P.elem t)) := by rw [hel]; exact ht
  have ha : (A.map fun x => x.add 0) = A := by cases A <;> simp [Addr.add]
  rw [run_slice_h W t A n c hu kh j h0 hm, hel]
  simp [sizeOf, typeInfo, hi, sliced, Result.andThen, ha]
/-- make([]T, 0, n): an empty row of one's own. -/
theorem make_none {α : Type} (d : Kd α) {w0 W : World} (base e : Nat) (hgd : o.guard = none) {N : Tmp} (_hd : o.dst = some N) (t : TypeId) (x y : Operand) (ho : o.op = .makeSlice t x y) (n : Int) (hx : a.eval x = .int .i64 0) (hy : a.eval y = .int .i64 n)
    (ht : P.underlying t = some (.slice e)) (z : Value) (bytes : Nat) (hinfo : (P.info? e).map (fun i => (i.zero, i.size, i.bytes)) = some (some z, d.sz, bytes)) (hz : z.cells.size = d.sz) (hs0 : 0 < d.sz) (hb0 : 0 < bytes)
    (z0 : α) {ok okp : Nat → Prop} (hzero : d.M W base okp z0 z.cells.toList) (hok : ∀ k, okp k → ok k) (hfresh : ok W.heap.size) (h0 : 0 ≤ n) (hl : n.toNat * bytes ≤ 281474976710656) (HB : Below base w0 W) (hbase : base ≤ W.heap.size)
    (h : ∀ v1 w1, d.R e w1 base ok v1 [] → Below base w0 w1 → wpList P ops Q rest (a.put o.dst v1) w1) : wpList P ops Q (o :: rest) a W := by
  obtain ⟨m, rfl⟩ := Int.eq_ofNat_of_zero_le h0
  simp only [Int.toNat_natCast] at hl
  obtain ⟨i0, hi, hzz⟩ := Option.map_eq_some_iff.1 hinfo
  simp only [Prod.mk.injEq] at hzz
  obtain ⟨hz0, hz1, hz2⟩ := hzz
  have hm : m ≤ 281474976710656 := Nat.le_trans (Nat.le_mul_of_pos_right _ hb0) hl
  have hr := run_make (P := P) W t e i0 z ht hi hz0 .i64 .i64 (0 : Int) (m : Int) (by omega) (by omega)
    (by
      have h3 : ((i0.bytes * m : Nat) : Int) ≤ 281474976710656 := by rw [hz2, Nat.mul_comm]; omega
      rwa [Int.natCast_mul] at h3) (by omega)
  simp only [Int.toNat_natCast] at hr
  rw [hz1] at hr
  have hrun : (execOp a.eval o).run P W = .ok (.value (.slice (some ⟨W.heap.size, 0, none⟩) 0 m)) (W.alloc (.cells (madeCells z.cells (m * d.sz)) e)) := by simp [execOp, ho, hx, hy, hr]
  have hrep := Kd.reps_made (R := d.M W base okp) hz hs0 hzero m
  have hfull : d.R e (W.alloc (.cells (madeCells z.cells (m * d.sz)) e)) base ok (.slice (some ⟨W.heap.size, 0, none⟩) m m) (List.replicate m z0) := by
    refine ⟨fun k hk => ?_, (madeCells z.cells (m * d.sz)).toList, ?_, ?_⟩
    · have : W.heap.size = k := by simpa [Value.ownBlock] using hk
      subst this
      exact hfresh
    · have h2 := World.ownsRow_lit (base := base) (e := e) (size := d.sz) W (madeCells z.cells (m * d.sz)) m hbase (by simp [maxLen]; omega) (by simpa using hrep.1)
      simpa using h2
    · refine hrep.imp_ (fun p c hp => d.M_mono (fun k hk => ⟨hok k hk.1, fun he => ?_⟩) (Kd.M_below (d.M_bound hp) (below_alloc (Below.refl _ _) _)))
      have h3 : k = W.heap.size := by simpa [Value.ownBlock] using he
      have := hk.2.2.1
      omega
  have hnone := Kd.R_take (m := 0) hfull (Nat.zero_le _)
  rw [List.take_zero] at hnone
  exact Kd.event_run hgd hrun (h _ _ hnone (HB.alloc hbase _))
end
theorem C_last {α : Type} {k : Kd α} {w : World} {A : Option Addr} {l : List α} (h : Kd.C k w A l.length l) : Kd.C k w A l.dropLast.length l.dropLast := by
  have h2 := Kd.C_take (m := l.length - 1) h (by omega)
  rw [List.dropLast_eq_take]
  exact h2

end Go.Proofs.YtkilnknndglmnaaP
end

section
/- A row lent with a mark behind it, and taken back: Lent and Kept, of records. -/
namespace Go.Proofs.YtkilnknndglmnaaP
open Go.Proofs.Ytkilnknndglmnaa (G fl IsS isSB okC okF okC_iff encC kcx at_cx md red run_cmul run_cadd run_csub run_fint lit_one lit_zero tdiv_32 run_store_cx)
attribute [local go_sem] run_cmul run_cadd run_csub run_fint lit_one lit_zero tdiv_32 run_store_cx
open Go.RowKit Go.Proofs.YtkilnknndglmnaaW.PrintWords Go.Proofs.YtkilnknndglmnaaW.PrintLast Go.Proofs.YtkilnknndglmnaaW.PrintMore
attribute [local go_sem] max2_int min2_int max_two min_two max_three min_three max_four min_four
set_option linter.unusedVariables false
set_option linter.unusedSimpArgs false

theorem eqA49 (d : Nat) (w : World) (x0 y0 : Int) (x1 y1 : ByteArray) (x2 y2 : Int) (x3 y3 : Int) :
    (Op.equalIn (d + 2) 49 (.agg #[.int .i64 x0, .string x1, .int .i64 x2, .int .i64 x3]) (.agg #[.int .i64 y0, .string y1, .int .i64 y2, .int .i64 y3])).run Try.prog w = .ok (x0 == y0 && (x1.toList == y1.toList && (x2 == y2 && (x3 == y3)))) w := by
  refine eqA_of Try.underlying49 (by kernel_rfl) ?_
  refine eqf_cons (by rfl) (by go_simp; rfl) (by go_simp; rfl) (by go_simp) ?_
  refine eqf_cons (by rfl) (by go_simp; rfl) (by go_simp; rfl) (by go_simp) ?_
  refine eqf_cons (by rfl) (by go_simp; rfl) (by go_simp; rfl) (by go_simp) ?_
  exact eqf_last (by rfl) (by go_simp; rfl) (by go_simp; rfl) (by go_simp)
attribute [local go_sem high] eqA49
/-! ### reevelaw16_Lent: function 26 -/
def reevelaw16_Lent.f (l0 : List (S49)) : Option ((List (S49))) := if ([] : List (S49)).length + l0.length < 3518437208883 then ((some (([] : List (S49)) ++ l0 : List (S49))).bind fun y243 => (if y243.length < 3518437208883 then (some (y243 ++ [(⟨(-77), (⟨#[]⟩ : ByteArray), 0, 0⟩ : S49)])) else (none))) else (none)
set_option maxHeartbeats 8000000 in
set_option maxRecDepth 100000 in
theorem reevelaw16_Lent.calls (A0 : Option Addr) (c0 : Nat) (l0 : List (S49)) (r : List (S49)) (w : World) (hr0 : Kd.C k49 w A0 l0.length l0) (hc0 : l0.length ≤ c0) (h : reevelaw16_Lent.f l0 = some r) :
    Calls Try.prog 26 #[.slice A0 l0.length c0] w fun e w' => ∃ v0_ : Value, e = .returned (shortV v0_) ∧ Kd.R k49 49 w' w.heap.size (fun _ => True) v0_ r ∧ Below w.heap.size w w' := by
  have hu49 := Try.underlying49
  have HR0 := Aside0.mk hr0
  have HC0 := Aside0.mk hc0
  clear hr0 hc0
  have HB := Aside0.mk (Below.refl w.heap.size w)
  have H : (if ([] : List (S49)).length + l0.length < 3518437208883 then ((some (([] : List (S49)) ++ l0 : List (S49))).bind fun y243 => (if y243.length < 3518437208883 then (some (y243 ++ [(⟨(-77), (⟨#[]⟩ : ByteArray), 0, 0⟩ : S49)])) else (none))) else (none)) = some r := h
  clear h
  by_cases c2 : ([] : List (S49)).length + l0.length < 3518437208883
  · rw [if_pos c2] at H
    have LMc2 := Aside0.mk c2
    clear c2
    obtain ⟨y243, hy243⟩ : ∃ y_ : List (S49), y_ = (([] : List (S49)) ++ l0) := ⟨_, rfl⟩
    replace H : (if y243.length < 3518437208883 then (some (y243 ++ [(⟨(-77), (⟨#[]⟩ : ByteArray), 0, 0⟩ : S49)])) else (none)) = some r := by first | (rw [hy243]; with_reducible exact H) | (have H2_ := (Option.bind_some _ _).symm.trans H; rw [hy243]; with_reducible exact H2_) | (have H2_ := (Option.bind_some _ _).symm.trans H; with_reducible exact H2_) | with_reducible exact H | (rw [hy243]; exact H) | exact H
    have Ny243 := Aside0.mk hy243
    clear hy243
    by_cases c3 : y243.length < 3518437208883
    · rw [if_pos c3] at H
      have LMc3 := Aside0.mk c3
      clear c3
      obtain ⟨y246, hy246⟩ : ∃ y_ : List (S49), y_ = (y243 ++ [(⟨(-77), (⟨#[]⟩ : ByteArray), 0, 0⟩ : S49)]) := ⟨_, rfl⟩
      replace H : (some y246) = some r := by first | (rw [hy246]; with_reducible exact H) | (have H2_ := (Option.bind_some _ _).symm.trans H; rw [hy246]; with_reducible exact H2_) | (have H2_ := (Option.bind_some _ _).symm.trans H; with_reducible exact H2_) | with_reducible exact H | (rw [hy246]; exact H) | exact H
      have Ny246 := Aside0.mk hy246
      clear hy246
      obtain rfl := Option.some.inj H
      have hc2_ : l0.length < 3518437208883 ∨ l0.length < 8796093022208 := by
        have := LMc2.out
        simp only [List.length_nil, Nat.zero_add] at this
        omega
      obtain ⟨jm, hjm⟩ : ∃ j_ : Int, (wrap64 ((l0.length : Int) + 1)) = j_ := ⟨_, rfl⟩
      have hjmw : (IntKind.i64.wrap ((l0.length : Int) + 1)) = jm := (i64_w _).trans hjm
      have hjv : jm = ((l0.length + 1 : Nat) : Int) := by
        rw [← hjm]
        unfold wrap64
        omega
      have HJ0 := Aside0.mk (show 0 ≤ jm by omega)
      have HJ1 := Aside0.mk (show jm.toNat * 40 ≤ 281474976710656 by
        have := LMc2.out
        simp only [List.length_nil, Nat.zero_add] at this
        omega)
      clear hjv hc2_
      have HLN := Aside0.mk (show y246.length = l0.length + 1 by rw [Ny246.out, Ny243.out]; simp)
      go_enter Try.func26, Try.ntmps26
      go_wp2_with (first | ((with_reducible refine gate_dst (N := 7) rfl ?_); refine make_none k49 _ 49 rfl (N := 7) rfl 39 _ _ rfl jm rfl rfl Try.underlying39 (.agg #[(.int .i64 0), (.string ⟨#[]⟩), (.int .i64 0), (.int .i64 0)]) 40 info49 rfl (by decide) (by omega) z49 (ok := fun _ => True) (okp := fun _ => True) (k49_mkM _ _ _ z49) (fun _ hk => hk) trivial HJ0.out HJ1.out (Below.refl _ _) (Nat.le_refl _) ?_; intro vm wm ho hb; have n0_ := Aside0.mk (Kd.R_lower ho (below_size (by repeat (first | (with_reducible first | exact HB.out | apply below_alloc | apply pw_below_drewN | apply below_drew1) | exact HB.out)))); have n1_ := Aside0.mk (below_step (by repeat (first | (with_reducible first | exact HB.out | apply below_alloc | apply pw_below_drewN | apply below_drew1) | exact HB.out)) hb); clear HB; have HOm := n0_; have HB := n1_; clear n0_ n1_; clear ho hb) | ((with_reducible refine gate_builtin (b := .append) (xs := #[.tmp 7, .tmp 8]) rfl ?_); at_builtin; refine Kd.R_append_rows k49 (w0 := w) w.heap.size rfl (.tmp 7) (.tmp 8) 39 49 (.agg #[(.int .i64 0), (.string ⟨#[]⟩), (.int .i64 0), (.int .i64 0)]) 40 rfl Try.underlying39 info49 rfl (by decide) (by omega) vm ([] : List (S49)) l0 _ _ _ (fun _ => True) (fun _ => False) rfl rfl ?aO ?aR (fun _ _ h => h) (fun _ h => h.elim) ?aF ?aB ?aS ?aL ?_; (case aR => repeat (first | exact Kd.C_below HR0.out (by repeat (first | (with_reducible first | exact HB.out | apply below_alloc | apply pw_below_drewN | apply below_drew1) | exact HB.out)) | (with_reducible refine Kd.C_alloc ?_ _) | (with_reducible refine Kd.C_drewN ?_ _) | (with_reducible refine Kd.C_drew ?_))); (case aB => exact (by repeat (first | (with_reducible first | exact HB.out | apply below_alloc | apply pw_below_drewN | apply below_drew1) | exact HB.out))); (case aF => exact (fun _ _ => trivial)); (case aO => exact (by (with_reducible repeat (first | apply Kd.R_alloc | apply Kd.R_drewN | apply Kd.R_drew)); exact HOm.out)); (case aS => exact (below_size (by repeat (first | (with_reducible first | exact HB.out | apply below_alloc | apply pw_below_drewN | apply below_drew1) | exact HB.out)))); (case aL => have := LMc2.out; omega); intro v244 w4 ho hb hg hat; rw [← Ny243.out] at ho; have n0_ := Aside0.mk (hb); have n1_ := Aside0.mk (ho); clear HB; have HB := n0_; have HO245 := n1_; clear n0_ n1_; clear ho hb hg hat) | ((with_reducible refine gate_builtin (b := .append) (xs := #[.tmp 10, .tmp 12]) rfl ?_); at_builtin; refine Kd.R_append k49 (w0 := w) w.heap.size rfl (.tmp 10) (.tmp 12) 39 49 (.agg #[(.int .i64 0), (.string ⟨#[]⟩), (.int .i64 0), (.int .i64 0)]) 40 rfl Try.underlying39 info49 rfl (by decide) (by omega) v244 y243 (⟨(-77), (⟨#[]⟩ : ByteArray), 0, 0⟩ : S49) [.int .i64 (-77), .string (⟨#[]⟩ : ByteArray), .int .i64 0, .int .i64 0] (fun _ => True) (fun _ => False) rfl rfl ?aP (fun _ hk => hk.elim) ?aF ?aO ?aB ?aS ?aL ?_; (case aP => exact k49_mkM _ _ _ (⟨(-77), (⟨#[]⟩ : ByteArray), 0, 0⟩ : S49)); (case aB => exact (by repeat (first | (with_reducible first | exact HB.out | apply below_alloc | apply pw_below_drewN | apply below_drew1) | exact HB.out))); (case aF => exact (fun _ _ => trivial)); (case aO => exact (by (with_reducible repeat (first | apply Kd.R_alloc | apply Kd.R_drewN | apply Kd.R_drew)); exact HO245.out)); (case aS => exact (below_size (by repeat (first | (with_reducible first | exact HB.out | apply below_alloc | apply pw_below_drewN | apply below_drew1) | exact HB.out)))); (case aL => have := LMc3.out; omega); intro v247 w5 ho hb hg hat; rw [← Ny246.out] at ho; have n0_ := Aside0.mk (hb); have n1_ := Aside0.mk (ho); clear HB; clear HO245; have HB := n0_; have HO248 := n1_; clear n0_ n1_; clear ho hb hg hat; obtain ⟨i09, hi09, _, hsz9, _⟩ := info_parts info49; obtain ⟨Ao9, co9, eo9⟩ := Kd.R_slice HO248.out; subst eo9; have hcut9 := cut_up (P := Try.prog) 39 49 .i64 Try.underlying39 hi09 Ao9 y246.length co9 ((l0.length : Nat) : Int) (Int.natCast_nonneg _) (by have h1_ := (Kd.R_reads' HO248.out).2.1; have h2_ := HLN.out; omega); rw [Int.toNat_natCast] at hcut9; clear hi09 hsz9))
      go_ret
      exact ⟨.slice Ao9 y246.length co9, (by show _ = Ending.returned (.slice Ao9 (y246.length - 1) co9); rw [HLN.out]; rfl), by (with_reducible repeat (first | apply Kd.R_alloc | apply Kd.R_drewN | apply Kd.R_drew)); exact HO248.out, by repeat (first | (with_reducible first | exact HB.out | apply below_alloc | apply pw_below_drewN | apply below_drew1) | exact HB.out)⟩
    · rw [if_neg c3] at H
      exact absurd H (by simp)
  · rw [if_neg c2] at H
    exact absurd H (by simp)

/-! ### reevelaw16_Kept: function 28 -/
def reevelaw16_Kept.l0 : Nat → List (S49) → List (S49) → Int → Option (Bool)
  | 0, _, _, _ => none
  | k + 1, x0, x1, x6 => if x6 < (x1.length : Int) then (if 0 ≤ x6 then (if x6 < (x0.length : Int) then (if (!(((rd_T49 x0 x6).f0) == ((rd_T49 x1 x6).f0)) || (!((((rd_T49 x0 x6).f1).toList) == (((rd_T49 x1 x6).f1).toList)) || (!(((rd_T49 x0 x6).f2) == ((rd_T49 x1 x6).f2)) || (!(((rd_T49 x0 x6).f3) == ((rd_T49 x1 x6).f3)))))) = true then (none) else (reevelaw16_Kept.l0 k x0 x1 (wrap64 (x6 + 1)))) else (none)) else (none)) else (some true)
def reevelaw16_Kept.f (k : Nat) (l0 : List (S49)) (l1 : List (S49)) : Option (Bool) := if 0 ≤ (l1.length : Int) then (if (l1.length : Int) < (l0.length : Int) then (if ((rd_T49 l0 (l1.length : Int)).f0) = (-77) then (reevelaw16_Kept.l0 k l0 l1 0) else (none)) else (none)) else (none)
theorem reevelaw16_Kept.mono_l : ∀ k, (∀ y0 y1 y2, LeO (reevelaw16_Kept.l0 k y0 y1 y2) (reevelaw16_Kept.l0 (k + 1) y0 y1 y2))
  | 0 => fun _ _ _ r h => by simp [reevelaw16_Kept.l0] at h
  | k + 1 => by
    have ih0 := reevelaw16_Kept.mono_l k
    · intro y0 y1 y2
      unfold reevelaw16_Kept.l0
      repeat' first
      | (with_reducible exact ih0 _ _ _)
      | (with_reducible exact LeO.refl _)
      | (with_reducible exact LeO.none _)
      | (with_reducible refine LeO.ite ?_ ?_)
      | (with_reducible refine LeO.bind ?_ (fun _ => ?_))
      | exact ih0 _ _ _
      | exact LeO.none _
      | refine LeO.ite ?_ ?_
      | refine LeO.bind ?_ (fun _ => ?_)
theorem reevelaw16_Kept.mono : ∀ a0 a1 k, LeO (reevelaw16_Kept.f k a0 a1) (reevelaw16_Kept.f (k + 1) a0 a1) := by
  intro a0 a1 k
  have ih0 := reevelaw16_Kept.mono_l k
  unfold reevelaw16_Kept.f
  repeat' first
      | (with_reducible exact ih0 _ _ _)
      | (with_reducible exact LeO.refl _)
      | (with_reducible exact LeO.none _)
      | (with_reducible refine LeO.ite ?_ ?_)
      | (with_reducible refine LeO.bind ?_ (fun _ => ?_))
      | exact ih0 _ _ _
      | exact LeO.none _
      | refine LeO.ite ?_ ?_
      | refine LeO.bind ?_ (fun _ => ?_)
set_option maxHeartbeats 8000000 in
set_option maxRecDepth 100000 in
theorem reevelaw16_Kept.calls (k : Nat) (A0 : Option Addr) (c0 : Nat) (l0 : List (S49)) (A1 : Option Addr) (c1 : Nat) (l1 : List (S49)) (r : Bool) (w : World) (hlen : l0.length = l1.length + 1) (hr0 : Kd.C k49 w A0 l0.length l0) (hc0 : l0.length ≤ c0) (hr1 : Kd.C k49 w A1 l1.length l1) (hc1 : l1.length ≤ c1) (h : reevelaw16_Kept.f k l0 l1 = some r) :
    Calls Try.prog 28 #[.slice A0 l1.length c0, .slice A1 l1.length c1] w fun e w' => e = .returned (.bool r) ∧ Drawn0 w w' := by
  have hu49 := Try.underlying49
  have HR0 := Aside0.mk hr0
  have HC0 := Aside0.mk hc0
  clear hr0 hc0
  have HR1 := Aside0.mk hr1
  have HC1 := Aside0.mk hc1
  clear hr1 hc1
  have H : (if 0 ≤ (l1.length : Int) then (if (l1.length : Int) < (l0.length : Int) then (if ((rd_T49 l0 (l1.length : Int)).f0) = (-77) then (reevelaw16_Kept.l0 k l0 l1 0) else (none)) else (none)) else (none)) = some r := h
  clear h
  by_cases c3 : 0 ≤ (l1.length : Int)
  · rw [if_pos c3] at H
    have c3b0 : decide (0 ≤ (l1.length : Int)) = true := decide_eq_true c3
    have c3b1 : decide (0 ≤ l1.length) = true := decide_eq_true (by omega)
    clear c3
    by_cases c4 : (l1.length : Int) < (l0.length : Int)
    · rw [if_pos c4] at H
      have c4b0 : decide ((l1.length : Int) < (l0.length : Int)) = true := decide_eq_true c4
      have c4b1 : decide (l1.length < l0.length) = true := decide_eq_true (Int.ofNat_lt.mp c4)
      clear c4
      by_cases c5 : ((rd_T49 l0 (l1.length : Int)).f0) = (-77)
      · rw [if_pos c5] at H
        have c5b0 : (((rd_T49 l0 (l1.length : Int)).f0) == (-77)) = true := beq_iff_eq.mpr c5
        have c5b1 : (((rd_T49 l0 (l1.length : Int)).f0) != (-77)) = false := bne_eq_false_iff_eq.mpr c5
        clear c5
        have H' := Aside0.mk H
        clear H
        have p249 : 0 ≤ ((l1.length : Int) : Int) := of_decide_eq_true (by first | (with_reducible assumption) | assumption)
        have q249 : (l1.length : Int) < (l0.length : Int) := of_decide_eq_true (by first | (with_reducible assumption) | assumption)
        obtain ⟨ad249, e249, hx249_0, hx249_1, hx249_2, hx249_3⟩ := at_T49 HR0.out (l1.length : Int) p249 q249
        cases e249
        (try simp only [Go.IntWalk.toNatUp] at hx249_0)
        (try simp only [Go.IntWalk.toNatUp] at hx249_1)
        (try simp only [Go.IntWalk.toNatUp] at hx249_2)
        (try simp only [Go.IntWalk.toNatUp] at hx249_3)
        replace p249 := eq_true p249
        replace q249 := eq_true q249
        obtain ⟨i09, hi09, _, hsz9, _⟩ := info_parts info49
        have hmax := HR0.out.2.1
        have hcap := HC0.out
        obtain ⟨jm, hjm⟩ : ∃ j_ : Int, (wrap64 ((l1.length : Int) + 1)) = j_ := ⟨_, rfl⟩
        have hjmw : (IntKind.i64.wrap ((l1.length : Int) + 1)) = jm := (i64_w _).trans hjm
        have hjv : jm = ((l0.length : Nat) : Int) := by
          rw [← hjm]
          unfold wrap64
          omega
        have hcut9 := cut_up (P := Try.prog) 39 49 .i64 Try.underlying39 hi09 (some ad249) l1.length c0 jm (by omega) (by omega)
        rw [show jm.toNat = l0.length by omega] at hcut9
        clear hjv hlen hcap hmax hi09 hsz9
        go_enter Try.func28, Try.ntmps28
        go_wp2
        repeat (go_quiet (fail); try go_wp2)
        go_loopg [6] k (fun kq v6 w' => ∃ (x6_1 : Int), v6 = .int .i64 x6_1 ∧ Aside0 (reevelaw16_Kept.l0 kq l0 l1 x6_1 = some r) ∧ Aside0 (kq ≤ k) ∧ Drawn0 w w')
        case atStart => exact ⟨(0), (by first | rfl | (simp; done) | (simp [*]; done) | (simp [Int.tdiv_eq_ediv_of_nonneg]; done)), H', ⟨Nat.le_refl _⟩, by repeat (first | exact Drawn0.refl _ | apply Drawn0.step)⟩
        case round =>
          clear H'
          clear hcut9 hjm hjmw
          try clear c1
          try clear c2
          try clear p2
          try clear q2
          try clear hx2
          try clear c3
          try clear c3b0
          try clear c3b1
          try clear c4
          try clear c4b0
          try clear c4b1
          try clear c5
          try clear c5b0
          try clear c5b1
          try clear hx249_0
          try clear hx249_1
          try clear hx249_2
          try clear hx249_3
          try clear p249
          try clear q249
          obtain ⟨x6_1, rfl, HA, HK1, ⟨m1, rfl⟩⟩ := hrel
          cases gk with
          | zero => exact absurd HA.out (by simp [reevelaw16_Kept.l0])
          | succ k1 =>
            have H := HA.out
            clear HA
            simp only [reevelaw16_Kept.l0] at H
            by_cases c6 : x6_1 < (l1.length : Int)
            · rw [if_pos c6] at H
              have c6b0 : decide (x6_1 < (l1.length : Int)) = true := decide_eq_true c6
              clear c6
              by_cases c7 : 0 ≤ x6_1
              · rw [if_pos c7] at H
                have c7b0 : decide (0 ≤ x6_1) = true := decide_eq_true c7
                clear c7
                by_cases c8 : x6_1 < (l0.length : Int)
                · rw [if_pos c8] at H
                  have c8b0 : decide (x6_1 < (l0.length : Int)) = true := decide_eq_true c8
                  clear c8
                  by_cases c9 : (!(((rd_T49 l0 x6_1).f0) == ((rd_T49 l1 x6_1).f0)) || (!((((rd_T49 l0 x6_1).f1).toList) == (((rd_T49 l1 x6_1).f1).toList)) || (!(((rd_T49 l0 x6_1).f2) == ((rd_T49 l1 x6_1).f2)) || (!(((rd_T49 l0 x6_1).f3) == ((rd_T49 l1 x6_1).f3)))))) = true
                  · rw [if_pos c9] at H
                    exact absurd H (by simp)
                  · rw [if_neg c9] at H
                    have c9b0 : (!(((rd_T49 l0 x6_1).f0) == ((rd_T49 l1 x6_1).f0)) || (!((((rd_T49 l0 x6_1).f1).toList) == (((rd_T49 l1 x6_1).f1).toList)) || (!(((rd_T49 l0 x6_1).f2) == ((rd_T49 l1 x6_1).f2)) || (!(((rd_T49 l0 x6_1).f3) == ((rd_T49 l1 x6_1).f3)))))) = false := by simpa using c9
                    clear c9
                    have H' := Aside0.mk H
                    clear H
                    have p250 : 0 ≤ (x6_1 : Int) := of_decide_eq_true (by first | (with_reducible assumption) | assumption)
                    have q250 : x6_1 < (l0.length : Int) := of_decide_eq_true (by first | (with_reducible assumption) | assumption)
                    obtain ⟨ad250, e250, hx250_0, hx250_1, hx250_2, hx250_3⟩ := at_T49 HR0.out x6_1 p250 q250
                    obtain rfl : ad249 = ad250 := (by injection e250)
                    replace p250 := eq_true p250
                    replace q250 := eq_true q250
                    have p251 : 0 ≤ (x6_1 : Int) := of_decide_eq_true (by first | (with_reducible assumption) | assumption)
                    have q251 : x6_1 < (l1.length : Int) := of_decide_eq_true (by first | (with_reducible assumption) | assumption)
                    obtain ⟨ad251, e251, hx251_0, hx251_1, hx251_2, hx251_3⟩ := at_T49 HR1.out x6_1 p251 q251
                    cases e251
                    replace p251 := eq_true p251
                    replace q251 := eq_true q251
                    go_wp2
                    repeat (go_quiet (fail); try go_wp2)
                    go_roundg k1
                    case measure => have := HK1.out; omega
                    case rel => exact ⟨(wrap64 (x6_1 + 1)), (by first | rfl | (simp; done) | (simp [*]; done) | (simp [Int.tdiv_eq_ediv_of_nonneg]; done)), H', ⟨by have := HK1.out; omega⟩, by repeat (first | exact Drawn0.refl _ | apply Drawn0.step)⟩
                · rw [if_neg c8] at H
                  exact absurd H (by simp)
              · rw [if_neg c7] at H
                exact absurd H (by simp)
            · rw [if_neg c6] at H
              have c6b0 : decide (x6_1 < (l1.length : Int)) = false := decide_eq_false c6
              clear c6
              obtain rfl := Option.some.inj H
              go_wp2
              repeat (go_quiet (fail); try go_wp2)
              go_ret
              exact ⟨by first | rfl | (simp; done) | (simp [*]; done), by repeat (first | exact Drawn0.refl _ | apply Drawn0.step)⟩
      · rw [if_neg c5] at H
        exact absurd H (by simp)
    · rw [if_neg c4] at H
      exact absurd H (by simp)
  · rw [if_neg c3] at H
    exact absurd H (by simp)

/-- A record's fields, to be compared. -/
def recT (x : S49) : Int × List UInt8 × Int × Int := (x.f0, x.f1.toList, x.f2, x.f3)
/-- Kept answers true of records as they were, with their mark. -/
def keptR_ok.f (a b : List S49) : Option Unit := if a.length = b.length + 1 ∧ b.length ≤ 4000000000000 ∧ (a.take b.length).map recT = b.map recT ∧ (rd_T49 a (b.length : Int)).f0 = -77 then some () else none
theorem keptR_loop (a b : List S49) (hl : a.length = b.length + 1) (hm : b.length ≤ 4000000000000) (he : (a.take b.length).map recT = b.map recT) : ∀ (d i : Nat), b.length - i = d → i ≤ b.length → Ev (fun k => reevelaw16_Kept.l0 k a b (i : Int)) true := by
  intro d
  induction d with
  | zero =>
    intro i hd hi
    refine Ev.step (f := fun _ => some true) (fun k => ?_) (Ev.now _)
    simp only [reevelaw16_Kept.l0]
    rw [if_neg (by omega)]
  | succ d ih =>
    intro i hd hi
    have hib : i < b.length := by omega
    have hia : i < a.length := by omega
    have e : recT (rd_T49 a (i : Int)) = recT (rd_T49 b (i : Int)) := by
      have h1 : rd_T49 b (i : Int) = b[i] := by simp [rd_T49, hib]
      have h2 : rd_T49 a (i : Int) = a[i] := by simp [rd_T49, hia]
      have h3 : ((a.take b.length).map recT)[i]? = (b.map recT)[i]? := by rw [he]
      rw [List.getElem?_map, List.getElem?_map, List.getElem?_take_of_lt hib, List.getElem?_eq_getElem hia, List.getElem?_eq_getElem hib] at h3
      rw [h1, h2]
      exact Option.some.inj h3
    unfold recT at e
    simp only [Prod.mk.injEq] at e
    obtain ⟨e0, e1, e2, e3⟩ := e
    refine Ev.step (fun k => ?_) (ih (i + 1) (by omega) (by omega))
    simp only [reevelaw16_Kept.l0]
    rw [if_pos (by omega), if_pos (by omega), if_pos (by omega), if_neg (by rw [e0, e1, e2, e3]; simp), show wrap64 ((i : Int) + 1) = (i : Int) + 1 by unfold wrap64; omega]
    rfl
theorem keptR_ok.calls (A0 : Option Addr) (c0 : Nat) (l0 : List (S49)) (A1 : Option Addr) (c1 : Nat) (l1 : List (S49)) {r_ : Unit} (w : World) (hr0 : Kd.C k49 w A0 l0.length l0) (hc0 : l0.length ≤ c0) (hr1 : Kd.C k49 w A1 l1.length l1) (hc1 : l1.length ≤ c1) (h : keptR_ok.f l0 l1 = some r_) :
    Calls Try.prog 28 #[shortV (.slice A0 l0.length c0), .slice A1 l1.length c1] w fun e w' => e = .returned (.bool true) ∧ Below w.heap.size w w' := by
  unfold keptR_ok.f at h
  by_cases c : l0.length = l1.length + 1 ∧ l1.length ≤ 4000000000000 ∧ (l0.take l1.length).map recT = l1.map recT ∧ (rd_T49 l0 (l1.length : Int)).f0 = -77
  · have hF : Ev (fun k => reevelaw16_Kept.f k l0 l1) true := by
      refine Ev.congr (fun k => ?_) (keptR_loop l0 l1 c.1 c.2.1 c.2.2.1 _ 0 rfl (by omega))
      unfold reevelaw16_Kept.f
      rw [if_pos (by omega), if_pos (by omega), if_pos c.2.2.2]
      rfl
    obtain ⟨k, hk⟩ := hF.rounds
    have hc := reevelaw16_Kept.calls k A0 c0 l0 A1 c1 l1 true w c.1 hr0 hc0 hr1 hc1 hk
    have e : l0.length - 1 = l1.length := by omega
    show Calls Try.prog 28 #[.slice A0 (l0.length - 1) c0, .slice A1 l1.length c1] w _
    rw [e]
    refine hc.mono ?_
    rintro e w' ⟨he, h0⟩
    exact ⟨he, h0.below⟩
  · rw [if_neg c] at h
    exact absurd h (by simp)
def lentR_ok.f (l : List S49) : Option (List S49) := if l.length ≤ 3518437208800 then some (l ++ [(⟨-77, (⟨#[]⟩ : ByteArray), 0, 0⟩ : S49)]) else none
theorem lentR_ok.calls (A0 : Option Addr) (c0 : Nat) (l0 : List (S49)) (r : List (S49)) (w : World) (hr0 : Kd.C k49 w A0 l0.length l0) (hc0 : l0.length ≤ c0) (h : lentR_ok.f l0 = some r) :
    Calls Try.prog 26 #[.slice A0 l0.length c0] w fun e w' => ∃ v0_ : Value, e = .returned (shortV v0_) ∧ Kd.R k49 49 w' w.heap.size (fun _ => True) v0_ r ∧ Below w.heap.size w w' := by
  unfold lentR_ok.f at h
  by_cases c : l0.length ≤ 3518437208800
  · rw [if_pos c] at h
    refine reevelaw16_Lent.calls A0 c0 l0 r w hr0 hc0 (Eq.trans ?_ h)
    unfold reevelaw16_Lent.f
    rw [if_pos (by simp; omega), Option.bind_some, if_pos (by simp; omega)]
    rfl
  · rw [if_neg c] at h
    exact absurd h (by simp)
end Go.Proofs.YtkilnknndglmnaaP
end

section
/- Contracts in closed form: Beats over records with their mark, the reference's, rows of numbers. -/
namespace Go.Proofs.YtkilnknndglmnaaP
open Go.RowKit Go.Proofs.Ytkilnknndglmnaa Go.Proofs.YtkilnknndglmnaaW.PrintWords

def beatsL_ok.f (l : List S49) (v w n : Int) : Option (List Int × List Int × Int) := some (beatsP l.dropLast v w n)
theorem beatsL_ok.calls (A0 : Option Addr) (c0 : Nat) (l0 : List (S49)) (a1 : Int) (a2 : Int) (a3 : Int) (r1 : List Int) (r2 : List Int) (r3 : Int) (w : World) (hr0 : Kd.C k49 w A0 l0.length l0) (hc0 : l0.length ≤ c0) (h : beatsL_ok.f l0 a1 a2 a3 = some (r1, r2, r3)) :
    Calls Try.prog 27 #[shortV (.slice A0 l0.length c0), .int .i64 a1, .int .i64 a2, .int .i64 a3] w fun e w' => ∃ v0_ v1_ : Value, e = .returned (.tuple #[v0_, v1_, .int .i64 r3]) ∧ Kd.R (Kd.int .i64) 3 w' w.heap.size (fun k_ => some k_ ≠ (v1_ : Value).ownBlock) v0_ r1 ∧ Kd.R (Kd.int .i64) 3 w' w.heap.size (fun k_ => some k_ ≠ (v0_ : Value).ownBlock) v1_ r2 ∧ Below w.heap.size w w' := by
  obtain ⟨k, hk⟩ := (Beats_f l0.dropLast a1 a2 a3).rounds
  have hc := beat_Beats.calls k A0 c0 l0.dropLast a1 a2 a3 r1 r2 r3 w (C_last hr0) (by rw [List.length_dropLast]; omega) (hk.trans h)
  rw [List.length_dropLast] at hc
  exact hc

def rbeats_ok.f (l : List S49) (v w n : Int) : Option (List Int × List Int × Int) := some (beatsP l v w n)
theorem rbeats_ok.calls (A0 : Option Addr) (c0 : Nat) (l0 : List (S49)) (a1 : Int) (a2 : Int) (a3 : Int) (r1 : List Int) (r2 : List Int) (r3 : Int) (w : World) (hr0 : Kd.C k49 w A0 l0.length l0) (hc0 : l0.length ≤ c0) (h : rbeats_ok.f l0 a1 a2 a3 = some (r1, r2, r3)) :
    Calls Try.prog 25 #[.slice A0 l0.length c0, .int .i64 a1, .int .i64 a2, .int .i64 a3] w fun e w' => ∃ v0_ v1_ : Value, e = .returned (.tuple #[v0_, v1_, .int .i64 r3]) ∧ Kd.R (Kd.int .i64) 3 w' w.heap.size (fun k_ => some k_ ≠ (v1_ : Value).ownBlock) v0_ r1 ∧ Kd.R (Kd.int .i64) 3 w' w.heap.size (fun k_ => some k_ ≠ (v0_ : Value).ownBlock) v1_ r2 ∧ Below w.heap.size w w' := by
  obtain ⟨k, hk⟩ := (ref_beats l0 a1 a2 a3).rounds
  exact reeveref21_Beats.calls k A0 c0 l0 a1 a2 a3 r1 r2 r3 w hr0 hc0 (hk.trans h)

def ints_ok.f (a b : List Int) : Option Unit := if a = b ∧ a.length ≤ 4000000000 then some () else none
theorem ints_ok.calls (A0 : Option Addr) (c0 : Nat) (l0 : List Int) (A1 : Option Addr) (c1 : Nat) (l1 : List Int) {r_ : Unit} (w : World) (hr0 : Kd.C (Kd.int .i64) w A0 l0.length l0) (hc0 : l0.length ≤ c0) (hr1 : Kd.C (Kd.int .i64) w A1 l1.length l1) (hc1 : l1.length ≤ c1) (h : ints_ok.f l0 l1 = some r_) :
    Calls Try.prog 29 #[.slice A0 l0.length c0, .slice A1 l1.length c1] w fun e w' => e = .returned (.bool true) ∧ Below w.heap.size w w' := by
  unfold ints_ok.f at h
  by_cases c : l0 = l1 ∧ l0.length ≤ 4000000000
  · obtain ⟨rfl, hl⟩ := c
    obtain ⟨k, hk⟩ := (ints_f l0 hl).rounds
    refine (reevelaw21_sameInts.calls k A0 c0 l0 A1 c1 l0 true w hr0 hc0 hr1 hc1 hk).mono ?_
    rintro e w' ⟨he, h0⟩
    exact ⟨he, h0.below⟩
  · rw [if_neg c] at h
    exact absurd h (by simp)

end Go.Proofs.YtkilnknndglmnaaP
end

section
-- Laid by given.py, a program of this seat, with the kit's printer.
namespace Go.Proofs.YtkilnknndglmnaaC
open Go.Proofs.YtkilnknndglmnaaP
open Go.Proofs.Ytkilnknndglmnaa (G fl IsS isSB okC okF okC_iff encC kcx at_cx md red run_cmul run_cadd run_csub run_fint lit_one lit_zero tdiv_32 run_store_cx)
attribute [local go_sem] run_cmul run_cadd run_csub run_fint lit_one lit_zero tdiv_32 run_store_cx
open Go.RowKit Go.Proofs.YtkilnknndglmnaaW.PrintWords Go.Proofs.YtkilnknndglmnaaW.PrintLast Go.Proofs.YtkilnknndglmnaaW.PrintMore
attribute [local go_sem] max2_int min2_int max_two min_two max_three min_three max_four min_four   -- for this text's walks alone
set_option linter.unusedVariables false
set_option linter.unusedSimpArgs false

/-! ### reeveref21_turns: function 41 -/
def reeveref21_turns.f (a0 : Int) : Option (Bool) := if a0 = 1 then (some true) else (if a0 = 2 then (some true) else (if a0 = 4 then (some true) else (if a0 = 8 then (some true) else (if a0 = 16 then (some true) else (some (a0 == 32))))))
set_option maxHeartbeats 8000000 in
set_option maxRecDepth 100000 in
theorem reeveref21_turns.calls (a0 : Int) (r : Bool) (w : World) (h : reeveref21_turns.f a0 = some r) :
  Calls Try.prog 41 #[.int .i64 a0] w fun e w' => e = .returned (.bool r) ∧ Drawn0 w w' := by
 have H : (if a0 = 1 then (some true) else (if a0 = 2 then (some true) else (if a0 = 4 then (some true) else (if a0 = 8 then (some true) else (if a0 = 16 then (some true) else (some (a0 == 32))))))) = some r := h
 clear h
 by_cases c2 : a0 = 1
 ·rw [if_pos c2] at H
  have c2b0 : (a0 == 1) = true := beq_iff_eq.mpr c2
  have c2b1 : (a0 != 1) = false := bne_eq_false_iff_eq.mpr c2
  clear c2
  obtain rfl := Option.some.inj H
  go_enter Try.func41, Try.ntmps41
  go_wp2
  go_ret
  exact ⟨by first | rfl | (simp; done) | (simp [*]; done), by repeat (first | exact Drawn0.refl _ | apply Drawn0.step)⟩
 ·rw [if_neg c2] at H
  have c2b0 : (a0 == 1) = false := beq_eq_false_iff_ne.mpr c2
  have c2b1 : (a0 != 1) = true := bne_iff_ne.mpr c2
  by_cases c3 : a0 = 2
  ·rw [if_pos c3] at H
   have c3b0 : (a0 == 2) = true := beq_iff_eq.mpr c3
   have c3b1 : (a0 != 2) = false := bne_eq_false_iff_eq.mpr c3
   clear c3
   obtain rfl := Option.some.inj H
   go_enter Try.func41, Try.ntmps41
   go_wp2
   go_ret
   exact ⟨by first | rfl | (simp; done) | (simp [*]; done), by repeat (first | exact Drawn0.refl _ | apply Drawn0.step)⟩
  ·rw [if_neg c3] at H
   have c3b0 : (a0 == 2) = false := beq_eq_false_iff_ne.mpr c3
   have c3b1 : (a0 != 2) = true := bne_iff_ne.mpr c3
   by_cases c4 : a0 = 4
   ·rw [if_pos c4] at H
    have c4b0 : (a0 == 4) = true := beq_iff_eq.mpr c4
    have c4b1 : (a0 != 4) = false := bne_eq_false_iff_eq.mpr c4
    clear c4
    obtain rfl := Option.some.inj H
    go_enter Try.func41, Try.ntmps41
    go_wp2
    go_ret
    exact ⟨by first | rfl | (simp; done) | (simp [*]; done), by repeat (first | exact Drawn0.refl _ | apply Drawn0.step)⟩
   ·rw [if_neg c4] at H
    have c4b0 : (a0 == 4) = false := beq_eq_false_iff_ne.mpr c4
    have c4b1 : (a0 != 4) = true := bne_iff_ne.mpr c4
    by_cases c5 : a0 = 8
    ·rw [if_pos c5] at H
     have c5b0 : (a0 == 8) = true := beq_iff_eq.mpr c5
     have c5b1 : (a0 != 8) = false := bne_eq_false_iff_eq.mpr c5
     clear c5
     obtain rfl := Option.some.inj H
     go_enter Try.func41, Try.ntmps41
     go_wp2
     go_ret
     exact ⟨by first | rfl | (simp; done) | (simp [*]; done), by repeat (first | exact Drawn0.refl _ | apply Drawn0.step)⟩
    ·rw [if_neg c5] at H
     have c5b0 : (a0 == 8) = false := beq_eq_false_iff_ne.mpr c5
     have c5b1 : (a0 != 8) = true := bne_iff_ne.mpr c5
     by_cases c6 : a0 = 16
     ·rw [if_pos c6] at H
      have c6b0 : (a0 == 16) = true := beq_iff_eq.mpr c6
      have c6b1 : (a0 != 16) = false := bne_eq_false_iff_eq.mpr c6
      clear c6
      obtain rfl := Option.some.inj H
      go_enter Try.func41, Try.ntmps41
      go_wp2
      go_ret
      exact ⟨by first | rfl | (simp; done) | (simp [*]; done), by repeat (first | exact Drawn0.refl _ | apply Drawn0.step)⟩
     ·rw [if_neg c6] at H
      have c6b0 : (a0 == 16) = false := beq_eq_false_iff_ne.mpr c6
      have c6b1 : (a0 != 16) = true := bne_iff_ne.mpr c6
      obtain rfl := Option.some.inj H
      go_enter Try.func41, Try.ntmps41
      go_wp2
      go_ret
      exact ⟨by first | rfl | (simp; done) | (simp [*]; done), by repeat (first | exact Drawn0.refl _ | apply Drawn0.step)⟩

/-! ### reevelaw21_BeatCounts: function 6 -/
def reevelaw21_BeatCounts.f (l0 : List (S49)) (a1 : Int) (a2 : Int) (a3 : Int) : Option (Bool) := (awake_ok.f).bind fun _ => ((rbeats_ok.f l0 a1 a2 a3).bind fun bt137 => ((lentR_ok.f l0).bind fun t144 => ((beatsL_ok.f t144 a1 a2 a3).bind fun bt147 => ((keptR_ok.f t144 l0).bind fun _ => ((ints_ok.f bt147.1 bt137.1).bind fun _ => ((ints_ok.f bt147.2.1 bt137.2.1).bind fun _ => (some (bt137.2.2 == bt147.2.2))))))))
set_option maxHeartbeats 8000000 in
set_option maxRecDepth 100000 in
theorem reevelaw21_BeatCounts.calls (A0 : Option Addr) (c0 : Nat) (l0 : List (S49)) (a1 : Int) (a2 : Int) (a3 : Int) (r : Bool) (w : World) (hr0 : Kd.C k49 w A0 l0.length l0) (hc0 : l0.length ≤ c0) (h : reevelaw21_BeatCounts.f l0 a1 a2 a3 = some r) :
  Calls Try.prog 6 #[.slice A0 l0.length c0, .int .i64 a1, .int .i64 a2, .int .i64 a3] w fun e w' => e = .returned (.bool r) ∧ Below w.heap.size w w' := by
 have HR0 := Aside0.mk hr0
 have HC0 := Aside0.mk hc0
 clear hr0 hc0
 have HB := Aside0.mk (Below.refl w.heap.size w)
 have H : ((awake_ok.f).bind fun _ => ((rbeats_ok.f l0 a1 a2 a3).bind fun bt137 => ((lentR_ok.f l0).bind fun t144 => ((beatsL_ok.f t144 a1 a2 a3).bind fun bt147 => ((keptR_ok.f t144 l0).bind fun _ => ((ints_ok.f bt147.1 bt137.1).bind fun _ => ((ints_ok.f bt147.2.1 bt137.2.1).bind fun _ => (some (bt137.2.2 == bt147.2.2))))))))) = some r := h
 clear h
 replace H := Option.bind_eq_some_iff.mp H
 obtain ⟨_, A50, H⟩ := H
 replace H : ((rbeats_ok.f l0 a1 a2 a3).bind fun bt137 => ((lentR_ok.f l0).bind fun t144 => ((beatsL_ok.f t144 a1 a2 a3).bind fun bt147 => ((keptR_ok.f t144 l0).bind fun _ => ((ints_ok.f bt147.1 bt137.1).bind fun _ => ((ints_ok.f bt147.2.1 bt137.2.1).bind fun _ => (some (bt137.2.2 == bt147.2.2)))))))) = some r := H
 have A5 := Aside0.mk A50
 clear A50
 replace H := Option.bind_eq_some_iff.mp H
 obtain ⟨⟨t137, t138, t139⟩, A60, H⟩ := H
 replace H : ((lentR_ok.f l0).bind fun t144 => ((beatsL_ok.f t144 a1 a2 a3).bind fun bt147 => ((keptR_ok.f t144 l0).bind fun _ => ((ints_ok.f bt147.1 t137).bind fun _ => ((ints_ok.f bt147.2.1 t138).bind fun _ => (some (t139 == bt147.2.2))))))) = some r := H
 have A6 := Aside0.mk A60
 clear A60
 replace H := Option.bind_eq_some_iff.mp H
 obtain ⟨t144, A70, H⟩ := H
 replace H : ((beatsL_ok.f t144 a1 a2 a3).bind fun bt147 => ((keptR_ok.f t144 l0).bind fun _ => ((ints_ok.f bt147.1 t137).bind fun _ => ((ints_ok.f bt147.2.1 t138).bind fun _ => (some (t139 == bt147.2.2)))))) = some r := H
 have A7 := Aside0.mk A70
 clear A70
 replace H := Option.bind_eq_some_iff.mp H
 obtain ⟨⟨t147, t148, t149⟩, A80, H⟩ := H
 replace H : ((keptR_ok.f t144 l0).bind fun _ => ((ints_ok.f t147 t137).bind fun _ => ((ints_ok.f t148 t138).bind fun _ => (some (t139 == t149))))) = some r := H
 have A8 := Aside0.mk A80
 clear A80
 replace H := Option.bind_eq_some_iff.mp H
 obtain ⟨_, A90, H⟩ := H
 replace H : ((ints_ok.f t147 t137).bind fun _ => ((ints_ok.f t148 t138).bind fun _ => (some (t139 == t149)))) = some r := H
 have A9 := Aside0.mk A90
 clear A90
 replace H := Option.bind_eq_some_iff.mp H
 obtain ⟨_, A100, H⟩ := H
 replace H : ((ints_ok.f t148 t138).bind fun _ => (some (t139 == t149))) = some r := H
 have A10 := Aside0.mk A100
 clear A100
 replace H := Option.bind_eq_some_iff.mp H
 obtain ⟨_, A110, H⟩ := H
 replace H : (some (t139 == t149)) = some r := H
 have A11 := Aside0.mk A110
 clear A110
 obtain rfl := Option.some.inj H
 go_enter Try.func6, Try.ntmps6
 go_wp2_with (first | ((with_reducible refine gate_callee (f := 10) rfl ?_); refine goesL_ (some 20) rfl rfl Try.func10 (by kernel_rfl) rfl #[] rfl (by (try simp only [List.map_toArray, List.map_cons, List.map_nil]); first | done | rfl | (simp only [List.length_drop, List.length_take]; rfl)) ?_; (with_reducible refine (awake_ok.calls   _ A5.out).mono ?_); rintro e w12 ⟨rfl, hb⟩; refine ⟨_, rfl, ?_⟩; have n0_ := Aside0.mk (below_step (by repeat (first | (with_reducible first | exact HB.out | apply below_alloc | apply pw_below_drewN | apply below_drew1) | exact HB.out)) hb); clear HB; have HB := n0_; clear n0_; (try clear hb); (try clear hb2); (try clear hk); (try clear hi)) | ((with_reducible refine gate_callee (f := 25) rfl ?_); refine goesL_ (some 26) rfl rfl Try.func25 (by kernel_rfl) rfl #[.slice A0 l0.length c0, .int .i64 a1, .int .i64 a2, .int .i64 a3] rfl (by (try simp only [List.map_toArray, List.map_cons, List.map_nil]); first | done | rfl | (simp only [List.length_drop, List.length_take]; rfl)) ?_; (with_reducible refine (rbeats_ok.calls _ _ l0 a1 a2 a3 t137 t138 t139 _ ?side1 ?side2 A6.out).mono ?_); (case side1 => repeat (first | exact (Kd.C_below HR0.out HB.out) | (with_reducible refine Kd.C_alloc ?_ _) | (with_reducible refine Kd.C_drewN ?_ _) | (with_reducible refine Kd.C_drew ?_))); (case side2 => exact HC0.out); rintro e w13 ⟨v140, v142, rfl, ho0, ho1, hb⟩; refine ⟨_, rfl, ?_⟩; have n0_ := Aside0.mk (Kd.R_lower ho0 (below_size (by repeat (first | (with_reducible first | exact HB.out | apply below_alloc | apply pw_below_drewN | apply below_drew1) | exact HB.out)))); have n1_ := Aside0.mk (Kd.R_lower ho1 (below_size (by repeat (first | (with_reducible first | exact HB.out | apply below_alloc | apply pw_below_drewN | apply below_drew1) | exact HB.out)))); have n2_ := Aside0.mk (below_step (by repeat (first | (with_reducible first | exact HB.out | apply below_alloc | apply pw_below_drewN | apply below_drew1) | exact HB.out)) hb); clear HB; have HO141 := n0_; have HO143 := n1_; have HB := n2_; clear n0_ n1_ n2_; (try clear hb); (try clear hb2); (try clear hk); (try clear hi); (try clear ho0); (try clear ho1)) | ((with_reducible refine gate_callee (f := 26) rfl ?_); refine goesL_ (some 31) rfl rfl Try.func26 (by kernel_rfl) rfl #[.slice A0 l0.length c0] rfl (by (try simp only [List.map_toArray, List.map_cons, List.map_nil]); first | done | rfl | (simp only [List.length_drop, List.length_take]; rfl)) ?_; (with_reducible refine (lentR_ok.calls _ _ l0 t144 _ ?side1 ?side2 A7.out).mono ?_); (case side1 => repeat (first | exact (Kd.C_below HR0.out HB.out) | (with_reducible refine Kd.C_alloc ?_ _) | (with_reducible refine Kd.C_drewN ?_ _) | (with_reducible refine Kd.C_drew ?_))); (case side2 => exact HC0.out); rintro e w14 ⟨v145, rfl, ho0, hb⟩; refine ⟨_, rfl, ?_⟩; have n0_ := Aside0.mk (Kd.R_below (by (with_reducible repeat (first | apply Kd.R_alloc | apply Kd.R_drewN | apply Kd.R_drew)); exact HO141.out) hb); have n1_ := Aside0.mk (Kd.R_below (by (with_reducible repeat (first | apply Kd.R_alloc | apply Kd.R_drewN | apply Kd.R_drew)); exact HO143.out) hb); have n2_ := Aside0.mk (Kd.R_lower ho0 (below_size (by repeat (first | (with_reducible first | exact HB.out | apply below_alloc | apply pw_below_drewN | apply below_drew1) | exact HB.out)))); have n3_ := Aside0.mk (below_step (by repeat (first | (with_reducible first | exact HB.out | apply below_alloc | apply pw_below_drewN | apply below_drew1) | exact HB.out)) hb); clear HO141; clear HO143; clear HB; have HO141 := n0_; have HO143 := n1_; have HO146 := n2_; have HB := n3_; clear n0_ n1_ n2_ n3_; (try clear hb); (try clear hb2); (try clear hk); (try clear hi); (try clear ho0); obtain ⟨Ao15, co15, eo15⟩ := Kd.R_slice HO146.out; subst eo15) | ((with_reducible refine gate_callee (f := 27) rfl ?_); refine goesL_ (some 37) rfl rfl Try.func27 (by kernel_rfl) rfl #[shortV (.slice Ao15 t144.length co15), .int .i64 a1, .int .i64 a2, .int .i64 a3] rfl (by (try simp only [List.map_toArray, List.map_cons, List.map_nil]); first | done | rfl | (simp only [List.length_drop, List.length_take]; rfl)) ?_; (with_reducible refine (beatsL_ok.calls _ _ t144 a1 a2 a3 t147 t148 t149 _ ?side1 ?side2 A8.out).mono ?_); (case side1 => repeat (first | exact (Kd.R_reads' HO146.out).2.2 | (with_reducible refine Kd.C_alloc ?_ _) | (with_reducible refine Kd.C_drewN ?_ _) | (with_reducible refine Kd.C_drew ?_))); (case side2 => exact (Kd.R_reads' HO146.out).2.1); rintro e w16 ⟨v150, v152, rfl, ho0, ho1, hb⟩; refine ⟨_, rfl, ?_⟩; have n0_ := Aside0.mk (Kd.R_mono (Kd.R_told (Kd.R_told (Kd.R_old (by (with_reducible repeat (first | apply Kd.R_alloc | apply Kd.R_drewN | apply Kd.R_drew)); exact HO141.out) hb) (Kd.R_base ho0)) (Kd.R_base ho1)) (fun _ h_ => h_.1)); have n1_ := Aside0.mk (Kd.R_mono (Kd.R_told (Kd.R_told (Kd.R_old (by (with_reducible repeat (first | apply Kd.R_alloc | apply Kd.R_drewN | apply Kd.R_drew)); exact HO143.out) hb) (Kd.R_base ho0)) (Kd.R_base ho1)) (fun _ h_ => h_.1)); have n2_ := Aside0.mk (Kd.R_below (by (with_reducible repeat (first | apply Kd.R_alloc | apply Kd.R_drewN | apply Kd.R_drew)); exact HO146.out) hb); have n3_ := Aside0.mk (Kd.R_lower (Kd.R_new' (Kd.R_new' ho0 (Kd.R_lt (by (with_reducible repeat (first | apply Kd.R_alloc | apply Kd.R_drewN | apply Kd.R_drew)); exact HO141.out))) (Kd.R_lt (by (with_reducible repeat (first | apply Kd.R_alloc | apply Kd.R_drewN | apply Kd.R_drew)); exact HO143.out))) (below_size (by repeat (first | (with_reducible first | exact HB.out | apply below_alloc | apply pw_below_drewN | apply below_drew1) | exact HB.out)))); have n4_ := Aside0.mk (Kd.R_lower (Kd.R_new' (Kd.R_new' ho1 (Kd.R_lt (by (with_reducible repeat (first | apply Kd.R_alloc | apply Kd.R_drewN | apply Kd.R_drew)); exact HO141.out))) (Kd.R_lt (by (with_reducible repeat (first | apply Kd.R_alloc | apply Kd.R_drewN | apply Kd.R_drew)); exact HO143.out))) (below_size (by repeat (first | (with_reducible first | exact HB.out | apply below_alloc | apply pw_below_drewN | apply below_drew1) | exact HB.out)))); have n5_ := Aside0.mk (below_step (by repeat (first | (with_reducible first | exact HB.out | apply below_alloc | apply pw_below_drewN | apply below_drew1) | exact HB.out)) hb); clear HO141; clear HO143; clear HO146; clear HB; have HO141 := n0_; have HO143 := n1_; have HO146 := n2_; have HO151 := n3_; have HO153 := n4_; have HB := n5_; clear n0_ n1_ n2_ n3_ n4_ n5_; (try clear hb); (try clear hb2); (try clear hk); (try clear hi); (try clear ho0); (try clear ho1)) | ((with_reducible refine gate_callee (f := 28) rfl ?_); refine goesL_ (some 43) rfl rfl Try.func28 (by kernel_rfl) rfl #[shortV (.slice Ao15 t144.length co15), .slice A0 l0.length c0] rfl (by (try simp only [List.map_toArray, List.map_cons, List.map_nil]); first | done | rfl | (simp only [List.length_drop, List.length_take]; rfl)) ?_; (with_reducible refine (keptR_ok.calls _ _ t144 _ _ l0  _ ?side1 ?side2 ?side3 ?side4 A9.out).mono ?_); (case side1 => repeat (first | exact (Kd.R_reads' HO146.out).2.2 | (with_reducible refine Kd.C_alloc ?_ _) | (with_reducible refine Kd.C_drewN ?_ _) | (with_reducible refine Kd.C_drew ?_))); (case side2 => exact (Kd.R_reads' HO146.out).2.1); (case side3 => repeat (first | exact (Kd.C_below HR0.out HB.out) | (with_reducible refine Kd.C_alloc ?_ _) | (with_reducible refine Kd.C_drewN ?_ _) | (with_reducible refine Kd.C_drew ?_))); (case side4 => exact HC0.out); rintro e w17 ⟨rfl, hb⟩; refine ⟨_, rfl, ?_⟩; have n0_ := Aside0.mk (Kd.R_below (by (with_reducible repeat (first | apply Kd.R_alloc | apply Kd.R_drewN | apply Kd.R_drew)); exact HO141.out) hb); have n1_ := Aside0.mk (Kd.R_below (by (with_reducible repeat (first | apply Kd.R_alloc | apply Kd.R_drewN | apply Kd.R_drew)); exact HO143.out) hb); have n2_ := Aside0.mk (Kd.R_below (by (with_reducible repeat (first | apply Kd.R_alloc | apply Kd.R_drewN | apply Kd.R_drew)); exact HO146.out) hb); have n3_ := Aside0.mk (Kd.R_below (by (with_reducible repeat (first | apply Kd.R_alloc | apply Kd.R_drewN | apply Kd.R_drew)); exact HO151.out) hb); have n4_ := Aside0.mk (Kd.R_below (by (with_reducible repeat (first | apply Kd.R_alloc | apply Kd.R_drewN | apply Kd.R_drew)); exact HO153.out) hb); have n5_ := Aside0.mk (below_step (by repeat (first | (with_reducible first | exact HB.out | apply below_alloc | apply pw_below_drewN | apply below_drew1) | exact HB.out)) hb); clear HO141; clear HO143; clear HO146; clear HO151; clear HO153; clear HB; have HO141 := n0_; have HO143 := n1_; have HO146 := n2_; have HO151 := n3_; have HO153 := n4_; have HB := n5_; clear n0_ n1_ n2_ n3_ n4_ n5_; (try clear hb); (try clear hb2); (try clear hk); (try clear hi); obtain ⟨Ao18, co18, eo18⟩ := Kd.R_slice HO151.out; subst eo18; obtain ⟨Ao19, co19, eo19⟩ := Kd.R_slice HO141.out; subst eo19) | ((with_reducible refine gate_callee (f := 29) rfl ?_); refine goesL_ (some 46) rfl rfl Try.func29 (by kernel_rfl) rfl #[.slice Ao18 t147.length co18, .slice Ao19 t137.length co19] rfl (by (try simp only [List.map_toArray, List.map_cons, List.map_nil]); first | done | rfl | (simp only [List.length_drop, List.length_take]; rfl)) ?_; (with_reducible refine (ints_ok.calls _ _ t147 _ _ t137  _ ?side1 ?side2 ?side3 ?side4 A10.out).mono ?_); (case side1 => repeat (first | exact (Kd.R_reads' HO151.out).2.2 | (with_reducible refine Kd.C_alloc ?_ _) | (with_reducible refine Kd.C_drewN ?_ _) | (with_reducible refine Kd.C_drew ?_))); (case side2 => exact (Kd.R_reads' HO151.out).2.1); (case side3 => repeat (first | exact (Kd.R_reads' HO141.out).2.2 | (with_reducible refine Kd.C_alloc ?_ _) | (with_reducible refine Kd.C_drewN ?_ _) | (with_reducible refine Kd.C_drew ?_))); (case side4 => exact (Kd.R_reads' HO141.out).2.1); rintro e w20 ⟨rfl, hb⟩; refine ⟨_, rfl, ?_⟩; have n0_ := Aside0.mk (Kd.R_below (by (with_reducible repeat (first | apply Kd.R_alloc | apply Kd.R_drewN | apply Kd.R_drew)); exact HO141.out) hb); have n1_ := Aside0.mk (Kd.R_below (by (with_reducible repeat (first | apply Kd.R_alloc | apply Kd.R_drewN | apply Kd.R_drew)); exact HO143.out) hb); have n2_ := Aside0.mk (Kd.R_below (by (with_reducible repeat (first | apply Kd.R_alloc | apply Kd.R_drewN | apply Kd.R_drew)); exact HO146.out) hb); have n3_ := Aside0.mk (Kd.R_below (by (with_reducible repeat (first | apply Kd.R_alloc | apply Kd.R_drewN | apply Kd.R_drew)); exact HO151.out) hb); have n4_ := Aside0.mk (Kd.R_below (by (with_reducible repeat (first | apply Kd.R_alloc | apply Kd.R_drewN | apply Kd.R_drew)); exact HO153.out) hb); have n5_ := Aside0.mk (below_step (by repeat (first | (with_reducible first | exact HB.out | apply below_alloc | apply pw_below_drewN | apply below_drew1) | exact HB.out)) hb); clear HO141; clear HO143; clear HO146; clear HO151; clear HO153; clear HB; have HO141 := n0_; have HO143 := n1_; have HO146 := n2_; have HO151 := n3_; have HO153 := n4_; have HB := n5_; clear n0_ n1_ n2_ n3_ n4_ n5_; (try clear hb); (try clear hb2); (try clear hk); (try clear hi); obtain ⟨Ao21, co21, eo21⟩ := Kd.R_slice HO153.out; subst eo21; obtain ⟨Ao22, co22, eo22⟩ := Kd.R_slice HO143.out; subst eo22) | ((with_reducible refine gate_callee (f := 29) rfl ?_); refine goesL_ (some 49) rfl rfl Try.func29 (by kernel_rfl) rfl #[.slice Ao21 t148.length co21, .slice Ao22 t138.length co22] rfl (by (try simp only [List.map_toArray, List.map_cons, List.map_nil]); first | done | rfl | (simp only [List.length_drop, List.length_take]; rfl)) ?_; (with_reducible refine (ints_ok.calls _ _ t148 _ _ t138  _ ?side1 ?side2 ?side3 ?side4 A11.out).mono ?_); (case side1 => repeat (first | exact (Kd.R_reads' HO153.out).2.2 | (with_reducible refine Kd.C_alloc ?_ _) | (with_reducible refine Kd.C_drewN ?_ _) | (with_reducible refine Kd.C_drew ?_))); (case side2 => exact (Kd.R_reads' HO153.out).2.1); (case side3 => repeat (first | exact (Kd.R_reads' HO143.out).2.2 | (with_reducible refine Kd.C_alloc ?_ _) | (with_reducible refine Kd.C_drewN ?_ _) | (with_reducible refine Kd.C_drew ?_))); (case side4 => exact (Kd.R_reads' HO143.out).2.1); rintro e w23 ⟨rfl, hb⟩; refine ⟨_, rfl, ?_⟩; have n0_ := Aside0.mk (Kd.R_below (by (with_reducible repeat (first | apply Kd.R_alloc | apply Kd.R_drewN | apply Kd.R_drew)); exact HO141.out) hb); have n1_ := Aside0.mk (Kd.R_below (by (with_reducible repeat (first | apply Kd.R_alloc | apply Kd.R_drewN | apply Kd.R_drew)); exact HO143.out) hb); have n2_ := Aside0.mk (Kd.R_below (by (with_reducible repeat (first | apply Kd.R_alloc | apply Kd.R_drewN | apply Kd.R_drew)); exact HO146.out) hb); have n3_ := Aside0.mk (Kd.R_below (by (with_reducible repeat (first | apply Kd.R_alloc | apply Kd.R_drewN | apply Kd.R_drew)); exact HO151.out) hb); have n4_ := Aside0.mk (Kd.R_below (by (with_reducible repeat (first | apply Kd.R_alloc | apply Kd.R_drewN | apply Kd.R_drew)); exact HO153.out) hb); have n5_ := Aside0.mk (below_step (by repeat (first | (with_reducible first | exact HB.out | apply below_alloc | apply pw_below_drewN | apply below_drew1) | exact HB.out)) hb); clear HO141; clear HO143; clear HO146; clear HO151; clear HO153; clear HB; have HO141 := n0_; have HO143 := n1_; have HO146 := n2_; have HO151 := n3_; have HO153 := n4_; have HB := n5_; clear n0_ n1_ n2_ n3_ n4_ n5_; (try clear hb); (try clear hb2); (try clear hk); (try clear hi)))
 go_ret
 exact ⟨by first | rfl | (simp [errW_none, errW_some] <;> rfl) | (simp [*, errW_none, errW_some] <;> rfl), by repeat (first | (with_reducible first | exact HB.out | apply below_alloc | apply pw_below_drewN | apply below_drew1) | exact HB.out)⟩

end Go.Proofs.YtkilnknndglmnaaC
end

section
/- The law of counts, told plainly. -/
namespace Go.Proofs.YtkilnknndglmnaaP
open Go.RowKit Go.Proofs.Ytkilnknndglmnaa Go.Proofs.YtkilnknndglmnaaW.PrintWords

theorem beatsP_len (l : List S49) (v w n : Int) : (beatsP l v w n).1.length ≤ 4000000000 ∧ (beatsP l v w n).2.1.length ≤ 4000000000 := by
  unfold beatsP
  by_cases h0 : beatsE l v w n = 0
  · rw [if_pos h0]
    have h1 : lenI n = true := by
      unfold beatsE at h0
      split at h0
      · exact absurd h0 (by decide)
      split at h0
      · exact absurd h0 (by decide)
      split at h0
      · exact absurd h0 (by decide)
      rename_i c3
      simpa using c3
    unfold lenI at h1
    rw [Bool.and_eq_true] at h1
    have hs := len_small (lenB_iff.1 h1.2)
    simp only [rowL_len]
    unfold meetsL
    simp only [List.length_map, List.length_range]
    omega
  · rw [if_neg h0]
    simp
theorem ints_okS {l : List Int} (h : l.length ≤ 4000000000) : ints_ok.f l l = some () := by
  unfold ints_ok.f
  rw [if_pos ⟨rfl, h⟩]
theorem counts_pure (l : List S49) (v w n : Int) (hl : l.length ≤ 3518437208800) : YtkilnknndglmnaaC.reevelaw21_BeatCounts.f l v w n = some true := by
  unfold YtkilnknndglmnaaC.reevelaw21_BeatCounts.f awake_ok.f rbeats_ok.f lentR_ok.f
  rw [if_pos hl]
  simp only [Option.bind_some]
  unfold beatsL_ok.f keptR_ok.f
  rw [if_pos ⟨by simp, by omega, by simp, by simp [rd_T49]⟩, List.dropLast_concat]
  simp only [Option.bind_some]
  rw [ints_okS (beatsP_len l v w n).1, ints_okS (beatsP_len l v w n).2]
  simp only [Option.bind_some, beq_self_eq_true]
theorem counts_call (A0 : Option Addr) (c0 : Nat) (l0 : List S49) (a1 a2 a3 : Int) (w : World) (hl : l0.length ≤ 3518437208800) (h0 : Kd.C k49 w A0 l0.length l0) (g0 : l0.length ≤ c0) :
    Calls Try.prog 6 #[.slice A0 l0.length c0, .int .i64 a1, .int .i64 a2, .int .i64 a3] w fun e w' => e = .returned (.bool true) ∧ Below w.heap.size w w' :=
  YtkilnknndglmnaaC.reevelaw21_BeatCounts.calls A0 c0 l0 a1 a2 a3 true w h0 g0 (counts_pure l0 a1 a2 a3 hl)

#print axioms counts_call
end Go.Proofs.YtkilnknndglmnaaP
end

section
/- How long a row of records can be. -/
namespace Go.Proofs.YtkilnknndglmnaaP
open Go.Joins Go.ChangeShapes Go.WideShapes Go.RowKit Go.Deep Go.Proofs.YtkilnknndglmnaaW.PrintWords

theorem bytes49 : Try.prog.bytesOf 49 = 40 := by kernel_rfl
theorem recs_len {H : Type} {enc : TypeId × Value → H} {W : World} {A : Option Addr} {n c : Nat} {dw : DataW H} {ps : List MemPlace} (h : DataW.Trod enc Try.prog W 0 (fun _ => true) true 39 (.slice A n c) dw ps) :
    n = 0 ∨ ∃ (E S : List (DataW H)), dw = .slice E S ∧ E.length = n := by
  obtain ⟨fuel, hf⟩ := h
  have hf' : DataW.trod enc Try.prog W 0 (fun _ => true) true fuel 39 [.slice A n c] = some (dw, ps) := by simpa [Value.cells] using hf
  rcases open_slice Try.underlying39 hf' with ⟨hcs, _⟩ | ⟨a, len, cap, m, k, D, Pl, hcs, _, _, _, _, hx, _⟩
  · simp at hcs
    exact Or.inl hcs.2.1
  · simp at hcs
    obtain ⟨rfl, rfl, rfl⟩ := hcs
    simp only [Prod.mk.injEq] at hx
    exact Or.inr ⟨_, _, hx.1, by simp⟩
theorem recs_small {H : Type} {enc : TypeId × Value → H} {W : World} {A : Option Addr} {n c : Nat} {dw : DataW H} {ps : List MemPlace} {ts : List TypeId} {ds : List (DataW H)} (h : DataW.Trod enc Try.prog W 0 (fun _ => true) true 39 (.slice A n c) dw ps)
    (hsz : (DataW.weightsEach Try.prog ts ds).all (· ≤ reachBytes) = true) (h0 : ts[0]? = some 39) (h1 : ds[0]? = some dw) : n ≤ 3518437208800 := by
  rcases recs_len h with h2 | ⟨E, S, e1, hE⟩
  · omega
  · subst e1
    have h3 := sized_slice hsz h0 h1 Try.underlying39
    rw [bytes49] at h3
    unfold reachBytes at h3
    omega
end Go.Proofs.YtkilnknndglmnaaP
end
