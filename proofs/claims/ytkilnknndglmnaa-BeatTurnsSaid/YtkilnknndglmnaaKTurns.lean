/- The law Turns, part 2. -/
import Derived.Test.YtkilnknndglmnaaKTurns0

section
-- Laid by given.py, a program of this seat, with the kit's printer.
namespace Go.Proofs.YtkilnknndglmnaaP
open Go.Proofs.Ytkilnknndglmnaa (G fl IsS isSB okC okF okC_iff encC kcx at_cx md red run_cmul run_cadd run_csub run_fint lit_one lit_zero tdiv_32 run_store_cx)
attribute [local go_sem] run_cmul run_cadd run_csub run_fint lit_one lit_zero tdiv_32 run_store_cx
open Go.RowKit Go.Proofs.YtkilnknndglmnaaW.PrintWords Go.Proofs.YtkilnknndglmnaaW.PrintLast Go.Proofs.YtkilnknndglmnaaW.PrintMore
attribute [local go_sem] max2_int min2_int max_two min_two max_three min_three max_four min_four   -- for this text's walks alone
set_option linter.unusedVariables false
set_option linter.unusedSimpArgs false

/-! ### reeveref21_Round: function 24 -/
mutual
def reeveref21_Round.j0 : Nat → List (S26) → List (S26) → Bool → Option ((List (S26)) × Int)
 | 0, _, _, _ => none
 | k + 1, x0, x1, x26 => if x26 = true then (some (([] : List (S26)), 210)) else ((reeveref21_may.f k x0).bind fun t495 => ((reeveref21_may.f k x1).bind fun t496 => (if t495 = 0 then (reeveref21_Round.j1 k x0 x1 (t496 != 0)) else (reeveref21_Round.j1 k x0 x1 true))))
def reeveref21_Round.j1 : Nat → List (S26) → List (S26) → Bool → Option ((List (S26)) × Int)
 | 0, _, _, _ => none
 | k + 1, x0, x1, x36 => if x36 = true then (some (([] : List (S26)), 20)) else (reeveref21_Round.l0 k x0 x1 (x0.length : Int) ([] : List (S26)) 0)
def reeveref21_Round.l0 : Nat → List (S26) → List (S26) → Int → List (S26) → Int → Option ((List (S26)) × Int)
 | 0, _, _, _, _, _ => none
 | k + 1, x0, x1, x9, x10, x11 => if x11 < x9 then (reeveref21_Round.l1 k x0 x1 x9 x10 x11 0 0 0) else (some (x10, 0))
def reeveref21_Round.l1 : Nat → List (S26) → List (S26) → Int → List (S26) → Int → Int → Int → Int → Option ((List (S26)) × Int)
 | 0, _, _, _, _, _, _, _, _ => none
 | k + 1, x0, x1, x9, x10, x11, x13, x498000, x498001 => if x13 < x9 then (if 0 ≤ x13 then (if x13 < (x0.length : Int) then (if x9 = 0 then (none) else (if 0 ≤ (Int.tmod (wrap64 ((wrap64 (x11 - x13)) + x9)) x9) then (if (Int.tmod (wrap64 ((wrap64 (x11 - x13)) + x9)) x9) < (x1.length : Int) then ((reeveref02_Mul.f ((rd_T26 x0 x13).f0) ((rd_T26 x0 x13).f1) ((rd_T26 x1 (Int.tmod (wrap64 ((wrap64 (x11 - x13)) + x9)) x9)).f0) ((rd_T26 x1 (Int.tmod (wrap64 ((wrap64 (x11 - x13)) + x9)) x9)).f1)).bind fun bt503 => ((reeveref02_Plus.f x498000 x498001 bt503.1 bt503.2).bind fun bt506 => (reeveref21_Round.l1 k x0 x1 x9 x10 x11 (wrap64 (x13 + 1)) bt506.1 bt506.2))) else (none)) else (none))) else (none)) else (none)) else (if x10.length < 8796093022208 then (reeveref21_Round.l0 k x0 x1 x9 (x10 ++ [(⟨x498000, x498001⟩ : S26)]) (wrap64 (x11 + 1))) else (none))
end
def reeveref21_Round.f (k : Nat) (l0 : List (S26)) (l1 : List (S26)) : Option ((List (S26)) × Int) := (reeveref21_turns.f (l0.length : Int)).bind fun t494 => (if t494 = true then (reeveref21_Round.j0 k l0 l1 ((l0.length : Int) != (l1.length : Int))) else (reeveref21_Round.j0 k l0 l1 true))
theorem reeveref21_Round.mono_l : ∀ k, (∀ y0 y1 y2, LeO (reeveref21_Round.j0 k y0 y1 y2) (reeveref21_Round.j0 (k + 1) y0 y1 y2)) ∧ (∀ y0 y1 y2, LeO (reeveref21_Round.j1 k y0 y1 y2) (reeveref21_Round.j1 (k + 1) y0 y1 y2)) ∧ (∀ y0 y1 y2 y3 y4, LeO (reeveref21_Round.l0 k y0 y1 y2 y3 y4) (reeveref21_Round.l0 (k + 1) y0 y1 y2 y3 y4)) ∧ (∀ y0 y1 y2 y3 y4 y5 y6 y7, LeO (reeveref21_Round.l1 k y0 y1 y2 y3 y4 y5 y6 y7) (reeveref21_Round.l1 (k + 1) y0 y1 y2 y3 y4 y5 y6 y7))
 | 0 => ⟨fun _ _ _ r h => by simp [reeveref21_Round.j0] at h, fun _ _ _ r h => by simp [reeveref21_Round.j1] at h, fun _ _ _ _ _ r h => by simp [reeveref21_Round.l0] at h, fun _ _ _ _ _ _ _ _ r h => by simp [reeveref21_Round.l1] at h⟩
 | k + 1 => by
  obtain ⟨ih0, ih1, ih2, ih3⟩ := reeveref21_Round.mono_l k
  refine ⟨?_, ?_, ?_, ?_⟩
  ·intro y0 y1 y2
   unfold reeveref21_Round.j0
   repeat' first
   | (with_reducible exact ih0 _ _ _)
   | (with_reducible exact ih1 _ _ _)
   | (with_reducible exact ih2 _ _ _ _ _)
   | (with_reducible exact ih3 _ _ _ _ _ _ _ _)
   | (with_reducible exact reeveref21_may.mono _ _)
   | (with_reducible exact LeO.refl _)
   | (with_reducible exact LeO.none _)
   | (with_reducible refine LeO.ite ?_ ?_)
   | (with_reducible refine LeO.bind ?_ (fun _ => ?_))
   | exact ih0 _ _ _
   | exact ih1 _ _ _
   | exact ih2 _ _ _ _ _
   | exact ih3 _ _ _ _ _ _ _ _
   | exact reeveref21_may.mono _ _
   | exact LeO.none _
   | refine LeO.ite ?_ ?_
   | refine LeO.bind ?_ (fun _ => ?_)
  ·intro y0 y1 y2
   unfold reeveref21_Round.j1
   repeat' first
   | (with_reducible exact ih0 _ _ _)
   | (with_reducible exact ih1 _ _ _)
   | (with_reducible exact ih2 _ _ _ _ _)
   | (with_reducible exact ih3 _ _ _ _ _ _ _ _)
   | (with_reducible exact reeveref21_may.mono _ _)
   | (with_reducible exact LeO.refl _)
   | (with_reducible exact LeO.none _)
   | (with_reducible refine LeO.ite ?_ ?_)
   | (with_reducible refine LeO.bind ?_ (fun _ => ?_))
   | exact ih0 _ _ _
   | exact ih1 _ _ _
   | exact ih2 _ _ _ _ _
   | exact ih3 _ _ _ _ _ _ _ _
   | exact reeveref21_may.mono _ _
   | exact LeO.none _
   | refine LeO.ite ?_ ?_
   | refine LeO.bind ?_ (fun _ => ?_)
  ·intro y0 y1 y2 y3 y4
   unfold reeveref21_Round.l0
   repeat' first
   | (with_reducible exact ih0 _ _ _)
   | (with_reducible exact ih1 _ _ _)
   | (with_reducible exact ih2 _ _ _ _ _)
   | (with_reducible exact ih3 _ _ _ _ _ _ _ _)
   | (with_reducible exact reeveref21_may.mono _ _)
   | (with_reducible exact LeO.refl _)
   | (with_reducible exact LeO.none _)
   | (with_reducible refine LeO.ite ?_ ?_)
   | (with_reducible refine LeO.bind ?_ (fun _ => ?_))
   | exact ih0 _ _ _
   | exact ih1 _ _ _
   | exact ih2 _ _ _ _ _
   | exact ih3 _ _ _ _ _ _ _ _
   | exact reeveref21_may.mono _ _
   | exact LeO.none _
   | refine LeO.ite ?_ ?_
   | refine LeO.bind ?_ (fun _ => ?_)
  ·intro y0 y1 y2 y3 y4 y5 y6 y7
   unfold reeveref21_Round.l1
   repeat' first
   | (with_reducible exact ih0 _ _ _)
   | (with_reducible exact ih1 _ _ _)
   | (with_reducible exact ih2 _ _ _ _ _)
   | (with_reducible exact ih3 _ _ _ _ _ _ _ _)
   | (with_reducible exact reeveref21_may.mono _ _)
   | (with_reducible exact LeO.refl _)
   | (with_reducible exact LeO.none _)
   | (with_reducible refine LeO.ite ?_ ?_)
   | (with_reducible refine LeO.bind ?_ (fun _ => ?_))
   | exact ih0 _ _ _
   | exact ih1 _ _ _
   | exact ih2 _ _ _ _ _
   | exact ih3 _ _ _ _ _ _ _ _
   | exact reeveref21_may.mono _ _
   | exact LeO.none _
   | refine LeO.ite ?_ ?_
   | refine LeO.bind ?_ (fun _ => ?_)
theorem reeveref21_Round.mono : ∀ a0 a1 k, LeO (reeveref21_Round.f k a0 a1) (reeveref21_Round.f (k + 1) a0 a1) := by
 intro a0 a1 k
 obtain ⟨ih0, ih1, ih2, ih3⟩ := reeveref21_Round.mono_l k
 unfold reeveref21_Round.f
 repeat' first
   | (with_reducible exact ih0 _ _ _)
   | (with_reducible exact ih1 _ _ _)
   | (with_reducible exact ih2 _ _ _ _ _)
   | (with_reducible exact ih3 _ _ _ _ _ _ _ _)
   | (with_reducible exact reeveref21_may.mono _ _)
   | (with_reducible exact LeO.refl _)
   | (with_reducible exact LeO.none _)
   | (with_reducible refine LeO.ite ?_ ?_)
   | (with_reducible refine LeO.bind ?_ (fun _ => ?_))
   | exact ih0 _ _ _
   | exact ih1 _ _ _
   | exact ih2 _ _ _ _ _
   | exact ih3 _ _ _ _ _ _ _ _
   | exact reeveref21_may.mono _ _
   | exact LeO.none _
   | refine LeO.ite ?_ ?_
   | refine LeO.bind ?_ (fun _ => ?_)
def reeveref21_Round.T17 : Bool × List (List Nat × List Nat) := (true, [([], []), ([], []), ([0, 1], [0, 1]), ([2], [2]), ([], []), ([], []), ([], []), ([5, 6], [5, 6]), ([], []), ([7, 8], [7, 8]), ([], []), ([9, 10], [9, 10]), ([4, 11], [4, 11]), ([12], [12]), ([3, 13], [3, 13]), ([], []), ([15, 14, 14, 0, 1, 2, 3, 4, 5, 6, 7, 8, 9, 10, 11, 12, 13, 14, 15], [14, 15])])
def reeveref21_Round.B17 : List Nat := [0, 0, 3, 7, 0, 0, 0, 96, 0, 480, 0, 2016, 4080, 8176, 16383, 0, 65535]
theorem reeveref21_Round.tab17 : rtab .any (opsOf Try.f24 17) = reeveref21_Round.T17 := by kernel_rfl
theorem reeveref21_Round.bits17 : waitsOk reeveref21_Round.T17.2 reeveref21_Round.B17 = true := by kernel_rfl
set_option maxHeartbeats 8000000 in
set_option maxRecDepth 100000 in
theorem reeveref21_Round.calls (k : Nat) (A0 : Option Addr) (c0 : Nat) (l0 : List (S26)) (A1 : Option Addr) (c1 : Nat) (l1 : List (S26)) (r1 : List (S26)) (r2 : Int) (w : World) (hr0 : Kd.C k26 w A0 l0.length l0) (hc0 : l0.length ≤ c0) (hr1 : Kd.C k26 w A1 l1.length l1) (hc1 : l1.length ≤ c1) (h : reeveref21_Round.f k l0 l1 = some (r1, r2)) :
  Calls Try.prog 24 #[.slice A0 l0.length c0, .slice A1 l1.length c1] w fun e w' => ∃ v0_ : Value, e = .returned (.tuple #[v0_, .int .i64 r2]) ∧ Kd.R k26 26 w' w.heap.size (fun _ => True) v0_ r1 ∧ Below w.heap.size w w' := by
 have hu26 := Try.underlying26
 have HR0 := Aside0.mk hr0
 have HC0 := Aside0.mk hc0
 clear hr0 hc0
 have HR1 := Aside0.mk hr1
 have HC1 := Aside0.mk hc1
 clear hr1 hc1
 have HB := Aside0.mk (Below.refl w.heap.size w)
 have H : ((reeveref21_turns.f (l0.length : Int)).bind fun t494 => (if t494 = true then (reeveref21_Round.j0 k l0 l1 ((l0.length : Int) != (l1.length : Int))) else (reeveref21_Round.j0 k l0 l1 true))) = some (r1, r2) := h
 clear h
 replace H := Option.bind_eq_some_iff.mp H
 obtain ⟨t494, A30, H⟩ := H
 replace H : (if t494 = true then (reeveref21_Round.j0 k l0 l1 ((l0.length : Int) != (l1.length : Int))) else (reeveref21_Round.j0 k l0 l1 true)) = some (r1, r2) := H
 have A3 := Aside0.mk A30
 clear A30
 have HC4 := Aside0.mk H
 clear H
 go_enter Try.func24, Try.ntmps24
 go_upto_region 2 with (first | ((with_reducible refine gate_callee (f := 41) rfl ?_); refine goesL_ (some 17) rfl rfl Try.func41 (by kernel_rfl) rfl #[.int .i64 (l0.length : Int)] rfl (by (try simp only [List.map_toArray, List.map_cons, List.map_nil]); first | done | rfl | (simp only [List.length_drop, List.length_take]; rfl)) ?_; (with_reducible refine (reeveref21_turns.calls (l0.length : Int) t494 _ A3.out).mono ?_); rintro e w' ⟨rfl, ⟨nd, rfl⟩⟩; refine ⟨_, rfl, ?_⟩))
 (try simp only [Act.put, List.setIfInBounds_toArray, List.set_cons_zero, List.set_cons_succ])
 go_cut [26] (fun v26 wc => ∃ (kq : Nat) (x26_3 : Bool), v26 = .bool x26_3 ∧ Aside0 (reeveref21_Round.j0 kq l0 l1 x26_3 = some (r1, r2)) ∧ Aside0 (kq ≤ k) ∧ Aside0 (Below w.heap.size w wc))
 case first =>
  have H := HC4.out
  clear HC4
  by_cases c5 : t494 = true
  ·subst c5
   have H1 : (reeveref21_Round.j0 k l0 l1 ((l0.length : Int) != (l1.length : Int))) = some (r1, r2) := by rw [if_pos rfl] at H; exact H
   clear H
   have H := H1
   clear H1
   have H' := Aside0.mk H
   clear H
   go_wp2
   go_meet
   case rel => exact ⟨_, (((l0.length : Int) != (l1.length : Int))), (by first | rfl | (simp; done) | (simp [*]; done) | (simp [Int.tdiv_eq_ediv_of_nonneg]; done)), H', ⟨by first | omega | exact Nat.le_refl _⟩, ⟨by repeat (first | (with_reducible first | exact HB.out | apply below_alloc | apply pw_below_drewN | apply below_drew1) | exact HB.out)⟩⟩
  ·replace c5 := Bool.eq_false_iff.mpr c5
   subst c5
   have H1 : (reeveref21_Round.j0 k l0 l1 true) = some (r1, r2) := by rw [if_neg (show ¬ (false = true) by decide)] at H; exact H
   clear H
   have H := H1
   clear H1
   have H' := Aside0.mk H
   clear H
   go_wp2
   go_meet
   case rel => exact ⟨_, (true), (by first | rfl | (simp; done) | (simp [*]; done) | (simp [Int.tdiv_eq_ediv_of_nonneg]; done)), H', ⟨by first | omega | exact Nat.le_refl _⟩, ⟨by repeat (first | (with_reducible first | exact HB.out | apply below_alloc | apply pw_below_drewN | apply below_drew1) | exact HB.out)⟩⟩
 case rest =>
  clear HC4
  try clear c1
  try clear c2
  try clear p2
  try clear c4
  try clear c5
  obtain ⟨kq, x26_3, rfl, HA, HJ3, HB⟩ := hcut
  cases kq with
  | zero => exact absurd HA.out (by simp [reeveref21_Round.j0])
  | succ kj3 =>
   have H := HA.out
   clear HA
   simp only [reeveref21_Round.j0] at H
   by_cases c6 : x26_3 = true
   ·subst c6
    have H1 : (some (([] : List (S26)), 210)) = some (r1, r2) := by rw [if_pos rfl] at H; exact H
    clear H
    have H := H1
    clear H1
    simp only [Option.some.injEq, Prod.mk.injEq] at H
    obtain ⟨rfl, rfl⟩ := H
    go_wp2
    go_ret2
    exact ⟨_, by first | rfl | (simp [errW_none, errW_some] <;> rfl) | (simp [*, errW_none, errW_some] <;> rfl), by first | exact Kd.R_nil _ _ _ _ _ | exact Kd.N_nil _ _ _ _ _ | exact Kd.V_nil _ _ _ _ _ | exact Kd.Q_nil _ _ _ _ _ | exact Kd.S_nil _ _ _ _ _, by repeat (first | (with_reducible first | exact HB.out | apply below_alloc | apply pw_below_drewN | apply below_drew1) | exact HB.out)⟩
   ·replace c6 := Bool.eq_false_iff.mpr c6
    subst c6
    have H1 : ((reeveref21_may.f kj3 l0).bind fun t495 => ((reeveref21_may.f kj3 l1).bind fun t496 => (if t495 = 0 then (reeveref21_Round.j1 kj3 l0 l1 (t496 != 0)) else (reeveref21_Round.j1 kj3 l0 l1 true)))) = some (r1, r2) := by rw [if_neg (show ¬ (false = true) by decide)] at H; exact H
    clear H
    have H := H1
    clear H1
    replace H := Option.bind_eq_some_iff.mp H
    obtain ⟨t495, A70, H⟩ := H
    replace H : ((reeveref21_may.f kj3 l1).bind fun t496 => (if t495 = 0 then (reeveref21_Round.j1 kj3 l0 l1 (t496 != 0)) else (reeveref21_Round.j1 kj3 l0 l1 true))) = some (r1, r2) := H
    have A7 := Aside0.mk A70
    clear A70
    replace H := Option.bind_eq_some_iff.mp H
    obtain ⟨t496, A80, H⟩ := H
    replace H : (if t495 = 0 then (reeveref21_Round.j1 kj3 l0 l1 (t496 != 0)) else (reeveref21_Round.j1 kj3 l0 l1 true)) = some (r1, r2) := H
    have A8 := Aside0.mk A80
    clear A80
    have HC9 := Aside0.mk H
    clear H
    go_upto_region 6 with (first | ((with_reducible refine gate_callee (f := 44) rfl ?_); refine goesL_ (some 28) rfl rfl Try.func44 (by kernel_rfl) rfl #[.slice A0 l0.length c0] rfl (by (try simp only [List.map_toArray, List.map_cons, List.map_nil]); first | done | rfl | (simp only [List.length_drop, List.length_take]; rfl)) ?_; (with_reducible refine (reeveref21_may.calls kj3 _ _ l0 t495 _ ?side1 ?side2 A7.out).mono ?_); (case side1 => repeat (first | exact (Kd.C_below HR0.out HB.out) | (with_reducible refine Kd.C_alloc ?_ _) | (with_reducible refine Kd.C_drewN ?_ _) | (with_reducible refine Kd.C_drew ?_))); (case side2 => exact HC0.out); rintro e w10 ⟨rfl, hb⟩; refine ⟨_, rfl, ?_⟩; have n0_ := Aside0.mk (below_step (by repeat (first | (with_reducible first | exact HB.out | apply below_alloc | apply pw_below_drewN | apply below_drew1) | exact HB.out)) hb); clear HB; have HB := n0_; clear n0_; (try clear hb); (try clear hb2); (try clear hk); (try clear hi)) | ((with_reducible refine gate_callee (f := 44) rfl ?_); refine goesL_ (some 30) rfl rfl Try.func44 (by kernel_rfl) rfl #[.slice A1 l1.length c1] rfl (by (try simp only [List.map_toArray, List.map_cons, List.map_nil]); first | done | rfl | (simp only [List.length_drop, List.length_take]; rfl)) ?_; (with_reducible refine (reeveref21_may.calls kj3 _ _ l1 t496 _ ?side1 ?side2 A8.out).mono ?_); (case side1 => repeat (first | exact (Kd.C_below HR1.out HB.out) | (with_reducible refine Kd.C_alloc ?_ _) | (with_reducible refine Kd.C_drewN ?_ _) | (with_reducible refine Kd.C_drew ?_))); (case side2 => exact HC1.out); rintro e w11 ⟨rfl, hb⟩; refine ⟨_, rfl, ?_⟩; have n0_ := Aside0.mk (below_step (by repeat (first | (with_reducible first | exact HB.out | apply below_alloc | apply pw_below_drewN | apply below_drew1) | exact HB.out)) hb); clear HB; have HB := n0_; clear n0_; (try clear hb); (try clear hb2); (try clear hk); (try clear hi)))
    (try simp only [Act.put, List.setIfInBounds_toArray, List.set_cons_zero, List.set_cons_succ])
    go_cut [36] (fun v36 wc => ∃ (kq : Nat) (x36_8 : Bool), v36 = .bool x36_8 ∧ Aside0 (reeveref21_Round.j1 kq l0 l1 x36_8 = some (r1, r2)) ∧ Aside0 (kq ≤ kj3) ∧ Aside0 (Below w.heap.size w wc))
    case first =>
     have H := HC9.out
     clear HC9
     by_cases c12 : t495 = 0
     ·rw [if_pos c12] at H
      have c12b0 : (t495 == 0) = true := beq_iff_eq.mpr c12
      have c12b1 : (t495 != 0) = false := bne_eq_false_iff_eq.mpr c12
      clear c12
      (first | rw [c12b0] | (simp only [i64_w, i32_w]; rw [c12b0]) | skip)
      have H' := Aside0.mk H
      clear H
      go_wp2
      go_meet
      case rel => exact ⟨_, ((t496 != 0)), (by first | rfl | (simp; done) | (simp [*]; done) | (simp [Int.tdiv_eq_ediv_of_nonneg]; done)), H', ⟨by have := HJ3.out; first | omega | exact Nat.le_refl _⟩, ⟨by repeat (first | (with_reducible first | exact HB.out | apply below_alloc | apply pw_below_drewN | apply below_drew1) | exact HB.out)⟩⟩
     ·rw [if_neg c12] at H
      have c12b0 : (t495 == 0) = false := beq_eq_false_iff_ne.mpr c12
      have c12b1 : (t495 != 0) = true := bne_iff_ne.mpr c12
      (first | rw [c12b0] | (simp only [i64_w, i32_w]; rw [c12b0]) | skip)
      have H' := Aside0.mk H
      clear H
      go_wp2
      go_meet
      case rel => exact ⟨_, (true), (by first | rfl | (simp; done) | (simp [*]; done) | (simp [Int.tdiv_eq_ediv_of_nonneg]; done)), H', ⟨by have := HJ3.out; first | omega | exact Nat.le_refl _⟩, ⟨by repeat (first | (with_reducible first | exact HB.out | apply below_alloc | apply pw_below_drewN | apply below_drew1) | exact HB.out)⟩⟩
    case rest =>
     clear HC9
     try clear c1
     try clear c2
     try clear p2
     try clear c4
     try clear c5
     try clear c6
     try clear c12
     try clear c12b0
     try clear c12b1
     try clear p2
     obtain ⟨kq, x36_8, rfl, HA, HJ8, HB⟩ := hcut
     cases kq with
     | zero => exact absurd HA.out (by simp [reeveref21_Round.j1])
     | succ kj8 =>
      have H := HA.out
      clear HA
      simp only [reeveref21_Round.j1] at H
      by_cases c13 : x36_8 = true
      ·subst c13
       have H1 : (some (([] : List (S26)), 20)) = some (r1, r2) := by rw [if_pos rfl] at H; exact H
       clear H
       have H := H1
       clear H1
       simp only [Option.some.injEq, Prod.mk.injEq] at H
       obtain ⟨rfl, rfl⟩ := H
       go_wp2
       go_ret2
       exact ⟨_, by first | rfl | (simp [errW_none, errW_some] <;> rfl) | (simp [*, errW_none, errW_some] <;> rfl), by first | exact Kd.R_nil _ _ _ _ _ | exact Kd.N_nil _ _ _ _ _ | exact Kd.V_nil _ _ _ _ _ | exact Kd.Q_nil _ _ _ _ _ | exact Kd.S_nil _ _ _ _ _, by repeat (first | (with_reducible first | exact HB.out | apply below_alloc | apply pw_below_drewN | apply below_drew1) | exact HB.out)⟩
      ·replace c13 := Bool.eq_false_iff.mpr c13
       subst c13
       have H1 : (reeveref21_Round.l0 kj8 l0 l1 (l0.length : Int) ([] : List (S26)) 0) = some (r1, r2) := by rw [if_neg (show ¬ (false = true) by decide)] at H; exact H
       clear H
       have H := H1
       clear H1
       have H' := Aside0.mk H
       clear H
       go_wp2
       go_loopg [10, 11] kj8 (fun kq v10 v11 w' => ∃ (x10_3 : List (S26)) (x11_3 : Int), v11 = .int .i64 x11_3 ∧ Aside0 (reeveref21_Round.l0 kq l0 l1 (l0.length : Int) x10_3 x11_3 = some (r1, r2)) ∧ Aside0 (kq ≤ kj8) ∧ Aside0 (Kd.R k26 26 w' w.heap.size (fun _ => True) v10 x10_3) ∧ Aside0 (Below w.heap.size w w'))
       case atStart => exact ⟨(([] : List (S26))), (0), (by first | rfl | (simp; done) | (simp [*]; done) | (simp [Int.tdiv_eq_ediv_of_nonneg]; done)), H', ⟨Nat.le_refl _⟩, ⟨by first | exact Kd.R_nil _ _ _ _ _ | exact Kd.N_nil _ _ _ _ _ | exact Kd.V_nil _ _ _ _ _ | exact Kd.Q_nil _ _ _ _ _ | exact Kd.S_nil _ _ _ _ _⟩, ⟨by repeat (first | (with_reducible first | exact HB.out | apply below_alloc | apply pw_below_drewN | apply below_drew1) | exact HB.out)⟩⟩
       case round =>
        clear H'
        try clear c1
        try clear c2
        try clear p2
        try clear c4
        try clear c5
        try clear c6
        try clear c12
        try clear c12b0
        try clear c12b1
        try clear c13
        try clear p2
        obtain ⟨x10_3, x11_3, rfl, HA, HK3, HO_10, HB⟩ := hrel
        cases gk with
        | zero => exact absurd HA.out (by simp [reeveref21_Round.l0])
        | succ k3 =>
         have H := HA.out
         clear HA
         simp only [reeveref21_Round.l0] at H
         by_cases c14 : x11_3 < (l0.length : Int)
         ·rw [if_pos c14] at H
          have c14b0 : decide (x11_3 < (l0.length : Int)) = true := decide_eq_true c14
          clear c14
          have H' := Aside0.mk H
          clear H
          go_wp2_with (first | ((with_reducible refine gate_dst (N := 12) rfl ?_); (try (refine gate_guard (by rfl) ?_; dsimp only)); refine box_event ?hg (N := 12) ?hd (cs := #[.int .i64 0, .int .i64 0]) (t := 26) ?hr ?_; (case hd => rfl); (case hg => rfl); (case hr => first | (go_simp; done) | (go_simp; rfl)); intro gb497 hg w15 hbox hb; have n0_ := Aside0.mk (Kd.R_below (Kd.R_elderB (by (with_reducible repeat (first | apply Kd.R_alloc | apply Kd.R_drewN | apply Kd.R_drew)); exact HO_10.out) gb497 (Nat.le_of_eq hg.symm)) hb); have n1_ := Aside0.mk (below_step (by repeat (first | (with_reducible first | exact HB.out | apply below_alloc | apply pw_below_drewN | apply below_drew1) | exact HB.out)) hb); have n2_ := Aside0.mk (hbox); have n3_ := Aside0.mk ((by rw [hg]; exact (below_size (by repeat (first | (with_reducible first | exact HB.out | apply below_alloc | apply pw_below_drewN | apply below_drew1) | exact HB.out))) : w.heap.size ≤ gb497)); have n4_ := Aside0.mk ((by rw [hg]; exact (below_size (by repeat (first | (with_reducible first | exact HB.out | apply below_alloc | apply pw_below_drewN | apply below_drew1) | exact HB.out))) : w.heap.size ≤ gb497)); clear HO_10; clear HB; have HO_10 := n0_; have HB := n1_; have BK497 := n2_; have GW497 := n3_; have GE497 := n4_; clear n0_ n1_ n2_ n3_ n4_; clear hb hbox hg; have hcz16_0 : w15.cell? ⟨gb497, 0, none⟩ = some (.int .i64 0) := (blk_cell BK497.out 0).trans rfl; have hcz16_1 : w15.cell? ⟨gb497, 1, none⟩ = some (.int .i64 0) := (blk_cell BK497.out 1).trans rfl; have hfz16_0 := blk_frozen BK497.out 0; have hfz16_1 := blk_frozen BK497.out 1))
          go_loopg [13] k3 (fun kq v13 w' => ∃ (x13_4 : Int) (x498000_4 : Int) (x498001_4 : Int), v13 = .int .i64 x13_4 ∧ Aside0 (reeveref21_Round.l1 kq l0 l1 (l0.length : Int) x10_3 x11_3 x13_4 x498000_4 x498001_4 = some (r1, r2)) ∧ Aside0 (kq ≤ k3) ∧ Aside0 (Kd.R k26 26 w' w.heap.size (fun k_ => k_ ≠ gb497) u10 x10_3) ∧ Aside0 (w'.heap[gb497]? = some (.cells #[.int .i64 x498000_4, .int .i64 x498001_4] 26 (0, 0))) ∧ Aside0 (Below w.heap.size w w'))
          case atStart => exact ⟨(0), (0), (0), (by first | rfl | (simp; done) | (simp [*]; done) | (simp [Int.tdiv_eq_ediv_of_nonneg]; done)), H', ⟨Nat.le_refl _⟩, ⟨by (with_reducible repeat (first | apply Kd.R_alloc | apply Kd.R_drewN | apply Kd.R_drew)); exact Kd.R_mono (Kd.R_far (p := ⟨gb497, 1, none⟩) (Kd.R_far (p := ⟨gb497, 0, none⟩) (Kd.R_mono HO_10.out (fun k_ hk => (⟨hk, hk.2⟩ : _ ∧ k_ ≠ gb497))) (fun _ hk => hk.2) (.int .i64 0)) (fun _ hk => hk.2) (.int .i64 0)) (fun _ hk => hk.1.2)⟩, ⟨by (with_reducible repeat (first | refine blk_drewN ?_ _ | refine blk_drew ?_ | refine blk_alloc ?_ _)); refine blk_put (cs := #[.int .i64 0, .int .i64 0]) ?_ 1 _ rfl; (with_reducible repeat (first | refine blk_drewN ?_ _ | refine blk_drew ?_ | refine blk_alloc ?_ _)); refine blk_put (cs := #[.int .i64 0, .int .i64 0]) ?_ 0 _ rfl; (with_reducible repeat (first | refine blk_drewN ?_ _ | refine blk_drew ?_ | refine blk_alloc ?_ _)); exact BK497.out⟩, ⟨by repeat (first | (with_reducible first | exact HB.out | apply below_alloc | apply pw_below_drewN | apply below_drew1 | refine below_set ?_ GE497.out) | exact HB.out)⟩⟩
          case round =>
           clear H'
           try clear c1
           try clear c2
           try clear p2
           try clear c4
           try clear c5
           try clear c6
           try clear c12
           try clear c12b0
           try clear c12b1
           try clear c13
           try clear c14
           try clear c14b0
           try clear hcz16_0
           try clear hcz16_1
           try clear hfz16_0
           try clear hfz16_1
           try clear p2
           obtain ⟨x13_4, x498000_4, x498001_4, rfl, HA, HK4, HO_10, BK497, HB⟩ := hrel
           cases gk with
           | zero => exact absurd HA.out (by simp [reeveref21_Round.l1])
           | succ k4 =>
            have H := HA.out
            clear HA
            simp only [reeveref21_Round.l1] at H
            by_cases c17 : x13_4 < (l0.length : Int)
            ·rw [if_pos c17] at H
             have c17b0 : decide (x13_4 < (l0.length : Int)) = true := decide_eq_true c17
             clear c17
             by_cases c18 : 0 ≤ x13_4
             ·rw [if_pos c18] at H
              have c18b0 : decide (0 ≤ x13_4) = true := decide_eq_true c18
              clear c18
              by_cases c19 : x13_4 < (l0.length : Int)
              ·rw [if_pos c19] at H
               have c19b0 : decide (x13_4 < (l0.length : Int)) = true := decide_eq_true c19
               clear c19
               by_cases c20 : (l0.length : Int) = 0
               ·rw [if_pos c20] at H
                exact absurd H (by simp)
               ·rw [if_neg c20] at H
                have c20b0 : ((l0.length : Int) == 0) = false := beq_eq_false_iff_ne.mpr c20
                have c20b1 : ((l0.length : Int) != 0) = true := bne_iff_ne.mpr c20
                have c20b2 : ¬ (l0 = []) := fun h_ => c20 (by rw [h_]; rfl)
                obtain ⟨ji21, hji21⟩ : ∃ j_ : Int, (Int.tmod (wrap64 ((wrap64 (x11_3 - x13_4)) + (l0.length : Int))) (l0.length : Int)) = j_ := ⟨_, rfl⟩
                replace H : (if 0 ≤ (ji21) then (if (ji21) < (l1.length : Int) then ((reeveref02_Mul.f ((rd_T26 l0 x13_4).f0) ((rd_T26 l0 x13_4).f1) ((rd_T26 l1 (ji21)).f0) ((rd_T26 l1 (ji21)).f1)).bind fun bt503 => ((reeveref02_Plus.f x498000_4 x498001_4 bt503.1 bt503.2).bind fun bt506 => (reeveref21_Round.l1 k4 l0 l1 (l0.length : Int) x10_3 x11_3 (wrap64 (x13_4 + 1)) bt506.1 bt506.2))) else (none)) else (none)) = some (r1, r2) := by first | (rw [hji21] at H; exact H) | (simp only [hji21] at H ⊢; exact H)
                by_cases c22 : 0 ≤ (ji21)
                ·rw [if_pos c22] at H
                 have c22b0 : decide (0 ≤ (ji21)) = true := decide_eq_true c22
                 clear c22
                 by_cases c23 : (ji21) < (l1.length : Int)
                 ·rw [if_pos c23] at H
                  have c23b0 : decide ((ji21) < (l1.length : Int)) = true := decide_eq_true c23
                  clear c23
                  replace H := Option.bind_eq_some_iff.mp H
                  obtain ⟨⟨t503, t504⟩, A240, H⟩ := H
                  replace H : ((reeveref02_Plus.f x498000_4 x498001_4 t503 t504).bind fun bt506 => (reeveref21_Round.l1 k4 l0 l1 (l0.length : Int) x10_3 x11_3 (wrap64 (x13_4 + 1)) bt506.1 bt506.2)) = some (r1, r2) := H
                  have A24 := Aside0.mk A240
                  clear A240
                  replace H := Option.bind_eq_some_iff.mp H
                  obtain ⟨⟨t506, t507⟩, A250, H⟩ := H
                  replace H : (reeveref21_Round.l1 k4 l0 l1 (l0.length : Int) x10_3 x11_3 (wrap64 (x13_4 + 1)) t506 t507) = some (r1, r2) := H
                  have A25 := Aside0.mk A250
                  clear A250
                  have H' := Aside0.mk H
                  clear H
                  try go_wp2
                  have n0_ := Aside0.mk (Kd.R_drew HO_10.out)
                  have n1_ := Aside0.mk (blk_drew BK497.out)
                  have n2_ := Aside0.mk (below_drew1 HB.out)
                  clear HO_10
                  clear BK497
                  clear HB
                  have HO_10 := n0_
                  have BK497 := n1_
                  have HB := n2_
                  clear n0_ n1_ n2_
                  have p501 : 0 ≤ (x13_4 : Int) := of_decide_eq_true (by first | (with_reducible assumption) | assumption)
                  have q501 : x13_4 < (l0.length : Int) := of_decide_eq_true (by first | (with_reducible assumption) | assumption)
                  obtain ⟨ad501, e501, hx501_0, hx501_1⟩ := at_T26 HR0.out x13_4 p501 q501
                  have hw501_1 := hx501_1
                  have hw501_0 := hx501_0
                  cases e501
                  replace hx501_0 := (HB.out.cell (World.block_lt_of_cell? w _ hx501_0)).trans hx501_0
                  replace hx501_1 := (HB.out.cell (World.block_lt_of_cell? w _ hx501_1)).trans hx501_1
                  replace p501 := eq_true p501
                  replace q501 := eq_true q501
                  have p502 : 0 ≤ ((ji21) : Int) := of_decide_eq_true (by first | (with_reducible assumption) | assumption)
                  have q502 : (ji21) < (l1.length : Int) := of_decide_eq_true (by first | (with_reducible assumption) | assumption)
                  obtain ⟨ad502, e502, hx502_0, hx502_1⟩ := at_T26 HR1.out (ji21) p502 q502
                  have hw502_1 := hx502_1
                  have hw502_0 := hx502_0
                  cases e502
                  replace hx502_0 := (HB.out.cell (World.block_lt_of_cell? w _ hx502_0)).trans hx502_0
                  replace hx502_1 := (HB.out.cell (World.block_lt_of_cell? w _ hx502_1)).trans hx502_1
                  replace p502 := eq_true p502
                  replace q502 := eq_true q502
                  refine start_ (n := 17) (S := fun w' => w'.cell? (ad501.add ((x13_4).toNat * 2)) = some (.int .i64 ((rd_T26 l0 x13_4).f0)) ∧ w'.cell? ⟨(ad501.add ((x13_4).toNat * 2)).block, (ad501.add ((x13_4).toNat * 2)).off + 1, none⟩ = some (.int .i64 ((rd_T26 l0 x13_4).f1)) ∧ w'.cell? (ad502.add (((ji21)).toNat * 2)) = some (.int .i64 ((rd_T26 l1 (ji21)).f0)) ∧ w'.cell? ⟨(ad502.add (((ji21)).toNat * 2)).block, (ad502.add (((ji21)).toNat * 2)).off + 1, none⟩ = some (.int .i64 ((rd_T26 l1 (ji21)).f1))) (ds := []) #[false, false, false, false, false, false, false, false, false, false, false, false, false, false, false, false, false] (by kernel_rfl) rfl rfl ⟨((HB.out.cell (World.block_lt_of_cell? w _ hw501_0)).trans hw501_0), ((HB.out.cell (World.block_lt_of_cell? w _ hw501_1)).trans hw501_1), ((HB.out.cell (World.block_lt_of_cell? w _ hw502_0)).trans hw502_0), ((HB.out.cell (World.block_lt_of_cell? w _ hw502_1)).trans hw502_1)⟩ (fun hHeld => ?_); refine with_tabW reeveref21_Round.tab17 reeveref21_Round.bits17 (fun HT_ HW_ => ?_)
                  generalize wr.drew = w26 at HO_10 BK497 HB hx501_0 hx501_1 hx502_0 hx502_1 hHeld ⊢
                  refine pure_ (i := 0) (N := some 50) (v := ?_) (a' := ?_) #[true, false, false, false, false, false, false, false, false, false, false, false, false, false, false, false, false] rfl rfl (any_of HT_.out (by kernel_rfl)) (fun _ _ _ h => h) (Or.inl ⟨by rfl, ?_⟩) ?_ ?_
                  rotate_left
                  ·intro w'
                   go_simp
                   with_reducible rfl
                  rotate_left
                  ·simp only [Act.put, List.setIfInBounds_toArray, List.set_cons_zero, List.set_cons_succ, i64_w, i32_w]
                   rfl
                  refine pure_ (i := 1) (N := some 51) (v := ?_) (a' := ?_) #[true, true, false, false, false, false, false, false, false, false, false, false, false, false, false, false, false] rfl rfl (any_of HT_.out (by kernel_rfl)) (fun _ _ _ h => h) (Or.inl ⟨by rfl, ?_⟩) ?_ ?_
                  rotate_left
                  ·intro w'
                   go_simp
                   with_reducible rfl
                  rotate_left
                  ·simp only [Act.put, List.setIfInBounds_toArray, List.set_cons_zero, List.set_cons_succ, i64_w, i32_w]
                   rfl
                  refine pure_ (i := 2) (N := some 52) (v := ?_) (a' := ?_) #[true, true, true, false, false, false, false, false, false, false, false, false, false, false, false, false, false] rfl rfl (any_of HT_.out (by kernel_rfl)) (fun _ _ _ h => h) (Or.inl ⟨by rfl, ?_⟩) ?_ ?_
                  rotate_left
                  ·intro w'
                   go_simp
                   with_reducible rfl
                  rotate_left
                  ·simp only [Act.put, List.setIfInBounds_toArray, List.set_cons_zero, List.set_cons_succ, i64_w, i32_w]
                   rfl
                  refine pure_ (i := 4) (N := some 54) (v := ?_) (a' := ?_) #[true, true, true, false, true, false, false, false, false, false, false, false, false, false, false, false, false] rfl rfl (any_of HT_.out (by kernel_rfl)) (fun _ _ _ h => h) (Or.inl ⟨by rfl, ?_⟩) ?_ ?_
                  rotate_left
                  ·intro w'
                   go_simp
                   with_reducible rfl
                  rotate_left
                  ·simp only [Act.put, List.setIfInBounds_toArray, List.set_cons_zero, List.set_cons_succ, i64_w, i32_w]
                   rfl
                  refine pure_ (i := 5) (N := some 55) (v := ?_) (a' := ?_) #[true, true, true, false, true, true, false, false, false, false, false, false, false, false, false, false, false] rfl rfl (any_of HT_.out (by kernel_rfl)) (fun _ _ _ h => h) (Or.inl ⟨by rfl, ?_⟩) ?_ ?_
                  rotate_left
                  ·intro w'
                   go_simp
                   with_reducible rfl
                  rotate_left
                  ·simp only [Act.put, List.setIfInBounds_toArray, List.set_cons_zero, List.set_cons_succ, i64_w, i32_w]
                   rfl
                  refine pure_ (i := 6) (N := some 56) (v := ?_) (a' := ?_) #[true, true, true, false, true, true, true, false, false, false, false, false, false, false, false, false, false] rfl rfl (any_of HT_.out (by kernel_rfl)) (fun _ _ _ h => h) (Or.inl ⟨by rfl, ?_⟩) ?_ ?_
                  rotate_left
                  ·intro w'
                   go_simp
                   with_reducible rfl
                  rotate_left
                  ·simp only [Act.put, List.setIfInBounds_toArray, List.set_cons_zero, List.set_cons_succ, i64_w, i32_w]
                   rfl
                  refine pure_ (i := 7) (N := some 57) (v := ?_) (a' := ?_) #[true, true, true, false, true, true, true, true, false, false, false, false, false, false, false, false, false] rfl rfl (any_of HT_.out (by kernel_rfl)) (fun _ _ _ h => h) (Or.inl ⟨by rfl, ?_⟩) ?_ ?_
                  rotate_left
                  ·intro w'
                   go_simp
                   with_reducible rfl
                  rotate_left
                  ·simp only [Act.put, List.setIfInBounds_toArray, List.set_cons_zero, List.set_cons_succ, i64_w, i32_w]
                   rfl
                  refine pure_ (i := 8) (N := some 58) (v := ?_) (a' := ?_) #[true, true, true, false, true, true, true, true, true, false, false, false, false, false, false, false, false] rfl rfl (any_of HT_.out (by kernel_rfl)) (fun _ _ _ h => h) (Or.inl ⟨by rfl, ?_⟩) ?_ ?_
                  rotate_left
                  ·intro w'
                   go_simp
                   with_reducible rfl
                  rotate_left
                  ·simp only [Act.put, List.setIfInBounds_toArray, List.set_cons_zero, List.set_cons_succ, i64_w, i32_w]
                   rfl
                  refine pure_ (i := 9) (N := some 59) (v := ?_) (a' := ?_) #[true, true, true, false, true, true, true, true, true, true, false, false, false, false, false, false, false] rfl rfl (any_of HT_.out (by kernel_rfl)) (fun _ _ _ h => h) (Or.inl ⟨by rfl, ?_⟩) ?_ ?_
                  rotate_left
                  ·intro w'
                   go_simp
                   with_reducible rfl
                  rotate_left
                  ·simp only [Act.put, List.setIfInBounds_toArray, List.set_cons_zero, List.set_cons_succ, i64_w, i32_w]
                   rfl
                  refine pure_ (i := 10) (N := some 60) (v := ?_) (a' := ?_) #[true, true, true, false, true, true, true, true, true, true, true, false, false, false, false, false, false] rfl rfl (any_of HT_.out (by kernel_rfl)) (fun _ _ _ h => h) (Or.inl ⟨by rfl, ?_⟩) ?_ ?_
                  rotate_left
                  ·intro w'
                   go_simp
                   with_reducible rfl
                  rotate_left
                  ·simp only [Act.put, List.setIfInBounds_toArray, List.set_cons_zero, List.set_cons_succ, i64_w, i32_w]
                   rfl
                  refine pure_ (i := 11) (N := some 61) (v := ?_) (a' := ?_) #[true, true, true, false, true, true, true, true, true, true, true, true, false, false, false, false, false] rfl rfl (any_of HT_.out (by kernel_rfl)) (fun _ _ _ h => h) (Or.inl ⟨by rfl, ?_⟩) ?_ ?_
                  rotate_left
                  ·intro w'
                   go_simp
                   with_reducible rfl
                  rotate_left
                  ·simp only [Act.put, List.setIfInBounds_toArray, List.set_cons_zero, List.set_cons_succ, i64_w, i32_w]
                   rfl
                  refine pure_ (i := 12) (N := some 62) (v := ?_) (a' := ?_) #[true, true, true, false, true, true, true, true, true, true, true, true, true, false, false, false, false] rfl rfl (any_of HT_.out (by kernel_rfl)) (fun _ _ _ h => h) (Or.inl ⟨by rfl, ?_⟩) ?_ ?_
                  rotate_left
                  ·intro w'
                   go_simp
                   with_reducible rfl
                  rotate_left
                  ·simp only [Act.put, List.setIfInBounds_toArray, List.set_cons_zero, List.set_cons_succ, i64_w, i32_w]
                   rfl
                  refine take_ (i := 3) (N := some 53) (v := ?_) (a' := ?_) #[true, true, true, true, true, true, true, true, true, true, true, true, true, false, false, false, false] rfl rfl (take_ofW HT_.out HW_.out (by kernel_rfl)) (fun _ _ _ h => h) (Or.inl ⟨by rfl, ?_⟩) hHeld ?_ ?_
                  rotate_left
                  ·rintro w' ⟨s0, s1, s2, s3⟩
                   go_simp
                   with_reducible rfl
                  rotate_left
                  ·simp only [Act.put, List.setIfInBounds_toArray, List.set_cons_zero, List.set_cons_succ, i64_w, i32_w]
                   rfl
                  refine take_ (i := 13) (N := some 63) (v := ?_) (a' := ?_) #[true, true, true, true, true, true, true, true, true, true, true, true, true, true, false, false, false] rfl rfl (take_ofW HT_.out HW_.out (by kernel_rfl)) (fun _ _ _ h => h) (Or.inl ⟨by rfl, ?_⟩) hHeld ?_ ?_
                  rotate_left
                  ·rintro w' ⟨s0, s1, s2, s3⟩
                   go_simp
                   with_reducible rfl
                  rotate_left
                  ·simp only [Act.put, List.setIfInBounds_toArray, List.set_cons_zero, List.set_cons_succ, i64_w, i32_w]
                   rfl
                  refine join_ (σ := Nat) 1 #[true, true, true, true, true, true, true, true, true, true, true, true, true, true, true, true, false] (fun s_ => [(64, .agg #[.int .i64 t503, .int .i64 t504]), (14, .pointer (some ⟨s_, 0, none⟩))]) (fun s_ w' => (w'.cell? (ad501.add ((x13_4).toNat * 2)) = some (.int .i64 ((rd_T26 l0 x13_4).f0)) ∧ w'.cell? ⟨(ad501.add ((x13_4).toNat * 2)).block, (ad501.add ((x13_4).toNat * 2)).off + 1, none⟩ = some (.int .i64 ((rd_T26 l0 x13_4).f1)) ∧ w'.cell? (ad502.add (((ji21)).toNat * 2)) = some (.int .i64 ((rd_T26 l1 (ji21)).f0)) ∧ w'.cell? ⟨(ad502.add (((ji21)).toNat * 2)).block, (ad502.add (((ji21)).toNat * 2)).off + 1, none⟩ = some (.int .i64 ((rd_T26 l1 (ji21)).f1))) ∧ (Kd.R k26 26 w' w.heap.size (fun k_ => k_ ≠ gb497 ∧ k_ ≠ s_) u10 x10_3) ∧ (w'.heap[gb497]? = some (.cells #[.int .i64 x498000_4, .int .i64 x498001_4] 26 (0, 0))) ∧ (w'.heap[s_]? = some (.cells #[.int .i64 0, .int .i64 0] 26 (0, 0))) ∧ (w.heap.size ≤ s_) ∧ (w.heap.size ≤ s_) ∧ (gb497 ≠ s_) ∧ (s_ ≠ gb497) ∧ (Below w.heap.size w w')) ?_ ?_
                  rotate_left
                  ·intro hCont
                   refine two_ (i := 14) (j := 15) (Ni := some 64) (Nj := some 14) #[true, true, true, true, true, true, true, true, true, true, true, true, true, true, true, false, false] #[true, true, true, true, true, true, true, true, true, true, true, true, true, true, false, true, false] rfl rfl rfl rfl (two_of HT_.out (by kernel_rfl)) (by decide) (by decide) (fun K hK => ?_) (fun K hK => ?_)
                   ·skip
                    refine goes_ Try.func46 (by kernel_rfl) rfl #[.agg #[.int .i64 ((rd_T26 l0 x13_4).f0), .int .i64 ((rd_T26 l0 x13_4).f1)], .agg #[.int .i64 ((rd_T26 l1 (ji21)).f0), .int .i64 ((rd_T26 l1 (ji21)).f1)]] (by rfl) rfl rfl (by (try simp only [List.map_toArray, List.map_cons, List.map_nil]); first | done | (simp only [hji21]; rfl) | rfl | (simp only [List.length_drop, List.length_take]; rfl)) ?_
                    with_reducible refine (reeveref02_Mul.calls ((rd_T26 l0 x13_4).f0) ((rd_T26 l0 x13_4).f1) ((rd_T26 l1 (ji21)).f0) ((rd_T26 l1 (ji21)).f1) t503 t504 _ A24.out).mono ?_
                    rintro e w27 ⟨rfl, hb⟩
                    refine ⟨_, rfl, ?_⟩
                    have n0_ := Aside0.mk (Kd.R_below (by (with_reducible repeat (first | apply Kd.R_alloc | apply Kd.R_drewN | apply Kd.R_drew)); exact HO_10.out) hb)
                    have n1_ := Aside0.mk (blk_below (g := gb497) (o := .cells #[.int .i64 x498000_4, .int .i64 x498001_4] 26 (0, 0)) (by (with_reducible repeat (first | refine blk_drewN ?_ _ | refine blk_drew ?_ | refine blk_alloc ?_ _)); exact BK497.out) hb)
                    have n2_ := Aside0.mk (below_step (by repeat (first | (with_reducible first | exact HB.out | apply below_alloc | apply pw_below_drewN | apply below_drew1 | refine below_set ?_ GE497.out) | exact HB.out)) hb)
                    clear HO_10
                    clear BK497
                    clear HB
                    have HO_10 := n0_
                    have BK497 := n1_
                    have HB := n2_
                    clear n0_ n1_ n2_
                    (try clear hb)
                    (try clear hb2)
                    (try clear hk)
                    (try clear hi)
                    refine hK.out _ _ ⟨((HB.out.cell (World.block_lt_of_cell? w _ hw501_0)).trans hw501_0), ((HB.out.cell (World.block_lt_of_cell? w _ hw501_1)).trans hw501_1), ((HB.out.cell (World.block_lt_of_cell? w _ hw502_0)).trans hw502_0), ((HB.out.cell (World.block_lt_of_cell? w _ hw502_1)).trans hw502_1)⟩ (fun hHeld => ?_)
                    clear hK K
                    refine norm_ (a' := ?_) ?_ ?_
                    rotate_left
                    ·show Act.put _ (some 64) _ = _
                     simp only [Act.put, List.setIfInBounds_toArray, List.set_cons_zero, List.set_cons_succ, i64_w, i32_w]
                     rfl
                    refine one_ (i := 15) (N := some 14) #[true, true, true, true, true, true, true, true, true, true, true, true, true, true, true, true, false] rfl rfl (one_of HT_.out (by kernel_rfl)) (by decide) (fun K hK => ?_)
                    refine box_step ?hg (N := 14) ?hd (cs := #[.int .i64 0, .int .i64 0]) (t := 26) ?hr ?_; (case hd => rfl); (case hg => rfl); (case hr => first | (go_simp; done) | (go_simp; rfl))
                    intro gb505 hg w28 hbox hb
                    have n0_ := Aside0.mk (Kd.R_below (Kd.R_elderB (by (with_reducible repeat (first | apply Kd.R_alloc | apply Kd.R_drewN | apply Kd.R_drew)); exact HO_10.out) gb505 (Nat.le_of_eq hg.symm)) hb)
                    have n1_ := Aside0.mk (blk_below (g := gb497) (o := .cells #[.int .i64 x498000_4, .int .i64 x498001_4] 26 (0, 0)) (by (with_reducible repeat (first | refine blk_drewN ?_ _ | refine blk_drew ?_ | refine blk_alloc ?_ _)); exact BK497.out) hb)
                    have n2_ := Aside0.mk (below_step (by repeat (first | (with_reducible first | exact HB.out | apply below_alloc | apply pw_below_drewN | apply below_drew1 | refine below_set ?_ GE497.out) | exact HB.out)) hb)
                    have n3_ := Aside0.mk (hbox)
                    have n4_ := Aside0.mk ((by rw [hg]; exact (below_size (by repeat (first | (with_reducible first | exact HB.out | apply below_alloc | apply pw_below_drewN | apply below_drew1 | refine below_set ?_ GE497.out) | exact HB.out))) : w.heap.size ≤ gb505))
                    have n5_ := Aside0.mk ((by rw [hg]; exact (below_size (by repeat (first | (with_reducible first | exact HB.out | apply below_alloc | apply pw_below_drewN | apply below_drew1 | refine below_set ?_ GE497.out) | exact HB.out))) : w.heap.size ≤ gb505))
                    have n6_ := Aside0.mk ((by rw [hg]; exact Nat.ne_of_lt (blk_lt (g := gb497) (o := .cells #[.int .i64 x498000_4, .int .i64 x498001_4] 26 (0, 0)) (by (with_reducible repeat (first | refine blk_drewN ?_ _ | refine blk_drew ?_ | refine blk_alloc ?_ _)); exact BK497.out)) : gb497 ≠ gb505))
                    have n7_ := Aside0.mk ((by rw [hg]; exact Nat.ne_of_gt (blk_lt (g := gb497) (o := .cells #[.int .i64 x498000_4, .int .i64 x498001_4] 26 (0, 0)) (by (with_reducible repeat (first | refine blk_drewN ?_ _ | refine blk_drew ?_ | refine blk_alloc ?_ _)); exact BK497.out)) : gb505 ≠ gb497))
                    clear HO_10
                    clear BK497
                    clear HB
                    have HO_10 := n0_
                    have BK497 := n1_
                    have HB := n2_
                    have BK505 := n3_
                    have GW505 := n4_
                    have GE505 := n5_
                    have NB497_505 := n6_
                    have NB505_497 := n7_
                    clear n0_ n1_ n2_ n3_ n4_ n5_ n6_ n7_
                    clear hb hbox hg
                    refine hK.out _ _ ⟨((HB.out.cell (World.block_lt_of_cell? w _ hw501_0)).trans hw501_0), ((HB.out.cell (World.block_lt_of_cell? w _ hw501_1)).trans hw501_1), ((HB.out.cell (World.block_lt_of_cell? w _ hw502_0)).trans hw502_0), ((HB.out.cell (World.block_lt_of_cell? w _ hw502_1)).trans hw502_1)⟩ (fun hHeld => ?_)
                    clear hK K
                    refine norm_ (a' := ?_) ?_ ?_
                    rotate_left
                    ·show Act.put _ (some 14) _ = _
                     simp only [Act.put, List.setIfInBounds_toArray, List.set_cons_zero, List.set_cons_succ, i64_w, i32_w]
                     rfl
                    exact norm_ (by simp only [putAll, Act.put, List.setIfInBounds_toArray, List.set_cons_zero, List.set_cons_succ]) (hCont (gb505) _ ⟨hHeld, (by (with_reducible repeat (first | apply Kd.R_alloc | apply Kd.R_drewN | apply Kd.R_drew)); exact HO_10.out), (by (with_reducible repeat (first | refine blk_drewN ?_ _ | refine blk_drew ?_ | refine blk_alloc ?_ _)); exact BK497.out), (by (with_reducible repeat (first | refine blk_drewN ?_ _ | refine blk_drew ?_ | refine blk_alloc ?_ _)); exact BK505.out), GW505.out, GE505.out, NB497_505.out, NB505_497.out, (by repeat (first | (with_reducible first | exact HB.out | apply below_alloc | apply pw_below_drewN | apply below_drew1 | refine below_set ?_ GE497.out | refine below_set ?_ GE505.out) | exact HB.out))⟩)
                   ·skip
                    refine box_step ?hg (N := 14) ?hd (cs := #[.int .i64 0, .int .i64 0]) (t := 26) ?hr ?_; (case hd => rfl); (case hg => rfl); (case hr => first | (go_simp; done) | (go_simp; rfl))
                    intro gb505 hg w27 hbox hb
                    have n0_ := Aside0.mk (Kd.R_below (Kd.R_elderB (by (with_reducible repeat (first | apply Kd.R_alloc | apply Kd.R_drewN | apply Kd.R_drew)); exact HO_10.out) gb505 (Nat.le_of_eq hg.symm)) hb)
                    have n1_ := Aside0.mk (blk_below (g := gb497) (o := .cells #[.int .i64 x498000_4, .int .i64 x498001_4] 26 (0, 0)) (by (with_reducible repeat (first | refine blk_drewN ?_ _ | refine blk_drew ?_ | refine blk_alloc ?_ _)); exact BK497.out) hb)
                    have n2_ := Aside0.mk (below_step (by repeat (first | (with_reducible first | exact HB.out | apply below_alloc | apply pw_below_drewN | apply below_drew1 | refine below_set ?_ GE497.out) | exact HB.out)) hb)
                    have n3_ := Aside0.mk (hbox)
                    have n4_ := Aside0.mk ((by rw [hg]; exact (below_size (by repeat (first | (with_reducible first | exact HB.out | apply below_alloc | apply pw_below_drewN | apply below_drew1 | refine below_set ?_ GE497.out) | exact HB.out))) : w.heap.size ≤ gb505))
                    have n5_ := Aside0.mk ((by rw [hg]; exact (below_size (by repeat (first | (with_reducible first | exact HB.out | apply below_alloc | apply pw_below_drewN | apply below_drew1 | refine below_set ?_ GE497.out) | exact HB.out))) : w.heap.size ≤ gb505))
                    have n6_ := Aside0.mk ((by rw [hg]; exact Nat.ne_of_lt (blk_lt (g := gb497) (o := .cells #[.int .i64 x498000_4, .int .i64 x498001_4] 26 (0, 0)) (by (with_reducible repeat (first | refine blk_drewN ?_ _ | refine blk_drew ?_ | refine blk_alloc ?_ _)); exact BK497.out)) : gb497 ≠ gb505))
                    have n7_ := Aside0.mk ((by rw [hg]; exact Nat.ne_of_gt (blk_lt (g := gb497) (o := .cells #[.int .i64 x498000_4, .int .i64 x498001_4] 26 (0, 0)) (by (with_reducible repeat (first | refine blk_drewN ?_ _ | refine blk_drew ?_ | refine blk_alloc ?_ _)); exact BK497.out)) : gb505 ≠ gb497))
                    clear HO_10
                    clear BK497
                    clear HB
                    have HO_10 := n0_
                    have BK497 := n1_
                    have HB := n2_
                    have BK505 := n3_
                    have GW505 := n4_
                    have GE505 := n5_
                    have NB497_505 := n6_
                    have NB505_497 := n7_
                    clear n0_ n1_ n2_ n3_ n4_ n5_ n6_ n7_
                    clear hb hbox hg
                    refine hK.out _ _ ⟨((HB.out.cell (World.block_lt_of_cell? w _ hw501_0)).trans hw501_0), ((HB.out.cell (World.block_lt_of_cell? w _ hw501_1)).trans hw501_1), ((HB.out.cell (World.block_lt_of_cell? w _ hw502_0)).trans hw502_0), ((HB.out.cell (World.block_lt_of_cell? w _ hw502_1)).trans hw502_1)⟩ (fun hHeld => ?_)
                    clear hK K
                    refine norm_ (a' := ?_) ?_ ?_
                    rotate_left
                    ·show Act.put _ (some 14) _ = _
                     simp only [Act.put, List.setIfInBounds_toArray, List.set_cons_zero, List.set_cons_succ, i64_w, i32_w]
                     rfl
                    refine one_ (i := 14) (N := some 64) #[true, true, true, true, true, true, true, true, true, true, true, true, true, true, true, true, false] rfl rfl (one_of HT_.out (by kernel_rfl)) (by decide) (fun K hK => ?_)
                    refine goes_ Try.func46 (by kernel_rfl) rfl #[.agg #[.int .i64 ((rd_T26 l0 x13_4).f0), .int .i64 ((rd_T26 l0 x13_4).f1)], .agg #[.int .i64 ((rd_T26 l1 (ji21)).f0), .int .i64 ((rd_T26 l1 (ji21)).f1)]] (by rfl) rfl rfl (by (try simp only [List.map_toArray, List.map_cons, List.map_nil]); first | done | (simp only [hji21]; rfl) | rfl | (simp only [List.length_drop, List.length_take]; rfl)) ?_
                    with_reducible refine (reeveref02_Mul.calls ((rd_T26 l0 x13_4).f0) ((rd_T26 l0 x13_4).f1) ((rd_T26 l1 (ji21)).f0) ((rd_T26 l1 (ji21)).f1) t503 t504 _ A24.out).mono ?_
                    rintro e w28 ⟨rfl, hb⟩
                    refine ⟨_, rfl, ?_⟩
                    have n0_ := Aside0.mk (Kd.R_below (by (with_reducible repeat (first | apply Kd.R_alloc | apply Kd.R_drewN | apply Kd.R_drew)); exact HO_10.out) hb)
                    have n1_ := Aside0.mk (blk_below (g := gb497) (o := .cells #[.int .i64 x498000_4, .int .i64 x498001_4] 26 (0, 0)) (by (with_reducible repeat (first | refine blk_drewN ?_ _ | refine blk_drew ?_ | refine blk_alloc ?_ _)); exact BK497.out) hb)
                    have n2_ := Aside0.mk (blk_below (g := gb505) (o := .cells #[.int .i64 0, .int .i64 0] 26 (0, 0)) (by (with_reducible repeat (first | refine blk_drewN ?_ _ | refine blk_drew ?_ | refine blk_alloc ?_ _)); exact BK505.out) hb)
                    have n3_ := Aside0.mk (below_step (by repeat (first | (with_reducible first | exact HB.out | apply below_alloc | apply pw_below_drewN | apply below_drew1 | refine below_set ?_ GE497.out | refine below_set ?_ GE505.out) | exact HB.out)) hb)
                    clear HO_10
                    clear BK497
                    clear BK505
                    clear HB
                    have HO_10 := n0_
                    have BK497 := n1_
                    have BK505 := n2_
                    have HB := n3_
                    clear n0_ n1_ n2_ n3_
                    (try clear hb)
                    (try clear hb2)
                    (try clear hk)
                    (try clear hi)
                    refine hK.out _ _ ⟨((HB.out.cell (World.block_lt_of_cell? w _ hw501_0)).trans hw501_0), ((HB.out.cell (World.block_lt_of_cell? w _ hw501_1)).trans hw501_1), ((HB.out.cell (World.block_lt_of_cell? w _ hw502_0)).trans hw502_0), ((HB.out.cell (World.block_lt_of_cell? w _ hw502_1)).trans hw502_1)⟩ (fun hHeld => ?_)
                    clear hK K
                    refine norm_ (a' := ?_) ?_ ?_
                    rotate_left
                    ·show Act.put _ (some 64) _ = _
                     simp only [Act.put, List.setIfInBounds_toArray, List.set_cons_zero, List.set_cons_succ, i64_w, i32_w]
                     rfl
                    exact norm_ (by simp only [putAll, Act.put, List.setIfInBounds_toArray, List.set_cons_zero, List.set_cons_succ]) (hCont (gb505) _ ⟨hHeld, (by (with_reducible repeat (first | apply Kd.R_alloc | apply Kd.R_drewN | apply Kd.R_drew)); exact HO_10.out), (by (with_reducible repeat (first | refine blk_drewN ?_ _ | refine blk_drew ?_ | refine blk_alloc ?_ _)); exact BK497.out), (by (with_reducible repeat (first | refine blk_drewN ?_ _ | refine blk_drew ?_ | refine blk_alloc ?_ _)); exact BK505.out), GW505.out, GE505.out, NB497_505.out, NB505_497.out, (by repeat (first | (with_reducible first | exact HB.out | apply below_alloc | apply pw_below_drewN | apply below_drew1 | refine below_set ?_ GE497.out | refine below_set ?_ GE505.out) | exact HB.out))⟩)
                  rintro gb505 w29 ⟨hS_, h0_, h1_, h2_, h3_, h4_, h5_, h6_, h7_⟩
                  have n0_ : Aside0 (Kd.R k26 26 w29 w.heap.size (fun k_ => k_ ≠ gb497 ∧ k_ ≠ gb505) u10 x10_3) := ⟨h0_⟩
                  have n1_ : Aside0 (w29.heap[gb497]? = some (.cells #[.int .i64 x498000_4, .int .i64 x498001_4] 26 (0, 0))) := ⟨h1_⟩
                  have n2_ : Aside0 (w29.heap[gb505]? = some (.cells #[.int .i64 0, .int .i64 0] 26 (0, 0))) := ⟨h2_⟩
                  have n3_ : Aside0 (w.heap.size ≤ gb505) := ⟨h3_⟩
                  have n4_ : Aside0 (w.heap.size ≤ gb505) := ⟨h4_⟩
                  have n5_ : Aside0 (gb497 ≠ gb505) := ⟨h5_⟩
                  have n6_ : Aside0 (gb505 ≠ gb497) := ⟨h6_⟩
                  have n7_ : Aside0 (Below w.heap.size w w29) := ⟨h7_⟩
                  clear HO_10
                  clear BK497
                  clear HB
                  clear h0_ h1_ h2_ h3_ h4_ h5_ h6_ h7_
                  have HO_10 := n0_
                  have BK497 := n1_
                  have BK505 := n2_
                  have GW505 := n3_
                  have GE505 := n4_
                  have NB497_505 := n5_
                  have NB505_497 := n6_
                  have HB := n7_
                  clear n0_ n1_ n2_ n3_ n4_ n5_ n6_ n7_
                  have hHeld : w29.cell? (ad501.add ((x13_4).toNat * 2)) = some (.int .i64 ((rd_T26 l0 x13_4).f0)) ∧ w29.cell? ⟨(ad501.add ((x13_4).toNat * 2)).block, (ad501.add ((x13_4).toNat * 2)).off + 1, none⟩ = some (.int .i64 ((rd_T26 l0 x13_4).f1)) ∧ w29.cell? (ad502.add (((ji21)).toNat * 2)) = some (.int .i64 ((rd_T26 l1 (ji21)).f0)) ∧ w29.cell? ⟨(ad502.add (((ji21)).toNat * 2)).block, (ad502.add (((ji21)).toNat * 2)).off + 1, none⟩ = some (.int .i64 ((rd_T26 l1 (ji21)).f1)) := hS_
                  refine norm_ (a' := ?_) ?_ ?_
                  rotate_left
                  ·simp only [putAll, Act.put, List.setIfInBounds_toArray, List.set_cons_zero, List.set_cons_succ]
                   rfl
                  refine one_ (i := 16) (N := none) #[true, true, true, true, true, true, true, true, true, true, true, true, true, true, true, true, true] rfl rfl (one_of HT_.out (by kernel_rfl)) (by decide) (fun K hK => ?_)
                  have hs30 : w29.cell? ⟨gb505, 0, none⟩ = some (.int .i64 0) := (blk_cell BK505.out 0).trans rfl
                  have hfs30 := blk_frozen BK505.out 0
                  have hns30_0 := NB497_505.out
                  have hms30_0 := NB505_497.out
                  have hs31 : w29.cell? ⟨gb505, 1, none⟩ = some (.int .i64 0) := (blk_cell BK505.out 1).trans rfl
                  have hfs31 := blk_frozen BK505.out 1
                  have hns31_0 := NB497_505.out
                  have hms31_0 := NB505_497.out
                  refine skip_ (w1 := ?_) (by rfl) rfl ?_ ?_
                  rotate_left
                  ·go_simp
                   rfl
                  refine hK.out _ _ ⟨((cell_far (p := ⟨gb505, _, none⟩) (by first | exact Nat.ne_of_lt (Nat.lt_of_lt_of_le (by have := World.block_lt_of_cell? _ _ hw501_0; first | rwa [add_block] at this | exact this) GW505.out) | (rw [add_block]; exact Nat.ne_of_lt (Nat.lt_of_lt_of_le (by have := World.block_lt_of_cell? _ _ hw501_0; first | rwa [add_block] at this | exact this) GW505.out)) | (show (Addr.add _ _).block ≠ _; rw [add_block]; exact Nat.ne_of_lt (Nat.lt_of_lt_of_le (by have := World.block_lt_of_cell? _ _ hw501_0; first | rwa [add_block] at this | exact this) GW505.out)) | (dsimp only; exact Nat.ne_of_lt (Nat.lt_of_lt_of_le (by have := World.block_lt_of_cell? _ _ hw501_0; first | rwa [add_block] at this | exact this) GW505.out))) _).trans (((cell_far (p := ⟨gb505, _, none⟩) (by first | exact Nat.ne_of_lt (Nat.lt_of_lt_of_le (by have := World.block_lt_of_cell? _ _ hw501_0; first | rwa [add_block] at this | exact this) GW505.out) | (rw [add_block]; exact Nat.ne_of_lt (Nat.lt_of_lt_of_le (by have := World.block_lt_of_cell? _ _ hw501_0; first | rwa [add_block] at this | exact this) GW505.out)) | (show (Addr.add _ _).block ≠ _; rw [add_block]; exact Nat.ne_of_lt (Nat.lt_of_lt_of_le (by have := World.block_lt_of_cell? _ _ hw501_0; first | rwa [add_block] at this | exact this) GW505.out)) | (dsimp only; exact Nat.ne_of_lt (Nat.lt_of_lt_of_le (by have := World.block_lt_of_cell? _ _ hw501_0; first | rwa [add_block] at this | exact this) GW505.out))) _).trans (hHeld.1)))), ((cell_far (p := ⟨gb505, _, none⟩) (by first | exact Nat.ne_of_lt (Nat.lt_of_lt_of_le (by have := World.block_lt_of_cell? _ _ hw501_1; first | rwa [add_block] at this | exact this) GW505.out) | (rw [add_block]; exact Nat.ne_of_lt (Nat.lt_of_lt_of_le (by have := World.block_lt_of_cell? _ _ hw501_1; first | rwa [add_block] at this | exact this) GW505.out)) | (show (Addr.add _ _).block ≠ _; rw [add_block]; exact Nat.ne_of_lt (Nat.lt_of_lt_of_le (by have := World.block_lt_of_cell? _ _ hw501_1; first | rwa [add_block] at this | exact this) GW505.out)) | (dsimp only; exact Nat.ne_of_lt (Nat.lt_of_lt_of_le (by have := World.block_lt_of_cell? _ _ hw501_1; first | rwa [add_block] at this | exact this) GW505.out))) _).trans (((cell_far (p := ⟨gb505, _, none⟩) (by first | exact Nat.ne_of_lt (Nat.lt_of_lt_of_le (by have := World.block_lt_of_cell? _ _ hw501_1; first | rwa [add_block] at this | exact this) GW505.out) | (rw [add_block]; exact Nat.ne_of_lt (Nat.lt_of_lt_of_le (by have := World.block_lt_of_cell? _ _ hw501_1; first | rwa [add_block] at this | exact this) GW505.out)) | (show (Addr.add _ _).block ≠ _; rw [add_block]; exact Nat.ne_of_lt (Nat.lt_of_lt_of_le (by have := World.block_lt_of_cell? _ _ hw501_1; first | rwa [add_block] at this | exact this) GW505.out)) | (dsimp only; exact Nat.ne_of_lt (Nat.lt_of_lt_of_le (by have := World.block_lt_of_cell? _ _ hw501_1; first | rwa [add_block] at this | exact this) GW505.out))) _).trans (hHeld.2.1)))), ((cell_far (p := ⟨gb505, _, none⟩) (by first | exact Nat.ne_of_lt (Nat.lt_of_lt_of_le (by have := World.block_lt_of_cell? _ _ hw502_0; first | rwa [add_block] at this | exact this) GW505.out) | (rw [add_block]; exact Nat.ne_of_lt (Nat.lt_of_lt_of_le (by have := World.block_lt_of_cell? _ _ hw502_0; first | rwa [add_block] at this | exact this) GW505.out)) | (show (Addr.add _ _).block ≠ _; rw [add_block]; exact Nat.ne_of_lt (Nat.lt_of_lt_of_le (by have := World.block_lt_of_cell? _ _ hw502_0; first | rwa [add_block] at this | exact this) GW505.out)) | (dsimp only; exact Nat.ne_of_lt (Nat.lt_of_lt_of_le (by have := World.block_lt_of_cell? _ _ hw502_0; first | rwa [add_block] at this | exact this) GW505.out))) _).trans (((cell_far (p := ⟨gb505, _, none⟩) (by first | exact Nat.ne_of_lt (Nat.lt_of_lt_of_le (by have := World.block_lt_of_cell? _ _ hw502_0; first | rwa [add_block] at this | exact this) GW505.out) | (rw [add_block]; exact Nat.ne_of_lt (Nat.lt_of_lt_of_le (by have := World.block_lt_of_cell? _ _ hw502_0; first | rwa [add_block] at this | exact this) GW505.out)) | (show (Addr.add _ _).block ≠ _; rw [add_block]; exact Nat.ne_of_lt (Nat.lt_of_lt_of_le (by have := World.block_lt_of_cell? _ _ hw502_0; first | rwa [add_block] at this | exact this) GW505.out)) | (dsimp only; exact Nat.ne_of_lt (Nat.lt_of_lt_of_le (by have := World.block_lt_of_cell? _ _ hw502_0; first | rwa [add_block] at this | exact this) GW505.out))) _).trans (hHeld.2.2.1)))), ((cell_far (p := ⟨gb505, _, none⟩) (by first | exact Nat.ne_of_lt (Nat.lt_of_lt_of_le (by have := World.block_lt_of_cell? _ _ hw502_1; first | rwa [add_block] at this | exact this) GW505.out) | (rw [add_block]; exact Nat.ne_of_lt (Nat.lt_of_lt_of_le (by have := World.block_lt_of_cell? _ _ hw502_1; first | rwa [add_block] at this | exact this) GW505.out)) | (show (Addr.add _ _).block ≠ _; rw [add_block]; exact Nat.ne_of_lt (Nat.lt_of_lt_of_le (by have := World.block_lt_of_cell? _ _ hw502_1; first | rwa [add_block] at this | exact this) GW505.out)) | (dsimp only; exact Nat.ne_of_lt (Nat.lt_of_lt_of_le (by have := World.block_lt_of_cell? _ _ hw502_1; first | rwa [add_block] at this | exact this) GW505.out))) _).trans (((cell_far (p := ⟨gb505, _, none⟩) (by first | exact Nat.ne_of_lt (Nat.lt_of_lt_of_le (by have := World.block_lt_of_cell? _ _ hw502_1; first | rwa [add_block] at this | exact this) GW505.out) | (rw [add_block]; exact Nat.ne_of_lt (Nat.lt_of_lt_of_le (by have := World.block_lt_of_cell? _ _ hw502_1; first | rwa [add_block] at this | exact this) GW505.out)) | (show (Addr.add _ _).block ≠ _; rw [add_block]; exact Nat.ne_of_lt (Nat.lt_of_lt_of_le (by have := World.block_lt_of_cell? _ _ hw502_1; first | rwa [add_block] at this | exact this) GW505.out)) | (dsimp only; exact Nat.ne_of_lt (Nat.lt_of_lt_of_le (by have := World.block_lt_of_cell? _ _ hw502_1; first | rwa [add_block] at this | exact this) GW505.out))) _).trans (hHeld.2.2.2))))⟩ (fun hHeld => ?_)
                  clear hK K
                  refine done_ (done_of HT_.out (by kernel_rfl)) ?_
                  have hnb32 := NB497_505.out
                  have hnc32 := NB505_497.out
                  have hcz33_0 : w29.cell? ⟨gb497, 0, none⟩ = some (.int .i64 x498000_4) := (blk_cell BK497.out 0).trans rfl
                  have hcz33_1 : w29.cell? ⟨gb497, 1, none⟩ = some (.int .i64 x498001_4) := (blk_cell BK497.out 1).trans rfl
                  have hfz33_0 := blk_frozen BK497.out 0
                  have hfz33_1 := blk_frozen BK497.out 1
                  have hcz34_0 : w29.cell? ⟨gb505, 0, none⟩ = some (.int .i64 0) := (blk_cell BK505.out 0).trans rfl
                  have hcz34_1 : w29.cell? ⟨gb505, 1, none⟩ = some (.int .i64 0) := (blk_cell BK505.out 1).trans rfl
                  have hfz34_0 := blk_frozen BK505.out 0
                  have hfz34_1 := blk_frozen BK505.out 1
                  try go_wp2_with (first | ((with_reducible refine gate_callee (f := 47) rfl ?_); refine goesL_ (some 67) rfl rfl Try.func47 (by kernel_rfl) rfl #[.agg #[.int .i64 x498000_4, .int .i64 x498001_4], .agg #[.int .i64 t503, .int .i64 t504]] rfl (by (try simp only [List.map_toArray, List.map_cons, List.map_nil]); first | done | rfl | (simp only [List.length_drop, List.length_take]; rfl)) ?_; (with_reducible refine (reeveref02_Plus.calls x498000_4 x498001_4 t503 t504 t506 t507 _ A25.out).mono ?_); rintro e w35 ⟨rfl, hb⟩; refine ⟨_, rfl, ?_⟩; have n0_ := Aside0.mk (Kd.R_below (by (with_reducible repeat (first | apply Kd.R_alloc | apply Kd.R_drewN | apply Kd.R_drew)); exact (Kd.R_mono (Kd.R_far (p := ⟨gb505, 1, none⟩) (Kd.R_far (p := ⟨gb505, 0, none⟩) (Kd.R_mono HO_10.out (fun k_ hk => (⟨hk, hk.2⟩ : _ ∧ k_ ≠ gb505))) (fun _ hk => hk.2) (.int .i64 t503)) (fun _ hk => hk.2) (.int .i64 t504)) (fun _ h_ => h_.1))) hb); have n1_ := Aside0.mk (blk_below (g := gb497) (o := .cells #[.int .i64 x498000_4, .int .i64 x498001_4] 26 (0, 0)) (by (with_reducible repeat (first | refine blk_drewN ?_ _ | refine blk_drew ?_ | refine blk_alloc ?_ _)); refine blk_far ?_ NB497_505.out _; (with_reducible repeat (first | refine blk_drewN ?_ _ | refine blk_drew ?_ | refine blk_alloc ?_ _)); refine blk_far ?_ NB497_505.out _; (with_reducible repeat (first | refine blk_drewN ?_ _ | refine blk_drew ?_ | refine blk_alloc ?_ _)); exact BK497.out) hb); have n2_ := Aside0.mk (blk_below (g := gb505) (o := .cells #[.int .i64 t503, .int .i64 t504] 26 (0, 0)) (by (with_reducible repeat (first | refine blk_drewN ?_ _ | refine blk_drew ?_ | refine blk_alloc ?_ _)); refine blk_put (cs := #[.int .i64 t503, .int .i64 0]) ?_ 1 _ rfl; (with_reducible repeat (first | refine blk_drewN ?_ _ | refine blk_drew ?_ | refine blk_alloc ?_ _)); refine blk_put (cs := #[.int .i64 0, .int .i64 0]) ?_ 0 _ rfl; (with_reducible repeat (first | refine blk_drewN ?_ _ | refine blk_drew ?_ | refine blk_alloc ?_ _)); exact BK505.out) hb); have n3_ := Aside0.mk (below_step (by repeat (first | (with_reducible first | exact HB.out | apply below_alloc | apply pw_below_drewN | apply below_drew1 | refine below_set ?_ GE497.out | refine below_set ?_ GE505.out) | exact HB.out)) hb); clear HO_10; clear BK497; clear BK505; clear HB; have HO_10 := n0_; have BK497 := n1_; have BK505 := n2_; have HB := n3_; clear n0_ n1_ n2_ n3_; (try clear hb); (try clear hb2); (try clear hk); (try clear hi); have hcz36_0 : w35.cell? ⟨gb497, 0, none⟩ = some (.int .i64 x498000_4) := (blk_cell BK497.out 0).trans rfl; have hcz36_1 : w35.cell? ⟨gb497, 1, none⟩ = some (.int .i64 x498001_4) := (blk_cell BK497.out 1).trans rfl; have hfz36_0 := blk_frozen BK497.out 0; have hfz36_1 := blk_frozen BK497.out 1))
                  go_roundg k4
                  case measure => have := HJ3.out; have := HJ8.out; have := HK3.out; have := HK4.out; omega
                  case rel => exact ⟨(wrap64 (x13_4 + 1)), (t506), (t507), (by first | rfl | (simp; done) | (simp [*]; done) | (simp [Int.tdiv_eq_ediv_of_nonneg]; done)), H', ⟨by have := HJ3.out; have := HJ8.out; have := HK3.out; have := HK4.out; omega⟩, ⟨by (with_reducible repeat (first | apply Kd.R_alloc | apply Kd.R_drewN | apply Kd.R_drew)); exact Kd.R_mono (Kd.R_far (p := ⟨gb497, 1, none⟩) (Kd.R_far (p := ⟨gb497, 0, none⟩) (Kd.R_mono HO_10.out (fun k_ hk => (⟨hk, hk.1⟩ : _ ∧ k_ ≠ gb497))) (fun _ hk => hk.2) (.int .i64 t506)) (fun _ hk => hk.2) (.int .i64 t507)) (fun _ hk => hk.1.1)⟩, ⟨by (with_reducible repeat (first | refine blk_drewN ?_ _ | refine blk_drew ?_ | refine blk_alloc ?_ _)); refine blk_put (cs := #[.int .i64 t506, .int .i64 x498001_4]) ?_ 1 _ rfl; (with_reducible repeat (first | refine blk_drewN ?_ _ | refine blk_drew ?_ | refine blk_alloc ?_ _)); refine blk_put (cs := #[.int .i64 x498000_4, .int .i64 x498001_4]) ?_ 0 _ rfl; (with_reducible repeat (first | refine blk_drewN ?_ _ | refine blk_drew ?_ | refine blk_alloc ?_ _)); exact BK497.out⟩, ⟨by repeat (first | (with_reducible first | exact HB.out | apply below_alloc | apply pw_below_drewN | apply below_drew1 | refine below_set ?_ GE497.out | refine below_set ?_ GE505.out) | exact HB.out)⟩⟩
                 ·rw [if_neg c23] at H
                  exact absurd H (by simp)
                ·rw [if_neg c22] at H
                 exact absurd H (by simp)
              ·rw [if_neg c19] at H
               exact absurd H (by simp)
             ·rw [if_neg c18] at H
              exact absurd H (by simp)
            ·rw [if_neg c17] at H
             have c17b0 : decide (x13_4 < (l0.length : Int)) = false := decide_eq_false c17
             clear c17
             by_cases c37 : x10_3.length < 8796093022208
             ·rw [if_pos c37] at H
              have LMc37 := Aside0.mk c37
              clear c37
              obtain ⟨y498, hy498⟩ : ∃ y_ : List (S26), y_ = (x10_3 ++ [(⟨x498000_4, x498001_4⟩ : S26)]) := ⟨_, rfl⟩
              replace H : (reeveref21_Round.l0 k4 l0 l1 (l0.length : Int) y498 (wrap64 (x11_3 + 1))) = some (r1, r2) := by first | (rw [hy498]; with_reducible exact H) | (have H2_ := (Option.bind_some _ _).symm.trans H; rw [hy498]; with_reducible exact H2_) | (have H2_ := (Option.bind_some _ _).symm.trans H; with_reducible exact H2_) | with_reducible exact H | (rw [hy498]; exact H) | exact H
              have Ny498 := Aside0.mk hy498
              clear hy498
              have H' := Aside0.mk H
              clear H
              have hcz38_0 : wr.cell? ⟨gb497, 0, none⟩ = some (.int .i64 x498000_4) := (blk_cell BK497.out 0).trans rfl
              have hcz38_1 : wr.cell? ⟨gb497, 1, none⟩ = some (.int .i64 x498001_4) := (blk_cell BK497.out 1).trans rfl
              have hfz38_0 := blk_frozen BK497.out 0
              have hfz38_1 := blk_frozen BK497.out 1
              go_wp2_with (first | ((with_reducible refine gate_builtin (b := .append) (xs := #[.tmp 68, .tmp 70]) rfl ?_); (try (refine gate_guard (by rfl) ?_; dsimp only)); at_builtin; refine Kd.R_append k26 (w0 := w) w.heap.size rfl (.tmp 68) (.tmp 70) 22 26 (.agg #[(.int .i64 0), (.int .i64 0)]) 16 rfl Try.underlying22 info26 rfl (by decide) (by omega) u10 x10_3 (⟨x498000_4, x498001_4⟩ : S26) [.int .i64 x498000_4, .int .i64 x498001_4] (fun k_ => k_ ≠ gb497) (fun _ => False) rfl rfl ?aP (fun _ hk => hk.elim) ?aF ?aO ?aB ?aS ?aL ?_; (case aP => exact k26_mkM _ _ _ (⟨x498000_4, x498001_4⟩ : S26)); (case aB => exact (by repeat (first | (with_reducible first | exact HB.out | apply below_alloc | apply pw_below_drewN | apply below_drew1 | refine below_set ?_ GE497.out) | exact HB.out))); (case aF => exact (fun k_ hk => Kd.freshB (g := gb497) (o := .cells #[.int .i64 x498000_4, .int .i64 x498001_4] 26 (0, 0)) (by (with_reducible repeat (first | refine blk_drewN ?_ _ | refine blk_drew ?_ | refine blk_alloc ?_ _)); exact BK497.out) k_ hk)); (case aO => exact (by (with_reducible repeat (first | apply Kd.R_alloc | apply Kd.R_drewN | apply Kd.R_drew)); exact HO_10.out)); (case aS => exact (below_size (by repeat (first | (with_reducible first | exact HB.out | apply below_alloc | apply pw_below_drewN | apply below_drew1 | refine below_set ?_ GE497.out) | exact HB.out)))); (case aL => have := LMc37.out; omega); intro v499 w39 ho hb hg hat; rw [← Ny498.out] at ho; have n0_ := Aside0.mk (blk_grown (g := gb497) (o := .cells #[.int .i64 x498000_4, .int .i64 x498001_4] 26 (0, 0)) (by (with_reducible repeat (first | refine blk_drewN ?_ _ | refine blk_drew ?_ | refine blk_alloc ?_ _)); exact BK497.out) hg (Kd.R_away HO_10.out (fun _ hk => hk))); have n1_ := Aside0.mk (hb); have n2_ := Aside0.mk (ho); clear BK497; clear HB; clear HO_10; have BK497 := n0_; have HB := n1_; have HO500 := n2_; clear n0_ n1_ n2_; clear ho hb hg hat))
              go_roundg k4
              case measure => have := HJ3.out; have := HJ8.out; have := HK3.out; have := HK4.out; omega
              case rel => exact ⟨(y498), (wrap64 (x11_3 + 1)), (by first | rfl | (simp; done) | (simp [*]; done) | (simp [Int.tdiv_eq_ediv_of_nonneg]; done)), H', ⟨by have := HJ3.out; have := HJ8.out; have := HK3.out; have := HK4.out; omega⟩, ⟨by (with_reducible repeat (first | apply Kd.R_alloc | apply Kd.R_drewN | apply Kd.R_drew)); exact Kd.R_mono HO500.out (fun _ hk => trivial)⟩, ⟨by repeat (first | (with_reducible first | exact HB.out | apply below_alloc | apply pw_below_drewN | apply below_drew1 | refine below_set ?_ GE497.out) | exact HB.out)⟩⟩
             ·rw [if_neg c37] at H
              exact absurd H (by simp)
         ·rw [if_neg c14] at H
          have c14b0 : decide (x11_3 < (l0.length : Int)) = false := decide_eq_false c14
          clear c14
          simp only [Option.some.injEq, Prod.mk.injEq] at H
          obtain ⟨rfl, rfl⟩ := H
          go_wp2
          go_ret2
          exact ⟨_, by first | rfl | (simp [errW_none, errW_some] <;> rfl) | (simp [*, errW_none, errW_some] <;> rfl), by (with_reducible repeat (first | apply Kd.R_alloc | apply Kd.R_drewN | apply Kd.R_drew)); exact HO_10.out, by repeat (first | (with_reducible first | exact HB.out | apply below_alloc | apply pw_below_drewN | apply below_drew1) | exact HB.out)⟩

end Go.Proofs.YtkilnknndglmnaaP
end

section
/- What the reference's functions answer. -/
namespace Go.Proofs.YtkilnknndglmnaaP
open Go.RowKit Go.Proofs.Ytkilnknndglmnaa Go.Proofs.YtkilnknndglmnaaW.PrintWords

theorem ref_rest (a : Int) : reeveref02_rest.f a = some (md a) := fold_f a
theorem ref_mul {u v : G} (hu : IsS u) (hv : IsS v) : reeveref02_Mul.f u.re u.im v.re v.im = some ((red (G.mul u v)).re, (red (G.mul u v)).im) := by
  unfold IsS at hu hv
  have bd : ∀ {a b : Int}, (0 ≤ a ∧ a < 16777199) → (0 ≤ b ∧ b < 16777199) → 0 ≤ a * b ∧ a * b ≤ 16777199 * 16777199 := fun ha hb =>
    ⟨Int.mul_nonneg ha.1 hb.1, Int.mul_le_mul (by omega) (by omega) hb.1 (by omega)⟩
  have b1 := bd hu.1 hv.1
  have b2 := bd hu.2 hv.2
  have b3 := bd hu.1 hv.2
  have b4 := bd hu.2 hv.1
  unfold reeveref02_Mul.f
  have e1 : wrap64 (wrap64 (u.re * v.re) - wrap64 (u.im * v.im)) = u.re * v.re - u.im * v.im := by
    generalize u.re * v.re = x at b1 ⊢
    generalize u.im * v.im = y at b2 ⊢
    rw [w64 (x := x) (by omega) (by omega), w64 (x := y) (by omega) (by omega)]
    exact w64 (by omega) (by omega)
  have e2 : wrap64 (wrap64 (u.re * v.im) + wrap64 (u.im * v.re)) = u.re * v.im + u.im * v.re := by
    generalize u.re * v.im = x at b3 ⊢
    generalize u.im * v.re = y at b4 ⊢
    rw [w64 (x := x) (by omega) (by omega), w64 (x := y) (by omega) (by omega)]
    exact w64 (by omega) (by omega)
  rw [e1, e2, ref_rest, ref_rest]
  rfl
theorem ref_plus {u v : G} (hu : IsS u) (hv : IsS v) : reeveref02_Plus.f u.re u.im v.re v.im = some ((red (G.add u v)).re, (red (G.add u v)).im) := by
  unfold IsS at hu hv
  unfold reeveref02_Plus.f
  rw [w64 (by omega) (by omega), w64 (by omega) (by omega), ref_rest, ref_rest]
  rfl
theorem raise_loop : ∀ (f : Nat) (n : Nat), n < 2 ^ f → n ≤ 1000000000 → ∀ (b o : G), IsS b → IsS o → Ev (fun k => reeveref02_Raise.l0 k (n : Int) b.re b.im o.re o.im) ((red (G.mul o (G.pow b n))).re, (red (G.mul o (G.pow b n))).im)
  | 0, n, hn, _, b, o, hb, ho => by
    have h0 : n = 0 := by omega
    subst h0
    refine ev_now fun k => ?_
    simp only [reeveref02_Raise.l0]
    rw [if_neg (by omega)]
    have : G.mul o (G.pow b 0) = o := G.mul_one o
    rw [this, red_small ho]
  | f + 1, n, hn, hm, b, o, hb, ho => by
    by_cases h0 : n = 0
    · subst h0
      refine ev_now fun k => ?_
      simp only [reeveref02_Raise.l0]
      rw [if_neg (by omega)]
      have : G.mul o (G.pow b 0) = o := G.mul_one o
      rw [this, red_small ho]
    have hn2 : n / 2 < 2 ^ f := by rw [Nat.pow_succ] at hn; omega
    have hd : wrap64 (Int.tdiv (n : Int) 2) = ((n / 2 : Nat) : Int) := by
      rw [Int.tdiv_eq_ediv_of_nonneg (by omega)]
      exact (w64 (by omega) (by omega)).trans (by omega)
    have hsq : ∀ m, red (G.pow (red (G.mul b b)) m) = red (G.pow b (2 * m)) := fun m => by
      rw [pow_cong (red_red (G.mul b b)) m, ← G.pow_two, ← G.pow_mul]
    have hj : ∀ o' : G, IsS o' → Ev (fun k => reeveref02_Raise.j1 k (n : Int) b.re b.im o'.re o'.im) ((red (G.mul o' (G.pow b (2 * (n / 2))))).re, (red (G.mul o' (G.pow b (2 * (n / 2))))).im) := fun o' ho' => by
      have ih := raise_loop f (n / 2) hn2 (by omega) (red (G.mul b b)) o' (red_isS _) ho'
      have e : red (G.mul o' (G.pow (red (G.mul b b)) (n / 2))) = red (G.mul o' (G.pow b (2 * (n / 2)))) := mul_cong rfl (hsq _)
      rw [e] at ih
      refine Ev.step (fun k => ?_) ih
      simp only [reeveref02_Raise.j1]
      rw [ref_mul hb hb, hd]
      rfl
    by_cases c : Int.tmod (n : Int) 2 = 1
    · have h := hj (red (G.mul o b)) (red_isS _)
      have hodd : n = 1 + 2 * (n / 2) := by
        rw [Int.tmod_eq_emod_of_nonneg (by omega)] at c
        omega
      have e : red (G.mul (red (G.mul o b)) (G.pow b (2 * (n / 2)))) = red (G.mul o (G.pow b n)) := by
        rw [mul_cong (red_red _) rfl, G.mul_assoc]
        refine mul_cong rfl ?_
        have : G.pow b n = G.pow b (1 + 2 * (n / 2)) := by rw [← hodd]
        rw [this, G.pow_add, G.pow_one]
      rw [e] at h
      refine Ev.step (fun k => ?_) h
      simp only [reeveref02_Raise.l0]
      rw [if_pos (by omega), if_pos c, ref_mul ho hb]
      rfl
    · have h := hj o ho
      have heven : n = 2 * (n / 2) := by
        rw [Int.tmod_eq_emod_of_nonneg (by omega)] at c
        omega
      rw [← heven] at h
      refine Ev.step (fun k => ?_) h
      simp only [reeveref02_Raise.l0]
      rw [if_pos (by omega), if_neg c]
theorem ref_raise {b : G} (hb : IsS b) {n : Nat} (hn : n ≤ 1000000000) : Ev (fun k => reeveref02_Raise.f k b.re b.im (n : Int)) ((red (G.pow b n)).re, (red (G.pow b n)).im) := by
  have h := raise_loop 30 n (by omega) hn b G.one hb (by simp [IsS, G.one])
  rw [G.one_mul] at h
  exact h
theorem ref_root (n : Int) : Ev (fun k => reeveref21_Root.f k n) (if lenI n then ((rootW n.toNat).re, (rootW n.toNat).im, 0) else (0, 0, 210)) := by
  cases hb : lenI n with
  | false =>
    refine ev_now fun k => ?_
    unfold reeveref21_Root.f
    rw [ref_turns, hb]
    rfl
  | true =>
    have hb' := hb
    unfold lenI at hb'
    rw [Bool.and_eq_true, decide_eq_true_iff] at hb'
    obtain ⟨h0, h1⟩ := hb'
    have hl := lenB_iff.1 h1
    have hs := len_small hl
    obtain ⟨m, rfl⟩ : ∃ m : Nat, n = (m : Int) := ⟨n.toNat, by omega⟩
    rw [Int.toNat_natCast] at h1 hl hs
    have hd : wrap64 ((32 : Int) / (m : Int)) = ((32 / m : Nat) : Int) := by
      have hle := Nat.div_le_self 32 m
      have e : (32 : Int) / (m : Int) = ((32 / m : Nat) : Int) := rfl
      rw [e]
      clear e
      generalize 32 / m = q at hle ⊢
      exact w64 (by omega) (by omega)
    have hr := ref_raise (b := ⟨6054027, 3622869⟩) (by simp [IsS]) (n := 32 / m) (by have := Nat.div_le_self 32 m; clear hd; omega)
    rw [rootW_eq hl] at hr
    refine Ev.congr (fun k => ?_) (Ev.bind (f := fun k (bt438 : Int × Int) => some (bt438.1, bt438.2, (0 : Int))) hr (Ev.now _))
    unfold reeveref21_Root.f
    rw [ref_turns, hb]
    simp only [Option.bind_some, if_true]
    rw [if_neg (by clear hd hr; omega), hd]
theorem ref_right (a b : Int) : reeveref02_Right.f a b = some (isSB ⟨a, b⟩) := right_f a b
theorem may_loop (l : List S26) (hl : l.length ≤ 1000) : ∀ (d i : Nat), l.length - i = d → i ≤ l.length → Ev (fun k => reeveref21_may.l0 k l (i : Int)) (if allS (l.drop i) then 0 else 20) := by
  intro d
  induction d with
  | zero =>
    intro i hd hi
    have e : i = l.length := by omega
    subst e
    refine ev_now fun k => ?_
    simp only [reeveref21_may.l0]
    rw [if_neg (by omega), List.drop_length]
    rfl
  | succ d ih =>
    intro i hd hi
    have hlt : i < l.length := by omega
    have hrd : rd_T26 l (i : Int) = l[i] := by simp [rd_T26, hlt]
    have hdrop : allS (l.drop i) = (isSB (sG l[i]) && allS (l.drop (i + 1))) := by
      rw [List.drop_eq_getElem_cons hlt]
      rfl
    rw [hdrop]
    rcases Bool.eq_false_or_eq_true (isSB (sG l[i])) with hs | hs
    · rw [hs, Bool.true_and]
      refine Ev.step (fun k => ?_) (ih (i + 1) (by omega) (by omega))
      simp only [reeveref21_may.l0]
      rw [if_pos (by omega), if_pos (by omega), hrd, ref_right, show isSB ⟨l[i].f0, l[i].f1⟩ = true from hs]
      simp only [Option.bind_some, if_true]
      rw [w64 (by omega) (by omega)]
      rfl
    · rw [hs, Bool.false_and]
      refine ev_now fun k => ?_
      simp only [reeveref21_may.l0]
      rw [if_pos (by omega), if_pos (by omega), hrd, ref_right, show isSB ⟨l[i].f0, l[i].f1⟩ = false from hs]
      rfl
theorem ref_may (l : List S26) : Ev (fun k => reeveref21_may.f k l) (rowE l) := by
  unfold rowE
  cases hb : lenB l.length with
  | false =>
    refine ev_now fun k => ?_
    unfold reeveref21_may.f
    rw [ref_turns, lenI_nat, hb]
    rfl
  | true =>
    have hs := len_small (lenB_iff.1 hb)
    refine Ev.congr (fun k => ?_) (may_loop l (by omega) _ 0 rfl (by omega))
    unfold reeveref21_may.f
    rw [ref_turns, lenI_nat, hb]
    rfl
/-- The sums: each number of the turned row, times u. -/
theorem sums_inner (l : List S26) (n : Nat) (hn : l.length = n) (h2 : n ≤ 32) (hs : allS l = true) (w u : G) (hw : IsS w) (x7 : List S26) (k : Nat) (hk : k < n) (r : List S26)
    (hr : Ev (fun q => (reeveref02_Mul.f (red (dft (atG (l.map sG)) n w k)).re (red (dft (atG (l.map sG)) n w k)).im u.re u.im).bind fun bt467 => (if x7.length < 8796093022208 then (reeveref21_sums.l0 q l (x7 ++ [(⟨bt467.1, bt467.2⟩ : S26)]) (wrap64 ((k : Int) + 1)) w.re w.im u.re u.im) else (none))) r) :
    ∀ (d j : Nat), n - j = d → j ≤ n → Ev (fun q => reeveref21_sums.l1 q l x7 (k : Int) (j : Int) w.re w.im u.re u.im (red (sm j (fun j => G.mul (atG (l.map sG) j) (G.pow w (j * k))))).re (red (sm j (fun j => G.mul (atG (l.map sG) j) (G.pow w (j * k))))).im) r := by
  intro d
  induction d with
  | zero =>
    intro j hd hj
    have ej : j = n := by omega
    subst ej
    refine Ev.step (fun q => ?_) hr
    simp only [reeveref21_sums.l1]
    rw [if_neg (by omega)]
    rfl
  | succ d ih =>
    intro j hd hj
    have hjn : j < n := by omega
    have sg := atG_isS (allS_iff.1 hs) j
    have rd := rd_sG l j
    have hjk : j * k ≤ 32 * 32 := Nat.mul_le_mul (by omega) (by omega)
    have e1 : wrap64 ((j : Int) * (k : Int)) = ((j * k : Nat) : Int) := by
      rw [← Int.natCast_mul]
      generalize j * k = q at hjk
      exact w64 (by omega) (by omega)
    have hra := ref_raise hw (n := j * k) (by clear e1; omega)
    generalize hF : (fun j => G.mul (atG (l.map sG) j) (G.pow w (j * k))) = F at ih ⊢
    have hadd : red (G.add (red (sm j F)) (red (G.mul (atG (l.map sG) j) (red (G.pow w (j * k)))))) = red (sm (j + 1) F) := by
      rw [← hF]
      exact add_cong (red_red _) ((red_red _).trans (mul_cong rfl (red_red _)))
    refine Ev.step (f := fun q => (reeveref02_Raise.f q w.re w.im ((j * k : Nat) : Int)).bind fun bt458 => ((reeveref02_Mul.f (atG (l.map sG) j).re (atG (l.map sG) j).im bt458.1 bt458.2).bind fun bt462 => ((reeveref02_Plus.f (red (sm j F)).re (red (sm j F)).im bt462.1 bt462.2).bind fun bt465 => (reeveref21_sums.l1 q l x7 (k : Int) ((j + 1 : Nat) : Int) w.re w.im u.re u.im bt465.1 bt465.2)))) (fun q => ?_) (Ev.bind hra ?_)
    · simp only [reeveref21_sums.l1]
      rw [if_pos (by clear e1; omega), e1, w64 (x := (j : Int) + 1) (by clear e1; omega) (by clear e1; omega)]
      have h0j : (0 : Int) ≤ (j : Int) := Int.natCast_nonneg j
      simp only [h0j, if_true]
      rw [← rd]
      rfl
    · refine Ev.congr (fun q => ?_) (ih (j + 1) (by clear e1; omega) (by clear e1; omega))
      rw [ref_mul sg (red_isS _)]
      simp only [Option.bind_some]
      rw [ref_plus (red_isS _) (red_isS _), hadd]
      rfl
def sumsP (l : List S26) (w u : G) (i : Nat) : List S26 := (List.range i).map fun k => gS (red (G.mul (dft (atG (l.map sG)) l.length w k) u))
theorem sumsP_len (l : List S26) (w u : G) (i : Nat) : (sumsP l w u i).length = i := by simp [sumsP]
theorem sums_outer (l : List S26) (n : Nat) (hn : l.length = n) (h2 : n ≤ 32) (hs : allS l = true) (w u : G) (hw : IsS w) (hu : IsS u) :
    ∀ (d k : Nat), n - k = d → k ≤ n → Ev (fun q => reeveref21_sums.l0 q l (sumsP l w u k) (k : Int) w.re w.im u.re u.im) (sumsP l w u n) := by
  intro d
  induction d with
  | zero =>
    intro k hd hk
    have ek : k = n := by omega
    subst ek
    refine ev_now fun q => ?_
    simp only [reeveref21_sums.l0]
    rw [if_neg (by omega)]
  | succ d ih =>
    intro k hd hk
    have hkn : k < n := by omega
    have e : sumsP l w u (k + 1) = sumsP l w u k ++ [gS (red (G.mul (red (dft (atG (l.map sG)) n w k)) u))] := by
      rw [mul_cong (red_red _) rfl]
      unfold sumsP
      rw [List.range_succ, List.map_append, hn]
      rfl
    have hin := sums_inner l n hn h2 hs w u hw (sumsP l w u k) k hkn (sumsP l w u n) (by
      refine Ev.congr (fun q => ?_) (ih (k + 1) (by omega) (by omega))
      rw [ref_mul (red_isS _) hu]
      simp only [Option.bind_some]
      rw [if_pos (by rw [sumsP_len]; omega), w64 (by omega) (by omega), e]
      rfl) _ 0 rfl (by omega)
    refine Ev.step (fun q => ?_) hin
    simp only [reeveref21_sums.l0]
    rw [if_pos (by omega)]
    rfl
theorem ref_sums {l : List S26} (hl : isLen l.length) (hs : allS l = true) {w u : G} (hw : IsS w) (hu : IsS u) : Ev (fun q => reeveref21_sums.f q l w.re w.im u.re u.im) (sumsP l w u l.length) :=
  sums_outer l l.length rfl (len_small hl).2 hs w u hw hu _ 0 rfl (by omega)
theorem ref_turn (l : List S26) : Ev (fun k => reeveref21_Turn.f k l) (if rowE l = 0 then turnP l else [], rowE l) := by
  refine Ev.bind (ref_may l) ?_
  by_cases h0 : rowE l = 0
  · rw [if_pos h0]
    obtain ⟨hb, hs⟩ := rowE_iff.1 h0
    have hl := lenB_iff.1 hb
    have hr := ref_root (l.length : Int)
    rw [lenI_nat, hb, Int.toNat_natCast] at hr
    have hsum := ref_sums hl hs (rootW_isS hl) (u := G.one) (by simp [IsS, G.one])
    have e : sumsP l (rootW l.length) G.one l.length = turnP l := by
      unfold sumsP turnP trn
      rw [List.map_map, List.length_map]
      refine List.map_congr_left fun k _ => ?_
      rw [G.mul_one]
      rfl
    rw [e] at hsum
    simp only [h0, if_true]
    exact Ev.bind (f := fun k (bt473 : Int × Int × Int) => (reeveref21_sums.f k l bt473.1 bt473.2.1 1 0).bind fun t477 => (some (t477, (0 : Int)))) hr (Ev.bind (f := fun k t477 => (some (t477, (0 : Int)))) hsum (Ev.now _))
  · rw [if_neg h0]
    refine Ev.congr (fun k => ?_) (Ev.now _)
    rw [if_neg h0]
theorem dft_back (l : Nat → G) {n : Nat} {w : G} (hw : red (G.pow w n) = G.one) {k : Nat} (hk : k < n) : red (dft l n (red (G.pow w (n - 1))) k) = red (dft l n w ((n - k) % n)) := by
  unfold dft
  refine sm_cong fun j _ => mul_cong rfl ?_
  rw [pow_cong (red_red _), ← G.pow_mul, ← pow_mod hw, ← pow_mod hw (j * ((n - k) % n))]
  congr 2
  apply cancel_mod (c := j * k)
  have e1 : (n - 1) * (j * k) + j * k = n * (j * k) := by
    obtain ⟨m, rfl⟩ : ∃ m, n = m + 1 := ⟨n - 1, by omega⟩
    rw [Nat.add_sub_cancel, Nat.add_mul, Nat.one_mul]
  rw [e1, Nat.mul_mod_right, ngm_mod hk]
  by_cases h0 : k = 0
  · subst h0
    simp [ngm]
  · have e2 : j * ngm n k + j * k = n * j := by
      unfold ngm
      rw [if_neg h0, ← Nat.mul_add, show n - k + k = n by omega, Nat.mul_comm]
    rw [e2, Nat.mul_mod_right]
theorem num_isS {n : Nat} (h : n ≤ 32) : IsS (num n) := by simp [IsS, num]; omega
theorem ref_back (l : List S26) : Ev (fun k => reeveref21_Back.f k l) (if rowE l = 0 then backP l else [], rowE l) := by
  refine Ev.bind (ref_may l) ?_
  by_cases h0 : rowE l = 0
  · rw [if_pos h0]
    obtain ⟨hb, hs⟩ := rowE_iff.1 h0
    have hl := lenB_iff.1 hb
    have hsm := len_small hl
    have hr := ref_root (l.length : Int)
    rw [lenI_nat, hb, Int.toNat_natCast] at hr
    have hw := ref_raise (rootW_isS hl) (n := l.length - 1) (by omega)
    have hu := ref_raise (num_isS hsm.2) (n := 16777197) (by omega)
    rw [rootU_eq hl] at hu
    have hsum := ref_sums hl hs (red_isS (G.pow (rootW l.length) (l.length - 1))) (rootU_isS hl)
    have e : sumsP l (red (G.pow (rootW l.length) (l.length - 1))) (rootU l.length) l.length = backP l := by
      unfold sumsP backP bck
      rw [List.map_map, List.length_map]
      refine List.map_congr_left fun k hk => ?_
      exact congrArg gS (mul_cong (dft_back _ (root_len hl).full (List.mem_range.1 hk)) rfl)
    rw [e] at hsum
    have hn1 : wrap64 ((l.length : Int) - 1) = ((l.length - 1 : Nat) : Int) := (w64 (by omega) (by omega)).trans (by omega)
    simp only [h0, if_true]
    refine Ev.congr (fun k => ?_) (Ev.bind (f := fun k (bt481 : Int × Int × Int) => (reeveref02_Raise.f k bt481.1 bt481.2.1 ((l.length - 1 : Nat) : Int)).bind fun bt485 => ((reeveref02_Raise.f k (num l.length).re (num l.length).im ((16777197 : Nat) : Int)).bind fun bt488 => ((reeveref21_sums.f k l bt485.1 bt485.2 bt488.1 bt488.2).bind fun t491 => (some (t491, (0 : Int)))))) hr
      (Ev.bind (f := fun k (bt485 : Int × Int) => (reeveref02_Raise.f k (num l.length).re (num l.length).im ((16777197 : Nat) : Int)).bind fun bt488 => ((reeveref21_sums.f k l bt485.1 bt485.2 bt488.1 bt488.2).bind fun t491 => (some (t491, (0 : Int))))) hw
        (Ev.bind (f := fun k (bt488 : Int × Int) => ((reeveref21_sums.f k l (red (G.pow (rootW l.length) (l.length - 1))).re (red (G.pow (rootW l.length) (l.length - 1))).im bt488.1 bt488.2).bind fun t491 => (some (t491, (0 : Int))))) hu
          (Ev.bind (f := fun k t491 => (some (t491, (0 : Int)))) hsum (Ev.now _)))))
    rw [hn1]
    rfl
  · rw [if_neg h0]
    refine Ev.congr (fun k => ?_) (Ev.now _)
    rw [if_neg h0]
#print axioms ref_back
end Go.Proofs.YtkilnknndglmnaaP
end

section
/- What the reference's Round and Beats answer; rows of numbers compared. -/
namespace Go.Proofs.YtkilnknndglmnaaP
open Go.RowKit Go.Proofs.Ytkilnknndglmnaa Go.Proofs.YtkilnknndglmnaaW.PrintWords

/-! ### Round -/
def rndL (x y : List S26) (i : Nat) : List S26 := (List.range i).map fun k => gS (red (conv (atG (x.map sG)) (atG (y.map sG)) x.length k))
theorem rndL_len (x y : List S26) (i : Nat) : (rndL x y i).length = i := by simp [rndL]
theorem ref_round_inner (x y : List S26) (n : Nat) (hx : x.length = n) (hy : y.length = n) (h2 : n ≤ 32) (sx : allS x = true) (sy : allS y = true) (i : Nat) (hi : i < n) (r : List S26 × Int)
    (hr : Ev (fun q => reeveref21_Round.l0 q x y (n : Int) (rndL x y (i + 1)) ((i + 1 : Nat) : Int)) r) :
    ∀ (d j : Nat), n - j = d → j ≤ n → Ev (fun q => reeveref21_Round.l1 q x y (n : Int) (rndL x y i) (i : Int) (j : Int)
      (red (sm j (fun j => G.mul (atG (x.map sG) j) (atG (y.map sG) ((i + (n - j)) % n))))).re (red (sm j (fun j => G.mul (atG (x.map sG) j) (atG (y.map sG) ((i + (n - j)) % n))))).im) r := by
  intro d
  induction d with
  | zero =>
    intro j hd hj
    have ej : j = n := by omega
    subst ej
    refine Ev.step (fun q => ?_) hr
    have e : rndL x y (i + 1) = rndL x y i ++ [gS (red (sm j (fun k => G.mul (atG (x.map sG) k) (atG (y.map sG) ((i + (j - k)) % j)))))] := by
      unfold rndL
      rw [List.range_succ, List.map_append, hx]
      rfl
    simp only [reeveref21_Round.l1]
    rw [if_neg (by omega), if_pos (by rw [rndL_len]; omega), w64 (x := (i : Int) + 1) (by omega) (by omega), e]
    rfl
  | succ d ih =>
    intro j hd hj
    have hjn : j < n := by omega
    have hm : (i + (n - j)) % n < n := Nat.mod_lt _ (by omega)
    have s1 := atG_isS (allS_iff.1 sx) j
    have s2 := atG_isS (allS_iff.1 sy) ((i + (n - j)) % n)
    have r1 := rd_sG x j
    have r2 := rd_sG y ((i + (n - j)) % n)
    have e1 : Int.tmod (wrap64 (wrap64 ((i : Int) - (j : Int)) + (n : Int))) (n : Int) = (((i + (n - j)) % n : Nat) : Int) := by
      have e : wrap64 (wrap64 ((i : Int) - (j : Int)) + (n : Int)) = ((i + (n - j) : Nat) : Int) := by
        rw [w64 (x := (i : Int) - (j : Int)) (by omega) (by omega), w64 (by omega) (by omega)]
        omega
      rw [e, Int.tmod_eq_emod_of_nonneg (by omega), ← Int.natCast_emod]
    generalize hF : (fun j => G.mul (atG (x.map sG) j) (atG (y.map sG) ((i + (n - j)) % n))) = F at ih ⊢
    have hFj : F j = G.mul (atG (x.map sG) j) (atG (y.map sG) ((i + (n - j)) % n)) := by rw [← hF]
    have hadd : red (G.add (red (sm j F)) (red (G.mul (atG (x.map sG) j) (atG (y.map sG) ((i + (n - j)) % n))))) = red (sm (j + 1) F) := by
      rw [← hFj]
      exact add_cong (red_red _) (red_red _)
    have hmul := ref_mul s1 s2
    rw [← r1, ← r2] at hmul
    have hmul' : reeveref02_Mul.f (rd_T26 x (j : Int)).f0 (rd_T26 x (j : Int)).f1 (rd_T26 y (((i + (n - j)) % n : Nat) : Int)).f0 (rd_T26 y (((i + (n - j)) % n : Nat) : Int)).f1 = some ((red (G.mul (sG (rd_T26 x (j : Int))) (sG (rd_T26 y (((i + (n - j)) % n : Nat) : Int))))).re, (red (G.mul (sG (rd_T26 x (j : Int))) (sG (rd_T26 y (((i + (n - j)) % n : Nat) : Int))))).im) := hmul
    refine Ev.step (fun q => ?_) (ih (j + 1) (by clear e1; omega) (by clear e1; omega))
    simp only [reeveref21_Round.l1]
    rw [if_pos (by clear e1; omega), if_pos (by clear e1; omega), if_pos (by clear e1; omega), if_neg (by clear e1; omega), e1, if_pos (by clear e1; omega), if_pos (by clear e1; omega), hmul']
    simp only [Option.bind_some]
    rw [ref_plus (red_isS _) (red_isS _), r1, r2, hadd, w64 (x := (j : Int) + 1) (by clear e1; omega) (by clear e1; omega)]
    rfl
theorem ref_round_outer (x y : List S26) (n : Nat) (hx : x.length = n) (hy : y.length = n) (h2 : n ≤ 32) (sx : allS x = true) (sy : allS y = true) :
    ∀ (d i : Nat), n - i = d → i ≤ n → Ev (fun q => reeveref21_Round.l0 q x y (n : Int) (rndL x y i) (i : Int)) (rndL x y n, 0) := by
  intro d
  induction d with
  | zero =>
    intro i hd hi
    have ei : i = n := by omega
    subst ei
    refine ev_now fun q => ?_
    simp only [reeveref21_Round.l0]
    rw [if_neg (by omega)]
  | succ d ih =>
    intro i hd hi
    have hin := ref_round_inner x y n hx hy h2 sx sy i (by omega) _ (ih (i + 1) (by omega) (by omega)) _ 0 rfl (by omega)
    refine Ev.step (fun q => ?_) hin
    simp only [reeveref21_Round.l0]
    rw [if_pos (by omega)]
    rfl
theorem ref_round (x y : List S26) : Ev (fun k => reeveref21_Round.f k x y) (if roundE x y = 0 then roundP x y else [], roundE x y) := by
  have e1 : ∀ k, reeveref21_Round.f k x y = reeveref21_Round.j0 k x y (!(lenB x.length && x.length == y.length)) := fun k => by
    unfold reeveref21_Round.f
    rw [ref_turns, lenI_nat]
    simp only [Option.bind_some]
    cases hb : lenB x.length with
    | false => rfl
    | true =>
      rw [if_pos rfl]
      congr 1
      by_cases hq : x.length = y.length
      · simp [hq]
      · have h1 : ((x.length : Int) != (y.length : Int)) = true := bne_iff_ne.2 (by omega)
        have h2 : (x.length == y.length) = false := beq_eq_false_iff_ne.2 hq
        rw [h1, h2]
        rfl
  refine Ev.congr e1 ?_
  unfold roundE
  cases hb : (lenB x.length && x.length == y.length) with
  | false =>
    refine ev_now fun k => ?_
    simp [reeveref21_Round.j0]
  | true =>
    rw [Bool.and_eq_true, beq_iff_eq] at hb
    obtain ⟨hb, hxy⟩ := hb
    have hl := lenB_iff.1 hb
    have hsm := len_small hl
    have mx := ref_may x
    have my := ref_may y
    have ex : rowE x = if allS x then 0 else 20 := by unfold rowE; rw [hb]; rfl
    have ey : rowE y = if allS y then 0 else 20 := by unfold rowE; rw [← hxy, hb]; rfl
    rw [ex] at mx
    rw [ey] at my
    refine Ev.step (f := fun k => (reeveref21_may.f k x).bind fun t495 => ((reeveref21_may.f k y).bind fun t496 => (if t495 = 0 then (reeveref21_Round.j1 k x y (t496 != 0)) else (reeveref21_Round.j1 k x y true)))) (fun k => by simp [reeveref21_Round.j0]) ?_
    refine Ev.bind mx (Ev.bind my ?_)
    cases hx : allS x with
    | false =>
      refine ev_now fun k => ?_
      simp [reeveref21_Round.j1]
    | true =>
      cases hy : allS y with
      | false =>
        refine ev_now fun k => ?_
        simp [reeveref21_Round.j1]
      | true =>
        have h := ref_round_outer x y x.length rfl hxy.symm hsm.2 hx hy _ 0 rfl (by omega)
        have e : rndL x y x.length = roundP x y := by
          unfold rndL roundP rnd
          rw [List.map_map, List.length_map]
          rfl
        rw [e] at h
        refine Ev.step (f := fun k => reeveref21_Round.l0 k x y (x.length : Int) [] 0) (fun k => ?_) h
        simp [reeveref21_Round.j1]

#print axioms ref_round
end Go.Proofs.YtkilnknndglmnaaP
end

section
/- Rows cut one short; an empty row with room. -/
namespace Go.Proofs.YtkilnknndglmnaaP
open Go.Proofs.Ytkilnknndglmnaa (G fl IsS isSB okC okF okC_iff encC kcx at_cx md red run_cmul run_cadd run_csub run_fint lit_one lit_zero tdiv_32 run_store_cx)
attribute [local go_sem] run_cmul run_cadd run_csub run_fint lit_one lit_zero tdiv_32 run_store_cx
open Go.RowKit Go.Proofs.YtkilnknndglmnaaW.PrintWords Go.Proofs.YtkilnknndglmnaaW.PrintLast Go.Proofs.YtkilnknndglmnaaW.PrintMore
attribute [local go_sem] max2_int min2_int max_two min_two max_three min_three max_four min_four
set_option linter.unusedVariables false
set_option linter.unusedSimpArgs false

theorem k26_heap : Kd.Heap k26 := Kd.heap_iso _ (Kd.heap_pair (Kd.heap_int .i64) (Kd.heap_int .i64))
theorem k49_heap : Kd.Heap k49 := Kd.heap_iso _ (Kd.heap_pair (Kd.heap_int .i64) (Kd.heap_pair Kd.heap_string (Kd.heap_pair (Kd.heap_int .i64) (Kd.heap_int .i64))))
/-- A slice with its last element cut off. -/
def shortV : Value → Value
  | .slice A n c => .slice A (n - 1) c
  | v => v
section
variable {P : Program} {a : Act} {o : Oper} {ops : Array Oper} {rest : List Oper} {Q : Exit → Act → World → Prop}
theorem cut_up (t e : TypeId) (kh : IntKind) {i : TypeInfo} (ht : P.underlying t = some (.slice e)) (hi : P.info? e = some i) (A : Option Addr) (n c : Nat) (j : Int) (h0 : 0 ≤ j) (hm : j ≤ c) :
    ∀ W : World, (Instr.slice t (.slice A n c) none (some (.int kh j)) none).run P W = .ok (.slice A j.toNat c) W := by
  intro W
  have hel : P.elem t = e := by simp [Program.elem, ht]
  have hu : P.underlying t = some (.slice (P.elem t)) := by rw [hel]; exact ht
  have ha : (A.map fun x => x.add 0) = A := by cases A <;> simp [Addr.add]
  rw [run_slice_h W t A n c hu kh j h0 hm, hel]
  simp [sizeOf, typeInfo, hi, sliced, Result.andThen, ha]
/-- make([]T, 0, n): an empty row of one's own. -/
theorem make_none {α : Type} (d : Kd α) {w0 W : World} (base e : Nat) (hgd : o.guard = none) {N : Tmp} (_hd : o.dst = some N) (t : TypeId) (x y : Operand) (ho : o.op = .makeSlice t x y) (n : Int) (hx : a.eval x = .int .i64 0) (hy : a.eval y = .int .i64 n)
    (ht : P.underlying t = some (.slice e)) (z : Value) (bytes : Nat) (hinfo : (P.info? e).map (fun i => (i.zero, i.size, i.bytes)) = some (some z, d.sz, bytes)) (hz : z.cells.size = d.sz) (hs0 : 0 < d.sz) (hb0 : 0 < bytes)
    (z0 : α) {ok okp : Nat → Prop} (hzero : d.M W base okp z0 z.cells.toList) (hok : ∀ k, okp k → ok k) (hfresh : ok W.heap.size) (h0 : 0 ≤ n) (hl : n.toNat * bytes ≤ 281474976710656) (HB : Below base w0 W) (hbase : base ≤ W.heap.size)
    (h : ∀ v1 w1, d.R e w1 base ok v1 [] → Below base w0 w1 → wpList P ops Q rest (a.put o.dst v1) w1) : wpList P ops Q (o :: rest) a W := by
  obtain ⟨m, rfl⟩ := Int.eq_ofNat_of_zero_le h0
  simp only [Int.toNat_natCast] at hl
  obtain ⟨i0, hi, hzz⟩ := Option.map_eq_some_iff.1 hinfo
  simp only [Prod.mk.injEq] at hzz
  obtain ⟨hz0, hz1, hz2⟩ := hzz
  have hm : m ≤ 281474976710656 := Nat.le_trans (Nat.le_mul_of_pos_right _ hb0) hl
  have hr := run_make (P := P) W t e i0 z ht hi hz0 .i64 .i64 (0 : Int) (m : Int) (by omega) (by omega)
    (by
      have h3 : ((i0.bytes * m : Nat) : Int) ≤ 281474976710656 := by rw [hz2, Nat.mul_comm]; omega
      rwa [Int.natCast_mul] at h3) (by omega)
  simp only [Int.toNat_natCast] at hr
  rw [hz1] at hr
  have hrun : (execOp a.eval o).run P W = .ok (.value (.slice (some ⟨W.heap.size, 0, none⟩) 0 m)) (W.alloc (.cells (madeCells z.cells (m * d.sz)) e)) := by simp [execOp, ho, hx, hy, hr]
  have hrep := Kd.reps_made (R := d.M W base okp) hz hs0 hzero m
  have hfull : d.R e (W.alloc (.cells (madeCells z.cells (m * d.sz)) e)) base ok (.slice (some ⟨W.heap.size, 0, none⟩) m m) (List.replicate m z0) := by
    refine ⟨fun k hk => ?_, (madeCells z.cells (m * d.sz)).toList, ?_, ?_⟩
    · have : W.heap.size = k := by simpa [Value.ownBlock] using hk
      subst this
      exact hfresh
    · have h2 := World.ownsRow_lit (base := base) (e := e) (size := d.sz) W (madeCells z.cells (m * d.sz)) m hbase (by simp [maxLen]; omega) (by simpa using hrep.1)
      simpa using h2
    · refine hrep.imp_ (fun p c hp => d.M_mono (fun k hk => ⟨hok k hk.1, fun he => ?_⟩) (Kd.M_below (d.M_bound hp) (below_alloc (Below.refl _ _) _)))
      have h3 : k = W.heap.size := by simpa [Value.ownBlock] using he
      have := hk.2.2.1
      omega
  have hnone := Kd.R_take (m := 0) hfull (Nat.zero_le _)
  rw [List.take_zero] at hnone
  exact Kd.event_run hgd hrun (h _ _ hnone (HB.alloc hbase _))
end
theorem C_last {α : Type} {k : Kd α} {w : World} {A : Option Addr} {l : List α} (h : Kd.C k w A l.length l) : Kd.C k w A l.dropLast.length l.dropLast := by
  have h2 := Kd.C_take (m := l.length - 1) h (by omega)
  rw [List.dropLast_eq_take]
  exact h2

end Go.Proofs.YtkilnknndglmnaaP
end

section
/- A row lent with a mark behind it, and taken back: lent and kept. -/
namespace Go.Proofs.YtkilnknndglmnaaP
open Go.Proofs.Ytkilnknndglmnaa (G fl IsS isSB okC okF okC_iff encC kcx at_cx md red run_cmul run_cadd run_csub run_fint lit_one lit_zero tdiv_32 run_store_cx)
attribute [local go_sem] run_cmul run_cadd run_csub run_fint lit_one lit_zero tdiv_32 run_store_cx
open Go.RowKit Go.Proofs.YtkilnknndglmnaaW.PrintWords Go.Proofs.YtkilnknndglmnaaW.PrintLast Go.Proofs.YtkilnknndglmnaaW.PrintMore
attribute [local go_sem] max2_int min2_int max_two min_two max_three min_three max_four min_four
set_option linter.unusedVariables false
set_option linter.unusedSimpArgs false

/-! ### reevelaw21_lent: function 19 -/
def reevelaw21_lent.f (l0 : List (S26)) : Option ((List (S26))) := if ([] : List (S26)).length + l0.length < 8796093022208 then ((some (([] : List (S26)) ++ l0 : List (S26))).bind fun y155 => (if y155.length < 8796093022208 then (some (y155 ++ [(⟨(-77), 0⟩ : S26)])) else (none))) else (none)
set_option maxHeartbeats 8000000 in
set_option maxRecDepth 100000 in
theorem reevelaw21_lent.calls (A0 : Option Addr) (c0 : Nat) (l0 : List (S26)) (r : List (S26)) (w : World) (hr0 : Kd.C k26 w A0 l0.length l0) (hc0 : l0.length ≤ c0) (h : reevelaw21_lent.f l0 = some r) :
    Calls Try.prog 19 #[.slice A0 l0.length c0] w fun e w' => ∃ v0_ : Value, e = .returned (shortV v0_) ∧ Kd.R k26 26 w' w.heap.size (fun _ => True) v0_ r ∧ Below w.heap.size w w' := by
  have hu26 := Try.underlying26
  have HR0 := Aside0.mk hr0
  have HC0 := Aside0.mk hc0
  clear hr0 hc0
  have HB := Aside0.mk (Below.refl w.heap.size w)
  have H : (if ([] : List (S26)).length + l0.length < 8796093022208 then ((some (([] : List (S26)) ++ l0 : List (S26))).bind fun y155 => (if y155.length < 8796093022208 then (some (y155 ++ [(⟨(-77), 0⟩ : S26)])) else (none))) else (none)) = some r := h
  clear h
  by_cases c2 : ([] : List (S26)).length + l0.length < 8796093022208
  · rw [if_pos c2] at H
    have LMc2 := Aside0.mk c2
    clear c2
    obtain ⟨y155, hy155⟩ : ∃ y_ : List (S26), y_ = (([] : List (S26)) ++ l0) := ⟨_, rfl⟩
    replace H : (if y155.length < 8796093022208 then (some (y155 ++ [(⟨(-77), 0⟩ : S26)])) else (none)) = some r := by first | (rw [hy155]; with_reducible exact H) | (have H2_ := (Option.bind_some _ _).symm.trans H; rw [hy155]; with_reducible exact H2_) | (have H2_ := (Option.bind_some _ _).symm.trans H; with_reducible exact H2_) | with_reducible exact H | (rw [hy155]; exact H) | exact H
    have Ny155 := Aside0.mk hy155
    clear hy155
    by_cases c3 : y155.length < 8796093022208
    · rw [if_pos c3] at H
      have LMc3 := Aside0.mk c3
      clear c3
      obtain ⟨y158, hy158⟩ : ∃ y_ : List (S26), y_ = (y155 ++ [(⟨(-77), 0⟩ : S26)]) := ⟨_, rfl⟩
      replace H : (some y158) = some r := by first | (rw [hy158]; with_reducible exact H) | (have H2_ := (Option.bind_some _ _).symm.trans H; rw [hy158]; with_reducible exact H2_) | (have H2_ := (Option.bind_some _ _).symm.trans H; with_reducible exact H2_) | with_reducible exact H | (rw [hy158]; exact H) | exact H
      have Ny158 := Aside0.mk hy158
      clear hy158
      obtain rfl := Option.some.inj H
      have hc2_ : l0.length < 3518437208883 ∨ l0.length < 8796093022208 := by
        have := LMc2.out
        simp only [List.length_nil, Nat.zero_add] at this
        omega
      obtain ⟨jm, hjm⟩ : ∃ j_ : Int, (wrap64 ((l0.length : Int) + 1)) = j_ := ⟨_, rfl⟩
      have hjmw : (IntKind.i64.wrap ((l0.length : Int) + 1)) = jm := (i64_w _).trans hjm
      have hjv : jm = ((l0.length + 1 : Nat) : Int) := by
        rw [← hjm]
        unfold wrap64
        omega
      have HJ0 := Aside0.mk (show 0 ≤ jm by omega)
      have HJ1 := Aside0.mk (show jm.toNat * 16 ≤ 281474976710656 by
        have := LMc2.out
        simp only [List.length_nil, Nat.zero_add] at this
        omega)
      clear hjv hc2_
      have HLN := Aside0.mk (show y158.length = l0.length + 1 by rw [Ny158.out, Ny155.out]; simp)
      go_enter Try.func19, Try.ntmps19
      go_wp2_with (first | ((with_reducible refine gate_dst (N := 7) rfl ?_); refine make_none k26 _ 26 rfl (N := 7) rfl 22 _ _ rfl jm rfl rfl Try.underlying22 (.agg #[(.int .i64 0), (.int .i64 0)]) 16 info26 rfl (by decide) (by omega) z26 (ok := fun _ => True) (okp := fun _ => True) (k26_mkM _ _ _ z26) (fun _ hk => hk) trivial HJ0.out HJ1.out (Below.refl _ _) (Nat.le_refl _) ?_; intro vm wm ho hb; have n0_ := Aside0.mk (Kd.R_lower ho (below_size (by repeat (first | (with_reducible first | exact HB.out | apply below_alloc | apply pw_below_drewN | apply below_drew1) | exact HB.out)))); have n1_ := Aside0.mk (below_step (by repeat (first | (with_reducible first | exact HB.out | apply below_alloc | apply pw_below_drewN | apply below_drew1) | exact HB.out)) hb); clear HB; have HOm := n0_; have HB := n1_; clear n0_ n1_; clear ho hb) | ((with_reducible refine gate_builtin (b := .append) (xs := #[.tmp 7, .tmp 8]) rfl ?_); at_builtin; refine Kd.R_append_rows k26 (w0 := w) w.heap.size rfl (.tmp 7) (.tmp 8) 22 26 (.agg #[(.int .i64 0), (.int .i64 0)]) 16 rfl Try.underlying22 info26 rfl (by decide) (by omega) vm ([] : List (S26)) l0 _ _ _ (fun _ => True) (fun _ => False) rfl rfl ?aO ?aR (fun _ _ h => h) (fun _ h => h.elim) ?aF ?aB ?aS ?aL ?_; (case aR => repeat (first | exact Kd.C_below HR0.out (by repeat (first | (with_reducible first | exact HB.out | apply below_alloc | apply pw_below_drewN | apply below_drew1) | exact HB.out)) | (with_reducible refine Kd.C_alloc ?_ _) | (with_reducible refine Kd.C_drewN ?_ _) | (with_reducible refine Kd.C_drew ?_))); (case aB => exact (by repeat (first | (with_reducible first | exact HB.out | apply below_alloc | apply pw_below_drewN | apply below_drew1) | exact HB.out))); (case aF => exact (fun _ _ => trivial)); (case aO => exact (by (with_reducible repeat (first | apply Kd.R_alloc | apply Kd.R_drewN | apply Kd.R_drew)); exact HOm.out)); (case aS => exact (below_size (by repeat (first | (with_reducible first | exact HB.out | apply below_alloc | apply pw_below_drewN | apply below_drew1) | exact HB.out)))); (case aL => have := LMc2.out; omega); intro v156 w4 ho hb hg hat; rw [← Ny155.out] at ho; have n0_ := Aside0.mk (hb); have n1_ := Aside0.mk (ho); clear HB; have HB := n0_; have HO157 := n1_; clear n0_ n1_; clear ho hb hg hat) | ((with_reducible refine gate_builtin (b := .append) (xs := #[.tmp 10, .tmp 12]) rfl ?_); at_builtin; refine Kd.R_append k26 (w0 := w) w.heap.size rfl (.tmp 10) (.tmp 12) 22 26 (.agg #[(.int .i64 0), (.int .i64 0)]) 16 rfl Try.underlying22 info26 rfl (by decide) (by omega) v156 y155 (⟨(-77), 0⟩ : S26) [.int .i64 (-77), .int .i64 0] (fun _ => True) (fun _ => False) rfl rfl ?aP (fun _ hk => hk.elim) ?aF ?aO ?aB ?aS ?aL ?_; (case aP => exact k26_mkM _ _ _ (⟨(-77), 0⟩ : S26)); (case aB => exact (by repeat (first | (with_reducible first | exact HB.out | apply below_alloc | apply pw_below_drewN | apply below_drew1) | exact HB.out))); (case aF => exact (fun _ _ => trivial)); (case aO => exact (by (with_reducible repeat (first | apply Kd.R_alloc | apply Kd.R_drewN | apply Kd.R_drew)); exact HO157.out)); (case aS => exact (below_size (by repeat (first | (with_reducible first | exact HB.out | apply below_alloc | apply pw_below_drewN | apply below_drew1) | exact HB.out)))); (case aL => have := LMc3.out; omega); intro v159 w5 ho hb hg hat; rw [← Ny158.out] at ho; have n0_ := Aside0.mk (hb); have n1_ := Aside0.mk (ho); clear HB; clear HO157; have HB := n0_; have HO160 := n1_; clear n0_ n1_; clear ho hb hg hat; obtain ⟨i09, hi09, _, hsz9, _⟩ := info_parts info26; obtain ⟨Ao9, co9, eo9⟩ := Kd.R_slice HO160.out; subst eo9; have hcut9 := cut_up (P := Try.prog) 22 26 .i64 Try.underlying22 hi09 Ao9 y158.length co9 ((l0.length : Nat) : Int) (Int.natCast_nonneg _) (by have h1_ := (Kd.R_reads' HO160.out).2.1; have h2_ := HLN.out; omega); rw [Int.toNat_natCast] at hcut9; clear hi09 hsz9))
      go_ret
      exact ⟨.slice Ao9 y158.length co9, (by show _ = Ending.returned (.slice Ao9 (y158.length - 1) co9); rw [HLN.out]; rfl), by (with_reducible repeat (first | apply Kd.R_alloc | apply Kd.R_drewN | apply Kd.R_drew)); exact HO160.out, by repeat (first | (with_reducible first | exact HB.out | apply below_alloc | apply pw_below_drewN | apply below_drew1) | exact HB.out)⟩
    · rw [if_neg c3] at H
      exact absurd H (by simp)
  · rw [if_neg c2] at H
    exact absurd H (by simp)

/-- The row but for its mark is the other. -/
def sameL_ok.f (a b : List S26) : Option Unit := if a.length = b.length + 1 ∧ b.length ≤ 4000000000 ∧ a.dropLast.map sG = b.map sG then some () else none
theorem sameL_len {a b : List S26} {r : Unit} (h : sameL_ok.f a b = some r) : a.length = b.length + 1 := by
  unfold sameL_ok.f at h
  by_cases c : a.length = b.length + 1 ∧ b.length ≤ 4000000000 ∧ a.dropLast.map sG = b.map sG
  · exact c.1
  · rw [if_neg c] at h
    exact absurd h (by simp)
theorem sameL_ok.calls (A0 : Option Addr) (c0 : Nat) (l0 : List (S26)) (A1 : Option Addr) (c1 : Nat) (l1 : List (S26)) {r_ : Unit} (w : World) (hr0 : Kd.C k26 w A0 l0.length l0) (hc0 : l0.length ≤ c0) (hr1 : Kd.C k26 w A1 l1.length l1) (hc1 : l1.length ≤ c1) (h : sameL_ok.f l0 l1 = some r_) :
    Calls Try.prog 17 #[.slice A0 l1.length c0, .slice A1 l1.length c1] w fun e w' => e = .returned (.bool true) ∧ Below w.heap.size w w' := by
  unfold sameL_ok.f at h
  by_cases c : l0.length = l1.length + 1 ∧ l1.length ≤ 4000000000 ∧ l0.dropLast.map sG = l1.map sG
  · have hl : l0.dropLast.length = l1.length := by rw [List.length_dropLast]; omega
    have hs := same_ok.calls A0 c0 l0.dropLast A1 c1 l1 (r_ := ()) w (C_last hr0) (by omega) hr1 hc1 (by unfold same_ok.f; rw [if_pos ⟨by omega, c.2.2⟩])
    rw [hl] at hs
    exact hs
  · rw [if_neg c] at h
    exact absurd h (by simp)
/-! ### reevelaw21_kept: function 21 -/
def reevelaw21_kept.l0 : Nat → List (S26) → Bool → Int → Option (Bool × (List (S26)))
  | 0, _, _, _ => none
  | k + 1, x0, x7, x8 => if x8 < (x0.length : Int) then (if 0 ≤ x8 then (reevelaw21_kept.l0 k (x0.set (x8 : Int).toNat (⟨(-9), 0⟩ : S26)) x7 (wrap64 (x8 + 1))) else (none)) else (some (x7, x0))
def reevelaw21_kept.f (k : Nat) (l0 : List (S26)) (l1 : List (S26)) : Option (Bool × (List (S26))) := (sameL_ok.f l0 l1).bind fun _ => (if 0 ≤ (l1.length : Int) then (if (l1.length : Int) < (l0.length : Int) then (reevelaw21_kept.l0 k l0 (((rd_T26 l0 (l1.length : Int)).f0) == (-77)) 0) else (none)) else (none))
theorem reevelaw21_kept.mono_l : ∀ k, (∀ y0 y1 y2, LeO (reevelaw21_kept.l0 k y0 y1 y2) (reevelaw21_kept.l0 (k + 1) y0 y1 y2))
  | 0 => fun _ _ _ r h => by simp [reevelaw21_kept.l0] at h
  | k + 1 => by
    have ih0 := reevelaw21_kept.mono_l k
    · intro y0 y1 y2
      unfold reevelaw21_kept.l0
      repeat' first
      | (with_reducible exact ih0 _ _ _)
      | (with_reducible exact LeO.refl _)
      | (with_reducible exact LeO.none _)
      | (with_reducible refine LeO.ite ?_ ?_)
      | (with_reducible refine LeO.bind ?_ (fun _ => ?_))
      | exact ih0 _ _ _
      | exact LeO.none _
      | refine LeO.ite ?_ ?_
      | refine LeO.bind ?_ (fun _ => ?_)
theorem reevelaw21_kept.mono : ∀ a0 a1 k, LeO (reevelaw21_kept.f k a0 a1) (reevelaw21_kept.f (k + 1) a0 a1) := by
  intro a0 a1 k
  have ih0 := reevelaw21_kept.mono_l k
  unfold reevelaw21_kept.f
  repeat' first
      | (with_reducible exact ih0 _ _ _)
      | (with_reducible exact LeO.refl _)
      | (with_reducible exact LeO.none _)
      | (with_reducible refine LeO.ite ?_ ?_)
      | (with_reducible refine LeO.bind ?_ (fun _ => ?_))
      | exact ih0 _ _ _
      | exact LeO.none _
      | refine LeO.ite ?_ ?_
      | refine LeO.bind ?_ (fun _ => ?_)
set_option maxHeartbeats 8000000 in
set_option maxRecDepth 100000 in
theorem reevelaw21_kept.calls (k : Nat) (P0_ : Nat → Prop) (u9000_ : Value) (l0 : List (S26)) (A1 : Option Addr) (c1 : Nat) (l1 : List (S26)) (r1 : Bool) (r2 : List (S26)) (w0 w : World) (hB : Below w0.heap.size w0 w) (ho0 : Kd.R k26 26 w w0.heap.size P0_ u9000_ l0) (hr1 : ∀ W_, Kept w W_ (fun k_ => P0_ k_) → Kd.C k26 W_ A1 l1.length l1) (hc1 : l1.length ≤ c1) (h : reevelaw21_kept.f k l0 l1 = some (r1, r2)) :
    Calls Try.prog 21 #[shortV u9000_, .slice A1 l1.length c1] w fun e w' => e = .returned (.bool r1) ∧ Kd.R k26 26 w' w0.heap.size (fun k_ => (P0_ k_ ∨ w.heap.size ≤ k_)) u9000_ r2 ∧ Below w0.heap.size w0 w' ∧ Kept w w' (fun k_ => P0_ k_) := by
  have hu26 := Try.underlying26
  have HO0 := Aside0.mk (show Kd.R k26 26 w w0.heap.size (fun k_ => (P0_ k_ ∨ w.heap.size ≤ k_)) u9000_ l0 from Kd.R_mono ho0 (fun k_ hk => (.inl hk)))
  have HR1 := Aside0.mk hr1
  have HC1 := Aside0.mk hc1
  clear hr1 hc1
  have HK := Aside0.mk (Kept.refl w (fun k_ => P0_ k_))
  have HW0 := Aside0.mk hB.size
  have HB := Aside0.mk hB
  clear hB
  have H : ((sameL_ok.f l0 l1).bind fun _ => (if 0 ≤ (l1.length : Int) then (if (l1.length : Int) < (l0.length : Int) then (reevelaw21_kept.l0 k l0 (((rd_T26 l0 (l1.length : Int)).f0) == (-77)) 0) else (none)) else (none))) = some (r1, r2) := h
  clear h
  replace H := Option.bind_eq_some_iff.mp H
  obtain ⟨_, A30, H⟩ := H
  replace H : (if 0 ≤ (l1.length : Int) then (if (l1.length : Int) < (l0.length : Int) then (reevelaw21_kept.l0 k l0 (((rd_T26 l0 (l1.length : Int)).f0) == (-77)) 0) else (none)) else (none)) = some (r1, r2) := H
  have A3 := Aside0.mk A30
  clear A30
  by_cases c4 : 0 ≤ (l1.length : Int)
  · rw [if_pos c4] at H
    have c4b0 : decide (0 ≤ (l1.length : Int)) = true := decide_eq_true c4
    have c4b1 : decide (0 ≤ l1.length) = true := decide_eq_true (by omega)
    clear c4
    by_cases c5 : (l1.length : Int) < (l0.length : Int)
    · rw [if_pos c5] at H
      have c5b0 : decide ((l1.length : Int) < (l0.length : Int)) = true := decide_eq_true c5
      have c5b1 : decide (l1.length < l0.length) = true := decide_eq_true (Int.ofNat_lt.mp c5)
      clear c5
      have H' := Aside0.mk H
      clear H
      obtain ⟨Ao6, co6, eo6⟩ := Kd.R_slice HO0.out
      subst eo6
      have hlen : l0.length = l1.length + 1 := sameL_len A3.out
      have hcap := (Kd.R_reads' HO0.out).2.1
      have hmax := (Kd.R_reads' HO0.out).2.2.2.1
      obtain ⟨i09, hi09, _, hsz9, _⟩ := info_parts info26
      obtain ⟨jm, hjm⟩ : ∃ j_ : Int, (wrap64 ((l1.length : Int) + 1)) = j_ := ⟨_, rfl⟩
      have hjmw : (IntKind.i64.wrap ((l1.length : Int) + 1)) = jm := (i64_w _).trans hjm
      have hjv : jm = ((l0.length : Nat) : Int) := by
        rw [← hjm]
        unfold wrap64
        omega
      have hcut9 := cut_up (P := Try.prog) 22 26 .i64 Try.underlying22 hi09 Ao6 l1.length co6 jm (by omega) (by omega)
      rw [show jm.toNat = l0.length by omega] at hcut9
      show Calls Try.prog 21 #[.slice Ao6 (l0.length - 1) co6, .slice A1 l1.length c1] w _
      rw [show l0.length - 1 = l1.length by omega]
      have HLEN := Aside0.mk hlen
      clear hjv hlen hcap hmax hi09 hsz9
      go_enter Try.func21, Try.ntmps21
      go_wp2_with (first | ((with_reducible refine gate_callee (f := 17) rfl ?_); refine goesL_ (some 11) rfl rfl Try.func17 (by kernel_rfl) rfl #[.slice Ao6 l1.length co6, .slice A1 l1.length c1] rfl (by (try simp only [List.map_toArray, List.map_cons, List.map_nil]); first | done | rfl | (simp only [List.length_drop, List.length_take]; rfl)) ?_; (with_reducible refine (sameL_ok.calls _ _ l0 _ _ l1  _ ?side1 ?side2 ?side3 ?side4 A3.out).mono ?_); (case side1 => repeat (first | exact (Kd.R_reads' HO0.out).2.2 | (with_reducible refine Kd.C_alloc ?_ _) | (with_reducible refine Kd.C_drewN ?_ _) | (with_reducible refine Kd.C_drew ?_))); (case side2 => exact (Kd.R_reads' HO0.out).2.1); (case side3 => exact Kd.C_kept_now HR1.out (by repeat (first | (with_reducible first | exact HK.out | apply Kept.alloc | apply Kept.drewN | apply Kept.drew) | exact HK.out))); (case side4 => exact HC1.out); rintro e w7 ⟨rfl, hb⟩; refine ⟨_, rfl, ?_⟩; have n0_ := Aside0.mk (Kd.R_below (by (with_reducible repeat (first | apply Kd.R_alloc | apply Kd.R_drewN | apply Kd.R_drew)); exact HO0.out) hb); have n1_ := Aside0.mk (Kept.below (S := (fun k_ => P0_ k_)) (by repeat (first | (with_reducible first | exact HK.out | apply Kept.alloc | apply Kept.drewN | apply Kept.drew) | exact HK.out)) hb); have n2_ := Aside0.mk (below_step (by repeat (first | (with_reducible first | exact HB.out | apply below_alloc | apply pw_below_drewN | apply below_drew1) | exact HB.out)) hb); clear HO0; clear HK; clear HB; have HO0 := n0_; have HK := n1_; have HB := n2_; clear n0_ n1_ n2_; (try clear hb); (try clear hb2); (try clear hk); (try clear hi); have p162 : 0 ≤ ((l1.length : Int) : Int) := of_decide_eq_true (by first | (with_reducible assumption) | assumption); have q162 : (l1.length : Int) < (l0.length : Int) := of_decide_eq_true (by first | (with_reducible assumption) | assumption); obtain ⟨ad162, e162, hx162_0, hx162_1⟩ := at_T26 (Kd.R_reads' HO0.out).2.2 (l1.length : Int) p162 q162; cases e162; (try simp only [Go.IntWalk.toNatUp] at hx162_0); (try simp only [Go.IntWalk.toNatUp] at hx162_1); replace p162 := eq_true p162; replace q162 := eq_true q162))
      go_loopg [8] k (fun kq v8 w' => ∃ (x0_1 : List (S26)) (x8_1 : Int), v8 = .int .i64 x8_1 ∧ Aside0 (reevelaw21_kept.l0 kq x0_1 (((rd_T26 l0 (l1.length : Int)).f0) == (-77)) x8_1 = some (r1, r2)) ∧ Aside0 (kq ≤ k) ∧ Aside0 (Kd.R k26 26 w' w0.heap.size (fun k_ => (P0_ k_ ∨ w.heap.size ≤ k_)) (.slice (some ad162) l0.length co6) x0_1) ∧ Aside0 (Kept w w' (fun k_ => P0_ k_)) ∧ Aside0 (Below w0.heap.size w0 w'))
      case atStart => exact ⟨(l0), (0), (by first | rfl | (simp; done) | (simp [*]; done) | (simp [Int.tdiv_eq_ediv_of_nonneg]; done)), H', ⟨Nat.le_refl _⟩, ⟨by (with_reducible repeat (first | apply Kd.R_alloc | apply Kd.R_drewN | apply Kd.R_drew)); exact HO0.out⟩, ⟨by repeat (first | (with_reducible first | exact HK.out | apply Kept.alloc | apply Kept.drewN | apply Kept.drew) | exact HK.out)⟩, ⟨by repeat (first | (with_reducible first | exact HB.out | apply below_alloc | apply pw_below_drewN | apply below_drew1) | exact HB.out)⟩⟩
      case round =>
        clear H'
        clear hcut9 hjm hjmw
        try clear c1
        try clear p1
        try clear q1
        try clear hx1
        try clear c2
        try clear p2
        try clear c4
        try clear c4b0
        try clear c4b1
        try clear c5
        try clear c5b0
        try clear c5b1
        try clear hx162_0
        try clear hx162_1
        try clear p162
        try clear q162
        obtain ⟨x0_1, x8_1, rfl, HA, HK1, HO_0, HK, HB⟩ := hrel
        have hl0_1 := (Kd.R_reads' HO_0.out).1
        rw [hl0_1] at HO_0
        (try simp only [hl0_1])
        cases gk with
        | zero => exact absurd HA.out (by simp [reevelaw21_kept.l0])
        | succ k1 =>
          have H := HA.out
          clear HA
          simp only [reevelaw21_kept.l0] at H
          by_cases c8 : x8_1 < (x0_1.length : Int)
          · rw [if_pos c8] at H
            have c8b0 : decide (x8_1 < (x0_1.length : Int)) = true := decide_eq_true c8
            clear c8
            by_cases c9 : 0 ≤ x8_1
            · rw [if_pos c9] at H
              have c9b0 : decide (0 ≤ x8_1) = true := decide_eq_true c9
              clear c9
              obtain ⟨y163, hy163⟩ : ∃ y_ : List (S26), y_ = (x0_1.set (x8_1 : Int).toNat (⟨(-9), 0⟩ : S26)) := ⟨_, rfl⟩
              replace H : (reevelaw21_kept.l0 k1 y163 (((rd_T26 l0 (l1.length : Int)).f0) == (-77)) (wrap64 (x8_1 + 1))) = some (r1, r2) := by first | (rw [hy163]; with_reducible exact H) | (have H2_ := (Option.bind_some _ _).symm.trans H; rw [hy163]; with_reducible exact H2_) | (have H2_ := (Option.bind_some _ _).symm.trans H; with_reducible exact H2_) | with_reducible exact H | (rw [hy163]; exact H) | exact H
              have Ny163 := Aside0.mk hy163
              clear hy163
              have H' := Aside0.mk H
              clear H
              have p10 : 0 ≤ (x8_1 : Int) := of_decide_eq_true (by first | (with_reducible assumption) | assumption)
              have q10 : (x8_1 : Int) < ((x0_1.length : Int) : Int) := of_decide_eq_true (by first | (with_reducible assumption) | assumption)
              obtain ⟨go10, co10, eo10, gb10, gl10, cl10, HG10⟩ := Kd.R_form HO_0.out (by omega)
              (first | cases eo10 | (injection eo10 with ea_ en_ ec_; (first | subst ea_ | (injection ea_ with ea_; subst ea_)); subst ec_; clear en_))
              have GB10 := Aside0.mk gb10
              have GG10 := Aside0.mk HG10
              clear gb10 gl10 HG10
              have HMgo10 := Aside0.mk (show (P0_ go10 ∨ w.heap.size ≤ go10) from (HO_0.out.1 _ rfl))
              (first | simp only [add_plain] at hx162_0 | skip)
              (first | simp only [add_plain] at hx162_1 | skip)
              obtain ⟨ce10, hcl10, hM10, hcc10, hfr10⟩ := Kd.R_elem HO_0.out z26 (x8_1 : Int) p10 q10
              obtain rfl := k26_openM hM10
              have hx10_0 : wr.cell? ⟨go10, (x8_1 : Int).toNat * 2, none⟩ = some (.int .i64 ((rd_T26 x0_1 x8_1).f0)) := hcc10 0 _ rfl
              have hx10_1 : wr.cell? ⟨go10, (x8_1 : Int).toNat * 2 + 1, none⟩ = some (.int .i64 ((rd_T26 x0_1 x8_1).f1)) := hcc10 1 _ rfl
              have hf10_0 : wr.frozen? ⟨go10, (x8_1 : Int).toNat * 2, none⟩ = false := hfr10 0
              have hf10_1 : wr.frozen? ⟨go10, (x8_1 : Int).toNat * 2 + 1, none⟩ = false := hfr10 1
              clear hcl10 hcc10 hfr10 hM10
              replace p10 := eq_true p10
              replace q10 := eq_true q10
              have HX11 := Aside0.mk (show Kd.R k26 26 wr w0.heap.size (fun k_ => (P0_ k_ ∨ w.heap.size ≤ k_)) (.slice (some ⟨go10, 0, none⟩) x0_1.length co6) x0_1 from (by (with_reducible repeat (first | apply Kd.R_alloc | apply Kd.R_drewN | apply Kd.R_drew)); exact HO_0.out))
              obtain ⟨ce11, hcl11, hM11, hcc11, hfr11⟩ := Kd.R_elem HX11.out z26 (x8_1 : Int) (of_decide_eq_true (by first | (with_reducible assumption) | assumption)) (by have h_ : (x8_1 : Int) < ((x0_1.length : Int) : Int) := of_decide_eq_true (by first | (with_reducible assumption) | assumption); first | exact h_ | (have e_ := (Kd.R_reads' HO_0.out).1; omega) | simpa using h_)
              obtain rfl := k26_openM hM11
              have HP11 := Kd.R_seg HX11.out (x8_1 : Int) (of_decide_eq_true (by first | (with_reducible assumption) | assumption)) (by have h_ : (x8_1 : Int) < ((x0_1.length : Int) : Int) := of_decide_eq_true (by first | (with_reducible assumption) | assumption); first | exact h_ | (have e_ := (Kd.R_reads' HO_0.out).1; omega) | simpa using h_) (seg := [.int .i64 (-9), .int .i64 0]) (j := 0) hcl11 hcc11 (show 2 ≤ 2 from by decide) (x' := (⟨(-9), 0⟩ : S26)) (k26_mkM _ _ _ (⟨(-9), 0⟩ : S26) ) (fun _ hk => hk)
              have hx11_0 := hcc11 0 _ rfl
              (try simp only [show (k26).sz = 2 from rfl, Nat.mul_one, Nat.add_zero] at hx11_0)
              have hf11_0 := hfr11 0
              (try simp only [show (k26).sz = 2 from rfl, Nat.mul_one, Nat.add_zero] at hf11_0)
              have hx11_1 := hcc11 1 _ rfl
              (try simp only [show (k26).sz = 2 from rfl, Nat.mul_one, Nat.add_zero] at hx11_1)
              have hf11_1 := hfr11 1
              (try simp only [show (k26).sz = 2 from rfl, Nat.mul_one, Nat.add_zero] at hf11_1)
              clear hcl11 hcc11 hfr11 hM11
              go_wp2_with (first | ((with_reducible refine gate_store (t := 26) (p := 33) rfl ?_); refine store_event (t := 26) (p := 33) (v := ?vo_w12) (w1 := ((wr.setCell ⟨go10, (x8_1 : Int).toNat * 2, none⟩ (.int .i64 (-9))).setCell ⟨go10, (x8_1 : Int).toNat * 2 + 1, none⟩ (.int .i64 0))) ?hg ?ho ?hn ?hr ?_; (case ho => rfl); (case hg => rfl); (case hn => rfl); (case hr => first | (go_simp; done) | (go_simp; rfl)); intro w12 hw; have hg : wr.grownBy w12 (some go10) := (by rw [hw]; exact HP11.2); have hp_ : Kd.R k26 26 w12 w0.heap.size (fun k_ => (P0_ k_ ∨ w.heap.size ≤ k_)) (.slice (some ⟨go10, 0, none⟩) x0_1.length co6) y163 := (by rw [hw, Ny163.out]; exact HP11.1); clear HP11; have n0_ := Aside0.mk (hp_); have n1_ := Aside0.mk ((by rw [hw]; exact below_set (below_set (HB.out) GB10.out) GB10.out : Below w0.heap.size w0 w12)); have n2_ := Aside0.mk (Kept.of_grown (S := (fun k_ => P0_ k_)) hg (by repeat (first | (with_reducible first | exact HK.out | apply Kept.alloc | apply Kept.drewN | apply Kept.drew) | exact HK.out)) (fun k_ e_ => (HO_0.out.1 k_ e_))); clear HO_0; clear HB; clear HK; have HO_0 := n0_; have HB := n1_; have HK := n2_; clear n0_ n1_ n2_; clear hg hw hp_))
              (try simp only [← hl0_1])
              go_roundg k1
              case measure => have := HK1.out; omega
              case rel => exact ⟨(y163), (wrap64 (x8_1 + 1)), (by first | rfl | (simp; done) | (simp [*]; done) | (simp [Int.tdiv_eq_ediv_of_nonneg]; done)), H', ⟨by have := HK1.out; omega⟩, ⟨by (try simp only [hl0_1]); (with_reducible repeat (first | apply Kd.R_alloc | apply Kd.R_drewN | apply Kd.R_drew)); exact HO_0.out⟩, ⟨by repeat (first | (with_reducible first | exact HK.out | apply Kept.alloc | apply Kept.drewN | apply Kept.drew) | exact HK.out)⟩, ⟨by repeat (first | (with_reducible first | exact HB.out | apply below_alloc | apply pw_below_drewN | apply below_drew1) | exact HB.out)⟩⟩
            · rw [if_neg c9] at H
              exact absurd H (by simp)
          · rw [if_neg c8] at H
            have c8b0 : decide (x8_1 < (x0_1.length : Int)) = false := decide_eq_false c8
            clear c8
            simp only [Option.some.injEq, Prod.mk.injEq] at H
            obtain ⟨rfl, rfl⟩ := H
            go_wp2
            go_ret
            exact ⟨by first | rfl | (simp [errW_none, errW_some] <;> rfl) | (simp [*, errW_none, errW_some] <;> rfl), (by first | exact (by (with_reducible repeat (first | apply Kd.R_alloc | apply Kd.R_drewN | apply Kd.R_drew)); exact HO_0.out) | (simp only [hl0_1]; exact (by (with_reducible repeat (first | apply Kd.R_alloc | apply Kd.R_drewN | apply Kd.R_drew)); exact HO_0.out))), by repeat (first | (with_reducible first | exact HB.out | apply below_alloc | apply pw_below_drewN | apply below_drew1) | exact HB.out), by repeat (first | (with_reducible first | exact HK.out | apply Kept.alloc | apply Kept.drewN | apply Kept.drew) | exact HK.out)⟩
    · rw [if_neg c5] at H
      exact absurd H (by simp)
  · rw [if_neg c4] at H
    exact absurd H (by simp)

/-- kept answers true of a row as it was, with its mark. -/
def kept_ok.f (a b : List S26) : Option Unit := if a.length = b.length + 1 ∧ b.length ≤ 4000000000 ∧ a.dropLast.map sG = b.map sG ∧ (rd_T26 a (b.length : Int)).f0 = -77 then some () else none
theorem kept_loop (b : Bool) : ∀ (d : Nat) (a : List S26) (i : Nat), a.length - i = d → i ≤ a.length → a.length ≤ 4000000001 → ∃ r2, Ev (fun k => reevelaw21_kept.l0 k a b (i : Int)) (b, r2) := by
  intro d
  induction d with
  | zero =>
    intro a i hd hi hm
    refine ⟨a, ev_now fun k => ?_⟩
    simp only [reevelaw21_kept.l0]
    rw [if_neg (by omega)]
  | succ d ih =>
    intro a i hd hi hm
    obtain ⟨r2, h⟩ := ih (a.set i (⟨(-9), 0⟩ : S26)) (i + 1) (by rw [List.length_set]; omega) (by rw [List.length_set]; omega) (by rw [List.length_set]; omega)
    refine ⟨r2, Ev.step (fun k => ?_) h⟩
    simp only [reevelaw21_kept.l0]
    rw [if_pos (by omega), if_pos (by omega), w64 (x := (i : Int) + 1) (by omega) (by omega), Int.toNat_natCast]
    rfl
theorem kept_ok.calls (P0_ : Nat → Prop) (u9000_ : Value) (l0 : List (S26)) (A1 : Option Addr) (c1 : Nat) (l1 : List (S26)) {r_ : Unit} (w0 w : World) (hB : Below w0.heap.size w0 w) (ho0 : Kd.R k26 26 w w0.heap.size P0_ u9000_ l0) (hr1 : ∀ W_, Kept w W_ (fun k_ => P0_ k_) → Kd.C k26 W_ A1 l1.length l1) (hc1 : l1.length ≤ c1) (h : kept_ok.f l0 l1 = some r_) :
    Calls Try.prog 21 #[shortV u9000_, .slice A1 l1.length c1] w fun e w' => e = .returned (.bool true) ∧ Below w0.heap.size w0 w' ∧ Kept w w' (fun k_ => P0_ k_) := by
  unfold kept_ok.f at h
  by_cases c : l0.length = l1.length + 1 ∧ l1.length ≤ 4000000000 ∧ l0.dropLast.map sG = l1.map sG ∧ (rd_T26 l0 (l1.length : Int)).f0 = -77
  · obtain ⟨r2, hE⟩ := kept_loop true _ l0 0 rfl (by omega) (by omega)
    have hF : Ev (fun k => reevelaw21_kept.f k l0 l1) (true, r2) := by
      refine Ev.congr (fun k => ?_) hE
      unfold reevelaw21_kept.f sameL_ok.f
      rw [if_pos ⟨c.1, c.2.1, c.2.2.1⟩]
      simp only [Option.bind_some]
      rw [if_pos (by omega), if_pos (by omega), c.2.2.2]
      rfl
    obtain ⟨k, hk⟩ := hF.rounds
    refine (reevelaw21_kept.calls k P0_ u9000_ l0 A1 c1 l1 true r2 w0 w hB ho0 hr1 hc1 hk).mono ?_
    rintro e w' ⟨he, _, hb, hkp⟩
    exact ⟨he, hb, hkp⟩
  · rw [if_neg c] at h
    exact absurd h (by simp)
end Go.Proofs.YtkilnknndglmnaaP
end

section
/- Contracts in closed form: rows that are lent, and the reference's functions. -/
namespace Go.Proofs.YtkilnknndglmnaaP
open Go.RowKit Go.Proofs.Ytkilnknndglmnaa Go.Proofs.YtkilnknndglmnaaW.PrintWords

def root_all.f (n : Int) : Option (Int × Int × Int) := some (if lenI n then ((rootW n.toNat).re, (rootW n.toNat).im, 0) else (0, 0, 210))
theorem root_all.calls (a0 : Int) (r1 : Int) (r2 : Int) (r3 : Int) (w : World) (h : root_all.f a0 = some (r1, r2, r3)) :
    Calls Try.prog 13 #[.int .i64 a0] w fun e w' => e = .returned (.tuple #[.agg #[.int .i64 r1, .int .i64 r2], .int .i64 r3]) ∧ Below w.heap.size w w' := by
  refine beat_Root.calls a0 r1 r2 r3 w (Eq.trans ?_ h)
  unfold root_all.f lenI
  by_cases c : 0 ≤ a0
  · have hE := root_f a0.toNat
    rw [Int.toNat_of_nonneg c] at hE
    rw [hE]
    simp [c]
  · unfold beat_Root.f
    rw [turns_fI]
    unfold lenI
    simp [c]

def rroot_all.f (n : Int) : Option (Int × Int × Int) := some (if lenI n then ((rootW n.toNat).re, (rootW n.toNat).im, 0) else (0, 0, 210))
theorem rroot_all.calls (a0 : Int) (r1 : Int) (r2 : Int) (r3 : Int) (w : World) (h : rroot_all.f a0 = some (r1, r2, r3)) :
    Calls Try.prog 18 #[.int .i64 a0] w fun e w' => e = .returned (.tuple #[.agg #[.int .i64 r1, .int .i64 r2], .int .i64 r3]) ∧ Below w.heap.size w w' := by
  obtain ⟨k, hk⟩ := (ref_root a0).rounds
  exact reeveref21_Root.calls k a0 r1 r2 r3 w (hk.trans h)

def turn_all.f (l : List S26) : Option (List S26 × Int) := some (if rowE l.dropLast = 0 then turnP l.dropLast else [], rowE l.dropLast)
theorem turn_all.calls (A0 : Option Addr) (c0 : Nat) (l0 : List (S26)) (r1 : List (S26)) (r2 : Int) (w : World) (hr0 : Kd.C k26 w A0 l0.length l0) (hc0 : l0.length ≤ c0) (h : turn_all.f l0 = some (r1, r2)) :
    Calls Try.prog 12 #[shortV (.slice A0 l0.length c0)] w fun e w' => ∃ v0_ : Value, e = .returned (.tuple #[v0_, .int .i64 r2]) ∧ Kd.R k26 26 w' w.heap.size (fun _ => True) v0_ r1 ∧ Below w.heap.size w w' := by
  obtain ⟨k, hk⟩ := (Turn_f l0.dropLast).rounds
  have hc := beat_Turn.calls k A0 c0 l0.dropLast r1 r2 w (C_last hr0) (by rw [List.length_dropLast]; omega) (hk.trans h)
  rw [List.length_dropLast] at hc
  exact hc

def back_all.f (l : List S26) : Option (List S26 × Int) := some (if rowE l.dropLast = 0 then backP l.dropLast else [], rowE l.dropLast)
theorem back_all.calls (A0 : Option Addr) (c0 : Nat) (l0 : List (S26)) (r1 : List (S26)) (r2 : Int) (w : World) (hr0 : Kd.C k26 w A0 l0.length l0) (hc0 : l0.length ≤ c0) (h : back_all.f l0 = some (r1, r2)) :
    Calls Try.prog 20 #[shortV (.slice A0 l0.length c0)] w fun e w' => ∃ v0_ : Value, e = .returned (.tuple #[v0_, .int .i64 r2]) ∧ Kd.R k26 26 w' w.heap.size (fun _ => True) v0_ r1 ∧ Below w.heap.size w w' := by
  obtain ⟨k, hk⟩ := (Back_f l0.dropLast).rounds
  have hc := beat_Back.calls k A0 c0 l0.dropLast r1 r2 w (C_last hr0) (by rw [List.length_dropLast]; omega) (hk.trans h)
  rw [List.length_dropLast] at hc
  exact hc

def round_all.f (x y : List S26) : Option (List S26 × Int) := some (if roundE x.dropLast y.dropLast = 0 then roundP x.dropLast y.dropLast else [], roundE x.dropLast y.dropLast)
theorem round_all.calls (A0 : Option Addr) (c0 : Nat) (l0 : List (S26)) (A1 : Option Addr) (c1 : Nat) (l1 : List (S26)) (r1 : List (S26)) (r2 : Int) (w : World) (hr0 : Kd.C k26 w A0 l0.length l0) (hc0 : l0.length ≤ c0) (hr1 : Kd.C k26 w A1 l1.length l1) (hc1 : l1.length ≤ c1) (h : round_all.f l0 l1 = some (r1, r2)) :
    Calls Try.prog 16 #[shortV (.slice A0 l0.length c0), shortV (.slice A1 l1.length c1)] w fun e w' => ∃ v0_ : Value, e = .returned (.tuple #[v0_, .int .i64 r2]) ∧ Kd.R k26 26 w' w.heap.size (fun _ => True) v0_ r1 ∧ Below w.heap.size w w' := by
  obtain ⟨k, hk⟩ := (Round_f l0.dropLast l1.dropLast).rounds
  have hc := beat_Round.calls k A0 c0 l0.dropLast A1 c1 l1.dropLast r1 r2 w (C_last hr0) (by rw [List.length_dropLast]; omega) (C_last hr1) (by rw [List.length_dropLast]; omega) (hk.trans h)
  rw [List.length_dropLast, List.length_dropLast] at hc
  exact hc

def rturn_all.f (l : List S26) : Option (List S26 × Int) := some (if rowE l = 0 then turnP l else [], rowE l)
theorem rturn_all.calls (A0 : Option Addr) (c0 : Nat) (l0 : List (S26)) (r1 : List (S26)) (r2 : Int) (w : World) (hr0 : Kd.C k26 w A0 l0.length l0) (hc0 : l0.length ≤ c0) (h : rturn_all.f l0 = some (r1, r2)) :
    Calls Try.prog 22 #[.slice A0 l0.length c0] w fun e w' => ∃ v0_ : Value, e = .returned (.tuple #[v0_, .int .i64 r2]) ∧ Kd.R k26 26 w' w.heap.size (fun _ => True) v0_ r1 ∧ Below w.heap.size w w' := by
  obtain ⟨k, hk⟩ := (ref_turn l0).rounds
  exact reeveref21_Turn.calls k A0 c0 l0 r1 r2 w hr0 hc0 (hk.trans h)

def rback_all.f (l : List S26) : Option (List S26 × Int) := some (if rowE l = 0 then backP l else [], rowE l)
theorem rback_all.calls (A0 : Option Addr) (c0 : Nat) (l0 : List (S26)) (r1 : List (S26)) (r2 : Int) (w : World) (hr0 : Kd.C k26 w A0 l0.length l0) (hc0 : l0.length ≤ c0) (h : rback_all.f l0 = some (r1, r2)) :
    Calls Try.prog 23 #[.slice A0 l0.length c0] w fun e w' => ∃ v0_ : Value, e = .returned (.tuple #[v0_, .int .i64 r2]) ∧ Kd.R k26 26 w' w.heap.size (fun _ => True) v0_ r1 ∧ Below w.heap.size w w' := by
  obtain ⟨k, hk⟩ := (ref_back l0).rounds
  exact reeveref21_Back.calls k A0 c0 l0 r1 r2 w hr0 hc0 (hk.trans h)

def rround_all.f (x y : List S26) : Option (List S26 × Int) := some (if roundE x y = 0 then roundP x y else [], roundE x y)
theorem rround_all.calls (A0 : Option Addr) (c0 : Nat) (l0 : List (S26)) (A1 : Option Addr) (c1 : Nat) (l1 : List (S26)) (r1 : List (S26)) (r2 : Int) (w : World) (hr0 : Kd.C k26 w A0 l0.length l0) (hc0 : l0.length ≤ c0) (hr1 : Kd.C k26 w A1 l1.length l1) (hc1 : l1.length ≤ c1) (h : rround_all.f l0 l1 = some (r1, r2)) :
    Calls Try.prog 24 #[.slice A0 l0.length c0, .slice A1 l1.length c1] w fun e w' => ∃ v0_ : Value, e = .returned (.tuple #[v0_, .int .i64 r2]) ∧ Kd.R k26 26 w' w.heap.size (fun _ => True) v0_ r1 ∧ Below w.heap.size w w' := by
  obtain ⟨k, hk⟩ := (ref_round l0 l1).rounds
  exact reeveref21_Round.calls k A0 c0 l0 A1 c1 l1 r1 r2 w hr0 hc0 hr1 hc1 (hk.trans h)

def lent_ok.f (l : List S26) : Option (List S26) := if l.length ≤ 4000000000 then some (l ++ [(⟨-77, 0⟩ : S26)]) else none
theorem lent_ok.calls (A0 : Option Addr) (c0 : Nat) (l0 : List (S26)) (r : List (S26)) (w : World) (hr0 : Kd.C k26 w A0 l0.length l0) (hc0 : l0.length ≤ c0) (h : lent_ok.f l0 = some r) :
    Calls Try.prog 19 #[.slice A0 l0.length c0] w fun e w' => ∃ v0_ : Value, e = .returned (shortV v0_) ∧ Kd.R k26 26 w' w.heap.size (fun _ => True) v0_ r ∧ Below w.heap.size w w' := by
  unfold lent_ok.f at h
  by_cases c : l0.length ≤ 4000000000
  · rw [if_pos c] at h
    refine reevelaw21_lent.calls A0 c0 l0 r w hr0 hc0 (Eq.trans ?_ h)
    unfold reevelaw21_lent.f
    rw [if_pos (by simp; omega), Option.bind_some, if_pos (by simp; omega)]
    rfl
  · rw [if_neg c] at h
    exact absurd h (by simp)

end Go.Proofs.YtkilnknndglmnaaP
end

section
-- Laid by given.py, a program of this seat, with the kit's printer.
namespace Go.Proofs.YtkilnknndglmnaaT
open Go.Proofs.YtkilnknndglmnaaP
open Go.Proofs.Ytkilnknndglmnaa (G fl IsS isSB okC okF okC_iff encC kcx at_cx md red run_cmul run_cadd run_csub run_fint lit_one lit_zero tdiv_32 run_store_cx)
attribute [local go_sem] run_cmul run_cadd run_csub run_fint lit_one lit_zero tdiv_32 run_store_cx
open Go.RowKit Go.Proofs.YtkilnknndglmnaaW.PrintWords Go.Proofs.YtkilnknndglmnaaW.PrintLast Go.Proofs.YtkilnknndglmnaaW.PrintMore
attribute [local go_sem] max2_int min2_int max_two min_two max_three min_three max_four min_four   -- for this text's walks alone
set_option linter.unusedVariables false
set_option linter.unusedSimpArgs false

theorem eqA26 (d : Nat) (w : World) (x0 y0 : Int) (x1 y1 : Int) :
  (Op.equalIn (d + 2) 26 (.agg #[.int .i64 x0, .int .i64 x1]) (.agg #[.int .i64 y0, .int .i64 y1])).run Try.prog w = .ok (x0 == y0 && (x1 == y1)) w := by
 refine eqA_of Try.underlying26 (by kernel_rfl) ?_
 refine eqf_cons (by rfl) (by go_simp; rfl) (by go_simp; rfl) (by go_simp) ?_
 exact eqf_last (by rfl) (by go_simp; rfl) (by go_simp; rfl) (by go_simp)
end Go.Proofs.YtkilnknndglmnaaT
end

section
-- Laid by given.py, a program of this seat, with the kit's printer.
namespace Go.Proofs.YtkilnknndglmnaaT
open Go.Proofs.YtkilnknndglmnaaP
open Go.Proofs.Ytkilnknndglmnaa (G fl IsS isSB okC okF okC_iff encC kcx at_cx md red run_cmul run_cadd run_csub run_fint lit_one lit_zero tdiv_32 run_store_cx)
attribute [local go_sem] run_cmul run_cadd run_csub run_fint lit_one lit_zero tdiv_32 run_store_cx
open Go.RowKit Go.Proofs.YtkilnknndglmnaaW.PrintWords Go.Proofs.YtkilnknndglmnaaW.PrintLast Go.Proofs.YtkilnknndglmnaaW.PrintMore
attribute [local go_sem] max2_int min2_int max_two min_two max_three min_three max_four min_four   -- for this text's walks alone
set_option linter.unusedVariables false
set_option linter.unusedSimpArgs false

attribute [local go_sem high] eqA26
/-! ### reevelaw21_BeatTurns: function 5 -/
def reevelaw21_BeatTurns.f (l0 : List (S26)) (l1 : List (S26)) (a2 : Int) : Option (Bool) := (awake_ok.f).bind fun _ => (if (l0.length : Int) > 40 then (some true) else (if (l1.length : Int) > 40 then (some true) else ((root_all.f a2).bind fun bt175 => ((rroot_all.f a2).bind fun bt179 => ((lent_ok.f l0).bind fun t183 => ((lent_ok.f l0).bind fun t186 => ((lent_ok.f l0).bind fun t189 => ((lent_ok.f l1).bind fun t192 => ((turn_all.f t183).bind fun bt195 => ((back_all.f t186).bind fun bt199 => ((round_all.f t189 t192).bind fun bt203 => ((kept_ok.f t183 l0).bind fun _ => ((kept_ok.f t186 l0).bind fun _ => ((kept_ok.f t189 l0).bind fun _ => ((kept_ok.f t192 l1).bind fun _ => ((rturn_all.f l0).bind fun bt211 => ((rback_all.f l0).bind fun bt215 => ((rround_all.f l0 l1).bind fun bt219 => ((same_ok.f bt195.1 bt211.1).bind fun _ => ((same_ok.f bt199.1 bt215.1).bind fun _ => ((same_ok.f bt203.1 bt219.1).bind fun _ => (if (bt175.1 == bt179.1 && (bt175.2.1 == bt179.2.1)) = true then (if bt175.2.2 = bt179.2.2 then (if bt195.2 = bt211.2 then (if bt199.2 = bt215.2 then (some (bt203.2 == bt219.2)) else (none)) else (none)) else (none)) else (none)))))))))))))))))))))))
set_option maxHeartbeats 8000000 in
set_option maxRecDepth 100000 in
theorem reevelaw21_BeatTurns.calls (A0 : Option Addr) (c0 : Nat) (l0 : List (S26)) (A1 : Option Addr) (c1 : Nat) (l1 : List (S26)) (a2 : Int) (r : Bool) (w : World) (hr0 : Kd.C k26 w A0 l0.length l0) (hc0 : l0.length ≤ c0) (hr1 : Kd.C k26 w A1 l1.length l1) (hc1 : l1.length ≤ c1) (h : reevelaw21_BeatTurns.f l0 l1 a2 = some r) :
  Calls Try.prog 5 #[.slice A0 l0.length c0, .slice A1 l1.length c1, .int .i64 a2] w fun e w' => e = .returned (.bool r) ∧ Below w.heap.size w w' := by
 have hu26 := Try.underlying26
 have HR0 := Aside0.mk hr0
 have HC0 := Aside0.mk hc0
 clear hr0 hc0
 have HR1 := Aside0.mk hr1
 have HC1 := Aside0.mk hc1
 clear hr1 hc1
 have HB := Aside0.mk (Below.refl w.heap.size w)
 have H : ((awake_ok.f).bind fun _ => (if (l0.length : Int) > 40 then (some true) else (if (l1.length : Int) > 40 then (some true) else ((root_all.f a2).bind fun bt175 => ((rroot_all.f a2).bind fun bt179 => ((lent_ok.f l0).bind fun t183 => ((lent_ok.f l0).bind fun t186 => ((lent_ok.f l0).bind fun t189 => ((lent_ok.f l1).bind fun t192 => ((turn_all.f t183).bind fun bt195 => ((back_all.f t186).bind fun bt199 => ((round_all.f t189 t192).bind fun bt203 => ((kept_ok.f t183 l0).bind fun _ => ((kept_ok.f t186 l0).bind fun _ => ((kept_ok.f t189 l0).bind fun _ => ((kept_ok.f t192 l1).bind fun _ => ((rturn_all.f l0).bind fun bt211 => ((rback_all.f l0).bind fun bt215 => ((rround_all.f l0 l1).bind fun bt219 => ((same_ok.f bt195.1 bt211.1).bind fun _ => ((same_ok.f bt199.1 bt215.1).bind fun _ => ((same_ok.f bt203.1 bt219.1).bind fun _ => (if (bt175.1 == bt179.1 && (bt175.2.1 == bt179.2.1)) = true then (if bt175.2.2 = bt179.2.2 then (if bt195.2 = bt211.2 then (if bt199.2 = bt215.2 then (some (bt203.2 == bt219.2)) else (none)) else (none)) else (none)) else (none)))))))))))))))))))))))) = some r := h
 clear h
 replace H := Option.bind_eq_some_iff.mp H
 obtain ⟨_, A40, H⟩ := H
 replace H : (if (l0.length : Int) > 40 then (some true) else (if (l1.length : Int) > 40 then (some true) else ((root_all.f a2).bind fun bt175 => ((rroot_all.f a2).bind fun bt179 => ((lent_ok.f l0).bind fun t183 => ((lent_ok.f l0).bind fun t186 => ((lent_ok.f l0).bind fun t189 => ((lent_ok.f l1).bind fun t192 => ((turn_all.f t183).bind fun bt195 => ((back_all.f t186).bind fun bt199 => ((round_all.f t189 t192).bind fun bt203 => ((kept_ok.f t183 l0).bind fun _ => ((kept_ok.f t186 l0).bind fun _ => ((kept_ok.f t189 l0).bind fun _ => ((kept_ok.f t192 l1).bind fun _ => ((rturn_all.f l0).bind fun bt211 => ((rback_all.f l0).bind fun bt215 => ((rround_all.f l0 l1).bind fun bt219 => ((same_ok.f bt195.1 bt211.1).bind fun _ => ((same_ok.f bt199.1 bt215.1).bind fun _ => ((same_ok.f bt203.1 bt219.1).bind fun _ => (if (bt175.1 == bt179.1 && (bt175.2.1 == bt179.2.1)) = true then (if bt175.2.2 = bt179.2.2 then (if bt195.2 = bt211.2 then (if bt199.2 = bt215.2 then (some (bt203.2 == bt219.2)) else (none)) else (none)) else (none)) else (none))))))))))))))))))))))) = some r := H
 have A4 := Aside0.mk A40
 clear A40
 by_cases c5 : (l0.length : Int) > 40
 ·rw [if_pos c5] at H
  have c5b0 : decide (40 < (l0.length : Int)) = true := decide_eq_true c5
  have c5b1 : decide (40 < l0.length) = true := decide_eq_true (by omega)
  clear c5
  obtain rfl := Option.some.inj H
  go_enter Try.func5, Try.ntmps5
  go_wp2_with (first | ((with_reducible refine gate_callee (f := 10) rfl ?_); refine goesL_ (some 30) rfl rfl Try.func10 (by kernel_rfl) rfl #[] rfl (by (try simp only [List.map_toArray, List.map_cons, List.map_nil]); first | done | rfl | (simp only [List.length_drop, List.length_take]; rfl)) ?_; (with_reducible refine (awake_ok.calls   _ A4.out).mono ?_); rintro e w6 ⟨rfl, hb⟩; refine ⟨_, rfl, ?_⟩; have n0_ := Aside0.mk (below_step (by repeat (first | (with_reducible first | exact HB.out | apply below_alloc | apply pw_below_drewN | apply below_drew1) | exact HB.out)) hb); clear HB; have HB := n0_; clear n0_; (try clear hb); (try clear hb2); (try clear hk); (try clear hi)))
  go_ret
  exact ⟨by first | rfl | (simp [errW_none, errW_some] <;> rfl) | (simp [*, errW_none, errW_some] <;> rfl), by repeat (first | (with_reducible first | exact HB.out | apply below_alloc | apply pw_below_drewN | apply below_drew1) | exact HB.out)⟩
 ·rw [if_neg c5] at H
  have c5b0 : decide (40 < (l0.length : Int)) = false := decide_eq_false c5
  have c5b1 : decide (40 < l0.length) = false := decide_eq_false (by omega)
  clear c5
  by_cases c7 : (l1.length : Int) > 40
  ·rw [if_pos c7] at H
   have c7b0 : decide (40 < (l1.length : Int)) = true := decide_eq_true c7
   have c7b1 : decide (40 < l1.length) = true := decide_eq_true (by omega)
   clear c7
   obtain rfl := Option.some.inj H
   go_enter Try.func5, Try.ntmps5
   go_wp2_with (first | ((with_reducible refine gate_callee (f := 10) rfl ?_); refine goesL_ (some 30) rfl rfl Try.func10 (by kernel_rfl) rfl #[] rfl (by (try simp only [List.map_toArray, List.map_cons, List.map_nil]); first | done | rfl | (simp only [List.length_drop, List.length_take]; rfl)) ?_; (with_reducible refine (awake_ok.calls   _ A4.out).mono ?_); rintro e w8 ⟨rfl, hb⟩; refine ⟨_, rfl, ?_⟩; have n0_ := Aside0.mk (below_step (by repeat (first | (with_reducible first | exact HB.out | apply below_alloc | apply pw_below_drewN | apply below_drew1) | exact HB.out)) hb); clear HB; have HB := n0_; clear n0_; (try clear hb); (try clear hb2); (try clear hk); (try clear hi)))
   go_ret
   exact ⟨by first | rfl | (simp [errW_none, errW_some] <;> rfl) | (simp [*, errW_none, errW_some] <;> rfl), by repeat (first | (with_reducible first | exact HB.out | apply below_alloc | apply pw_below_drewN | apply below_drew1) | exact HB.out)⟩
  ·rw [if_neg c7] at H
   have c7b0 : decide (40 < (l1.length : Int)) = false := decide_eq_false c7
   have c7b1 : decide (40 < l1.length) = false := decide_eq_false (by omega)
   clear c7
   replace H := Option.bind_eq_some_iff.mp H
   obtain ⟨⟨t175, t176, t177⟩, A90, H⟩ := H
   replace H : ((rroot_all.f a2).bind fun bt179 => ((lent_ok.f l0).bind fun t183 => ((lent_ok.f l0).bind fun t186 => ((lent_ok.f l0).bind fun t189 => ((lent_ok.f l1).bind fun t192 => ((turn_all.f t183).bind fun bt195 => ((back_all.f t186).bind fun bt199 => ((round_all.f t189 t192).bind fun bt203 => ((kept_ok.f t183 l0).bind fun _ => ((kept_ok.f t186 l0).bind fun _ => ((kept_ok.f t189 l0).bind fun _ => ((kept_ok.f t192 l1).bind fun _ => ((rturn_all.f l0).bind fun bt211 => ((rback_all.f l0).bind fun bt215 => ((rround_all.f l0 l1).bind fun bt219 => ((same_ok.f bt195.1 bt211.1).bind fun _ => ((same_ok.f bt199.1 bt215.1).bind fun _ => ((same_ok.f bt203.1 bt219.1).bind fun _ => (if (t175 == bt179.1 && (t176 == bt179.2.1)) = true then (if t177 = bt179.2.2 then (if bt195.2 = bt211.2 then (if bt199.2 = bt215.2 then (some (bt203.2 == bt219.2)) else (none)) else (none)) else (none)) else (none)))))))))))))))))))) = some r := H
   have A9 := Aside0.mk A90
   clear A90
   replace H := Option.bind_eq_some_iff.mp H
   obtain ⟨⟨t179, t180, t181⟩, A100, H⟩ := H
   replace H : ((lent_ok.f l0).bind fun t183 => ((lent_ok.f l0).bind fun t186 => ((lent_ok.f l0).bind fun t189 => ((lent_ok.f l1).bind fun t192 => ((turn_all.f t183).bind fun bt195 => ((back_all.f t186).bind fun bt199 => ((round_all.f t189 t192).bind fun bt203 => ((kept_ok.f t183 l0).bind fun _ => ((kept_ok.f t186 l0).bind fun _ => ((kept_ok.f t189 l0).bind fun _ => ((kept_ok.f t192 l1).bind fun _ => ((rturn_all.f l0).bind fun bt211 => ((rback_all.f l0).bind fun bt215 => ((rround_all.f l0 l1).bind fun bt219 => ((same_ok.f bt195.1 bt211.1).bind fun _ => ((same_ok.f bt199.1 bt215.1).bind fun _ => ((same_ok.f bt203.1 bt219.1).bind fun _ => (if (t175 == t179 && (t176 == t180)) = true then (if t177 = t181 then (if bt195.2 = bt211.2 then (if bt199.2 = bt215.2 then (some (bt203.2 == bt219.2)) else (none)) else (none)) else (none)) else (none))))))))))))))))))) = some r := H
   have A10 := Aside0.mk A100
   clear A100
   replace H := Option.bind_eq_some_iff.mp H
   obtain ⟨t183, A110, H⟩ := H
   replace H : ((lent_ok.f l0).bind fun t186 => ((lent_ok.f l0).bind fun t189 => ((lent_ok.f l1).bind fun t192 => ((turn_all.f t183).bind fun bt195 => ((back_all.f t186).bind fun bt199 => ((round_all.f t189 t192).bind fun bt203 => ((kept_ok.f t183 l0).bind fun _ => ((kept_ok.f t186 l0).bind fun _ => ((kept_ok.f t189 l0).bind fun _ => ((kept_ok.f t192 l1).bind fun _ => ((rturn_all.f l0).bind fun bt211 => ((rback_all.f l0).bind fun bt215 => ((rround_all.f l0 l1).bind fun bt219 => ((same_ok.f bt195.1 bt211.1).bind fun _ => ((same_ok.f bt199.1 bt215.1).bind fun _ => ((same_ok.f bt203.1 bt219.1).bind fun _ => (if (t175 == t179 && (t176 == t180)) = true then (if t177 = t181 then (if bt195.2 = bt211.2 then (if bt199.2 = bt215.2 then (some (bt203.2 == bt219.2)) else (none)) else (none)) else (none)) else (none)))))))))))))))))) = some r := H
   have A11 := Aside0.mk A110
   clear A110
   replace H := Option.bind_eq_some_iff.mp H
   obtain ⟨t186, A120, H⟩ := H
   replace H : ((lent_ok.f l0).bind fun t189 => ((lent_ok.f l1).bind fun t192 => ((turn_all.f t183).bind fun bt195 => ((back_all.f t186).bind fun bt199 => ((round_all.f t189 t192).bind fun bt203 => ((kept_ok.f t183 l0).bind fun _ => ((kept_ok.f t186 l0).bind fun _ => ((kept_ok.f t189 l0).bind fun _ => ((kept_ok.f t192 l1).bind fun _ => ((rturn_all.f l0).bind fun bt211 => ((rback_all.f l0).bind fun bt215 => ((rround_all.f l0 l1).bind fun bt219 => ((same_ok.f bt195.1 bt211.1).bind fun _ => ((same_ok.f bt199.1 bt215.1).bind fun _ => ((same_ok.f bt203.1 bt219.1).bind fun _ => (if (t175 == t179 && (t176 == t180)) = true then (if t177 = t181 then (if bt195.2 = bt211.2 then (if bt199.2 = bt215.2 then (some (bt203.2 == bt219.2)) else (none)) else (none)) else (none)) else (none))))))))))))))))) = some r := H
   have A12 := Aside0.mk A120
   clear A120
   replace H := Option.bind_eq_some_iff.mp H
   obtain ⟨t189, A130, H⟩ := H
   replace H : ((lent_ok.f l1).bind fun t192 => ((turn_all.f t183).bind fun bt195 => ((back_all.f t186).bind fun bt199 => ((round_all.f t189 t192).bind fun bt203 => ((kept_ok.f t183 l0).bind fun _ => ((kept_ok.f t186 l0).bind fun _ => ((kept_ok.f t189 l0).bind fun _ => ((kept_ok.f t192 l1).bind fun _ => ((rturn_all.f l0).bind fun bt211 => ((rback_all.f l0).bind fun bt215 => ((rround_all.f l0 l1).bind fun bt219 => ((same_ok.f bt195.1 bt211.1).bind fun _ => ((same_ok.f bt199.1 bt215.1).bind fun _ => ((same_ok.f bt203.1 bt219.1).bind fun _ => (if (t175 == t179 && (t176 == t180)) = true then (if t177 = t181 then (if bt195.2 = bt211.2 then (if bt199.2 = bt215.2 then (some (bt203.2 == bt219.2)) else (none)) else (none)) else (none)) else (none)))))))))))))))) = some r := H
   have A13 := Aside0.mk A130
   clear A130
   replace H := Option.bind_eq_some_iff.mp H
   obtain ⟨t192, A140, H⟩ := H
   replace H : ((turn_all.f t183).bind fun bt195 => ((back_all.f t186).bind fun bt199 => ((round_all.f t189 t192).bind fun bt203 => ((kept_ok.f t183 l0).bind fun _ => ((kept_ok.f t186 l0).bind fun _ => ((kept_ok.f t189 l0).bind fun _ => ((kept_ok.f t192 l1).bind fun _ => ((rturn_all.f l0).bind fun bt211 => ((rback_all.f l0).bind fun bt215 => ((rround_all.f l0 l1).bind fun bt219 => ((same_ok.f bt195.1 bt211.1).bind fun _ => ((same_ok.f bt199.1 bt215.1).bind fun _ => ((same_ok.f bt203.1 bt219.1).bind fun _ => (if (t175 == t179 && (t176 == t180)) = true then (if t177 = t181 then (if bt195.2 = bt211.2 then (if bt199.2 = bt215.2 then (some (bt203.2 == bt219.2)) else (none)) else (none)) else (none)) else (none))))))))))))))) = some r := H
   have A14 := Aside0.mk A140
   clear A140
   replace H := Option.bind_eq_some_iff.mp H
   obtain ⟨⟨t195, t196⟩, A150, H⟩ := H
   replace H : ((back_all.f t186).bind fun bt199 => ((round_all.f t189 t192).bind fun bt203 => ((kept_ok.f t183 l0).bind fun _ => ((kept_ok.f t186 l0).bind fun _ => ((kept_ok.f t189 l0).bind fun _ => ((kept_ok.f t192 l1).bind fun _ => ((rturn_all.f l0).bind fun bt211 => ((rback_all.f l0).bind fun bt215 => ((rround_all.f l0 l1).bind fun bt219 => ((same_ok.f t195 bt211.1).bind fun _ => ((same_ok.f bt199.1 bt215.1).bind fun _ => ((same_ok.f bt203.1 bt219.1).bind fun _ => (if (t175 == t179 && (t176 == t180)) = true then (if t177 = t181 then (if t196 = bt211.2 then (if bt199.2 = bt215.2 then (some (bt203.2 == bt219.2)) else (none)) else (none)) else (none)) else (none)))))))))))))) = some r := H
   have A15 := Aside0.mk A150
   clear A150
   replace H := Option.bind_eq_some_iff.mp H
   obtain ⟨⟨t199, t200⟩, A160, H⟩ := H
   replace H : ((round_all.f t189 t192).bind fun bt203 => ((kept_ok.f t183 l0).bind fun _ => ((kept_ok.f t186 l0).bind fun _ => ((kept_ok.f t189 l0).bind fun _ => ((kept_ok.f t192 l1).bind fun _ => ((rturn_all.f l0).bind fun bt211 => ((rback_all.f l0).bind fun bt215 => ((rround_all.f l0 l1).bind fun bt219 => ((same_ok.f t195 bt211.1).bind fun _ => ((same_ok.f t199 bt215.1).bind fun _ => ((same_ok.f bt203.1 bt219.1).bind fun _ => (if (t175 == t179 && (t176 == t180)) = true then (if t177 = t181 then (if t196 = bt211.2 then (if t200 = bt215.2 then (some (bt203.2 == bt219.2)) else (none)) else (none)) else (none)) else (none))))))))))))) = some r := H
   have A16 := Aside0.mk A160
   clear A160
   replace H := Option.bind_eq_some_iff.mp H
   obtain ⟨⟨t203, t204⟩, A170, H⟩ := H
   replace H : ((kept_ok.f t183 l0).bind fun _ => ((kept_ok.f t186 l0).bind fun _ => ((kept_ok.f t189 l0).bind fun _ => ((kept_ok.f t192 l1).bind fun _ => ((rturn_all.f l0).bind fun bt211 => ((rback_all.f l0).bind fun bt215 => ((rround_all.f l0 l1).bind fun bt219 => ((same_ok.f t195 bt211.1).bind fun _ => ((same_ok.f t199 bt215.1).bind fun _ => ((same_ok.f t203 bt219.1).bind fun _ => (if (t175 == t179 && (t176 == t180)) = true then (if t177 = t181 then (if t196 = bt211.2 then (if t200 = bt215.2 then (some (t204 == bt219.2)) else (none)) else (none)) else (none)) else (none)))))))))))) = some r := H
   have A17 := Aside0.mk A170
   clear A170
   replace H := Option.bind_eq_some_iff.mp H
   obtain ⟨_, A180, H⟩ := H
   replace H : ((kept_ok.f t186 l0).bind fun _ => ((kept_ok.f t189 l0).bind fun _ => ((kept_ok.f t192 l1).bind fun _ => ((rturn_all.f l0).bind fun bt211 => ((rback_all.f l0).bind fun bt215 => ((rround_all.f l0 l1).bind fun bt219 => ((same_ok.f t195 bt211.1).bind fun _ => ((same_ok.f t199 bt215.1).bind fun _ => ((same_ok.f t203 bt219.1).bind fun _ => (if (t175 == t179 && (t176 == t180)) = true then (if t177 = t181 then (if t196 = bt211.2 then (if t200 = bt215.2 then (some (t204 == bt219.2)) else (none)) else (none)) else (none)) else (none))))))))))) = some r := H
   have A18 := Aside0.mk A180
   clear A180
   replace H := Option.bind_eq_some_iff.mp H
   obtain ⟨_, A190, H⟩ := H
   replace H : ((kept_ok.f t189 l0).bind fun _ => ((kept_ok.f t192 l1).bind fun _ => ((rturn_all.f l0).bind fun bt211 => ((rback_all.f l0).bind fun bt215 => ((rround_all.f l0 l1).bind fun bt219 => ((same_ok.f t195 bt211.1).bind fun _ => ((same_ok.f t199 bt215.1).bind fun _ => ((same_ok.f t203 bt219.1).bind fun _ => (if (t175 == t179 && (t176 == t180)) = true then (if t177 = t181 then (if t196 = bt211.2 then (if t200 = bt215.2 then (some (t204 == bt219.2)) else (none)) else (none)) else (none)) else (none)))))))))) = some r := H
   have A19 := Aside0.mk A190
   clear A190
   replace H := Option.bind_eq_some_iff.mp H
   obtain ⟨_, A200, H⟩ := H
   replace H : ((kept_ok.f t192 l1).bind fun _ => ((rturn_all.f l0).bind fun bt211 => ((rback_all.f l0).bind fun bt215 => ((rround_all.f l0 l1).bind fun bt219 => ((same_ok.f t195 bt211.1).bind fun _ => ((same_ok.f t199 bt215.1).bind fun _ => ((same_ok.f t203 bt219.1).bind fun _ => (if (t175 == t179 && (t176 == t180)) = true then (if t177 = t181 then (if t196 = bt211.2 then (if t200 = bt215.2 then (some (t204 == bt219.2)) else (none)) else (none)) else (none)) else (none))))))))) = some r := H
   have A20 := Aside0.mk A200
   clear A200
   replace H := Option.bind_eq_some_iff.mp H
   obtain ⟨_, A210, H⟩ := H
   replace H : ((rturn_all.f l0).bind fun bt211 => ((rback_all.f l0).bind fun bt215 => ((rround_all.f l0 l1).bind fun bt219 => ((same_ok.f t195 bt211.1).bind fun _ => ((same_ok.f t199 bt215.1).bind fun _ => ((same_ok.f t203 bt219.1).bind fun _ => (if (t175 == t179 && (t176 == t180)) = true then (if t177 = t181 then (if t196 = bt211.2 then (if t200 = bt215.2 then (some (t204 == bt219.2)) else (none)) else (none)) else (none)) else (none)))))))) = some r := H
   have A21 := Aside0.mk A210
   clear A210
   replace H := Option.bind_eq_some_iff.mp H
   obtain ⟨⟨t211, t212⟩, A220, H⟩ := H
   replace H : ((rback_all.f l0).bind fun bt215 => ((rround_all.f l0 l1).bind fun bt219 => ((same_ok.f t195 t211).bind fun _ => ((same_ok.f t199 bt215.1).bind fun _ => ((same_ok.f t203 bt219.1).bind fun _ => (if (t175 == t179 && (t176 == t180)) = true then (if t177 = t181 then (if t196 = t212 then (if t200 = bt215.2 then (some (t204 == bt219.2)) else (none)) else (none)) else (none)) else (none))))))) = some r := H
   have A22 := Aside0.mk A220
   clear A220
   replace H := Option.bind_eq_some_iff.mp H
   obtain ⟨⟨t215, t216⟩, A230, H⟩ := H
   replace H : ((rround_all.f l0 l1).bind fun bt219 => ((same_ok.f t195 t211).bind fun _ => ((same_ok.f t199 t215).bind fun _ => ((same_ok.f t203 bt219.1).bind fun _ => (if (t175 == t179 && (t176 == t180)) = true then (if t177 = t181 then (if t196 = t212 then (if t200 = t216 then (some (t204 == bt219.2)) else (none)) else (none)) else (none)) else (none)))))) = some r := H
   have A23 := Aside0.mk A230
   clear A230
   replace H := Option.bind_eq_some_iff.mp H
   obtain ⟨⟨t219, t220⟩, A240, H⟩ := H
   replace H : ((same_ok.f t195 t211).bind fun _ => ((same_ok.f t199 t215).bind fun _ => ((same_ok.f t203 t219).bind fun _ => (if (t175 == t179 && (t176 == t180)) = true then (if t177 = t181 then (if t196 = t212 then (if t200 = t216 then (some (t204 == t220)) else (none)) else (none)) else (none)) else (none))))) = some r := H
   have A24 := Aside0.mk A240
   clear A240
   replace H := Option.bind_eq_some_iff.mp H
   obtain ⟨_, A250, H⟩ := H
   replace H : ((same_ok.f t199 t215).bind fun _ => ((same_ok.f t203 t219).bind fun _ => (if (t175 == t179 && (t176 == t180)) = true then (if t177 = t181 then (if t196 = t212 then (if t200 = t216 then (some (t204 == t220)) else (none)) else (none)) else (none)) else (none)))) = some r := H
   have A25 := Aside0.mk A250
   clear A250
   replace H := Option.bind_eq_some_iff.mp H
   obtain ⟨_, A260, H⟩ := H
   replace H : ((same_ok.f t203 t219).bind fun _ => (if (t175 == t179 && (t176 == t180)) = true then (if t177 = t181 then (if t196 = t212 then (if t200 = t216 then (some (t204 == t220)) else (none)) else (none)) else (none)) else (none))) = some r := H
   have A26 := Aside0.mk A260
   clear A260
   replace H := Option.bind_eq_some_iff.mp H
   obtain ⟨_, A270, H⟩ := H
   replace H : (if (t175 == t179 && (t176 == t180)) = true then (if t177 = t181 then (if t196 = t212 then (if t200 = t216 then (some (t204 == t220)) else (none)) else (none)) else (none)) else (none)) = some r := H
   have A27 := Aside0.mk A270
   clear A270
   by_cases c28 : (t175 == t179 && (t176 == t180)) = true
   ·rw [if_pos c28] at H
    have c28b0 : (t175 == t179 && (t176 == t180)) = true := c28
    (try (have c28b1 : decide (t175 = t179 && (t176 == t180)) = true := by simpa using c28))
    (try (have c28b2 : (t175 == t179 && (t176 == t180)) = true := by simpa using c28))
    clear c28
    by_cases c29 : t177 = t181
    ·rw [if_pos c29] at H
     have c29b0 : (t177 == t181) = true := beq_iff_eq.mpr c29
     have c29b1 : (t177 != t181) = false := bne_eq_false_iff_eq.mpr c29
     clear c29
     by_cases c30 : t196 = t212
     ·rw [if_pos c30] at H
      have c30b0 : (t196 == t212) = true := beq_iff_eq.mpr c30
      have c30b1 : (t196 != t212) = false := bne_eq_false_iff_eq.mpr c30
      clear c30
      by_cases c31 : t200 = t216
      ·rw [if_pos c31] at H
       have c31b0 : (t200 == t216) = true := beq_iff_eq.mpr c31
       have c31b1 : (t200 != t216) = false := bne_eq_false_iff_eq.mpr c31
       clear c31
       obtain rfl := Option.some.inj H
       go_enter Try.func5, Try.ntmps5
       go_wp2_with (first | ((with_reducible refine gate_callee (f := 10) rfl ?_); refine goesL_ (some 30) rfl rfl Try.func10 (by kernel_rfl) rfl #[] rfl (by (try simp only [List.map_toArray, List.map_cons, List.map_nil]); first | done | rfl | (simp only [List.length_drop, List.length_take]; rfl)) ?_; (with_reducible refine (awake_ok.calls   _ A4.out).mono ?_); rintro e w32 ⟨rfl, hb⟩; refine ⟨_, rfl, ?_⟩; have n0_ := Aside0.mk (below_step (by repeat (first | (with_reducible first | exact HB.out | apply below_alloc | apply pw_below_drewN | apply below_drew1) | exact HB.out)) hb); clear HB; have HB := n0_; clear n0_; (try clear hb); (try clear hb2); (try clear hk); (try clear hi)) | ((with_reducible refine gate_callee (f := 13) rfl ?_); refine goesL_ (some 46) rfl rfl Try.func13 (by kernel_rfl) rfl #[.int .i64 a2] rfl (by (try simp only [List.map_toArray, List.map_cons, List.map_nil]); first | done | rfl | (simp only [List.length_drop, List.length_take]; rfl)) ?_; (with_reducible refine (root_all.calls a2 t175 t176 t177 _ A9.out).mono ?_); rintro e w33 ⟨rfl, hb⟩; refine ⟨_, rfl, ?_⟩; have n0_ := Aside0.mk (below_step (by repeat (first | (with_reducible first | exact HB.out | apply below_alloc | apply pw_below_drewN | apply below_drew1) | exact HB.out)) hb); clear HB; have HB := n0_; clear n0_; (try clear hb); (try clear hb2); (try clear hk); (try clear hi)) | ((with_reducible refine gate_dst (N := 8) rfl ?_); (try (refine gate_guard (by rfl) ?_; dsimp only)); refine box_event ?hg (N := 8) ?hd (cs := #[.int .i64 0, .int .i64 0]) (t := 26) ?hr ?_; (case hd => rfl); (case hg => rfl); (case hr => first | (go_simp; done) | (go_simp; rfl)); intro gb178 hg w34 hbox hb; have n0_ := Aside0.mk (below_step (by repeat (first | (with_reducible first | exact HB.out | apply below_alloc | apply pw_below_drewN | apply below_drew1) | exact HB.out)) hb); have n1_ := Aside0.mk (hbox); have n2_ := Aside0.mk ((by rw [hg]; exact (below_size (by repeat (first | (with_reducible first | exact HB.out | apply below_alloc | apply pw_below_drewN | apply below_drew1) | exact HB.out))) : w.heap.size ≤ gb178)); have n3_ := Aside0.mk ((by rw [hg]; exact (below_size (by repeat (first | (with_reducible first | exact HB.out | apply below_alloc | apply pw_below_drewN | apply below_drew1) | exact HB.out))) : w.heap.size ≤ gb178)); clear HB; have HB := n0_; have BK178 := n1_; have GW178 := n2_; have GE178 := n3_; clear n0_ n1_ n2_ n3_; clear hb hbox hg; have hcz35_0 : w34.cell? ⟨gb178, 0, none⟩ = some (.int .i64 0) := (blk_cell BK178.out 0).trans rfl; have hcz35_1 : w34.cell? ⟨gb178, 1, none⟩ = some (.int .i64 0) := (blk_cell BK178.out 1).trans rfl; have hfz35_0 := blk_frozen BK178.out 0; have hfz35_1 := blk_frozen BK178.out 1) | ((with_reducible refine gate_callee (f := 18) rfl ?_); refine goesL_ (some 51) rfl rfl Try.func18 (by kernel_rfl) rfl #[.int .i64 a2] rfl (by (try simp only [List.map_toArray, List.map_cons, List.map_nil]); first | done | rfl | (simp only [List.length_drop, List.length_take]; rfl)) ?_; (with_reducible refine (rroot_all.calls a2 t179 t180 t181 _ A10.out).mono ?_); rintro e w36 ⟨rfl, hb⟩; refine ⟨_, rfl, ?_⟩; have n0_ := Aside0.mk (blk_below (g := gb178) (o := .cells #[.int .i64 t175, .int .i64 t176] 26 (0, 0)) (by (with_reducible repeat (first | refine blk_drewN ?_ _ | refine blk_drew ?_ | refine blk_alloc ?_ _)); refine blk_put (cs := #[.int .i64 t175, .int .i64 0]) ?_ 1 _ rfl; (with_reducible repeat (first | refine blk_drewN ?_ _ | refine blk_drew ?_ | refine blk_alloc ?_ _)); refine blk_put (cs := #[.int .i64 0, .int .i64 0]) ?_ 0 _ rfl; (with_reducible repeat (first | refine blk_drewN ?_ _ | refine blk_drew ?_ | refine blk_alloc ?_ _)); exact BK178.out) hb); have n1_ := Aside0.mk (below_step (by repeat (first | (with_reducible first | exact HB.out | apply below_alloc | apply pw_below_drewN | apply below_drew1 | refine below_set ?_ GE178.out) | exact HB.out)) hb); clear BK178; clear HB; have BK178 := n0_; have HB := n1_; clear n0_ n1_; (try clear hb); (try clear hb2); (try clear hk); (try clear hi)) | ((with_reducible refine gate_dst (N := 10) rfl ?_); (try (refine gate_guard (by rfl) ?_; dsimp only)); refine box_event ?hg (N := 10) ?hd (cs := #[.int .i64 0, .int .i64 0]) (t := 26) ?hr ?_; (case hd => rfl); (case hg => rfl); (case hr => first | (go_simp; done) | (go_simp; rfl)); intro gb182 hg w37 hbox hb; have n0_ := Aside0.mk (blk_below (g := gb178) (o := .cells #[.int .i64 t175, .int .i64 t176] 26 (0, 0)) (by (with_reducible repeat (first | refine blk_drewN ?_ _ | refine blk_drew ?_ | refine blk_alloc ?_ _)); exact BK178.out) hb); have n1_ := Aside0.mk (below_step (by repeat (first | (with_reducible first | exact HB.out | apply below_alloc | apply pw_below_drewN | apply below_drew1 | refine below_set ?_ GE178.out) | exact HB.out)) hb); have n2_ := Aside0.mk (hbox); have n3_ := Aside0.mk ((by rw [hg]; exact (below_size (by repeat (first | (with_reducible first | exact HB.out | apply below_alloc | apply pw_below_drewN | apply below_drew1 | refine below_set ?_ GE178.out) | exact HB.out))) : w.heap.size ≤ gb182)); have n4_ := Aside0.mk ((by rw [hg]; exact (below_size (by repeat (first | (with_reducible first | exact HB.out | apply below_alloc | apply pw_below_drewN | apply below_drew1 | refine below_set ?_ GE178.out) | exact HB.out))) : w.heap.size ≤ gb182)); have n5_ := Aside0.mk ((by rw [hg]; exact Nat.ne_of_lt (blk_lt (g := gb178) (o := .cells #[.int .i64 t175, .int .i64 t176] 26 (0, 0)) (by (with_reducible repeat (first | refine blk_drewN ?_ _ | refine blk_drew ?_ | refine blk_alloc ?_ _)); exact BK178.out)) : gb178 ≠ gb182)); have n6_ := Aside0.mk ((by rw [hg]; exact Nat.ne_of_gt (blk_lt (g := gb178) (o := .cells #[.int .i64 t175, .int .i64 t176] 26 (0, 0)) (by (with_reducible repeat (first | refine blk_drewN ?_ _ | refine blk_drew ?_ | refine blk_alloc ?_ _)); exact BK178.out)) : gb182 ≠ gb178)); clear BK178; clear HB; have BK178 := n0_; have HB := n1_; have BK182 := n2_; have GW182 := n3_; have GE182 := n4_; have NB178_182 := n5_; have NB182_178 := n6_; clear n0_ n1_ n2_ n3_ n4_ n5_ n6_; clear hb hbox hg; have hnb38 := NB182_178.out; have hnc38 := NB178_182.out; have hcz39_0 : w37.cell? ⟨gb182, 0, none⟩ = some (.int .i64 0) := (blk_cell BK182.out 0).trans rfl; have hcz39_1 : w37.cell? ⟨gb182, 1, none⟩ = some (.int .i64 0) := (blk_cell BK182.out 1).trans rfl; have hfz39_0 := blk_frozen BK182.out 0; have hfz39_1 := blk_frozen BK182.out 1) | ((with_reducible refine gate_callee (f := 19) rfl ?_); refine goesL_ (some 55) rfl rfl Try.func19 (by kernel_rfl) rfl #[.slice A0 l0.length c0] rfl (by (try simp only [List.map_toArray, List.map_cons, List.map_nil]); first | done | rfl | (simp only [List.length_drop, List.length_take]; rfl)) ?_; (with_reducible refine (lent_ok.calls _ _ l0 t183 _ ?side1 ?side2 A11.out).mono ?_); (case side1 => exact Kd.C_below HR0.out (by repeat (first | (with_reducible first | exact HB.out | apply below_alloc | apply pw_below_drewN | apply below_drew1 | refine below_set ?_ GE178.out | refine below_set ?_ GE182.out) | exact HB.out))); (case side2 => exact HC0.out); rintro e w40 ⟨v184, rfl, ho0, hb⟩; refine ⟨_, rfl, ?_⟩; have n0_ := Aside0.mk (Kd.R_lower (Kd.R_newB (Kd.R_newB ho0 (g := gb178) (o := .cells #[.int .i64 t175, .int .i64 t176] 26 (0, 0)) (by (with_reducible repeat (first | refine blk_drewN ?_ _ | refine blk_drew ?_ | refine blk_alloc ?_ _)); refine blk_far ?_ NB178_182.out _; (with_reducible repeat (first | refine blk_drewN ?_ _ | refine blk_drew ?_ | refine blk_alloc ?_ _)); refine blk_far ?_ NB178_182.out _; (with_reducible repeat (first | refine blk_drewN ?_ _ | refine blk_drew ?_ | refine blk_alloc ?_ _)); exact BK178.out)) (g := gb182) (o := .cells #[.int .i64 t179, .int .i64 t180] 26 (0, 0)) (by (with_reducible repeat (first | refine blk_drewN ?_ _ | refine blk_drew ?_ | refine blk_alloc ?_ _)); refine blk_put (cs := #[.int .i64 t179, .int .i64 0]) ?_ 1 _ rfl; (with_reducible repeat (first | refine blk_drewN ?_ _ | refine blk_drew ?_ | refine blk_alloc ?_ _)); refine blk_put (cs := #[.int .i64 0, .int .i64 0]) ?_ 0 _ rfl; (with_reducible repeat (first | refine blk_drewN ?_ _ | refine blk_drew ?_ | refine blk_alloc ?_ _)); exact BK182.out)) (below_size (by repeat (first | (with_reducible first | exact HB.out | apply below_alloc | apply pw_below_drewN | apply below_drew1 | refine below_set ?_ GE178.out | refine below_set ?_ GE182.out) | exact HB.out)))); have n1_ := Aside0.mk (blk_below (g := gb178) (o := .cells #[.int .i64 t175, .int .i64 t176] 26 (0, 0)) (by (with_reducible repeat (first | refine blk_drewN ?_ _ | refine blk_drew ?_ | refine blk_alloc ?_ _)); refine blk_far ?_ NB178_182.out _; (with_reducible repeat (first | refine blk_drewN ?_ _ | refine blk_drew ?_ | refine blk_alloc ?_ _)); refine blk_far ?_ NB178_182.out _; (with_reducible repeat (first | refine blk_drewN ?_ _ | refine blk_drew ?_ | refine blk_alloc ?_ _)); exact BK178.out) hb); have n2_ := Aside0.mk (blk_below (g := gb182) (o := .cells #[.int .i64 t179, .int .i64 t180] 26 (0, 0)) (by (with_reducible repeat (first | refine blk_drewN ?_ _ | refine blk_drew ?_ | refine blk_alloc ?_ _)); refine blk_put (cs := #[.int .i64 t179, .int .i64 0]) ?_ 1 _ rfl; (with_reducible repeat (first | refine blk_drewN ?_ _ | refine blk_drew ?_ | refine blk_alloc ?_ _)); refine blk_put (cs := #[.int .i64 0, .int .i64 0]) ?_ 0 _ rfl; (with_reducible repeat (first | refine blk_drewN ?_ _ | refine blk_drew ?_ | refine blk_alloc ?_ _)); exact BK182.out) hb); have n3_ := Aside0.mk (below_step (by repeat (first | (with_reducible first | exact HB.out | apply below_alloc | apply pw_below_drewN | apply below_drew1 | refine below_set ?_ GE178.out | refine below_set ?_ GE182.out) | exact HB.out)) hb); clear BK178; clear BK182; clear HB; have HO185 := n0_; have BK178 := n1_; have BK182 := n2_; have HB := n3_; clear n0_ n1_ n2_ n3_; (try clear hb); (try clear hb2); (try clear hk); (try clear hi); (try clear ho0)) | ((with_reducible refine gate_callee (f := 19) rfl ?_); refine goesL_ (some 57) rfl rfl Try.func19 (by kernel_rfl) rfl #[.slice A0 l0.length c0] rfl (by (try simp only [List.map_toArray, List.map_cons, List.map_nil]); first | done | rfl | (simp only [List.length_drop, List.length_take]; rfl)) ?_; (with_reducible refine (lent_ok.calls _ _ l0 t186 _ ?side1 ?side2 A12.out).mono ?_); (case side1 => repeat (first | exact (Kd.C_below HR0.out HB.out) | (with_reducible refine Kd.C_alloc ?_ _) | (with_reducible refine Kd.C_drewN ?_ _) | (with_reducible refine Kd.C_drew ?_))); (case side2 => exact HC0.out); rintro e w41 ⟨v187, rfl, ho0, hb⟩; refine ⟨_, rfl, ?_⟩; have n0_ := Aside0.mk (Kd.R_elder' (by (with_reducible repeat (first | apply Kd.R_alloc | apply Kd.R_drewN | apply Kd.R_drew)); exact HO185.out) (Kd.R_base ho0) hb); have n1_ := Aside0.mk (Kd.R_lower (Kd.R_newB (Kd.R_newB (Kd.R_new' ho0 (Kd.R_lt (by (with_reducible repeat (first | apply Kd.R_alloc | apply Kd.R_drewN | apply Kd.R_drew)); exact HO185.out))) (g := gb178) (o := .cells #[.int .i64 t175, .int .i64 t176] 26 (0, 0)) (by (with_reducible repeat (first | refine blk_drewN ?_ _ | refine blk_drew ?_ | refine blk_alloc ?_ _)); exact BK178.out)) (g := gb182) (o := .cells #[.int .i64 t179, .int .i64 t180] 26 (0, 0)) (by (with_reducible repeat (first | refine blk_drewN ?_ _ | refine blk_drew ?_ | refine blk_alloc ?_ _)); exact BK182.out)) (below_size (by repeat (first | (with_reducible first | exact HB.out | apply below_alloc | apply pw_below_drewN | apply below_drew1 | refine below_set ?_ GE178.out | refine below_set ?_ GE182.out) | exact HB.out)))); have n2_ := Aside0.mk (blk_below (g := gb178) (o := .cells #[.int .i64 t175, .int .i64 t176] 26 (0, 0)) (by (with_reducible repeat (first | refine blk_drewN ?_ _ | refine blk_drew ?_ | refine blk_alloc ?_ _)); exact BK178.out) hb); have n3_ := Aside0.mk (blk_below (g := gb182) (o := .cells #[.int .i64 t179, .int .i64 t180] 26 (0, 0)) (by (with_reducible repeat (first | refine blk_drewN ?_ _ | refine blk_drew ?_ | refine blk_alloc ?_ _)); exact BK182.out) hb); have n4_ := Aside0.mk (below_step (by repeat (first | (with_reducible first | exact HB.out | apply below_alloc | apply pw_below_drewN | apply below_drew1 | refine below_set ?_ GE178.out | refine below_set ?_ GE182.out) | exact HB.out)) hb); clear HO185; clear BK178; clear BK182; clear HB; have HO185 := n0_; have HO188 := n1_; have BK178 := n2_; have BK182 := n3_; have HB := n4_; clear n0_ n1_ n2_ n3_ n4_; (try clear hb); (try clear hb2); (try clear hk); (try clear hi); (try clear ho0)) | ((with_reducible refine gate_callee (f := 19) rfl ?_); refine goesL_ (some 59) rfl rfl Try.func19 (by kernel_rfl) rfl #[.slice A0 l0.length c0] rfl (by (try simp only [List.map_toArray, List.map_cons, List.map_nil]); first | done | rfl | (simp only [List.length_drop, List.length_take]; rfl)) ?_; (with_reducible refine (lent_ok.calls _ _ l0 t189 _ ?side1 ?side2 A13.out).mono ?_); (case side1 => repeat (first | exact (Kd.C_below HR0.out HB.out) | (with_reducible refine Kd.C_alloc ?_ _) | (with_reducible refine Kd.C_drewN ?_ _) | (with_reducible refine Kd.C_drew ?_))); (case side2 => exact HC0.out); rintro e w42 ⟨v190, rfl, ho0, hb⟩; refine ⟨_, rfl, ?_⟩; have n0_ := Aside0.mk (Kd.R_elder' (by (with_reducible repeat (first | apply Kd.R_alloc | apply Kd.R_drewN | apply Kd.R_drew)); exact HO185.out) (Kd.R_base ho0) hb); have n1_ := Aside0.mk (Kd.R_elder' (by (with_reducible repeat (first | apply Kd.R_alloc | apply Kd.R_drewN | apply Kd.R_drew)); exact HO188.out) (Kd.R_base ho0) hb); have n2_ := Aside0.mk (Kd.R_lower (Kd.R_newB (Kd.R_newB (Kd.R_new' (Kd.R_new' ho0 (Kd.R_lt (by (with_reducible repeat (first | apply Kd.R_alloc | apply Kd.R_drewN | apply Kd.R_drew)); exact HO185.out))) (Kd.R_lt (by (with_reducible repeat (first | apply Kd.R_alloc | apply Kd.R_drewN | apply Kd.R_drew)); exact HO188.out))) (g := gb178) (o := .cells #[.int .i64 t175, .int .i64 t176] 26 (0, 0)) (by (with_reducible repeat (first | refine blk_drewN ?_ _ | refine blk_drew ?_ | refine blk_alloc ?_ _)); exact BK178.out)) (g := gb182) (o := .cells #[.int .i64 t179, .int .i64 t180] 26 (0, 0)) (by (with_reducible repeat (first | refine blk_drewN ?_ _ | refine blk_drew ?_ | refine blk_alloc ?_ _)); exact BK182.out)) (below_size (by repeat (first | (with_reducible first | exact HB.out | apply below_alloc | apply pw_below_drewN | apply below_drew1 | refine below_set ?_ GE178.out | refine below_set ?_ GE182.out) | exact HB.out)))); have n3_ := Aside0.mk (blk_below (g := gb178) (o := .cells #[.int .i64 t175, .int .i64 t176] 26 (0, 0)) (by (with_reducible repeat (first | refine blk_drewN ?_ _ | refine blk_drew ?_ | refine blk_alloc ?_ _)); exact BK178.out) hb); have n4_ := Aside0.mk (blk_below (g := gb182) (o := .cells #[.int .i64 t179, .int .i64 t180] 26 (0, 0)) (by (with_reducible repeat (first | refine blk_drewN ?_ _ | refine blk_drew ?_ | refine blk_alloc ?_ _)); exact BK182.out) hb); have n5_ := Aside0.mk (below_step (by repeat (first | (with_reducible first | exact HB.out | apply below_alloc | apply pw_below_drewN | apply below_drew1 | refine below_set ?_ GE178.out | refine below_set ?_ GE182.out) | exact HB.out)) hb); clear HO185; clear HO188; clear BK178; clear BK182; clear HB; have HO185 := n0_; have HO188 := n1_; have HO191 := n2_; have BK178 := n3_; have BK182 := n4_; have HB := n5_; clear n0_ n1_ n2_ n3_ n4_ n5_; (try clear hb); (try clear hb2); (try clear hk); (try clear hi); (try clear ho0)) | ((with_reducible refine gate_callee (f := 19) rfl ?_); refine goesL_ (some 61) rfl rfl Try.func19 (by kernel_rfl) rfl #[.slice A1 l1.length c1] rfl (by (try simp only [List.map_toArray, List.map_cons, List.map_nil]); first | done | rfl | (simp only [List.length_drop, List.length_take]; rfl)) ?_; (with_reducible refine (lent_ok.calls _ _ l1 t192 _ ?side1 ?side2 A14.out).mono ?_); (case side1 => repeat (first | exact (Kd.C_below HR1.out HB.out) | (with_reducible refine Kd.C_alloc ?_ _) | (with_reducible refine Kd.C_drewN ?_ _) | (with_reducible refine Kd.C_drew ?_))); (case side2 => exact HC1.out); rintro e w43 ⟨v193, rfl, ho0, hb⟩; refine ⟨_, rfl, ?_⟩; have n0_ := Aside0.mk (Kd.R_elder' (by (with_reducible repeat (first | apply Kd.R_alloc | apply Kd.R_drewN | apply Kd.R_drew)); exact HO185.out) (Kd.R_base ho0) hb); have n1_ := Aside0.mk (Kd.R_elder' (by (with_reducible repeat (first | apply Kd.R_alloc | apply Kd.R_drewN | apply Kd.R_drew)); exact HO188.out) (Kd.R_base ho0) hb); have n2_ := Aside0.mk (Kd.R_elder' (by (with_reducible repeat (first | apply Kd.R_alloc | apply Kd.R_drewN | apply Kd.R_drew)); exact HO191.out) (Kd.R_base ho0) hb); have n3_ := Aside0.mk (Kd.R_lower (Kd.R_newB (Kd.R_newB (Kd.R_new' (Kd.R_new' (Kd.R_new' ho0 (Kd.R_lt (by (with_reducible repeat (first | apply Kd.R_alloc | apply Kd.R_drewN | apply Kd.R_drew)); exact HO185.out))) (Kd.R_lt (by (with_reducible repeat (first | apply Kd.R_alloc | apply Kd.R_drewN | apply Kd.R_drew)); exact HO188.out))) (Kd.R_lt (by (with_reducible repeat (first | apply Kd.R_alloc | apply Kd.R_drewN | apply Kd.R_drew)); exact HO191.out))) (g := gb178) (o := .cells #[.int .i64 t175, .int .i64 t176] 26 (0, 0)) (by (with_reducible repeat (first | refine blk_drewN ?_ _ | refine blk_drew ?_ | refine blk_alloc ?_ _)); exact BK178.out)) (g := gb182) (o := .cells #[.int .i64 t179, .int .i64 t180] 26 (0, 0)) (by (with_reducible repeat (first | refine blk_drewN ?_ _ | refine blk_drew ?_ | refine blk_alloc ?_ _)); exact BK182.out)) (below_size (by repeat (first | (with_reducible first | exact HB.out | apply below_alloc | apply pw_below_drewN | apply below_drew1 | refine below_set ?_ GE178.out | refine below_set ?_ GE182.out) | exact HB.out)))); have n4_ := Aside0.mk (blk_below (g := gb178) (o := .cells #[.int .i64 t175, .int .i64 t176] 26 (0, 0)) (by (with_reducible repeat (first | refine blk_drewN ?_ _ | refine blk_drew ?_ | refine blk_alloc ?_ _)); exact BK178.out) hb); have n5_ := Aside0.mk (blk_below (g := gb182) (o := .cells #[.int .i64 t179, .int .i64 t180] 26 (0, 0)) (by (with_reducible repeat (first | refine blk_drewN ?_ _ | refine blk_drew ?_ | refine blk_alloc ?_ _)); exact BK182.out) hb); have n6_ := Aside0.mk (below_step (by repeat (first | (with_reducible first | exact HB.out | apply below_alloc | apply pw_below_drewN | apply below_drew1 | refine below_set ?_ GE178.out | refine below_set ?_ GE182.out) | exact HB.out)) hb); clear HO185; clear HO188; clear HO191; clear BK178; clear BK182; clear HB; have HO185 := n0_; have HO188 := n1_; have HO191 := n2_; have HO194 := n3_; have BK178 := n4_; have BK182 := n5_; have HB := n6_; clear n0_ n1_ n2_ n3_ n4_ n5_ n6_; (try clear hb); (try clear hb2); (try clear hk); (try clear hi); (try clear ho0); obtain ⟨Ao44, co44, eo44⟩ := Kd.R_slice HO185.out; subst eo44) | ((with_reducible refine gate_callee (f := 12) rfl ?_); refine goesL_ (some 64) rfl rfl Try.func12 (by kernel_rfl) rfl #[shortV (.slice Ao44 t183.length co44)] rfl (by (try simp only [List.map_toArray, List.map_cons, List.map_nil]); first | done | rfl | (simp only [List.length_drop, List.length_take]; rfl)) ?_; (with_reducible refine (turn_all.calls _ _ t183 t195 t196 _ ?side1 ?side2 A15.out).mono ?_); (case side1 => repeat (first | exact (Kd.R_reads' HO185.out).2.2 | (with_reducible refine Kd.C_alloc ?_ _) | (with_reducible refine Kd.C_drewN ?_ _) | (with_reducible refine Kd.C_drew ?_))); (case side2 => exact (Kd.R_reads' HO185.out).2.1); rintro e w45 ⟨v197, rfl, ho0, hb⟩; refine ⟨_, rfl, ?_⟩; have n0_ := Aside0.mk (Kd.R_elder' (by (with_reducible repeat (first | apply Kd.R_alloc | apply Kd.R_drewN | apply Kd.R_drew)); exact HO185.out) (Kd.R_base ho0) hb); have n1_ := Aside0.mk (Kd.R_elder' (by (with_reducible repeat (first | apply Kd.R_alloc | apply Kd.R_drewN | apply Kd.R_drew)); exact HO188.out) (Kd.R_base ho0) hb); have n2_ := Aside0.mk (Kd.R_elder' (by (with_reducible repeat (first | apply Kd.R_alloc | apply Kd.R_drewN | apply Kd.R_drew)); exact HO191.out) (Kd.R_base ho0) hb); have n3_ := Aside0.mk (Kd.R_elder' (by (with_reducible repeat (first | apply Kd.R_alloc | apply Kd.R_drewN | apply Kd.R_drew)); exact HO194.out) (Kd.R_base ho0) hb); have n4_ := Aside0.mk (Kd.R_lower (Kd.R_newB (Kd.R_newB (Kd.R_new' (Kd.R_new' (Kd.R_new' (Kd.R_new' ho0 (Kd.R_lt (by (with_reducible repeat (first | apply Kd.R_alloc | apply Kd.R_drewN | apply Kd.R_drew)); exact HO185.out))) (Kd.R_lt (by (with_reducible repeat (first | apply Kd.R_alloc | apply Kd.R_drewN | apply Kd.R_drew)); exact HO188.out))) (Kd.R_lt (by (with_reducible repeat (first | apply Kd.R_alloc | apply Kd.R_drewN | apply Kd.R_drew)); exact HO191.out))) (Kd.R_lt (by (with_reducible repeat (first | apply Kd.R_alloc | apply Kd.R_drewN | apply Kd.R_drew)); exact HO194.out))) (g := gb178) (o := .cells #[.int .i64 t175, .int .i64 t176] 26 (0, 0)) (by (with_reducible repeat (first | refine blk_drewN ?_ _ | refine blk_drew ?_ | refine blk_alloc ?_ _)); exact BK178.out)) (g := gb182) (o := .cells #[.int .i64 t179, .int .i64 t180] 26 (0, 0)) (by (with_reducible repeat (first | refine blk_drewN ?_ _ | refine blk_drew ?_ | refine blk_alloc ?_ _)); exact BK182.out)) (below_size (by repeat (first | (with_reducible first | exact HB.out | apply below_alloc | apply pw_below_drewN | apply below_drew1 | refine below_set ?_ GE178.out | refine below_set ?_ GE182.out) | exact HB.out)))); have n5_ := Aside0.mk (blk_below (g := gb178) (o := .cells #[.int .i64 t175, .int .i64 t176] 26 (0, 0)) (by (with_reducible repeat (first | refine blk_drewN ?_ _ | refine blk_drew ?_ | refine blk_alloc ?_ _)); exact BK178.out) hb); have n6_ := Aside0.mk (blk_below (g := gb182) (o := .cells #[.int .i64 t179, .int .i64 t180] 26 (0, 0)) (by (with_reducible repeat (first | refine blk_drewN ?_ _ | refine blk_drew ?_ | refine blk_alloc ?_ _)); exact BK182.out) hb); have n7_ := Aside0.mk (below_step (by repeat (first | (with_reducible first | exact HB.out | apply below_alloc | apply pw_below_drewN | apply below_drew1 | refine below_set ?_ GE178.out | refine below_set ?_ GE182.out) | exact HB.out)) hb); clear HO185; clear HO188; clear HO191; clear HO194; clear BK178; clear BK182; clear HB; have HO185 := n0_; have HO188 := n1_; have HO191 := n2_; have HO194 := n3_; have HO198 := n4_; have BK178 := n5_; have BK182 := n6_; have HB := n7_; clear n0_ n1_ n2_ n3_ n4_ n5_ n6_ n7_; (try clear hb); (try clear hb2); (try clear hk); (try clear hi); (try clear ho0); obtain ⟨Ao46, co46, eo46⟩ := Kd.R_slice HO188.out; subst eo46) | ((with_reducible refine gate_callee (f := 20) rfl ?_); refine goesL_ (some 69) rfl rfl Try.func20 (by kernel_rfl) rfl #[shortV (.slice Ao46 t186.length co46)] rfl (by (try simp only [List.map_toArray, List.map_cons, List.map_nil]); first | done | rfl | (simp only [List.length_drop, List.length_take]; rfl)) ?_; (with_reducible refine (back_all.calls _ _ t186 t199 t200 _ ?side1 ?side2 A16.out).mono ?_); (case side1 => repeat (first | exact (Kd.R_reads' HO188.out).2.2 | (with_reducible refine Kd.C_alloc ?_ _) | (with_reducible refine Kd.C_drewN ?_ _) | (with_reducible refine Kd.C_drew ?_))); (case side2 => exact (Kd.R_reads' HO188.out).2.1); rintro e w47 ⟨v201, rfl, ho0, hb⟩; refine ⟨_, rfl, ?_⟩; have n0_ := Aside0.mk (Kd.R_elder' (by (with_reducible repeat (first | apply Kd.R_alloc | apply Kd.R_drewN | apply Kd.R_drew)); exact HO185.out) (Kd.R_base ho0) hb); have n1_ := Aside0.mk (Kd.R_elder' (by (with_reducible repeat (first | apply Kd.R_alloc | apply Kd.R_drewN | apply Kd.R_drew)); exact HO188.out) (Kd.R_base ho0) hb); have n2_ := Aside0.mk (Kd.R_elder' (by (with_reducible repeat (first | apply Kd.R_alloc | apply Kd.R_drewN | apply Kd.R_drew)); exact HO191.out) (Kd.R_base ho0) hb); have n3_ := Aside0.mk (Kd.R_elder' (by (with_reducible repeat (first | apply Kd.R_alloc | apply Kd.R_drewN | apply Kd.R_drew)); exact HO194.out) (Kd.R_base ho0) hb); have n4_ := Aside0.mk (Kd.R_elder' (by (with_reducible repeat (first | apply Kd.R_alloc | apply Kd.R_drewN | apply Kd.R_drew)); exact HO198.out) (Kd.R_base ho0) hb); have n5_ := Aside0.mk (Kd.R_lower (Kd.R_newB (Kd.R_newB (Kd.R_new' (Kd.R_new' (Kd.R_new' (Kd.R_new' (Kd.R_new' ho0 (Kd.R_lt (by (with_reducible repeat (first | apply Kd.R_alloc | apply Kd.R_drewN | apply Kd.R_drew)); exact HO185.out))) (Kd.R_lt (by (with_reducible repeat (first | apply Kd.R_alloc | apply Kd.R_drewN | apply Kd.R_drew)); exact HO188.out))) (Kd.R_lt (by (with_reducible repeat (first | apply Kd.R_alloc | apply Kd.R_drewN | apply Kd.R_drew)); exact HO191.out))) (Kd.R_lt (by (with_reducible repeat (first | apply Kd.R_alloc | apply Kd.R_drewN | apply Kd.R_drew)); exact HO194.out))) (Kd.R_lt (by (with_reducible repeat (first | apply Kd.R_alloc | apply Kd.R_drewN | apply Kd.R_drew)); exact HO198.out))) (g := gb178) (o := .cells #[.int .i64 t175, .int .i64 t176] 26 (0, 0)) (by (with_reducible repeat (first | refine blk_drewN ?_ _ | refine blk_drew ?_ | refine blk_alloc ?_ _)); exact BK178.out)) (g := gb182) (o := .cells #[.int .i64 t179, .int .i64 t180] 26 (0, 0)) (by (with_reducible repeat (first | refine blk_drewN ?_ _ | refine blk_drew ?_ | refine blk_alloc ?_ _)); exact BK182.out)) (below_size (by repeat (first | (with_reducible first | exact HB.out | apply below_alloc | apply pw_below_drewN | apply below_drew1 | refine below_set ?_ GE178.out | refine below_set ?_ GE182.out) | exact HB.out)))); have n6_ := Aside0.mk (blk_below (g := gb178) (o := .cells #[.int .i64 t175, .int .i64 t176] 26 (0, 0)) (by (with_reducible repeat (first | refine blk_drewN ?_ _ | refine blk_drew ?_ | refine blk_alloc ?_ _)); exact BK178.out) hb); have n7_ := Aside0.mk (blk_below (g := gb182) (o := .cells #[.int .i64 t179, .int .i64 t180] 26 (0, 0)) (by (with_reducible repeat (first | refine blk_drewN ?_ _ | refine blk_drew ?_ | refine blk_alloc ?_ _)); exact BK182.out) hb); have n8_ := Aside0.mk (below_step (by repeat (first | (with_reducible first | exact HB.out | apply below_alloc | apply pw_below_drewN | apply below_drew1 | refine below_set ?_ GE178.out | refine below_set ?_ GE182.out) | exact HB.out)) hb); clear HO185; clear HO188; clear HO191; clear HO194; clear HO198; clear BK178; clear BK182; clear HB; have HO185 := n0_; have HO188 := n1_; have HO191 := n2_; have HO194 := n3_; have HO198 := n4_; have HO202 := n5_; have BK178 := n6_; have BK182 := n7_; have HB := n8_; clear n0_ n1_ n2_ n3_ n4_ n5_ n6_ n7_ n8_; (try clear hb); (try clear hb2); (try clear hk); (try clear hi); (try clear ho0); obtain ⟨Ao48, co48, eo48⟩ := Kd.R_slice HO191.out; subst eo48; obtain ⟨Ao49, co49, eo49⟩ := Kd.R_slice HO194.out; subst eo49) | ((with_reducible refine gate_callee (f := 16) rfl ?_); refine goesL_ (some 75) rfl rfl Try.func16 (by kernel_rfl) rfl #[shortV (.slice Ao48 t189.length co48), shortV (.slice Ao49 t192.length co49)] rfl (by (try simp only [List.map_toArray, List.map_cons, List.map_nil]); first | done | rfl | (simp only [List.length_drop, List.length_take]; rfl)) ?_; (with_reducible refine (round_all.calls _ _ t189 _ _ t192 t203 t204 _ ?side1 ?side2 ?side3 ?side4 A17.out).mono ?_); (case side1 => repeat (first | exact (Kd.R_reads' HO191.out).2.2 | (with_reducible refine Kd.C_alloc ?_ _) | (with_reducible refine Kd.C_drewN ?_ _) | (with_reducible refine Kd.C_drew ?_))); (case side2 => exact (Kd.R_reads' HO191.out).2.1); (case side3 => repeat (first | exact (Kd.R_reads' HO194.out).2.2 | (with_reducible refine Kd.C_alloc ?_ _) | (with_reducible refine Kd.C_drewN ?_ _) | (with_reducible refine Kd.C_drew ?_))); (case side4 => exact (Kd.R_reads' HO194.out).2.1); rintro e w50 ⟨v205, rfl, ho0, hb⟩; refine ⟨_, rfl, ?_⟩; have n0_ := Aside0.mk (Kd.R_elder' (by (with_reducible repeat (first | apply Kd.R_alloc | apply Kd.R_drewN | apply Kd.R_drew)); exact HO185.out) (Kd.R_base ho0) hb); have n1_ := Aside0.mk (Kd.R_elder' (by (with_reducible repeat (first | apply Kd.R_alloc | apply Kd.R_drewN | apply Kd.R_drew)); exact HO188.out) (Kd.R_base ho0) hb); have n2_ := Aside0.mk (Kd.R_elder' (by (with_reducible repeat (first | apply Kd.R_alloc | apply Kd.R_drewN | apply Kd.R_drew)); exact HO191.out) (Kd.R_base ho0) hb); have n3_ := Aside0.mk (Kd.R_elder' (by (with_reducible repeat (first | apply Kd.R_alloc | apply Kd.R_drewN | apply Kd.R_drew)); exact HO194.out) (Kd.R_base ho0) hb); have n4_ := Aside0.mk (Kd.R_elder' (by (with_reducible repeat (first | apply Kd.R_alloc | apply Kd.R_drewN | apply Kd.R_drew)); exact HO198.out) (Kd.R_base ho0) hb); have n5_ := Aside0.mk (Kd.R_elder' (by (with_reducible repeat (first | apply Kd.R_alloc | apply Kd.R_drewN | apply Kd.R_drew)); exact HO202.out) (Kd.R_base ho0) hb); have n6_ := Aside0.mk (Kd.R_lower (Kd.R_newB (Kd.R_newB (Kd.R_new' (Kd.R_new' (Kd.R_new' (Kd.R_new' (Kd.R_new' (Kd.R_new' ho0 (Kd.R_lt (by (with_reducible repeat (first | apply Kd.R_alloc | apply Kd.R_drewN | apply Kd.R_drew)); exact HO185.out))) (Kd.R_lt (by (with_reducible repeat (first | apply Kd.R_alloc | apply Kd.R_drewN | apply Kd.R_drew)); exact HO188.out))) (Kd.R_lt (by (with_reducible repeat (first | apply Kd.R_alloc | apply Kd.R_drewN | apply Kd.R_drew)); exact HO191.out))) (Kd.R_lt (by (with_reducible repeat (first | apply Kd.R_alloc | apply Kd.R_drewN | apply Kd.R_drew)); exact HO194.out))) (Kd.R_lt (by (with_reducible repeat (first | apply Kd.R_alloc | apply Kd.R_drewN | apply Kd.R_drew)); exact HO198.out))) (Kd.R_lt (by (with_reducible repeat (first | apply Kd.R_alloc | apply Kd.R_drewN | apply Kd.R_drew)); exact HO202.out))) (g := gb178) (o := .cells #[.int .i64 t175, .int .i64 t176] 26 (0, 0)) (by (with_reducible repeat (first | refine blk_drewN ?_ _ | refine blk_drew ?_ | refine blk_alloc ?_ _)); exact BK178.out)) (g := gb182) (o := .cells #[.int .i64 t179, .int .i64 t180] 26 (0, 0)) (by (with_reducible repeat (first | refine blk_drewN ?_ _ | refine blk_drew ?_ | refine blk_alloc ?_ _)); exact BK182.out)) (below_size (by repeat (first | (with_reducible first | exact HB.out | apply below_alloc | apply pw_below_drewN | apply below_drew1 | refine below_set ?_ GE178.out | refine below_set ?_ GE182.out) | exact HB.out)))); have n7_ := Aside0.mk (blk_below (g := gb178) (o := .cells #[.int .i64 t175, .int .i64 t176] 26 (0, 0)) (by (with_reducible repeat (first | refine blk_drewN ?_ _ | refine blk_drew ?_ | refine blk_alloc ?_ _)); exact BK178.out) hb); have n8_ := Aside0.mk (blk_below (g := gb182) (o := .cells #[.int .i64 t179, .int .i64 t180] 26 (0, 0)) (by (with_reducible repeat (first | refine blk_drewN ?_ _ | refine blk_drew ?_ | refine blk_alloc ?_ _)); exact BK182.out) hb); have n9_ := Aside0.mk (below_step (by repeat (first | (with_reducible first | exact HB.out | apply below_alloc | apply pw_below_drewN | apply below_drew1 | refine below_set ?_ GE178.out | refine below_set ?_ GE182.out) | exact HB.out)) hb); clear HO185; clear HO188; clear HO191; clear HO194; clear HO198; clear HO202; clear BK178; clear BK182; clear HB; have HO185 := n0_; have HO188 := n1_; have HO191 := n2_; have HO194 := n3_; have HO198 := n4_; have HO202 := n5_; have HO206 := n6_; have BK178 := n7_; have BK182 := n8_; have HB := n9_; clear n0_ n1_ n2_ n3_ n4_ n5_ n6_ n7_ n8_ n9_; (try clear hb); (try clear hb2); (try clear hk); (try clear hi); (try clear ho0)) | ((with_reducible refine gate_callee (f := 21) rfl ?_); refine goesL_ (some 80) rfl rfl Try.func21 (by kernel_rfl) rfl #[shortV (.slice Ao44 t183.length co44), .slice A0 l0.length c0] rfl (by (try simp only [List.map_toArray, List.map_cons, List.map_nil]); first | done | rfl | (simp only [List.length_drop, List.length_take]; rfl)) ?_; (with_reducible refine (kept_ok.calls (fun k_ => some k_ = (.slice Ao44 t183.length co44 : Value).ownBlock) (.slice Ao44 t183.length co44) t183 _ _ l0  w _ ?side1 ?side2 ?side3 ?side4 A18.out).mono ?_); (case side1 => repeat (first | (with_reducible first | exact HB.out | apply below_alloc | apply pw_below_drewN | apply below_drew1 | refine below_set ?_ GE178.out | refine below_set ?_ GE182.out) | exact HB.out)); (case side2 => exact Kd.R_tight rfl HO185.out); (case side3 => exact Kd.C_kept_came k26_heap HR0.out (by repeat (first | (with_reducible first | exact HB.out | apply below_alloc | apply pw_below_drewN | apply below_drew1 | refine below_set ?_ GE178.out | refine below_set ?_ GE182.out) | exact HB.out)) (fun k_ hs_ => (fun e_ => Kd.R_base HO185.out k_ e_.symm) hs_)); (case side4 => exact HC0.out); rintro e w51 ⟨rfl, hb, hkp⟩; refine ⟨_, rfl, ?_⟩; have n0_ := Aside0.mk (blk_kept (by (with_reducible repeat (first | refine blk_drewN ?_ _ | refine blk_drew ?_ | refine blk_alloc ?_ _)); exact BK178.out) hkp (fun hs_ => (fun e_ => (Kd.R_away HO185.out (fun _ hk => hk.1.1.1.1.1.1.1.2)) e_) hs_)); have n1_ := Aside0.mk (blk_kept (by (with_reducible repeat (first | refine blk_drewN ?_ _ | refine blk_drew ?_ | refine blk_alloc ?_ _)); exact BK182.out) hkp (fun hs_ => (fun e_ => (Kd.R_away HO185.out (fun _ hk => hk.1.1.1.1.1.1.2)) e_) hs_)); have n2_ := Aside0.mk (Kd.R_mono (ok' := fun k_ => some k_ ≠ (.slice Ao48 t189.length co48 : Value).ownBlock ∧ some k_ ≠ (.slice Ao49 t192.length co49 : Value).ownBlock ∧ some k_ ≠ (v197 : Value).ownBlock ∧ some k_ ≠ (v201 : Value).ownBlock ∧ some k_ ≠ (v205 : Value).ownBlock ∧ k_ ≠ gb178 ∧ k_ ≠ gb182) (Kd.R_keptB (HO188.out) hkp (fun k_ hk_ hs_ => (hk_.1.1.1.1.1.1.1.2) hs_)) (fun k_ hk_ => ⟨hk_.1.1.1.1.1.2, hk_.1.1.1.1.2, hk_.1.1.1.2, hk_.1.1.2, hk_.1.2, hk_.1.1.1.1.1.1.1.2, hk_.1.1.1.1.1.1.2⟩)); have n3_ := Aside0.mk (Kd.R_mono (ok' := fun k_ => some k_ ≠ (.slice Ao46 t186.length co46 : Value).ownBlock ∧ some k_ ≠ (.slice Ao49 t192.length co49 : Value).ownBlock ∧ some k_ ≠ (v197 : Value).ownBlock ∧ some k_ ≠ (v201 : Value).ownBlock ∧ some k_ ≠ (v205 : Value).ownBlock ∧ k_ ≠ gb178 ∧ k_ ≠ gb182) (Kd.R_keptB (HO191.out) hkp (fun k_ hk_ hs_ => (hk_.1.1.1.1.1.1.1.2) hs_)) (fun k_ hk_ => ⟨hk_.1.1.1.1.1.1.1.2, hk_.1.1.1.1.2, hk_.1.1.1.2, hk_.1.1.2, hk_.1.2, hk_.1.1.1.1.1.1.2, hk_.1.1.1.1.1.2⟩)); have n4_ := Aside0.mk (Kd.R_mono (ok' := fun k_ => some k_ ≠ (.slice Ao46 t186.length co46 : Value).ownBlock ∧ some k_ ≠ (.slice Ao48 t189.length co48 : Value).ownBlock ∧ some k_ ≠ (v197 : Value).ownBlock ∧ some k_ ≠ (v201 : Value).ownBlock ∧ some k_ ≠ (v205 : Value).ownBlock ∧ k_ ≠ gb178 ∧ k_ ≠ gb182) (Kd.R_keptB (HO194.out) hkp (fun k_ hk_ hs_ => (hk_.1.1.1.1.1.1.1.2) hs_)) (fun k_ hk_ => ⟨hk_.1.1.1.1.1.1.1.2, hk_.1.1.1.1.1.1.2, hk_.1.1.1.2, hk_.1.1.2, hk_.1.2, hk_.1.1.1.1.1.2, hk_.1.1.1.1.2⟩)); have n5_ := Aside0.mk (Kd.R_mono (ok' := fun k_ => some k_ ≠ (.slice Ao46 t186.length co46 : Value).ownBlock ∧ some k_ ≠ (.slice Ao48 t189.length co48 : Value).ownBlock ∧ some k_ ≠ (.slice Ao49 t192.length co49 : Value).ownBlock ∧ some k_ ≠ (v201 : Value).ownBlock ∧ some k_ ≠ (v205 : Value).ownBlock ∧ k_ ≠ gb178 ∧ k_ ≠ gb182) (Kd.R_keptB (HO198.out) hkp (fun k_ hk_ hs_ => (hk_.1.1.1.1.1.1.1.2) hs_)) (fun k_ hk_ => ⟨hk_.1.1.1.1.1.1.1.2, hk_.1.1.1.1.1.1.2, hk_.1.1.1.1.1.2, hk_.1.1.2, hk_.1.2, hk_.1.1.1.1.2, hk_.1.1.1.2⟩)); have n6_ := Aside0.mk (Kd.R_mono (ok' := fun k_ => some k_ ≠ (.slice Ao46 t186.length co46 : Value).ownBlock ∧ some k_ ≠ (.slice Ao48 t189.length co48 : Value).ownBlock ∧ some k_ ≠ (.slice Ao49 t192.length co49 : Value).ownBlock ∧ some k_ ≠ (v197 : Value).ownBlock ∧ some k_ ≠ (v205 : Value).ownBlock ∧ k_ ≠ gb178 ∧ k_ ≠ gb182) (Kd.R_keptB (HO202.out) hkp (fun k_ hk_ hs_ => (hk_.1.1.1.1.1.1.1.2) hs_)) (fun k_ hk_ => ⟨hk_.1.1.1.1.1.1.1.2, hk_.1.1.1.1.1.1.2, hk_.1.1.1.1.1.2, hk_.1.1.1.1.2, hk_.1.2, hk_.1.1.1.2, hk_.1.1.2⟩)); have n7_ := Aside0.mk (Kd.R_mono (ok' := fun k_ => some k_ ≠ (.slice Ao46 t186.length co46 : Value).ownBlock ∧ some k_ ≠ (.slice Ao48 t189.length co48 : Value).ownBlock ∧ some k_ ≠ (.slice Ao49 t192.length co49 : Value).ownBlock ∧ some k_ ≠ (v197 : Value).ownBlock ∧ some k_ ≠ (v201 : Value).ownBlock ∧ k_ ≠ gb178 ∧ k_ ≠ gb182) (Kd.R_keptB (HO206.out) hkp (fun k_ hk_ hs_ => (hk_.1.1.1.1.1.1.1.2) hs_)) (fun k_ hk_ => ⟨hk_.1.1.1.1.1.1.1.2, hk_.1.1.1.1.1.1.2, hk_.1.1.1.1.1.2, hk_.1.1.1.1.2, hk_.1.1.1.2, hk_.1.1.2, hk_.1.2⟩)); have n8_ := Aside0.mk (hb); clear BK178; clear BK182; clear HO188; clear HO191; clear HO194; clear HO198; clear HO202; clear HO206; clear HB; clear HO185; have BK178 := n0_; have BK182 := n1_; have HO188 := n2_; have HO191 := n3_; have HO194 := n4_; have HO198 := n5_; have HO202 := n6_; have HO206 := n7_; have HB := n8_; clear n0_ n1_ n2_ n3_ n4_ n5_ n6_ n7_ n8_; (try clear hb); (try clear hkp)) | (go_at_call 21; (with_reducible refine (kept_ok.calls (fun k_ => some k_ = (.slice Ao46 t186.length co46 : Value).ownBlock) (.slice Ao46 t186.length co46) t186 _ _ l0  w _ ?side1 ?side2 ?side3 ?side4 A19.out).mono ?_); (case side1 => repeat (first | (with_reducible first | exact HB.out | apply below_alloc | apply pw_below_drewN | apply below_drew1 | refine below_set ?_ GE178.out | refine below_set ?_ GE182.out) | exact HB.out)); (case side2 => exact Kd.R_tight rfl HO188.out); (case side3 => exact Kd.C_kept_came k26_heap HR0.out (by repeat (first | (with_reducible first | exact HB.out | apply below_alloc | apply pw_below_drewN | apply below_drew1 | refine below_set ?_ GE178.out | refine below_set ?_ GE182.out) | exact HB.out)) (fun k_ hs_ => (fun e_ => Kd.R_base HO188.out k_ e_.symm) hs_)); (case side4 => exact HC0.out); rintro e w52 ⟨rfl, hb, hkp⟩; have n0_ := Aside0.mk (blk_kept (by (with_reducible repeat (first | refine blk_drewN ?_ _ | refine blk_drew ?_ | refine blk_alloc ?_ _)); exact BK178.out) hkp (fun hs_ => (fun e_ => (Kd.R_away HO188.out (fun _ hk => hk.2.2.2.2.2.1)) e_) hs_)); have n1_ := Aside0.mk (blk_kept (by (with_reducible repeat (first | refine blk_drewN ?_ _ | refine blk_drew ?_ | refine blk_alloc ?_ _)); exact BK182.out) hkp (fun hs_ => (fun e_ => (Kd.R_away HO188.out (fun _ hk => hk.2.2.2.2.2.2)) e_) hs_)); have n2_ := Aside0.mk (Kd.R_mono (ok' := fun k_ => some k_ ≠ (.slice Ao49 t192.length co49 : Value).ownBlock ∧ some k_ ≠ (v197 : Value).ownBlock ∧ some k_ ≠ (v201 : Value).ownBlock ∧ some k_ ≠ (v205 : Value).ownBlock ∧ k_ ≠ gb178 ∧ k_ ≠ gb182) (Kd.R_keptB (HO191.out) hkp (fun k_ hk_ hs_ => (hk_.1) hs_)) (fun k_ hk_ => ⟨hk_.1.2.1, hk_.1.2.2.1, hk_.1.2.2.2.1, hk_.1.2.2.2.2.1, hk_.1.2.2.2.2.2.1, hk_.1.2.2.2.2.2.2⟩)); have n3_ := Aside0.mk (Kd.R_mono (ok' := fun k_ => some k_ ≠ (.slice Ao48 t189.length co48 : Value).ownBlock ∧ some k_ ≠ (v197 : Value).ownBlock ∧ some k_ ≠ (v201 : Value).ownBlock ∧ some k_ ≠ (v205 : Value).ownBlock ∧ k_ ≠ gb178 ∧ k_ ≠ gb182) (Kd.R_keptB (HO194.out) hkp (fun k_ hk_ hs_ => (hk_.1) hs_)) (fun k_ hk_ => ⟨hk_.1.2.1, hk_.1.2.2.1, hk_.1.2.2.2.1, hk_.1.2.2.2.2.1, hk_.1.2.2.2.2.2.1, hk_.1.2.2.2.2.2.2⟩)); have n4_ := Aside0.mk (Kd.R_mono (ok' := fun k_ => some k_ ≠ (.slice Ao48 t189.length co48 : Value).ownBlock ∧ some k_ ≠ (.slice Ao49 t192.length co49 : Value).ownBlock ∧ some k_ ≠ (v201 : Value).ownBlock ∧ some k_ ≠ (v205 : Value).ownBlock ∧ k_ ≠ gb178 ∧ k_ ≠ gb182) (Kd.R_keptB (HO198.out) hkp (fun k_ hk_ hs_ => (hk_.1) hs_)) (fun k_ hk_ => ⟨hk_.1.2.1, hk_.1.2.2.1, hk_.1.2.2.2.1, hk_.1.2.2.2.2.1, hk_.1.2.2.2.2.2.1, hk_.1.2.2.2.2.2.2⟩)); have n5_ := Aside0.mk (Kd.R_mono (ok' := fun k_ => some k_ ≠ (.slice Ao48 t189.length co48 : Value).ownBlock ∧ some k_ ≠ (.slice Ao49 t192.length co49 : Value).ownBlock ∧ some k_ ≠ (v197 : Value).ownBlock ∧ some k_ ≠ (v205 : Value).ownBlock ∧ k_ ≠ gb178 ∧ k_ ≠ gb182) (Kd.R_keptB (HO202.out) hkp (fun k_ hk_ hs_ => (hk_.1) hs_)) (fun k_ hk_ => ⟨hk_.1.2.1, hk_.1.2.2.1, hk_.1.2.2.2.1, hk_.1.2.2.2.2.1, hk_.1.2.2.2.2.2.1, hk_.1.2.2.2.2.2.2⟩)); have n6_ := Aside0.mk (Kd.R_mono (ok' := fun k_ => some k_ ≠ (.slice Ao48 t189.length co48 : Value).ownBlock ∧ some k_ ≠ (.slice Ao49 t192.length co49 : Value).ownBlock ∧ some k_ ≠ (v197 : Value).ownBlock ∧ some k_ ≠ (v201 : Value).ownBlock ∧ k_ ≠ gb178 ∧ k_ ≠ gb182) (Kd.R_keptB (HO206.out) hkp (fun k_ hk_ hs_ => (hk_.1) hs_)) (fun k_ hk_ => ⟨hk_.1.2.1, hk_.1.2.2.1, hk_.1.2.2.2.1, hk_.1.2.2.2.2.1, hk_.1.2.2.2.2.2.1, hk_.1.2.2.2.2.2.2⟩)); have n7_ := Aside0.mk (hb); clear BK178; clear BK182; clear HO191; clear HO194; clear HO198; clear HO202; clear HO206; clear HB; clear HO188; have BK178 := n0_; have BK182 := n1_; have HO191 := n2_; have HO194 := n3_; have HO198 := n4_; have HO202 := n5_; have HO206 := n6_; have HB := n7_; clear n0_ n1_ n2_ n3_ n4_ n5_ n6_ n7_; (try clear hb); (try clear hkp)) | (go_at_call 21; (with_reducible refine (kept_ok.calls (fun k_ => some k_ = (.slice Ao48 t189.length co48 : Value).ownBlock) (.slice Ao48 t189.length co48) t189 _ _ l0  w _ ?side1 ?side2 ?side3 ?side4 A20.out).mono ?_); (case side1 => repeat (first | (with_reducible first | exact HB.out | apply below_alloc | apply pw_below_drewN | apply below_drew1 | refine below_set ?_ GE178.out | refine below_set ?_ GE182.out) | exact HB.out)); (case side2 => exact Kd.R_tight rfl HO191.out); (case side3 => exact Kd.C_kept_came k26_heap HR0.out (by repeat (first | (with_reducible first | exact HB.out | apply below_alloc | apply pw_below_drewN | apply below_drew1 | refine below_set ?_ GE178.out | refine below_set ?_ GE182.out) | exact HB.out)) (fun k_ hs_ => (fun e_ => Kd.R_base HO191.out k_ e_.symm) hs_)); (case side4 => exact HC0.out); rintro e w53 ⟨rfl, hb, hkp⟩; have n0_ := Aside0.mk (blk_kept (by (with_reducible repeat (first | refine blk_drewN ?_ _ | refine blk_drew ?_ | refine blk_alloc ?_ _)); exact BK178.out) hkp (fun hs_ => (fun e_ => (Kd.R_away HO191.out (fun _ hk => hk.2.2.2.2.1)) e_) hs_)); have n1_ := Aside0.mk (blk_kept (by (with_reducible repeat (first | refine blk_drewN ?_ _ | refine blk_drew ?_ | refine blk_alloc ?_ _)); exact BK182.out) hkp (fun hs_ => (fun e_ => (Kd.R_away HO191.out (fun _ hk => hk.2.2.2.2.2)) e_) hs_)); have n2_ := Aside0.mk (Kd.R_mono (ok' := fun k_ => some k_ ≠ (v197 : Value).ownBlock ∧ some k_ ≠ (v201 : Value).ownBlock ∧ some k_ ≠ (v205 : Value).ownBlock ∧ k_ ≠ gb178 ∧ k_ ≠ gb182) (Kd.R_keptB (HO194.out) hkp (fun k_ hk_ hs_ => (hk_.1) hs_)) (fun k_ hk_ => ⟨hk_.1.2.1, hk_.1.2.2.1, hk_.1.2.2.2.1, hk_.1.2.2.2.2.1, hk_.1.2.2.2.2.2⟩)); have n3_ := Aside0.mk (Kd.R_mono (ok' := fun k_ => some k_ ≠ (.slice Ao49 t192.length co49 : Value).ownBlock ∧ some k_ ≠ (v201 : Value).ownBlock ∧ some k_ ≠ (v205 : Value).ownBlock ∧ k_ ≠ gb178 ∧ k_ ≠ gb182) (Kd.R_keptB (HO198.out) hkp (fun k_ hk_ hs_ => (hk_.1) hs_)) (fun k_ hk_ => ⟨hk_.1.2.1, hk_.1.2.2.1, hk_.1.2.2.2.1, hk_.1.2.2.2.2.1, hk_.1.2.2.2.2.2⟩)); have n4_ := Aside0.mk (Kd.R_mono (ok' := fun k_ => some k_ ≠ (.slice Ao49 t192.length co49 : Value).ownBlock ∧ some k_ ≠ (v197 : Value).ownBlock ∧ some k_ ≠ (v205 : Value).ownBlock ∧ k_ ≠ gb178 ∧ k_ ≠ gb182) (Kd.R_keptB (HO202.out) hkp (fun k_ hk_ hs_ => (hk_.1) hs_)) (fun k_ hk_ => ⟨hk_.1.2.1, hk_.1.2.2.1, hk_.1.2.2.2.1, hk_.1.2.2.2.2.1, hk_.1.2.2.2.2.2⟩)); have n5_ := Aside0.mk (Kd.R_mono (ok' := fun k_ => some k_ ≠ (.slice Ao49 t192.length co49 : Value).ownBlock ∧ some k_ ≠ (v197 : Value).ownBlock ∧ some k_ ≠ (v201 : Value).ownBlock ∧ k_ ≠ gb178 ∧ k_ ≠ gb182) (Kd.R_keptB (HO206.out) hkp (fun k_ hk_ hs_ => (hk_.1) hs_)) (fun k_ hk_ => ⟨hk_.1.2.1, hk_.1.2.2.1, hk_.1.2.2.2.1, hk_.1.2.2.2.2.1, hk_.1.2.2.2.2.2⟩)); have n6_ := Aside0.mk (hb); clear BK178; clear BK182; clear HO194; clear HO198; clear HO202; clear HO206; clear HB; clear HO191; have BK178 := n0_; have BK182 := n1_; have HO194 := n2_; have HO198 := n3_; have HO202 := n4_; have HO206 := n5_; have HB := n6_; clear n0_ n1_ n2_ n3_ n4_ n5_ n6_; (try clear hb); (try clear hkp)) | (go_at_call 21; (with_reducible refine (kept_ok.calls (fun k_ => some k_ = (.slice Ao49 t192.length co49 : Value).ownBlock) (.slice Ao49 t192.length co49) t192 _ _ l1  w _ ?side1 ?side2 ?side3 ?side4 A21.out).mono ?_); (case side1 => repeat (first | (with_reducible first | exact HB.out | apply below_alloc | apply pw_below_drewN | apply below_drew1 | refine below_set ?_ GE178.out | refine below_set ?_ GE182.out) | exact HB.out)); (case side2 => exact Kd.R_tight rfl HO194.out); (case side3 => exact Kd.C_kept_came k26_heap HR1.out (by repeat (first | (with_reducible first | exact HB.out | apply below_alloc | apply pw_below_drewN | apply below_drew1 | refine below_set ?_ GE178.out | refine below_set ?_ GE182.out) | exact HB.out)) (fun k_ hs_ => (fun e_ => Kd.R_base HO194.out k_ e_.symm) hs_)); (case side4 => exact HC1.out); rintro e w54 ⟨rfl, hb, hkp⟩; have n0_ := Aside0.mk (blk_kept (by (with_reducible repeat (first | refine blk_drewN ?_ _ | refine blk_drew ?_ | refine blk_alloc ?_ _)); exact BK178.out) hkp (fun hs_ => (fun e_ => (Kd.R_away HO194.out (fun _ hk => hk.2.2.2.1)) e_) hs_)); have n1_ := Aside0.mk (blk_kept (by (with_reducible repeat (first | refine blk_drewN ?_ _ | refine blk_drew ?_ | refine blk_alloc ?_ _)); exact BK182.out) hkp (fun hs_ => (fun e_ => (Kd.R_away HO194.out (fun _ hk => hk.2.2.2.2)) e_) hs_)); have n2_ := Aside0.mk (Kd.R_mono (ok' := fun k_ => some k_ ≠ (v201 : Value).ownBlock ∧ some k_ ≠ (v205 : Value).ownBlock ∧ k_ ≠ gb178 ∧ k_ ≠ gb182) (Kd.R_keptB (HO198.out) hkp (fun k_ hk_ hs_ => (hk_.1) hs_)) (fun k_ hk_ => ⟨hk_.1.2.1, hk_.1.2.2.1, hk_.1.2.2.2.1, hk_.1.2.2.2.2⟩)); have n3_ := Aside0.mk (Kd.R_mono (ok' := fun k_ => some k_ ≠ (v197 : Value).ownBlock ∧ some k_ ≠ (v205 : Value).ownBlock ∧ k_ ≠ gb178 ∧ k_ ≠ gb182) (Kd.R_keptB (HO202.out) hkp (fun k_ hk_ hs_ => (hk_.1) hs_)) (fun k_ hk_ => ⟨hk_.1.2.1, hk_.1.2.2.1, hk_.1.2.2.2.1, hk_.1.2.2.2.2⟩)); have n4_ := Aside0.mk (Kd.R_mono (ok' := fun k_ => some k_ ≠ (v197 : Value).ownBlock ∧ some k_ ≠ (v201 : Value).ownBlock ∧ k_ ≠ gb178 ∧ k_ ≠ gb182) (Kd.R_keptB (HO206.out) hkp (fun k_ hk_ hs_ => (hk_.1) hs_)) (fun k_ hk_ => ⟨hk_.1.2.1, hk_.1.2.2.1, hk_.1.2.2.2.1, hk_.1.2.2.2.2⟩)); have n5_ := Aside0.mk (hb); clear BK178; clear BK182; clear HO198; clear HO202; clear HO206; clear HB; clear HO194; have BK178 := n0_; have BK182 := n1_; have HO198 := n2_; have HO202 := n3_; have HO206 := n4_; have HB := n5_; clear n0_ n1_ n2_ n3_ n4_ n5_; (try clear hb); (try clear hkp)) | ((with_reducible refine gate_callee (f := 22) rfl ?_); refine goesL_ (some 98) rfl rfl Try.func22 (by kernel_rfl) rfl #[.slice A0 l0.length c0] rfl (by (try simp only [List.map_toArray, List.map_cons, List.map_nil]); first | done | rfl | (simp only [List.length_drop, List.length_take]; rfl)) ?_; (with_reducible refine (rturn_all.calls _ _ l0 t211 t212 _ ?side1 ?side2 A22.out).mono ?_); (case side1 => repeat (first | exact (Kd.C_below HR0.out HB.out) | (with_reducible refine Kd.C_alloc ?_ _) | (with_reducible refine Kd.C_drewN ?_ _) | (with_reducible refine Kd.C_drew ?_))); (case side2 => exact HC0.out); rintro e w55 ⟨v213, rfl, ho0, hb⟩; refine ⟨_, rfl, ?_⟩; have n0_ := Aside0.mk (Kd.R_elder' (by (with_reducible repeat (first | apply Kd.R_alloc | apply Kd.R_drewN | apply Kd.R_drew)); exact HO198.out) (Kd.R_base ho0) hb); have n1_ := Aside0.mk (Kd.R_elder' (by (with_reducible repeat (first | apply Kd.R_alloc | apply Kd.R_drewN | apply Kd.R_drew)); exact HO202.out) (Kd.R_base ho0) hb); have n2_ := Aside0.mk (Kd.R_elder' (by (with_reducible repeat (first | apply Kd.R_alloc | apply Kd.R_drewN | apply Kd.R_drew)); exact HO206.out) (Kd.R_base ho0) hb); have n3_ := Aside0.mk (Kd.R_lower (Kd.R_newB (Kd.R_newB (Kd.R_new' (Kd.R_new' (Kd.R_new' ho0 (Kd.R_lt (by (with_reducible repeat (first | apply Kd.R_alloc | apply Kd.R_drewN | apply Kd.R_drew)); exact HO198.out))) (Kd.R_lt (by (with_reducible repeat (first | apply Kd.R_alloc | apply Kd.R_drewN | apply Kd.R_drew)); exact HO202.out))) (Kd.R_lt (by (with_reducible repeat (first | apply Kd.R_alloc | apply Kd.R_drewN | apply Kd.R_drew)); exact HO206.out))) (g := gb178) (o := .cells #[.int .i64 t175, .int .i64 t176] 26 (0, 0)) (by (with_reducible repeat (first | refine blk_drewN ?_ _ | refine blk_drew ?_ | refine blk_alloc ?_ _)); exact BK178.out)) (g := gb182) (o := .cells #[.int .i64 t179, .int .i64 t180] 26 (0, 0)) (by (with_reducible repeat (first | refine blk_drewN ?_ _ | refine blk_drew ?_ | refine blk_alloc ?_ _)); exact BK182.out)) (below_size (by repeat (first | (with_reducible first | exact HB.out | apply below_alloc | apply pw_below_drewN | apply below_drew1 | refine below_set ?_ GE178.out | refine below_set ?_ GE182.out) | exact HB.out)))); have n4_ := Aside0.mk (blk_below (g := gb178) (o := .cells #[.int .i64 t175, .int .i64 t176] 26 (0, 0)) (by (with_reducible repeat (first | refine blk_drewN ?_ _ | refine blk_drew ?_ | refine blk_alloc ?_ _)); exact BK178.out) hb); have n5_ := Aside0.mk (blk_below (g := gb182) (o := .cells #[.int .i64 t179, .int .i64 t180] 26 (0, 0)) (by (with_reducible repeat (first | refine blk_drewN ?_ _ | refine blk_drew ?_ | refine blk_alloc ?_ _)); exact BK182.out) hb); have n6_ := Aside0.mk (below_step (by repeat (first | (with_reducible first | exact HB.out | apply below_alloc | apply pw_below_drewN | apply below_drew1 | refine below_set ?_ GE178.out | refine below_set ?_ GE182.out) | exact HB.out)) hb); clear HO198; clear HO202; clear HO206; clear BK178; clear BK182; clear HB; have HO198 := n0_; have HO202 := n1_; have HO206 := n2_; have HO214 := n3_; have BK178 := n4_; have BK182 := n5_; have HB := n6_; clear n0_ n1_ n2_ n3_ n4_ n5_ n6_; (try clear hb); (try clear hb2); (try clear hk); (try clear hi); (try clear ho0)) | ((with_reducible refine gate_callee (f := 23) rfl ?_); refine goesL_ (some 103) rfl rfl Try.func23 (by kernel_rfl) rfl #[.slice A0 l0.length c0] rfl (by (try simp only [List.map_toArray, List.map_cons, List.map_nil]); first | done | rfl | (simp only [List.length_drop, List.length_take]; rfl)) ?_; (with_reducible refine (rback_all.calls _ _ l0 t215 t216 _ ?side1 ?side2 A23.out).mono ?_); (case side1 => repeat (first | exact (Kd.C_below HR0.out HB.out) | (with_reducible refine Kd.C_alloc ?_ _) | (with_reducible refine Kd.C_drewN ?_ _) | (with_reducible refine Kd.C_drew ?_))); (case side2 => exact HC0.out); rintro e w56 ⟨v217, rfl, ho0, hb⟩; refine ⟨_, rfl, ?_⟩; have n0_ := Aside0.mk (Kd.R_elder' (by (with_reducible repeat (first | apply Kd.R_alloc | apply Kd.R_drewN | apply Kd.R_drew)); exact HO198.out) (Kd.R_base ho0) hb); have n1_ := Aside0.mk (Kd.R_elder' (by (with_reducible repeat (first | apply Kd.R_alloc | apply Kd.R_drewN | apply Kd.R_drew)); exact HO202.out) (Kd.R_base ho0) hb); have n2_ := Aside0.mk (Kd.R_elder' (by (with_reducible repeat (first | apply Kd.R_alloc | apply Kd.R_drewN | apply Kd.R_drew)); exact HO206.out) (Kd.R_base ho0) hb); have n3_ := Aside0.mk (Kd.R_elder' (by (with_reducible repeat (first | apply Kd.R_alloc | apply Kd.R_drewN | apply Kd.R_drew)); exact HO214.out) (Kd.R_base ho0) hb); have n4_ := Aside0.mk (Kd.R_lower (Kd.R_newB (Kd.R_newB (Kd.R_new' (Kd.R_new' (Kd.R_new' (Kd.R_new' ho0 (Kd.R_lt (by (with_reducible repeat (first | apply Kd.R_alloc | apply Kd.R_drewN | apply Kd.R_drew)); exact HO198.out))) (Kd.R_lt (by (with_reducible repeat (first | apply Kd.R_alloc | apply Kd.R_drewN | apply Kd.R_drew)); exact HO202.out))) (Kd.R_lt (by (with_reducible repeat (first | apply Kd.R_alloc | apply Kd.R_drewN | apply Kd.R_drew)); exact HO206.out))) (Kd.R_lt (by (with_reducible repeat (first | apply Kd.R_alloc | apply Kd.R_drewN | apply Kd.R_drew)); exact HO214.out))) (g := gb178) (o := .cells #[.int .i64 t175, .int .i64 t176] 26 (0, 0)) (by (with_reducible repeat (first | refine blk_drewN ?_ _ | refine blk_drew ?_ | refine blk_alloc ?_ _)); exact BK178.out)) (g := gb182) (o := .cells #[.int .i64 t179, .int .i64 t180] 26 (0, 0)) (by (with_reducible repeat (first | refine blk_drewN ?_ _ | refine blk_drew ?_ | refine blk_alloc ?_ _)); exact BK182.out)) (below_size (by repeat (first | (with_reducible first | exact HB.out | apply below_alloc | apply pw_below_drewN | apply below_drew1 | refine below_set ?_ GE178.out | refine below_set ?_ GE182.out) | exact HB.out)))); have n5_ := Aside0.mk (blk_below (g := gb178) (o := .cells #[.int .i64 t175, .int .i64 t176] 26 (0, 0)) (by (with_reducible repeat (first | refine blk_drewN ?_ _ | refine blk_drew ?_ | refine blk_alloc ?_ _)); exact BK178.out) hb); have n6_ := Aside0.mk (blk_below (g := gb182) (o := .cells #[.int .i64 t179, .int .i64 t180] 26 (0, 0)) (by (with_reducible repeat (first | refine blk_drewN ?_ _ | refine blk_drew ?_ | refine blk_alloc ?_ _)); exact BK182.out) hb); have n7_ := Aside0.mk (below_step (by repeat (first | (with_reducible first | exact HB.out | apply below_alloc | apply pw_below_drewN | apply below_drew1 | refine below_set ?_ GE178.out | refine below_set ?_ GE182.out) | exact HB.out)) hb); clear HO198; clear HO202; clear HO206; clear HO214; clear BK178; clear BK182; clear HB; have HO198 := n0_; have HO202 := n1_; have HO206 := n2_; have HO214 := n3_; have HO218 := n4_; have BK178 := n5_; have BK182 := n6_; have HB := n7_; clear n0_ n1_ n2_ n3_ n4_ n5_ n6_ n7_; (try clear hb); (try clear hb2); (try clear hk); (try clear hi); (try clear ho0)) | ((with_reducible refine gate_callee (f := 24) rfl ?_); refine goesL_ (some 109) rfl rfl Try.func24 (by kernel_rfl) rfl #[.slice A0 l0.length c0, .slice A1 l1.length c1] rfl (by (try simp only [List.map_toArray, List.map_cons, List.map_nil]); first | done | rfl | (simp only [List.length_drop, List.length_take]; rfl)) ?_; (with_reducible refine (rround_all.calls _ _ l0 _ _ l1 t219 t220 _ ?side1 ?side2 ?side3 ?side4 A24.out).mono ?_); (case side1 => repeat (first | exact (Kd.C_below HR0.out HB.out) | (with_reducible refine Kd.C_alloc ?_ _) | (with_reducible refine Kd.C_drewN ?_ _) | (with_reducible refine Kd.C_drew ?_))); (case side2 => exact HC0.out); (case side3 => repeat (first | exact (Kd.C_below HR1.out HB.out) | (with_reducible refine Kd.C_alloc ?_ _) | (with_reducible refine Kd.C_drewN ?_ _) | (with_reducible refine Kd.C_drew ?_))); (case side4 => exact HC1.out); rintro e w57 ⟨v221, rfl, ho0, hb⟩; refine ⟨_, rfl, ?_⟩; have n0_ := Aside0.mk (Kd.R_elder' (by (with_reducible repeat (first | apply Kd.R_alloc | apply Kd.R_drewN | apply Kd.R_drew)); exact HO198.out) (Kd.R_base ho0) hb); have n1_ := Aside0.mk (Kd.R_elder' (by (with_reducible repeat (first | apply Kd.R_alloc | apply Kd.R_drewN | apply Kd.R_drew)); exact HO202.out) (Kd.R_base ho0) hb); have n2_ := Aside0.mk (Kd.R_elder' (by (with_reducible repeat (first | apply Kd.R_alloc | apply Kd.R_drewN | apply Kd.R_drew)); exact HO206.out) (Kd.R_base ho0) hb); have n3_ := Aside0.mk (Kd.R_elder' (by (with_reducible repeat (first | apply Kd.R_alloc | apply Kd.R_drewN | apply Kd.R_drew)); exact HO214.out) (Kd.R_base ho0) hb); have n4_ := Aside0.mk (Kd.R_elder' (by (with_reducible repeat (first | apply Kd.R_alloc | apply Kd.R_drewN | apply Kd.R_drew)); exact HO218.out) (Kd.R_base ho0) hb); have n5_ := Aside0.mk (Kd.R_lower (Kd.R_newB (Kd.R_newB (Kd.R_new' (Kd.R_new' (Kd.R_new' (Kd.R_new' (Kd.R_new' ho0 (Kd.R_lt (by (with_reducible repeat (first | apply Kd.R_alloc | apply Kd.R_drewN | apply Kd.R_drew)); exact HO198.out))) (Kd.R_lt (by (with_reducible repeat (first | apply Kd.R_alloc | apply Kd.R_drewN | apply Kd.R_drew)); exact HO202.out))) (Kd.R_lt (by (with_reducible repeat (first | apply Kd.R_alloc | apply Kd.R_drewN | apply Kd.R_drew)); exact HO206.out))) (Kd.R_lt (by (with_reducible repeat (first | apply Kd.R_alloc | apply Kd.R_drewN | apply Kd.R_drew)); exact HO214.out))) (Kd.R_lt (by (with_reducible repeat (first | apply Kd.R_alloc | apply Kd.R_drewN | apply Kd.R_drew)); exact HO218.out))) (g := gb178) (o := .cells #[.int .i64 t175, .int .i64 t176] 26 (0, 0)) (by (with_reducible repeat (first | refine blk_drewN ?_ _ | refine blk_drew ?_ | refine blk_alloc ?_ _)); exact BK178.out)) (g := gb182) (o := .cells #[.int .i64 t179, .int .i64 t180] 26 (0, 0)) (by (with_reducible repeat (first | refine blk_drewN ?_ _ | refine blk_drew ?_ | refine blk_alloc ?_ _)); exact BK182.out)) (below_size (by repeat (first | (with_reducible first | exact HB.out | apply below_alloc | apply pw_below_drewN | apply below_drew1 | refine below_set ?_ GE178.out | refine below_set ?_ GE182.out) | exact HB.out)))); have n6_ := Aside0.mk (blk_below (g := gb178) (o := .cells #[.int .i64 t175, .int .i64 t176] 26 (0, 0)) (by (with_reducible repeat (first | refine blk_drewN ?_ _ | refine blk_drew ?_ | refine blk_alloc ?_ _)); exact BK178.out) hb); have n7_ := Aside0.mk (blk_below (g := gb182) (o := .cells #[.int .i64 t179, .int .i64 t180] 26 (0, 0)) (by (with_reducible repeat (first | refine blk_drewN ?_ _ | refine blk_drew ?_ | refine blk_alloc ?_ _)); exact BK182.out) hb); have n8_ := Aside0.mk (below_step (by repeat (first | (with_reducible first | exact HB.out | apply below_alloc | apply pw_below_drewN | apply below_drew1 | refine below_set ?_ GE178.out | refine below_set ?_ GE182.out) | exact HB.out)) hb); clear HO198; clear HO202; clear HO206; clear HO214; clear HO218; clear BK178; clear BK182; clear HB; have HO198 := n0_; have HO202 := n1_; have HO206 := n2_; have HO214 := n3_; have HO218 := n4_; have HO222 := n5_; have BK178 := n6_; have BK182 := n7_; have HB := n8_; clear n0_ n1_ n2_ n3_ n4_ n5_ n6_ n7_ n8_; (try clear hb); (try clear hb2); (try clear hk); (try clear hi); (try clear ho0); obtain ⟨Ao58, co58, eo58⟩ := Kd.R_slice HO198.out; subst eo58; obtain ⟨Ao59, co59, eo59⟩ := Kd.R_slice HO214.out; subst eo59) | ((with_reducible refine gate_callee (f := 17) rfl ?_); refine goesL_ (some 114) rfl rfl Try.func17 (by kernel_rfl) rfl #[.slice Ao58 t195.length co58, .slice Ao59 t211.length co59] rfl (by (try simp only [List.map_toArray, List.map_cons, List.map_nil]); first | done | rfl | (simp only [List.length_drop, List.length_take]; rfl)) ?_; (with_reducible refine (same_ok.calls _ _ t195 _ _ t211  _ ?side1 ?side2 ?side3 ?side4 A25.out).mono ?_); (case side1 => repeat (first | exact (Kd.R_reads' HO198.out).2.2 | (with_reducible refine Kd.C_alloc ?_ _) | (with_reducible refine Kd.C_drewN ?_ _) | (with_reducible refine Kd.C_drew ?_))); (case side2 => exact (Kd.R_reads' HO198.out).2.1); (case side3 => repeat (first | exact (Kd.R_reads' HO214.out).2.2 | (with_reducible refine Kd.C_alloc ?_ _) | (with_reducible refine Kd.C_drewN ?_ _) | (with_reducible refine Kd.C_drew ?_))); (case side4 => exact (Kd.R_reads' HO214.out).2.1); rintro e w60 ⟨rfl, hb⟩; refine ⟨_, rfl, ?_⟩; have n0_ := Aside0.mk (Kd.R_below (by (with_reducible repeat (first | apply Kd.R_alloc | apply Kd.R_drewN | apply Kd.R_drew)); exact HO198.out) hb); have n1_ := Aside0.mk (Kd.R_below (by (with_reducible repeat (first | apply Kd.R_alloc | apply Kd.R_drewN | apply Kd.R_drew)); exact HO202.out) hb); have n2_ := Aside0.mk (Kd.R_below (by (with_reducible repeat (first | apply Kd.R_alloc | apply Kd.R_drewN | apply Kd.R_drew)); exact HO206.out) hb); have n3_ := Aside0.mk (Kd.R_below (by (with_reducible repeat (first | apply Kd.R_alloc | apply Kd.R_drewN | apply Kd.R_drew)); exact HO214.out) hb); have n4_ := Aside0.mk (Kd.R_below (by (with_reducible repeat (first | apply Kd.R_alloc | apply Kd.R_drewN | apply Kd.R_drew)); exact HO218.out) hb); have n5_ := Aside0.mk (Kd.R_below (by (with_reducible repeat (first | apply Kd.R_alloc | apply Kd.R_drewN | apply Kd.R_drew)); exact HO222.out) hb); have n6_ := Aside0.mk (blk_below (g := gb178) (o := .cells #[.int .i64 t175, .int .i64 t176] 26 (0, 0)) (by (with_reducible repeat (first | refine blk_drewN ?_ _ | refine blk_drew ?_ | refine blk_alloc ?_ _)); exact BK178.out) hb); have n7_ := Aside0.mk (blk_below (g := gb182) (o := .cells #[.int .i64 t179, .int .i64 t180] 26 (0, 0)) (by (with_reducible repeat (first | refine blk_drewN ?_ _ | refine blk_drew ?_ | refine blk_alloc ?_ _)); exact BK182.out) hb); have n8_ := Aside0.mk (below_step (by repeat (first | (with_reducible first | exact HB.out | apply below_alloc | apply pw_below_drewN | apply below_drew1 | refine below_set ?_ GE178.out | refine below_set ?_ GE182.out) | exact HB.out)) hb); clear HO198; clear HO202; clear HO206; clear HO214; clear HO218; clear HO222; clear BK178; clear BK182; clear HB; have HO198 := n0_; have HO202 := n1_; have HO206 := n2_; have HO214 := n3_; have HO218 := n4_; have HO222 := n5_; have BK178 := n6_; have BK182 := n7_; have HB := n8_; clear n0_ n1_ n2_ n3_ n4_ n5_ n6_ n7_ n8_; (try clear hb); (try clear hb2); (try clear hk); (try clear hi); obtain ⟨Ao61, co61, eo61⟩ := Kd.R_slice HO202.out; subst eo61; obtain ⟨Ao62, co62, eo62⟩ := Kd.R_slice HO218.out; subst eo62) | (go_at_call 17; (with_reducible refine (same_ok.calls _ _ t199 _ _ t215  _ ?side1 ?side2 ?side3 ?side4 A26.out).mono ?_); (case side1 => repeat (first | exact (Kd.R_reads' HO202.out).2.2 | (with_reducible refine Kd.C_alloc ?_ _) | (with_reducible refine Kd.C_drewN ?_ _) | (with_reducible refine Kd.C_drew ?_))); (case side2 => exact (Kd.R_reads' HO202.out).2.1); (case side3 => repeat (first | exact (Kd.R_reads' HO218.out).2.2 | (with_reducible refine Kd.C_alloc ?_ _) | (with_reducible refine Kd.C_drewN ?_ _) | (with_reducible refine Kd.C_drew ?_))); (case side4 => exact (Kd.R_reads' HO218.out).2.1); rintro e w63 ⟨rfl, hb⟩; have n0_ := Aside0.mk (Kd.R_below (by (with_reducible repeat (first | apply Kd.R_alloc | apply Kd.R_drewN | apply Kd.R_drew)); exact HO198.out) hb); have n1_ := Aside0.mk (Kd.R_below (by (with_reducible repeat (first | apply Kd.R_alloc | apply Kd.R_drewN | apply Kd.R_drew)); exact HO202.out) hb); have n2_ := Aside0.mk (Kd.R_below (by (with_reducible repeat (first | apply Kd.R_alloc | apply Kd.R_drewN | apply Kd.R_drew)); exact HO206.out) hb); have n3_ := Aside0.mk (Kd.R_below (by (with_reducible repeat (first | apply Kd.R_alloc | apply Kd.R_drewN | apply Kd.R_drew)); exact HO214.out) hb); have n4_ := Aside0.mk (Kd.R_below (by (with_reducible repeat (first | apply Kd.R_alloc | apply Kd.R_drewN | apply Kd.R_drew)); exact HO218.out) hb); have n5_ := Aside0.mk (Kd.R_below (by (with_reducible repeat (first | apply Kd.R_alloc | apply Kd.R_drewN | apply Kd.R_drew)); exact HO222.out) hb); have n6_ := Aside0.mk (blk_below (g := gb178) (o := .cells #[.int .i64 t175, .int .i64 t176] 26 (0, 0)) (by (with_reducible repeat (first | refine blk_drewN ?_ _ | refine blk_drew ?_ | refine blk_alloc ?_ _)); exact BK178.out) hb); have n7_ := Aside0.mk (blk_below (g := gb182) (o := .cells #[.int .i64 t179, .int .i64 t180] 26 (0, 0)) (by (with_reducible repeat (first | refine blk_drewN ?_ _ | refine blk_drew ?_ | refine blk_alloc ?_ _)); exact BK182.out) hb); have n8_ := Aside0.mk (below_step (by repeat (first | (with_reducible first | exact HB.out | apply below_alloc | apply pw_below_drewN | apply below_drew1 | refine below_set ?_ GE178.out | refine below_set ?_ GE182.out) | exact HB.out)) hb); clear HO198; clear HO202; clear HO206; clear HO214; clear HO218; clear HO222; clear BK178; clear BK182; clear HB; have HO198 := n0_; have HO202 := n1_; have HO206 := n2_; have HO214 := n3_; have HO218 := n4_; have HO222 := n5_; have BK178 := n6_; have BK182 := n7_; have HB := n8_; clear n0_ n1_ n2_ n3_ n4_ n5_ n6_ n7_ n8_; (try clear hb); (try clear hb2); (try clear hk); (try clear hi); obtain ⟨Ao64, co64, eo64⟩ := Kd.R_slice HO206.out; subst eo64; obtain ⟨Ao65, co65, eo65⟩ := Kd.R_slice HO222.out; subst eo65) | (go_at_call 17; (with_reducible refine (same_ok.calls _ _ t203 _ _ t219  _ ?side1 ?side2 ?side3 ?side4 A27.out).mono ?_); (case side1 => repeat (first | exact (Kd.R_reads' HO206.out).2.2 | (with_reducible refine Kd.C_alloc ?_ _) | (with_reducible refine Kd.C_drewN ?_ _) | (with_reducible refine Kd.C_drew ?_))); (case side2 => exact (Kd.R_reads' HO206.out).2.1); (case side3 => repeat (first | exact (Kd.R_reads' HO222.out).2.2 | (with_reducible refine Kd.C_alloc ?_ _) | (with_reducible refine Kd.C_drewN ?_ _) | (with_reducible refine Kd.C_drew ?_))); (case side4 => exact (Kd.R_reads' HO222.out).2.1); rintro e w66 ⟨rfl, hb⟩; have n0_ := Aside0.mk (Kd.R_below (by (with_reducible repeat (first | apply Kd.R_alloc | apply Kd.R_drewN | apply Kd.R_drew)); exact HO198.out) hb); have n1_ := Aside0.mk (Kd.R_below (by (with_reducible repeat (first | apply Kd.R_alloc | apply Kd.R_drewN | apply Kd.R_drew)); exact HO202.out) hb); have n2_ := Aside0.mk (Kd.R_below (by (with_reducible repeat (first | apply Kd.R_alloc | apply Kd.R_drewN | apply Kd.R_drew)); exact HO206.out) hb); have n3_ := Aside0.mk (Kd.R_below (by (with_reducible repeat (first | apply Kd.R_alloc | apply Kd.R_drewN | apply Kd.R_drew)); exact HO214.out) hb); have n4_ := Aside0.mk (Kd.R_below (by (with_reducible repeat (first | apply Kd.R_alloc | apply Kd.R_drewN | apply Kd.R_drew)); exact HO218.out) hb); have n5_ := Aside0.mk (Kd.R_below (by (with_reducible repeat (first | apply Kd.R_alloc | apply Kd.R_drewN | apply Kd.R_drew)); exact HO222.out) hb); have n6_ := Aside0.mk (blk_below (g := gb178) (o := .cells #[.int .i64 t175, .int .i64 t176] 26 (0, 0)) (by (with_reducible repeat (first | refine blk_drewN ?_ _ | refine blk_drew ?_ | refine blk_alloc ?_ _)); exact BK178.out) hb); have n7_ := Aside0.mk (blk_below (g := gb182) (o := .cells #[.int .i64 t179, .int .i64 t180] 26 (0, 0)) (by (with_reducible repeat (first | refine blk_drewN ?_ _ | refine blk_drew ?_ | refine blk_alloc ?_ _)); exact BK182.out) hb); have n8_ := Aside0.mk (below_step (by repeat (first | (with_reducible first | exact HB.out | apply below_alloc | apply pw_below_drewN | apply below_drew1 | refine below_set ?_ GE178.out | refine below_set ?_ GE182.out) | exact HB.out)) hb); clear HO198; clear HO202; clear HO206; clear HO214; clear HO218; clear HO222; clear BK178; clear BK182; clear HB; have HO198 := n0_; have HO202 := n1_; have HO206 := n2_; have HO214 := n3_; have HO218 := n4_; have HO222 := n5_; have BK178 := n6_; have BK182 := n7_; have HB := n8_; clear n0_ n1_ n2_ n3_ n4_ n5_ n6_ n7_ n8_; (try clear hb); (try clear hb2); (try clear hk); (try clear hi); have hcz67_0 : w66.cell? ⟨gb178, 0, none⟩ = some (.int .i64 t175) := (blk_cell BK178.out 0).trans rfl; have hcz67_1 : w66.cell? ⟨gb178, 1, none⟩ = some (.int .i64 t176) := (blk_cell BK178.out 1).trans rfl; have hfz67_0 := blk_frozen BK178.out 0; have hfz67_1 := blk_frozen BK178.out 1; have hcz68_0 : w66.cell? ⟨gb182, 0, none⟩ = some (.int .i64 t179) := (blk_cell BK182.out 0).trans rfl; have hcz68_1 : w66.cell? ⟨gb182, 1, none⟩ = some (.int .i64 t180) := (blk_cell BK182.out 1).trans rfl; have hfz68_0 := blk_frozen BK182.out 0; have hfz68_1 := blk_frozen BK182.out 1))
       go_ret
       exact ⟨by first | rfl | (simp [errW_none, errW_some] <;> rfl) | (simp [*, errW_none, errW_some] <;> rfl), by repeat (first | (with_reducible first | exact HB.out | apply below_alloc | apply pw_below_drewN | apply below_drew1 | refine below_set ?_ GE178.out | refine below_set ?_ GE182.out) | exact HB.out)⟩
      ·rw [if_neg c31] at H
       exact absurd H (by simp)
     ·rw [if_neg c30] at H
      exact absurd H (by simp)
    ·rw [if_neg c29] at H
     exact absurd H (by simp)
   ·rw [if_neg c28] at H
    exact absurd H (by simp)

end Go.Proofs.YtkilnknndglmnaaT
end

section
/- The law of what is answered and left alone, told plainly. -/
namespace Go.Proofs.YtkilnknndglmnaaP
open Go.RowKit Go.Proofs.Ytkilnknndglmnaa Go.Proofs.YtkilnknndglmnaaW.PrintWords

theorem lent_okS {l : List S26} (h : l.length ≤ 40) : lent_ok.f l = some (l ++ [(⟨-77, 0⟩ : S26)]) := by unfold lent_ok.f; rw [if_pos (by omega)]
theorem kept_okS {l : List S26} (h : l.length ≤ 40) : kept_ok.f (l ++ [(⟨-77, 0⟩ : S26)]) l = some () := by
  unfold kept_ok.f
  rw [if_pos ⟨by simp, by omega, by rw [List.dropLast_concat], by simp [rd_T26]⟩]
theorem same_okS {l : List S26} (h : l.length ≤ 4000000000) : same_ok.f l l = some () := by
  unfold same_ok.f
  rw [if_pos ⟨h, rfl⟩]
theorem turns_pure (x y : List S26) (n : Int) : YtkilnknndglmnaaT.reevelaw21_BeatTurns.f x y n = some true := by
  unfold YtkilnknndglmnaaT.reevelaw21_BeatTurns.f awake_ok.f
  simp only [Option.bind_some]
  by_cases hx : (x.length : Int) > 40
  · rw [if_pos hx]
  rw [if_neg hx]
  by_cases hy : (y.length : Int) > 40
  · rw [if_pos hy]
  rw [if_neg hy]
  have hx2 : x.length ≤ 40 := by omega
  have hy2 : y.length ≤ 40 := by omega
  unfold root_all.f rroot_all.f
  simp only [Option.bind_some]
  rw [lent_okS hx2, lent_okS hy2]
  simp only [Option.bind_some]
  unfold turn_all.f back_all.f round_all.f rturn_all.f rback_all.f rround_all.f
  simp only [Option.bind_some, List.dropLast_concat]
  rw [kept_okS hx2, kept_okS hy2]
  simp only [Option.bind_some]
  have h1 : (if rowE x = 0 then turnP x else []).length ≤ 4000000000 := by
    split
    · rw [turnP_len]; omega
    · simp
  have h2 : (if rowE x = 0 then backP x else []).length ≤ 4000000000 := by
    split
    · rw [backP_len]; omega
    · simp
  have h3 : (if roundE x y = 0 then roundP x y else []).length ≤ 4000000000 := by
    split
    · rw [roundP_len]; omega
    · simp
  rw [same_okS h1, same_okS h2, same_okS h3]
  simp only [Option.bind_some, beq_self_eq_true, Bool.and_self, if_true]
theorem turns_call (A0 : Option Addr) (c0 : Nat) (l0 : List S26) (A1 : Option Addr) (c1 : Nat) (l1 : List S26) (a2 : Int) (w : World) (h0 : Kd.C k26 w A0 l0.length l0) (g0 : l0.length ≤ c0) (h1 : Kd.C k26 w A1 l1.length l1) (g1 : l1.length ≤ c1) :
    Calls Try.prog 5 #[.slice A0 l0.length c0, .slice A1 l1.length c1, .int .i64 a2] w fun e w' => e = .returned (.bool true) ∧ Below w.heap.size w w' :=
  YtkilnknndglmnaaT.reevelaw21_BeatTurns.calls A0 c0 l0 A1 c1 l1 a2 true w h0 g0 h1 g1 (turns_pure l0 l1 a2)

#print axioms turns_call
end Go.Proofs.YtkilnknndglmnaaP
end
