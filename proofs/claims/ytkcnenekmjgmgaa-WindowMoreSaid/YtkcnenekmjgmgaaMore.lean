/- The law WindowMore: less is easier, time takes nothing in. -/
import Derived.Test.YtkcnenekmjgmgaaU
namespace Go.Proofs.Ytkcnenekmjgmgaa
open Go.RowKit

set_option maxHeartbeats 4000000 in
set_option maxRecDepth 100000 in
set_option linter.unusedVariables false in
theorem more_bad (p : Pol) (s : Win) (A : Option Addr) (c : Nat) (t cost fewer : Int) (w : World) (hl : s.l.length ≤ 9223372036854775807) (hrd : ReadIn w A s.l) (h1 : okB p = false) :
    Calls Try.prog 3 #[.agg #[.int .i64 p.k, .int .i64 p.cap, .int .i64 p.num, .int .i64 p.den, .int .i64 p.width, .int .i64 p.count, .int .i64 p.keys, .int .i64 p.slots, .int .i64 p.every, .int .i64 p.seg], .agg #[.int .i64 s.g, .slice A s.l.length c], .int .i64 t, .int .i64 cost, .int .i64 fewer] w fun e w' => e = .returned (.bool true) ∧ Below w.heap.size w w' := by
  have hri := fun w => refRight_any p w
  rw [rightN_no h1] at hri
  have HRI := hid hri
  have HRD := hid hrd
  clear hri hrd
  clear h1
  go_enter Try.func3, Try.ntmps3
  go_upto_region 1 with fail
  refine abstract_world (fun W => Boxes w W p (.int .i64 s.g) (.slice A s.l.length c)) ?_ ?_
  · exact Boxes.begin w p (.int .i64 s.g) (.slice A s.l.length c)
  intro W hX
  have X := hid hX
  clear hX
  obtain ⟨a0, a1, a2, a3, a4, a5, a6, a7, a8, a9⟩ := X.out.cp
  obtain ⟨b0, b1, b2, b3⟩ := X.out.cs
  go_wp2_with fail
  refine (awake_call _).mono ?_
  rintro e v1 ⟨rfl, hb⟩
  have X1 := hid (X.out.on hb)
  clear a0 a1 a2 a3 a4 a5 a6 a7 a8 a9 b0 b1 b2 b3
  clear hb X
  obtain ⟨a0, a1, a2, a3, a4, a5, a6, a7, a8, a9⟩ := X1.out.cp
  obtain ⟨b0, b1, b2, b3⟩ := X1.out.cs
  go_wp2_with fail
  refine (HRI.out _).mono ?_
  rintro e v2 ⟨rfl, hb⟩
  have X2 := hid (X1.out.on hb)
  clear a0 a1 a2 a3 a4 a5 a6 a7 a8 a9 b0 b1 b2 b3
  clear hb X1
  obtain ⟨a0, a1, a2, a3, a4, a5, a6, a7, a8, a9⟩ := X2.out.cp
  obtain ⟨b0, b1, b2, b3⟩ := X2.out.cs
  go_wp2_with fail
  all_goals (go_ret; exact ⟨rfl, X2.out.below⟩)

set_option maxHeartbeats 4000000 in
set_option maxRecDepth 100000 in
set_option linter.unusedVariables false in
theorem more_kind (p : Pol) (s : Win) (A : Option Addr) (c : Nat) (t cost fewer : Int) (w : World) (hl : s.l.length ≤ 9223372036854775807) (hrd : ReadIn w A s.l) (h1 : okB p = true) (h2 : ¬ p.k = 2) :
    Calls Try.prog 3 #[.agg #[.int .i64 p.k, .int .i64 p.cap, .int .i64 p.num, .int .i64 p.den, .int .i64 p.width, .int .i64 p.count, .int .i64 p.keys, .int .i64 p.slots, .int .i64 p.every, .int .i64 p.seg], .agg #[.int .i64 s.g, .slice A s.l.length c], .int .i64 t, .int .i64 cost, .int .i64 fewer] w fun e w' => e = .returned (.bool true) ∧ Below w.heap.size w w' := by
  have hri := fun w => refRight_any p w
  rw [rightN_yes h1] at hri
  have HRI := hid hri
  have HRD := hid hrd
  clear hri hrd
  clear h1
  go_enter Try.func3, Try.ntmps3
  go_upto_region 1 with fail
  refine abstract_world (fun W => Boxes w W p (.int .i64 s.g) (.slice A s.l.length c)) ?_ ?_
  · exact Boxes.begin w p (.int .i64 s.g) (.slice A s.l.length c)
  intro W hX
  have X := hid hX
  clear hX
  obtain ⟨a0, a1, a2, a3, a4, a5, a6, a7, a8, a9⟩ := X.out.cp
  obtain ⟨b0, b1, b2, b3⟩ := X.out.cs
  go_wp2_with fail
  refine (awake_call _).mono ?_
  rintro e v1 ⟨rfl, hb⟩
  have X1 := hid (X.out.on hb)
  clear a0 a1 a2 a3 a4 a5 a6 a7 a8 a9 b0 b1 b2 b3
  clear hb X
  obtain ⟨a0, a1, a2, a3, a4, a5, a6, a7, a8, a9⟩ := X1.out.cp
  obtain ⟨b0, b1, b2, b3⟩ := X1.out.cs
  go_wp2_with fail
  refine (HRI.out _).mono ?_
  rintro e v2 ⟨rfl, hb⟩
  have X2 := hid (X1.out.on hb)
  clear a0 a1 a2 a3 a4 a5 a6 a7 a8 a9 b0 b1 b2 b3
  clear hb X1
  obtain ⟨a0, a1, a2, a3, a4, a5, a6, a7, a8, a9⟩ := X2.out.cp
  obtain ⟨b0, b1, b2, b3⟩ := X2.out.cs
  go_wp2_with fail
  all_goals (go_ret; exact ⟨rfl, X2.out.below⟩)

set_option maxHeartbeats 4000000 in
set_option maxRecDepth 100000 in
set_option linter.unusedVariables false in
theorem more_one (p : Pol) (s : Win) (A : Option Addr) (c : Nat) (t cost fewer : Int) (w : World) (hl : s.l.length ≤ 9223372036854775807) (hrd : ReadIn w A s.l) (h1 : okB p = true) (h2 : p.k = 2) (h3 : fewer < 1) :
    Calls Try.prog 3 #[.agg #[.int .i64 p.k, .int .i64 p.cap, .int .i64 p.num, .int .i64 p.den, .int .i64 p.width, .int .i64 p.count, .int .i64 p.keys, .int .i64 p.slots, .int .i64 p.every, .int .i64 p.seg], .agg #[.int .i64 s.g, .slice A s.l.length c], .int .i64 t, .int .i64 cost, .int .i64 fewer] w fun e w' => e = .returned (.bool true) ∧ Below w.heap.size w w' := by
  have hri := fun w => refRight_any p w
  rw [rightN_yes h1] at hri
  have HRI := hid hri
  have HRD := hid hrd
  clear hri hrd
  have hkk : (p.k != 2) = false := by simp [h2]
  clear h1 h2
  go_enter Try.func3, Try.ntmps3
  go_upto_region 1 with fail
  refine abstract_world (fun W => Boxes w W p (.int .i64 s.g) (.slice A s.l.length c)) ?_ ?_
  · exact Boxes.begin w p (.int .i64 s.g) (.slice A s.l.length c)
  intro W hX
  have X := hid hX
  clear hX
  obtain ⟨a0, a1, a2, a3, a4, a5, a6, a7, a8, a9⟩ := X.out.cp
  obtain ⟨b0, b1, b2, b3⟩ := X.out.cs
  go_wp2_with fail
  refine (awake_call _).mono ?_
  rintro e v1 ⟨rfl, hb⟩
  have X1 := hid (X.out.on hb)
  clear a0 a1 a2 a3 a4 a5 a6 a7 a8 a9 b0 b1 b2 b3
  clear hb X
  obtain ⟨a0, a1, a2, a3, a4, a5, a6, a7, a8, a9⟩ := X1.out.cp
  obtain ⟨b0, b1, b2, b3⟩ := X1.out.cs
  go_wp2_with fail
  refine (HRI.out _).mono ?_
  rintro e v2 ⟨rfl, hb⟩
  have X2 := hid (X1.out.on hb)
  clear a0 a1 a2 a3 a4 a5 a6 a7 a8 a9 b0 b1 b2 b3
  clear hb X1
  obtain ⟨a0, a1, a2, a3, a4, a5, a6, a7, a8, a9⟩ := X2.out.cp
  obtain ⟨b0, b1, b2, b3⟩ := X2.out.cs
  go_wp2_with fail
  all_goals (go_ret; exact ⟨rfl, X2.out.below⟩)

set_option maxHeartbeats 4000000 in
set_option maxRecDepth 100000 in
set_option linter.unusedVariables false in
theorem more_more (p : Pol) (s : Win) (A : Option Addr) (c : Nat) (t cost fewer : Int) (w : World) (hl : s.l.length ≤ 9223372036854775807) (hrd : ReadIn w A s.l) (h1 : okB p = true) (h2 : p.k = 2) (h3 : ¬ fewer < 1) (h4 : cost < fewer) :
    Calls Try.prog 3 #[.agg #[.int .i64 p.k, .int .i64 p.cap, .int .i64 p.num, .int .i64 p.den, .int .i64 p.width, .int .i64 p.count, .int .i64 p.keys, .int .i64 p.slots, .int .i64 p.every, .int .i64 p.seg], .agg #[.int .i64 s.g, .slice A s.l.length c], .int .i64 t, .int .i64 cost, .int .i64 fewer] w fun e w' => e = .returned (.bool true) ∧ Below w.heap.size w w' := by
  have hri := fun w => refRight_any p w
  rw [rightN_yes h1] at hri
  have HRI := hid hri
  have HRD := hid hrd
  clear hri hrd
  have hkk : (p.k != 2) = false := by simp [h2]
  clear h1 h2
  go_enter Try.func3, Try.ntmps3
  go_upto_region 1 with fail
  refine abstract_world (fun W => Boxes w W p (.int .i64 s.g) (.slice A s.l.length c)) ?_ ?_
  · exact Boxes.begin w p (.int .i64 s.g) (.slice A s.l.length c)
  intro W hX
  have X := hid hX
  clear hX
  obtain ⟨a0, a1, a2, a3, a4, a5, a6, a7, a8, a9⟩ := X.out.cp
  obtain ⟨b0, b1, b2, b3⟩ := X.out.cs
  go_wp2_with fail
  refine (awake_call _).mono ?_
  rintro e v1 ⟨rfl, hb⟩
  have X1 := hid (X.out.on hb)
  clear a0 a1 a2 a3 a4 a5 a6 a7 a8 a9 b0 b1 b2 b3
  clear hb X
  obtain ⟨a0, a1, a2, a3, a4, a5, a6, a7, a8, a9⟩ := X1.out.cp
  obtain ⟨b0, b1, b2, b3⟩ := X1.out.cs
  go_wp2_with fail
  refine (HRI.out _).mono ?_
  rintro e v2 ⟨rfl, hb⟩
  have X2 := hid (X1.out.on hb)
  clear a0 a1 a2 a3 a4 a5 a6 a7 a8 a9 b0 b1 b2 b3
  clear hb X1
  obtain ⟨a0, a1, a2, a3, a4, a5, a6, a7, a8, a9⟩ := X2.out.cp
  obtain ⟨b0, b1, b2, b3⟩ := X2.out.cs
  go_wp2_with fail
  all_goals (go_ret; exact ⟨rfl, X2.out.below⟩)

set_option maxHeartbeats 4000000 in
set_option maxRecDepth 100000 in
set_option linter.unusedVariables false in
theorem more_main (p : Pol) (s : Win) (A : Option Addr) (c : Nat) (t cost fewer : Int) (w : World) (hl : s.l.length ≤ 9223372036854775807) (hrd : ReadIn w A s.l) (h1 : okB p = true) (h2 : p.k = 2) (h3 : ¬ fewer < 1) (h4 : ¬ cost < fewer) :
    Calls Try.prog 3 #[.agg #[.int .i64 p.k, .int .i64 p.cap, .int .i64 p.num, .int .i64 p.den, .int .i64 p.width, .int .i64 p.count, .int .i64 p.keys, .int .i64 p.slots, .int .i64 p.every, .int .i64 p.seg], .agg #[.int .i64 s.g, .slice A s.l.length c], .int .i64 t, .int .i64 cost, .int .i64 fewer] w fun e w' => e = .returned (.bool true) ∧ Below w.heap.size w w' := by
  have hri := fun w => refRight_any p w
  rw [rightN_yes h1] at hri
  have HRI := hid hri
  have HRD := hid hrd
  clear hri hrd
  have hm : meansW p = true := meansW_yes h2 h1
  have hgx := moveP_good hm s t
  have hgy := moveP_good hm (moveP p s t) 1099511627776
  have hsx := hgx.small hm
  have hsy := hgy.small hm
  have hmf : mayW p (moveP p s t) cost = true → mayW p (moveP p s t) fewer = true := fun h => may_less hm hgx (by omega) (by omega) h
  have hml := move_less hm hgx 1099511627776
  have htx := totalN_bound (moveP p s t)
  have MV := hid (fun w1 (hb : Below w.heap.size w w1) => move_call p s A c t w1 hl (HRD.out.on hb))
  have MAYC := hid (fun B w A c h => may_own p (moveP p s t) cost (B := B) (w := w) (A := A) (c := c) (by omega) h)
  have MAYF := hid (fun B w A c h => may_own p (moveP p s t) fewer (B := B) (w := w) (A := A) (c := c) (by omega) h)
  have TOT := hid (fun B w A c h => total_own (moveP p s t) (B := B) (w := w) (A := A) (c := c) (by omega) h)
  have MVX := hid (fun B w A c h => move_own p (moveP p s t) 1099511627776 (B := B) (w := w) (A := A) (c := c) (by omega) h)
  have TOT2 := hid (fun B w A c h => total_own (moveP p (moveP p s t) 1099511627776) (B := B) (w := w) (A := A) (c := c) (by omega) h)
  have hkk : (p.k != 2) = false := by simp [h2]
  clear h1 h2 hm hgx hgy hsx hsy
  generalize mayW p (moveP p s t) cost = mc at *
  generalize mayW p (moveP p s t) fewer = mf at *
  generalize totalN (moveP p (moveP p s t) 1099511627776) = ty at *
  generalize totalN (moveP p s t) = tx at *
  generalize moveP p (moveP p s t) 1099511627776 = y at *
  generalize moveP p s t = x at *
  obtain ⟨xg, xl⟩ := x
  obtain ⟨yg, yl⟩ := y
  dsimp only at *
  have HMF := hid hmf
  clear hmf
  go_enter Try.func3, Try.ntmps3
  go_upto_region 1 with fail
  refine abstract_world (fun W => Boxes w W p (.int .i64 s.g) (.slice A s.l.length c)) ?_ ?_
  · exact Boxes.begin w p (.int .i64 s.g) (.slice A s.l.length c)
  intro W hX
  have X := hid hX
  clear hX
  obtain ⟨a0, a1, a2, a3, a4, a5, a6, a7, a8, a9⟩ := X.out.cp
  obtain ⟨b0, b1, b2, b3⟩ := X.out.cs
  go_wp2_with fail
  refine (awake_call _).mono ?_
  rintro e v1 ⟨rfl, hb⟩
  have X1 := hid (X.out.on hb)
  clear a0 a1 a2 a3 a4 a5 a6 a7 a8 a9 b0 b1 b2 b3
  clear hb X
  obtain ⟨a0, a1, a2, a3, a4, a5, a6, a7, a8, a9⟩ := X1.out.cp
  obtain ⟨b0, b1, b2, b3⟩ := X1.out.cs
  go_wp2_with fail
  refine (HRI.out _).mono ?_
  rintro e v2 ⟨rfl, hb⟩
  have X2 := hid (X1.out.on hb)
  clear a0 a1 a2 a3 a4 a5 a6 a7 a8 a9 b0 b1 b2 b3
  clear hb X1
  obtain ⟨a0, a1, a2, a3, a4, a5, a6, a7, a8, a9⟩ := X2.out.cp
  obtain ⟨b0, b1, b2, b3⟩ := X2.out.cs
  go_wp2_with fail
  refine (MV.out _ X2.out.below).mono ?_
  rintro e v3 ⟨sl, rfl, ho, hb⟩
  obtain ⟨A2, cc, rfl, f⟩ := ho.form
  have hB0 := hb.size
  have WB := hid (WinAt.begin (g := xg) ho)
  have X3 := hid ((X2.out.on hb).on ((Below.refl v3.heap.size v3).alloc (Nat.le_refl _) (.cells #[.int .i64 xg, .slice A2 xl.length cc] 26)))
  clear hb ho f X2 hB0
  clear a0 a1 a2 a3 a4 a5 a6 a7 a8 a9 b0 b1 b2 b3
  go_upto_region 6 with fail
  generalize (v3.alloc (.cells #[.int .i64 xg, .slice A2 xl.length cc] 26)) = V3 at *
  generalize v3.heap.size = xb at *
  obtain ⟨a0, a1, a2, a3, a4, a5, a6, a7, a8, a9⟩ := X3.out.cp
  obtain ⟨b0, b1, b2, b3⟩ := X3.out.cs
  obtain ⟨WXc0, WXc1⟩ := WB.out.cell
  go_wp2_with fail
  refine (MAYC.out _ _ _ _ WB.out.own).mono ?_
  rintro e v4 ⟨rfl, hb⟩
  have X4 := hid (X3.out.on hb)
  have WX4 := hid (WB.out.on hb)
  clear a0 a1 a2 a3 a4 a5 a6 a7 a8 a9 b0 b1 b2 b3 WXc0 WXc1
  clear hb X3 WB
  obtain ⟨a0, a1, a2, a3, a4, a5, a6, a7, a8, a9⟩ := X4.out.cp
  obtain ⟨b0, b1, b2, b3⟩ := X4.out.cs
  obtain ⟨WXc0, WXc1⟩ := WX4.out.cell
  go_wp2_with fail
  refine (MAYF.out _ _ _ _ WX4.out.own).mono ?_
  rintro e v5 ⟨rfl, hb⟩
  have X5 := hid (X4.out.on hb)
  have WX5 := hid (WX4.out.on hb)
  clear a0 a1 a2 a3 a4 a5 a6 a7 a8 a9 b0 b1 b2 b3 WXc0 WXc1
  clear hb X4 WX4
  obtain ⟨a0, a1, a2, a3, a4, a5, a6, a7, a8, a9⟩ := X5.out.cp
  obtain ⟨b0, b1, b2, b3⟩ := X5.out.cs
  obtain ⟨WXc0, WXc1⟩ := WX5.out.cell
  go_wp2_with fail
  refine (TOT.out _ _ _ _ WX5.out.own).mono ?_
  rintro e v6 ⟨rfl, hb⟩
  have X6 := hid (X5.out.on hb)
  have WX6 := hid (WX5.out.on hb)
  clear a0 a1 a2 a3 a4 a5 a6 a7 a8 a9 b0 b1 b2 b3 WXc0 WXc1
  clear hb X5 WX5
  obtain ⟨a0, a1, a2, a3, a4, a5, a6, a7, a8, a9⟩ := X6.out.cp
  obtain ⟨b0, b1, b2, b3⟩ := X6.out.cs
  obtain ⟨WXc0, WXc1⟩ := WX6.out.cell
  go_wp2_with fail
  refine (MVX.out _ _ _ _ WX6.out.own).mono ?_
  rintro e v7 ⟨sl2, rfl, ho, hb⟩
  obtain ⟨A3, c3, rfl, f⟩ := ho.form
  have O7 := hid ho
  clear ho f
  have X7 := hid (X6.out.on hb)
  have WX7 := hid (WX6.out.on hb)
  clear a0 a1 a2 a3 a4 a5 a6 a7 a8 a9 b0 b1 b2 b3 WXc0 WXc1
  clear hb X6 WX6
  obtain ⟨a0, a1, a2, a3, a4, a5, a6, a7, a8, a9⟩ := X7.out.cp
  obtain ⟨b0, b1, b2, b3⟩ := X7.out.cs
  obtain ⟨WXc0, WXc1⟩ := WX7.out.cell
  go_wp2_with fail
  refine (TOT2.out _ _ _ _ O7.out).mono ?_
  rintro e v8 ⟨rfl, hb⟩
  have X8 := hid (X7.out.on hb)
  have WX8 := hid (WX7.out.on hb)
  clear a0 a1 a2 a3 a4 a5 a6 a7 a8 a9 b0 b1 b2 b3 WXc0 WXc1
  clear hb X7 WX7
  obtain ⟨a0, a1, a2, a3, a4, a5, a6, a7, a8, a9⟩ := X8.out.cp
  obtain ⟨b0, b1, b2, b3⟩ := X8.out.cs
  obtain ⟨WXc0, WXc1⟩ := WX8.out.cell
  cases mc with
  | true =>
    have := HMF.out rfl
    subst this
    go_wp2_with fail
    all_goals (go_ret; exact ⟨rfl, X8.out.below⟩)
  | false =>
    cases mf with
    | true =>
      go_wp2_with fail
      all_goals (go_ret; exact ⟨rfl, X8.out.below⟩)
    | false =>
      go_wp2_with fail
      all_goals (go_ret; exact ⟨rfl, X8.out.below⟩)

theorem more_call (p : Pol) (s : Win) (A : Option Addr) (c : Nat) (t cost fewer : Int) (w : World) (hl : s.l.length ≤ 9223372036854775807) (hrd : ReadIn w A s.l) :
    Calls Try.prog 3 #[.agg #[.int .i64 p.k, .int .i64 p.cap, .int .i64 p.num, .int .i64 p.den, .int .i64 p.width, .int .i64 p.count, .int .i64 p.keys, .int .i64 p.slots, .int .i64 p.every, .int .i64 p.seg], .agg #[.int .i64 s.g, .slice A s.l.length c], .int .i64 t, .int .i64 cost, .int .i64 fewer] w fun e w' => e = .returned (.bool true) ∧ Below w.heap.size w w' := by
  cases h1 : okB p with
  | false => exact more_bad p s A c t cost fewer w hl hrd h1
  | true =>
    by_cases h2 : p.k = 2
    · by_cases h3 : fewer < 1
      · exact more_one p s A c t cost fewer w hl hrd h1 h2 h3
      · by_cases h4 : cost < fewer
        · exact more_more p s A c t cost fewer w hl hrd h1 h2 h3 h4
        · exact more_main p s A c t cost fewer w hl hrd h1 h2 h3 h4
    · exact more_kind p s A c t cost fewer w hl hrd h1 h2

#print axioms more_call
end Go.Proofs.Ytkcnenekmjgmgaa
