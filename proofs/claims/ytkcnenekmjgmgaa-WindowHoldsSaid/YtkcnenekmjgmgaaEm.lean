/- WindowEmpties, told: what its printed function answers. -/
import Derived.Test.YtkcnenekmjgmgaaPBx3
import Derived.Test.YtkcnenekmjgmgaaYe
namespace Go.Proofs.Ytkcnenekmjgmgaa
open Go.RowKit Go.Proofs.YtkcnenekmjgmgaaW.PrintWords

theorem wrap_small {x : Int} (h1 : -9223372036854775808 ≤ x) (h2 : x ≤ 9223372036854775807) : wrap64 x = x := by unfold wrap64; omega

theorem empties_told (p : Pol) (s : Win) (c : Int) : ∃ k, YtkcnenekmjgmgaaP.reevelaw08_WindowEmpties.f k p.k p.cap p.num p.den p.width p.count p.keys p.slots p.every p.seg s.g s.l c = some true := by
  refine ⟨2, ?_⟩
  unfold YtkcnenekmjgmgaaP.reevelaw08_WindowEmpties.f YtkcnenekmjgmgaaP.reevelaw08_awake.f YtkcnenekmjgmgaaP.reeveref04_Right.f
  simp only [Option.bind_some, if_true]
  show (if rightN p = 0 then _ else _) = _
  cases hok : okB p with
  | false =>
    rw [rightN_no hok, if_neg (by omega)]
    simp only [YtkcnenekmjgmgaaP.reevelaw08_WindowEmpties.j0, if_true]
  | true =>
    rw [rightN_yes hok, if_pos rfl]
    by_cases hk : p.k = 2
    · rw [show (p.k != 2) = false by simp [hk]]
      have hm := meansW_yes hk hok
      simp only [YtkcnenekmjgmgaaP.reevelaw08_WindowEmpties.j0, Bool.false_eq_true, if_false, YtkcnenekmjgmgaaP.window_Move.f, YtkcnenekmjgmgaaP.window_Take.f, Option.bind_some]
      have hgx := moveP_good hm s 0
      have hgy := takeW_good hm (moveP p s 0) c
      show (if (takeW p (moveP p s 0) c).g < 0 then _ else _) = _
      generalize takeW p (moveP p s 0) c = y at *
      have hlo := hgy.lo
      have hhi := hgy.hi
      have hlen := hgy.len
      have hcc := (meansW_bounds hm).2.2.2
      have hww := (meansW_bounds hm).2.2.1
      have hgb := (gridN_bound hm 1099511627776).2
      have hl2 : (y.l.length : Int) = p.count := by omega
      rw [if_neg (by omega), if_pos hl2, if_neg (by omega)]
      have hdiv : (1099511627776 : Int) / p.width = (1099511627776 : Int).tdiv p.width := (Int.tdiv_eq_ediv_of_nonneg (by omega)).symm
      have hd0 : 0 ≤ (1099511627776 : Int) / p.width := Int.ediv_nonneg (by omega) (by omega)
      have hd1 : (1099511627776 : Int) / p.width ≤ 1099511627776 := Int.ediv_le_self _ (by omega)
      rw [wrap_small (x := y.g + p.count) (by omega) (by omega), wrap_small (x := (1099511627776 : Int) / p.width) (by omega) (by omega)]
      simp only [YtkcnenekmjgmgaaP.reevelaw08_WindowEmpties.j1]
      by_cases hbig : y.g + p.count > (1099511627776 : Int) / p.width
      · rw [decide_eq_true hbig, if_pos rfl, if_pos (by omega), hl2]
        simp
      · rw [decide_eq_false hbig, if_neg (by decide)]
        have hle : y.g + p.count ≤ (1099511627776 : Int).tdiv p.width := by rw [← hdiv]; omega
        have hga := grid_at hm (show 0 ≤ y.g + p.count by omega) hle
        have hmul0 : 0 ≤ (y.g + p.count) * p.width := Int.mul_nonneg (by omega) (by omega)
        rw [wrap_small (x := p.count - 1) (by omega) (by omega), wrap_small (x := y.g + p.count) (by omega) (by omega), wrap_small (x := (y.g + p.count) * p.width) (by omega) (by omega), wrap_small (x := (y.g + p.count) * p.width - 1) (by omega) (by omega)]
        rw [if_pos (by omega), if_pos (by omega)]
        simp only [Option.bind_some, YtkcnenekmjgmgaaP.window_Total.f]
        show (if totalN (moveP p y ((y.g + p.count) * p.width)) = 0 then some (totalN (moveP p y ((y.g + p.count) * p.width - 1)) == rd y.l (p.count - 1)) else some false) = some true
        rw [empties_gone hm hgy hle, empties_left hm hgy hle, if_pos rfl]
        unfold rd
        rw [show (p.count - 1).toNat = y.l.length - 1 by omega]
        simp
    · rw [show (p.k != 2) = true by simp [hk]]
      simp only [YtkcnenekmjgmgaaP.reevelaw08_WindowEmpties.j0, if_true]

theorem kd_of_in {w : World} {A : Option Addr} {l : List Int} (hl : l.length ≤ 9223372036854775807) (h : ReadIn w A l) : YtkcnenekmjgmgaaW.PrintWords.Kd.C (YtkcnenekmjgmgaaW.PrintWords.Kd.int .i64) w A l.length l := by
  refine Kd.C_of_reads (enc := Value.int .i64) (d := 0) ⟨rfl, hl, fun h0 => ?_⟩
  obtain ⟨g, o, e, _, hc⟩ := h h0
  refine ⟨_, e, fun i hi => ?_⟩
  have e2 : (⟨g, o, none⟩ : Addr).add i = ⟨g, o + i, none⟩ := by unfold Addr.add; split <;> simp_all
  rw [e2]
  exact hc i hi

theorem empties_call (p : Pol) (s : Win) (A : Option Addr) (c : Nat) (cost : Int) (w : World) (hl : s.l.length ≤ 9223372036854775807) (hrd : ReadIn w A s.l) (hc : s.l.length ≤ c) :
    Calls Try.prog 7 #[.agg #[.int .i64 p.k, .int .i64 p.cap, .int .i64 p.num, .int .i64 p.den, .int .i64 p.width, .int .i64 p.count, .int .i64 p.keys, .int .i64 p.slots, .int .i64 p.every, .int .i64 p.seg], .agg #[.int .i64 s.g, .slice A s.l.length c], .int .i64 cost] w fun e w' => e = .returned (.bool true) ∧ Below w.heap.size w w' := by
  obtain ⟨k, hk⟩ := empties_told p s cost
  exact YtkcnenekmjgmgaaP.reevelaw08_WindowEmpties.calls k _ _ _ _ _ _ _ _ _ _ _ _ _ _ _ _ _ (kd_of_in hl hrd) hc hk

#print axioms empties_call
end Go.Proofs.Ytkcnenekmjgmgaa
