/- The reference's When: by halving. -/
import Derived.Test.YtlhnlickmjdjfaaJ
import Derived.Test.YtlhnlickmjdjfaaQ
import Derived.LoopTactic
namespace Go.Proofs.Ytlhnlickmjdjfaa
open Go.RowKit

set_option maxHeartbeats 2000000 in
theorem refWhen_never (k cap num den width count keys slots every seg o c : Int) (D : Int → Int) (M : Int → Bool)
    (hD : ∀ (t : Int) (W : World), Calls Try.prog 13 #[.agg #[.int .i64 k, .int .i64 cap, .int .i64 num, .int .i64 den, .int .i64 width, .int .i64 count, .int .i64 keys, .int .i64 slots, .int .i64 every, .int .i64 seg], .int .i64 o, .int .i64 t] W fun e w' => e = .returned (.int .i64 (D t)) ∧ Below W.heap.size W w')
    (hM : ∀ (x : Int) (W : World), Calls Try.prog 14 #[.agg #[.int .i64 k, .int .i64 cap, .int .i64 num, .int .i64 den, .int .i64 width, .int .i64 count, .int .i64 keys, .int .i64 slots, .int .i64 every, .int .i64 seg], .int .i64 x, .int .i64 c] W fun e w' => e = .returned (.bool (M x)) ∧ Below W.heap.size W w')
    (hf : M (D 1099511627776) = false) (w : World) :
    Calls Try.prog 17 #[.agg #[.int .i64 k, .int .i64 cap, .int .i64 num, .int .i64 den, .int .i64 width, .int .i64 count, .int .i64 keys, .int .i64 slots, .int .i64 every, .int .i64 seg], .int .i64 o, .int .i64 c] w fun e w' => e = .returned (.int .i64 (-1)) ∧ Below w.heap.size w w' := by
  have hM1 := hM (D 1099511627776)
  rw [hf] at hM1
  have HD := hid hD
  have HM := hid hM1
  clear hD hM hM1 hf
  go_enter Try.func17, Try.ntmps17
  go_upto_region 1 with fail
  refine abstract_world (fun W => Below w.heap.size w W ∧ W.heap.size = w.heap.size + 1 ∧ W.cell? ⟨w.heap.size, 0, none⟩ = some (.int .i64 k) ∧ W.cell? ⟨w.heap.size, 1, none⟩ = some (.int .i64 cap) ∧ W.cell? ⟨w.heap.size, 2, none⟩ = some (.int .i64 num) ∧ W.cell? ⟨w.heap.size, 3, none⟩ = some (.int .i64 den) ∧ W.cell? ⟨w.heap.size, 4, none⟩ = some (.int .i64 width) ∧ W.cell? ⟨w.heap.size, 5, none⟩ = some (.int .i64 count) ∧ W.cell? ⟨w.heap.size, 6, none⟩ = some (.int .i64 keys) ∧ W.cell? ⟨w.heap.size, 7, none⟩ = some (.int .i64 slots) ∧ W.cell? ⟨w.heap.size, 8, none⟩ = some (.int .i64 every) ∧ W.cell? ⟨w.heap.size, 9, none⟩ = some (.int .i64 seg)) ?_ ?_
  · exact ⟨(Below.refl w.heap.size w).alloc (Nat.le_refl _) _, by simp, by simp⟩
  · intro W ⟨hB, hz, h0, h1, h2, h3, h4, h5, h6, h7, h8, h9⟩
    have hz1 : w.heap.size < W.heap.size := by omega
    have x0 := fun x : Later W => Later.cell (a := ⟨w.heap.size, 0, none⟩) hz1 h0 x
    have x1 := fun x : Later W => Later.cell (a := ⟨w.heap.size, 1, none⟩) hz1 h1 x
    have x2 := fun x : Later W => Later.cell (a := ⟨w.heap.size, 2, none⟩) hz1 h2 x
    have x3 := fun x : Later W => Later.cell (a := ⟨w.heap.size, 3, none⟩) hz1 h3 x
    have x4 := fun x : Later W => Later.cell (a := ⟨w.heap.size, 4, none⟩) hz1 h4 x
    have x5 := fun x : Later W => Later.cell (a := ⟨w.heap.size, 5, none⟩) hz1 h5 x
    have x6 := fun x : Later W => Later.cell (a := ⟨w.heap.size, 6, none⟩) hz1 h6 x
    have x7 := fun x : Later W => Later.cell (a := ⟨w.heap.size, 7, none⟩) hz1 h7 x
    have x8 := fun x : Later W => Later.cell (a := ⟨w.heap.size, 8, none⟩) hz1 h8 x
    have x9 := fun x : Later W => Later.cell (a := ⟨w.heap.size, 9, none⟩) hz1 h9 x
    clear hz h0 h1 h2 h3 h4 h5 h6 h7 h8 h9
    refine wp_region_quiet_later (by kernel_rfl) (by kernel_rfl) ?_
    repeat (go_big_quiet_step ((first | (go_at_call 13; refine later_of (v := .int .i64 (D 1099511627776)) ?_; exact HD.out _ _) | (go_at_call 14; refine later_of (v := .bool false) ?_; exact HM.out _))))
    refine wpQuiet_nil ?_
    intro _ hw'
    obtain ⟨x, hw''⟩ := hw'
    subst hw''
    go_wp2
    go_ret
    exact ⟨rfl, hB.trans (x.below.mono (Nat.le_of_lt hz1))⟩

set_option maxHeartbeats 4000000 in
theorem refWhen_least (k cap num den width count keys slots every seg o c : Int) (D : Int → Int) (M : Int → Bool)
    (hD : ∀ (t : Int) (W : World), Calls Try.prog 13 #[.agg #[.int .i64 k, .int .i64 cap, .int .i64 num, .int .i64 den, .int .i64 width, .int .i64 count, .int .i64 keys, .int .i64 slots, .int .i64 every, .int .i64 seg], .int .i64 o, .int .i64 t] W fun e w' => e = .returned (.int .i64 (D t)) ∧ Below W.heap.size W w')
    (hM : ∀ (x : Int) (W : World), Calls Try.prog 14 #[.agg #[.int .i64 k, .int .i64 cap, .int .i64 num, .int .i64 den, .int .i64 width, .int .i64 count, .int .i64 keys, .int .i64 slots, .int .i64 every, .int .i64 seg], .int .i64 x, .int .i64 c] W fun e w' => e = .returned (.bool (M x)) ∧ Below W.heap.size W w')
    (t0 : Int) (ht0 : 0 ≤ t0) (ht1 : t0 ≤ 1099511627776) (hf : ∀ t, 0 ≤ t → t ≤ 1099511627776 → M (D t) = decide (t0 ≤ t)) (w : World) :
    Calls Try.prog 17 #[.agg #[.int .i64 k, .int .i64 cap, .int .i64 num, .int .i64 den, .int .i64 width, .int .i64 count, .int .i64 keys, .int .i64 slots, .int .i64 every, .int .i64 seg], .int .i64 o, .int .i64 c] w fun e w' => e = .returned (.int .i64 t0) ∧ Below w.heap.size w w' := by
  have hM1 := hM (D 1099511627776)
  rw [hf 1099511627776 (by omega) (by omega), decide_eq_true ht1] at hM1
  have HD := hid hD
  have HM := hid hM
  have HF := hid hf
  have HM1 := hid hM1
  clear hD hM hM1 hf
  go_enter Try.func17, Try.ntmps17
  go_upto_region 1 with fail
  refine abstract_world (fun W => Below w.heap.size w W ∧ W.heap.size = w.heap.size + 1 ∧ W.cell? ⟨w.heap.size, 0, none⟩ = some (.int .i64 k) ∧ W.cell? ⟨w.heap.size, 1, none⟩ = some (.int .i64 cap) ∧ W.cell? ⟨w.heap.size, 2, none⟩ = some (.int .i64 num) ∧ W.cell? ⟨w.heap.size, 3, none⟩ = some (.int .i64 den) ∧ W.cell? ⟨w.heap.size, 4, none⟩ = some (.int .i64 width) ∧ W.cell? ⟨w.heap.size, 5, none⟩ = some (.int .i64 count) ∧ W.cell? ⟨w.heap.size, 6, none⟩ = some (.int .i64 keys) ∧ W.cell? ⟨w.heap.size, 7, none⟩ = some (.int .i64 slots) ∧ W.cell? ⟨w.heap.size, 8, none⟩ = some (.int .i64 every) ∧ W.cell? ⟨w.heap.size, 9, none⟩ = some (.int .i64 seg)) ?_ ?_
  · exact ⟨(Below.refl w.heap.size w).alloc (Nat.le_refl _) _, by simp, by simp⟩
  · intro W ⟨hB, hz, h0, h1, h2, h3, h4, h5, h6, h7, h8, h9⟩
    have hz1 : w.heap.size < W.heap.size := by omega
    have x0 := fun x : Later W => Later.cell (a := ⟨w.heap.size, 0, none⟩) hz1 h0 x
    have x1 := fun x : Later W => Later.cell (a := ⟨w.heap.size, 1, none⟩) hz1 h1 x
    have x2 := fun x : Later W => Later.cell (a := ⟨w.heap.size, 2, none⟩) hz1 h2 x
    have x3 := fun x : Later W => Later.cell (a := ⟨w.heap.size, 3, none⟩) hz1 h3 x
    have x4 := fun x : Later W => Later.cell (a := ⟨w.heap.size, 4, none⟩) hz1 h4 x
    have x5 := fun x : Later W => Later.cell (a := ⟨w.heap.size, 5, none⟩) hz1 h5 x
    have x6 := fun x : Later W => Later.cell (a := ⟨w.heap.size, 6, none⟩) hz1 h6 x
    have x7 := fun x : Later W => Later.cell (a := ⟨w.heap.size, 7, none⟩) hz1 h7 x
    have x8 := fun x : Later W => Later.cell (a := ⟨w.heap.size, 8, none⟩) hz1 h8 x
    have x9 := fun x : Later W => Later.cell (a := ⟨w.heap.size, 9, none⟩) hz1 h9 x
    have CS := hid (And.intro h0 (And.intro h1 (And.intro h2 (And.intro h3 (And.intro h4 (And.intro h5 (And.intro h6 (And.intro h7 (And.intro h8 h9)))))))))
    clear hz h0 h1 h2 h3 h4 h5 h6 h7 h8 h9
    refine wp_region_quiet_later (by kernel_rfl) (by kernel_rfl) ?_
    repeat (go_big_quiet_step ((first | (go_at_call 13; refine later_of (v := .int .i64 (D 1099511627776)) ?_; exact HD.out _ _) | (go_at_call 14; refine later_of (v := .bool true) ?_; exact HM1.out _))))
    refine wpQuiet_nil ?_
    intro _ hw'
    obtain ⟨x, hw''⟩ := hw'
    subst hw''
    clear HM1 x0 x1 x2 x3 x4 x5 x6 x7 x8 x9
    have hbx := x.below
    generalize x.world = W1 at hbx
    clear x
    go_wp2_with fail
    go_loopw [8, 9] (fun lo hi wr => ∃ l r : Int, -1 ≤ l ∧ l < t0 ∧ t0 ≤ r ∧ r ≤ 1099511627776 ∧ lo = .int .i64 l ∧ hi = .int .i64 r ∧ Below W.heap.size W wr) (fun lo hi _ => (intOf hi - intOf lo).toNat)
    case atStart => exact ⟨-1, 1099511627776, by omega, by omega, ht1, by omega, rfl, rfl, hbx⟩
    case round =>
      obtain ⟨l, r, hl, hlt, htr, hr, rfl, rfl, hbr⟩ := hrel
      by_cases hgo : l + 1 < r
      · have hzr := hbr.size
        have hz2 : w.heap.size < wr.heap.size := by omega
        obtain ⟨h0, h1, h2, h3, h4, h5, h6, h7, h8, h9⟩ := ten_below hbr hz1 CS.out
        have x0 := fun x : Later wr => Later.cell (a := ⟨w.heap.size, 0, none⟩) hz2 h0 x
        have x1 := fun x : Later wr => Later.cell (a := ⟨w.heap.size, 1, none⟩) hz2 h1 x
        have x2 := fun x : Later wr => Later.cell (a := ⟨w.heap.size, 2, none⟩) hz2 h2 x
        have x3 := fun x : Later wr => Later.cell (a := ⟨w.heap.size, 3, none⟩) hz2 h3 x
        have x4 := fun x : Later wr => Later.cell (a := ⟨w.heap.size, 4, none⟩) hz2 h4 x
        have x5 := fun x : Later wr => Later.cell (a := ⟨w.heap.size, 5, none⟩) hz2 h5 x
        have x6 := fun x : Later wr => Later.cell (a := ⟨w.heap.size, 6, none⟩) hz2 h6 x
        have x7 := fun x : Later wr => Later.cell (a := ⟨w.heap.size, 7, none⟩) hz2 h7 x
        have x8 := fun x : Later wr => Later.cell (a := ⟨w.heap.size, 8, none⟩) hz2 h8 x
        have x9 := fun x : Later wr => Later.cell (a := ⟨w.heap.size, 9, none⟩) hz2 h9 x
        clear h0 h1 h2 h3 h4 h5 h6 h7 h8 h9
        have hf := HF.out ((l + r) / 2) (by omega) (by omega)
        have hM2 := HM.out (D ((l + r) / 2))
        by_cases hmid : t0 ≤ (l + r) / 2
        · rw [hf, decide_eq_true hmid] at hM2
          have HM2 := hid hM2
          clear hf hM2
          go_upto_region 8 with fail
          refine wp_region_quiet_later (by kernel_rfl) (by kernel_rfl) ?_
          repeat (go_big_quiet_step ((first | (go_at_call 13; refine later_of (v := .int .i64 (D ((l + r) / 2))) ?_; exact HD.out _ _) | (go_at_call 14; refine later_of (v := .bool true) ?_; exact HM2.out _))))
          refine wpQuiet_nil ?_
          intro _ hw'
          obtain ⟨x, hw''⟩ := hw'
          subst hw''
          go_wp2
          go_roundw
          case rel => exact ⟨l, (l + r) / 2, by omega, by omega, by omega, by omega, rfl, rfl, hbr.trans (x.below.mono hzr)⟩
          case measure => simp [intOf]; omega
        · rw [hf, decide_eq_false hmid] at hM2
          have HM2 := hid hM2
          clear hf hM2
          go_upto_region 8 with fail
          refine wp_region_quiet_later (by kernel_rfl) (by kernel_rfl) ?_
          repeat (go_big_quiet_step ((first | (go_at_call 13; refine later_of (v := .int .i64 (D ((l + r) / 2))) ?_; exact HD.out _ _) | (go_at_call 14; refine later_of (v := .bool false) ?_; exact HM2.out _))))
          refine wpQuiet_nil ?_
          intro _ hw'
          obtain ⟨x, hw''⟩ := hw'
          subst hw''
          go_wp2
          go_roundw
          case rel => exact ⟨(l + r) / 2, r, by omega, by omega, by omega, by omega, rfl, rfl, hbr.trans (x.below.mono hzr)⟩
          case measure => simp [intOf]; omega
      · obtain rfl : r = t0 := by omega
        go_wp2
        go_ret
        exact ⟨rfl, hB.trans (hbr.mono (Nat.le_of_lt hz1))⟩

/-- When of the reference. -/
theorem refWhen_call (p : Pol) (o c : Int) (w : World) :
    Calls Try.prog 17 #[.agg #[.int .i64 p.k, .int .i64 p.cap, .int .i64 p.num, .int .i64 p.den, .int .i64 p.width, .int .i64 p.count, .int .i64 p.keys, .int .i64 p.slots, .int .i64 p.every, .int .i64 p.seg], .int .i64 o, .int .i64 c] w
      fun e w' => e = .returned (.int .i64 (whenP p o c)) ∧ Below w.heap.size w w' := by
  have hD := fun (t : Int) (W : World) => refDecay_call p o t W
  have hM := fun (x : Int) (W : World) => refMay_call p x c W
  cases hm : meansB p with
  | false =>
    have e : whenP p o c = -1 := by simp [whenP, hm]
    rw [e]
    exact refWhen_never _ _ _ _ _ _ _ _ _ _ o c (fun t => decayP p o t) (fun x => mayP p x c) hD hM (by simp [mayP, hm]) w
  | true =>
    obtain ⟨_, _, hnum, hden⟩ := meansB_bounds hm
    have ew : whenP p o c = whenI p.cap p.num p.den o c := by simp [whenP, hm]
    have em : ∀ t, mayP p (decayP p o t) c = mayB p.cap p.den (decayI p.num o t) c := fun t => by simp [mayP, decayP, hm]
    rw [ew]
    rcases whenI_law (cap := p.cap) (num := p.num) (den := p.den) (o := o) (c := c) hnum.1 hden.1 with ⟨h1, h2⟩ | ⟨h1, h2, h3⟩
    · rw [h1]
      exact refWhen_never _ _ _ _ _ _ _ _ _ _ o c (fun t => decayP p o t) (fun x => mayP p x c) hD hM (by rw [em]; exact h2 _ (by omega) (by omega)) w
    · exact refWhen_least _ _ _ _ _ _ _ _ _ _ o c (fun t => decayP p o t) (fun x => mayP p x c) hD hM _ h1 h2 (fun t a b => by rw [em]; exact h3 t a b) w

end Go.Proofs.Ytlhnlickmjdjfaa
