/- Contracts: a sum of numbers as they count; is one of them bad? -/
import Derived.Test.YtkcnenekmjgmgaaG
namespace Go.Proofs.Ytkcnenekmjgmgaa
open Go.RowKit

theorem take_succ_sum (l : List Int) (k : Nat) (h : k < l.length) : sumN (l.take (k + 1)) = sumN (l.take k) + clipI (l.getD k 0) 1099511627776 := by
  have e : l.take (k + 1) = l.take k ++ [l.getD k 0] := by
    rw [List.take_succ_eq_append_getElem h]
    simp [h]
  rw [e, sumN_append]
  simp [sumN]
theorem take_succ_any (l : List Int) (k : Nat) (h : k < l.length) : (l.take (k + 1)).any badN = ((l.take k).any badN || badN (l.getD k 0)) := by
  have e : l.take (k + 1) = l.take k ++ [l.getD k 0] := by
    rw [List.take_succ_eq_append_getElem h]
    simp [h]
  rw [e]
  simp

set_option maxHeartbeats 1000000 in
theorem sum_any (l : List Int) (A : Option Addr) (c : Nat) (w : World) (hl : l.length ≤ 32)
    (hr : 0 < l.length → ∃ g o, A = some ⟨g, o, none⟩ ∧ g < w.heap.size ∧ ∀ i, i < l.length → w.cell? ⟨g, o + i, none⟩ = some (.int .i64 (l.getD i 0))) :
    Calls Try.prog 34 #[.slice A l.length c] w fun e w' => e = .returned (.int .i64 (sumN l)) ∧ w = w' := by
  have R := hid hr
  clear hr
  generalize hn : l.length = n at *
  have N := hid hn
  clear hn
  go_enter Try.func34, Try.ntmps34
  go_wp2_with fail
  go_loopw [3, 5, 8] (fun s3 _ s8 wr => ∃ k : Nat, k ≤ n ∧ s3 = .int .i64 (sumN (l.take k)) ∧ s8 = .int .i64 k ∧ wr = w) (fun _ _ i _ => n - (intOf i).toNat)
  case atStart => exact ⟨0, by omega, by simp [sumN], rfl, rfl⟩
  case round =>
    obtain ⟨k, hk, rfl, rfl, rfl⟩ := hrel
    by_cases hlt : k < n
    · obtain ⟨g, o, rfl, hg, hc⟩ := R.out (by omega)
      have hki : (0 : Int) ≤ (k : Int) := by omega
      have hkn : (k : Int) < (n : Int) := by omega
      have hx := hc k hlt
      have S := hid (take_succ_sum l k (by have := N.out; omega))
      clear hc
      have hb := sumN_bound (l.take k)
      have hb2 : (l.take k).length ≤ 32 := by simp; omega
      have ha : 0 ≤ sumN (l.take k) ∧ sumN (l.take k) ≤ 35184372088832 := by omega
      clear hb hb2
      generalize sumN (l.take k) = a at *
      generalize l.getD k 0 = x at *
      have bx := clipI_bound x (m := 1099511627776) (by omega)
      rcases Int.lt_or_le x 0 with h1 | h1
      · have e := hid (clipI_low (m := 1099511627776) h1)
        go_wp2_with fail
        go_roundw
        case rel => exact ⟨k + 1, by omega, by rw [S.out, e.out]; simp, by go_num, by trivial⟩
        case measure => simp [intOf]; omega
      · rcases Int.lt_or_le 1099511627776 x with h2 | h2
        · have e := hid (clipI_high h1 h2)
          go_wp2_with fail
          go_roundw
          case rel => exact ⟨k + 1, by omega, by rw [S.out, e.out], by go_num, by trivial⟩
          case measure => simp [intOf]; omega
        · have e := hid (clipI_mid h1 h2)
          go_wp2_with fail
          go_roundw
          case rel => exact ⟨k + 1, by omega, by rw [S.out, e.out], by go_num, by trivial⟩
          case measure => simp [intOf]; omega
    · have E := hid (show l.take k = l from List.take_of_length_le (by have := N.out; omega))
      have : k = n := by omega
      subst this
      have hlt : ¬ (k : Int) < (k : Int) := by omega
      go_wp2_with fail
      go_ret
      exact ⟨by rw [E.out]; rfl, rfl⟩

theorem wrong_any (n : Int) (w : World) : Calls Try.prog 40 #[.int .i64 n] w fun e w' => e = .returned (.bool (badN n)) ∧ w = w' := by
  by_cases h1 : n < 0
  · go_enter Try.func40, Try.ntmps40
    go_wp2
    go_ret
    exact ⟨by rw [badN_low h1]; rfl, rfl⟩
  · by_cases h2 : 1099511627776 < n
    · go_enter Try.func40, Try.ntmps40
      go_wp2
      go_ret
      exact ⟨by rw [badN_high h2]; rfl, rfl⟩
    · go_enter Try.func40, Try.ntmps40
      go_wp2
      go_ret
      exact ⟨by rw [badN_not (by omega) (by omega)]; rfl, rfl⟩

set_option maxHeartbeats 1000000 in
/-- IndexFunc: below 0 just where none is bad. -/
theorem index_any (l : List Int) (A : Option Addr) (c : Nat) (w : World) (hl : l.length ≤ 9223372036854775807)
    (hr : 0 < l.length → ∃ g o, A = some ⟨g, o, none⟩ ∧ g < w.heap.size ∧ ∀ i, i < l.length → w.cell? ⟨g, o + i, none⟩ = some (.int .i64 (l.getD i 0))) :
    Calls Try.prog 44 #[.slice A l.length c, .func (.func 40) #[] #[]] w fun e w' => (∃ r : Int, e = .returned (.int .i64 r) ∧ decide (0 ≤ r) = l.any badN) ∧ w = w' := by
  have R := hid hr
  clear hr
  generalize hn : l.length = n at *
  have N := hid hn
  clear hn
  go_enter Try.func44, Try.ntmps44
  go_wp2_with fail
  go_loopw [5, 8] (fun _ s8 wr => ∃ k : Nat, k ≤ n ∧ s8 = .int .i64 k ∧ Aside ((l.take k).any badN = false) ∧ wr = w) (fun _ i _ => n - (intOf i).toNat)
  case atStart => exact ⟨0, by omega, rfl, by simp [Aside], rfl⟩
  case round =>
    obtain ⟨k, hk, rfl, hA, rfl⟩ := hrel
    by_cases hlt : k < n
    · obtain ⟨g, o, rfl, hg, hc⟩ := R.out (by omega)
      have hki : (0 : Int) ≤ (k : Int) := by omega
      have hkn : (k : Int) < (n : Int) := by omega
      have hx := hc k hlt
      have S := hid (take_succ_any l k (by have := N.out; omega))
      have K := hid (show k < l.length by have := N.out; omega)
      clear hc
      have W := hid (fun w => wrong_any (l.getD k 0) w)
      generalize hq : badN (l.getD k 0) = q at *
      have Q := hid hq
      clear hq
      generalize hy : l.getD k 0 = x at *
      have Y := hid hy
      clear hy
      cases q with
      | true =>
        go_wp2_with (go_at_call 40; refine (W.out _).mono ?_; rintro e w1 ⟨rfl, rfl⟩)
        go_ret
        refine ⟨⟨_, rfl, ?_⟩, rfl⟩
        have : l.any badN = true := List.any_eq_true.2 ⟨l.getD k 0, getD_mem K.out, by rw [Y.out]; exact Q.out⟩
        rw [this]
        simp
      | false =>
        go_wp2_with (go_at_call 40; refine (W.out _).mono ?_; rintro e w1 ⟨rfl, rfl⟩)
        go_roundw
        case rel => exact ⟨k + 1, by omega, by go_num, by show Aside _; have := S.out; rw [hA.out] at this; exact this, by trivial⟩
        case measure => simp [intOf]; omega
    · have : k = n := by omega
      subst this
      have hlt : ¬ (k : Int) < (k : Int) := by omega
      have hA' := hA.out
      rw [← N.out, List.take_length] at hA'
      have HA := hid hA'
      clear hA' hA
      go_wp2_with fail
      go_ret
      exact ⟨⟨_, rfl, by rw [HA.out]; rfl⟩, rfl⟩

theorem contains_any (l : List Int) (A : Option Addr) (c : Nat) (w : World) (hl : l.length ≤ 9223372036854775807)
    (hr : 0 < l.length → ∃ g o, A = some ⟨g, o, none⟩ ∧ g < w.heap.size ∧ ∀ i, i < l.length → w.cell? ⟨g, o + i, none⟩ = some (.int .i64 (l.getD i 0))) :
    Calls Try.prog 41 #[.slice A l.length c, .func (.func 40) #[] #[]] w fun e w' => e = .returned (.bool (l.any badN)) ∧ w = w' := by
  have I := hid (index_any l A c w hl hr)
  clear hr hl
  generalize l.length = n at *
  generalize l.any badN = b at *
  go_enter Try.func41, Try.ntmps41
  go_wp2_with fail
  refine I.out.mono ?_
  rintro e w1 ⟨⟨r, rfl, hr⟩, rfl⟩
  by_cases h : 0 ≤ r
  · go_wp2_with fail
    go_ret
    exact ⟨by rw [← hr]; simp [h], rfl⟩
  · go_wp2_with fail
    go_ret
    exact ⟨by rw [← hr]; simp, rfl⟩

#print axioms contains_any
end Go.Proofs.Ytkcnenekmjgmgaa
