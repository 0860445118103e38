/- Contract: are two windows the same? -/
import Derived.Test.YtkcnenekmjgmgaaU
namespace Go.Proofs.Ytkcnenekmjgmgaa
open Go.RowKit

/-- Two windows, the same. -/
def sameB (a b : Win) : Bool := decide (a.g = b.g ∧ a.l = b.l)

set_option maxHeartbeats 4000000 in
set_option maxRecDepth 100000 in
set_option linter.unusedVariables false in
theorem same_grid (a b : Win) (A A' : Option Addr) (c c' : Nat) (w : World) (hl : a.l.length ≤ 9223372036854775807) (hl' : b.l.length ≤ 9223372036854775807) (hr : ReadIn w A a.l) (hr' : ReadIn w A' b.l) (h : ¬ a.g = b.g) :
    Calls Try.prog 19 #[.agg #[.int .i64 a.g, .slice A a.l.length c], .agg #[.int .i64 b.g, .slice A' b.l.length c']] w fun e w' => e = .returned (.bool false) ∧ Below w.heap.size w w' := by
  clear hr hr'
  generalize a.l.length = n at *
  generalize b.l.length = m at *
  generalize a.g = ag at *
  generalize b.g = bg at *
  have h2 : (ag != bg) = true := by simp [h]
  go_enter Try.func19, Try.ntmps19
  go_wp2_with fail
  go_ret
  exact ⟨rfl, ((Below.refl w.heap.size w).alloc (Nat.le_refl _) _).alloc (by simp) _⟩

set_option maxHeartbeats 4000000 in
set_option maxRecDepth 100000 in
set_option linter.unusedVariables false in
theorem same_len (a b : Win) (A A' : Option Addr) (c c' : Nat) (w : World) (hl : a.l.length ≤ 9223372036854775807) (hl' : b.l.length ≤ 9223372036854775807) (hr : ReadIn w A a.l) (hr' : ReadIn w A' b.l) (h : a.g = b.g) (h2 : ¬ a.l.length = b.l.length) :
    Calls Try.prog 19 #[.agg #[.int .i64 a.g, .slice A a.l.length c], .agg #[.int .i64 b.g, .slice A' b.l.length c']] w fun e w' => e = .returned (.bool false) ∧ Below w.heap.size w w' := by
  clear hr hr'
  rw [← h]
  generalize a.l.length = n at *
  generalize b.l.length = m at *
  generalize a.g = ag at *
  clear h
  have h2 : ((n : Int) != (m : Int)) = true := by simp; omega
  go_enter Try.func19, Try.ntmps19
  go_wp2_with fail
  go_ret
  exact ⟨rfl, ((Below.refl w.heap.size w).alloc (Nat.le_refl _) _).alloc (by simp) _⟩

theorem take_eq_succ {a b : List Int} {k : Nat} (h : a.take k = b.take k) (hx : a.getD k 0 = b.getD k 0) (ha : k < a.length) (hb : k < b.length) : a.take (k + 1) = b.take (k + 1) := by
  rw [List.take_succ_eq_append_getElem ha, List.take_succ_eq_append_getElem hb, h]
  simp [ha, hb] at hx
  rw [hx]

set_option maxHeartbeats 4000000 in
set_option maxRecDepth 100000 in
set_option linter.unusedVariables false in
theorem same_list (a b : Win) (A A' : Option Addr) (c c' : Nat) (w : World) (hl : a.l.length ≤ 9223372036854775807) (hl' : b.l.length ≤ 9223372036854775807) (hr : ReadIn w A a.l) (hr' : ReadIn w A' b.l) (h : a.g = b.g) (h2 : b.l.length = a.l.length) :
    Calls Try.prog 19 #[.agg #[.int .i64 a.g, .slice A a.l.length c], .agg #[.int .i64 b.g, .slice A' b.l.length c']] w fun e w' => e = .returned (.bool (decide (a.l = b.l))) ∧ Below w.heap.size w w' := by
  rw [← h, h2]
  have R := hid hr
  have R' := hid hr'
  clear hr hr' h hl'
  obtain ⟨ag, al⟩ := a
  obtain ⟨bg, bl⟩ := b
  dsimp only at *
  have H2 := hid h2
  clear h2
  generalize hn : al.length = n at *
  have HN := hid hn
  clear hn
  go_enter Try.func19, Try.ntmps19
  go_upto_region 3 with fail
  refine abstract_world (fun W => Below w.heap.size w W ∧ W.cell? ⟨w.heap.size, 1, none⟩ = some (.slice A n c) ∧ W.cell? ⟨w.heap.size + 1, 1, none⟩ = some (.slice A' n c')) ?_ ?_
  · exact ⟨((Below.refl w.heap.size w).alloc (Nat.le_refl _) _).alloc (by simp) _, by simp, by simp⟩
  intro W ⟨hB, c1, c2⟩
  go_wp2_with fail
  go_loopw [5] (fun s5 wr => ∃ k q : Nat, k ≤ n ∧ s5 = .int .i64 k ∧ Aside (al.take k = bl.take k) ∧ wr = W.drewN q) (fun i _ => n - (intOf i).toNat)
  case atStart => exact ⟨0, 0, by omega, rfl, by simp [Aside], rfl⟩
  case round =>
    obtain ⟨k, q, hk, rfl, hA, rfl⟩ := hrel
    by_cases hlt : k < n
    · obtain ⟨g1, o1, rfl, hg1, hc1⟩ := R.out (by have := HN.out; omega)
      obtain ⟨g2, o2, rfl, hg2, hc2⟩ := R'.out (by have := HN.out; have := H2.out; omega)
      have hki : (0 : Int) ≤ (k : Int) := by omega
      have hkn : (k : Int) < (n : Int) := by omega
      have hx := (hB.cell (p := ⟨g1, o1 + k, none⟩) hg1).trans (hc1 k (by have := HN.out; omega))
      have hy := (hB.cell (p := ⟨g2, o2 + k, none⟩) hg2).trans (hc2 k (by have := HN.out; have := H2.out; omega))
      have TE := hid (fun e => take_eq_succ (a := al) (b := bl) (k := k) hA.out e (by have := HN.out; omega) (by have := HN.out; have := H2.out; omega))
      have NE := hid (show al = bl → al.getD k 0 = bl.getD k 0 from fun e => by rw [e])
      clear hc1 hc2
      generalize al.getD k 0 = x at *
      generalize bl.getD k 0 = y at *
      by_cases hxy : x = y
      · subst hxy
        go_upto_region 6 with fail
        go_quiet (fail)
        go_wp2_with fail
        go_roundw
        case rel => exact ⟨k + 1, _, by omega, by go_num, TE.out rfl, rfl⟩
        case measure => simp [intOf]; omega
      · have hne : (x != y) = true := by simp [hxy]
        have hf := NE.out
        have hd : decide (al = bl) = false := by simp; exact fun e => hxy (hf e)
        go_upto_region 6 with fail
        go_quiet (fail)
        go_wp2_with fail
        go_ret
        exact ⟨by rw [hd]; rfl, below_drewN' (below_drewN' hB _) _⟩
    · have : k = n := by omega
      subst this
      have hlt : ¬ (k : Int) < (k : Int) := by omega
      have E := hid (show decide (al = bl) = true by
        have := hA.out
        rw [List.take_of_length_le (by have := HN.out; omega), List.take_of_length_le (by have := HN.out; have := H2.out; omega)] at this
        simp [this])
      clear hA
      go_wp2_with fail
      go_ret
      exact ⟨by rw [E.out]; rfl, below_drewN' hB _⟩

theorem same_call (a b : Win) (A A' : Option Addr) (c c' : Nat) (w : World) (hl : a.l.length ≤ 9223372036854775807) (hl' : b.l.length ≤ 9223372036854775807) (hr : ReadIn w A a.l) (hr' : ReadIn w A' b.l) :
    Calls Try.prog 19 #[.agg #[.int .i64 a.g, .slice A a.l.length c], .agg #[.int .i64 b.g, .slice A' b.l.length c']] w fun e w' => e = .returned (.bool (sameB a b)) ∧ Below w.heap.size w w' := by
  by_cases h : a.g = b.g
  · by_cases h2 : b.l.length = a.l.length
    · rw [show sameB a b = decide (a.l = b.l) by simp [sameB, h]]
      exact same_list a b A A' c c' w hl hl' hr hr' h h2
    · rw [show sameB a b = false by simp [sameB]; intro _ e; exact h2 (by rw [e])]
      exact same_len a b A A' c c' w hl hl' hr hr' h (fun e => h2 e.symm)
  · rw [show sameB a b = false by simp [sameB, h]]
    exact same_grid a b A A' c c' w hl hl' hr hr' h

#print axioms same_call
end Go.Proofs.Ytkcnenekmjgmgaa
