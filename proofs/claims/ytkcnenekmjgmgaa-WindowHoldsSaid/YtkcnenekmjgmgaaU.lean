/- The contracts on a window whose numbers lie in a row of their own; plain laws of windows. -/
import Derived.Test.YtkcnenekmjgmgaaT
namespace Go.Proofs.Ytkcnenekmjgmgaa
open Go.RowKit

theorem own_read {B : Nat} {w : World} {A : Option Addr} {c : Nat} {l : List Int} (h : Own B w (.slice A l.length c) l) :
    0 < l.length → ∃ g o, A = some ⟨g, o, none⟩ ∧ g < w.heap.size ∧ ∀ i, i < l.length → w.cell? ⟨g, o + i, none⟩ = some (.int .i64 (l.getD i 0)) := by
  obtain ⟨A', c', e, f⟩ := h.reads.form
  cases e
  exact f
theorem may_own (p : Pol) (x : Win) (cost : Int) {B : Nat} {w : World} {A : Option Addr} {c : Nat} (hl : x.l.length ≤ 9223372036854775807) (h : Own B w (.slice A x.l.length c) x.l) :
    Calls Try.prog 12 #[.agg #[.int .i64 p.k, .int .i64 p.cap, .int .i64 p.num, .int .i64 p.den, .int .i64 p.width, .int .i64 p.count, .int .i64 p.keys, .int .i64 p.slots, .int .i64 p.every, .int .i64 p.seg], .agg #[.int .i64 x.g, .slice A x.l.length c], .int .i64 cost] w fun e w' => e = .returned (.bool (mayW p x cost)) ∧ Below w.heap.size w w' := may_call p x A c cost w hl (own_read h)
theorem total_own (x : Win) {B : Nat} {w : World} {A : Option Addr} {c : Nat} (hl : x.l.length ≤ 9223372036854775807) (h : Own B w (.slice A x.l.length c) x.l) :
    Calls Try.prog 13 #[.agg #[.int .i64 x.g, .slice A x.l.length c]] w fun e w' => e = .returned (.int .i64 (totalN x)) ∧ Below w.heap.size w w' := total_call x A c w hl (own_read h)
theorem move_own (p : Pol) (x : Win) (t : Int) {B : Nat} {w : World} {A : Option Addr} {c : Nat} (hl : x.l.length ≤ 9223372036854775807) (h : Own B w (.slice A x.l.length c) x.l) :
    Calls Try.prog 11 #[.agg #[.int .i64 p.k, .int .i64 p.cap, .int .i64 p.num, .int .i64 p.den, .int .i64 p.width, .int .i64 p.count, .int .i64 p.keys, .int .i64 p.slots, .int .i64 p.every, .int .i64 p.seg], .agg #[.int .i64 x.g, .slice A x.l.length c], .int .i64 t] w fun e w' => ∃ sl, e = .returned (.agg #[.int .i64 (moveP p x t).g, sl]) ∧ Own w.heap.size w' sl (moveP p x t).l ∧ Below w.heap.size w w' := move_call p x A c t w hl (own_read h)
theorem take_own (p : Pol) (x : Win) (cost : Int) {B : Nat} {w : World} {A : Option Addr} {c : Nat} (hl : x.l.length ≤ 9223372036854775807) (h : Own B w (.slice A x.l.length c) x.l) :
    Calls Try.prog 15 #[.agg #[.int .i64 p.k, .int .i64 p.cap, .int .i64 p.num, .int .i64 p.den, .int .i64 p.width, .int .i64 p.count, .int .i64 p.keys, .int .i64 p.slots, .int .i64 p.every, .int .i64 p.seg], .agg #[.int .i64 x.g, .slice A x.l.length c], .int .i64 cost] w fun e w' => ∃ sl, e = .returned (.agg #[.int .i64 (takeW p x cost).g, sl]) ∧ Own w.heap.size w' sl (takeW p x cost).l ∧ Below w.heap.size w w' := take_call p x A c cost w hl (own_read h)

/-- A window handed in reads, in whatever world behind. -/
def ReadIn (w : World) (A : Option Addr) (l : List Int) : Prop := 0 < l.length → ∃ g o, A = some ⟨g, o, none⟩ ∧ g < w.heap.size ∧ ∀ i, i < l.length → w.cell? ⟨g, o + i, none⟩ = some (.int .i64 (l.getD i 0))
theorem ReadIn.on {w w' : World} {A : Option Addr} {l : List Int} (h : ReadIn w A l) (hb : Below w.heap.size w w') : ReadIn w' A l := fun h0 => by
  obtain ⟨g, o, e, hg, hc⟩ := h h0
  exact ⟨g, o, e, Nat.lt_of_lt_of_le hg hb.size, fun i hi => (hb.cell (p := ⟨g, o + i, none⟩) hg).trans (hc i hi)⟩

/-! ### Plain laws -/
theorem moveP_yes {p : Pol} (hm : meansW p = true) (s : Win) (t : Int) : moveP p s t = moveN p s t := by simp [moveP, hm]
theorem takeW_yes {p : Pol} (hm : meansW p = true) (s : Win) (t : Int) : takeW p s t = takeN p s t := by simp [takeW, hm]
theorem moveP_good {p : Pol} (hm : meansW p = true) (s : Win) (t : Int) : Good p (moveP p s t) := by rw [moveP_yes hm]; exact move_good hm s t
theorem takeW_good {p : Pol} (hm : meansW p = true) (s : Win) (c : Int) : Good p (takeW p s c) := by rw [takeW_yes hm]; exact take_good hm s c
theorem Good.small {p : Pol} {x : Win} (hm : meansW p = true) (h : Good p x) : x.l.length ≤ 32 := by
  have := (meansW_bounds hm).2.2.2
  have := h.len
  omega
theorem totalN_good {p : Pol} {x : Win} (hm : meansW p = true) (h : Good p x) : totalN x = sumN x.l := by
  have := h.small hm
  simp [totalN]
  omega
theorem mayW_good {p : Pol} {x : Win} (hm : meansW p = true) (h : Good p x) (c : Int) : mayW p x c = (within c 1 1048576 && decide (sumN x.l + c ≤ p.cap)) := by
  unfold mayW
  rw [hm, countsN_self hm h, totalN_good hm h]
  simp
theorem may_less {p : Pol} {x : Win} (hm : meansW p = true) (h : Good p x) {c f : Int} (h1 : 1 ≤ f) (h2 : f ≤ c) (hc : mayW p x c = true) : mayW p x f = true := by
  rw [mayW_good hm h] at *
  simp only [Bool.and_eq_true, within_iff, decide_eq_true_eq] at *
  omega
theorem sumN_zeros (n : Nat) : sumN (zeros n) = 0 := by
  induction n with
  | zero => rfl
  | succ n ih => simp only [zeros, List.replicate_succ, sumN] at *; rw [ih, clipI_mid (by omega) (by omega)]; rfl
theorem sumN_drop (l : List Int) (k : Nat) : sumN (l.drop k) ≤ sumN l := by
  have e := sumN_append (l.take k) (l.drop k)
  rw [List.take_append_drop] at e
  have := sumN_bound (l.take k)
  omega
theorem sumN_shift (l : List Int) (k : Nat) : sumN (shiftL l k) ≤ sumN l := by
  unfold shiftL
  rw [sumN_append, sumN_zeros]
  have := sumN_drop l k
  omega
theorem move_less {p : Pol} {x : Win} (hm : meansW p = true) (h : Good p x) (t : Int) : totalN (moveP p x t) ≤ totalN x := by
  rw [totalN_good hm (moveP_good hm x t), totalN_good hm h, moveP_yes hm]
  unfold moveN
  rw [countsN_self hm h]
  split
  · omega
  · exact sumN_shift _ _

#print axioms move_less
end Go.Proofs.Ytkcnenekmjgmgaa
