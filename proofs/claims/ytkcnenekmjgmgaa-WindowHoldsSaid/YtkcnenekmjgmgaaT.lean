/- The policy of the document's example, and the small case that each law begins with. -/
import Derived.Test.YtkcnenekmjgmgaaP
namespace Go.Proofs.Ytkcnenekmjgmgaa
open Go.RowKit

theorem plain_window (w : World) : Calls Try.prog 29 #[.int .i64 2] w
    fun e w' => e = .returned (.agg #[.int .i64 2, .int .i64 10, .int .i64 0, .int .i64 0, .int .i64 5, .int .i64 3, .int .i64 5, .int .i64 3, .int .i64 4, .int .i64 6]) ∧ Below w.heap.size w w' := by
  go_enter Try.func29, Try.ntmps29
  go_wp2
  exact bodyPost_ret (v := .agg #[.int .i64 2, .int .i64 10, .int .i64 0, .int .i64 0, .int .i64 5, .int .i64 3, .int .i64 5, .int .i64 3, .int .i64 4, .int .i64 6]) (by simp [results, Try.results29, go_sem]) rfl ⟨rfl, (Below.refl _ _).alloc (Nat.le_refl _) _⟩

def ex : Pol := ⟨2, 10, 0, 0, 5, 3, 5, 3, 4, 6⟩
theorem ex_move : (moveP ex ⟨4, [1, 2, 3]⟩ 25).g = 5 ∧ (moveP ex ⟨4, [1, 2, 3]⟩ 25).l = [2, 3, 0] := by decide +kernel
theorem ex_may1 : mayW ex ⟨5, [2, 3, 0]⟩ 5 = true := by decide +kernel
theorem ex_may2 : mayW ex ⟨5, [2, 3, 0]⟩ 6 = false := by decide +kernel
theorem ex_total : totalN ⟨5, [2, 3, 0]⟩ = 5 := by decide +kernel

theorem ex_move_call (g : Nat) (w : World) (hg : g < w.heap.size) (h0 : w.cell? ⟨g, 0, none⟩ = some (.int .i64 1)) (h1 : w.cell? ⟨g, 1, none⟩ = some (.int .i64 2)) (h2 : w.cell? ⟨g, 2, none⟩ = some (.int .i64 3)) :
    Calls Try.prog 11 #[.agg #[.int .i64 2, .int .i64 10, .int .i64 0, .int .i64 0, .int .i64 5, .int .i64 3, .int .i64 5, .int .i64 3, .int .i64 4, .int .i64 6], .agg #[.int .i64 4, .slice (some ⟨g, 0, none⟩) 3 3], .int .i64 25] w fun e w' => ∃ g2 c2, e = .returned (.agg #[.int .i64 5, .slice (some ⟨g2, 0, none⟩) 3 c2]) ∧ Own w.heap.size w' (.slice (some ⟨g2, 0, none⟩) 3 c2) [2, 3, 0] ∧ Below w.heap.size w w' := by
  have := move_call ex ⟨4, [1, 2, 3]⟩ (some ⟨g, 0, none⟩) 3 25 w (by decide) (fun _ => ⟨g, 0, rfl, hg, fun i hi => by
    match i, hi with
    | 0, _ => simpa using h0
    | 1, _ => simpa using h1
    | 2, _ => simpa using h2⟩)
  rw [ex_move.1, ex_move.2] at this
  refine Calls.mono this ?_
  rintro e w' ⟨sl, rfl, ho, hb⟩
  obtain ⟨A, c2, rfl, f⟩ := ho.form
  obtain ⟨g2, rfl, _⟩ := f (by decide)
  exact ⟨g2, c2, rfl, ho, hb⟩
theorem ex_may1_call {B : Nat} (g c : Nat) (w : World) (h : Own B w (.slice (some ⟨g, 0, none⟩) 3 c) [2, 3, 0]) :
    Calls Try.prog 12 #[.agg #[.int .i64 2, .int .i64 10, .int .i64 0, .int .i64 0, .int .i64 5, .int .i64 3, .int .i64 5, .int .i64 3, .int .i64 4, .int .i64 6], .agg #[.int .i64 5, .slice (some ⟨g, 0, none⟩) 3 c], .int .i64 5] w fun e w' => e = .returned (.bool true) ∧ Below w.heap.size w w' := by
  have := may_call ex ⟨5, [2, 3, 0]⟩ (some ⟨g, 0, none⟩) c 5 w (by decide) (by obtain ⟨A', c', e, f⟩ := h.reads.form; cases e; exact f)
  rw [ex_may1] at this
  exact this
theorem ex_may2_call {B : Nat} (g c : Nat) (w : World) (h : Own B w (.slice (some ⟨g, 0, none⟩) 3 c) [2, 3, 0]) :
    Calls Try.prog 12 #[.agg #[.int .i64 2, .int .i64 10, .int .i64 0, .int .i64 0, .int .i64 5, .int .i64 3, .int .i64 5, .int .i64 3, .int .i64 4, .int .i64 6], .agg #[.int .i64 5, .slice (some ⟨g, 0, none⟩) 3 c], .int .i64 6] w fun e w' => e = .returned (.bool false) ∧ Below w.heap.size w w' := by
  have := may_call ex ⟨5, [2, 3, 0]⟩ (some ⟨g, 0, none⟩) c 6 w (by decide) (by obtain ⟨A', c', e, f⟩ := h.reads.form; cases e; exact f)
  rw [ex_may2] at this
  exact this
theorem ex_total_call {B : Nat} (g c : Nat) (w : World) (h : Own B w (.slice (some ⟨g, 0, none⟩) 3 c) [2, 3, 0]) :
    Calls Try.prog 13 #[.agg #[.int .i64 5, .slice (some ⟨g, 0, none⟩) 3 c]] w fun e w' => e = .returned (.int .i64 5) ∧ Below w.heap.size w w' := by
  have := total_call ⟨5, [2, 3, 0]⟩ (some ⟨g, 0, none⟩) c w (by decide) (by obtain ⟨A', c', e, f⟩ := h.reads.form; cases e; exact f)
  rw [ex_total] at this
  exact this

/-- A window in a variable: its cell, and its numbers in a row of their own. -/
structure WinAt (B : Nat) (W : World) (b : Nat) (g : Int) (sl : Value) (l : List Int) : Prop where
  lt : b < W.heap.size
  row : W.heap[b]? = some (.cells #[.int .i64 g, sl] 26 (0, 0))
  own : Own B W sl l
theorem WinAt.on {B : Nat} {W W' : World} {b : Nat} {g : Int} {sl : Value} {l : List Int} (h : WinAt B W b g sl l) (hb : Below W.heap.size W W') : WinAt B W' b g sl l :=
  ⟨Nat.lt_of_lt_of_le h.lt hb.size, (hb.block _ h.lt).trans h.row, h.own.below hb⟩
theorem WinAt.begin {B : Nat} {W : World} {g : Int} {sl : Value} {l : List Int} (h : Own B W sl l) : WinAt B (W.alloc (.cells #[.int .i64 g, sl] 26)) W.heap.size g sl l :=
  ⟨by simp, heap_alloc_same _ _, h.below ((Below.refl _ _).alloc (Nat.le_refl _) _)⟩
theorem WinAt.cell {B : Nat} {W : World} {b : Nat} {g : Int} {sl : Value} {l : List Int} (h : WinAt B W b g sl l) : W.cell? ⟨b, 0, none⟩ = some (.int .i64 g) ∧ W.cell? ⟨b, 1, none⟩ = some sl := by
  have hp := h.row
  simp [World.cell?, hp]
/-- A policy in a variable. -/
structure PolAt (W : World) (b : Nat) (p : Pol) : Prop where
  lt : b < W.heap.size
  row : W.heap[b]? = some (.cells #[.int .i64 p.k, .int .i64 p.cap, .int .i64 p.num, .int .i64 p.den, .int .i64 p.width, .int .i64 p.count, .int .i64 p.keys, .int .i64 p.slots, .int .i64 p.every, .int .i64 p.seg] 23 (0, 0))
theorem PolAt.on {W W' : World} {b : Nat} {p : Pol} (h : PolAt W b p) (hb : Below W.heap.size W W') : PolAt W' b p :=
  ⟨Nat.lt_of_lt_of_le h.lt hb.size, (hb.block _ h.lt).trans h.row⟩
theorem PolAt.begin (W : World) (p : Pol) : PolAt (W.alloc (.cells #[.int .i64 p.k, .int .i64 p.cap, .int .i64 p.num, .int .i64 p.den, .int .i64 p.width, .int .i64 p.count, .int .i64 p.keys, .int .i64 p.slots, .int .i64 p.every, .int .i64 p.seg] 23)) W.heap.size p := ⟨by simp, heap_alloc_same _ _⟩
theorem PolAt.cell {W : World} {b : Nat} {p : Pol} (h : PolAt W b p) : W.cell? ⟨b, 0, none⟩ = some (.int .i64 p.k) ∧ W.cell? ⟨b, 1, none⟩ = some (.int .i64 p.cap) ∧ W.cell? ⟨b, 2, none⟩ = some (.int .i64 p.num) ∧ W.cell? ⟨b, 3, none⟩ = some (.int .i64 p.den) ∧ W.cell? ⟨b, 4, none⟩ = some (.int .i64 p.width) ∧ W.cell? ⟨b, 5, none⟩ = some (.int .i64 p.count) ∧ W.cell? ⟨b, 6, none⟩ = some (.int .i64 p.keys) ∧ W.cell? ⟨b, 7, none⟩ = some (.int .i64 p.slots) ∧ W.cell? ⟨b, 8, none⟩ = some (.int .i64 p.every) ∧ W.cell? ⟨b, 9, none⟩ = some (.int .i64 p.seg) := by
  have hp := h.row
  simp [World.cell?, hp]

set_option maxHeartbeats 4000000 in
theorem awake_call (w : World) : Calls Try.prog 9 #[] w fun e w' => e = .returned (.bool true) ∧ Below w.heap.size w w' := by
  go_enter Try.func9, Try.ntmps9
  go_wp2_with fail
  refine (plain_window _).mono ?_
  rintro e w1 ⟨rfl, hb0⟩
  go_upto_region 2 with fail
  have B1 := hid ((hb0).alloc hb0.size (.cells #[.int .i64 2, .int .i64 10, .int .i64 0, .int .i64 0, .int .i64 5, .int .i64 3, .int .i64 5, .int .i64 3, .int .i64 4, .int .i64 6] 23))
  have P1 := hid (heap_alloc_same w1 (.cells #[.int .i64 2, .int .i64 10, .int .i64 0, .int .i64 0, .int .i64 5, .int .i64 3, .int .i64 5, .int .i64 3, .int .i64 4, .int .i64 6] 23))
  have hz0 := hb0.size
  have L1 := hid (show w1.heap.size < (w1.alloc (.cells #[.int .i64 2, .int .i64 10, .int .i64 0, .int .i64 0, .int .i64 5, .int .i64 3, .int .i64 5, .int .i64 3, .int .i64 4, .int .i64 6] 23)).heap.size by simp)
  generalize (w1.alloc (.cells #[.int .i64 2, .int .i64 10, .int .i64 0, .int .i64 0, .int .i64 5, .int .i64 3, .int .i64 5, .int .i64 3, .int .i64 4, .int .i64 6] 23)) = W1 at *
  generalize w1.heap.size = tb at *
  clear hb0
  have cp : W1.cell? ⟨tb, 0, none⟩ = some (.int .i64 2) ∧ W1.cell? ⟨tb, 1, none⟩ = some (.int .i64 10) ∧ W1.cell? ⟨tb, 2, none⟩ = some (.int .i64 0) ∧ W1.cell? ⟨tb, 3, none⟩ = some (.int .i64 0) ∧ W1.cell? ⟨tb, 4, none⟩ = some (.int .i64 5) ∧ W1.cell? ⟨tb, 5, none⟩ = some (.int .i64 3) ∧ W1.cell? ⟨tb, 6, none⟩ = some (.int .i64 5) ∧ W1.cell? ⟨tb, 7, none⟩ = some (.int .i64 3) ∧ W1.cell? ⟨tb, 8, none⟩ = some (.int .i64 4) ∧ W1.cell? ⟨tb, 9, none⟩ = some (.int .i64 6) := by have hp := P1.out; simp [World.cell?, hp]
  obtain ⟨a0, a1, a2, a3, a4, a5, a6, a7, a8, a9⟩ := cp
  go_wp2_with fail
  refine (ex_move_call W1.heap.size _ (by simp) (by simp) (by simp) (by simp)).mono ?_
  rintro e w2 ⟨g2, c2, rfl, ho, hb⟩
  have hs2 : W1.heap.size < w2.heap.size := by have := hb.size; simp at this; omega
  have hb2 := ((Below.refl W1.heap.size W1).alloc (Nat.le_refl _) (.cells #[.int .i64 1, .int .i64 2, .int .i64 3] 3)).trans (hb.mono (by simp))
  have B2 := hid (B1.out.trans (hb2.mono B1.out.size))
  have P2 := hid (PolAt.on (p := ex) ⟨L1.out, P1.out⟩ hb2)
  have W2 := hid (WinAt.begin (g := 5) ho)
  have P3 := hid (P2.out.on ((Below.refl w2.heap.size w2).alloc (Nat.le_refl _) (.cells #[.int .i64 5, .slice (some ⟨g2, 0, none⟩) 3 c2] 26)))
  have B3 := hid (B2.out.alloc B2.out.size (.cells #[.int .i64 5, .slice (some ⟨g2, 0, none⟩) 3 c2] 26))
  clear ho hb hb2 a0 a1 a2 a3 a4 a5 a6 a7 a8 a9 B1 P1 L1 hs2 B2 P2
  go_upto_region 3 with fail
  generalize (w2.alloc (.cells #[.int .i64 5, .slice (some ⟨g2, 0, none⟩) 3 c2] 26)) = W3 at *
  generalize w2.heap.size = sb at *
  obtain ⟨a0, a1, a2, a3, a4, a5, a6, a7, a8, a9⟩ := P3.out.cell
  obtain ⟨b0, b1⟩ := W2.out.cell
  go_wp2_with fail
  refine (ex_may1_call _ _ _ W2.out.own).mono ?_
  rintro e w4 ⟨rfl, hb⟩
  have P3' := hid (P3.out.on hb)
  have W2' := hid (W2.out.on hb)
  have B3' := hid (B3.out.trans (hb.mono B3.out.size))
  clear hb
  clear a0 a1 a2 a3 a4 a5 a6 a7 a8 a9 b0 b1
  clear P3 W2 B3
  obtain ⟨a0, a1, a2, a3, a4, a5, a6, a7, a8, a9⟩ := P3'.out.cell
  obtain ⟨b0, b1⟩ := W2'.out.cell
  go_wp2_with fail
  refine (ex_may2_call _ _ _ W2'.out.own).mono ?_
  rintro e w5 ⟨rfl, hb⟩
  have P3'' := hid (P3'.out.on hb)
  have W2'' := hid (W2'.out.on hb)
  have B3'' := hid (B3'.out.trans (hb.mono B3'.out.size))
  clear hb
  clear a0 a1 a2 a3 a4 a5 a6 a7 a8 a9 b0 b1
  clear P3' W2' B3'
  have hcell : w5.cell? ⟨g2, 0, none⟩ = some (.int .i64 2) ∧ w5.cell? ⟨g2, 2, none⟩ = some (.int .i64 0) := by
    have o := W2''.out.own
    exact ⟨World.ownsRow.cellAt o 0 (by decide), World.ownsRow.cellAt o 2 (by decide)⟩
  obtain ⟨k0, k2⟩ := hcell
  obtain ⟨a0, a1, a2, a3, a4, a5, a6, a7, a8, a9⟩ := P3''.out.cell
  obtain ⟨b0, b1⟩ := W2''.out.cell
  go_wp2_with fail
  refine (ex_total_call _ _ _ W2''.out.own).mono ?_
  rintro e w6 ⟨rfl, hb⟩
  have B6 := hid (B3''.out.trans (hb.mono B3''.out.size))
  clear hb
  go_wp2_with fail
  go_ret
  exact ⟨rfl, B6.out⟩

#print axioms awake_call
end Go.Proofs.Ytkcnenekmjgmgaa
