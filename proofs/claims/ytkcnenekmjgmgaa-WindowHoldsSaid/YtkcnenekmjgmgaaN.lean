/- The boxes of a call that is handed a policy and a window: what stands in them. And: Total. -/
import Derived.Test.YtkcnenekmjgmgaaK
import Derived.Laws.CopyOwn
namespace Go.Proofs.Ytkcnenekmjgmgaa
open Go.RowKit

/-- The boxes of the two arguments. -/
structure Boxes (w W : World) (p : Pol) (x y : Value) : Prop where
  below : Below w.heap.size w W
  lt : w.heap.size + 1 < W.heap.size
  pol : W.heap[w.heap.size]? = some (.cells #[.int .i64 p.k, .int .i64 p.cap, .int .i64 p.num, .int .i64 p.den, .int .i64 p.width, .int .i64 p.count, .int .i64 p.keys, .int .i64 p.slots, .int .i64 p.every, .int .i64 p.seg] 23 (0, 0))
  sums : W.heap[w.heap.size + 1]? = some (.cells #[x, y] 26 (0, 0))
theorem Boxes.begin (w : World) (p : Pol) (x y : Value) : Boxes w ((w.alloc (.cells #[.int .i64 p.k, .int .i64 p.cap, .int .i64 p.num, .int .i64 p.den, .int .i64 p.width, .int .i64 p.count, .int .i64 p.keys, .int .i64 p.slots, .int .i64 p.every, .int .i64 p.seg] 23)).alloc (.cells #[x, y] 26)) p x y := by
  refine ⟨((Below.refl _ _).alloc (Nat.le_refl _) _).alloc (by simp) _, by simp, ?_, ?_⟩
  · exact heap_alloc_keep _ _ (heap_alloc_same _ _)
  · have := heap_alloc_same (w.alloc (.cells #[.int .i64 p.k, .int .i64 p.cap, .int .i64 p.num, .int .i64 p.den, .int .i64 p.width, .int .i64 p.count, .int .i64 p.keys, .int .i64 p.slots, .int .i64 p.every, .int .i64 p.seg] 23)) (.cells #[x, y] 26)
    simpa using this
theorem Boxes.on {w W W' : World} {p : Pol} {x y : Value} (h : Boxes w W p x y) (hb : Below W.heap.size W W') : Boxes w W' p x y :=
  ⟨h.below.trans (hb.mono h.below.size), Nat.lt_of_lt_of_le h.lt hb.size, (hb.block _ (by have := h.lt; omega)).trans h.pol, (hb.block _ h.lt).trans h.sums⟩
theorem Boxes.cp {w W : World} {p : Pol} {x y : Value} (h : Boxes w W p x y) : W.cell? ⟨w.heap.size, 0, none⟩ = some (.int .i64 p.k) ∧ W.cell? ⟨w.heap.size, 1, none⟩ = some (.int .i64 p.cap) ∧ W.cell? ⟨w.heap.size, 2, none⟩ = some (.int .i64 p.num) ∧ W.cell? ⟨w.heap.size, 3, none⟩ = some (.int .i64 p.den) ∧ W.cell? ⟨w.heap.size, 4, none⟩ = some (.int .i64 p.width) ∧ W.cell? ⟨w.heap.size, 5, none⟩ = some (.int .i64 p.count) ∧ W.cell? ⟨w.heap.size, 6, none⟩ = some (.int .i64 p.keys) ∧ W.cell? ⟨w.heap.size, 7, none⟩ = some (.int .i64 p.slots) ∧ W.cell? ⟨w.heap.size, 8, none⟩ = some (.int .i64 p.every) ∧ W.cell? ⟨w.heap.size, 9, none⟩ = some (.int .i64 p.seg) := by
  have hp := h.pol
  simp [World.cell?, hp]
theorem Boxes.cs {w W : World} {p : Pol} {x y : Value} (h : Boxes w W p x y) : W.cell? ⟨w.heap.size + 1, 0, none⟩ = some x ∧ W.cell? ⟨w.heap.size + 1, 1, none⟩ = some y ∧ W.frozen? ⟨w.heap.size + 1, 0, none⟩ = false ∧ W.frozen? ⟨w.heap.size + 1, 1, none⟩ = false := by
  have hp := h.sums
  simp [World.cell?, World.frozen?, hp]
theorem Boxes.set {w W : World} {p : Pol} {x y : Value} (h : Boxes w W p x y) (x' y' : Value) : Boxes w ((W.setCell ⟨w.heap.size + 1, 0, none⟩ x').setCell ⟨w.heap.size + 1, 1, none⟩ y') p x' y' := by
  refine ⟨(h.below.setCell (show w.heap.size ≤ w.heap.size + 1 by omega) _).setCell (show w.heap.size ≤ w.heap.size + 1 by omega) _, by have := h.lt; simpa using this, ?_, row_set2 h.sums⟩
  rw [heap_setCell_other _ _ _ _ (by simp), heap_setCell_other _ _ _ _ (by simp)]
  exact h.pol

/-- The result's cell. -/
structure Res (w W : World) (x y : Value) : Prop where
  lt : w.heap.size + 2 < W.heap.size
  row : W.heap[w.heap.size + 2]? = some (.cells #[x, y] 26 (0, 0))
theorem Res.on {w W W' : World} {x y : Value} (h : Res w W x y) (hb : Below W.heap.size W W') : Res w W' x y :=
  ⟨Nat.lt_of_lt_of_le h.lt hb.size, (hb.block _ h.lt).trans h.row⟩
theorem Res.cr {w W : World} {x y : Value} (h : Res w W x y) : W.cell? ⟨w.heap.size + 2, 0, none⟩ = some x ∧ W.cell? ⟨w.heap.size + 2, 1, none⟩ = some y ∧ W.frozen? ⟨w.heap.size + 2, 0, none⟩ = false ∧ W.frozen? ⟨w.heap.size + 2, 1, none⟩ = false := by
  have hp := h.row
  simp [World.cell?, World.frozen?, hp]
theorem Res.set {w W : World} {x y : Value} (h : Res w W x y) (x' y' : Value) : Res w ((W.setCell ⟨w.heap.size + 2, 0, none⟩ x').setCell ⟨w.heap.size + 2, 1, none⟩ y') x' y' :=
  ⟨by have := h.lt; simpa using this, row_set2 h.row⟩
theorem Res.setS {w W : World} {x y : Value} (h : Res w W x y) (x' y' : Value) : Res w ((W.setCell ⟨w.heap.size + 1, 0, none⟩ x').setCell ⟨w.heap.size + 1, 1, none⟩ y') x y := by
  refine ⟨by have := h.lt; simpa using this, ?_⟩
  rw [heap_setCell_other _ _ _ _ (by simp), heap_setCell_other _ _ _ _ (by simp)]
  exact h.row
theorem Boxes.setR {w W : World} {p : Pol} {x y : Value} (h : Boxes w W p x y) (x' y' : Value) : Boxes w ((W.setCell ⟨w.heap.size + 2, 0, none⟩ x').setCell ⟨w.heap.size + 2, 1, none⟩ y') p x y := by
  refine ⟨(h.below.setCell (show w.heap.size ≤ w.heap.size + 2 by omega) _).setCell (show w.heap.size ≤ w.heap.size + 2 by omega) _, by have := h.lt; simpa using this, ?_, ?_⟩
  · rw [heap_setCell_other _ _ _ _ (by simp), heap_setCell_other _ _ _ _ (by simp)]
    exact h.pol
  · rw [heap_setCell_other _ _ _ _ (by simp), heap_setCell_other _ _ _ _ (by simp)]
    exact h.sums
/-- A row elsewhere. -/
theorem Own.set2 {B g : Nat} {w : World} {sl : Value} {l : List Int} (h : Own B w sl l) (hg : g < B) (x y : Value) : Own B ((w.setCell ⟨g, 0, none⟩ x).setCell ⟨g, 1, none⟩ y) sl l :=
  h.of_block fun k hk => by
    have := (World.ownsRow.lt h k hk).1
    rw [heap_setCell_other _ _ _ _ (by simp; omega), heap_setCell_other _ _ _ _ (by simp; omega)]

theorem total_call (s : Win) (A : Option Addr) (c : Nat) (w : World) (hl : s.l.length ≤ 9223372036854775807)
    (hrd : 0 < s.l.length → ∃ g o, A = some ⟨g, o, none⟩ ∧ g < w.heap.size ∧ ∀ i, i < s.l.length → w.cell? ⟨g, o + i, none⟩ = some (.int .i64 (s.l.getD i 0))) :
    Calls Try.prog 13 #[.agg #[.int .i64 s.g, .slice A s.l.length c]] w fun e w' => e = .returned (.int .i64 (totalN s)) ∧ Below w.heap.size w w' := by
  unfold totalN
  obtain ⟨gg, l⟩ := s
  dsimp only at *
  by_cases h : 32 < l.length
  · rw [if_pos h]
    clear hrd
    generalize l.length = n at *
    go_enter Try.func13, Try.ntmps13
    go_wp2_with fail
    go_ret
    exact ⟨rfl, (Below.refl _ _).alloc (Nat.le_refl _) _⟩
  · rw [if_neg h]
    have hs : ∀ w1, Below w.heap.size w w1 → Calls Try.prog 34 #[.slice A l.length c] w1 fun e w' => e = .returned (.int .i64 (sumN l)) ∧ w1 = w' := fun w1 hb =>
      sum_any l A c w1 (by omega) fun h0 => by
        obtain ⟨g, o, e, hg, hc⟩ := hrd h0
        exact ⟨g, o, e, Nat.lt_of_lt_of_le hg hb.size, fun i hi => (hb.cell (p := ⟨g, o + i, none⟩) hg).trans (hc i hi)⟩
    have HS := hid hs
    clear hs hrd
    generalize sumN l = q at *
    generalize l.length = n at *
    go_enter Try.func13, Try.ntmps13
    go_wp2_with fail
    refine (HS.out _ ((Below.refl _ _).alloc (Nat.le_refl _) _)).mono ?_
    rintro e w1 ⟨rfl, rfl⟩
    go_wp2_with fail
    go_ret
    exact ⟨rfl, (Below.refl _ _).alloc (Nat.le_refl _) _⟩

#print axioms total_call
end Go.Proofs.Ytkcnenekmjgmgaa
