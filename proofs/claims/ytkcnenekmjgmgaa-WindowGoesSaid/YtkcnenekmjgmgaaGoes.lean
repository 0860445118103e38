/- The law WindowGoes: time in two parts is time in one. -/
import Derived.Test.YtkcnenekmjgmgaaQ
import Derived.Test.YtkcnenekmjgmgaaY
namespace Go.Proofs.Ytkcnenekmjgmgaa
open Go.RowKit

set_option maxHeartbeats 4000000 in
set_option maxRecDepth 100000 in
set_option linter.unusedVariables false in
theorem goes_bad (p : Pol) (s : Win) (A : Option Addr) (c : Nat) (a b cost : Int) (w : World) (hl : s.l.length ≤ 9223372036854775807) (hrd : ReadIn w A s.l) (h1 : okB p = false) :
    Calls Try.prog 5 #[.agg #[.int .i64 p.k, .int .i64 p.cap, .int .i64 p.num, .int .i64 p.den, .int .i64 p.width, .int .i64 p.count, .int .i64 p.keys, .int .i64 p.slots, .int .i64 p.every, .int .i64 p.seg], .agg #[.int .i64 s.g, .slice A s.l.length c], .int .i64 a, .int .i64 b, .int .i64 cost] w fun e w' => e = .returned (.bool true) ∧ Below w.heap.size w w' := by
  have hri := fun w => refRight_any p w
  rw [rightN_no h1] at hri
  have HRI := hid hri
  have HRD := hid hrd
  clear hri hrd
  clear h1
  go_enter Try.func5, Try.ntmps5
  go_upto_region 1 with fail
  refine abstract_world (fun W => Boxes w W p (.int .i64 s.g) (.slice A s.l.length c)) ?_ ?_
  · exact Boxes.begin w p (.int .i64 s.g) (.slice A s.l.length c)
  intro W hX
  have X := hid hX
  clear hX
  obtain ⟨a0, a1, a2, a3, a4, a5, a6, a7, a8, a9⟩ := X.out.cp
  obtain ⟨b0, b1, b2, b3⟩ := X.out.cs
  go_wp2_with fail
  refine (awake_call _).mono ?_
  rintro e v1 ⟨rfl, hb⟩
  have X1 := hid (X.out.on hb)
  clear a0 a1 a2 a3 a4 a5 a6 a7 a8 a9 b0 b1 b2 b3
  clear hb X
  obtain ⟨a0, a1, a2, a3, a4, a5, a6, a7, a8, a9⟩ := X1.out.cp
  obtain ⟨b0, b1, b2, b3⟩ := X1.out.cs
  go_wp2_with fail
  refine (HRI.out _).mono ?_
  rintro e v2 ⟨rfl, hb⟩
  have X2 := hid (X1.out.on hb)
  clear a0 a1 a2 a3 a4 a5 a6 a7 a8 a9 b0 b1 b2 b3
  clear hb X1
  obtain ⟨a0, a1, a2, a3, a4, a5, a6, a7, a8, a9⟩ := X2.out.cp
  obtain ⟨b0, b1, b2, b3⟩ := X2.out.cs
  go_wp2_with fail
  all_goals (go_ret; exact ⟨rfl, X2.out.below⟩)

set_option maxHeartbeats 4000000 in
set_option maxRecDepth 100000 in
set_option linter.unusedVariables false in
theorem goes_kind (p : Pol) (s : Win) (A : Option Addr) (c : Nat) (a b cost : Int) (w : World) (hl : s.l.length ≤ 9223372036854775807) (hrd : ReadIn w A s.l) (h1 : okB p = true) (h2 : ¬ p.k = 2) :
    Calls Try.prog 5 #[.agg #[.int .i64 p.k, .int .i64 p.cap, .int .i64 p.num, .int .i64 p.den, .int .i64 p.width, .int .i64 p.count, .int .i64 p.keys, .int .i64 p.slots, .int .i64 p.every, .int .i64 p.seg], .agg #[.int .i64 s.g, .slice A s.l.length c], .int .i64 a, .int .i64 b, .int .i64 cost] w fun e w' => e = .returned (.bool true) ∧ Below w.heap.size w w' := by
  have hri := fun w => refRight_any p w
  rw [rightN_yes h1] at hri
  have HRI := hid hri
  have HRD := hid hrd
  clear hri hrd
  clear h1
  go_enter Try.func5, Try.ntmps5
  go_upto_region 1 with fail
  refine abstract_world (fun W => Boxes w W p (.int .i64 s.g) (.slice A s.l.length c)) ?_ ?_
  · exact Boxes.begin w p (.int .i64 s.g) (.slice A s.l.length c)
  intro W hX
  have X := hid hX
  clear hX
  obtain ⟨a0, a1, a2, a3, a4, a5, a6, a7, a8, a9⟩ := X.out.cp
  obtain ⟨b0, b1, b2, b3⟩ := X.out.cs
  go_wp2_with fail
  refine (awake_call _).mono ?_
  rintro e v1 ⟨rfl, hb⟩
  have X1 := hid (X.out.on hb)
  clear a0 a1 a2 a3 a4 a5 a6 a7 a8 a9 b0 b1 b2 b3
  clear hb X
  obtain ⟨a0, a1, a2, a3, a4, a5, a6, a7, a8, a9⟩ := X1.out.cp
  obtain ⟨b0, b1, b2, b3⟩ := X1.out.cs
  go_wp2_with fail
  refine (HRI.out _).mono ?_
  rintro e v2 ⟨rfl, hb⟩
  have X2 := hid (X1.out.on hb)
  clear a0 a1 a2 a3 a4 a5 a6 a7 a8 a9 b0 b1 b2 b3
  clear hb X1
  obtain ⟨a0, a1, a2, a3, a4, a5, a6, a7, a8, a9⟩ := X2.out.cp
  obtain ⟨b0, b1, b2, b3⟩ := X2.out.cs
  go_wp2_with fail
  all_goals (go_ret; exact ⟨rfl, X2.out.below⟩)

set_option maxHeartbeats 4000000 in
set_option maxRecDepth 100000 in
set_option linter.unusedVariables false in
theorem goes_back (p : Pol) (s : Win) (A : Option Addr) (c : Nat) (a b cost : Int) (w : World) (hl : s.l.length ≤ 9223372036854775807) (hrd : ReadIn w A s.l) (h1 : okB p = true) (h2 : p.k = 2) (h3 : b < a) :
    Calls Try.prog 5 #[.agg #[.int .i64 p.k, .int .i64 p.cap, .int .i64 p.num, .int .i64 p.den, .int .i64 p.width, .int .i64 p.count, .int .i64 p.keys, .int .i64 p.slots, .int .i64 p.every, .int .i64 p.seg], .agg #[.int .i64 s.g, .slice A s.l.length c], .int .i64 a, .int .i64 b, .int .i64 cost] w fun e w' => e = .returned (.bool true) ∧ Below w.heap.size w w' := by
  have hri := fun w => refRight_any p w
  rw [rightN_yes h1] at hri
  have HRI := hid hri
  have HRD := hid hrd
  clear hri hrd
  have hkk : (p.k != 2) = false := by simp [h2]
  clear h1 h2
  go_enter Try.func5, Try.ntmps5
  go_upto_region 1 with fail
  refine abstract_world (fun W => Boxes w W p (.int .i64 s.g) (.slice A s.l.length c)) ?_ ?_
  · exact Boxes.begin w p (.int .i64 s.g) (.slice A s.l.length c)
  intro W hX
  have X := hid hX
  clear hX
  obtain ⟨a0, a1, a2, a3, a4, a5, a6, a7, a8, a9⟩ := X.out.cp
  obtain ⟨b0, b1, b2, b3⟩ := X.out.cs
  go_wp2_with fail
  refine (awake_call _).mono ?_
  rintro e v1 ⟨rfl, hb⟩
  have X1 := hid (X.out.on hb)
  clear a0 a1 a2 a3 a4 a5 a6 a7 a8 a9 b0 b1 b2 b3
  clear hb X
  obtain ⟨a0, a1, a2, a3, a4, a5, a6, a7, a8, a9⟩ := X1.out.cp
  obtain ⟨b0, b1, b2, b3⟩ := X1.out.cs
  go_wp2_with fail
  refine (HRI.out _).mono ?_
  rintro e v2 ⟨rfl, hb⟩
  have X2 := hid (X1.out.on hb)
  clear a0 a1 a2 a3 a4 a5 a6 a7 a8 a9 b0 b1 b2 b3
  clear hb X1
  obtain ⟨a0, a1, a2, a3, a4, a5, a6, a7, a8, a9⟩ := X2.out.cp
  obtain ⟨b0, b1, b2, b3⟩ := X2.out.cs
  go_wp2_with fail
  all_goals (go_ret; exact ⟨rfl, X2.out.below⟩)

theorem winAt_set {B B' zb : Nat} {w : World} {x y sl : Value} {g : Int} {l : List Int} (hrow : w.heap[zb]? = some (.cells #[x, y] 26 (0, 0))) (ho : Own B' w sl l) (hz : zb < B') (hB : B ≤ B') :
    WinAt B ((w.setCell ⟨zb, 0, none⟩ (.int .i64 g)).setCell ⟨zb, 1, none⟩ sl) zb g sl l := by
  refine ⟨?_, row_set2 hrow, (ho.set2 hz _ _).lower hB⟩
  have := (Array.getElem?_eq_some_iff.1 hrow).1
  simpa using this
theorem new_cell {w w' : World} {x y : Value} {t : TypeId} (hb : Below (w.alloc (.cells #[x, y] t)).heap.size (w.alloc (.cells #[x, y] t)) w') :
    w.heap.size < w'.heap.size ∧ w'.cell? ⟨w.heap.size, 0, none⟩ = some x ∧ w'.cell? ⟨w.heap.size, 1, none⟩ = some y ∧ w'.frozen? ⟨w.heap.size, 0, none⟩ = false ∧ w'.frozen? ⟨w.heap.size, 1, none⟩ = false := by
  have h := (hb.block w.heap.size (by simp)).trans (heap_alloc_same w _)
  have hs := hb.size
  simp at hs
  refine ⟨by omega, ?_⟩
  simp [World.cell?, World.frozen?, h]
theorem new_cell_drew {w w' : World} {x y : Value} {t : TypeId} (hb : Below (w.alloc (.cells #[x, y] t)).drew.heap.size (w.alloc (.cells #[x, y] t)).drew w') :
    w.heap.size < w'.heap.size ∧ w'.cell? ⟨w.heap.size, 0, none⟩ = some x ∧ w'.cell? ⟨w.heap.size, 1, none⟩ = some y ∧ w'.frozen? ⟨w.heap.size, 0, none⟩ = false ∧ w'.frozen? ⟨w.heap.size, 1, none⟩ = false :=
  new_cell (w := w) (x := x) (y := y) (t := t) ⟨hb.os, hb.tape, hb.output, hb.size, hb.block⟩
theorem below_alloc_own {a w : World} (h : Below a.heap.size a w) (o : Obj) : Below a.heap.size a (w.alloc o) := h.alloc h.size o
theorem below_next {a w w' : World} (h : Below a.heap.size a w) (hb : Below w.heap.size w w') : Below a.heap.size a w' := h.trans (hb.mono h.size)
theorem below_set_own {a w : World} (h : Below a.heap.size a w) {g o : Nat} (hg : a.heap.size ≤ g) (v : Value) : Below a.heap.size a (w.setCell ⟨g, o, none⟩ v) := h.setCell hg v

set_option maxHeartbeats 4000000 in
set_option maxRecDepth 100000 in
set_option linter.unusedVariables false in
theorem goes_main (p : Pol) (s : Win) (A : Option Addr) (c : Nat) (a b cost : Int) (w : World) (hl : s.l.length ≤ 9223372036854775807) (hrd : ReadIn w A s.l) (h1 : okB p = true) (h2 : p.k = 2) (h3 : ¬ b < a) :
    Calls Try.prog 5 #[.agg #[.int .i64 p.k, .int .i64 p.cap, .int .i64 p.num, .int .i64 p.den, .int .i64 p.width, .int .i64 p.count, .int .i64 p.keys, .int .i64 p.slots, .int .i64 p.every, .int .i64 p.seg], .agg #[.int .i64 s.g, .slice A s.l.length c], .int .i64 a, .int .i64 b, .int .i64 cost] w fun e w' => e = .returned (.bool true) ∧ Below w.heap.size w w' := by
  have hri := fun w => refRight_any p w
  rw [rightN_yes h1] at hri
  have HRI := hid hri
  have HRD := hid hrd
  clear hri hrd
  have hm : meansW p = true := meansW_yes h2 h1
  have hgx := moveP_good hm s a
  have hsx := hgx.small hm
  have MV1 := hid (fun w1 (hb : Below w.heap.size w w1) => move_call p s A c a w1 hl (HRD.out.on hb))
  have MV2 := hid (fun B w A c h => move_own p (moveP p s a) b (B := B) (w := w) (A := A) (c := c) (by omega) h)
  have hmm := move_move hm s (show a ≤ b by omega)
  have MV3 := hid (fun w1 (hb : Below w.heap.size w w1) => move_call p s A c b w1 hl (HRD.out.on hb))
  rw [← hmm] at MV3
  have hgy := moveP_good hm (moveP p s a) b
  have hsy := hgy.small hm
  have htk := fun h => take_total hm hgy (c := cost) h
  have hcst : mayW p (moveP p (moveP p s a) b) cost = true → 1 ≤ cost := fun h => by rw [mayW_good hm hgy] at h; simp only [Bool.and_eq_true] at h; exact (within_iff.1 h.1).1
  have hst := (takeW_good hm (moveP p (moveP p s a) b) cost).small hm
  have hty := totalN_bound (moveP p (moveP p s a) b)
  have hcap := (meansW_bounds hm).2.1
  have SAME := hid (fun B B' w A A' c c' h h' => same_call (moveP p (moveP p s a) b) (moveP p (moveP p s a) b) A A' c c' w (by omega) (by omega) (own_read (B := B) (c := c) h) (own_read (B := B') (c := c') h'))
  rw [show sameB (moveP p (moveP p s a) b) (moveP p (moveP p s a) b) = true by simp [sameB]] at SAME
  have MAY := hid (fun B w A c h => may_own p (moveP p (moveP p s a) b) cost (B := B) (w := w) (A := A) (c := c) (by omega) h)
  have TK := hid (fun B w A c h => take_own p (moveP p (moveP p s a) b) cost (B := B) (w := w) (A := A) (c := c) (by omega) h)
  have TOTT := hid (fun B w A c h => total_own (takeW p (moveP p (moveP p s a) b) cost) (B := B) (w := w) (A := A) (c := c) (by omega) h)
  have TOTY := hid (fun B w A c h => total_own (moveP p (moveP p s a) b) (B := B) (w := w) (A := A) (c := c) (by omega) h)
  clear hm hgx hsx hmm hgy hsy hst
  generalize mayW p (moveP p (moveP p s a) b) cost = mc at *
  generalize totalN (takeW p (moveP p (moveP p s a) b) cost) = tk at *
  generalize takeW p (moveP p (moveP p s a) b) cost = yt at *
  generalize totalN (moveP p (moveP p s a) b) = ty at *
  have HTK := hid htk
  have HCST := hid hcst
  have HTY := hid hty
  have HCAP := hid hcap
  clear htk hty hcap hcst
  obtain ⟨ytg, ytl⟩ := yt
  generalize moveP p (moveP p s a) b = y at *
  generalize moveP p s a = x at *
  obtain ⟨xg, xl⟩ := x
  obtain ⟨yg, yl⟩ := y
  dsimp only at *
  have hkk : (p.k != 2) = false := by simp [h2]
  clear h1 h2
  go_enter Try.func5, Try.ntmps5
  go_upto_region 1 with fail
  refine abstract_world (fun W => Boxes w W p (.int .i64 s.g) (.slice A s.l.length c)) ?_ ?_
  · exact Boxes.begin w p (.int .i64 s.g) (.slice A s.l.length c)
  intro W hX
  have X := hid hX
  clear hX
  obtain ⟨a0, a1, a2, a3, a4, a5, a6, a7, a8, a9⟩ := X.out.cp
  obtain ⟨b0, b1, b2, b3⟩ := X.out.cs
  go_wp2_with fail
  refine (awake_call _).mono ?_
  rintro e v1 ⟨rfl, hb⟩
  have X1 := hid (X.out.on hb)
  clear a0 a1 a2 a3 a4 a5 a6 a7 a8 a9 b0 b1 b2 b3
  clear hb X
  obtain ⟨a0, a1, a2, a3, a4, a5, a6, a7, a8, a9⟩ := X1.out.cp
  obtain ⟨b0, b1, b2, b3⟩ := X1.out.cs
  go_wp2_with fail
  refine (HRI.out _).mono ?_
  rintro e v2 ⟨rfl, hb⟩
  have X2 := hid (X1.out.on hb)
  clear a0 a1 a2 a3 a4 a5 a6 a7 a8 a9 b0 b1 b2 b3
  clear hb X1
  obtain ⟨a0, a1, a2, a3, a4, a5, a6, a7, a8, a9⟩ := X2.out.cp
  obtain ⟨b0, b1, b2, b3⟩ := X2.out.cs
  go_upto_region 5 with fail
  go_cut [13] (fun s13 wx => ∃ xb A3 c3, s13 = .pointer (some ⟨xb, 0, none⟩) ∧ Boxes w wx p (.int .i64 s.g) (.slice A s.l.length c) ∧ WinAt w.heap.size wx xb yg (.slice A3 yl.length c3) yl)
  case first =>
    have F : ∀ w', Below v2.heap.size v2 w' → (w'.cell? ⟨w.heap.size, 0, none⟩ = some (.int .i64 p.k) ∧ w'.cell? ⟨w.heap.size, 1, none⟩ = some (.int .i64 p.cap) ∧ w'.cell? ⟨w.heap.size, 2, none⟩ = some (.int .i64 p.num) ∧ w'.cell? ⟨w.heap.size, 3, none⟩ = some (.int .i64 p.den) ∧ w'.cell? ⟨w.heap.size, 4, none⟩ = some (.int .i64 p.width) ∧ w'.cell? ⟨w.heap.size, 5, none⟩ = some (.int .i64 p.count) ∧ w'.cell? ⟨w.heap.size, 6, none⟩ = some (.int .i64 p.keys) ∧ w'.cell? ⟨w.heap.size, 7, none⟩ = some (.int .i64 p.slots) ∧ w'.cell? ⟨w.heap.size, 8, none⟩ = some (.int .i64 p.every) ∧ w'.cell? ⟨w.heap.size, 9, none⟩ = some (.int .i64 p.seg) ∧ w'.cell? ⟨w.heap.size + 1, 0, none⟩ = some (.int .i64 s.g) ∧ w'.cell? ⟨w.heap.size + 1, 1, none⟩ = some (.slice A s.l.length c)) := by
      intro w' hb
      obtain ⟨a0, a1, a2, a3, a4, a5, a6, a7, a8, a9⟩ := (X2.out.on hb).cp
      obtain ⟨b0, b1, b2, b3⟩ := (X2.out.on hb).cs
      exact ⟨a0, a1, a2, a3, a4, a5, a6, a7, a8, a9, b0, b1⟩
    have F := hid F
    have hB1 := (Below.refl v2.heap.size v2).drew
    have hW1 := below_next X2.out.below hB1
    have hB2 := ((Below.refl v2.heap.size v2).alloc (Nat.le_refl _) (.cells #[.int .i64 0, .slice none 0 0] 26)).drew
    have hW2 := below_next X2.out.below hB2
    go_region_held3 (fun w' => w'.cell? ⟨w.heap.size, 0, none⟩ = some (.int .i64 p.k) ∧ w'.cell? ⟨w.heap.size, 1, none⟩ = some (.int .i64 p.cap) ∧ w'.cell? ⟨w.heap.size, 2, none⟩ = some (.int .i64 p.num) ∧ w'.cell? ⟨w.heap.size, 3, none⟩ = some (.int .i64 p.den) ∧ w'.cell? ⟨w.heap.size, 4, none⟩ = some (.int .i64 p.width) ∧ w'.cell? ⟨w.heap.size, 5, none⟩ = some (.int .i64 p.count) ∧ w'.cell? ⟨w.heap.size, 6, none⟩ = some (.int .i64 p.keys) ∧ w'.cell? ⟨w.heap.size, 7, none⟩ = some (.int .i64 p.slots) ∧ w'.cell? ⟨w.heap.size, 8, none⟩ = some (.int .i64 p.every) ∧ w'.cell? ⟨w.heap.size, 9, none⟩ = some (.int .i64 p.seg) ∧ w'.cell? ⟨w.heap.size + 1, 0, none⟩ = some (.int .i64 s.g) ∧ w'.cell? ⟨w.heap.size + 1, 1, none⟩ = some (.slice A s.l.length c))
      (first | with_reducible exact F.out _ hB1 | with_reducible exact F.out _ hB2 | with_reducible exact F.out _ (below_next hB1 hb) | with_reducible exact F.out _ (below_next hB2 hb) | with_reducible exact F.out _ (below_alloc_own (below_next hB1 hb) _) | with_reducible exact F.out _ (below_next (below_next hB1 hb) hb2) | with_reducible exact F.out _ (below_next (below_next hB2 hb) hb2) | with_reducible exact F.out _ (below_next (below_alloc_own (below_next hB1 hb) _) hb2) | with_reducible exact F.out _ (below_alloc_own (below_next (below_next hB1 hb) hb2) _) | with_reducible exact F.out _ (below_set_own (below_set_own (below_next (below_next hB2 hb) hb2) (Nat.le_refl _) _) (Nat.le_refl _) _) | with_reducible exact F.out _ (below_set_own (below_set_own (below_next (below_alloc_own (below_next hB1 hb) _) hb2) (below_next hB1 hb).size _) (below_next hB1 hb).size _) | with_reducible exact F.out _ (below_set_own (below_set_own (below_alloc_own (below_next (below_next hB1 hb) hb2) _) (below_next (below_next hB1 hb) hb2).size _) (below_next (below_next hB1 hb) hb2).size _) | go_keep | fail)
      (first | (go_at_call 11; (first | with_reducible refine (MV1.out _ hW1).mono ?_ | with_reducible refine (MV1.out _ hW2).mono ?_); rintro e v3 ⟨sl, rfl, ho, hb⟩; obtain ⟨A2, cc, rfl, f⟩ := ho.form; try (first | have z := new_cell hb | have z := new_cell_drew hb); try (obtain ⟨zl, z0, z1, z2, z3⟩ := z)) | (go_at_call 11; (first | with_reducible refine (MV2.out _ _ _ _ ho).mono ?_ | with_reducible refine (MV2.out _ _ _ _ (ho.below (below_alloc_own (Below.refl _ _) _))).mono ?_); rintro e v4 ⟨sl2, rfl, ho2, hb2⟩; obtain ⟨A3, c3, rfl, f2⟩ := ho2.form; try (first | have y := new_cell hb2 | have y := new_cell_drew hb2 | have y := And.intro (Nat.lt_of_lt_of_le zl hb2.size) (two_below hb2 zl ⟨z0, z1, z2, z3⟩)); try (obtain ⟨yl', y0, y1, y2, y3⟩ := y)) | fail)
    all_goals (go_wp2_with fail)
    all_goals go_meet
    · have hw2 := X2.out.below.size
      have h23 := (below_next hB1 hb).size
      exact ⟨_, _, _, rfl, X2.out.on (below_alloc_own (below_next (below_next hB1 hb) hb2) _), WinAt.begin (ho2.lower (by omega))⟩
    · have hw2 := X2.out.below.size
      have h23 := (below_next hB1 hb).size
      have row := (hb2.block v3.heap.size (by simp)).trans (heap_alloc_same v3 _)
      exact ⟨_, _, _, rfl, X2.out.on (below_set_own (below_set_own (below_next (below_alloc_own (below_next hB1 hb) _) hb2) h23 _) h23 _), winAt_set row ho2 (by simp) (by simp; omega)⟩
    · have hw2 := X2.out.below.size
      have row := (hb.block v2.heap.size (by simp)).trans (heap_alloc_same v2 _)
      have row2 := (hb2.block _ zl).trans row
      exact ⟨_, _, _, rfl, X2.out.on (below_set_own (below_set_own (below_next (below_next hB2 hb) hb2) (Nat.le_refl _) _) (Nat.le_refl _) _), winAt_set row2 ho2 zl (by omega)⟩

  obtain ⟨xb, A3, c3, rfl, hX5, hWB⟩ := hcut
  have X5 := hid hX5
  have WB := hid hWB
  clear hX5 hWB X2

  obtain ⟨a0, a1, a2, a3, a4, a5, a6, a7, a8, a9⟩ := X5.out.cp
  obtain ⟨b0, b1, b2, b3⟩ := X5.out.cs
  obtain ⟨WXc0, WXc1⟩ := WB.out.cell
  go_wp2_with fail
  refine (MV3.out _ X5.out.below).mono ?_
  rintro e v6 ⟨sl, rfl, ho, hb⟩
  obtain ⟨A4, c4, rfl, f⟩ := ho.form
  have WZ0 := hid (WinAt.begin (g := yg) ho)
  have hn6 : Below v6.heap.size v6 (v6.alloc (.cells #[.int .i64 yg, .slice A4 yl.length c4] 26)) := (Below.refl v6.heap.size v6).alloc (Nat.le_refl _) _
  have X6 := hid ((X5.out.on hb).on hn6)
  have WX6 := hid ((WB.out.on hb).on hn6)
  clear hb ho f X5 WB hn6
  clear a0 a1 a2 a3 a4 a5 a6 a7 a8 a9 b0 b1 b2 b3 WXc0 WXc1
  go_upto_region 7 with fail
  generalize (v6.alloc (.cells #[.int .i64 yg, .slice A4 yl.length c4] 26)) = V6 at *
  generalize v6.heap.size = zb at *
  obtain ⟨a0, a1, a2, a3, a4, a5, a6, a7, a8, a9⟩ := X6.out.cp
  obtain ⟨b0, b1, b2, b3⟩ := X6.out.cs
  obtain ⟨WXc0, WXc1⟩ := WX6.out.cell
  obtain ⟨WZc0, WZc1⟩ := WZ0.out.cell
  go_wp2_with fail
  refine (SAME.out _ _ _ _ _ _ _ WX6.out.own WZ0.out.own).mono ?_
  rintro e v7 ⟨rfl, hb⟩
  have X7 := hid (X6.out.on hb)
  have WX7 := hid (WX6.out.on hb)
  have WZ7 := hid (WZ0.out.on hb)
  clear a0 a1 a2 a3 a4 a5 a6 a7 a8 a9 b0 b1 b2 b3 WXc0 WXc1 WZc0 WZc1
  clear hb X6 WX6 WZ0
  obtain ⟨a0, a1, a2, a3, a4, a5, a6, a7, a8, a9⟩ := X7.out.cp
  obtain ⟨b0, b1, b2, b3⟩ := X7.out.cs
  obtain ⟨WXc0, WXc1⟩ := WX7.out.cell
  obtain ⟨WZc0, WZc1⟩ := WZ7.out.cell
  go_wp2_with fail
  refine (MAY.out _ _ _ _ WZ7.out.own).mono ?_
  rintro e v8 ⟨rfl, hb⟩
  have X8 := hid (X7.out.on hb)
  have WX8 := hid (WX7.out.on hb)
  have WZ8 := hid (WZ7.out.on hb)
  clear a0 a1 a2 a3 a4 a5 a6 a7 a8 a9 b0 b1 b2 b3 WXc0 WXc1 WZc0 WZc1
  clear hb X7 WX7 WZ7
  obtain ⟨a0, a1, a2, a3, a4, a5, a6, a7, a8, a9⟩ := X8.out.cp
  obtain ⟨b0, b1, b2, b3⟩ := X8.out.cs
  obtain ⟨WXc0, WXc1⟩ := WX8.out.cell
  obtain ⟨WZc0, WZc1⟩ := WZ8.out.cell
  go_wp2_with fail
  refine (TK.out _ _ _ _ WZ8.out.own).mono ?_
  rintro e v9 ⟨sl2, rfl, ho, hb⟩
  obtain ⟨A5, c5, rfl, f⟩ := ho.form
  have O9 := hid ho
  clear ho f
  have X9 := hid (X8.out.on hb)
  have WX9 := hid (WX8.out.on hb)
  have WZ9 := hid (WZ8.out.on hb)
  clear a0 a1 a2 a3 a4 a5 a6 a7 a8 a9 b0 b1 b2 b3 WXc0 WXc1 WZc0 WZc1
  clear hb X8 WX8 WZ8
  obtain ⟨a0, a1, a2, a3, a4, a5, a6, a7, a8, a9⟩ := X9.out.cp
  obtain ⟨b0, b1, b2, b3⟩ := X9.out.cs
  obtain ⟨WXc0, WXc1⟩ := WX9.out.cell
  obtain ⟨WZc0, WZc1⟩ := WZ9.out.cell
  go_wp2_with fail
  refine (TOTT.out _ _ _ _ O9.out).mono ?_
  rintro e v10 ⟨rfl, hb⟩
  have X10 := hid (X9.out.on hb)
  have WX10 := hid (WX9.out.on hb)
  have WZ10 := hid (WZ9.out.on hb)
  clear a0 a1 a2 a3 a4 a5 a6 a7 a8 a9 b0 b1 b2 b3 WXc0 WXc1 WZc0 WZc1
  clear hb X9 WX9 WZ9
  obtain ⟨a0, a1, a2, a3, a4, a5, a6, a7, a8, a9⟩ := X10.out.cp
  obtain ⟨b0, b1, b2, b3⟩ := X10.out.cs
  obtain ⟨WXc0, WXc1⟩ := WX10.out.cell
  obtain ⟨WZc0, WZc1⟩ := WZ10.out.cell
  cases mc with
  | false =>
    go_wp2_with fail
    all_goals (go_ret; exact ⟨rfl, X10.out.below⟩)
  | true =>
    obtain ⟨htk, hcp⟩ := HTK.out rfl
    have ew : IntKind.i64.wrap (ty + cost) = ty + cost := IntWalk.i64_in _ (by have := HTY.out; have := HCAP.out; have := HCST.out rfl; omega)
    subst htk
    go_wp2_with (go_at_call 13; refine (TOTY.out _ _ _ _ WZ10.out.own).mono ?_; rintro e v11 ⟨rfl, hb⟩)
    all_goals (go_ret; exact ⟨rfl, X10.out.below.trans (hb.mono X10.out.below.size)⟩)

theorem goes_call (p : Pol) (s : Win) (A : Option Addr) (c : Nat) (a b cost : Int) (w : World) (hl : s.l.length ≤ 9223372036854775807) (hrd : ReadIn w A s.l) :
    Calls Try.prog 5 #[.agg #[.int .i64 p.k, .int .i64 p.cap, .int .i64 p.num, .int .i64 p.den, .int .i64 p.width, .int .i64 p.count, .int .i64 p.keys, .int .i64 p.slots, .int .i64 p.every, .int .i64 p.seg], .agg #[.int .i64 s.g, .slice A s.l.length c], .int .i64 a, .int .i64 b, .int .i64 cost] w fun e w' => e = .returned (.bool true) ∧ Below w.heap.size w w' := by
  cases h1 : okB p with
  | false => exact goes_bad p s A c a b cost w hl hrd h1
  | true =>
    by_cases h2 : p.k = 2
    · by_cases h3 : b < a
      · exact goes_back p s A c a b cost w hl hrd h1 h2 h3
      · exact goes_main p s A c a b cost w hl hrd h1 h2 h3
    · exact goes_kind p s A c a b cost w hl hrd h1 h2

#print axioms goes_call
end Go.Proofs.Ytkcnenekmjgmgaa
