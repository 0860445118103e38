/- Contracts: a slice in memory of its own: a copy of one, an empty window. -/
import Derived.Test.YtkcnenekmjgmgaaI
import Derived.Test.YtkcnenekmjgmgaaAp
import Derived.Test.YtkcnenekmjgmgaaR
import Derived.Deep.RegionHeld3
import Derived.Deep.OwnRows
import Derived.Lib.LazyBuf
namespace Go.Proofs.Ytkcnenekmjgmgaa
open Go.RowKit

theorem info3 : (Try.prog.info? 3).map (fun i => (i.zero, i.size, i.bytes)) = some (some (.int .i64 0), 1, 8) := by kernel_rfl

/-- A slice of int that the call owns, in a row of its own. -/
def Own (B : Nat) (w : World) (sl : Value) (l : List Int) : Prop := w.ownsRow B 3 1 sl l.length (l.map (Value.int .i64))
theorem Own.below {B : Nat} {w w' : World} {sl : Value} {l : List Int} (h : Own B w sl l) (hb : Below w.heap.size w w') : Own B w' sl l := by
  refine ⟨h.1, ?_⟩
  rcases h.2 with h2 | ⟨g, cap, cur, hv, hg, hh, r⟩
  · exact Or.inl h2
  · refine Or.inr ⟨g, cap, cur, hv, hg, ?_, r⟩
    have hl := (World.ownsRow.lt h g (by rw [hv]; rfl)).2
    rw [hb.block g hl]; exact hh
theorem Own.of_block {B : Nat} {w w' : World} {sl : Value} {l : List Int} (h : Own B w sl l) (hb : ∀ k, sl.ownBlock = some k → w'.heap[k]? = w.heap[k]?) : Own B w' sl l := by
  refine ⟨h.1, ?_⟩
  rcases h.2 with h2 | ⟨g, cap, cur, hv, hg, hh, r⟩
  · exact Or.inl h2
  · exact Or.inr ⟨g, cap, cur, hv, hg, by rw [hb g (by rw [hv]; rfl)]; exact hh, r⟩
theorem Own.lower {B C : Nat} {w : World} {sl : Value} {l : List Int} (h : Own B w sl l) (hb : C ≤ B) : Own C w sl l := by
  refine ⟨h.1, ?_⟩
  rcases h.2 with h2 | ⟨g, cap, cur, hv, hg, r⟩
  · exact Or.inl h2
  · exact Or.inr ⟨g, cap, cur, hv, by omega, r⟩
theorem Own.nil (B : Nat) (w : World) : Own B w (.slice none 0 0) [] := World.ownsRow_nil w B 3 1
theorem Own.form {B : Nat} {w : World} {v : Value} {xs : List Int} (h : Own B w v xs) :
    ∃ A c, v = .slice A xs.length c ∧ (0 < xs.length → ∃ g, A = some ⟨g, 0, none⟩ ∧ B ≤ g ∧ g < w.heap.size ∧ ∀ i, i < xs.length → w.cell? ⟨g, i, none⟩ = some (.int .i64 (xs.getD i 0))) := by
  by_cases hn : 0 < xs.length
  · obtain ⟨g, c, hv, _, _⟩ := World.ownsRow.form h hn
    subst hv
    have hlt := World.ownsRow.lt h g rfl
    refine ⟨_, c, rfl, fun _ => ⟨g, rfl, hlt.1, hlt.2, fun i hi => ?_⟩⟩
    rw [World.ownsRow.cellAt h i (by omega)]
    simp [hi]
  · have h0 : xs.length = 0 := by omega
    rcases h.2 with ⟨hv, _⟩ | ⟨g, c, cur, hv, _⟩
    · exact ⟨none, 0, by rw [hv, h0], fun h => absurd h hn⟩
    · exact ⟨_, c, hv, fun h => absurd h hn⟩
theorem Own.reads {B : Nat} {w : World} {v : Value} {xs : List Int} (h : Own B w v xs) : Reads w v xs := by
  obtain ⟨A, c, e, f⟩ := h.form
  exact ⟨A, c, e, fun h0 => by obtain ⟨g, e2, _, hg, hc⟩ := f h0; exact ⟨g, 0, e2, hg, fun i hi => by rw [Nat.zero_add]; exact hc i hi⟩⟩

set_option maxHeartbeats 1000000 in
theorem clone_call (l : List Int) (g o c : Nat) (w : World) (h0 : 0 < l.length) (hn : l.length ≤ 1099511627776) (hg : g < w.heap.size) (hc : ∀ i, i < l.length → w.cell? ⟨g, o + i, none⟩ = some (.int .i64 (l.getD i 0))) :
    Calls Try.prog 42 #[.slice (some ⟨g, o, none⟩) l.length c] w fun e w' => ∃ sl, e = .returned sl ∧ Own w.heap.size w' sl l ∧ Below w.heap.size w w' := by
  obtain ⟨iI, hi, hz0, hz1, hz2⟩ := info_parts info3
  have HI := hid hi
  have HZ := hid (And.intro hz0 (And.intro hz1 hz2))
  clear hi hz0 hz1 hz2
  have C := hid hc
  clear hc
  have ho : (w.alloc (.cells #[] 3)).ownsRow w.heap.size 3 1 (.slice (some ⟨w.heap.size, 0, none⟩) 0 0) 0 [] := World.ownsRow_lit w #[] 0 (Nat.le_refl _) (by simp [maxLen]) rfl
  have HO := hid ho
  clear ho
  have hnil := fun w => Go.run_eql_slice_nil (P := Try.prog) w 24 3 (some ⟨g, o, none⟩) l.length c Try.underlying24
  have HL : (l.map (Value.int .i64)).length = l.length * 1 := by simp
  have HN := hid (show ∀ j u, (l.map (Value.int .i64))[j]? = some u → (w.alloc (.cells #[] 3)).cell? (Addr.add ⟨g, o, none⟩ j) = some u from by
    intro j u hu
    simp only [List.getElem?_map, Option.map_eq_some_iff] at hu
    obtain ⟨x, hx, rfl⟩ := hu
    obtain ⟨hj, hx⟩ := List.getElem?_eq_some_iff.1 hx
    have := C.out j hj
    rw [show l.getD j 0 = x by simp [hj, hx]] at this
    have ea : Addr.add ⟨g, o, none⟩ j = ⟨g, o + j, none⟩ := by simp [Addr.add]
    rw [ea]
    exact (World.cell?_alloc_lt _ _ _ hg).trans this)
  have H1 : ∀ u ∈ l.map (Value.int .i64), u.oneCell' = true := by
    intro u hu
    simp only [List.mem_map] at hu
    obtain ⟨x, hx, rfl⟩ := hu
    rfl
  have HM : 0 + l.length ≤ maxLen := by simp [maxLen]; omega
  have HBa : w.heap.size ≤ (w.alloc (.cells #[] 3)).heap.size := by simp
  have HBy : (0 + l.length) * 8 ≤ 140737488355328 := by omega
  go_enter Try.func42, Try.ntmps42
  go_wp2_with (at_builtin; refine wpList_append_at rfl (.tmp 5) (.tmp 6) 24 rfl w.heap.size 3 iI (.int .i64 0) 1 8 Try.underlying24 HI.out HZ.out.1 HZ.out.2.1 HZ.out.2.2 rfl (by decide) _ 0 [] rfl HO.out ⟨g, o, none⟩ l.length c _ rfl HL HN.out H1 HM HBy HBa ?_; intro sl w1 hown hgrow hlie)
  go_ret
  refine ⟨sl, rfl, ?_, ?_⟩
  · simpa [Own] using hown
  · exact ((Below.refl _ _).alloc (Nat.le_refl _) _).grown hgrow (by simp) (fun k hk => by cases hk; exact Nat.le_refl _)

theorem zeros_made (n : Nat) : (madeCells #[Value.int .i64 0] n).toList = (zeros n).map (Value.int .i64) := by
  rw [toList_madeCells_one]; simp [zeros]

/-- The ten cells of a policy in a box. -/
theorem ten_below {g : Nat} {k cap num den width count keys slots every seg : Int} {W w1 : World} (hb : Below W.heap.size W w1) (hg : g < W.heap.size)
    (h : W.cell? ⟨g, 0, none⟩ = some (.int .i64 k) ∧ W.cell? ⟨g, 1, none⟩ = some (.int .i64 cap) ∧ W.cell? ⟨g, 2, none⟩ = some (.int .i64 num) ∧ W.cell? ⟨g, 3, none⟩ = some (.int .i64 den) ∧ W.cell? ⟨g, 4, none⟩ = some (.int .i64 width) ∧ W.cell? ⟨g, 5, none⟩ = some (.int .i64 count) ∧ W.cell? ⟨g, 6, none⟩ = some (.int .i64 keys) ∧ W.cell? ⟨g, 7, none⟩ = some (.int .i64 slots) ∧ W.cell? ⟨g, 8, none⟩ = some (.int .i64 every) ∧ W.cell? ⟨g, 9, none⟩ = some (.int .i64 seg)) :
    w1.cell? ⟨g, 0, none⟩ = some (.int .i64 k) ∧ w1.cell? ⟨g, 1, none⟩ = some (.int .i64 cap) ∧ w1.cell? ⟨g, 2, none⟩ = some (.int .i64 num) ∧ w1.cell? ⟨g, 3, none⟩ = some (.int .i64 den) ∧ w1.cell? ⟨g, 4, none⟩ = some (.int .i64 width) ∧ w1.cell? ⟨g, 5, none⟩ = some (.int .i64 count) ∧ w1.cell? ⟨g, 6, none⟩ = some (.int .i64 keys) ∧ w1.cell? ⟨g, 7, none⟩ = some (.int .i64 slots) ∧ w1.cell? ⟨g, 8, none⟩ = some (.int .i64 every) ∧ w1.cell? ⟨g, 9, none⟩ = some (.int .i64 seg) := by
  obtain ⟨h0, h1, h2, h3, h4, h5, h6, h7, h8, h9⟩ := h
  have e : ∀ i, w1.cell? ⟨g, i, none⟩ = W.cell? ⟨g, i, none⟩ := fun i => hb.cell (p := ⟨g, i, none⟩) hg
  exact ⟨(e 0).trans h0, (e 1).trans h1, (e 2).trans h2, (e 3).trans h3, (e 4).trans h4, (e 5).trans h5, (e 6).trans h6, (e 7).trans h7, (e 8).trans h8, (e 9).trans h9⟩

theorem info26 : (Try.prog.info? 26).map (·.size) = some 2 := by kernel_rfl
theorem row_set2 {w : World} {g : Nat} {a b x y : Value} {t : TypeId} (h : w.heap[g]? = some (.cells #[a, b] t (0, 0))) : ((w.setCell ⟨g, 0, none⟩ x).setCell ⟨g, 1, none⟩ y).heap[g]? = some (.cells #[x, y] t (0, 0)) := by
  rw [heap_setCell_same _ g 1 #[x, b] t y (by rw [heap_setCell_same _ g 0 #[a, b] t x h]; rfl)]
  rfl
/-- What a cell holds. -/
def valAt (w : World) (a : Addr) : Value := (w.cell? a).getD undef
theorem valAt_some {w : World} {a : Addr} {v : Value} (h : w.cell? a = some v) : w.cell? a = some (valAt w a) := by simp [valAt, h]
theorem valAt_set {w : World} {a b : Addr} {v x : Value} (h : w.cell? a = some x) : (w.setCell b v).cell? a = some (valAt (w.setCell b v) a) := by
  by_cases e : b = a
  · subst e
    exact valAt_some (World.cell?_setCell_same (w := w) (a := b) (v := v) h)
  · exact valAt_some ((World.cell?_setCell_other (w := w) (a := b) (b := a) (v := v) e).trans h)
theorem cell_far {w : World} {g o : Nat} {a : Addr} {v x : Value} (h : w.cell? a = some x) (hne : g ≠ a.block) : (w.setCell ⟨g, o, none⟩ v).cell? a = some x := by
  rw [World.cell?_setCell_other (w := w) (a := ⟨g, o, none⟩) (b := a) (v := v) (fun e => hne (by rw [← e]))]
  exact h

/-- A window's result cell. -/
theorem two_below {g : Nat} {x y : Value} {W w1 : World} (hb : Below W.heap.size W w1) (hg : g < W.heap.size)
    (h : W.cell? ⟨g, 0, none⟩ = some x ∧ W.cell? ⟨g, 1, none⟩ = some y ∧ W.frozen? ⟨g, 0, none⟩ = false ∧ W.frozen? ⟨g, 1, none⟩ = false) :
    w1.cell? ⟨g, 0, none⟩ = some x ∧ w1.cell? ⟨g, 1, none⟩ = some y ∧ w1.frozen? ⟨g, 0, none⟩ = false ∧ w1.frozen? ⟨g, 1, none⟩ = false := by
  obtain ⟨h0, h1, h2, h3⟩ := h
  exact ⟨(hb.cell (p := ⟨g, 0, none⟩) hg).trans h0, (hb.cell (p := ⟨g, 1, none⟩) hg).trans h1, (hb.frozen (p := ⟨g, 0, none⟩) hg).trans h2, (hb.frozen (p := ⟨g, 1, none⟩) hg).trans h3⟩

set_option maxHeartbeats 2000000 in
theorem fresh_yes (p : Pol) (t : Int) (hm : meansW p = true) (w : World) : Calls Try.prog 16 #[.agg #[.int .i64 p.k, .int .i64 p.cap, .int .i64 p.num, .int .i64 p.den, .int .i64 p.width, .int .i64 p.count, .int .i64 p.keys, .int .i64 p.slots, .int .i64 p.every, .int .i64 p.seg], .int .i64 t] w
    fun e w' => ∃ sl, e = .returned (.agg #[.int .i64 (gridN p t), sl]) ∧ Own w.heap.size w' sl (zeros p.count.toNat) ∧ Below w.heap.size w w' := by
  have hr := means_any p
  have hgd := grid_any p t
  rw [hm] at hr
  rw [gridP_yes hm] at hgd
  have hcc := (meansW_bounds hm).2.2.2
  obtain ⟨k, cap, num, den, width, count, keys, slots, every, seg⟩ := p
  dsimp only at *
  obtain ⟨n, rfl⟩ : ∃ n : Nat, count = n := ⟨count.toNat, by omega⟩
  have hmk := run_make_row' (P := Try.prog) 24 3 (.int .i64 0) 8 Try.underlying24 info3 rfl .i64 .i64 n (by omega) (by omega)
  generalize gridN _ t = gv at *
  have HR := hid hr
  have HG := hid hgd
  clear hr hm hgd
  go_enter Try.func16, Try.ntmps16
  go_wp2_with fail
  refine (HR.out _).mono ?_
  rintro e w1 ⟨rfl, hb⟩
  go_upto_region 3 with fail
  refine abstract_world (fun W => Below w.heap.size w W ∧ w.heap.size + 1 < W.heap.size ∧ W.heap[w.heap.size]? = some (.cells #[.int .i64 k, .int .i64 cap, .int .i64 num, .int .i64 den, .int .i64 width, .int .i64 n, .int .i64 keys, .int .i64 slots, .int .i64 every, .int .i64 seg] 23 (0, 0)) ∧ W.heap[w.heap.size + 1]? = some (.cells #[.int .i64 0, .slice none 0 0] 26 (0, 0))) ?_ ?_
  · have hs := hb.size
    simp at hs
    refine ⟨(((Below.refl _ _).alloc (Nat.le_refl _) _).alloc (by simp) _).trans (hb.mono (by simp; omega)), by omega, ?_, ?_⟩
    · rw [hb.block _ (by simp; omega)]
      exact heap_alloc_keep _ _ (heap_alloc_same _ _)
    · rw [hb.block _ (by simp)]
      have := heap_alloc_same (w.alloc (.cells #[.int .i64 k, .int .i64 cap, .int .i64 num, .int .i64 den, .int .i64 width, .int .i64 n, .int .i64 keys, .int .i64 slots, .int .i64 every, .int .i64 seg] 23)) (.cells #[.int .i64 0, .slice none 0 0] 26)
      simpa using this
  · intro W ⟨hB, hlt, hp, hr⟩
    have c1 : W.cell? ⟨w.heap.size, 0, none⟩ = some (.int .i64 k) ∧ W.cell? ⟨w.heap.size, 1, none⟩ = some (.int .i64 cap) ∧ W.cell? ⟨w.heap.size, 2, none⟩ = some (.int .i64 num) ∧ W.cell? ⟨w.heap.size, 3, none⟩ = some (.int .i64 den) ∧ W.cell? ⟨w.heap.size, 4, none⟩ = some (.int .i64 width) ∧ W.cell? ⟨w.heap.size, 5, none⟩ = some (.int .i64 n) ∧ W.cell? ⟨w.heap.size, 6, none⟩ = some (.int .i64 keys) ∧ W.cell? ⟨w.heap.size, 7, none⟩ = some (.int .i64 slots) ∧ W.cell? ⟨w.heap.size, 8, none⟩ = some (.int .i64 every) ∧ W.cell? ⟨w.heap.size, 9, none⟩ = some (.int .i64 seg) := by simp [World.cell?, hp]
    have c2 : W.cell? ⟨w.heap.size + 1, 0, none⟩ = some (.int .i64 0) ∧ W.cell? ⟨w.heap.size + 1, 1, none⟩ = some (.slice none 0 0) ∧ W.frozen? ⟨w.heap.size + 1, 0, none⟩ = false ∧ W.frozen? ⟨w.heap.size + 1, 1, none⟩ = false := by simp [World.cell?, World.frozen?, hr]
    have F : ∀ w', Below W.heap.size W w' → (w'.cell? ⟨w.heap.size, 0, none⟩ = some (.int .i64 k) ∧ w'.cell? ⟨w.heap.size, 1, none⟩ = some (.int .i64 cap) ∧ w'.cell? ⟨w.heap.size, 2, none⟩ = some (.int .i64 num) ∧ w'.cell? ⟨w.heap.size, 3, none⟩ = some (.int .i64 den) ∧ w'.cell? ⟨w.heap.size, 4, none⟩ = some (.int .i64 width) ∧ w'.cell? ⟨w.heap.size, 5, none⟩ = some (.int .i64 n) ∧ w'.cell? ⟨w.heap.size, 6, none⟩ = some (.int .i64 keys) ∧ w'.cell? ⟨w.heap.size, 7, none⟩ = some (.int .i64 slots) ∧ w'.cell? ⟨w.heap.size, 8, none⟩ = some (.int .i64 every) ∧ w'.cell? ⟨w.heap.size, 9, none⟩ = some (.int .i64 seg) ∧ w'.cell? ⟨w.heap.size + 1, 0, none⟩ = some (valAt w' ⟨w.heap.size + 1, 0, none⟩) ∧ w'.cell? ⟨w.heap.size + 1, 1, none⟩ = some (valAt w' ⟨w.heap.size + 1, 1, none⟩) ∧ w'.frozen? ⟨w.heap.size + 1, 0, none⟩ = false ∧ w'.frozen? ⟨w.heap.size + 1, 1, none⟩ = false) := by
      intro w' hb
      obtain ⟨a0, a1, a2, a3, a4, a5, a6, a7, a8, a9⟩ := ten_below hb (show w.heap.size < W.heap.size by omega) c1
      obtain ⟨b0, b1, b2, b3⟩ := two_below hb hlt c2
      exact ⟨a0, a1, a2, a3, a4, a5, a6, a7, a8, a9, valAt_some b0, valAt_some b1, b2, b3⟩
    obtain ⟨a0, a1, a2, a3, a4, a5, a6, a7, a8, a9, b0, b1, b2, b3⟩ := F W (Below.refl _ _)
    have hne : w.heap.size + 1 ≠ w.heap.size := by omega
    have G : ∀ w' x y, Below W.heap.size W w' → ((w'.setCell ⟨w.heap.size + 1, 0, none⟩ x).setCell ⟨w.heap.size + 1, 1, none⟩ y) = ((w'.setCell ⟨w.heap.size + 1, 0, none⟩ x).setCell ⟨w.heap.size + 1, 1, none⟩ y) ∧ (((w'.setCell ⟨w.heap.size + 1, 0, none⟩ x).setCell ⟨w.heap.size + 1, 1, none⟩ y).cell? ⟨w.heap.size, 0, none⟩ = some (.int .i64 k) ∧ ((w'.setCell ⟨w.heap.size + 1, 0, none⟩ x).setCell ⟨w.heap.size + 1, 1, none⟩ y).cell? ⟨w.heap.size, 1, none⟩ = some (.int .i64 cap) ∧ ((w'.setCell ⟨w.heap.size + 1, 0, none⟩ x).setCell ⟨w.heap.size + 1, 1, none⟩ y).cell? ⟨w.heap.size, 2, none⟩ = some (.int .i64 num) ∧ ((w'.setCell ⟨w.heap.size + 1, 0, none⟩ x).setCell ⟨w.heap.size + 1, 1, none⟩ y).cell? ⟨w.heap.size, 3, none⟩ = some (.int .i64 den) ∧ ((w'.setCell ⟨w.heap.size + 1, 0, none⟩ x).setCell ⟨w.heap.size + 1, 1, none⟩ y).cell? ⟨w.heap.size, 4, none⟩ = some (.int .i64 width) ∧ ((w'.setCell ⟨w.heap.size + 1, 0, none⟩ x).setCell ⟨w.heap.size + 1, 1, none⟩ y).cell? ⟨w.heap.size, 5, none⟩ = some (.int .i64 n) ∧ ((w'.setCell ⟨w.heap.size + 1, 0, none⟩ x).setCell ⟨w.heap.size + 1, 1, none⟩ y).cell? ⟨w.heap.size, 6, none⟩ = some (.int .i64 keys) ∧ ((w'.setCell ⟨w.heap.size + 1, 0, none⟩ x).setCell ⟨w.heap.size + 1, 1, none⟩ y).cell? ⟨w.heap.size, 7, none⟩ = some (.int .i64 slots) ∧ ((w'.setCell ⟨w.heap.size + 1, 0, none⟩ x).setCell ⟨w.heap.size + 1, 1, none⟩ y).cell? ⟨w.heap.size, 8, none⟩ = some (.int .i64 every) ∧ ((w'.setCell ⟨w.heap.size + 1, 0, none⟩ x).setCell ⟨w.heap.size + 1, 1, none⟩ y).cell? ⟨w.heap.size, 9, none⟩ = some (.int .i64 seg) ∧ ((w'.setCell ⟨w.heap.size + 1, 0, none⟩ x).setCell ⟨w.heap.size + 1, 1, none⟩ y).cell? ⟨w.heap.size + 1, 0, none⟩ = some (valAt ((w'.setCell ⟨w.heap.size + 1, 0, none⟩ x).setCell ⟨w.heap.size + 1, 1, none⟩ y) ⟨w.heap.size + 1, 0, none⟩) ∧ ((w'.setCell ⟨w.heap.size + 1, 0, none⟩ x).setCell ⟨w.heap.size + 1, 1, none⟩ y).cell? ⟨w.heap.size + 1, 1, none⟩ = some (valAt ((w'.setCell ⟨w.heap.size + 1, 0, none⟩ x).setCell ⟨w.heap.size + 1, 1, none⟩ y) ⟨w.heap.size + 1, 1, none⟩) ∧ ((w'.setCell ⟨w.heap.size + 1, 0, none⟩ x).setCell ⟨w.heap.size + 1, 1, none⟩ y).frozen? ⟨w.heap.size + 1, 0, none⟩ = false ∧ ((w'.setCell ⟨w.heap.size + 1, 0, none⟩ x).setCell ⟨w.heap.size + 1, 1, none⟩ y).frozen? ⟨w.heap.size + 1, 1, none⟩ = false) := by
      intro w' x y hb
      obtain ⟨a0, a1, a2, a3, a4, a5, a6, a7, a8, a9, b0, b1, b2, b3⟩ := F w' hb
      have e0 := valAt_set (b := ⟨w.heap.size + 1, 0, none⟩) (v := x) b0
      have e1 := valAt_set (b := ⟨w.heap.size + 1, 0, none⟩) (v := x) b1
      exact ⟨rfl, cell_far (cell_far a0 hne) hne, cell_far (cell_far a1 hne) hne, cell_far (cell_far a2 hne) hne, cell_far (cell_far a3 hne) hne, cell_far (cell_far a4 hne) hne, cell_far (cell_far a5 hne) hne, cell_far (cell_far a6 hne) hne, cell_far (cell_far a7 hne) hne, cell_far (cell_far a8 hne) hne, cell_far (cell_far a9 hne) hne, valAt_set e0, valAt_set e1, by rw [World.frozen?_setCell, World.frozen?_setCell]; exact b2, by rw [World.frozen?_setCell, World.frozen?_setCell]; exact b3⟩
    have F := hid F
    have G := hid G
    clear c1 c2 hne
    have hB1 := (Below.refl W.heap.size W).drew
    have hB2 := (Below.refl W.heap.size W).drew.alloc (Nat.le_refl _) (.cells (madeCells #[Value.int .i64 0] n) 3)
    go_region_held3 (fun w' => w'.cell? ⟨w.heap.size, 0, none⟩ = some (.int .i64 k) ∧ w'.cell? ⟨w.heap.size, 1, none⟩ = some (.int .i64 cap) ∧ w'.cell? ⟨w.heap.size, 2, none⟩ = some (.int .i64 num) ∧ w'.cell? ⟨w.heap.size, 3, none⟩ = some (.int .i64 den) ∧ w'.cell? ⟨w.heap.size, 4, none⟩ = some (.int .i64 width) ∧ w'.cell? ⟨w.heap.size, 5, none⟩ = some (.int .i64 n) ∧ w'.cell? ⟨w.heap.size, 6, none⟩ = some (.int .i64 keys) ∧ w'.cell? ⟨w.heap.size, 7, none⟩ = some (.int .i64 slots) ∧ w'.cell? ⟨w.heap.size, 8, none⟩ = some (.int .i64 every) ∧ w'.cell? ⟨w.heap.size, 9, none⟩ = some (.int .i64 seg) ∧ w'.cell? ⟨w.heap.size + 1, 0, none⟩ = some (valAt w' ⟨w.heap.size + 1, 0, none⟩) ∧ w'.cell? ⟨w.heap.size + 1, 1, none⟩ = some (valAt w' ⟨w.heap.size + 1, 1, none⟩) ∧ w'.frozen? ⟨w.heap.size + 1, 0, none⟩ = false ∧ w'.frozen? ⟨w.heap.size + 1, 1, none⟩ = false)
      (first | exact F.out _ hB1 | exact F.out _ (hB1.trans hb) | exact F.out _ (hB2) | exact F.out _ (hB2.trans (hb.mono (by simp))) | exact F.out _ ((hB1.trans hb).alloc hb.size _) | exact (G.out _ _ _ ((hB1.trans hb).alloc hb.size _)).2 | exact (G.out _ _ _ (hB2.trans (hb.mono (by simp)))).2 | go_keep)
      (first | (go_at_call 17; refine (HG.out _).mono ?_; rintro e w2 ⟨rfl, hb⟩))
    all_goals (go_wp2_with fail)
    · have hrow := row_set2 (x := .int .i64 gv) (y := .slice (some ⟨w2.heap.size, 0, none⟩) n n) ((((hB1.trans hb).alloc hb.size (.cells (madeCells #[Value.int .i64 0] n) 3)).block _ hlt).trans hr)
      refine bodyPost_ret (results_cell_row rfl _ _ (w.heap.size + 1) 26 #[.int .i64 gv, .slice (some ⟨w2.heap.size, 0, none⟩) n n] (0, 0) _ rfl hrow Try.underlying26 rfl info26) rfl ?_
      have hz2 := hb.size
      have hlt2 : w.heap.size + 1 < w2.heap.size := Nat.lt_of_lt_of_le hlt hb.size
      refine ⟨_, rfl, ?_, (((hB.trans ((hB1.trans hb).mono (by omega))).alloc (by omega) _).setCell (by simp) _).setCell (by simp) _⟩
      have ho := World.ownsRow_lit (e := 3) (size := 1) w2 (madeCells #[Value.int .i64 0] n) n (base := w.heap.size) (by omega) (by simp [maxLen]; omega) (by simp [madeCells])
      rw [zeros_made] at ho
      refine Own.of_block (w := w2.alloc (.cells (madeCells #[Value.int .i64 0] n) 3)) (by simpa [Own, zeros] using ho) fun k hk => ?_
      cases hk
      rw [heap_setCell_other _ _ _ _ (by simp; omega), heap_setCell_other _ _ _ _ (by simp; omega)]
    · have hrow := row_set2 (x := .int .i64 gv) (y := .slice (some ⟨W.heap.size, 0, none⟩) n n) (((hB2.trans (hb.mono (by simp))).block _ hlt).trans hr)
      refine bodyPost_ret (results_cell_row rfl _ _ (w.heap.size + 1) 26 #[.int .i64 gv, .slice (some ⟨W.heap.size, 0, none⟩) n n] (0, 0) _ rfl hrow Try.underlying26 rfl info26) rfl ?_
      have hz2 := (hB2.trans (hb.mono (by simp))).size
      have ho := World.ownsRow_lit (e := 3) (size := 1) W.drew (madeCells #[Value.int .i64 0] n) n (base := w.heap.size) (by simp; omega) (by simp [maxLen]; omega) (by simp [madeCells])
      rw [zeros_made] at ho
      refine ⟨_, rfl, ?_, ((hB.trans ((hB2.trans (hb.mono (by simp))).mono (by omega))).setCell (by simp) _).setCell (by simp) _⟩
      refine Own.of_block (w := w2) (Own.below (w := W.drew.alloc (.cells (madeCells #[Value.int .i64 0] n) 3)) (by simpa [Own, zeros] using ho) hb) fun k hk => ?_
      cases hk
      rw [heap_setCell_other _ _ _ _ (by simp; omega), heap_setCell_other _ _ _ _ (by simp; omega)]

end Go.Proofs.Ytkcnenekmjgmgaa
