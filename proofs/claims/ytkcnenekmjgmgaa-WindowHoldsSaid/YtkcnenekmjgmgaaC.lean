/- policy.fields: the eight fields of a kind, and their bounds. -/
import Derived.Test.YtkcnenekmjgmgaaB
import Derived.Test.YtkcnenekmjgmgaaH
import Derived.Test.YtkcnenekmjgmgaaR
import Derived.RegionTactic
import Derived.BigRegion
namespace Go.Proofs.Ytkcnenekmjgmgaa
open Go.RowKit

theorem size57 : (Try.prog.info? 57).map (·.size) = some 24 := by kernel_rfl
theorem size56 : (Try.prog.info? 56).map (·.size) = some 3 := by kernel_rfl

/-- An array of eight fields, empty. -/
def zeros24 : Array Value := #[.pointer none, .int .i64 0, .int .i64 0, .pointer none, .int .i64 0, .int .i64 0, .pointer none, .int .i64 0, .int .i64 0, .pointer none, .int .i64 0, .int .i64 0, .pointer none, .int .i64 0, .int .i64 0, .pointer none, .int .i64 0, .int .i64 0, .pointer none, .int .i64 0, .int .i64 0, .pointer none, .int .i64 0, .int .i64 0]
/-- The fields of the policy in block b, two of them given. -/
def fields24 (b : Nat) (x y : Option Addr) (x1 x2 y1 y2 : Int) : Array Value := #[.pointer (some ⟨b, 0, none⟩), .int .i64 1, .int .i64 2, .pointer (some ⟨b, 1, none⟩), .int .i64 1, .int .i64 1048576, .pointer x, .int .i64 x1, .int .i64 x2, .pointer y, .int .i64 y1, .int .i64 y2, .pointer (some ⟨b, 6, none⟩), .int .i64 1, .int .i64 1000, .pointer (some ⟨b, 7, none⟩), .int .i64 1, .int .i64 64, .pointer (some ⟨b, 8, none⟩), .int .i64 0, .int .i64 1000, .pointer (some ⟨b, 9, none⟩), .int .i64 1, .int .i64 1000]

theorem fields24_fits (b : Nat) (x y : Option Addr) (x1 x2 y1 y2 : Int) : 0 + (fields24 b x y x1 x2 y1 y2).size ≤ zeros24.size := Nat.le_refl 24
theorem fields24_info (b : Nat) (x y : Option Addr) (x1 x2 y1 y2 : Int) : (Try.prog.info? 57).map (·.size) = some (fields24 b x y x1 x2 y1 y2).size := size57
theorem fields24_one (b : Nat) (x y : Option Addr) (x1 x2 y1 y2 : Int) : (fields24 b x y x1 x2 y1 y2).all (·.oneCell') = true := by simp [fields24, Value.oneCell']

/-- Two rows of the call's own behind what stood there. -/
def Rows2 (w wc : World) (g : Nat) (z row : Array Value) : Prop := Below w.heap.size w wc ∧ wc.heap[w.heap.size]? = some (.cells z 57 (0, 0)) ∧ wc.heap[g]? = some (.cells row 57 (0, 0))
theorem Rows2.set {w wc : World} {g : Nat} {z row : Array Value} (hg : w.heap.size < g) (h : Rows2 w wc g z row) (i : Nat) (v : Value) : Rows2 w (wc.setCell ⟨g, i, none⟩ v) g z (row.setIfInBounds i v) :=
  ⟨h.1.setCell (p := ⟨g, i, none⟩) (Nat.le_of_lt hg) v, by rw [heap_setCell_other _ _ _ _ (show w.heap.size ≠ g by omega)]; exact h.2.1, heap_setCell_same _ _ _ _ _ _ h.2.2⟩
theorem Rows2.drew {w wc : World} {g : Nat} {z row : Array Value} (h : Rows2 w wc g z row) : Rows2 w wc.drew g z row := ⟨h.1.drew, h.2.1, h.2.2⟩
theorem Rows2.row {w wc : World} {g : Nat} {z row row' : Array Value} (h : Rows2 w wc g z row) (e : row = row') : Rows2 w wc g z row' := e ▸ h
theorem row_six (b : Nat) (x y : Option Addr) (m n : Int) : ((((((fields24 b none none 0 0 0 0).setIfInBounds 6 (.pointer x)).setIfInBounds 7 (.int .i64 1)).setIfInBounds 8 (.int .i64 m)).setIfInBounds 9 (.pointer y)).setIfInBounds 10 (.int .i64 1)).setIfInBounds 11 (.int .i64 n) = fields24 b x y 1 m 1 n := by
  simp [fields24]

theorem six_cells (w wc : World) (g b : Nat) (x y : Option Addr) (m n : Int) (hg : w.heap.size < g) (h : Rows2 w wc g zeros24 (fields24 b none none 0 0 0 0)) :
    Rows2 w ((((((wc.setCell ⟨g, 6, none⟩ (.pointer x)).setCell ⟨g, 7, none⟩ (.int .i64 1)).setCell ⟨g, 8, none⟩ (.int .i64 m)).setCell ⟨g, 9, none⟩ (.pointer y)).setCell ⟨g, 10, none⟩ (.int .i64 1)).setCell ⟨g, 11, none⟩ (.int .i64 n)).drew g zeros24 (fields24 b x y 1 m 1 n) := by
  have h1 := h.set hg 6 (.pointer x)
  have h2 := h1.set hg 7 (.int .i64 1)
  have h3 := h2.set hg 8 (.int .i64 m)
  have h4 := h3.set hg 9 (.pointer y)
  have h5 := h4.set hg 10 (.int .i64 1)
  have h6 := h5.set hg 11 (.int .i64 n)
  exact (h6.row (row_six b x y m n)).drew

set_option maxHeartbeats 1000000 in
theorem fields_bucket (b : Nat) (w : World) (hc : w.cell? ⟨b, 0, none⟩ = some (.int .i64 1)) :
    Calls Try.prog 43 #[.pointer (some ⟨b, 0, none⟩)] w
      fun e w' => e = .returned (.tuple #[.agg (fields24 b (some ⟨b, 2, none⟩) (some ⟨b, 3, none⟩) 1 65536 1 65536), .bool true]) ∧ Below w.heap.size w w' := by
  have hb := World.block_lt_of_cell? w _ hc
  go_enter Try.func43, Try.ntmps43
  go_upto_region 1 with fail
  go_cut [4] (fun s4 wx => s4 = .pointer (some ⟨w.heap.size + 1, 0, none⟩) ∧ Below w.heap.size w wx ∧ wx.heap.size = w.heap.size + 2 ∧ wx.heap[w.heap.size]? = some (.cells zeros24 57 (0, 0)) ∧ wx.heap[w.heap.size + 1]? = some (.cells (fields24 b none none 0 0 0 0) 57 (0, 0)))
  case first =>
    refine wp_region_headTail 27 (by kernel_rfl) (by kernel_rfl) (fun _ _ d _ _ h => by cases d <;> exact h) ?_
    simp only [List.take_succ_cons, List.take_zero, List.drop_succ_cons, List.drop_zero]
    repeat (quiet_step (fail))
    refine wpQuiet_nil ?_
    go_wp2_with (refine wpList_store_at rfl 57 _ _ rfl (w.heap.size + 1) 0 _ rfl rfl zeros24 57 ?hg ?hl ?hi ?h1 ?_; rotate_left 4; intro w1 hw1)
    case hg => exact (Array.getElem?_eq_some_iff.1 (heap_alloc2_new w (.cells zeros24 57) (.cells zeros24 57))).2
    case hl => decide
    case hi => simpa using size57
    case h1 => simp [Value.oneCell']
    go_meet
    have hs : w1.heap.size = w.heap.size + 2 := by rw [hw1.size]; simp
    refine ⟨rfl, ?_, hs, ?_, hw1.row⟩
    · exact Below.trans ((((Below.refl _ _).alloc (Nat.le_refl _) _).alloc (by simp) _).drew) (hw1.below (by omega))
    · rw [hw1.other _ (by omega)]; exact heap_alloc2_old w _ _
  case rest =>
    obtain ⟨rfl, hb1, hz, h0, h1⟩ := hcut
    have hcx := (hb1.cell (p := ⟨b, 0, none⟩) hb).trans hc
    go_upto_region 5 with fail
    have c6 : wc.cell? ⟨w.heap.size + 1, 6, none⟩ = some (.pointer none) := by rw [cell_of_row _ _ _ _ _ _ h1]; rfl
    have c7 : wc.cell? ⟨w.heap.size + 1, 7, none⟩ = some (.int .i64 0) := by rw [cell_of_row _ _ _ _ _ _ h1]; rfl
    have c8 : wc.cell? ⟨w.heap.size + 1, 8, none⟩ = some (.int .i64 0) := by rw [cell_of_row _ _ _ _ _ _ h1]; rfl
    have c9 : wc.cell? ⟨w.heap.size + 1, 9, none⟩ = some (.pointer none) := by rw [cell_of_row _ _ _ _ _ _ h1]; rfl
    have c10 : wc.cell? ⟨w.heap.size + 1, 10, none⟩ = some (.int .i64 0) := by rw [cell_of_row _ _ _ _ _ _ h1]; rfl
    have c11 : wc.cell? ⟨w.heap.size + 1, 11, none⟩ = some (.int .i64 0) := by rw [cell_of_row _ _ _ _ _ _ h1]; rfl
    have f6 := frozen_of_row wc (w.heap.size + 1) 6 _ 57 h1
    have f7 := frozen_of_row wc (w.heap.size + 1) 7 _ 57 h1
    have f8 := frozen_of_row wc (w.heap.size + 1) 8 _ 57 h1
    have f9 := frozen_of_row wc (w.heap.size + 1) 9 _ 57 h1
    have f10 := frozen_of_row wc (w.heap.size + 1) 10 _ 57 h1
    have f11 := frozen_of_row wc (w.heap.size + 1) 11 _ 57 h1
    have H0 := hid h0
    have H1 := hid h1
    clear h0 h1 hz
    go_region
    refine abstract_world (fun wx => Below w.heap.size w wx ∧ wx.heap[w.heap.size]? = some (.cells zeros24 57 (0, 0)) ∧ wx.heap[w.heap.size + 1]? = some (.cells (fields24 b (some ⟨b, 2, none⟩) (some ⟨b, 3, none⟩) 1 65536 1 65536) 57 (0, 0))) ?_ ?_
    · exact six_cells w wc (w.heap.size + 1) b _ _ _ _ (by omega) ⟨hb1, H0.out, H1.out⟩
    · clear c6 c7 c8 c9 c10 c11 f6 f7 f8 f9 f10 f11 H0 H1 hcx hb1
      intro wx ⟨hb2, h2, h3⟩
      have H2 := hid h2
      have H3 := hid h3
      have HB := hid hb2
      clear h2 h3 hb2
      go_wp2_with (first | (refine wpList_load_row rfl 57 _ rfl (w.heap.size + 1) rfl 57 _ (0, 0) _ H3.out Try.underlying57 rfl size57 ?_) | (refine wpList_store_at rfl 57 _ _ rfl w.heap.size 0 _ rfl rfl zeros24 57 H2.out (fields24_fits ..) (fields24_info ..) (fields24_one ..) ?_; intro w1 hw1))
      exact bodyPost_ret (results_row_tmp rfl _ _ w.heap.size 57 _ _ _ rfl hw1.row Try.underlying57 rfl size57) rfl ⟨rfl, HB.out.trans (hw1.below (Nat.le_refl _))⟩

set_option maxHeartbeats 1000000 in
theorem fields_window (b : Nat) (w : World) (hc : w.cell? ⟨b, 0, none⟩ = some (.int .i64 2)) :
    Calls Try.prog 43 #[.pointer (some ⟨b, 0, none⟩)] w
      fun e w' => e = .returned (.tuple #[.agg (fields24 b (some ⟨b, 4, none⟩) (some ⟨b, 5, none⟩) 1 1048576 1 32), .bool true]) ∧ Below w.heap.size w w' := by
  have hb := World.block_lt_of_cell? w _ hc
  go_enter Try.func43, Try.ntmps43
  go_upto_region 1 with fail
  go_cut [4] (fun s4 wx => s4 = .pointer (some ⟨w.heap.size + 1, 0, none⟩) ∧ Below w.heap.size w wx ∧ wx.heap.size = w.heap.size + 2 ∧ wx.heap[w.heap.size]? = some (.cells zeros24 57 (0, 0)) ∧ wx.heap[w.heap.size + 1]? = some (.cells (fields24 b none none 0 0 0 0) 57 (0, 0)))
  case first =>
    refine wp_region_headTail 27 (by kernel_rfl) (by kernel_rfl) (fun _ _ d _ _ h => by cases d <;> exact h) ?_
    simp only [List.take_succ_cons, List.take_zero, List.drop_succ_cons, List.drop_zero]
    repeat (quiet_step (fail))
    refine wpQuiet_nil ?_
    go_wp2_with (refine wpList_store_at rfl 57 _ _ rfl (w.heap.size + 1) 0 _ rfl rfl zeros24 57 ?hg ?hl ?hi ?h1 ?_; rotate_left 4; intro w1 hw1)
    case hg => exact (Array.getElem?_eq_some_iff.1 (heap_alloc2_new w (.cells zeros24 57) (.cells zeros24 57))).2
    case hl => decide
    case hi => simpa using size57
    case h1 => simp [Value.oneCell']
    go_meet
    have hs : w1.heap.size = w.heap.size + 2 := by rw [hw1.size]; simp
    refine ⟨rfl, ?_, hs, ?_, hw1.row⟩
    · exact Below.trans ((((Below.refl _ _).alloc (Nat.le_refl _) _).alloc (by simp) _).drew) (hw1.below (by omega))
    · rw [hw1.other _ (by omega)]; exact heap_alloc2_old w _ _
  case rest =>
    obtain ⟨rfl, hb1, hz, h0, h1⟩ := hcut
    have hcx := (hb1.cell (p := ⟨b, 0, none⟩) hb).trans hc
    go_upto_region 7 with fail
    have c6 : wc.cell? ⟨w.heap.size + 1, 6, none⟩ = some (.pointer none) := by rw [cell_of_row _ _ _ _ _ _ h1]; rfl
    have c7 : wc.cell? ⟨w.heap.size + 1, 7, none⟩ = some (.int .i64 0) := by rw [cell_of_row _ _ _ _ _ _ h1]; rfl
    have c8 : wc.cell? ⟨w.heap.size + 1, 8, none⟩ = some (.int .i64 0) := by rw [cell_of_row _ _ _ _ _ _ h1]; rfl
    have c9 : wc.cell? ⟨w.heap.size + 1, 9, none⟩ = some (.pointer none) := by rw [cell_of_row _ _ _ _ _ _ h1]; rfl
    have c10 : wc.cell? ⟨w.heap.size + 1, 10, none⟩ = some (.int .i64 0) := by rw [cell_of_row _ _ _ _ _ _ h1]; rfl
    have c11 : wc.cell? ⟨w.heap.size + 1, 11, none⟩ = some (.int .i64 0) := by rw [cell_of_row _ _ _ _ _ _ h1]; rfl
    have f6 := frozen_of_row wc (w.heap.size + 1) 6 _ 57 h1
    have f7 := frozen_of_row wc (w.heap.size + 1) 7 _ 57 h1
    have f8 := frozen_of_row wc (w.heap.size + 1) 8 _ 57 h1
    have f9 := frozen_of_row wc (w.heap.size + 1) 9 _ 57 h1
    have f10 := frozen_of_row wc (w.heap.size + 1) 10 _ 57 h1
    have f11 := frozen_of_row wc (w.heap.size + 1) 11 _ 57 h1
    have H0 := hid h0
    have H1 := hid h1
    clear h0 h1 hz
    go_region
    refine abstract_world (fun wx => Below w.heap.size w wx ∧ wx.heap[w.heap.size]? = some (.cells zeros24 57 (0, 0)) ∧ wx.heap[w.heap.size + 1]? = some (.cells (fields24 b (some ⟨b, 4, none⟩) (some ⟨b, 5, none⟩) 1 1048576 1 32) 57 (0, 0))) ?_ ?_
    · exact six_cells w wc (w.heap.size + 1) b _ _ _ _ (by omega) ⟨hb1, H0.out, H1.out⟩
    · clear c6 c7 c8 c9 c10 c11 f6 f7 f8 f9 f10 f11 H0 H1 hcx hb1
      intro wx ⟨hb2, h2, h3⟩
      have H2 := hid h2
      have H3 := hid h3
      have HB := hid hb2
      clear h2 h3 hb2
      go_wp2_with (first | (refine wpList_load_row rfl 57 _ rfl (w.heap.size + 1) rfl 57 _ (0, 0) _ H3.out Try.underlying57 rfl size57 ?_) | (refine wpList_store_at rfl 57 _ _ rfl w.heap.size 0 _ rfl rfl zeros24 57 H2.out (fields24_fits ..) (fields24_info ..) (fields24_one ..) ?_; intro w1 hw1))
      exact bodyPost_ret (results_row_tmp rfl _ _ w.heap.size 57 _ _ _ rfl hw1.row Try.underlying57 rfl size57) rfl ⟨rfl, HB.out.trans (hw1.below (Nat.le_refl _))⟩

end Go.Proofs.Ytkcnenekmjgmgaa
