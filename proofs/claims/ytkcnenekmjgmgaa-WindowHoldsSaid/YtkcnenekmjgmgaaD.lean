/- policy.Right: which policies may be, by the eight fields of a kind. -/
import Derived.Test.YtkcnenekmjgmgaaC
namespace Go.Proofs.Ytkcnenekmjgmgaa
open Go.RowKit

set_option maxHeartbeats 1000000 in
theorem fields_other (b : Nat) (k : Int) (w : World) (hc : w.cell? ⟨b, 0, none⟩ = some (.int .i64 k)) (hk1 : (k == 1) = false) (hk2 : (k == 2) = false) :
    Calls Try.prog 43 #[.pointer (some ⟨b, 0, none⟩)] w
      fun e w' => e = .returned (.tuple #[.agg (fields24 b none none 0 0 0 0), .bool false]) ∧ Below w.heap.size w w' := by
  have hb := World.block_lt_of_cell? w _ hc
  go_enter Try.func43, Try.ntmps43
  go_upto_region 1 with fail
  go_cut [4] (fun s4 wx => s4 = .pointer (some ⟨w.heap.size + 1, 0, none⟩) ∧ Below w.heap.size w wx ∧ wx.heap.size = w.heap.size + 2 ∧ wx.heap[w.heap.size]? = some (.cells zeros24 57 (0, 0)) ∧ wx.heap[w.heap.size + 1]? = some (.cells (fields24 b none none 0 0 0 0) 57 (0, 0)))
  case first =>
    refine wp_region_headTail 27 (by kernel_rfl) (by kernel_rfl) (fun _ _ d _ _ h => by cases d <;> exact h) ?_
    simp only [List.take_succ_cons, List.take_zero, List.drop_succ_cons, List.drop_zero]
    repeat (quiet_step (fail))
    refine wpQuiet_nil ?_
    go_wp2_with (refine wpList_store_at rfl 57 _ _ rfl (w.heap.size + 1) 0 _ rfl rfl zeros24 57 ?hg ?hl ?hi ?h1 ?_; rotate_left 4; intro w1 hw1)
    case hg => exact (Array.getElem?_eq_some_iff.1 (heap_alloc2_new w (.cells zeros24 57) (.cells zeros24 57))).2
    case hl => decide
    case hi => simpa using size57
    case h1 => simp [Value.oneCell']
    go_meet
    have hs : w1.heap.size = w.heap.size + 2 := by rw [hw1.size]; simp
    refine ⟨rfl, ?_, hs, ?_, hw1.row⟩
    · exact Below.trans ((((Below.refl _ _).alloc (Nat.le_refl _) _).alloc (by simp) _).drew) (hw1.below (by omega))
    · rw [hw1.other _ (by omega)]; exact heap_alloc2_old w _ _
  case rest =>
    obtain ⟨rfl, hb1, hz, h0, h1⟩ := hcut
    have hcx := (hb1.cell (p := ⟨b, 0, none⟩) hb).trans hc
    have H2 := hid h0
    have H3 := hid h1
    have HB := hid hb1
    clear h0 h1 hb1 hz
    go_wp2_with (first | (refine wpList_load_row rfl 57 _ rfl (w.heap.size + 1) rfl 57 _ (0, 0) _ H3.out Try.underlying57 rfl size57 ?_) | (refine wpList_store_at rfl 57 _ _ rfl w.heap.size 0 _ rfl rfl zeros24 57 H2.out (fields24_fits ..) (fields24_info ..) (fields24_one ..) ?_; intro w1 hw1))
    exact bodyPost_ret (results_row_tmp rfl _ _ w.heap.size 57 _ _ _ rfl hw1.row Try.underlying57 rfl size57) rfl ⟨rfl, HB.out.trans (hw1.below (Nat.le_refl _))⟩

/-- Right, of another kind. -/
theorem right_other (p : Pol) (hk1 : (p.k == 1) = false) (hk2 : (p.k == 2) = false) (w : World) :
    Calls Try.prog 39 #[.agg #[.int .i64 p.k, .int .i64 p.cap, .int .i64 p.num, .int .i64 p.den, .int .i64 p.width, .int .i64 p.count, .int .i64 p.keys, .int .i64 p.slots, .int .i64 p.every, .int .i64 p.seg]] w
      fun e w' => e = .returned (.int .i64 40) ∧ Below w.heap.size w w' := by
  obtain ⟨k, cap, num, den, width, count, keys, slots, every, seg⟩ := p
  dsimp only at *
  go_enter Try.func39, Try.ntmps39
  go_wp2_with fail
  refine (fields_other w.heap.size k _ (by simp) hk1 hk2).mono ?_
  rintro e w1 ⟨rfl, hb⟩
  have hz : w.heap.size + 1 ≤ w1.heap.size := by have := hb.size; simp at this; omega
  have hcx : w1.cell? ⟨w.heap.size, 0, none⟩ = some (.int .i64 k) := by rw [hb.cell (p := ⟨w.heap.size, 0, none⟩) (by simp)]; simp
  go_upto_region 2 with (refine wpList_store_at rfl 57 _ _ rfl w1.heap.size 0 _ rfl rfl zeros24 57 ?_ (fields24_fits ..) (fields24_info ..) (fields24_one ..) ?_; go_must (exact heap_alloc_new w1 (.cells zeros24 57)); intro w2 hw2)
  go_wp2_with fail
  go_ret
  exact ⟨rfl, ((((Below.refl w.heap.size w).alloc (Nat.le_refl _) _).trans (hb.mono (by simp))).alloc (by omega) _).trans (hw2.below (by omega))⟩

/-- The eight fields of kind Bucket: offset, least, greatest; and the policy's number. -/
def offB : Nat → Nat
  | 0 => 0
  | 1 => 1
  | 2 => 2
  | 3 => 3
  | 4 => 6
  | 5 => 7
  | 6 => 8
  | _ => 9
def loB : Nat → Int
  | 0 => 1
  | 1 => 1
  | 2 => 1
  | 3 => 1
  | 4 => 1
  | 5 => 1
  | 6 => 0
  | _ => 1
def hiB : Nat → Int
  | 0 => 2
  | 1 => 1048576
  | 2 => 65536
  | 3 => 65536
  | 4 => 1000
  | 5 => 64
  | 6 => 1000
  | _ => 1000
def valB (p : Pol) : Nat → Int
  | 0 => p.k
  | 1 => p.cap
  | 2 => p.num
  | 3 => p.den
  | 4 => p.keys
  | 5 => p.slots
  | 6 => p.every
  | _ => p.seg
/-- The eight fields of kind Window: offset, least, greatest; and the policy's number. -/
def offW : Nat → Nat
  | 0 => 0
  | 1 => 1
  | 2 => 4
  | 3 => 5
  | 4 => 6
  | 5 => 7
  | 6 => 8
  | _ => 9
def loW : Nat → Int
  | 0 => 1
  | 1 => 1
  | 2 => 1
  | 3 => 1
  | 4 => 1
  | 5 => 1
  | 6 => 0
  | _ => 1
def hiW : Nat → Int
  | 0 => 2
  | 1 => 1048576
  | 2 => 1048576
  | 3 => 32
  | 4 => 1000
  | 5 => 64
  | 6 => 1000
  | _ => 1000
def valW (p : Pol) : Nat → Int
  | 0 => p.k
  | 1 => p.cap
  | 2 => p.width
  | 3 => p.count
  | 4 => p.keys
  | 5 => p.slots
  | 6 => p.every
  | _ => p.seg

theorem idxB (b : Nat) (j : Nat) (hj : j < 8) (w : World) : (Instr.index 57 (.agg (fields24 b (some ⟨b, 2, none⟩) (some ⟨b, 3, none⟩) 1 65536 1 65536)) (.int .i64 (j : Int))).run Try.prog w = .ok (.agg #[.pointer (some ⟨b, offB j, none⟩), .int .i64 (loB j), .int .i64 (hiB j)]) w := by
  match j, hj with
  | 0, _ => show Sem.run _ _ _ = _; kernel_rfl
  | 1, _ => show Sem.run _ _ _ = _; kernel_rfl
  | 2, _ => show Sem.run _ _ _ = _; kernel_rfl
  | 3, _ => show Sem.run _ _ _ = _; kernel_rfl
  | 4, _ => show Sem.run _ _ _ = _; kernel_rfl
  | 5, _ => show Sem.run _ _ _ = _; kernel_rfl
  | 6, _ => show Sem.run _ _ _ = _; kernel_rfl
  | 7, _ => show Sem.run _ _ _ = _; kernel_rfl

theorem rightB_yes (p : Pol) (hk : p.k = 1) (h1 : p.width = 0) (h2 : p.count = 0) (h : ∀ j, j < 8 → loB j ≤ valB p j ∧ valB p j ≤ hiB j) : rightN p = 0 := by
  have g0 := h 0 (by omega); have g1 := h 1 (by omega); have g2 := h 2 (by omega); have g3 := h 3 (by omega); have g4 := h 4 (by omega); have g5 := h 5 (by omega); have g6 := h 6 (by omega); have g7 := h 7 (by omega)
  simp only [loB, hiB, valB] at g0 g1 g2 g3 g4 g5 g6 g7
  refine rightN_yes ?_
  simp [okB, allB, bucketB, windowB, within, hk, h1, h2, g1, g2, g3, g4, g5, g6, g7]
theorem rightB_no (p : Pol) (hk : p.k = 1) (j : Nat) (hj : j < 8) (h : valB p j < loB j ∨ hiB j < valB p j) : rightN p = 40 := by
  refine rightN_no ?_
  match j, hj with
  | 0, _ => simp only [loB, hiB, valB] at h; simp [okB, allB, bucketB, windowB, within, hk]; omega
  | 1, _ => simp only [loB, hiB, valB] at h; simp [okB, allB, bucketB, windowB, within, hk]; omega
  | 2, _ => simp only [loB, hiB, valB] at h; simp [okB, allB, bucketB, windowB, within, hk]; omega
  | 3, _ => simp only [loB, hiB, valB] at h; simp [okB, allB, bucketB, windowB, within, hk]; omega
  | 4, _ => simp only [loB, hiB, valB] at h; simp [okB, allB, bucketB, windowB, within, hk]; omega
  | 5, _ => simp only [loB, hiB, valB] at h; simp [okB, allB, bucketB, windowB, within, hk]; omega
  | 6, _ => simp only [loB, hiB, valB] at h; simp [okB, allB, bucketB, windowB, within, hk]; omega
  | 7, _ => simp only [loB, hiB, valB] at h; simp [okB, allB, bucketB, windowB, within, hk]; omega
theorem rightB_out (p : Pol) (hk : p.k = 1) (h : p.width ≠ 0 ∨ p.count ≠ 0) : rightN p = 40 := by
  refine rightN_no ?_
  simp [okB, allB, bucketB, windowB, within, hk]
  intros
  omega

theorem idxW (b : Nat) (j : Nat) (hj : j < 8) (w : World) : (Instr.index 57 (.agg (fields24 b (some ⟨b, 4, none⟩) (some ⟨b, 5, none⟩) 1 1048576 1 32)) (.int .i64 (j : Int))).run Try.prog w = .ok (.agg #[.pointer (some ⟨b, offW j, none⟩), .int .i64 (loW j), .int .i64 (hiW j)]) w := by
  match j, hj with
  | 0, _ => show Sem.run _ _ _ = _; kernel_rfl
  | 1, _ => show Sem.run _ _ _ = _; kernel_rfl
  | 2, _ => show Sem.run _ _ _ = _; kernel_rfl
  | 3, _ => show Sem.run _ _ _ = _; kernel_rfl
  | 4, _ => show Sem.run _ _ _ = _; kernel_rfl
  | 5, _ => show Sem.run _ _ _ = _; kernel_rfl
  | 6, _ => show Sem.run _ _ _ = _; kernel_rfl
  | 7, _ => show Sem.run _ _ _ = _; kernel_rfl

theorem rightW_yes (p : Pol) (hk : p.k = 2) (h1 : p.num = 0) (h2 : p.den = 0) (h : ∀ j, j < 8 → loW j ≤ valW p j ∧ valW p j ≤ hiW j) : rightN p = 0 := by
  have g0 := h 0 (by omega); have g1 := h 1 (by omega); have g2 := h 2 (by omega); have g3 := h 3 (by omega); have g4 := h 4 (by omega); have g5 := h 5 (by omega); have g6 := h 6 (by omega); have g7 := h 7 (by omega)
  simp only [loW, hiW, valW] at g0 g1 g2 g3 g4 g5 g6 g7
  refine rightN_yes ?_
  simp [okB, allB, bucketB, windowB, within, hk, h1, h2, g1, g2, g3, g4, g5, g6, g7]
theorem rightW_no (p : Pol) (hk : p.k = 2) (j : Nat) (hj : j < 8) (h : valW p j < loW j ∨ hiW j < valW p j) : rightN p = 40 := by
  refine rightN_no ?_
  match j, hj with
  | 0, _ => simp only [loW, hiW, valW] at h; simp [okB, allB, bucketB, windowB, within, hk]; omega
  | 1, _ => simp only [loW, hiW, valW] at h; simp [okB, allB, bucketB, windowB, within, hk]; omega
  | 2, _ => simp only [loW, hiW, valW] at h; simp [okB, allB, bucketB, windowB, within, hk]; omega
  | 3, _ => simp only [loW, hiW, valW] at h; simp [okB, allB, bucketB, windowB, within, hk]; omega
  | 4, _ => simp only [loW, hiW, valW] at h; simp [okB, allB, bucketB, windowB, within, hk]; omega
  | 5, _ => simp only [loW, hiW, valW] at h; simp [okB, allB, bucketB, windowB, within, hk]; omega
  | 6, _ => simp only [loW, hiW, valW] at h; simp [okB, allB, bucketB, windowB, within, hk]; omega
  | 7, _ => simp only [loW, hiW, valW] at h; simp [okB, allB, bucketB, windowB, within, hk]; omega
theorem rightW_out (p : Pol) (hk : p.k = 2) (h : p.num ≠ 0 ∨ p.den ≠ 0) : rightN p = 40 := by
  refine rightN_no ?_
  simp [okB, allB, bucketB, windowB, within, hk]
  intros
  omega

end Go.Proofs.Ytkcnenekmjgmgaa
