/- policy.Right, of either kind. -/
import Derived.Test.YtkcnenekmjgmgaaD
import Derived.LoopTactic
namespace Go.Proofs.Ytkcnenekmjgmgaa
open Go.RowKit

theorem splice_all (b : Nat) (x y : Option Addr) (x1 x2 y1 y2 : Int) : splice zeros24 0 (fields24 b x y x1 x2 y1 y2).toList = fields24 b x y x1 x2 y1 y2 := by simp [splice, fields24, zeros24]
/-- The first n fields are within their bounds. -/
def GoodToB (p : Pol) (n : Nat) : Prop := ∀ j, j < n → loB j ≤ valB p j ∧ valB p j ≤ hiB j
def GoodToW (p : Pol) (n : Nat) : Prop := ∀ j, j < n → loW j ≤ valW p j ∧ valW p j ≤ hiW j

set_option maxHeartbeats 2000000 in
theorem right_bucket (cap num den width count keys slots every seg : Int) (w : World) :
    Calls Try.prog 39 #[.agg #[.int .i64 1, .int .i64 cap, .int .i64 num, .int .i64 den, .int .i64 width, .int .i64 count, .int .i64 keys, .int .i64 slots, .int .i64 every, .int .i64 seg]] w
      fun e w' => e = .returned (.int .i64 (rightN ⟨1, cap, num, den, width, count, keys, slots, every, seg⟩)) ∧ Below w.heap.size w w' := by
  go_enter Try.func39, Try.ntmps39
  go_wp2_with fail
  refine (fields_bucket w.heap.size _ (by simp)).mono ?_
  rintro e w1 ⟨rfl, hb⟩
  have hz : w.heap.size + 1 ≤ w1.heap.size := by have := hb.size; simp at this; omega
  go_upto_region 2 with (refine wpList_store_at rfl 57 _ _ rfl w1.heap.size 0 _ rfl rfl zeros24 57 ?_ (fields24_fits ..) (fields24_info ..) (fields24_one ..) ?_; go_must (exact heap_alloc_new w1 (.cells zeros24 57)); intro w2 hw2)
  have hb2 : Below (w.heap.size + 1) (w.alloc (.cells #[.int .i64 1, .int .i64 cap, .int .i64 num, .int .i64 den, .int .i64 width, .int .i64 count, .int .i64 keys, .int .i64 slots, .int .i64 every, .int .i64 seg] 23)) w2 :=
    ((hb.mono (by simp)).alloc (by omega) _).trans (hw2.below (by omega))
  have c0 : w2.cell? ⟨w.heap.size, 0, none⟩ = some (.int .i64 1) := by rw [hb2.cell (p := ⟨w.heap.size, 0, none⟩) (by simp)]; simp
  have c1 : w2.cell? ⟨w.heap.size, 1, none⟩ = some (.int .i64 cap) := by rw [hb2.cell (p := ⟨w.heap.size, 1, none⟩) (by simp)]; simp
  have c2 : w2.cell? ⟨w.heap.size, 2, none⟩ = some (.int .i64 num) := by rw [hb2.cell (p := ⟨w.heap.size, 2, none⟩) (by simp)]; simp
  have c3 : w2.cell? ⟨w.heap.size, 3, none⟩ = some (.int .i64 den) := by rw [hb2.cell (p := ⟨w.heap.size, 3, none⟩) (by simp)]; simp
  have c4 : w2.cell? ⟨w.heap.size, 4, none⟩ = some (.int .i64 width) := by rw [hb2.cell (p := ⟨w.heap.size, 4, none⟩) (by simp)]; simp
  have c5 : w2.cell? ⟨w.heap.size, 5, none⟩ = some (.int .i64 count) := by rw [hb2.cell (p := ⟨w.heap.size, 5, none⟩) (by simp)]; simp
  have c6 : w2.cell? ⟨w.heap.size, 6, none⟩ = some (.int .i64 keys) := by rw [hb2.cell (p := ⟨w.heap.size, 6, none⟩) (by simp)]; simp
  have c7 : w2.cell? ⟨w.heap.size, 7, none⟩ = some (.int .i64 slots) := by rw [hb2.cell (p := ⟨w.heap.size, 7, none⟩) (by simp)]; simp
  have c8 : w2.cell? ⟨w.heap.size, 8, none⟩ = some (.int .i64 every) := by rw [hb2.cell (p := ⟨w.heap.size, 8, none⟩) (by simp)]; simp
  have c9 : w2.cell? ⟨w.heap.size, 9, none⟩ = some (.int .i64 seg) := by rw [hb2.cell (p := ⟨w.heap.size, 9, none⟩) (by simp)]; simp
  have HR := hid (hw2.row.trans (congrArg (fun r => some (Obj.cells r 57 (0, 0))) (splice_all ..)))
  have HB : Below w.heap.size w w2 := (((Below.refl w.heap.size w).alloc (Nat.le_refl _) _).trans (hb2.mono (by omega)))
  have hz2 : w.heap.size + 1 ≤ w2.heap.size := by have := hb2.size; simp at this; omega
  clear hb hw2 hb2
  by_cases hz1 : width = 0
  case neg =>
    have e1 : (width != 0) = true := by simp [hz1]
    have fin := rightB_out ⟨1, cap, num, den, width, count, keys, slots, every, seg⟩ rfl (.inl hz1)
    have FIN := hid fin
    clear fin
    go_wp2_with fail
    go_ret
    exact ⟨by rw [FIN.out]; rfl, HB⟩
  case pos =>
  by_cases hz2' : count = 0
  case neg =>
    have e1 : (width != 0) = false := by simp [hz1]
    have e2 : (count != 0) = true := by simp [hz2']
    have fin := rightB_out ⟨1, cap, num, den, width, count, keys, slots, every, seg⟩ rfl (.inr hz2')
    have FIN := hid fin
    clear fin hz1
    go_wp2_with fail
    go_ret
    exact ⟨by rw [FIN.out]; rfl, HB⟩
  case pos =>
    have e1 : (width != 0) = false := by simp [hz1]
    have e2 : (count != 0) = false := by simp [hz2']
    have yes := rightB_yes ⟨1, cap, num, den, width, count, keys, slots, every, seg⟩ rfl hz1 hz2'
    have no := rightB_no ⟨1, cap, num, den, width, count, keys, slots, every, seg⟩ rfl
    have YES := hid yes
    have NO := hid no
    have CS : Hid (∀ j, j < 8 → w2.cell? ⟨w.heap.size, offB j, none⟩ = some (.int .i64 (valB ⟨1, cap, num, den, width, count, keys, slots, every, seg⟩ j))) := by
      intro j hj
      match j, hj with
      | 0, _ => exact c0
      | 1, _ => exact c1
      | 2, _ => exact c2
      | 3, _ => exact c3
      | 4, _ => exact c6
      | 5, _ => exact c7
      | 6, _ => exact c8
      | 7, _ => exact c9
    clear yes no hz1 hz2'
    go_upto_region 4 with fail
    go_wp2_with (refine wpList_load_row rfl 57 _ rfl w1.heap.size rfl 57 _ (0, 0) _ HR.out Try.underlying57 rfl size57 ?_)
    clear c0 c1 c2 c3 c4 c5 c6 c7 c8 c9 e1 e2 HR
    go_loopw [44] (fun i wr => ∃ j : Nat, j ≤ 8 ∧ i = .int .i64 j ∧ Below (w.heap.size + 1) w2 wr ∧ GoodToB ⟨1, cap, num, den, width, count, keys, slots, every, seg⟩ j) (fun i _ => 8 - (intOf i).toNat)
    case atStart => exact ⟨0, by omega, rfl, Below.refl _ _, fun _ h => absurd h (Nat.not_lt_zero _)⟩
    case round =>
      obtain ⟨j, hj, rfl, hbr, hgood⟩ := hrel
      have hzr := hbr.size
      by_cases hlt : j < 8
      · have cj := (hbr.cell (p := ⟨w.heap.size, offB j, none⟩) (by simp)).trans (CS.out j hlt)
        have cj' : ∀ o : Obj, (wr.alloc o).cell? ⟨w.heap.size, offB j, none⟩ = some (.int .i64 (valB ⟨1, cap, num, den, width, count, keys, slots, every, seg⟩ j)) := fun o => by rw [World.cell?_alloc_lt _ _ _ (show w.heap.size < wr.heap.size by omega)]; exact cj
        have ij := idxB w.heap.size j hlt
        by_cases hlo : valB ⟨1, cap, num, den, width, count, keys, slots, every, seg⟩ j < loB j
        · have FIN := hid (NO.out j hlt (.inl hlo))
          have HG := hid hgood
          clear hgood
          go_wp2_with fail
          go_quiet (fail)
          go_wp2
          go_ret
          exact ⟨by rw [FIN.out]; rfl, below_drewN' ((HB.trans (hbr.mono (by omega))).alloc (by omega) _) _⟩
        · by_cases hhi : hiB j < valB ⟨1, cap, num, den, width, count, keys, slots, every, seg⟩ j
          · have FIN := hid (NO.out j hlt (.inr hhi))
            have HG := hid hgood
            clear hgood
            go_wp2_with fail
            go_quiet (fail)
            go_wp2
            go_ret
            exact ⟨by rw [FIN.out]; rfl, below_drewN' ((HB.trans (hbr.mono (by omega))).alloc (by omega) _) _⟩
          · have HG := hid (show GoodToB ⟨1, cap, num, den, width, count, keys, slots, every, seg⟩ (j + 1) from fun t ht => by
              by_cases e : t = j
              · subst e; exact ⟨by omega, by omega⟩
              · exact hgood t (by omega))
            clear hgood
            go_wp2_with fail
            go_quiet (fail)
            go_wp2
            go_roundw
            case rel => exact ⟨j + 1, by omega, by go_num, below_drewN' (hbr.alloc (by omega) _) _, HG.out⟩
            case measure => simp [intOf]; omega
      · obtain rfl : j = 8 := by omega
        have FIN := hid (YES.out hgood)
        clear hgood
        go_wp2_with fail
        go_ret
        exact ⟨by rw [FIN.out]; rfl, HB.trans (hbr.mono (by omega))⟩

set_option maxHeartbeats 2000000 in
theorem right_window (cap num den width count keys slots every seg : Int) (w : World) :
    Calls Try.prog 39 #[.agg #[.int .i64 2, .int .i64 cap, .int .i64 num, .int .i64 den, .int .i64 width, .int .i64 count, .int .i64 keys, .int .i64 slots, .int .i64 every, .int .i64 seg]] w
      fun e w' => e = .returned (.int .i64 (rightN ⟨2, cap, num, den, width, count, keys, slots, every, seg⟩)) ∧ Below w.heap.size w w' := by
  go_enter Try.func39, Try.ntmps39
  go_wp2_with fail
  refine (fields_window w.heap.size _ (by simp)).mono ?_
  rintro e w1 ⟨rfl, hb⟩
  have hz : w.heap.size + 1 ≤ w1.heap.size := by have := hb.size; simp at this; omega
  go_upto_region 2 with (refine wpList_store_at rfl 57 _ _ rfl w1.heap.size 0 _ rfl rfl zeros24 57 ?_ (fields24_fits ..) (fields24_info ..) (fields24_one ..) ?_; go_must (exact heap_alloc_new w1 (.cells zeros24 57)); intro w2 hw2)
  have hb2 : Below (w.heap.size + 1) (w.alloc (.cells #[.int .i64 2, .int .i64 cap, .int .i64 num, .int .i64 den, .int .i64 width, .int .i64 count, .int .i64 keys, .int .i64 slots, .int .i64 every, .int .i64 seg] 23)) w2 :=
    ((hb.mono (by simp)).alloc (by omega) _).trans (hw2.below (by omega))
  have c0 : w2.cell? ⟨w.heap.size, 0, none⟩ = some (.int .i64 2) := by rw [hb2.cell (p := ⟨w.heap.size, 0, none⟩) (by simp)]; simp
  have c1 : w2.cell? ⟨w.heap.size, 1, none⟩ = some (.int .i64 cap) := by rw [hb2.cell (p := ⟨w.heap.size, 1, none⟩) (by simp)]; simp
  have c2 : w2.cell? ⟨w.heap.size, 2, none⟩ = some (.int .i64 num) := by rw [hb2.cell (p := ⟨w.heap.size, 2, none⟩) (by simp)]; simp
  have c3 : w2.cell? ⟨w.heap.size, 3, none⟩ = some (.int .i64 den) := by rw [hb2.cell (p := ⟨w.heap.size, 3, none⟩) (by simp)]; simp
  have c4 : w2.cell? ⟨w.heap.size, 4, none⟩ = some (.int .i64 width) := by rw [hb2.cell (p := ⟨w.heap.size, 4, none⟩) (by simp)]; simp
  have c5 : w2.cell? ⟨w.heap.size, 5, none⟩ = some (.int .i64 count) := by rw [hb2.cell (p := ⟨w.heap.size, 5, none⟩) (by simp)]; simp
  have c6 : w2.cell? ⟨w.heap.size, 6, none⟩ = some (.int .i64 keys) := by rw [hb2.cell (p := ⟨w.heap.size, 6, none⟩) (by simp)]; simp
  have c7 : w2.cell? ⟨w.heap.size, 7, none⟩ = some (.int .i64 slots) := by rw [hb2.cell (p := ⟨w.heap.size, 7, none⟩) (by simp)]; simp
  have c8 : w2.cell? ⟨w.heap.size, 8, none⟩ = some (.int .i64 every) := by rw [hb2.cell (p := ⟨w.heap.size, 8, none⟩) (by simp)]; simp
  have c9 : w2.cell? ⟨w.heap.size, 9, none⟩ = some (.int .i64 seg) := by rw [hb2.cell (p := ⟨w.heap.size, 9, none⟩) (by simp)]; simp
  have HR := hid (hw2.row.trans (congrArg (fun r => some (Obj.cells r 57 (0, 0))) (splice_all ..)))
  have HB : Below w.heap.size w w2 := (((Below.refl w.heap.size w).alloc (Nat.le_refl _) _).trans (hb2.mono (by omega)))
  have hz2 : w.heap.size + 1 ≤ w2.heap.size := by have := hb2.size; simp at this; omega
  clear hb hw2 hb2
  by_cases hz1 : num = 0
  case neg =>
    have e1 : (num != 0) = true := by simp [hz1]
    have fin := rightW_out ⟨2, cap, num, den, width, count, keys, slots, every, seg⟩ rfl (.inl hz1)
    have FIN := hid fin
    clear fin
    go_wp2_with fail
    go_ret
    exact ⟨by rw [FIN.out]; rfl, HB⟩
  case pos =>
  by_cases hz2' : den = 0
  case neg =>
    have e1 : (num != 0) = false := by simp [hz1]
    have e2 : (den != 0) = true := by simp [hz2']
    have fin := rightW_out ⟨2, cap, num, den, width, count, keys, slots, every, seg⟩ rfl (.inr hz2')
    have FIN := hid fin
    clear fin hz1
    go_wp2_with fail
    go_ret
    exact ⟨by rw [FIN.out]; rfl, HB⟩
  case pos =>
    have e1 : (num != 0) = false := by simp [hz1]
    have e2 : (den != 0) = false := by simp [hz2']
    have yes := rightW_yes ⟨2, cap, num, den, width, count, keys, slots, every, seg⟩ rfl hz1 hz2'
    have no := rightW_no ⟨2, cap, num, den, width, count, keys, slots, every, seg⟩ rfl
    have YES := hid yes
    have NO := hid no
    have CS : Hid (∀ j, j < 8 → w2.cell? ⟨w.heap.size, offW j, none⟩ = some (.int .i64 (valW ⟨2, cap, num, den, width, count, keys, slots, every, seg⟩ j))) := by
      intro j hj
      match j, hj with
      | 0, _ => exact c0
      | 1, _ => exact c1
      | 2, _ => exact c4
      | 3, _ => exact c5
      | 4, _ => exact c6
      | 5, _ => exact c7
      | 6, _ => exact c8
      | 7, _ => exact c9
    clear yes no hz1 hz2'
    go_upto_region 4 with fail
    go_wp2_with (refine wpList_load_row rfl 57 _ rfl w1.heap.size rfl 57 _ (0, 0) _ HR.out Try.underlying57 rfl size57 ?_)
    clear c0 c1 c2 c3 c4 c5 c6 c7 c8 c9 e1 e2 HR
    go_loopw [44] (fun i wr => ∃ j : Nat, j ≤ 8 ∧ i = .int .i64 j ∧ Below (w.heap.size + 1) w2 wr ∧ GoodToW ⟨2, cap, num, den, width, count, keys, slots, every, seg⟩ j) (fun i _ => 8 - (intOf i).toNat)
    case atStart => exact ⟨0, by omega, rfl, Below.refl _ _, fun _ h => absurd h (Nat.not_lt_zero _)⟩
    case round =>
      obtain ⟨j, hj, rfl, hbr, hgood⟩ := hrel
      have hzr := hbr.size
      by_cases hlt : j < 8
      · have cj := (hbr.cell (p := ⟨w.heap.size, offW j, none⟩) (by simp)).trans (CS.out j hlt)
        have cj' : ∀ o : Obj, (wr.alloc o).cell? ⟨w.heap.size, offW j, none⟩ = some (.int .i64 (valW ⟨2, cap, num, den, width, count, keys, slots, every, seg⟩ j)) := fun o => by rw [World.cell?_alloc_lt _ _ _ (show w.heap.size < wr.heap.size by omega)]; exact cj
        have ij := idxW w.heap.size j hlt
        by_cases hlo : valW ⟨2, cap, num, den, width, count, keys, slots, every, seg⟩ j < loW j
        · have FIN := hid (NO.out j hlt (.inl hlo))
          have HG := hid hgood
          clear hgood
          go_wp2_with fail
          go_quiet (fail)
          go_wp2
          go_ret
          exact ⟨by rw [FIN.out]; rfl, below_drewN' ((HB.trans (hbr.mono (by omega))).alloc (by omega) _) _⟩
        · by_cases hhi : hiW j < valW ⟨2, cap, num, den, width, count, keys, slots, every, seg⟩ j
          · have FIN := hid (NO.out j hlt (.inr hhi))
            have HG := hid hgood
            clear hgood
            go_wp2_with fail
            go_quiet (fail)
            go_wp2
            go_ret
            exact ⟨by rw [FIN.out]; rfl, below_drewN' ((HB.trans (hbr.mono (by omega))).alloc (by omega) _) _⟩
          · have HG := hid (show GoodToW ⟨2, cap, num, den, width, count, keys, slots, every, seg⟩ (j + 1) from fun t ht => by
              by_cases e : t = j
              · subst e; exact ⟨by omega, by omega⟩
              · exact hgood t (by omega))
            clear hgood
            go_wp2_with fail
            go_quiet (fail)
            go_wp2
            go_roundw
            case rel => exact ⟨j + 1, by omega, by go_num, below_drewN' (hbr.alloc (by omega) _) _, HG.out⟩
            case measure => simp [intOf]; omega
      · obtain rfl : j = 8 := by omega
        have FIN := hid (YES.out hgood)
        clear hgood
        go_wp2_with fail
        go_ret
        exact ⟨by rw [FIN.out]; rfl, HB.trans (hbr.mono (by omega))⟩

end Go.Proofs.Ytkcnenekmjgmgaa
