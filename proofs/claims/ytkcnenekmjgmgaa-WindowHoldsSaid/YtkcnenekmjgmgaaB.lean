/- The reference's Right: which policies may be. -/
import Derived.Test.YtkcnenekmjgmgaaA
import Derived.Deep.DeepCutAuto
namespace Go.Proofs.Ytkcnenekmjgmgaa
open Go.RowKit

set_option maxHeartbeats 1000000 in
theorem refRight_core (k cap num den width count keys slots every seg : Int) (b1 b2 b3 b4 b5 b6 : Bool) (h1 : (k == 1) = b1) (h2 : (k == 2) = b2) (h3 : (width == 0) = b3) (h4 : (count == 0) = b4) (h5 : (num == 0) = b5) (h6 : (den == 0) = b6) (w : World) :
    Calls Try.prog 10 #[.agg #[.int .i64 k, .int .i64 cap, .int .i64 num, .int .i64 den, .int .i64 width, .int .i64 count, .int .i64 keys, .int .i64 slots, .int .i64 every, .int .i64 seg]] w
      fun e w' => e = .returned (.int .i64 (rightN ⟨k, cap, num, den, width, count, keys, slots, every, seg⟩)) ∧ Below w.heap.size w w' := by
  go_enter Try.func10, Try.ntmps10
  go_upto_region 1 with fail
  go_cut [3] (fun s3 wx => s3 = .bool (allB ⟨k, cap, num, den, width, count, keys, slots, every, seg⟩) ∧ w.alloc (.cells #[.int .i64 k, .int .i64 cap, .int .i64 num, .int .i64 den, .int .i64 width, .int .i64 count, .int .i64 keys, .int .i64 slots, .int .i64 every, .int .i64 seg] 23) = wx)
  case first =>
    go_wp2_with (go_at_call 30; refine (in_any _ _ _ _).mono ?_; rintro e w' ⟨rfl, rfl⟩)
    all_goals (go_meet; exact ⟨by simp [allB, *], rfl⟩)
  case rest =>
    obtain ⟨rfl, rfl⟩ := hcut
    go_upto_region 2 with fail
    go_cut [4] (fun s4 wx => s4 = .bool (bucketB ⟨k, cap, num, den, width, count, keys, slots, every, seg⟩) ∧ w.alloc (.cells #[.int .i64 k, .int .i64 cap, .int .i64 num, .int .i64 den, .int .i64 width, .int .i64 count, .int .i64 keys, .int .i64 slots, .int .i64 every, .int .i64 seg] 23) = wx)
    case first =>
      go_wp2_with (go_at_call 30; refine (in_any _ _ _ _).mono ?_; rintro e w' ⟨rfl, rfl⟩)
      all_goals (go_meet; exact ⟨by simp [bucketB, *], rfl⟩)
    case rest =>
      obtain ⟨rfl, rfl⟩ := hcut
      go_upto_region 3 with fail
      go_cut [5] (fun s5 wx => s5 = .bool (windowB ⟨k, cap, num, den, width, count, keys, slots, every, seg⟩) ∧ w.alloc (.cells #[.int .i64 k, .int .i64 cap, .int .i64 num, .int .i64 den, .int .i64 width, .int .i64 count, .int .i64 keys, .int .i64 slots, .int .i64 every, .int .i64 seg] 23) = wx)
      case first =>
        go_wp2_with (go_at_call 30; refine (in_any _ _ _ _).mono ?_; rintro e w' ⟨rfl, rfl⟩)
        all_goals (go_meet; exact ⟨by simp [windowB, *], rfl⟩)
      case rest =>
        obtain ⟨rfl, rfl⟩ := hcut
        go_wp2
        all_goals (go_ret; exact ⟨by first | (rw [rightN_yes (by simp [okB, *])]; rfl) | (rw [rightN_no (by simp [okB, *])]; rfl), (Below.refl _ _).alloc (Nat.le_refl _) _⟩)

theorem refRight_any (p : Pol) (w : World) :
    Calls Try.prog 10 #[.agg #[.int .i64 p.k, .int .i64 p.cap, .int .i64 p.num, .int .i64 p.den, .int .i64 p.width, .int .i64 p.count, .int .i64 p.keys, .int .i64 p.slots, .int .i64 p.every, .int .i64 p.seg]] w
      fun e w' => e = .returned (.int .i64 (rightN p)) ∧ Below w.heap.size w w' :=
  refRight_core p.k p.cap p.num p.den p.width p.count p.keys p.slots p.every p.seg _ _ _ _ _ _ rfl rfl rfl rfl rfl rfl w

end Go.Proofs.Ytkcnenekmjgmgaa
