/- Contracts of the small functions: bounds of a number, a number clipped. Each is called with whatever numbers; nothing in memory turns. -/
import Derived.Test.YtkcnenekmjgmgaaProg
import Derived.Test.YtkcnenekmjgmgaaM
import Derived.WalkKit
import Derived.WalkSpells
import Derived.WalkLawsBesides
import Derived.Deep.QuietTactic
import Derived.BigQuiet
import Derived.KernelRfl
namespace Go.Proofs.Ytkcnenekmjgmgaa
open Go.RowKit

theorem in_any (n lo hi : Int) (w : World) : Calls Try.prog 30 #[.int .i64 n, .int .i64 lo, .int .i64 hi] w fun e w' => e = .returned (.bool (within n lo hi)) ∧ w = w' := by
  by_cases h1 : lo ≤ n
  · by_cases h2 : n ≤ hi
    · go_enter Try.func30, Try.ntmps30
      go_wp2
      go_ret
      exact ⟨by first | (rw [within_yes (by omega) (by omega)]; rfl) | (rw [within_high (by omega)]; rfl), rfl⟩
    · go_enter Try.func30, Try.ntmps30
      go_wp2
      go_ret
      exact ⟨by first | (rw [within_yes (by omega) (by omega)]; rfl) | (rw [within_high (by omega)]; rfl), rfl⟩
  · go_enter Try.func30, Try.ntmps30
    go_wp2
    go_ret
    exact ⟨by rw [within_low (by omega)]; rfl, rfl⟩

theorem may_any (n : Int) (w : World) : Calls Try.prog 33 #[.int .i64 n] w fun e w' => e = .returned (.bool (within n 1 1048576)) ∧ w = w' := by
  by_cases h1 : 1 ≤ n
  · by_cases h2 : n ≤ 1048576
    · go_enter Try.func33, Try.ntmps33
      go_wp2
      go_ret
      exact ⟨by first | (rw [within_yes (by omega) (by omega)]; rfl) | (rw [within_high (by omega)]; rfl), rfl⟩
    · go_enter Try.func33, Try.ntmps33
      go_wp2
      go_ret
      exact ⟨by first | (rw [within_yes (by omega) (by omega)]; rfl) | (rw [within_high (by omega)]; rfl), rfl⟩
  · go_enter Try.func33, Try.ntmps33
    go_wp2
    go_ret
    exact ⟨by rw [within_low (by omega)]; rfl, rfl⟩

theorem refClip_any (n m : Int) (w : World) : Calls Try.prog 38 #[.int .i64 n, .int .i64 m] w fun e w' => e = .returned (.int .i64 (clipI n m)) ∧ w = w' := by
  by_cases h1 : n < 0
  · go_enter Try.func38, Try.ntmps38
    go_wp2
    go_ret
    exact ⟨by first | (rw [clipI_low (by omega)]; rfl) | (rw [clipI_high (by omega) (by omega)]; rfl) | (rw [clipI_mid (by omega) (by omega)]; rfl), rfl⟩
  · by_cases h2 : m < n
    · go_enter Try.func38, Try.ntmps38
      go_wp2
      go_ret
      exact ⟨by first | (rw [clipI_low (by omega)]; rfl) | (rw [clipI_high (by omega) (by omega)]; rfl) | (rw [clipI_mid (by omega) (by omega)]; rfl), rfl⟩
    · go_enter Try.func38, Try.ntmps38
      go_wp2
      go_ret
      exact ⟨by first | (rw [clipI_low (by omega)]; rfl) | (rw [clipI_high (by omega) (by omega)]; rfl) | (rw [clipI_mid (by omega) (by omega)]; rfl), rfl⟩

#print axioms refClip_any
end Go.Proofs.Ytkcnenekmjgmgaa
