/- Contracts of the small functions: bounds of a number, a number clipped. Each is called with whatever numbers; nothing in memory turns. -/
import Derived.Test.YtlhnlickmjdjfaaProg
import Derived.Test.YtlhnlickmjdjfaaM
import Derived.WalkKit
import Derived.WalkSpells
import Derived.WalkLawsBesides
import Derived.Deep.QuietTactic
import Derived.BigQuiet
import Derived.KernelRfl
namespace Go.Proofs.Ytlhnlickmjdjfaa
open Go.RowKit

theorem in_any (n lo hi : Int) (w : World) : Calls Try.prog 25 #[.int .i64 n, .int .i64 lo, .int .i64 hi] w fun e w' => e = .returned (.bool (within n lo hi)) ∧ w = w' := by
  by_cases h1 : lo ≤ n
  · by_cases h2 : n ≤ hi
    · go_enter Try.func25, Try.ntmps25
      go_wp2
      go_ret
      exact ⟨by first | (rw [within_yes (by omega) (by omega)]; rfl) | (rw [within_high (by omega)]; rfl), rfl⟩
    · go_enter Try.func25, Try.ntmps25
      go_wp2
      go_ret
      exact ⟨by first | (rw [within_yes (by omega) (by omega)]; rfl) | (rw [within_high (by omega)]; rfl), rfl⟩
  · go_enter Try.func25, Try.ntmps25
    go_wp2
    go_ret
    exact ⟨by rw [within_low (by omega)]; rfl, rfl⟩

theorem may_any (n : Int) (w : World) : Calls Try.prog 22 #[.int .i64 n] w fun e w' => e = .returned (.bool (within n 1 1048576)) ∧ w = w' := by
  by_cases h1 : 1 ≤ n
  · by_cases h2 : n ≤ 1048576
    · go_enter Try.func22, Try.ntmps22
      go_wp2
      go_ret
      exact ⟨by first | (rw [within_yes (by omega) (by omega)]; rfl) | (rw [within_high (by omega)]; rfl), rfl⟩
    · go_enter Try.func22, Try.ntmps22
      go_wp2
      go_ret
      exact ⟨by first | (rw [within_yes (by omega) (by omega)]; rfl) | (rw [within_high (by omega)]; rfl), rfl⟩
  · go_enter Try.func22, Try.ntmps22
    go_wp2
    go_ret
    exact ⟨by rw [within_low (by omega)]; rfl, rfl⟩

theorem refClip_any (n m : Int) (w : World) : Calls Try.prog 24 #[.int .i64 n, .int .i64 m] w fun e w' => e = .returned (.int .i64 (clipI n m)) ∧ w = w' := by
  by_cases h1 : n < 0
  · go_enter Try.func24, Try.ntmps24
    go_wp2
    go_ret
    exact ⟨by first | (rw [clipI_low (by omega)]; rfl) | (rw [clipI_high (by omega) (by omega)]; rfl) | (rw [clipI_mid (by omega) (by omega)]; rfl), rfl⟩
  · by_cases h2 : m < n
    · go_enter Try.func24, Try.ntmps24
      go_wp2
      go_ret
      exact ⟨by first | (rw [clipI_low (by omega)]; rfl) | (rw [clipI_high (by omega) (by omega)]; rfl) | (rw [clipI_mid (by omega) (by omega)]; rfl), rfl⟩
    · go_enter Try.func24, Try.ntmps24
      go_wp2
      go_ret
      exact ⟨by first | (rw [clipI_low (by omega)]; rfl) | (rw [clipI_high (by omega) (by omega)]; rfl) | (rw [clipI_mid (by omega) (by omega)]; rfl), rfl⟩

/-- The closure that clips: what it captured is a box with the bound. -/
theorem clip1_any (n m : Int) (a : Addr) (w : World) (hm : 0 ≤ m) (hc : w.cell? a = some (.int .i64 m)) :
    Calls Try.prog 27 #[.int .i64 n, .pointer (some a)] w fun e w' => e = .returned (.int .i64 (clipI n m)) ∧ w = w' := by
  by_cases h1 : n < 0
  · go_enter Try.func27, Try.ntmps27
    go_wp2
    go_ret
    exact ⟨by first | (rw [clipI_low (by omega)]; rfl) | (rw [clipI_high (by omega) (by omega)]; rfl) | (rw [clipI_mid (by omega) (by omega)]; rfl), rfl⟩
  · by_cases h2 : m < n
    · go_enter Try.func27, Try.ntmps27
      go_wp2
      go_ret
      exact ⟨by first | (rw [clipI_low (by omega)]; rfl) | (rw [clipI_high (by omega) (by omega)]; rfl) | (rw [clipI_mid (by omega) (by omega)]; rfl), rfl⟩
    · go_enter Try.func27, Try.ntmps27
      go_wp2
      go_ret
      exact ⟨by first | (rw [clipI_low (by omega)]; rfl) | (rw [clipI_high (by omega) (by omega)]; rfl) | (rw [clipI_mid (by omega) (by omega)]; rfl), rfl⟩

theorem clip_any (m : Int) (w : World) : Calls Try.prog 21 #[.int .i64 m] w fun e w' => e = .returned (.func (.func 27) #[] #[.pointer (some ⟨w.heap.size, 0, none⟩)]) ∧ w.alloc (.cells #[.int .i64 m] 3) = w' := by
  go_enter Try.func21, Try.ntmps21
  go_wp2
  go_ret
  exact ⟨rfl, rfl⟩

#print axioms clip_any
end Go.Proofs.Ytlhnlickmjdjfaa
