/- Plain numbers: what is owed to a bucket, and when a cost may be taken. No Go in sight. -/
import Derived.Test.YtlhnlickmjdjfaaM
namespace Go.Proofs.Ytlhnlickmjdjfaa

def decayI (num o t : Int) : Int := clipI (clipI o 4611686018427387903 - clipI t 1099511627776 * num) 4611686018427387903
def mayB (cap den o c : Int) : Bool := within c 1 1048576 && decide (clipI o 4611686018427387903 + c * den ≤ cap * den)
def takeI (den o c : Int) : Int := if within c 1 1048576 = true then clipI (clipI o 4611686018427387903 + c * den) 4611686018427387903 else clipI o 4611686018427387903
def overI (cap den o c : Int) : Int := clipI o 4611686018427387903 - (cap - c) * den
def whenI (cap num den o c : Int) : Int :=
  if within c 1 1048576 = false ∨ cap < c then -1 else
  if overI cap den o c ≤ 0 then 0 else
  if 1099511627776 < (overI cap den o c + num - 1) / num then -1 else (overI cap den o c + num - 1) / num

/-- The same of a policy. -/
def decayP (p : Pol) (o t : Int) : Int := if meansB p = true then decayI p.num o t else 0
def mayP (p : Pol) (o c : Int) : Bool := meansB p && mayB p.cap p.den o c
def takeP (p : Pol) (o c : Int) : Int := if meansB p = true then takeI p.den o c else 0
def whenP (p : Pol) (o c : Int) : Int := if meansB p = true then whenI p.cap p.num p.den o c else -1

theorem mul_bounds {a b A B : Int} (h0 : 0 ≤ a) (h1 : a ≤ A) (h2 : 0 ≤ b) (h3 : b ≤ B) : 0 ≤ a * b ∧ a * b ≤ A * B :=
  ⟨Int.mul_nonneg h0 h2, Int.mul_le_mul h1 h3 h2 (by omega)⟩

end Go.Proofs.Ytlhnlickmjdjfaa
