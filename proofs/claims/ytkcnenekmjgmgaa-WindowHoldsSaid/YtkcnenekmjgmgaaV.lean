/- A policy as an argument: what it reads as, opened and shut. -/
import Derived.Test.YtkcnenekmjgmgaaRows
import Derived.Test.YtkcnenekmjgmgaaM
import Derived.WalkKit
import Derived.Below
import Derived.ChangeSame
import Derived.ProofKit
import Derived.OpenShut
import Derived.Lib.SmallJoins
import Derived.Deep.Fields
import Derived.Carry
import Derived.Test.YtkcnenekmjgmgaaU
namespace Go.Proofs.Ytkcnenekmjgmgaa
open Go.Joins Go.ChangeShapes Go.WideShapes Go.RowKit Go.Deep

theorem cells23 : Try.prog.cellsOf 23 = 10 := by kernel_rfl
theorem cells3 : Try.prog.cellsOf 3 = 1 := by kernel_rfl

/-- Its numbers fit. -/
def polWf (p : Pol) : Prop := (Lit.int .i64 p.k).wf = true ∧ (Lit.int .i64 p.cap).wf = true ∧ (Lit.int .i64 p.num).wf = true ∧ (Lit.int .i64 p.den).wf = true ∧ (Lit.int .i64 p.width).wf = true ∧ (Lit.int .i64 p.count).wf = true ∧ (Lit.int .i64 p.keys).wf = true ∧ (Lit.int .i64 p.slots).wf = true ∧ (Lit.int .i64 p.every).wf = true ∧ (Lit.int .i64 p.seg).wf = true

section
variable {H : Type} {enc : TypeId × Value → H} {w : World} {base : Nat} {spare : Nat → Bool} {held : Bool}
theorem open_pol {r : Reach} {b0 : Nat} {v : Value} {d : DataW H} {ps : List MemPlace} (hv : Value.okWide Try.prog w r b0 23 v) (h : DataW.Trod enc Try.prog w base spare held 23 v d ps) :
    ∃ p : Pol, v = .agg #[.int .i64 p.k, .int .i64 p.cap, .int .i64 p.num, .int .i64 p.den, .int .i64 p.width, .int .i64 p.count, .int .i64 p.keys, .int .i64 p.slots, .int .i64 p.every, .int .i64 p.seg] ∧
      d = .agg [.lit (.int .i64 p.k), .lit (.int .i64 p.cap), .lit (.int .i64 p.num), .lit (.int .i64 p.den), .lit (.int .i64 p.width), .lit (.int .i64 p.count), .lit (.int .i64 p.keys), .lit (.int .i64 p.slots), .lit (.int .i64 p.every), .lit (.int .i64 p.seg)] ∧ ps = [] ∧ polWf p := by
  obtain ⟨cs, rfl, hsz⟩ := okWide_struct Try.underlying23 hv
  obtain ⟨l⟩ := cs
  match l, hsz.trans cells23 with
  | [c0, c1, c2, c3, c4, c5, c6, c7, c8, c9], _ =>
    obtain ⟨fuel, hf⟩ := h
    obtain ⟨xs, n, _, hx, _, hlen, hg⟩ := DataW.trod_struct Try.underlying23 hf
    match xs, hlen with
    | [y0, y1, y2, y3, y4, y5, y6, y7, y8, y9], _ =>
      simp only [Prod.mk.injEq] at hx
      have g0 := hg 0 _ rfl
      have g1 := hg 1 _ rfl
      have g2 := hg 2 _ rfl
      have g3 := hg 3 _ rfl
      have g4 := hg 4 _ rfl
      have g5 := hg 5 _ rfl
      have g6 := hg 6 _ rfl
      have g7 := hg 7 _ rfl
      have g8 := hg 8 _ rfl
      have g9 := hg 9 _ rfl
      simp [Value.cells, cells3] at g0 g1 g2 g3 g4 g5 g6 g7 g8 g9
      obtain ⟨n0, e0, f0, w0⟩ := DataW.trod_int Try.underlying3 g0
      obtain ⟨n1, e1, f1, w1⟩ := DataW.trod_int Try.underlying3 g1
      obtain ⟨n2, e2, f2, w2⟩ := DataW.trod_int Try.underlying3 g2
      obtain ⟨n3, e3, f3, w3⟩ := DataW.trod_int Try.underlying3 g3
      obtain ⟨n4, e4, f4, w4⟩ := DataW.trod_int Try.underlying3 g4
      obtain ⟨n5, e5, f5, w5⟩ := DataW.trod_int Try.underlying3 g5
      obtain ⟨n6, e6, f6, w6⟩ := DataW.trod_int Try.underlying3 g6
      obtain ⟨n7, e7, f7, w7⟩ := DataW.trod_int Try.underlying3 g7
      obtain ⟨n8, e8, f8, w8⟩ := DataW.trod_int Try.underlying3 g8
      obtain ⟨n9, e9, f9, w9⟩ := DataW.trod_int Try.underlying3 g9
      simp at e0 e1 e2 e3 e4 e5 e6 e7 e8 e9
      subst e0 e1 e2 e3 e4 e5 e6 e7 e8 e9 f0 f1 f2 f3 f4 f5 f6 f7 f8 f9
      exact ⟨⟨n0, n1, n2, n3, n4, n5, n6, n7, n8, n9⟩, rfl, by simpa using hx.1, by simpa using hx.2, w0, w1, w2, w3, w4, w5, w6, w7, w8, w9⟩

theorem shut_pol {p : Pol} (h : polWf p) : DataW.Trod enc Try.prog w base spare held 23 (.agg #[.int .i64 p.k, .int .i64 p.cap, .int .i64 p.num, .int .i64 p.den, .int .i64 p.width, .int .i64 p.count, .int .i64 p.keys, .int .i64 p.slots, .int .i64 p.every, .int .i64 p.seg])
    (.agg [.lit (.int .i64 p.k), .lit (.int .i64 p.cap), .lit (.int .i64 p.num), .lit (.int .i64 p.den), .lit (.int .i64 p.width), .lit (.int .i64 p.count), .lit (.int .i64 p.keys), .lit (.int .i64 p.slots), .lit (.int .i64 p.every), .lit (.int .i64 p.seg)]) [] := by
  obtain ⟨w0, w1, w2, w3, w4, w5, w6, w7, w8, w9⟩ := h
  exact ⟨2, by simp [DataW.trod, Value.cells, Try.underlying23, Try.underlying3, cells23, cells3, w0, w1, w2, w3, w4, w5, w6, w7, w8, w9]⟩
end

theorem laidOut : laidOutB Try.prog = true := by kernel_rfl
theorem cells26 : Try.prog.cellsOf 26 = 2 := by kernel_rfl
theorem cells24 : Try.prog.cellsOf 24 = 1 := by kernel_rfl

theorem open_intlist {H : Type} {enc : TypeId × Value → H} {W : World} {v : Value} {y : DataW H × List MemPlace} {fuel : Nat} (hf : DataW.trod enc Try.prog W 0 (fun _ => true) true fuel 24 [v] = some y)
    (hlt : ∀ x ∈ y.2, x.block < W.heap.size) : ∃ (l : List Int) (A : Option Addr) (c : Nat), v = .slice A l.length c ∧ l.length ≤ 9223372036854775807 ∧ ReadIn W A l := by
  rcases open_ints Try.underlying24 Try.underlying3 cells3 hf with ⟨hcs, hx⟩ | ⟨a, len', cap', zs, hcs, _, hl, hm, hz, hx, hcell, hwz⟩
  · simp at hcs
    subst hcs
    exact ⟨[], none, 0, rfl, by simp, fun h => absurd h (by simp)⟩
  · simp at hcs
    subst hcs
    simp only [if_true] at hz
    subst hx
    unfold maxLen at hm
    have hll : (zs.take len').length = len' := by rw [List.length_take]; omega
    refine ⟨zs.take len', some a, cap', by rw [hll], by omega, fun hn => ?_⟩
    rw [hll] at hn
    obtain ⟨b, off, spot⟩ := a
    have hspot : spot = none := by simpa [Addr.add] using World.cell?_spot (hcell 0 (by omega))
    subst hspot
    have hbW : b < W.heap.size := hlt (.cell b off) (MemPlace.mem_row.2 ⟨0, by omega, by simp⟩)
    refine ⟨b, off, rfl, hbW, fun i hi => ?_⟩
    rw [hll] at hi
    have e : (zs.take len').getD i 0 = zs.getD i 0 := by simp [hi]
    rw [e, ← add_plain]
    exact hcell i (by omega)

theorem open_sums {H : Type} {enc : TypeId × Value → H} {W : World} {r : Reach} {b0 : Nat} {v : Value} {d : DataW H} {ps : List MemPlace} (hv : Value.okWide Try.prog W r b0 26 v) (h : DataW.Trod enc Try.prog W 0 (fun _ => true) true 26 v d ps)
    (hlt : ∀ x ∈ ps, x.block < W.heap.size) : ∃ (s : Win) (A : Option Addr) (c : Nat), v = .agg #[.int .i64 s.g, .slice A s.l.length c] ∧ s.l.length ≤ 9223372036854775807 ∧ ReadIn W A s.l := by
  obtain ⟨cs, rfl, hsz⟩ := okWide_struct Try.underlying26 hv
  obtain ⟨l⟩ := cs
  match l, hsz.trans cells26 with
  | [c0, c1], _ =>
    obtain ⟨fuel, hf⟩ := h
    obtain ⟨y0, y1, n, hx, _, g0, g1⟩ := trod_struct2 Try.underlying26 hf
    simp only [Prod.mk.injEq] at hx
    simp [Value.cells, cells3] at g0
    simp [Value.cells, cells24] at g1
    obtain ⟨n0, e0, f0, w0⟩ := DataW.trod_int Try.underlying3 g0
    simp at e0
    subst e0 f0
    obtain ⟨l, A, c, e, h1, h2⟩ := open_intlist g1 (fun x hx' => hlt x (by rw [hx.2]; simp [hx']))
    subst e
    exact ⟨⟨n0, l⟩, A, c, rfl, h1, h2⟩

end Go.Proofs.Ytkcnenekmjgmgaa
