/- Slices of int and windows as arguments, with what they have room for. -/
import Derived.Test.YtkcnenekmjgmgaaV
namespace Go.Proofs.Ytkcnenekmjgmgaa
open Go.Joins Go.ChangeShapes Go.WideShapes Go.RowKit Go.Deep

theorem open_intcap {H : Type} {enc : TypeId × Value → H} {W : World} {v : Value} {y : DataW H × List MemPlace} {fuel : Nat} (hf : DataW.trod enc Try.prog W 0 (fun _ => true) true fuel 24 [v] = some y)
    (hlt : ∀ x ∈ y.2, x.block < W.heap.size) : ∃ (l : List Int) (A : Option Addr) (c : Nat), v = .slice A l.length c ∧ l.length ≤ 9223372036854775807 ∧ ReadIn W A l ∧ l.length ≤ c := by
  rcases open_ints Try.underlying24 Try.underlying3 cells3 hf with ⟨hcs, hx⟩ | ⟨a, len', cap', zs, hcs, _, hl, hm, hz, hx, hcell, hwz⟩
  · simp at hcs
    subst hcs
    exact ⟨[], none, 0, rfl, by simp, fun h => absurd h (by simp), Nat.le_refl _⟩
  · simp at hcs
    subst hcs
    simp only [if_true] at hz
    subst hx
    unfold maxLen at hm
    have hll : (zs.take len').length = len' := by rw [List.length_take]; omega
    refine ⟨zs.take len', some a, cap', by rw [hll], by omega, fun hn => ?_, by omega⟩
    rw [hll] at hn
    obtain ⟨b, off, spot⟩ := a
    have hspot : spot = none := by simpa [Addr.add] using World.cell?_spot (hcell 0 (by omega))
    subst hspot
    have hbW : b < W.heap.size := hlt (.cell b off) (MemPlace.mem_row.2 ⟨0, by omega, by simp⟩)
    refine ⟨b, off, rfl, hbW, fun i hi => ?_⟩
    rw [hll] at hi
    have e : (zs.take len').getD i 0 = zs.getD i 0 := by simp [hi]
    rw [e, ← add_plain]
    exact hcell i (by omega)
theorem open_listcap {H : Type} {enc : TypeId × Value → H} {W : World} {r : Reach} {b0 : Nat} {v : Value} {d : DataW H} {ps : List MemPlace} (hv : Value.okWide Try.prog W r b0 24 v) (h : DataW.Trod enc Try.prog W 0 (fun _ => true) true 24 v d ps)
    (hlt : ∀ x ∈ ps, x.block < W.heap.size) : ∃ (l : List Int) (A : Option Addr) (c : Nat), v = .slice A l.length c ∧ l.length ≤ 9223372036854775807 ∧ ReadIn W A l ∧ l.length ≤ c := by
  obtain ⟨a0, len, cap, rfl⟩ := okWide_slice Try.underlying24 hv
  obtain ⟨fuel, hf⟩ := h
  exact open_intcap (y := (d, ps)) (by simpa [Value.cells] using hf) hlt

theorem open_sumscap {H : Type} {enc : TypeId × Value → H} {W : World} {r : Reach} {b0 : Nat} {v : Value} {d : DataW H} {ps : List MemPlace} (hv : Value.okWide Try.prog W r b0 26 v) (h : DataW.Trod enc Try.prog W 0 (fun _ => true) true 26 v d ps)
    (hlt : ∀ x ∈ ps, x.block < W.heap.size) : ∃ (s : Win) (A : Option Addr) (c : Nat), v = .agg #[.int .i64 s.g, .slice A s.l.length c] ∧ s.l.length ≤ 9223372036854775807 ∧ ReadIn W A s.l ∧ s.l.length ≤ c := by
  obtain ⟨cs, rfl, hsz⟩ := okWide_struct Try.underlying26 hv
  obtain ⟨l⟩ := cs
  match l, hsz.trans cells26 with
  | [c0, c1], _ =>
    obtain ⟨fuel, hf⟩ := h
    obtain ⟨y0, y1, n, hx, _, g0, g1⟩ := trod_struct2 Try.underlying26 hf
    simp only [Prod.mk.injEq] at hx
    simp [Value.cells, cells3] at g0
    simp [Value.cells, cells24] at g1
    obtain ⟨n0, e0, f0, w0⟩ := DataW.trod_int Try.underlying3 g0
    simp at e0
    subst e0 f0
    obtain ⟨l, A, c, e, h1, h2, h3⟩ := open_intcap g1 (fun x hx' => hlt x (by rw [hx.2]; simp [hx']))
    subst e
    exact ⟨⟨n0, l⟩, A, c, rfl, h1, h2, h3⟩

end Go.Proofs.Ytkcnenekmjgmgaa
