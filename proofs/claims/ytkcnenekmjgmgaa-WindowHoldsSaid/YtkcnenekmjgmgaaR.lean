/- Laws for values of many cells stored into a block and loaded out of it: worlds stay letters, what is known of them are their blocks. No program in sight. -/
import Derived.WalkKit
import Derived.Laws.CopyRow
import Derived.Laws.Rows
import Derived.Deep.Draws
namespace Go.Proofs.Ytkcnenekmjgmgaa
open Go.RowKit

/-- A fact kept from the walk. -/
theorem hid {p : Prop} (h : p) : Hid p := h

theorem below_drewN' {B : Nat} {a w : World} (h : Below B a w) (n : Nat) : Below B a (w.drewN n) := ⟨h.os, h.tape, h.output, h.size, h.block⟩

/-- From here on the world is a letter; of it these facts are kept. -/
theorem abstract_world {G : World → Prop} {w0 : World} (F : World → Prop) (hf : F w0) (h : ∀ w, F w → G w) : G w0 := h w0 hf

/-- Some cells of a row, written over. -/
def splice (cur : Array Value) (o : Nat) (vs : List Value) : Array Value := (cur.toList.take o ++ vs ++ cur.toList.drop (o + vs.length)).toArray

/-- Of w only block g has turned; it holds this row now. -/
structure RowSet (w : World) (g : Nat) (row : Array Value) (t : TypeId) (w1 : World) : Prop where
  os : w1.os = w.os
  tape : w1.tape = w.tape
  output : w1.output = w.output
  size : w1.heap.size = w.heap.size
  row : w1.heap[g]? = some (.cells row t (0, 0))
  other : ∀ k, k ≠ g → w1.heap[k]? = w.heap[k]?

theorem RowSet.below {w w1 : World} {g : Nat} {row : Array Value} {t : TypeId} (h : RowSet w g row t w1) {B : Nat} (hB : B ≤ g) : Below B w w1 :=
  ⟨h.os, h.tape, h.output, by rw [h.size]; exact Nat.le_refl _, fun k hk => h.other k (by omega)⟩

theorem rowSet_of {w : World} {g : Nat} {cur row : Array Value} {t : TypeId} (hg : w.heap[g]? = some (.cells cur t (0, 0))) : RowSet w g row t (w.setRow g row) :=
  ⟨rfl, rfl, rfl, by simp, setRow_heap w g cur row t (0, 0) hg, fun k hk => setRow_other w g k row hk⟩

section
variable {P : Program}

theorem run_storeVar_at (w : World) (g o : Nat) (ty : TypeId) (cells cur : Array Value) (t : TypeId) (hg : w.heap[g]? = some (.cells cur t (0, 0))) (hl : o + cells.size ≤ cur.size)
    (hi : (P.info? ty).map (·.size) = some cells.size) (h1 : cells.all (·.oneCell') = true) : (storeVar ty ⟨g, o, none⟩ (.agg cells)).run P w = .ok () (w.setRow g (splice cur o cells.toList)) := by
  have := run_storeCells_at (P := P) g o t cells.toList 0 cur w hg (by simpa using hl) (fun v hv => (Array.all_eq_true_iff_forall_mem.1 h1) v (by simpa using hv))
  cases hq : P.info? ty with
  | none => simp [hq] at hi
  | some i =>
    have hs : cells.size = i.size := by simp [hq] at hi; omega
    simp only [Nat.add_zero] at this
    simp [storeVar, sizeOf, typeInfo, hq, Value.cells, hs, this, splice]

theorem wpList_store_at {ops : Array Oper} {rest : List Oper} {op : Oper} {a : Act} {w : World} {Q : Exit → Act → World → Prop} (hgd : op.guard = none) (ty : TypeId) (x y : Operand) (ho : op.op = .store ty x y)
    (g o : Nat) (cells : Array Value) (hx : a.eval x = .pointer (some ⟨g, o, none⟩)) (hy : a.eval y = .agg cells) (cur : Array Value) (t : TypeId)
    (hg : w.heap[g]? = some (.cells cur t (0, 0))) (hl : o + cells.size ≤ cur.size) (hi : (P.info? ty).map (·.size) = some cells.size) (h1 : cells.all (·.oneCell') = true)
    (h : ∀ w1, RowSet w g (splice cur o cells.toList) t w1 → wpList P ops Q rest (a.put op.dst undef) w1) : wpList P ops Q (op :: rest) a w :=
  wpList_plain hgd fun K hK => by
    have hr := run_storeVar_at (P := P) w g o ty cells cur t hg hl hi h1
    unfold Oper.wp execOp
    simp only [ho, hx, hy, Instr.storeAt, Instr.sureAddr, Sem.run_bind, Sem.run_pure, Result.andThen_ok, hr]
    exact hK _ _ (h _ (rowSet_of hg))

/-- A function of two results, the first a value of many cells in memory, the second a slot. -/
theorem results_row_tmp {fn : Func} {p q : Tmp} {ty : TypeId} (h : fn.results = #[.cell p ty, .tmp q]) (tmps : Array Value) (w : World) (g : Nat) (t : TypeId) (cs : Array Value) (fr : Nat × Nat) (d : TypeDesc)
    (hp : tmps.getD p undef = .pointer (some ⟨g, 0, none⟩)) (hg : w.heap[g]? = some (.cells cs t fr))
    (hu : P.underlying ty = some d) (hd : (match d with | .struct _ | .array _ _ => true | _ => false) = true) (hi : (P.info? ty).map (·.size) = some cs.size) :
    (results fn tmps).run P w = .ok (.tuple #[.agg cs, tmps.getD q undef]) w := by
  have hp' : tmps[p]?.getD undef = .pointer (some ⟨g, 0, none⟩) := by simpa using hp
  simp [results, h, hp', asAddr, run_loadVar_row w g t ty cs fr d hg hu hd hi]
end

theorem heap_alloc_same (w : World) (o : Obj) : (w.alloc o).heap[w.heap.size]? = some o := heap_alloc_new w o
theorem heap_alloc_keep (w : World) (o : Obj) {i : Nat} {x : Obj} (h : w.heap[i]? = some x) : (w.alloc o).heap[i]? = some x := by
  have : i < w.heap.size := by
    rcases Nat.lt_or_ge i w.heap.size with h1 | h1
    · exact h1
    · rw [Array.getElem?_eq_none h1] at h; cases h
  rw [Below.heap_alloc w o i this, h]

end Go.Proofs.Ytkcnenekmjgmgaa
