/- A law for a region that draws its order: operations that only look at slots (and, if they read memory, find it as 'S' says) come first in the text; behind them a chain of operations, each waiting for the one ahead: then the order of the text serves for every order. No program in sight. -/
import Derived.OrdersHeld
import Derived.Deep.Quiet
import Derived.Deep.QuietTactic
import Derived.BigQuiet
namespace Go.Proofs.Ytkcnenekmjgmgaa

/-- Operations that hand back a value, and no call. -/
def plainOp (o : Oper) : Bool :=
  match o.op with
  | .move _ | .assign _ | .pick .. | .build .. | .load .. | .binOp .. | .unOp .. | .convert .. | .fieldAddr .. | .field .. | .indexAddr .. | .index .. | .extract .. => true
  | .nilCheck _ => true
  | _ => false

theorem value_of_bind {P : Program} {w w' : World} {n : Next} {s : Sem Value} (h : (do pure (Next.value (← s)) : Sem Next).run P w = .ok n w') : ∃ v, n = .value v := by
  simp only [Sem.run_bind] at h
  cases hs : s.run P w with
  | ok v w1 => rw [hs] at h; simp at h; exact ⟨v, h.1.symm⟩
  | halt x w1 => rw [hs] at h; simp at h

theorem plain_value {P : Program} {w w' : World} {n : Next} {ρ : Operand → Value} {o : Oper} (hp : plainOp o = true) (h : (execOp ρ o).run P w = .ok n w') : ∃ v, n = .value v := by
  obtain ⟨dst, op, type, pos, after, guard⟩ := o
  cases op <;> simp only [plainOp, Bool.false_eq_true] at hp <;> simp only [execOp] at h
  case nilCheck x =>
    generalize ρ x = y at h
    split at h
    case h_4 =>
      split at h
      · simp [runtimePanic] at h
      · rename_i t u _
        simp only [Sem.run_bind] at h
        generalize (program.run P w) = r at h
        cases r with
        | halt x w1 => simp at h
        | ok p w1 =>
          simp only [Result.andThen_ok] at h
          generalize hr : (nilAhead _ t u _).run P w1 = r2 at h
          cases r2 with
          | halt x w1 => simp at h
          | ok q w2 =>
            simp only [Result.andThen_ok] at h
            split at h
            · simp [unsupported] at h
            · simp at h; exact ⟨_, h.1.symm⟩
      · simp at h; exact ⟨_, h.1.symm⟩
    all_goals first | (simp [runtimePanic] at h; done) | (simp at h; exact ⟨_, h.1.symm⟩)
  all_goals first | exact value_of_bind h | (simp at h; exact ⟨_, h.1.symm⟩) | skip
  case pick c a b =>
    simp only [Sem.run_bind] at h
    generalize (asBool (ρ c)).run P w = r at h
    cases r with
    | halt x w1 => simp at h
    | ok q w2 => simp at h; exact ⟨_, h.1.symm⟩

/-- The first k operations have come up. -/
def firstK (size k : Nat) : Array Bool := Array.ofFn fun j : Fin size => decide (j.val < k)
theorem firstK_zero (size : Nat) : Array.replicate size false = firstK size 0 := by
  apply Array.ext
  · simp [firstK]
  · intro i h1 h2; simp [firstK]
theorem firstK_set (size k : Nat) : (firstK size k).setIfInBounds k true = firstK size (k + 1) := by
  apply Array.ext
  · simp [firstK]
  · intro i h1 h2
    have hi : i < size := by simpa [firstK] using h2
    rw [Array.getElem_setIfInBounds (by simpa [firstK] using hi)]
    simp only [firstK, Array.getElem_ofFn]
    by_cases h : k = i
    · simp [h]
    · simp only [h, if_false]
      have : (i < k) = (i < k + 1) := by simp only [eq_iff_iff]; omega
      simp [this]
theorem firstK_open {size k j : Nat} (h : (firstK size k).getD j true = false) : j < size ∧ k ≤ j := by
  by_cases hj : j < size
  · simp [firstK, hj] at h; exact ⟨hj, h⟩
  · simp [firstK, hj] at h
theorem firstK_isOpen {size k j : Nat} (hj : j < size) (h : k ≤ j) : (firstK size k).getD j true = false := by simp [firstK, hj, h]
theorem firstK_done {size k j : Nat} (hj : j < size) (h : j < k) : (firstK size k).getD j false = true := by simp [firstK, hj, h]
theorem firstK_undone {size k j : Nat} (h : (firstK size k).getD j false = true) : j < k := by
  by_cases hj : j < size
  · simp [firstK, hj] at h; exact h
  · simp [firstK, hj] at h

/-- Number k waits for none but those ahead of it. -/
def aheadOk (o : Oper) (k : Nat) : Bool := o.after.all fun e => decide (e.on < k)
/-- Number k of the first n: plain, and whoever stands behind it waits for it or has nothing to do with it. -/
def headAt (ops : Array Oper) (k : Nat) : Bool :=
  match ops[k]? with
  | none => false
  | some o => plainOp o && aheadOk o k && (List.range ops.size).all fun j => decide (j ≤ k) || match ops[j]? with
      | none => true
      | some oj => (oj.after.any fun e => Region.binds .any e && e.on == k) || o.apart ops oj
def tailAt (ops : Array Oper) (n t : Nat) : Bool :=
  match ops[t]? with
  | none => false
  | some o => aheadOk o t && (decide (t ≤ n) || o.after.any fun e => Region.binds .any e && e.on == t - 1)
/-- THE CHECK, for the kernel. -/
def headTail (ops : Array Oper) (n : Nat) : Bool :=
  Region.noSelect ops && decide (n ≤ ops.size) && ((List.range n).all fun k => headAt ops k) && ((List.range ops.size).all fun t => decide (t < n) || tailAt ops n t)

section
variable {P : Program} {ops : Array Oper} {Q : Exit → Act → World → Prop} {S : World → Prop}

theorem ready_k {k : Nat} {o : Oper} (ho : ops[k]? = some o) (h : aheadOk o k = true) : k ∈ Region.ready .any ops (firstK ops.size k) := by
  have hk : k < ops.size := (Array.getElem?_eq_some_iff.1 ho).1
  refine mem_ready.2 ⟨firstK_isOpen hk (Nat.le_refl _), o, ho, fun e he _ => ?_⟩
  have := Array.all_eq_true_iff_forall_mem.1 h e he
  have : e.on < k := by simpa using this
  exact firstK_done (by omega) this

theorem tail_law {n : Nat} (hT : ∀ t, n ≤ t → t < ops.size → tailAt ops n t = true) : ∀ (l : List Oper) (k : Nat) (a : Act) (w : World), n ≤ k → (∀ j, l[j]? = ops[k + j]?) →
    wpList P ops Q l a w → wpAnyH P .any ops Q (fun _ => True) l.length (firstK ops.size k) a w
  | [], k, a, w, _, hl, h => by
    have hk : ops.size ≤ k := by
      have := hl 0
      simp at this
      exact this
    refine ⟨?_, h⟩
    rw [List.eq_nil_iff_forall_not_mem]
    intro j hj
    obtain ⟨h1, _⟩ := mem_ready.1 hj
    have := firstK_open h1
    omega
  | o :: l, k, a, w, hn, hl, h => by
    have h0 : ops[k]? = some o := by simpa using (hl 0).symm
    have hk : k < ops.size := (Array.getElem?_eq_some_iff.1 h0).1
    have hat := hT k hn hk
    simp only [tailAt, h0, Bool.and_eq_true] at hat
    have hr := ready_k h0 hat.1
    refine ⟨fun h1 => (by rw [h1] at hr; cases hr), fun i hi => ?_⟩
    obtain ⟨hio, oi, hoi, hw⟩ := mem_ready.1 hi
    have hib := firstK_open hio
    have hik : i = k := by
      rcases Nat.lt_or_ge k i with hlt | hge
      · have ht := hT i (by omega) hib.1
        simp only [tailAt, hoi, Bool.and_eq_true, Bool.or_eq_true, decide_eq_true_eq] at ht
        rcases ht.2 with h2 | h2
        · omega
        · obtain ⟨e, he, hb⟩ := Array.any_eq_true'.1 h2
          simp only [Bool.and_eq_true, beq_iff_eq] at hb
          have := firstK_undone (hw e he hb.1)
          omega
      · omega
    subst hik
    have hw' : wpOp P ops Q i (wpList P ops Q l) a w := by unfold wpOp; simp only [h0]; exact h
    exact wpOp_mono (fun a' w' h' => ⟨trivial, by rw [firstK_set]; exact tail_law hT l (i + 1) a' w' (by omega) (fun j => by have := hl (j + 1); simpa [Nat.add_assoc, Nat.add_comm 1 j] using this) h'⟩) hw'

theorem yieldsIf_of_qOp {i : Nat} {o : Oper} {a : Act} {K : Act → Prop} (hp : plainOp o = true) (hi : ops[i]? = some o) (h : qOp P ops S i K a) : ∃ v, YieldsIf P ops S o v a ∧ K (a.put o.dst v) := by
  obtain ⟨v, hy, hK⟩ := yieldsIn_of_qOp hi h
  refine ⟨v, ?_, hK⟩
  rcases hy with ⟨hw, hv⟩ | hy
  · refine .inl ⟨hw, fun w hw' => ?_⟩
    have := hv w hw'
    unfold Oper.quietAt at this
    generalize hr : (execOp a.eval o).run P w = r at this
    cases r with
    | ok n w1 =>
      obtain ⟨u, rfl⟩ := plain_value hp hr
      simp only [Oper.quietUpon] at this
      obtain ⟨rfl, rfl⟩ := this
      rfl
    | halt x w1 => simp only [Oper.quietUpon] at this
  · exact .inr hy

theorem head_law {n : Nat} (hsel : Region.noSelect ops = true) (hQ : ∀ c a d v w, Q (.panic c) (Act.put a d v) w → Q (.panic c) a w) (hn : n ≤ ops.size) (hH : ∀ k, k < n → headAt ops k = true) (hT : ∀ t, n ≤ t → t < ops.size → tailAt ops n t = true)
    (tl : List Oper) (htl : ∀ j, tl[j]? = ops[n + j]?) : ∀ (l : List Oper) (k : Nat) (a : Act) (w : World), k + l.length = n → (∀ j, j < l.length → l[j]? = ops[k + j]?) →
    wpQuiet P ops (fun _ => True) (fun a' => wpList P ops Q tl a' w) l a → wpAnyH P .any ops Q (fun _ => True) (l.length + tl.length) (firstK ops.size k) a w
  | [], k, a, w, hk, _, h => by
    have : k = n := by simpa using hk
    subst this
    simpa using tail_law hT tl k a w (Nat.le_refl _) htl h
  | o :: l, k, a, w, hk, hl, h => by
    simp only [List.length_cons] at hk
    have h0 : ops[k]? = some o := by simpa using (hl 0 (by simp)).symm
    have hat := hH k (by omega)
    simp only [headAt, h0, Bool.and_eq_true] at hat
    have hq : qOp P ops (fun _ => True) k (wpQuiet P ops (fun _ => True) (fun a' => wpList P ops Q tl a' w) l) a := by unfold qOp; simp only [h0]; exact h
    obtain ⟨v, hy, hK⟩ := yieldsIf_of_qOp hat.1.1 h0 hq
    have hr := ready_k h0 hat.1.2
    rw [show (o :: l).length + tl.length = (l.length + tl.length) + 1 by simp; omega]
    refine wpAnyH_first h0 (Region.noSelect_spec hsel) (fun c a w => hQ c a _ _ w) _ _ _ _ ?_ hr hy trivial ?_
    · intro j oj hj hne hopen hno
      have hb := firstK_open hopen
      have := List.all_eq_true.1 hat.2 j (List.mem_range.2 hb.1)
      simp only [hj, Bool.or_eq_true, decide_eq_true_eq] at this
      rcases this with h1 | h1 | h1
      · omega
      · obtain ⟨e, he, hb⟩ := Array.any_eq_true'.1 h1
        simp only [Bool.and_eq_true, beq_iff_eq] at hb
        exact absurd hb.2 (hno e he hb.1)
      · exact h1
    · rw [firstK_set]
      exact head_law hsel hQ hn hH hT tl htl l (k + 1) _ w (by omega) (fun j hj => by have := hl (j + 1) (by simp; omega); simpa [Nat.add_assoc, Nat.add_comm 1 j] using this) hK

theorem wp_region_headTail {id : Nat} {a : Act} {w : World} {l : List Oper} (n : Nat) (hm : P.follows .mixedOrders = true) (hB : headTail l.toArray n = true)
    (hQ : ∀ c a d v w, Q (.panic c) (Act.put a d v) w → Q (.panic c) a w)
    (h : wpQuiet P l.toArray (fun _ => True) (fun a' => wpList P l.toArray Q (l.drop n) a' w.drew) (l.take n) a) : (Code.region id l.toArray true).wp P Q a w := by
  simp only [headTail, Bool.and_eq_true, decide_eq_true_eq, List.all_eq_true, List.mem_range, Bool.or_eq_true] at hB
  obtain ⟨⟨⟨hsel, hn⟩, hH⟩, hT⟩ := hB
  refine wp_region_held (S := fun _ => True) hm ?_
  have hn' : n ≤ l.length := by simpa using hn
  have := head_law (P := P) (Q := Q) hsel hQ hn hH (fun t h1 h2 => (hT t h2).resolve_left (by omega)) (l.drop n) (fun j => by simp) (l.take n) 0 a w.drew (by simp; omega) (fun j hj => by
    simp at hj
    simp [hj]) h
  rw [firstK_zero]
  have e : (l.take n).length + (l.drop n).length = l.toArray.size := by simp; omega
  rw [e] at this
  exact this
end

end Go.Proofs.Ytkcnenekmjgmgaa
