/- The law WindowMoves, part 1: its functions, walked and told plainly. -/
import Derived.Test.YtkcnenekmjgmgaaJMoves0
import Derived.Test.YtkcnenekmjgmgaaProg
import Derived.Below
import Derived.Deep.Draws
import Derived.Deep.AppendLies
import Derived.Maps.AppendAt
import Derived.OwnWalk
import Derived.Laws.BytesArg
import Derived.Laws.MakeOwn
import Derived.Laws.OwnMore
import Derived.Deep.OwnRows
import Derived.Tactics
import Derived.Lib.ConvBytes
import Derived.Laws.Slices
import Derived.WalkKit
import Derived.KernelRfl
import Derived.RowKit3
import Derived.Deep.LoopGhost
import Derived.Deep.QuietTactic
import Derived.BigQuiet
import Derived.WideLaws
import Derived.Deep.DeepCutAuto
import Derived.Deep.CutBlock
import Derived.Deep.RegionHeld3
import Derived.Laws.Rows
import Derived.Lib.AppendStr
import Derived.ArgAppend
import Derived.Laws.IdiomCopy
import Derived.OrdersHeld
import Derived.Laws.BitsLemmas
import Derived.RowKit
import Derived.WalkSpells
import Derived.WalkLawsBesides
import Derived.Deep.Quiet
import Derived.Laws.CopyRow
import Derived.RegionTactic
import Derived.BigRegion
import Derived.LoopTactic
import Derived.Lib.LazyBuf
import Derived.Laws.CopyOwn

section
-- Laid by given.py, a program of this seat, with the kit's printer.
namespace Go.Proofs.YtkcnenekmjgmgaaP
open Go.RowKit Go.Proofs.YtkcnenekmjgmgaaW.PrintWords Go.Proofs.YtkcnenekmjgmgaaW.PrintLast Go.Proofs.YtkcnenekmjgmgaaW.PrintMore
attribute [local go_sem] max2_int min2_int max_two min_two max_three min_three max_four min_four   -- for this text's walks alone
set_option linter.unusedVariables false
set_option linter.unusedSimpArgs false



def errW : Option Int → Value
  | none => .nilIface
  | some c => .iface 0 (.int .i64 c)
theorem errW_none : errW none = .nilIface := rfl
theorem errW_some (c : Int) : errW (some c) = .iface 0 (.int .i64 c) := rfl

theorem info3 : (Try.prog.info? 3).map (fun i => (i.zero, i.size, i.bytes)) = some (some (.int .i64 0), 1, 8) := by kernel_rfl
-- the values' own types

end Go.Proofs.YtkcnenekmjgmgaaP
end

section
/- Plain numbers: a number between two bounds; a number clipped; a policy that may be. No Go in sight. -/
namespace Go.Proofs.Ytkcnenekmjgmgaa

/-- A number between two bounds. -/
def within (n lo hi : Int) : Bool := decide (lo ≤ n ∧ n ≤ hi)
theorem within_yes {n lo hi : Int} (h1 : lo ≤ n) (h2 : n ≤ hi) : within n lo hi = true := by simp [within, h1, h2]
theorem within_low {n lo hi : Int} (h1 : n < lo) : within n lo hi = false := by simp [within]; omega
theorem within_high {n lo hi : Int} (h1 : hi < n) : within n lo hi = false := by simp [within]; omega
theorem within_iff {n lo hi : Int} : within n lo hi = true ↔ lo ≤ n ∧ n ≤ hi := by simp [within]
theorem within_not {n lo hi : Int} (h : within n lo hi = false) : n < lo ∨ hi < n := by simp [within] at h; omega

/-- A number clipped to 0 and a bound. -/
def clipI (n most : Int) : Int := if n < 0 then 0 else if most < n then most else n
theorem clipI_low {n m : Int} (h : n < 0) : clipI n m = 0 := by simp [clipI, h]
theorem clipI_high {n m : Int} (h0 : 0 ≤ n) (h : m < n) : clipI n m = m := by unfold clipI; rw [if_neg (by omega), if_pos h]
theorem clipI_mid {n m : Int} (h0 : 0 ≤ n) (h : n ≤ m) : clipI n m = n := by unfold clipI; rw [if_neg (by omega), if_neg (by omega)]
theorem clipI_bound (n : Int) {m : Int} (hm : 0 ≤ m) : 0 ≤ clipI n m ∧ clipI n m ≤ m := by unfold clipI; split; omega; split <;> omega

/-- A policy's ten numbers. -/
structure Pol where
  k : Int
  cap : Int
  num : Int
  den : Int
  width : Int
  count : Int
  keys : Int
  slots : Int
  every : Int
  seg : Int

/-- The fields that both kinds have. -/
def allB (p : Pol) : Bool := within p.cap 1 1048576 && within p.keys 1 1000 && within p.slots 1 64 && within p.every 0 1000 && within p.seg 1 1000
def bucketB (p : Pol) : Bool := (p.k == 1) && within p.num 1 65536 && within p.den 1 65536 && (p.width == 0) && (p.count == 0)
def windowB (p : Pol) : Bool := (p.k == 2) && within p.width 1 1048576 && within p.count 1 32 && (p.num == 0) && (p.den == 0)
/-- A policy that may be. -/
def okB (p : Pol) : Bool := allB p && (bucketB p || windowB p)

/-- What Right answers: 0, or 40. -/
def rightN (p : Pol) : Int := if okB p then 0 else 40
theorem rightN_yes {p : Pol} (h : okB p = true) : rightN p = 0 := by simp [rightN, h]
theorem rightN_no {p : Pol} (h : okB p = false) : rightN p = 40 := by simp [rightN, h]

/-- A bucket's policy that may be. -/
def meansB (p : Pol) : Bool := (p.k == 1) && okB p
theorem meansB_kind {p : Pol} (h : (p.k == 1) = false) : meansB p = false := by simp [meansB, h]
theorem meansB_yes {p : Pol} (h : p.k = 1) (h2 : okB p = true) : meansB p = true := by simp [meansB, h, h2]
theorem meansB_no {p : Pol} (h2 : okB p = false) : meansB p = false := by simp [meansB, h2]
theorem rightN_not {p : Pol} (h1 : (p.k == 1) = false) (h2 : (p.k == 2) = false) : rightN p = 40 := rightN_no (by simp [okB, bucketB, windowB, h1, h2])

/-- What is known of a bucket's policy that may be. -/
theorem meansB_bounds {p : Pol} (h : meansB p = true) : p.k = 1 ∧ (1 ≤ p.cap ∧ p.cap ≤ 1048576) ∧ (1 ≤ p.num ∧ p.num ≤ 65536) ∧ (1 ≤ p.den ∧ p.den ≤ 65536) := by
  simp [meansB, okB, allB, bucketB, windowB, within] at h
  omega

end Go.Proofs.Ytkcnenekmjgmgaa
end

section
/- Contracts of the small functions: bounds of a number, a number clipped. Each is called with whatever numbers; nothing in memory turns. -/
namespace Go.Proofs.Ytkcnenekmjgmgaa
open Go.RowKit

theorem in_any (n lo hi : Int) (w : World) : Calls Try.prog 30 #[.int .i64 n, .int .i64 lo, .int .i64 hi] w fun e w' => e = .returned (.bool (within n lo hi)) ∧ w = w' := by
  by_cases h1 : lo ≤ n
  · by_cases h2 : n ≤ hi
    · go_enter Try.func30, Try.ntmps30
      go_wp2
      go_ret
      exact ⟨by first | (rw [within_yes (by omega) (by omega)]; rfl) | (rw [within_high (by omega)]; rfl), rfl⟩
    · go_enter Try.func30, Try.ntmps30
      go_wp2
      go_ret
      exact ⟨by first | (rw [within_yes (by omega) (by omega)]; rfl) | (rw [within_high (by omega)]; rfl), rfl⟩
  · go_enter Try.func30, Try.ntmps30
    go_wp2
    go_ret
    exact ⟨by rw [within_low (by omega)]; rfl, rfl⟩

theorem may_any (n : Int) (w : World) : Calls Try.prog 33 #[.int .i64 n] w fun e w' => e = .returned (.bool (within n 1 1048576)) ∧ w = w' := by
  by_cases h1 : 1 ≤ n
  · by_cases h2 : n ≤ 1048576
    · go_enter Try.func33, Try.ntmps33
      go_wp2
      go_ret
      exact ⟨by first | (rw [within_yes (by omega) (by omega)]; rfl) | (rw [within_high (by omega)]; rfl), rfl⟩
    · go_enter Try.func33, Try.ntmps33
      go_wp2
      go_ret
      exact ⟨by first | (rw [within_yes (by omega) (by omega)]; rfl) | (rw [within_high (by omega)]; rfl), rfl⟩
  · go_enter Try.func33, Try.ntmps33
    go_wp2
    go_ret
    exact ⟨by rw [within_low (by omega)]; rfl, rfl⟩

theorem refClip_any (n m : Int) (w : World) : Calls Try.prog 38 #[.int .i64 n, .int .i64 m] w fun e w' => e = .returned (.int .i64 (clipI n m)) ∧ w = w' := by
  by_cases h1 : n < 0
  · go_enter Try.func38, Try.ntmps38
    go_wp2
    go_ret
    exact ⟨by first | (rw [clipI_low (by omega)]; rfl) | (rw [clipI_high (by omega) (by omega)]; rfl) | (rw [clipI_mid (by omega) (by omega)]; rfl), rfl⟩
  · by_cases h2 : m < n
    · go_enter Try.func38, Try.ntmps38
      go_wp2
      go_ret
      exact ⟨by first | (rw [clipI_low (by omega)]; rfl) | (rw [clipI_high (by omega) (by omega)]; rfl) | (rw [clipI_mid (by omega) (by omega)]; rfl), rfl⟩
    · go_enter Try.func38, Try.ntmps38
      go_wp2
      go_ret
      exact ⟨by first | (rw [clipI_low (by omega)]; rfl) | (rw [clipI_high (by omega) (by omega)]; rfl) | (rw [clipI_mid (by omega) (by omega)]; rfl), rfl⟩

end Go.Proofs.Ytkcnenekmjgmgaa
end

section
/- The reference's Right: which policies may be. -/
namespace Go.Proofs.Ytkcnenekmjgmgaa
open Go.RowKit

set_option maxHeartbeats 1000000 in
theorem refRight_core (k cap num den width count keys slots every seg : Int) (b1 b2 b3 b4 b5 b6 : Bool) (h1 : (k == 1) = b1) (h2 : (k == 2) = b2) (h3 : (width == 0) = b3) (h4 : (count == 0) = b4) (h5 : (num == 0) = b5) (h6 : (den == 0) = b6) (w : World) :
    Calls Try.prog 10 #[.agg #[.int .i64 k, .int .i64 cap, .int .i64 num, .int .i64 den, .int .i64 width, .int .i64 count, .int .i64 keys, .int .i64 slots, .int .i64 every, .int .i64 seg]] w
      fun e w' => e = .returned (.int .i64 (rightN ⟨k, cap, num, den, width, count, keys, slots, every, seg⟩)) ∧ Below w.heap.size w w' := by
  go_enter Try.func10, Try.ntmps10
  go_upto_region 1 with fail
  go_cut [3] (fun s3 wx => s3 = .bool (allB ⟨k, cap, num, den, width, count, keys, slots, every, seg⟩) ∧ w.alloc (.cells #[.int .i64 k, .int .i64 cap, .int .i64 num, .int .i64 den, .int .i64 width, .int .i64 count, .int .i64 keys, .int .i64 slots, .int .i64 every, .int .i64 seg] 23) = wx)
  case first =>
    go_wp2_with (go_at_call 30; refine (in_any _ _ _ _).mono ?_; rintro e w' ⟨rfl, rfl⟩)
    all_goals (go_meet; exact ⟨by simp [allB, *], rfl⟩)
  case rest =>
    obtain ⟨rfl, rfl⟩ := hcut
    go_upto_region 2 with fail
    go_cut [4] (fun s4 wx => s4 = .bool (bucketB ⟨k, cap, num, den, width, count, keys, slots, every, seg⟩) ∧ w.alloc (.cells #[.int .i64 k, .int .i64 cap, .int .i64 num, .int .i64 den, .int .i64 width, .int .i64 count, .int .i64 keys, .int .i64 slots, .int .i64 every, .int .i64 seg] 23) = wx)
    case first =>
      go_wp2_with (go_at_call 30; refine (in_any _ _ _ _).mono ?_; rintro e w' ⟨rfl, rfl⟩)
      all_goals (go_meet; exact ⟨by simp [bucketB, *], rfl⟩)
    case rest =>
      obtain ⟨rfl, rfl⟩ := hcut
      go_upto_region 3 with fail
      go_cut [5] (fun s5 wx => s5 = .bool (windowB ⟨k, cap, num, den, width, count, keys, slots, every, seg⟩) ∧ w.alloc (.cells #[.int .i64 k, .int .i64 cap, .int .i64 num, .int .i64 den, .int .i64 width, .int .i64 count, .int .i64 keys, .int .i64 slots, .int .i64 every, .int .i64 seg] 23) = wx)
      case first =>
        go_wp2_with (go_at_call 30; refine (in_any _ _ _ _).mono ?_; rintro e w' ⟨rfl, rfl⟩)
        all_goals (go_meet; exact ⟨by simp [windowB, *], rfl⟩)
      case rest =>
        obtain ⟨rfl, rfl⟩ := hcut
        go_wp2
        all_goals (go_ret; exact ⟨by first | (rw [rightN_yes (by simp [okB, *])]; rfl) | (rw [rightN_no (by simp [okB, *])]; rfl), (Below.refl _ _).alloc (Nat.le_refl _) _⟩)

theorem refRight_any (p : Pol) (w : World) :
    Calls Try.prog 10 #[.agg #[.int .i64 p.k, .int .i64 p.cap, .int .i64 p.num, .int .i64 p.den, .int .i64 p.width, .int .i64 p.count, .int .i64 p.keys, .int .i64 p.slots, .int .i64 p.every, .int .i64 p.seg]] w
      fun e w' => e = .returned (.int .i64 (rightN p)) ∧ Below w.heap.size w w' :=
  refRight_core p.k p.cap p.num p.den p.width p.count p.keys p.slots p.every p.seg _ _ _ _ _ _ rfl rfl rfl rfl rfl rfl w

end Go.Proofs.Ytkcnenekmjgmgaa
end

section
/- A law for a region that draws its order: operations that only look at slots (and, if they read memory, find it as 'S' says) come first in the text; behind them a chain of operations, each waiting for the one ahead: then the order of the text serves for every order. No program in sight. -/
namespace Go.Proofs.Ytkcnenekmjgmgaa

/-- Operations that hand back a value, and no call. -/
def plainOp (o : Oper) : Bool :=
  match o.op with
  | .move _ | .assign _ | .pick .. | .build .. | .load .. | .binOp .. | .unOp .. | .convert .. | .fieldAddr .. | .field .. | .indexAddr .. | .index .. | .extract .. => true
  | .nilCheck _ => true
  | _ => false

theorem value_of_bind {P : Program} {w w' : World} {n : Next} {s : Sem Value} (h : (do pure (Next.value (← s)) : Sem Next).run P w = .ok n w') : ∃ v, n = .value v := by
  simp only [Sem.run_bind] at h
  cases hs : s.run P w with
  | ok v w1 => rw [hs] at h; simp at h; exact ⟨v, h.1.symm⟩
  | halt x w1 => rw [hs] at h; simp at h

theorem plain_value {P : Program} {w w' : World} {n : Next} {ρ : Operand → Value} {o : Oper} (hp : plainOp o = true) (h : (execOp ρ o).run P w = .ok n w') : ∃ v, n = .value v := by
  obtain ⟨dst, op, type, pos, after, guard⟩ := o
  cases op <;> simp only [plainOp, Bool.false_eq_true] at hp <;> simp only [execOp] at h
  case nilCheck x =>
    generalize ρ x = y at h
    split at h
    case h_4 =>
      split at h
      · simp [runtimePanic] at h
      · rename_i t u _
        simp only [Sem.run_bind] at h
        generalize (program.run P w) = r at h
        cases r with
        | halt x w1 => simp at h
        | ok p w1 =>
          simp only [Result.andThen_ok] at h
          generalize hr : (nilAhead _ t u _).run P w1 = r2 at h
          cases r2 with
          | halt x w1 => simp at h
          | ok q w2 =>
            simp only [Result.andThen_ok] at h
            split at h
            · simp [unsupported] at h
            · simp at h; exact ⟨_, h.1.symm⟩
      · simp at h; exact ⟨_, h.1.symm⟩
    all_goals first | (simp [runtimePanic] at h; done) | (simp at h; exact ⟨_, h.1.symm⟩)
  all_goals first | exact value_of_bind h | (simp at h; exact ⟨_, h.1.symm⟩) | skip
  case pick c a b =>
    simp only [Sem.run_bind] at h
    generalize (asBool (ρ c)).run P w = r at h
    cases r with
    | halt x w1 => simp at h
    | ok q w2 => simp at h; exact ⟨_, h.1.symm⟩

/-- The first k operations have come up. -/
def firstK (size k : Nat) : Array Bool := Array.ofFn fun j : Fin size => decide (j.val < k)
theorem firstK_zero (size : Nat) : Array.replicate size false = firstK size 0 := by
  apply Array.ext
  · simp [firstK]
  · intro i h1 h2; simp [firstK]
theorem firstK_set (size k : Nat) : (firstK size k).setIfInBounds k true = firstK size (k + 1) := by
  apply Array.ext
  · simp [firstK]
  · intro i h1 h2
    have hi : i < size := by simpa [firstK] using h2
    rw [Array.getElem_setIfInBounds (by simpa [firstK] using hi)]
    simp only [firstK, Array.getElem_ofFn]
    by_cases h : k = i
    · simp [h]
    · simp only [h, if_false]
      have : (i < k) = (i < k + 1) := by simp only [eq_iff_iff]; omega
      simp [this]
theorem firstK_open {size k j : Nat} (h : (firstK size k).getD j true = false) : j < size ∧ k ≤ j := by
  by_cases hj : j < size
  · simp [firstK, hj] at h; exact ⟨hj, h⟩
  · simp [firstK, hj] at h
theorem firstK_isOpen {size k j : Nat} (hj : j < size) (h : k ≤ j) : (firstK size k).getD j true = false := by simp [firstK, hj, h]
theorem firstK_done {size k j : Nat} (hj : j < size) (h : j < k) : (firstK size k).getD j false = true := by simp [firstK, hj, h]
theorem firstK_undone {size k j : Nat} (h : (firstK size k).getD j false = true) : j < k := by
  by_cases hj : j < size
  · simp [firstK, hj] at h; exact h
  · simp [firstK, hj] at h

/-- Number k waits for none but those ahead of it. -/
def aheadOk (o : Oper) (k : Nat) : Bool := o.after.all fun e => decide (e.on < k)
/-- Number k of the first n: plain, and whoever stands behind it waits for it or has nothing to do with it. -/
def headAt (ops : Array Oper) (k : Nat) : Bool :=
  match ops[k]? with
  | none => false
  | some o => plainOp o && aheadOk o k && (List.range ops.size).all fun j => decide (j ≤ k) || match ops[j]? with
      | none => true
      | some oj => (oj.after.any fun e => Region.binds .any e && e.on == k) || o.apart ops oj
def tailAt (ops : Array Oper) (n t : Nat) : Bool :=
  match ops[t]? with
  | none => false
  | some o => aheadOk o t && (decide (t ≤ n) || o.after.any fun e => Region.binds .any e && e.on == t - 1)
/-- THE CHECK, for the kernel. -/
def headTail (ops : Array Oper) (n : Nat) : Bool :=
  Region.noSelect ops && decide (n ≤ ops.size) && ((List.range n).all fun k => headAt ops k) && ((List.range ops.size).all fun t => decide (t < n) || tailAt ops n t)

section
variable {P : Program} {ops : Array Oper} {Q : Exit → Act → World → Prop} {S : World → Prop}

theorem ready_k {k : Nat} {o : Oper} (ho : ops[k]? = some o) (h : aheadOk o k = true) : k ∈ Region.ready .any ops (firstK ops.size k) := by
  have hk : k < ops.size := (Array.getElem?_eq_some_iff.1 ho).1
  refine mem_ready.2 ⟨firstK_isOpen hk (Nat.le_refl _), o, ho, fun e he _ => ?_⟩
  have := Array.all_eq_true_iff_forall_mem.1 h e he
  have : e.on < k := by simpa using this
  exact firstK_done (by omega) this

theorem tail_law {n : Nat} (hT : ∀ t, n ≤ t → t < ops.size → tailAt ops n t = true) : ∀ (l : List Oper) (k : Nat) (a : Act) (w : World), n ≤ k → (∀ j, l[j]? = ops[k + j]?) →
    wpList P ops Q l a w → wpAnyH P .any ops Q (fun _ => True) l.length (firstK ops.size k) a w
  | [], k, a, w, _, hl, h => by
    have hk : ops.size ≤ k := by
      have := hl 0
      simp at this
      exact this
    refine ⟨?_, h⟩
    rw [List.eq_nil_iff_forall_not_mem]
    intro j hj
    obtain ⟨h1, _⟩ := mem_ready.1 hj
    have := firstK_open h1
    omega
  | o :: l, k, a, w, hn, hl, h => by
    have h0 : ops[k]? = some o := by simpa using (hl 0).symm
    have hk : k < ops.size := (Array.getElem?_eq_some_iff.1 h0).1
    have hat := hT k hn hk
    simp only [tailAt, h0, Bool.and_eq_true] at hat
    have hr := ready_k h0 hat.1
    refine ⟨fun h1 => (by rw [h1] at hr; cases hr), fun i hi => ?_⟩
    obtain ⟨hio, oi, hoi, hw⟩ := mem_ready.1 hi
    have hib := firstK_open hio
    have hik : i = k := by
      rcases Nat.lt_or_ge k i with hlt | hge
      · have ht := hT i (by omega) hib.1
        simp only [tailAt, hoi, Bool.and_eq_true, Bool.or_eq_true, decide_eq_true_eq] at ht
        rcases ht.2 with h2 | h2
        · omega
        · obtain ⟨e, he, hb⟩ := Array.any_eq_true'.1 h2
          simp only [Bool.and_eq_true, beq_iff_eq] at hb
          have := firstK_undone (hw e he hb.1)
          omega
      · omega
    subst hik
    have hw' : wpOp P ops Q i (wpList P ops Q l) a w := by unfold wpOp; simp only [h0]; exact h
    exact wpOp_mono (fun a' w' h' => ⟨trivial, by rw [firstK_set]; exact tail_law hT l (i + 1) a' w' (by omega) (fun j => by have := hl (j + 1); simpa [Nat.add_assoc, Nat.add_comm 1 j] using this) h'⟩) hw'

theorem yieldsIf_of_qOp {i : Nat} {o : Oper} {a : Act} {K : Act → Prop} (hp : plainOp o = true) (hi : ops[i]? = some o) (h : qOp P ops S i K a) : ∃ v, YieldsIf P ops S o v a ∧ K (a.put o.dst v) := by
  obtain ⟨v, hy, hK⟩ := yieldsIn_of_qOp hi h
  refine ⟨v, ?_, hK⟩
  rcases hy with ⟨hw, hv⟩ | hy
  · refine .inl ⟨hw, fun w hw' => ?_⟩
    have := hv w hw'
    unfold Oper.quietAt at this
    generalize hr : (execOp a.eval o).run P w = r at this
    cases r with
    | ok n w1 =>
      obtain ⟨u, rfl⟩ := plain_value hp hr
      simp only [Oper.quietUpon] at this
      obtain ⟨rfl, rfl⟩ := this
      rfl
    | halt x w1 => simp only [Oper.quietUpon] at this
  · exact .inr hy

theorem head_law {n : Nat} (hsel : Region.noSelect ops = true) (hQ : ∀ c a d v w, Q (.panic c) (Act.put a d v) w → Q (.panic c) a w) (hn : n ≤ ops.size) (hH : ∀ k, k < n → headAt ops k = true) (hT : ∀ t, n ≤ t → t < ops.size → tailAt ops n t = true)
    (tl : List Oper) (htl : ∀ j, tl[j]? = ops[n + j]?) : ∀ (l : List Oper) (k : Nat) (a : Act) (w : World), k + l.length = n → (∀ j, j < l.length → l[j]? = ops[k + j]?) →
    wpQuiet P ops (fun _ => True) (fun a' => wpList P ops Q tl a' w) l a → wpAnyH P .any ops Q (fun _ => True) (l.length + tl.length) (firstK ops.size k) a w
  | [], k, a, w, hk, _, h => by
    have : k = n := by simpa using hk
    subst this
    simpa using tail_law hT tl k a w (Nat.le_refl _) htl h
  | o :: l, k, a, w, hk, hl, h => by
    simp only [List.length_cons] at hk
    have h0 : ops[k]? = some o := by simpa using (hl 0 (by simp)).symm
    have hat := hH k (by omega)
    simp only [headAt, h0, Bool.and_eq_true] at hat
    have hq : qOp P ops (fun _ => True) k (wpQuiet P ops (fun _ => True) (fun a' => wpList P ops Q tl a' w) l) a := by unfold qOp; simp only [h0]; exact h
    obtain ⟨v, hy, hK⟩ := yieldsIf_of_qOp hat.1.1 h0 hq
    have hr := ready_k h0 hat.1.2
    rw [show (o :: l).length + tl.length = (l.length + tl.length) + 1 by simp; omega]
    refine wpAnyH_first h0 (Region.noSelect_spec hsel) (fun c a w => hQ c a _ _ w) _ _ _ _ ?_ hr hy trivial ?_
    · intro j oj hj hne hopen hno
      have hb := firstK_open hopen
      have := List.all_eq_true.1 hat.2 j (List.mem_range.2 hb.1)
      simp only [hj, Bool.or_eq_true, decide_eq_true_eq] at this
      rcases this with h1 | h1 | h1
      · omega
      · obtain ⟨e, he, hb⟩ := Array.any_eq_true'.1 h1
        simp only [Bool.and_eq_true, beq_iff_eq] at hb
        exact absurd hb.2 (hno e he hb.1)
      · exact h1
    · rw [firstK_set]
      exact head_law hsel hQ hn hH hT tl htl l (k + 1) _ w (by omega) (fun j hj => by have := hl (j + 1) (by simp; omega); simpa [Nat.add_assoc, Nat.add_comm 1 j] using this) hK

theorem wp_region_headTail {id : Nat} {a : Act} {w : World} {l : List Oper} (n : Nat) (hm : P.follows .mixedOrders = true) (hB : headTail l.toArray n = true)
    (hQ : ∀ c a d v w, Q (.panic c) (Act.put a d v) w → Q (.panic c) a w)
    (h : wpQuiet P l.toArray (fun _ => True) (fun a' => wpList P l.toArray Q (l.drop n) a' w.drew) (l.take n) a) : (Code.region id l.toArray true).wp P Q a w := by
  simp only [headTail, Bool.and_eq_true, decide_eq_true_eq, List.all_eq_true, List.mem_range, Bool.or_eq_true] at hB
  obtain ⟨⟨⟨hsel, hn⟩, hH⟩, hT⟩ := hB
  refine wp_region_held (S := fun _ => True) hm ?_
  have hn' : n ≤ l.length := by simpa using hn
  have := head_law (P := P) (Q := Q) hsel hQ hn hH (fun t h1 h2 => (hT t h2).resolve_left (by omega)) (l.drop n) (fun j => by simp) (l.take n) 0 a w.drew (by simp; omega) (fun j hj => by
    simp at hj
    simp [hj]) h
  rw [firstK_zero]
  have e : (l.take n).length + (l.drop n).length = l.toArray.size := by simp; omega
  rw [e] at this
  exact this
end

end Go.Proofs.Ytkcnenekmjgmgaa
end

section
/- Laws for values of many cells stored into a block and loaded out of it: worlds stay letters, what is known of them are their blocks. No program in sight. -/
namespace Go.Proofs.Ytkcnenekmjgmgaa
open Go.RowKit

/-- A fact kept from the walk. -/
theorem hid {p : Prop} (h : p) : Hid p := h

theorem below_drewN' {B : Nat} {a w : World} (h : Below B a w) (n : Nat) : Below B a (w.drewN n) := ⟨h.os, h.tape, h.output, h.size, h.block⟩

/-- From here on the world is a letter; of it these facts are kept. -/
theorem abstract_world {G : World → Prop} {w0 : World} (F : World → Prop) (hf : F w0) (h : ∀ w, F w → G w) : G w0 := h w0 hf

/-- Some cells of a row, written over. -/
def splice (cur : Array Value) (o : Nat) (vs : List Value) : Array Value := (cur.toList.take o ++ vs ++ cur.toList.drop (o + vs.length)).toArray

/-- Of w only block g has turned; it holds this row now. -/
structure RowSet (w : World) (g : Nat) (row : Array Value) (t : TypeId) (w1 : World) : Prop where
  os : w1.os = w.os
  tape : w1.tape = w.tape
  output : w1.output = w.output
  size : w1.heap.size = w.heap.size
  row : w1.heap[g]? = some (.cells row t (0, 0))
  other : ∀ k, k ≠ g → w1.heap[k]? = w.heap[k]?

theorem RowSet.below {w w1 : World} {g : Nat} {row : Array Value} {t : TypeId} (h : RowSet w g row t w1) {B : Nat} (hB : B ≤ g) : Below B w w1 :=
  ⟨h.os, h.tape, h.output, by rw [h.size]; exact Nat.le_refl _, fun k hk => h.other k (by omega)⟩

theorem rowSet_of {w : World} {g : Nat} {cur row : Array Value} {t : TypeId} (hg : w.heap[g]? = some (.cells cur t (0, 0))) : RowSet w g row t (w.setRow g row) :=
  ⟨rfl, rfl, rfl, by simp, setRow_heap w g cur row t (0, 0) hg, fun k hk => setRow_other w g k row hk⟩

section
variable {P : Program}

theorem run_storeVar_at (w : World) (g o : Nat) (ty : TypeId) (cells cur : Array Value) (t : TypeId) (hg : w.heap[g]? = some (.cells cur t (0, 0))) (hl : o + cells.size ≤ cur.size)
    (hi : (P.info? ty).map (·.size) = some cells.size) (h1 : cells.all (·.oneCell') = true) : (storeVar ty ⟨g, o, none⟩ (.agg cells)).run P w = .ok () (w.setRow g (splice cur o cells.toList)) := by
  have := run_storeCells_at (P := P) g o t cells.toList 0 cur w hg (by simpa using hl) (fun v hv => (Array.all_eq_true_iff_forall_mem.1 h1) v (by simpa using hv))
  cases hq : P.info? ty with
  | none => simp [hq] at hi
  | some i =>
    have hs : cells.size = i.size := by simp [hq] at hi; omega
    simp only [Nat.add_zero] at this
    simp [storeVar, sizeOf, typeInfo, hq, Value.cells, hs, this, splice]

theorem wpList_store_at {ops : Array Oper} {rest : List Oper} {op : Oper} {a : Act} {w : World} {Q : Exit → Act → World → Prop} (hgd : op.guard = none) (ty : TypeId) (x y : Operand) (ho : op.op = .store ty x y)
    (g o : Nat) (cells : Array Value) (hx : a.eval x = .pointer (some ⟨g, o, none⟩)) (hy : a.eval y = .agg cells) (cur : Array Value) (t : TypeId)
    (hg : w.heap[g]? = some (.cells cur t (0, 0))) (hl : o + cells.size ≤ cur.size) (hi : (P.info? ty).map (·.size) = some cells.size) (h1 : cells.all (·.oneCell') = true)
    (h : ∀ w1, RowSet w g (splice cur o cells.toList) t w1 → wpList P ops Q rest (a.put op.dst undef) w1) : wpList P ops Q (op :: rest) a w :=
  wpList_plain hgd fun K hK => by
    have hr := run_storeVar_at (P := P) w g o ty cells cur t hg hl hi h1
    unfold Oper.wp execOp
    simp only [ho, hx, hy, Instr.storeAt, Instr.sureAddr, Sem.run_bind, Sem.run_pure, Result.andThen_ok, hr]
    exact hK _ _ (h _ (rowSet_of hg))

/-- A function of two results, the first a value of many cells in memory, the second a slot. -/
theorem results_row_tmp {fn : Func} {p q : Tmp} {ty : TypeId} (h : fn.results = #[.cell p ty, .tmp q]) (tmps : Array Value) (w : World) (g : Nat) (t : TypeId) (cs : Array Value) (fr : Nat × Nat) (d : TypeDesc)
    (hp : tmps.getD p undef = .pointer (some ⟨g, 0, none⟩)) (hg : w.heap[g]? = some (.cells cs t fr))
    (hu : P.underlying ty = some d) (hd : (match d with | .struct _ | .array _ _ => true | _ => false) = true) (hi : (P.info? ty).map (·.size) = some cs.size) :
    (results fn tmps).run P w = .ok (.tuple #[.agg cs, tmps.getD q undef]) w := by
  have hp' : tmps[p]?.getD undef = .pointer (some ⟨g, 0, none⟩) := by simpa using hp
  simp [results, h, hp', asAddr, run_loadVar_row w g t ty cs fr d hg hu hd hi]
end

theorem heap_alloc_same (w : World) (o : Obj) : (w.alloc o).heap[w.heap.size]? = some o := heap_alloc_new w o
theorem heap_alloc_keep (w : World) (o : Obj) {i : Nat} {x : Obj} (h : w.heap[i]? = some x) : (w.alloc o).heap[i]? = some x := by
  have : i < w.heap.size := by
    rcases Nat.lt_or_ge i w.heap.size with h1 | h1
    · exact h1
    · rw [Array.getElem?_eq_none h1] at h; cases h
  rw [Below.heap_alloc w o i this, h]

end Go.Proofs.Ytkcnenekmjgmgaa
end

section
/- policy.fields: the eight fields of a kind, and their bounds. -/
namespace Go.Proofs.Ytkcnenekmjgmgaa
open Go.RowKit

theorem size57 : (Try.prog.info? 57).map (·.size) = some 24 := by kernel_rfl
theorem size56 : (Try.prog.info? 56).map (·.size) = some 3 := by kernel_rfl

/-- An array of eight fields, empty. -/
def zeros24 : Array Value := #[.pointer none, .int .i64 0, .int .i64 0, .pointer none, .int .i64 0, .int .i64 0, .pointer none, .int .i64 0, .int .i64 0, .pointer none, .int .i64 0, .int .i64 0, .pointer none, .int .i64 0, .int .i64 0, .pointer none, .int .i64 0, .int .i64 0, .pointer none, .int .i64 0, .int .i64 0, .pointer none, .int .i64 0, .int .i64 0]
/-- The fields of the policy in block b, two of them given. -/
def fields24 (b : Nat) (x y : Option Addr) (x1 x2 y1 y2 : Int) : Array Value := #[.pointer (some ⟨b, 0, none⟩), .int .i64 1, .int .i64 2, .pointer (some ⟨b, 1, none⟩), .int .i64 1, .int .i64 1048576, .pointer x, .int .i64 x1, .int .i64 x2, .pointer y, .int .i64 y1, .int .i64 y2, .pointer (some ⟨b, 6, none⟩), .int .i64 1, .int .i64 1000, .pointer (some ⟨b, 7, none⟩), .int .i64 1, .int .i64 64, .pointer (some ⟨b, 8, none⟩), .int .i64 0, .int .i64 1000, .pointer (some ⟨b, 9, none⟩), .int .i64 1, .int .i64 1000]

theorem fields24_fits (b : Nat) (x y : Option Addr) (x1 x2 y1 y2 : Int) : 0 + (fields24 b x y x1 x2 y1 y2).size ≤ zeros24.size := Nat.le_refl 24
theorem fields24_info (b : Nat) (x y : Option Addr) (x1 x2 y1 y2 : Int) : (Try.prog.info? 57).map (·.size) = some (fields24 b x y x1 x2 y1 y2).size := size57
theorem fields24_one (b : Nat) (x y : Option Addr) (x1 x2 y1 y2 : Int) : (fields24 b x y x1 x2 y1 y2).all (·.oneCell') = true := by simp [fields24, Value.oneCell']

/-- Two rows of the call's own behind what stood there. -/
def Rows2 (w wc : World) (g : Nat) (z row : Array Value) : Prop := Below w.heap.size w wc ∧ wc.heap[w.heap.size]? = some (.cells z 57 (0, 0)) ∧ wc.heap[g]? = some (.cells row 57 (0, 0))
theorem Rows2.set {w wc : World} {g : Nat} {z row : Array Value} (hg : w.heap.size < g) (h : Rows2 w wc g z row) (i : Nat) (v : Value) : Rows2 w (wc.setCell ⟨g, i, none⟩ v) g z (row.setIfInBounds i v) :=
  ⟨h.1.setCell (p := ⟨g, i, none⟩) (Nat.le_of_lt hg) v, by rw [heap_setCell_other _ _ _ _ (show w.heap.size ≠ g by omega)]; exact h.2.1, heap_setCell_same _ _ _ _ _ _ h.2.2⟩
theorem Rows2.drew {w wc : World} {g : Nat} {z row : Array Value} (h : Rows2 w wc g z row) : Rows2 w wc.drew g z row := ⟨h.1.drew, h.2.1, h.2.2⟩
theorem Rows2.row {w wc : World} {g : Nat} {z row row' : Array Value} (h : Rows2 w wc g z row) (e : row = row') : Rows2 w wc g z row' := e ▸ h
theorem row_six (b : Nat) (x y : Option Addr) (m n : Int) : ((((((fields24 b none none 0 0 0 0).setIfInBounds 6 (.pointer x)).setIfInBounds 7 (.int .i64 1)).setIfInBounds 8 (.int .i64 m)).setIfInBounds 9 (.pointer y)).setIfInBounds 10 (.int .i64 1)).setIfInBounds 11 (.int .i64 n) = fields24 b x y 1 m 1 n := by
  simp [fields24]

theorem six_cells (w wc : World) (g b : Nat) (x y : Option Addr) (m n : Int) (hg : w.heap.size < g) (h : Rows2 w wc g zeros24 (fields24 b none none 0 0 0 0)) :
    Rows2 w ((((((wc.setCell ⟨g, 6, none⟩ (.pointer x)).setCell ⟨g, 7, none⟩ (.int .i64 1)).setCell ⟨g, 8, none⟩ (.int .i64 m)).setCell ⟨g, 9, none⟩ (.pointer y)).setCell ⟨g, 10, none⟩ (.int .i64 1)).setCell ⟨g, 11, none⟩ (.int .i64 n)).drew g zeros24 (fields24 b x y 1 m 1 n) := by
  have h1 := h.set hg 6 (.pointer x)
  have h2 := h1.set hg 7 (.int .i64 1)
  have h3 := h2.set hg 8 (.int .i64 m)
  have h4 := h3.set hg 9 (.pointer y)
  have h5 := h4.set hg 10 (.int .i64 1)
  have h6 := h5.set hg 11 (.int .i64 n)
  exact (h6.row (row_six b x y m n)).drew

set_option maxHeartbeats 1000000 in
theorem fields_bucket (b : Nat) (w : World) (hc : w.cell? ⟨b, 0, none⟩ = some (.int .i64 1)) :
    Calls Try.prog 43 #[.pointer (some ⟨b, 0, none⟩)] w
      fun e w' => e = .returned (.tuple #[.agg (fields24 b (some ⟨b, 2, none⟩) (some ⟨b, 3, none⟩) 1 65536 1 65536), .bool true]) ∧ Below w.heap.size w w' := by
  have hb := World.block_lt_of_cell? w _ hc
  go_enter Try.func43, Try.ntmps43
  go_upto_region 1 with fail
  go_cut [4] (fun s4 wx => s4 = .pointer (some ⟨w.heap.size + 1, 0, none⟩) ∧ Below w.heap.size w wx ∧ wx.heap.size = w.heap.size + 2 ∧ wx.heap[w.heap.size]? = some (.cells zeros24 57 (0, 0)) ∧ wx.heap[w.heap.size + 1]? = some (.cells (fields24 b none none 0 0 0 0) 57 (0, 0)))
  case first =>
    refine wp_region_headTail 27 (by kernel_rfl) (by kernel_rfl) (fun _ _ d _ _ h => by cases d <;> exact h) ?_
    simp only [List.take_succ_cons, List.take_zero, List.drop_succ_cons, List.drop_zero]
    repeat (quiet_step (fail))
    refine wpQuiet_nil ?_
    go_wp2_with (refine wpList_store_at rfl 57 _ _ rfl (w.heap.size + 1) 0 _ rfl rfl zeros24 57 ?hg ?hl ?hi ?h1 ?_; rotate_left 4; intro w1 hw1)
    case hg => exact (Array.getElem?_eq_some_iff.1 (heap_alloc2_new w (.cells zeros24 57) (.cells zeros24 57))).2
    case hl => decide
    case hi => simpa using size57
    case h1 => simp [Value.oneCell']
    go_meet
    have hs : w1.heap.size = w.heap.size + 2 := by rw [hw1.size]; simp
    refine ⟨rfl, ?_, hs, ?_, hw1.row⟩
    · exact Below.trans ((((Below.refl _ _).alloc (Nat.le_refl _) _).alloc (by simp) _).drew) (hw1.below (by omega))
    · rw [hw1.other _ (by omega)]; exact heap_alloc2_old w _ _
  case rest =>
    obtain ⟨rfl, hb1, hz, h0, h1⟩ := hcut
    have hcx := (hb1.cell (p := ⟨b, 0, none⟩) hb).trans hc
    go_upto_region 5 with fail
    have c6 : wc.cell? ⟨w.heap.size + 1, 6, none⟩ = some (.pointer none) := by rw [cell_of_row _ _ _ _ _ _ h1]; rfl
    have c7 : wc.cell? ⟨w.heap.size + 1, 7, none⟩ = some (.int .i64 0) := by rw [cell_of_row _ _ _ _ _ _ h1]; rfl
    have c8 : wc.cell? ⟨w.heap.size + 1, 8, none⟩ = some (.int .i64 0) := by rw [cell_of_row _ _ _ _ _ _ h1]; rfl
    have c9 : wc.cell? ⟨w.heap.size + 1, 9, none⟩ = some (.pointer none) := by rw [cell_of_row _ _ _ _ _ _ h1]; rfl
    have c10 : wc.cell? ⟨w.heap.size + 1, 10, none⟩ = some (.int .i64 0) := by rw [cell_of_row _ _ _ _ _ _ h1]; rfl
    have c11 : wc.cell? ⟨w.heap.size + 1, 11, none⟩ = some (.int .i64 0) := by rw [cell_of_row _ _ _ _ _ _ h1]; rfl
    have f6 := frozen_of_row wc (w.heap.size + 1) 6 _ 57 h1
    have f7 := frozen_of_row wc (w.heap.size + 1) 7 _ 57 h1
    have f8 := frozen_of_row wc (w.heap.size + 1) 8 _ 57 h1
    have f9 := frozen_of_row wc (w.heap.size + 1) 9 _ 57 h1
    have f10 := frozen_of_row wc (w.heap.size + 1) 10 _ 57 h1
    have f11 := frozen_of_row wc (w.heap.size + 1) 11 _ 57 h1
    have H0 := hid h0
    have H1 := hid h1
    clear h0 h1 hz
    go_region
    refine abstract_world (fun wx => Below w.heap.size w wx ∧ wx.heap[w.heap.size]? = some (.cells zeros24 57 (0, 0)) ∧ wx.heap[w.heap.size + 1]? = some (.cells (fields24 b (some ⟨b, 2, none⟩) (some ⟨b, 3, none⟩) 1 65536 1 65536) 57 (0, 0))) ?_ ?_
    · exact six_cells w wc (w.heap.size + 1) b _ _ _ _ (by omega) ⟨hb1, H0.out, H1.out⟩
    · clear c6 c7 c8 c9 c10 c11 f6 f7 f8 f9 f10 f11 H0 H1 hcx hb1
      intro wx ⟨hb2, h2, h3⟩
      have H2 := hid h2
      have H3 := hid h3
      have HB := hid hb2
      clear h2 h3 hb2
      go_wp2_with (first | (refine wpList_load_row rfl 57 _ rfl (w.heap.size + 1) rfl 57 _ (0, 0) _ H3.out Try.underlying57 rfl size57 ?_) | (refine wpList_store_at rfl 57 _ _ rfl w.heap.size 0 _ rfl rfl zeros24 57 H2.out (fields24_fits ..) (fields24_info ..) (fields24_one ..) ?_; intro w1 hw1))
      exact bodyPost_ret (results_row_tmp rfl _ _ w.heap.size 57 _ _ _ rfl hw1.row Try.underlying57 rfl size57) rfl ⟨rfl, HB.out.trans (hw1.below (Nat.le_refl _))⟩

set_option maxHeartbeats 1000000 in
theorem fields_window (b : Nat) (w : World) (hc : w.cell? ⟨b, 0, none⟩ = some (.int .i64 2)) :
    Calls Try.prog 43 #[.pointer (some ⟨b, 0, none⟩)] w
      fun e w' => e = .returned (.tuple #[.agg (fields24 b (some ⟨b, 4, none⟩) (some ⟨b, 5, none⟩) 1 1048576 1 32), .bool true]) ∧ Below w.heap.size w w' := by
  have hb := World.block_lt_of_cell? w _ hc
  go_enter Try.func43, Try.ntmps43
  go_upto_region 1 with fail
  go_cut [4] (fun s4 wx => s4 = .pointer (some ⟨w.heap.size + 1, 0, none⟩) ∧ Below w.heap.size w wx ∧ wx.heap.size = w.heap.size + 2 ∧ wx.heap[w.heap.size]? = some (.cells zeros24 57 (0, 0)) ∧ wx.heap[w.heap.size + 1]? = some (.cells (fields24 b none none 0 0 0 0) 57 (0, 0)))
  case first =>
    refine wp_region_headTail 27 (by kernel_rfl) (by kernel_rfl) (fun _ _ d _ _ h => by cases d <;> exact h) ?_
    simp only [List.take_succ_cons, List.take_zero, List.drop_succ_cons, List.drop_zero]
    repeat (quiet_step (fail))
    refine wpQuiet_nil ?_
    go_wp2_with (refine wpList_store_at rfl 57 _ _ rfl (w.heap.size + 1) 0 _ rfl rfl zeros24 57 ?hg ?hl ?hi ?h1 ?_; rotate_left 4; intro w1 hw1)
    case hg => exact (Array.getElem?_eq_some_iff.1 (heap_alloc2_new w (.cells zeros24 57) (.cells zeros24 57))).2
    case hl => decide
    case hi => simpa using size57
    case h1 => simp [Value.oneCell']
    go_meet
    have hs : w1.heap.size = w.heap.size + 2 := by rw [hw1.size]; simp
    refine ⟨rfl, ?_, hs, ?_, hw1.row⟩
    · exact Below.trans ((((Below.refl _ _).alloc (Nat.le_refl _) _).alloc (by simp) _).drew) (hw1.below (by omega))
    · rw [hw1.other _ (by omega)]; exact heap_alloc2_old w _ _
  case rest =>
    obtain ⟨rfl, hb1, hz, h0, h1⟩ := hcut
    have hcx := (hb1.cell (p := ⟨b, 0, none⟩) hb).trans hc
    go_upto_region 7 with fail
    have c6 : wc.cell? ⟨w.heap.size + 1, 6, none⟩ = some (.pointer none) := by rw [cell_of_row _ _ _ _ _ _ h1]; rfl
    have c7 : wc.cell? ⟨w.heap.size + 1, 7, none⟩ = some (.int .i64 0) := by rw [cell_of_row _ _ _ _ _ _ h1]; rfl
    have c8 : wc.cell? ⟨w.heap.size + 1, 8, none⟩ = some (.int .i64 0) := by rw [cell_of_row _ _ _ _ _ _ h1]; rfl
    have c9 : wc.cell? ⟨w.heap.size + 1, 9, none⟩ = some (.pointer none) := by rw [cell_of_row _ _ _ _ _ _ h1]; rfl
    have c10 : wc.cell? ⟨w.heap.size + 1, 10, none⟩ = some (.int .i64 0) := by rw [cell_of_row _ _ _ _ _ _ h1]; rfl
    have c11 : wc.cell? ⟨w.heap.size + 1, 11, none⟩ = some (.int .i64 0) := by rw [cell_of_row _ _ _ _ _ _ h1]; rfl
    have f6 := frozen_of_row wc (w.heap.size + 1) 6 _ 57 h1
    have f7 := frozen_of_row wc (w.heap.size + 1) 7 _ 57 h1
    have f8 := frozen_of_row wc (w.heap.size + 1) 8 _ 57 h1
    have f9 := frozen_of_row wc (w.heap.size + 1) 9 _ 57 h1
    have f10 := frozen_of_row wc (w.heap.size + 1) 10 _ 57 h1
    have f11 := frozen_of_row wc (w.heap.size + 1) 11 _ 57 h1
    have H0 := hid h0
    have H1 := hid h1
    clear h0 h1 hz
    go_region
    refine abstract_world (fun wx => Below w.heap.size w wx ∧ wx.heap[w.heap.size]? = some (.cells zeros24 57 (0, 0)) ∧ wx.heap[w.heap.size + 1]? = some (.cells (fields24 b (some ⟨b, 4, none⟩) (some ⟨b, 5, none⟩) 1 1048576 1 32) 57 (0, 0))) ?_ ?_
    · exact six_cells w wc (w.heap.size + 1) b _ _ _ _ (by omega) ⟨hb1, H0.out, H1.out⟩
    · clear c6 c7 c8 c9 c10 c11 f6 f7 f8 f9 f10 f11 H0 H1 hcx hb1
      intro wx ⟨hb2, h2, h3⟩
      have H2 := hid h2
      have H3 := hid h3
      have HB := hid hb2
      clear h2 h3 hb2
      go_wp2_with (first | (refine wpList_load_row rfl 57 _ rfl (w.heap.size + 1) rfl 57 _ (0, 0) _ H3.out Try.underlying57 rfl size57 ?_) | (refine wpList_store_at rfl 57 _ _ rfl w.heap.size 0 _ rfl rfl zeros24 57 H2.out (fields24_fits ..) (fields24_info ..) (fields24_one ..) ?_; intro w1 hw1))
      exact bodyPost_ret (results_row_tmp rfl _ _ w.heap.size 57 _ _ _ rfl hw1.row Try.underlying57 rfl size57) rfl ⟨rfl, HB.out.trans (hw1.below (Nat.le_refl _))⟩

end Go.Proofs.Ytkcnenekmjgmgaa
end

section
/- policy.Right: which policies may be, by the eight fields of a kind. -/
namespace Go.Proofs.Ytkcnenekmjgmgaa
open Go.RowKit

set_option maxHeartbeats 1000000 in
theorem fields_other (b : Nat) (k : Int) (w : World) (hc : w.cell? ⟨b, 0, none⟩ = some (.int .i64 k)) (hk1 : (k == 1) = false) (hk2 : (k == 2) = false) :
    Calls Try.prog 43 #[.pointer (some ⟨b, 0, none⟩)] w
      fun e w' => e = .returned (.tuple #[.agg (fields24 b none none 0 0 0 0), .bool false]) ∧ Below w.heap.size w w' := by
  have hb := World.block_lt_of_cell? w _ hc
  go_enter Try.func43, Try.ntmps43
  go_upto_region 1 with fail
  go_cut [4] (fun s4 wx => s4 = .pointer (some ⟨w.heap.size + 1, 0, none⟩) ∧ Below w.heap.size w wx ∧ wx.heap.size = w.heap.size + 2 ∧ wx.heap[w.heap.size]? = some (.cells zeros24 57 (0, 0)) ∧ wx.heap[w.heap.size + 1]? = some (.cells (fields24 b none none 0 0 0 0) 57 (0, 0)))
  case first =>
    refine wp_region_headTail 27 (by kernel_rfl) (by kernel_rfl) (fun _ _ d _ _ h => by cases d <;> exact h) ?_
    simp only [List.take_succ_cons, List.take_zero, List.drop_succ_cons, List.drop_zero]
    repeat (quiet_step (fail))
    refine wpQuiet_nil ?_
    go_wp2_with (refine wpList_store_at rfl 57 _ _ rfl (w.heap.size + 1) 0 _ rfl rfl zeros24 57 ?hg ?hl ?hi ?h1 ?_; rotate_left 4; intro w1 hw1)
    case hg => exact (Array.getElem?_eq_some_iff.1 (heap_alloc2_new w (.cells zeros24 57) (.cells zeros24 57))).2
    case hl => decide
    case hi => simpa using size57
    case h1 => simp [Value.oneCell']
    go_meet
    have hs : w1.heap.size = w.heap.size + 2 := by rw [hw1.size]; simp
    refine ⟨rfl, ?_, hs, ?_, hw1.row⟩
    · exact Below.trans ((((Below.refl _ _).alloc (Nat.le_refl _) _).alloc (by simp) _).drew) (hw1.below (by omega))
    · rw [hw1.other _ (by omega)]; exact heap_alloc2_old w _ _
  case rest =>
    obtain ⟨rfl, hb1, hz, h0, h1⟩ := hcut
    have hcx := (hb1.cell (p := ⟨b, 0, none⟩) hb).trans hc
    have H2 := hid h0
    have H3 := hid h1
    have HB := hid hb1
    clear h0 h1 hb1 hz
    go_wp2_with (first | (refine wpList_load_row rfl 57 _ rfl (w.heap.size + 1) rfl 57 _ (0, 0) _ H3.out Try.underlying57 rfl size57 ?_) | (refine wpList_store_at rfl 57 _ _ rfl w.heap.size 0 _ rfl rfl zeros24 57 H2.out (fields24_fits ..) (fields24_info ..) (fields24_one ..) ?_; intro w1 hw1))
    exact bodyPost_ret (results_row_tmp rfl _ _ w.heap.size 57 _ _ _ rfl hw1.row Try.underlying57 rfl size57) rfl ⟨rfl, HB.out.trans (hw1.below (Nat.le_refl _))⟩

/-- Right, of another kind. -/
theorem right_other (p : Pol) (hk1 : (p.k == 1) = false) (hk2 : (p.k == 2) = false) (w : World) :
    Calls Try.prog 39 #[.agg #[.int .i64 p.k, .int .i64 p.cap, .int .i64 p.num, .int .i64 p.den, .int .i64 p.width, .int .i64 p.count, .int .i64 p.keys, .int .i64 p.slots, .int .i64 p.every, .int .i64 p.seg]] w
      fun e w' => e = .returned (.int .i64 40) ∧ Below w.heap.size w w' := by
  obtain ⟨k, cap, num, den, width, count, keys, slots, every, seg⟩ := p
  dsimp only at *
  go_enter Try.func39, Try.ntmps39
  go_wp2_with fail
  refine (fields_other w.heap.size k _ (by simp) hk1 hk2).mono ?_
  rintro e w1 ⟨rfl, hb⟩
  have hz : w.heap.size + 1 ≤ w1.heap.size := by have := hb.size; simp at this; omega
  have hcx : w1.cell? ⟨w.heap.size, 0, none⟩ = some (.int .i64 k) := by rw [hb.cell (p := ⟨w.heap.size, 0, none⟩) (by simp)]; simp
  go_upto_region 2 with (refine wpList_store_at rfl 57 _ _ rfl w1.heap.size 0 _ rfl rfl zeros24 57 ?_ (fields24_fits ..) (fields24_info ..) (fields24_one ..) ?_; go_must (exact heap_alloc_new w1 (.cells zeros24 57)); intro w2 hw2)
  go_wp2_with fail
  go_ret
  exact ⟨rfl, ((((Below.refl w.heap.size w).alloc (Nat.le_refl _) _).trans (hb.mono (by simp))).alloc (by omega) _).trans (hw2.below (by omega))⟩

/-- The eight fields of kind Bucket: offset, least, greatest; and the policy's number. -/
def offB : Nat → Nat
  | 0 => 0
  | 1 => 1
  | 2 => 2
  | 3 => 3
  | 4 => 6
  | 5 => 7
  | 6 => 8
  | _ => 9
def loB : Nat → Int
  | 0 => 1
  | 1 => 1
  | 2 => 1
  | 3 => 1
  | 4 => 1
  | 5 => 1
  | 6 => 0
  | _ => 1
def hiB : Nat → Int
  | 0 => 2
  | 1 => 1048576
  | 2 => 65536
  | 3 => 65536
  | 4 => 1000
  | 5 => 64
  | 6 => 1000
  | _ => 1000
def valB (p : Pol) : Nat → Int
  | 0 => p.k
  | 1 => p.cap
  | 2 => p.num
  | 3 => p.den
  | 4 => p.keys
  | 5 => p.slots
  | 6 => p.every
  | _ => p.seg
/-- The eight fields of kind Window: offset, least, greatest; and the policy's number. -/
def offW : Nat → Nat
  | 0 => 0
  | 1 => 1
  | 2 => 4
  | 3 => 5
  | 4 => 6
  | 5 => 7
  | 6 => 8
  | _ => 9
def loW : Nat → Int
  | 0 => 1
  | 1 => 1
  | 2 => 1
  | 3 => 1
  | 4 => 1
  | 5 => 1
  | 6 => 0
  | _ => 1
def hiW : Nat → Int
  | 0 => 2
  | 1 => 1048576
  | 2 => 1048576
  | 3 => 32
  | 4 => 1000
  | 5 => 64
  | 6 => 1000
  | _ => 1000
def valW (p : Pol) : Nat → Int
  | 0 => p.k
  | 1 => p.cap
  | 2 => p.width
  | 3 => p.count
  | 4 => p.keys
  | 5 => p.slots
  | 6 => p.every
  | _ => p.seg

theorem idxB (b : Nat) (j : Nat) (hj : j < 8) (w : World) : (Instr.index 57 (.agg (fields24 b (some ⟨b, 2, none⟩) (some ⟨b, 3, none⟩) 1 65536 1 65536)) (.int .i64 (j : Int))).run Try.prog w = .ok (.agg #[.pointer (some ⟨b, offB j, none⟩), .int .i64 (loB j), .int .i64 (hiB j)]) w := by
  match j, hj with
  | 0, _ => show Sem.run _ _ _ = _; kernel_rfl
  | 1, _ => show Sem.run _ _ _ = _; kernel_rfl
  | 2, _ => show Sem.run _ _ _ = _; kernel_rfl
  | 3, _ => show Sem.run _ _ _ = _; kernel_rfl
  | 4, _ => show Sem.run _ _ _ = _; kernel_rfl
  | 5, _ => show Sem.run _ _ _ = _; kernel_rfl
  | 6, _ => show Sem.run _ _ _ = _; kernel_rfl
  | 7, _ => show Sem.run _ _ _ = _; kernel_rfl

theorem rightB_yes (p : Pol) (hk : p.k = 1) (h1 : p.width = 0) (h2 : p.count = 0) (h : ∀ j, j < 8 → loB j ≤ valB p j ∧ valB p j ≤ hiB j) : rightN p = 0 := by
  have g0 := h 0 (by omega); have g1 := h 1 (by omega); have g2 := h 2 (by omega); have g3 := h 3 (by omega); have g4 := h 4 (by omega); have g5 := h 5 (by omega); have g6 := h 6 (by omega); have g7 := h 7 (by omega)
  simp only [loB, hiB, valB] at g0 g1 g2 g3 g4 g5 g6 g7
  refine rightN_yes ?_
  simp [okB, allB, bucketB, windowB, within, hk, h1, h2, g1, g2, g3, g4, g5, g6, g7]
theorem rightB_no (p : Pol) (hk : p.k = 1) (j : Nat) (hj : j < 8) (h : valB p j < loB j ∨ hiB j < valB p j) : rightN p = 40 := by
  refine rightN_no ?_
  match j, hj with
  | 0, _ => simp only [loB, hiB, valB] at h; simp [okB, allB, bucketB, windowB, within, hk]; omega
  | 1, _ => simp only [loB, hiB, valB] at h; simp [okB, allB, bucketB, windowB, within, hk]; omega
  | 2, _ => simp only [loB, hiB, valB] at h; simp [okB, allB, bucketB, windowB, within, hk]; omega
  | 3, _ => simp only [loB, hiB, valB] at h; simp [okB, allB, bucketB, windowB, within, hk]; omega
  | 4, _ => simp only [loB, hiB, valB] at h; simp [okB, allB, bucketB, windowB, within, hk]; omega
  | 5, _ => simp only [loB, hiB, valB] at h; simp [okB, allB, bucketB, windowB, within, hk]; omega
  | 6, _ => simp only [loB, hiB, valB] at h; simp [okB, allB, bucketB, windowB, within, hk]; omega
  | 7, _ => simp only [loB, hiB, valB] at h; simp [okB, allB, bucketB, windowB, within, hk]; omega
theorem rightB_out (p : Pol) (hk : p.k = 1) (h : p.width ≠ 0 ∨ p.count ≠ 0) : rightN p = 40 := by
  refine rightN_no ?_
  simp [okB, allB, bucketB, windowB, within, hk]
  intros
  omega

theorem idxW (b : Nat) (j : Nat) (hj : j < 8) (w : World) : (Instr.index 57 (.agg (fields24 b (some ⟨b, 4, none⟩) (some ⟨b, 5, none⟩) 1 1048576 1 32)) (.int .i64 (j : Int))).run Try.prog w = .ok (.agg #[.pointer (some ⟨b, offW j, none⟩), .int .i64 (loW j), .int .i64 (hiW j)]) w := by
  match j, hj with
  | 0, _ => show Sem.run _ _ _ = _; kernel_rfl
  | 1, _ => show Sem.run _ _ _ = _; kernel_rfl
  | 2, _ => show Sem.run _ _ _ = _; kernel_rfl
  | 3, _ => show Sem.run _ _ _ = _; kernel_rfl
  | 4, _ => show Sem.run _ _ _ = _; kernel_rfl
  | 5, _ => show Sem.run _ _ _ = _; kernel_rfl
  | 6, _ => show Sem.run _ _ _ = _; kernel_rfl
  | 7, _ => show Sem.run _ _ _ = _; kernel_rfl

theorem rightW_yes (p : Pol) (hk : p.k = 2) (h1 : p.num = 0) (h2 : p.den = 0) (h : ∀ j, j < 8 → loW j ≤ valW p j ∧ valW p j ≤ hiW j) : rightN p = 0 := by
  have g0 := h 0 (by omega); have g1 := h 1 (by omega); have g2 := h 2 (by omega); have g3 := h 3 (by omega); have g4 := h 4 (by omega); have g5 := h 5 (by omega); have g6 := h 6 (by omega); have g7 := h 7 (by omega)
  simp only [loW, hiW, valW] at g0 g1 g2 g3 g4 g5 g6 g7
  refine rightN_yes ?_
  simp [okB, allB, bucketB, windowB, within, hk, h1, h2, g1, g2, g3, g4, g5, g6, g7]
theorem rightW_no (p : Pol) (hk : p.k = 2) (j : Nat) (hj : j < 8) (h : valW p j < loW j ∨ hiW j < valW p j) : rightN p = 40 := by
  refine rightN_no ?_
  match j, hj with
  | 0, _ => simp only [loW, hiW, valW] at h; simp [okB, allB, bucketB, windowB, within, hk]; omega
  | 1, _ => simp only [loW, hiW, valW] at h; simp [okB, allB, bucketB, windowB, within, hk]; omega
  | 2, _ => simp only [loW, hiW, valW] at h; simp [okB, allB, bucketB, windowB, within, hk]; omega
  | 3, _ => simp only [loW, hiW, valW] at h; simp [okB, allB, bucketB, windowB, within, hk]; omega
  | 4, _ => simp only [loW, hiW, valW] at h; simp [okB, allB, bucketB, windowB, within, hk]; omega
  | 5, _ => simp only [loW, hiW, valW] at h; simp [okB, allB, bucketB, windowB, within, hk]; omega
  | 6, _ => simp only [loW, hiW, valW] at h; simp [okB, allB, bucketB, windowB, within, hk]; omega
  | 7, _ => simp only [loW, hiW, valW] at h; simp [okB, allB, bucketB, windowB, within, hk]; omega
theorem rightW_out (p : Pol) (hk : p.k = 2) (h : p.num ≠ 0 ∨ p.den ≠ 0) : rightN p = 40 := by
  refine rightN_no ?_
  simp [okB, allB, bucketB, windowB, within, hk]
  intros
  omega

end Go.Proofs.Ytkcnenekmjgmgaa
end

section
/- policy.Right, of either kind. -/
namespace Go.Proofs.Ytkcnenekmjgmgaa
open Go.RowKit

theorem splice_all (b : Nat) (x y : Option Addr) (x1 x2 y1 y2 : Int) : splice zeros24 0 (fields24 b x y x1 x2 y1 y2).toList = fields24 b x y x1 x2 y1 y2 := by simp [splice, fields24, zeros24]
/-- The first n fields are within their bounds. -/
def GoodToB (p : Pol) (n : Nat) : Prop := ∀ j, j < n → loB j ≤ valB p j ∧ valB p j ≤ hiB j
def GoodToW (p : Pol) (n : Nat) : Prop := ∀ j, j < n → loW j ≤ valW p j ∧ valW p j ≤ hiW j

set_option maxHeartbeats 2000000 in
theorem right_bucket (cap num den width count keys slots every seg : Int) (w : World) :
    Calls Try.prog 39 #[.agg #[.int .i64 1, .int .i64 cap, .int .i64 num, .int .i64 den, .int .i64 width, .int .i64 count, .int .i64 keys, .int .i64 slots, .int .i64 every, .int .i64 seg]] w
      fun e w' => e = .returned (.int .i64 (rightN ⟨1, cap, num, den, width, count, keys, slots, every, seg⟩)) ∧ Below w.heap.size w w' := by
  go_enter Try.func39, Try.ntmps39
  go_wp2_with fail
  refine (fields_bucket w.heap.size _ (by simp)).mono ?_
  rintro e w1 ⟨rfl, hb⟩
  have hz : w.heap.size + 1 ≤ w1.heap.size := by have := hb.size; simp at this; omega
  go_upto_region 2 with (refine wpList_store_at rfl 57 _ _ rfl w1.heap.size 0 _ rfl rfl zeros24 57 ?_ (fields24_fits ..) (fields24_info ..) (fields24_one ..) ?_; go_must (exact heap_alloc_new w1 (.cells zeros24 57)); intro w2 hw2)
  have hb2 : Below (w.heap.size + 1) (w.alloc (.cells #[.int .i64 1, .int .i64 cap, .int .i64 num, .int .i64 den, .int .i64 width, .int .i64 count, .int .i64 keys, .int .i64 slots, .int .i64 every, .int .i64 seg] 23)) w2 :=
    ((hb.mono (by simp)).alloc (by omega) _).trans (hw2.below (by omega))
  have c0 : w2.cell? ⟨w.heap.size, 0, none⟩ = some (.int .i64 1) := by rw [hb2.cell (p := ⟨w.heap.size, 0, none⟩) (by simp)]; simp
  have c1 : w2.cell? ⟨w.heap.size, 1, none⟩ = some (.int .i64 cap) := by rw [hb2.cell (p := ⟨w.heap.size, 1, none⟩) (by simp)]; simp
  have c2 : w2.cell? ⟨w.heap.size, 2, none⟩ = some (.int .i64 num) := by rw [hb2.cell (p := ⟨w.heap.size, 2, none⟩) (by simp)]; simp
  have c3 : w2.cell? ⟨w.heap.size, 3, none⟩ = some (.int .i64 den) := by rw [hb2.cell (p := ⟨w.heap.size, 3, none⟩) (by simp)]; simp
  have c4 : w2.cell? ⟨w.heap.size, 4, none⟩ = some (.int .i64 width) := by rw [hb2.cell (p := ⟨w.heap.size, 4, none⟩) (by simp)]; simp
  have c5 : w2.cell? ⟨w.heap.size, 5, none⟩ = some (.int .i64 count) := by rw [hb2.cell (p := ⟨w.heap.size, 5, none⟩) (by simp)]; simp
  have c6 : w2.cell? ⟨w.heap.size, 6, none⟩ = some (.int .i64 keys) := by rw [hb2.cell (p := ⟨w.heap.size, 6, none⟩) (by simp)]; simp
  have c7 : w2.cell? ⟨w.heap.size, 7, none⟩ = some (.int .i64 slots) := by rw [hb2.cell (p := ⟨w.heap.size, 7, none⟩) (by simp)]; simp
  have c8 : w2.cell? ⟨w.heap.size, 8, none⟩ = some (.int .i64 every) := by rw [hb2.cell (p := ⟨w.heap.size, 8, none⟩) (by simp)]; simp
  have c9 : w2.cell? ⟨w.heap.size, 9, none⟩ = some (.int .i64 seg) := by rw [hb2.cell (p := ⟨w.heap.size, 9, none⟩) (by simp)]; simp
  have HR := hid (hw2.row.trans (congrArg (fun r => some (Obj.cells r 57 (0, 0))) (splice_all ..)))
  have HB : Below w.heap.size w w2 := (((Below.refl w.heap.size w).alloc (Nat.le_refl _) _).trans (hb2.mono (by omega)))
  have hz2 : w.heap.size + 1 ≤ w2.heap.size := by have := hb2.size; simp at this; omega
  clear hb hw2 hb2
  by_cases hz1 : width = 0
  case neg =>
    have e1 : (width != 0) = true := by simp [hz1]
    have fin := rightB_out ⟨1, cap, num, den, width, count, keys, slots, every, seg⟩ rfl (.inl hz1)
    have FIN := hid fin
    clear fin
    go_wp2_with fail
    go_ret
    exact ⟨by rw [FIN.out]; rfl, HB⟩
  case pos =>
  by_cases hz2' : count = 0
  case neg =>
    have e1 : (width != 0) = false := by simp [hz1]
    have e2 : (count != 0) = true := by simp [hz2']
    have fin := rightB_out ⟨1, cap, num, den, width, count, keys, slots, every, seg⟩ rfl (.inr hz2')
    have FIN := hid fin
    clear fin hz1
    go_wp2_with fail
    go_ret
    exact ⟨by rw [FIN.out]; rfl, HB⟩
  case pos =>
    have e1 : (width != 0) = false := by simp [hz1]
    have e2 : (count != 0) = false := by simp [hz2']
    have yes := rightB_yes ⟨1, cap, num, den, width, count, keys, slots, every, seg⟩ rfl hz1 hz2'
    have no := rightB_no ⟨1, cap, num, den, width, count, keys, slots, every, seg⟩ rfl
    have YES := hid yes
    have NO := hid no
    have CS : Hid (∀ j, j < 8 → w2.cell? ⟨w.heap.size, offB j, none⟩ = some (.int .i64 (valB ⟨1, cap, num, den, width, count, keys, slots, every, seg⟩ j))) := by
      intro j hj
      match j, hj with
      | 0, _ => exact c0
      | 1, _ => exact c1
      | 2, _ => exact c2
      | 3, _ => exact c3
      | 4, _ => exact c6
      | 5, _ => exact c7
      | 6, _ => exact c8
      | 7, _ => exact c9
    clear yes no hz1 hz2'
    go_upto_region 4 with fail
    go_wp2_with (refine wpList_load_row rfl 57 _ rfl w1.heap.size rfl 57 _ (0, 0) _ HR.out Try.underlying57 rfl size57 ?_)
    clear c0 c1 c2 c3 c4 c5 c6 c7 c8 c9 e1 e2 HR
    go_loopw [44] (fun i wr => ∃ j : Nat, j ≤ 8 ∧ i = .int .i64 j ∧ Below (w.heap.size + 1) w2 wr ∧ GoodToB ⟨1, cap, num, den, width, count, keys, slots, every, seg⟩ j) (fun i _ => 8 - (intOf i).toNat)
    case atStart => exact ⟨0, by omega, rfl, Below.refl _ _, fun _ h => absurd h (Nat.not_lt_zero _)⟩
    case round =>
      obtain ⟨j, hj, rfl, hbr, hgood⟩ := hrel
      have hzr := hbr.size
      by_cases hlt : j < 8
      · have cj := (hbr.cell (p := ⟨w.heap.size, offB j, none⟩) (by simp)).trans (CS.out j hlt)
        have cj' : ∀ o : Obj, (wr.alloc o).cell? ⟨w.heap.size, offB j, none⟩ = some (.int .i64 (valB ⟨1, cap, num, den, width, count, keys, slots, every, seg⟩ j)) := fun o => by rw [World.cell?_alloc_lt _ _ _ (show w.heap.size < wr.heap.size by omega)]; exact cj
        have ij := idxB w.heap.size j hlt
        by_cases hlo : valB ⟨1, cap, num, den, width, count, keys, slots, every, seg⟩ j < loB j
        · have FIN := hid (NO.out j hlt (.inl hlo))
          have HG := hid hgood
          clear hgood
          go_wp2_with fail
          go_quiet (fail)
          go_wp2
          go_ret
          exact ⟨by rw [FIN.out]; rfl, below_drewN' ((HB.trans (hbr.mono (by omega))).alloc (by omega) _) _⟩
        · by_cases hhi : hiB j < valB ⟨1, cap, num, den, width, count, keys, slots, every, seg⟩ j
          · have FIN := hid (NO.out j hlt (.inr hhi))
            have HG := hid hgood
            clear hgood
            go_wp2_with fail
            go_quiet (fail)
            go_wp2
            go_ret
            exact ⟨by rw [FIN.out]; rfl, below_drewN' ((HB.trans (hbr.mono (by omega))).alloc (by omega) _) _⟩
          · have HG := hid (show GoodToB ⟨1, cap, num, den, width, count, keys, slots, every, seg⟩ (j + 1) from fun t ht => by
              by_cases e : t = j
              · subst e; exact ⟨by omega, by omega⟩
              · exact hgood t (by omega))
            clear hgood
            go_wp2_with fail
            go_quiet (fail)
            go_wp2
            go_roundw
            case rel => exact ⟨j + 1, by omega, by go_num, below_drewN' (hbr.alloc (by omega) _) _, HG.out⟩
            case measure => simp [intOf]; omega
      · obtain rfl : j = 8 := by omega
        have FIN := hid (YES.out hgood)
        clear hgood
        go_wp2_with fail
        go_ret
        exact ⟨by rw [FIN.out]; rfl, HB.trans (hbr.mono (by omega))⟩

set_option maxHeartbeats 2000000 in
theorem right_window (cap num den width count keys slots every seg : Int) (w : World) :
    Calls Try.prog 39 #[.agg #[.int .i64 2, .int .i64 cap, .int .i64 num, .int .i64 den, .int .i64 width, .int .i64 count, .int .i64 keys, .int .i64 slots, .int .i64 every, .int .i64 seg]] w
      fun e w' => e = .returned (.int .i64 (rightN ⟨2, cap, num, den, width, count, keys, slots, every, seg⟩)) ∧ Below w.heap.size w w' := by
  go_enter Try.func39, Try.ntmps39
  go_wp2_with fail
  refine (fields_window w.heap.size _ (by simp)).mono ?_
  rintro e w1 ⟨rfl, hb⟩
  have hz : w.heap.size + 1 ≤ w1.heap.size := by have := hb.size; simp at this; omega
  go_upto_region 2 with (refine wpList_store_at rfl 57 _ _ rfl w1.heap.size 0 _ rfl rfl zeros24 57 ?_ (fields24_fits ..) (fields24_info ..) (fields24_one ..) ?_; go_must (exact heap_alloc_new w1 (.cells zeros24 57)); intro w2 hw2)
  have hb2 : Below (w.heap.size + 1) (w.alloc (.cells #[.int .i64 2, .int .i64 cap, .int .i64 num, .int .i64 den, .int .i64 width, .int .i64 count, .int .i64 keys, .int .i64 slots, .int .i64 every, .int .i64 seg] 23)) w2 :=
    ((hb.mono (by simp)).alloc (by omega) _).trans (hw2.below (by omega))
  have c0 : w2.cell? ⟨w.heap.size, 0, none⟩ = some (.int .i64 2) := by rw [hb2.cell (p := ⟨w.heap.size, 0, none⟩) (by simp)]; simp
  have c1 : w2.cell? ⟨w.heap.size, 1, none⟩ = some (.int .i64 cap) := by rw [hb2.cell (p := ⟨w.heap.size, 1, none⟩) (by simp)]; simp
  have c2 : w2.cell? ⟨w.heap.size, 2, none⟩ = some (.int .i64 num) := by rw [hb2.cell (p := ⟨w.heap.size, 2, none⟩) (by simp)]; simp
  have c3 : w2.cell? ⟨w.heap.size, 3, none⟩ = some (.int .i64 den) := by rw [hb2.cell (p := ⟨w.heap.size, 3, none⟩) (by simp)]; simp
  have c4 : w2.cell? ⟨w.heap.size, 4, none⟩ = some (.int .i64 width) := by rw [hb2.cell (p := ⟨w.heap.size, 4, none⟩) (by simp)]; simp
  have c5 : w2.cell? ⟨w.heap.size, 5, none⟩ = some (.int .i64 count) := by rw [hb2.cell (p := ⟨w.heap.size, 5, none⟩) (by simp)]; simp
  have c6 : w2.cell? ⟨w.heap.size, 6, none⟩ = some (.int .i64 keys) := by rw [hb2.cell (p := ⟨w.heap.size, 6, none⟩) (by simp)]; simp
  have c7 : w2.cell? ⟨w.heap.size, 7, none⟩ = some (.int .i64 slots) := by rw [hb2.cell (p := ⟨w.heap.size, 7, none⟩) (by simp)]; simp
  have c8 : w2.cell? ⟨w.heap.size, 8, none⟩ = some (.int .i64 every) := by rw [hb2.cell (p := ⟨w.heap.size, 8, none⟩) (by simp)]; simp
  have c9 : w2.cell? ⟨w.heap.size, 9, none⟩ = some (.int .i64 seg) := by rw [hb2.cell (p := ⟨w.heap.size, 9, none⟩) (by simp)]; simp
  have HR := hid (hw2.row.trans (congrArg (fun r => some (Obj.cells r 57 (0, 0))) (splice_all ..)))
  have HB : Below w.heap.size w w2 := (((Below.refl w.heap.size w).alloc (Nat.le_refl _) _).trans (hb2.mono (by omega)))
  have hz2 : w.heap.size + 1 ≤ w2.heap.size := by have := hb2.size; simp at this; omega
  clear hb hw2 hb2
  by_cases hz1 : num = 0
  case neg =>
    have e1 : (num != 0) = true := by simp [hz1]
    have fin := rightW_out ⟨2, cap, num, den, width, count, keys, slots, every, seg⟩ rfl (.inl hz1)
    have FIN := hid fin
    clear fin
    go_wp2_with fail
    go_ret
    exact ⟨by rw [FIN.out]; rfl, HB⟩
  case pos =>
  by_cases hz2' : den = 0
  case neg =>
    have e1 : (num != 0) = false := by simp [hz1]
    have e2 : (den != 0) = true := by simp [hz2']
    have fin := rightW_out ⟨2, cap, num, den, width, count, keys, slots, every, seg⟩ rfl (.inr hz2')
    have FIN := hid fin
    clear fin hz1
    go_wp2_with fail
    go_ret
    exact ⟨by rw [FIN.out]; rfl, HB⟩
  case pos =>
    have e1 : (num != 0) = false := by simp [hz1]
    have e2 : (den != 0) = false := by simp [hz2']
    have yes := rightW_yes ⟨2, cap, num, den, width, count, keys, slots, every, seg⟩ rfl hz1 hz2'
    have no := rightW_no ⟨2, cap, num, den, width, count, keys, slots, every, seg⟩ rfl
    have YES := hid yes
    have NO := hid no
    have CS : Hid (∀ j, j < 8 → w2.cell? ⟨w.heap.size, offW j, none⟩ = some (.int .i64 (valW ⟨2, cap, num, den, width, count, keys, slots, every, seg⟩ j))) := by
      intro j hj
      match j, hj with
      | 0, _ => exact c0
      | 1, _ => exact c1
      | 2, _ => exact c4
      | 3, _ => exact c5
      | 4, _ => exact c6
      | 5, _ => exact c7
      | 6, _ => exact c8
      | 7, _ => exact c9
    clear yes no hz1 hz2'
    go_upto_region 4 with fail
    go_wp2_with (refine wpList_load_row rfl 57 _ rfl w1.heap.size rfl 57 _ (0, 0) _ HR.out Try.underlying57 rfl size57 ?_)
    clear c0 c1 c2 c3 c4 c5 c6 c7 c8 c9 e1 e2 HR
    go_loopw [44] (fun i wr => ∃ j : Nat, j ≤ 8 ∧ i = .int .i64 j ∧ Below (w.heap.size + 1) w2 wr ∧ GoodToW ⟨2, cap, num, den, width, count, keys, slots, every, seg⟩ j) (fun i _ => 8 - (intOf i).toNat)
    case atStart => exact ⟨0, by omega, rfl, Below.refl _ _, fun _ h => absurd h (Nat.not_lt_zero _)⟩
    case round =>
      obtain ⟨j, hj, rfl, hbr, hgood⟩ := hrel
      have hzr := hbr.size
      by_cases hlt : j < 8
      · have cj := (hbr.cell (p := ⟨w.heap.size, offW j, none⟩) (by simp)).trans (CS.out j hlt)
        have cj' : ∀ o : Obj, (wr.alloc o).cell? ⟨w.heap.size, offW j, none⟩ = some (.int .i64 (valW ⟨2, cap, num, den, width, count, keys, slots, every, seg⟩ j)) := fun o => by rw [World.cell?_alloc_lt _ _ _ (show w.heap.size < wr.heap.size by omega)]; exact cj
        have ij := idxW w.heap.size j hlt
        by_cases hlo : valW ⟨2, cap, num, den, width, count, keys, slots, every, seg⟩ j < loW j
        · have FIN := hid (NO.out j hlt (.inl hlo))
          have HG := hid hgood
          clear hgood
          go_wp2_with fail
          go_quiet (fail)
          go_wp2
          go_ret
          exact ⟨by rw [FIN.out]; rfl, below_drewN' ((HB.trans (hbr.mono (by omega))).alloc (by omega) _) _⟩
        · by_cases hhi : hiW j < valW ⟨2, cap, num, den, width, count, keys, slots, every, seg⟩ j
          · have FIN := hid (NO.out j hlt (.inr hhi))
            have HG := hid hgood
            clear hgood
            go_wp2_with fail
            go_quiet (fail)
            go_wp2
            go_ret
            exact ⟨by rw [FIN.out]; rfl, below_drewN' ((HB.trans (hbr.mono (by omega))).alloc (by omega) _) _⟩
          · have HG := hid (show GoodToW ⟨2, cap, num, den, width, count, keys, slots, every, seg⟩ (j + 1) from fun t ht => by
              by_cases e : t = j
              · subst e; exact ⟨by omega, by omega⟩
              · exact hgood t (by omega))
            clear hgood
            go_wp2_with fail
            go_quiet (fail)
            go_wp2
            go_roundw
            case rel => exact ⟨j + 1, by omega, by go_num, below_drewN' (hbr.alloc (by omega) _) _, HG.out⟩
            case measure => simp [intOf]; omega
      · obtain rfl : j = 8 := by omega
        have FIN := hid (YES.out hgood)
        clear hgood
        go_wp2_with fail
        go_ret
        exact ⟨by rw [FIN.out]; rfl, HB.trans (hbr.mono (by omega))⟩

end Go.Proofs.Ytkcnenekmjgmgaa
end

section
/- Plain numbers: a sliding window as it counts, moved, asked, taken from. No Go in sight. -/
namespace Go.Proofs.Ytkcnenekmjgmgaa

/-- A window: the bucket it stands at, and what stands in each. -/
structure Win where
  g : Int
  l : List Int

/-- A window's policy that may be. -/
def meansW (p : Pol) : Bool := (p.k == 2) && okB p
theorem meansW_kind {p : Pol} (h : (p.k == 2) = false) : meansW p = false := by simp [meansW, h]
theorem meansW_yes {p : Pol} (h : p.k = 2) (h2 : okB p = true) : meansW p = true := by simp [meansW, h, h2]
theorem meansW_no {p : Pol} (h2 : okB p = false) : meansW p = false := by simp [meansW, h2]
theorem meansW_bounds {p : Pol} (h : meansW p = true) : p.k = 2 ∧ (1 ≤ p.cap ∧ p.cap ≤ 1048576) ∧ (1 ≤ p.width ∧ p.width ≤ 1048576) ∧ (1 ≤ p.count ∧ p.count ≤ 32) := by
  simp [meansW, okB, allB, bucketB, windowB, within] at h
  omega

/-- The bucket of a tick. -/
def gridN (p : Pol) (t : Int) : Int := (clipI t 1099511627776).tdiv p.width
def gridP (p : Pol) (t : Int) : Int := if meansW p then gridN p t else 0
theorem gridP_yes {p : Pol} (h : meansW p = true) (t : Int) : gridP p t = gridN p t := by simp [gridP, h]
theorem gridP_no {p : Pol} (h : meansW p = false) (t : Int) : gridP p t = 0 := by simp [gridP, h]

def zeros (n : Nat) : List Int := List.replicate n 0
def noWin : Win := ⟨0, []⟩
def freshN (p : Pol) (t : Int) : Win := ⟨gridN p t, zeros p.count.toNat⟩
def freshP (p : Pol) (t : Int) : Win := if meansW p then freshN p t else noWin

/-- A number that no bucket may hold. -/
def badN (n : Int) : Bool := decide (n < 0 ∨ 1099511627776 < n)
theorem badN_low {n : Int} (h : n < 0) : badN n = true := by simp [badN]; omega
theorem badN_high {n : Int} (h : 1099511627776 < n) : badN n = true := by simp [badN]; omega
theorem badN_not {n : Int} (h0 : 0 ≤ n) (h : n ≤ 1099511627776) : badN n = false := by simp [badN]; omega
theorem badN_iff {n : Int} : badN n = false ↔ 0 ≤ n ∧ n ≤ 1099511627776 := by simp [badN]

/-- A window that may be, as it is; else an empty one. -/
def goodP (p : Pol) (s : Win) : Bool := decide (0 ≤ s.g ∧ s.g ≤ gridN p 1099511627776 ∧ (s.l.length : Int) = p.count ∧ s.l.any badN = false)
def countsN (p : Pol) (s : Win) : Win := if goodP p s then s else freshN p 0

def shiftL (l : List Int) (k : Nat) : List Int := l.drop k ++ zeros (min k l.length)
def moveN (p : Pol) (s : Win) (t : Int) : Win :=
  if gridN p t ≤ (countsN p s).g then countsN p s else ⟨gridN p t, shiftL (countsN p s).l (gridN p t - (countsN p s).g).toNat⟩
def moveP (p : Pol) (s : Win) (t : Int) : Win := if meansW p then moveN p s t else noWin

def sumN : List Int → Int
  | [] => 0
  | x :: l => clipI x 1099511627776 + sumN l
theorem sumN_append (a b : List Int) : sumN (a ++ b) = sumN a + sumN b := by
  induction a with
  | nil => simp [sumN]
  | cons x a ih => simp [sumN, ih]; omega
theorem sumN_bound (l : List Int) : 0 ≤ sumN l ∧ sumN l ≤ 1099511627776 * l.length := by
  induction l with
  | nil => simp [sumN]
  | cons x l ih =>
    have := clipI_bound x (m := 1099511627776) (by omega)
    simp only [sumN, List.length_cons]
    omega
def totalN (s : Win) : Int := if 32 < s.l.length then 0 else sumN s.l
theorem totalN_bound (s : Win) : 0 ≤ totalN s ∧ totalN s ≤ 35184372088832 := by
  unfold totalN
  have := sumN_bound s.l
  split <;> omega

def mayW (p : Pol) (s : Win) (c : Int) : Bool := meansW p && within c 1 1048576 && decide (totalN (countsN p s) + c ≤ p.cap)

def lastSet (l : List Int) (c : Int) : List Int := l.set (l.length - 1) (min (l.getD (l.length - 1) 0 + c) 1099511627776)
def takeN (p : Pol) (s : Win) (c : Int) : Win :=
  if within c 1 1048576 then ⟨(countsN p s).g, lastSet (countsN p s).l c⟩ else countsN p s
def takeW (p : Pol) (s : Win) (c : Int) : Win := if meansW p then takeN p s c else noWin

theorem gridN_bound {p : Pol} (hm : meansW p = true) (t : Int) : 0 ≤ gridN p t ∧ gridN p t ≤ 1099511627776 := by
  have hb := clipI_bound t (m := 1099511627776) (by omega)
  have hw := (meansW_bounds hm).2.2.1
  unfold gridN
  rw [Int.tdiv_eq_ediv_of_nonneg hb.1]
  constructor
  · exact Int.ediv_nonneg hb.1 (by omega)
  · exact Int.le_trans (Int.ediv_le_self _ hb.1) hb.2
theorem gridN_mono {p : Pol} (hm : meansW p = true) {a b : Int} (h : a ≤ b) : gridN p a ≤ gridN p b := by
  have ha := clipI_bound a (m := 1099511627776) (by omega)
  have hb := clipI_bound b (m := 1099511627776) (by omega)
  have hw := (meansW_bounds hm).2.2.1
  unfold gridN
  rw [Int.tdiv_eq_ediv_of_nonneg ha.1, Int.tdiv_eq_ediv_of_nonneg hb.1]
  apply Int.ediv_le_ediv (by omega)
  unfold clipI
  split <;> split <;> (try split) <;> (try split) <;> omega
theorem gridN_zero (p : Pol) : gridN p 0 = 0 := by simp [gridN, clipI]
theorem gridN_top {p : Pol} (hm : meansW p = true) (t : Int) : gridN p t ≤ gridN p 1099511627776 := by
  rcases Int.lt_or_le 1099511627776 t with h | h
  · have : gridN p t = gridN p 1099511627776 := by unfold gridN; rw [clipI_high (by omega) h, clipI_mid (by omega) (by omega)]
    omega
  · exact gridN_mono hm h

/-- A window that may be. -/
structure Good (p : Pol) (s : Win) : Prop where
  lo : 0 ≤ s.g
  hi : s.g ≤ gridN p 1099511627776
  len : s.l.length = p.count.toNat
  ok : ∀ x ∈ s.l, 0 ≤ x ∧ x ≤ 1099511627776
theorem goodP_iff {p : Pol} (hm : meansW p = true) {s : Win} : goodP p s = true ↔ Good p s := by
  have hc := (meansW_bounds hm).2.2.2
  constructor
  · intro h
    simp [goodP] at h
    exact ⟨h.1, h.2.1, by omega, fun x hx => badN_iff.1 (h.2.2.2 x hx)⟩
  · intro h
    have := h.len
    simp [goodP]
    exact ⟨h.lo, h.hi, by omega, fun x hx => badN_iff.2 (h.ok x hx)⟩
theorem countsN_self {p : Pol} (hm : meansW p = true) {s : Win} (h : Good p s) : countsN p s = s := by simp [countsN, (goodP_iff hm).2 h]
theorem fresh_good {p : Pol} (hm : meansW p = true) (t : Int) : Good p (freshN p t) :=
  ⟨(gridN_bound hm t).1, gridN_top hm t, by simp [freshN, zeros], fun x hx => by simp [freshN, zeros] at hx; omega⟩
theorem counts_good {p : Pol} (hm : meansW p = true) (s : Win) : Good p (countsN p s) := by
  unfold countsN
  split
  · exact (goodP_iff hm).1 (by assumption)
  · exact fresh_good hm 0
theorem getD_mem {l : List Int} {i : Nat} (h : i < l.length) : l.getD i 0 ∈ l := by
  have e : l.getD i 0 = l[i] := by simp [h]
  rw [e]; exact List.getElem_mem h
theorem zeros_length (n : Nat) : (zeros n).length = n := by simp [zeros]
theorem shiftL_length (l : List Int) (k : Nat) : (shiftL l k).length = l.length := by simp [shiftL, zeros_length]; omega
theorem shiftL_ok {l : List Int} (h : ∀ x ∈ l, 0 ≤ x ∧ x ≤ 1099511627776) (k : Nat) : ∀ x ∈ shiftL l k, 0 ≤ x ∧ x ≤ 1099511627776 := by
  intro x hx
  simp [shiftL, zeros] at hx
  rcases hx with hx | hx
  · exact h x (List.mem_of_mem_drop hx)
  · omega
theorem move_good {p : Pol} (hm : meansW p = true) (s : Win) (t : Int) : Good p (moveN p s t) := by
  have hg := counts_good hm s
  unfold moveN
  split
  · exact hg
  · exact ⟨(gridN_bound hm t).1, gridN_top hm t, by simp [shiftL_length, hg.len], shiftL_ok hg.ok _⟩
theorem lastSet_length (l : List Int) (c : Int) : (lastSet l c).length = l.length := by simp [lastSet]
theorem take_good {p : Pol} (hm : meansW p = true) (s : Win) (c : Int) : Good p (takeN p s c) := by
  have hg := counts_good hm s
  unfold takeN
  split
  · rename_i hc
    have hc2 := within_iff.1 hc
    refine ⟨hg.lo, hg.hi, by simp [lastSet_length, hg.len], fun x hx => ?_⟩
    unfold lastSet at hx
    rcases List.mem_or_eq_of_mem_set hx with h | h
    · exact hg.ok x h
    · have hcc := (meansW_bounds hm).2.2.2
      have hl := hg.len
      have : 0 ≤ (countsN p s).l.getD ((countsN p s).l.length - 1) 0 := by
        have hlt : (countsN p s).l.length - 1 < (countsN p s).l.length := by omega
        exact (hg.ok _ (getD_mem hlt)).1
      omega
  · exact hg

end Go.Proofs.Ytkcnenekmjgmgaa
end

section
/- Right of whatever policy; which are meant: the program's and the reference's. -/
namespace Go.Proofs.Ytkcnenekmjgmgaa
open Go.RowKit

theorem right_any (p : Pol) (w : World) :
    Calls Try.prog 39 #[.agg #[.int .i64 p.k, .int .i64 p.cap, .int .i64 p.num, .int .i64 p.den, .int .i64 p.width, .int .i64 p.count, .int .i64 p.keys, .int .i64 p.slots, .int .i64 p.every, .int .i64 p.seg]] w
      fun e w' => e = .returned (.int .i64 (rightN p)) ∧ Below w.heap.size w w' := by
  obtain ⟨k, cap, num, den, width, count, keys, slots, every, seg⟩ := p
  by_cases h1 : k = 1
  · subst h1; exact right_bucket cap num den width count keys slots every seg w
  · by_cases h2 : k = 2
    · subst h2; exact right_window cap num den width count keys slots every seg w
    · have e1 : (k == 1) = false := by simp [h1]
      have e2 : (k == 2) = false := by simp [h2]
      rw [rightN_not (p := ⟨k, cap, num, den, width, count, keys, slots, every, seg⟩) e1 e2]
      exact right_other ⟨k, cap, num, den, width, count, keys, slots, every, seg⟩ e1 e2 w

theorem means_any (p : Pol) (w : World) :
    Calls Try.prog 31 #[.agg #[.int .i64 p.k, .int .i64 p.cap, .int .i64 p.num, .int .i64 p.den, .int .i64 p.width, .int .i64 p.count, .int .i64 p.keys, .int .i64 p.slots, .int .i64 p.every, .int .i64 p.seg]] w
      fun e w' => e = .returned (.bool (meansW p)) ∧ Below w.heap.size w w' := by
  cases h1 : p.k == 2 with
  | false =>
    rw [meansW_kind h1]
    obtain ⟨k, cap, num, den, width, count, keys, slots, every, seg⟩ := p
    dsimp only at *
    go_enter Try.func31, Try.ntmps31
    go_wp2_with fail
    go_ret
    exact ⟨rfl, (Below.refl _ _).alloc (Nat.le_refl _) _⟩
  | true =>
    have hk : p.k = 2 := by simpa using h1
    cases h2 : okB p with
    | true =>
      have hr := right_any p
      rw [meansW_yes hk h2, rightN_yes h2] at *
      obtain ⟨k, cap, num, den, width, count, keys, slots, every, seg⟩ := p
      dsimp only at *
      subst hk
      have HR := hid hr
      clear hr h1 h2
      go_enter Try.func31, Try.ntmps31
      go_wp2_with (go_at_call 39; refine (HR.out _).mono ?_; rintro e w1 ⟨rfl, hb⟩)
      go_ret
      exact ⟨rfl, ((Below.refl _ _).alloc (Nat.le_refl _) _).trans (hb.mono (by simp))⟩
    | false =>
      have hr := right_any p
      rw [meansW_no h2, rightN_no h2] at *
      obtain ⟨k, cap, num, den, width, count, keys, slots, every, seg⟩ := p
      dsimp only at *
      subst hk
      have HR := hid hr
      clear hr h1 h2
      go_enter Try.func31, Try.ntmps31
      go_wp2_with (go_at_call 39; refine (HR.out _).mono ?_; rintro e w1 ⟨rfl, hb⟩)
      go_ret
      exact ⟨rfl, ((Below.refl _ _).alloc (Nat.le_refl _) _).trans (hb.mono (by simp))⟩

theorem refMeans_any (p : Pol) (w : World) :
    Calls Try.prog 36 #[.agg #[.int .i64 p.k, .int .i64 p.cap, .int .i64 p.num, .int .i64 p.den, .int .i64 p.width, .int .i64 p.count, .int .i64 p.keys, .int .i64 p.slots, .int .i64 p.every, .int .i64 p.seg]] w
      fun e w' => e = .returned (.bool (meansW p)) ∧ Below w.heap.size w w' := by
  have hr := refRight_any p
  cases h2 : okB p with
  | false =>
    rw [meansW_no h2, rightN_no h2] at *
    obtain ⟨k, cap, num, den, width, count, keys, slots, every, seg⟩ := p
    dsimp only at *
    have HR := hid hr
    clear hr h2
    go_enter Try.func36, Try.ntmps36
    go_wp2_with (go_at_call 10; refine (HR.out _).mono ?_; rintro e w1 ⟨rfl, hb⟩)
    go_ret
    exact ⟨rfl, ((Below.refl _ _).alloc (Nat.le_refl _) _).trans (hb.mono (by simp))⟩
  | true =>
    have hm : meansW p = (p.k == 2) := by simp [meansW, h2]
    rw [hm, rightN_yes h2] at *
    obtain ⟨k, cap, num, den, width, count, keys, slots, every, seg⟩ := p
    dsimp only at *
    have HR := hid hr
    clear hr h2 hm
    go_enter Try.func36, Try.ntmps36
    go_wp2_with fail
    refine (HR.out _).mono ?_
    rintro e w1 ⟨rfl, hb⟩
    have hc : w1.cell? ⟨w.heap.size, 0, none⟩ = some (.int .i64 k) := by rw [hb.cell (p := ⟨w.heap.size, 0, none⟩) (by simp)]; simp
    go_wp2_with fail
    go_ret
    exact ⟨rfl, ((Below.refl _ _).alloc (Nat.le_refl _) _).trans (hb.mono (by simp))⟩

end Go.Proofs.Ytkcnenekmjgmgaa
end

section
/- A law for a region that draws its order and calls functions that make memory of their own and answer plain values: one walk, in the order of the text. No program in sight. -/
namespace Go.Proofs.Ytkcnenekmjgmgaa
open Go.RowKit

/-- A world in which all that stood in w stands. -/
structure Later (w : World) where
  world : World
  below : Below w.heap.size w world

instance (w : World) : Inhabited (Later w) := ⟨⟨w, Below.refl _ _⟩⟩

theorem wp_region_quiet_later {P : Program} {id : Nat} {Q : Exit → Act → World → Prop} {a : Act} {w : World} {l : List Oper} (hm : P.follows .mixedOrders = true) (hB : Region.lexB .any l.toArray = true)
    (h : wpQuiet P l.toArray (fun w' => ∃ x : Later w, w' = x.world) (fun a' => ∀ w', (∃ x : Later w, w' = x.world) → Q .normal a' w') l a) : (Code.region id l.toArray true).wp P Q a w :=
  wp_region_quiet (C := fun w' => ∃ x : Later w, w' = x.world) hm hB ⟨⟨w.drew, (Below.refl _ _).drew⟩, rfl⟩ (by simpa using h)

theorem Later.cell {w : World} {a : Addr} {v : Value} (hb : a.block < w.heap.size) (h : w.cell? a = some v) (x : Later w) : x.world.cell? a = some v := (x.below.cell hb).trans h

theorem later_of {P : Program} {f : FuncId} {args : Array Value} {w : World} {x : Later w} {v : Value}
    (h : Calls P f args x.world fun e w' => e = .returned v ∧ Below x.world.heap.size x.world w') : Calls P f args x.world fun e w'' => e = .returned v ∧ ∃ y : Later w, w'' = y.world :=
  h.mono fun _ w' ⟨he, hb⟩ => ⟨he, ⟨w', x.below.trans (hb.mono x.below.size)⟩, rfl⟩

theorem later_same {P : Program} {f : FuncId} {args : Array Value} {w : World} {x : Later w} {v : Value}
    (h : Calls P f args x.world fun e w' => e = .returned v ∧ x.world = w') : Calls P f args x.world fun e w'' => e = .returned v ∧ ∃ y : Later w, w'' = y.world :=
  h.mono fun _ _ ⟨he, hw⟩ => ⟨he, x, hw.symm⟩

end Go.Proofs.Ytkcnenekmjgmgaa
end

section
/- Contracts: a tick clipped, the bucket of a tick, a sum of numbers as they count. -/
namespace Go.Proofs.Ytkcnenekmjgmgaa
open Go.RowKit

/-- A slice that reads as these numbers. -/
structure Reads (w : World) (sl : Value) (l : List Int) : Prop where
  form : ∃ A c, sl = .slice A l.length c ∧ (0 < l.length → ∃ g o, A = some ⟨g, o, none⟩ ∧ g < w.heap.size ∧ ∀ i, i < l.length → w.cell? ⟨g, o + i, none⟩ = some (.int .i64 (l.getD i 0)))
theorem Reads.below {w w' : World} {sl : Value} {l : List Int} (h : Reads w sl l) (hb : Below w.heap.size w w') : Reads w' sl l := by
  obtain ⟨A, c, e, h⟩ := h.form
  refine ⟨A, c, e, fun h0 => ?_⟩
  obtain ⟨g, o, e2, hg, hc⟩ := h h0
  exact ⟨g, o, e2, Nat.lt_of_lt_of_le hg hb.size, fun i hi => (hb.cell (p := ⟨g, o + i, none⟩) hg).trans (hc i hi)⟩

theorem clip_any (n : Int) (w : World) : Calls Try.prog 35 #[.int .i64 n] w fun e w' => e = .returned (.int .i64 (clipI n 1099511627776)) ∧ w = w' := by
  by_cases h1 : n < 0
  · go_enter Try.func35, Try.ntmps35
    go_wp2
    go_ret
    exact ⟨by first | (rw [clipI_low (by omega)]; rfl) | (rw [clipI_high (by omega) (by omega)]; rfl) | (rw [clipI_mid (by omega) (by omega)]; rfl), rfl⟩
  · by_cases h2 : 1099511627776 < n
    · go_enter Try.func35, Try.ntmps35
      go_wp2
      go_ret
      exact ⟨by first | (rw [clipI_low (by omega)]; rfl) | (rw [clipI_high (by omega) (by omega)]; rfl) | (rw [clipI_mid (by omega) (by omega)]; rfl), rfl⟩
    · go_enter Try.func35, Try.ntmps35
      go_wp2
      go_ret
      exact ⟨by first | (rw [clipI_low (by omega)]; rfl) | (rw [clipI_high (by omega) (by omega)]; rfl) | (rw [clipI_mid (by omega) (by omega)]; rfl), rfl⟩

theorem clip_quiet (n : Int) (W W' : World) (h : ∃ q, W' = W.drewN q) : Calls Try.prog 35 #[.int .i64 n] W' fun e w' => e = .returned (.int .i64 (clipI n 1099511627776)) ∧ ∃ q, w' = W.drewN q :=
  (clip_any n W').mono fun _ _ ⟨he, hw⟩ => ⟨he, hw ▸ h⟩

theorem grid_any (p : Pol) (t : Int) (w : World) : Calls Try.prog 17 #[.agg #[.int .i64 p.k, .int .i64 p.cap, .int .i64 p.num, .int .i64 p.den, .int .i64 p.width, .int .i64 p.count, .int .i64 p.keys, .int .i64 p.slots, .int .i64 p.every, .int .i64 p.seg], .int .i64 t] w fun e w' => e = .returned (.int .i64 (gridP p t)) ∧ Below w.heap.size w w' := by
  have hr := means_any p
  cases hm : meansW p with
  | false =>
    rw [hm] at hr
    rw [gridP_no hm]
    have HR := hid hr
    clear hr hm
    obtain ⟨k, cap, num, den, width, count, keys, slots, every, seg⟩ := p
    dsimp only at *
    go_enter Try.func17, Try.ntmps17
    go_wp2_with (go_at_call 31; refine (HR.out _).mono ?_; rintro e w1 ⟨rfl, hb⟩)
    go_ret
    exact ⟨rfl, ((Below.refl _ _).alloc (Nat.le_refl _) _).trans (hb.mono (by simp))⟩
  | true =>
    rw [hm] at hr
    rw [gridP_yes hm]
    have hw := (meansW_bounds hm).2.2.1
    have HR := hid hr
    clear hr hm
    unfold gridN
    obtain ⟨k, cap, num, den, width, count, keys, slots, every, seg⟩ := p
    dsimp only at *
    have bc := clipI_bound t (m := 1099511627776) (by omega)
    have HC := hid (fun w => clip_any t w)
    generalize clipI t 1099511627776 = u at *
    go_enter Try.func17, Try.ntmps17
    go_wp2_with fail
    refine (HR.out _).mono ?_
    rintro e w1 ⟨rfl, hb⟩
    have hc : w1.cell? ⟨w.heap.size, 4, none⟩ = some (.int .i64 width) := by rw [hb.cell (p := ⟨w.heap.size, 4, none⟩) (by simp)]; simp
    have hl : w.heap.size < w1.heap.size := by have := hb.size; simp at this; omega
    have hB := hid (((Below.refl _ _).alloc (Nat.le_refl _) _).trans (hb.mono (by simp)))
    clear hb
    go_upto_region 3 with fail
    have x4 := fun x : Later w1 => Later.cell (a := ⟨w.heap.size, 4, none⟩) hl hc x
    have hw0 : width ≠ 0 := by omega
    have hm1 : width ≠ -1 := by omega
    have bd : 0 ≤ u.tdiv width ∧ u.tdiv width ≤ 1099511627776 := by
      rw [Int.tdiv_eq_ediv_of_nonneg bc.1]
      exact ⟨Int.ediv_nonneg bc.1 (by omega), Int.le_trans (Int.ediv_le_self _ bc.1) bc.2⟩
    have ew : IntKind.i64.wrap (u.tdiv width) = u.tdiv width := IntWalk.i64_in _ (by omega)
    refine wp_region_quiet_later (by kernel_rfl) (by kernel_rfl) ?_
    repeat (go_big_quiet_step ((first | (go_at_call 35; refine later_same (v := .int .i64 u) ?_; exact HC.out _))))
    refine wpQuiet_nil ?_
    intro _ hw'
    obtain ⟨x, hw''⟩ := hw'
    subst hw''
    have hx := x.below
    generalize x.world = w4 at hx
    clear x x4
    go_wp2_with fail
    go_ret
    exact ⟨rfl, hB.out.trans (hx.mono hB.out.size)⟩

end Go.Proofs.Ytkcnenekmjgmgaa
end

section
/- Contracts: a sum of numbers as they count; is one of them bad? -/
namespace Go.Proofs.Ytkcnenekmjgmgaa
open Go.RowKit

theorem take_succ_sum (l : List Int) (k : Nat) (h : k < l.length) : sumN (l.take (k + 1)) = sumN (l.take k) + clipI (l.getD k 0) 1099511627776 := by
  have e : l.take (k + 1) = l.take k ++ [l.getD k 0] := by
    rw [List.take_succ_eq_append_getElem h]
    simp [h]
  rw [e, sumN_append]
  simp [sumN]
theorem take_succ_any (l : List Int) (k : Nat) (h : k < l.length) : (l.take (k + 1)).any badN = ((l.take k).any badN || badN (l.getD k 0)) := by
  have e : l.take (k + 1) = l.take k ++ [l.getD k 0] := by
    rw [List.take_succ_eq_append_getElem h]
    simp [h]
  rw [e]
  simp

set_option maxHeartbeats 1000000 in
theorem sum_any (l : List Int) (A : Option Addr) (c : Nat) (w : World) (hl : l.length ≤ 32)
    (hr : 0 < l.length → ∃ g o, A = some ⟨g, o, none⟩ ∧ g < w.heap.size ∧ ∀ i, i < l.length → w.cell? ⟨g, o + i, none⟩ = some (.int .i64 (l.getD i 0))) :
    Calls Try.prog 34 #[.slice A l.length c] w fun e w' => e = .returned (.int .i64 (sumN l)) ∧ w = w' := by
  have R := hid hr
  clear hr
  generalize hn : l.length = n at *
  have N := hid hn
  clear hn
  go_enter Try.func34, Try.ntmps34
  go_wp2_with fail
  go_loopw [3, 5, 8] (fun s3 _ s8 wr => ∃ k : Nat, k ≤ n ∧ s3 = .int .i64 (sumN (l.take k)) ∧ s8 = .int .i64 k ∧ wr = w) (fun _ _ i _ => n - (intOf i).toNat)
  case atStart => exact ⟨0, by omega, by simp [sumN], rfl, rfl⟩
  case round =>
    obtain ⟨k, hk, rfl, rfl, rfl⟩ := hrel
    by_cases hlt : k < n
    · obtain ⟨g, o, rfl, hg, hc⟩ := R.out (by omega)
      have hki : (0 : Int) ≤ (k : Int) := by omega
      have hkn : (k : Int) < (n : Int) := by omega
      have hx := hc k hlt
      have S := hid (take_succ_sum l k (by have := N.out; omega))
      clear hc
      have hb := sumN_bound (l.take k)
      have hb2 : (l.take k).length ≤ 32 := by simp; omega
      have ha : 0 ≤ sumN (l.take k) ∧ sumN (l.take k) ≤ 35184372088832 := by omega
      clear hb hb2
      generalize sumN (l.take k) = a at *
      generalize l.getD k 0 = x at *
      have bx := clipI_bound x (m := 1099511627776) (by omega)
      rcases Int.lt_or_le x 0 with h1 | h1
      · have e := hid (clipI_low (m := 1099511627776) h1)
        go_wp2_with fail
        go_roundw
        case rel => exact ⟨k + 1, by omega, by rw [S.out, e.out]; simp, by go_num, by trivial⟩
        case measure => simp [intOf]; omega
      · rcases Int.lt_or_le 1099511627776 x with h2 | h2
        · have e := hid (clipI_high h1 h2)
          go_wp2_with fail
          go_roundw
          case rel => exact ⟨k + 1, by omega, by rw [S.out, e.out], by go_num, by trivial⟩
          case measure => simp [intOf]; omega
        · have e := hid (clipI_mid h1 h2)
          go_wp2_with fail
          go_roundw
          case rel => exact ⟨k + 1, by omega, by rw [S.out, e.out], by go_num, by trivial⟩
          case measure => simp [intOf]; omega
    · have E := hid (show l.take k = l from List.take_of_length_le (by have := N.out; omega))
      have : k = n := by omega
      subst this
      have hlt : ¬ (k : Int) < (k : Int) := by omega
      go_wp2_with fail
      go_ret
      exact ⟨by rw [E.out]; rfl, rfl⟩

theorem wrong_any (n : Int) (w : World) : Calls Try.prog 40 #[.int .i64 n] w fun e w' => e = .returned (.bool (badN n)) ∧ w = w' := by
  by_cases h1 : n < 0
  · go_enter Try.func40, Try.ntmps40
    go_wp2
    go_ret
    exact ⟨by rw [badN_low h1]; rfl, rfl⟩
  · by_cases h2 : 1099511627776 < n
    · go_enter Try.func40, Try.ntmps40
      go_wp2
      go_ret
      exact ⟨by rw [badN_high h2]; rfl, rfl⟩
    · go_enter Try.func40, Try.ntmps40
      go_wp2
      go_ret
      exact ⟨by rw [badN_not (by omega) (by omega)]; rfl, rfl⟩

set_option maxHeartbeats 1000000 in
/-- IndexFunc: below 0 just where none is bad. -/
theorem index_any (l : List Int) (A : Option Addr) (c : Nat) (w : World) (hl : l.length ≤ 9223372036854775807)
    (hr : 0 < l.length → ∃ g o, A = some ⟨g, o, none⟩ ∧ g < w.heap.size ∧ ∀ i, i < l.length → w.cell? ⟨g, o + i, none⟩ = some (.int .i64 (l.getD i 0))) :
    Calls Try.prog 44 #[.slice A l.length c, .func (.func 40) #[] #[]] w fun e w' => (∃ r : Int, e = .returned (.int .i64 r) ∧ decide (0 ≤ r) = l.any badN) ∧ w = w' := by
  have R := hid hr
  clear hr
  generalize hn : l.length = n at *
  have N := hid hn
  clear hn
  go_enter Try.func44, Try.ntmps44
  go_wp2_with fail
  go_loopw [5, 8] (fun _ s8 wr => ∃ k : Nat, k ≤ n ∧ s8 = .int .i64 k ∧ Aside ((l.take k).any badN = false) ∧ wr = w) (fun _ i _ => n - (intOf i).toNat)
  case atStart => exact ⟨0, by omega, rfl, by simp [Aside], rfl⟩
  case round =>
    obtain ⟨k, hk, rfl, hA, rfl⟩ := hrel
    by_cases hlt : k < n
    · obtain ⟨g, o, rfl, hg, hc⟩ := R.out (by omega)
      have hki : (0 : Int) ≤ (k : Int) := by omega
      have hkn : (k : Int) < (n : Int) := by omega
      have hx := hc k hlt
      have S := hid (take_succ_any l k (by have := N.out; omega))
      have K := hid (show k < l.length by have := N.out; omega)
      clear hc
      have W := hid (fun w => wrong_any (l.getD k 0) w)
      generalize hq : badN (l.getD k 0) = q at *
      have Q := hid hq
      clear hq
      generalize hy : l.getD k 0 = x at *
      have Y := hid hy
      clear hy
      cases q with
      | true =>
        go_wp2_with (go_at_call 40; refine (W.out _).mono ?_; rintro e w1 ⟨rfl, rfl⟩)
        go_ret
        refine ⟨⟨_, rfl, ?_⟩, rfl⟩
        have : l.any badN = true := List.any_eq_true.2 ⟨l.getD k 0, getD_mem K.out, by rw [Y.out]; exact Q.out⟩
        rw [this]
        simp
      | false =>
        go_wp2_with (go_at_call 40; refine (W.out _).mono ?_; rintro e w1 ⟨rfl, rfl⟩)
        go_roundw
        case rel => exact ⟨k + 1, by omega, by go_num, by show Aside _; have := S.out; rw [hA.out] at this; exact this, by trivial⟩
        case measure => simp [intOf]; omega
    · have : k = n := by omega
      subst this
      have hlt : ¬ (k : Int) < (k : Int) := by omega
      have hA' := hA.out
      rw [← N.out, List.take_length] at hA'
      have HA := hid hA'
      clear hA' hA
      go_wp2_with fail
      go_ret
      exact ⟨⟨_, rfl, by rw [HA.out]; rfl⟩, rfl⟩

theorem contains_any (l : List Int) (A : Option Addr) (c : Nat) (w : World) (hl : l.length ≤ 9223372036854775807)
    (hr : 0 < l.length → ∃ g o, A = some ⟨g, o, none⟩ ∧ g < w.heap.size ∧ ∀ i, i < l.length → w.cell? ⟨g, o + i, none⟩ = some (.int .i64 (l.getD i 0))) :
    Calls Try.prog 41 #[.slice A l.length c, .func (.func 40) #[] #[]] w fun e w' => e = .returned (.bool (l.any badN)) ∧ w = w' := by
  have I := hid (index_any l A c w hl hr)
  clear hr hl
  generalize l.length = n at *
  generalize l.any badN = b at *
  go_enter Try.func41, Try.ntmps41
  go_wp2_with fail
  refine I.out.mono ?_
  rintro e w1 ⟨⟨r, rfl, hr⟩, rfl⟩
  by_cases h : 0 ≤ r
  · go_wp2_with fail
    go_ret
    exact ⟨by rw [← hr]; simp [h], rfl⟩
  · go_wp2_with fail
    go_ret
    exact ⟨by rw [← hr]; simp, rfl⟩

end Go.Proofs.Ytkcnenekmjgmgaa
end

section
/- Laws for slices of int that the call owns: append of one number, with what stood elsewhere kept. No program in sight. -/
namespace Go.Proofs.Ytkcnenekmjgmgaa
open Go.RowKit

section
variable {P : Program}
theorem wpList_append_at {ops : Array Oper} {rest : List Oper} {o : Oper} {a : Act} {w : World} {Q : Exit → Act → World → Prop} (hgd : o.guard = none) (s x : Operand) (t : TypeId)
    (ho : o.op = .call { callee := .builtin .append, args := #[s, x], argTypes := #[t, t] })
    (base : Nat) (e : TypeId) (i : TypeInfo) (z : Value) (size bytes : Nat) (ht : P.underlying t = some (.slice e)) (hi : P.info? e = some i) (hz : i.zero = some z)
    (hsize : i.size = size) (hby : i.bytes = bytes) (hzs : z.cells.size = size) (hsz : 0 < size)
    (v : Value) (n : Nat) (xs : List Value) (hs : a.eval s = v) (hown : w.ownsRow base e size v n xs)
    (ad : Addr) (m c : Nat) (news : List Value) (hx : a.eval x = .slice (some ad) m c) (hl : news.length = m * size) (hnews : ∀ j u, news[j]? = some u → w.cell? (ad.add j) = some u) (h1 : ∀ u ∈ news, u.oneCell' = true)
    (h63 : n + m ≤ maxLen) (hbytes : (n + m) * bytes ≤ 140737488355328) (hbase : base ≤ w.heap.size)
    (h : ∀ v' w', w'.ownsRow base e size v' (n + m) (xs ++ news) → w.grownBy w' v.ownBlock → (v'.ownBlock = v.ownBlock ∨ v'.ownBlock = some w.heap.size) → wpList P ops Q rest (a.put o.dst v') w') : wpList P ops Q (o :: rest) a w := by
  obtain ⟨v', w', hrun, h2, h3, _, h5⟩ := run_append_own_at (P := P) w base t o.type e i z size bytes ht hi hz hsize hby hzs hsz v n xs hown ad m c news hl hnews h1 h63 hbytes hbase
  refine wpList_plain hgd fun K hK => ?_
  unfold Oper.wp execOp
  simp only [ho, resolve, invoke, builtin, Sem.run_bind, Sem.run_pure, Result.andThen_ok, List.map_toArray, List.map_cons, List.map_nil, hs, hx, hrun]
  exact hK _ _ (h v' w' h2 h3 h5)
end

/-- 'x & (1<<30 - 1)' is a number from 0 on, below 1<<30. -/
theorem mask30 (n : Int) : ∃ g : Int, bits .and .i64 n 1073741823 = g ∧ 0 ≤ g ∧ g ≤ 1073741823 := by
  refine ⟨_, rfl, ?_⟩
  have e : bits .and .i64 n 1073741823 = IntKind.i64.wrap ((BitVec.ofInt 64 n &&& BitVec.ofInt 64 1073741823).toNat : Int) := rfl
  have h : (BitVec.ofInt 64 n &&& BitVec.ofInt 64 1073741823).toNat ≤ 1073741823 := by
    rw [BitVec.toNat_and]
    exact Nat.le_trans Nat.and_le_right (by decide)
  rw [e, IntKind.wrap_i64]
  omega

end Go.Proofs.Ytkcnenekmjgmgaa
end

section
/- Contracts: a slice in memory of its own: a copy of one, an empty window. -/
namespace Go.Proofs.Ytkcnenekmjgmgaa
open Go.RowKit

theorem info3 : (Try.prog.info? 3).map (fun i => (i.zero, i.size, i.bytes)) = some (some (.int .i64 0), 1, 8) := by kernel_rfl

/-- A slice of int that the call owns, in a row of its own. -/
def Own (B : Nat) (w : World) (sl : Value) (l : List Int) : Prop := w.ownsRow B 3 1 sl l.length (l.map (Value.int .i64))
theorem Own.below {B : Nat} {w w' : World} {sl : Value} {l : List Int} (h : Own B w sl l) (hb : Below w.heap.size w w') : Own B w' sl l := by
  refine ⟨h.1, ?_⟩
  rcases h.2 with h2 | ⟨g, cap, cur, hv, hg, hh, r⟩
  · exact Or.inl h2
  · refine Or.inr ⟨g, cap, cur, hv, hg, ?_, r⟩
    have hl := (World.ownsRow.lt h g (by rw [hv]; rfl)).2
    rw [hb.block g hl]; exact hh
theorem Own.of_block {B : Nat} {w w' : World} {sl : Value} {l : List Int} (h : Own B w sl l) (hb : ∀ k, sl.ownBlock = some k → w'.heap[k]? = w.heap[k]?) : Own B w' sl l := by
  refine ⟨h.1, ?_⟩
  rcases h.2 with h2 | ⟨g, cap, cur, hv, hg, hh, r⟩
  · exact Or.inl h2
  · exact Or.inr ⟨g, cap, cur, hv, hg, by rw [hb g (by rw [hv]; rfl)]; exact hh, r⟩
theorem Own.lower {B C : Nat} {w : World} {sl : Value} {l : List Int} (h : Own B w sl l) (hb : C ≤ B) : Own C w sl l := by
  refine ⟨h.1, ?_⟩
  rcases h.2 with h2 | ⟨g, cap, cur, hv, hg, r⟩
  · exact Or.inl h2
  · exact Or.inr ⟨g, cap, cur, hv, by omega, r⟩
theorem Own.nil (B : Nat) (w : World) : Own B w (.slice none 0 0) [] := World.ownsRow_nil w B 3 1
theorem Own.form {B : Nat} {w : World} {v : Value} {xs : List Int} (h : Own B w v xs) :
    ∃ A c, v = .slice A xs.length c ∧ (0 < xs.length → ∃ g, A = some ⟨g, 0, none⟩ ∧ B ≤ g ∧ g < w.heap.size ∧ ∀ i, i < xs.length → w.cell? ⟨g, i, none⟩ = some (.int .i64 (xs.getD i 0))) := by
  by_cases hn : 0 < xs.length
  · obtain ⟨g, c, hv, _, _⟩ := World.ownsRow.form h hn
    subst hv
    have hlt := World.ownsRow.lt h g rfl
    refine ⟨_, c, rfl, fun _ => ⟨g, rfl, hlt.1, hlt.2, fun i hi => ?_⟩⟩
    rw [World.ownsRow.cellAt h i (by omega)]
    simp [hi]
  · have h0 : xs.length = 0 := by omega
    rcases h.2 with ⟨hv, _⟩ | ⟨g, c, cur, hv, _⟩
    · exact ⟨none, 0, by rw [hv, h0], fun h => absurd h hn⟩
    · exact ⟨_, c, hv, fun h => absurd h hn⟩
theorem Own.reads {B : Nat} {w : World} {v : Value} {xs : List Int} (h : Own B w v xs) : Reads w v xs := by
  obtain ⟨A, c, e, f⟩ := h.form
  exact ⟨A, c, e, fun h0 => by obtain ⟨g, e2, _, hg, hc⟩ := f h0; exact ⟨g, 0, e2, hg, fun i hi => by rw [Nat.zero_add]; exact hc i hi⟩⟩

set_option maxHeartbeats 1000000 in
theorem clone_call (l : List Int) (g o c : Nat) (w : World) (h0 : 0 < l.length) (hn : l.length ≤ 1099511627776) (hg : g < w.heap.size) (hc : ∀ i, i < l.length → w.cell? ⟨g, o + i, none⟩ = some (.int .i64 (l.getD i 0))) :
    Calls Try.prog 42 #[.slice (some ⟨g, o, none⟩) l.length c] w fun e w' => ∃ sl, e = .returned sl ∧ Own w.heap.size w' sl l ∧ Below w.heap.size w w' := by
  obtain ⟨iI, hi, hz0, hz1, hz2⟩ := info_parts info3
  have HI := hid hi
  have HZ := hid (And.intro hz0 (And.intro hz1 hz2))
  clear hi hz0 hz1 hz2
  have C := hid hc
  clear hc
  have ho : (w.alloc (.cells #[] 3)).ownsRow w.heap.size 3 1 (.slice (some ⟨w.heap.size, 0, none⟩) 0 0) 0 [] := World.ownsRow_lit w #[] 0 (Nat.le_refl _) (by simp [maxLen]) rfl
  have HO := hid ho
  clear ho
  have hnil := fun w => Go.run_eql_slice_nil (P := Try.prog) w 24 3 (some ⟨g, o, none⟩) l.length c Try.underlying24
  have HL : (l.map (Value.int .i64)).length = l.length * 1 := by simp
  have HN := hid (show ∀ j u, (l.map (Value.int .i64))[j]? = some u → (w.alloc (.cells #[] 3)).cell? (Addr.add ⟨g, o, none⟩ j) = some u from by
    intro j u hu
    simp only [List.getElem?_map, Option.map_eq_some_iff] at hu
    obtain ⟨x, hx, rfl⟩ := hu
    obtain ⟨hj, hx⟩ := List.getElem?_eq_some_iff.1 hx
    have := C.out j hj
    rw [show l.getD j 0 = x by simp [hj, hx]] at this
    have ea : Addr.add ⟨g, o, none⟩ j = ⟨g, o + j, none⟩ := by simp [Addr.add]
    rw [ea]
    exact (World.cell?_alloc_lt _ _ _ hg).trans this)
  have H1 : ∀ u ∈ l.map (Value.int .i64), u.oneCell' = true := by
    intro u hu
    simp only [List.mem_map] at hu
    obtain ⟨x, hx, rfl⟩ := hu
    rfl
  have HM : 0 + l.length ≤ maxLen := by simp [maxLen]; omega
  have HBa : w.heap.size ≤ (w.alloc (.cells #[] 3)).heap.size := by simp
  have HBy : (0 + l.length) * 8 ≤ 140737488355328 := by omega
  go_enter Try.func42, Try.ntmps42
  go_wp2_with (at_builtin; refine wpList_append_at rfl (.tmp 5) (.tmp 6) 24 rfl w.heap.size 3 iI (.int .i64 0) 1 8 Try.underlying24 HI.out HZ.out.1 HZ.out.2.1 HZ.out.2.2 rfl (by decide) _ 0 [] rfl HO.out ⟨g, o, none⟩ l.length c _ rfl HL HN.out H1 HM HBy HBa ?_; intro sl w1 hown hgrow hlie)
  go_ret
  refine ⟨sl, rfl, ?_, ?_⟩
  · simpa [Own] using hown
  · exact ((Below.refl _ _).alloc (Nat.le_refl _) _).grown hgrow (by simp) (fun k hk => by cases hk; exact Nat.le_refl _)

theorem zeros_made (n : Nat) : (madeCells #[Value.int .i64 0] n).toList = (zeros n).map (Value.int .i64) := by
  rw [toList_madeCells_one]; simp [zeros]

/-- The ten cells of a policy in a box. -/
theorem ten_below {g : Nat} {k cap num den width count keys slots every seg : Int} {W w1 : World} (hb : Below W.heap.size W w1) (hg : g < W.heap.size)
    (h : W.cell? ⟨g, 0, none⟩ = some (.int .i64 k) ∧ W.cell? ⟨g, 1, none⟩ = some (.int .i64 cap) ∧ W.cell? ⟨g, 2, none⟩ = some (.int .i64 num) ∧ W.cell? ⟨g, 3, none⟩ = some (.int .i64 den) ∧ W.cell? ⟨g, 4, none⟩ = some (.int .i64 width) ∧ W.cell? ⟨g, 5, none⟩ = some (.int .i64 count) ∧ W.cell? ⟨g, 6, none⟩ = some (.int .i64 keys) ∧ W.cell? ⟨g, 7, none⟩ = some (.int .i64 slots) ∧ W.cell? ⟨g, 8, none⟩ = some (.int .i64 every) ∧ W.cell? ⟨g, 9, none⟩ = some (.int .i64 seg)) :
    w1.cell? ⟨g, 0, none⟩ = some (.int .i64 k) ∧ w1.cell? ⟨g, 1, none⟩ = some (.int .i64 cap) ∧ w1.cell? ⟨g, 2, none⟩ = some (.int .i64 num) ∧ w1.cell? ⟨g, 3, none⟩ = some (.int .i64 den) ∧ w1.cell? ⟨g, 4, none⟩ = some (.int .i64 width) ∧ w1.cell? ⟨g, 5, none⟩ = some (.int .i64 count) ∧ w1.cell? ⟨g, 6, none⟩ = some (.int .i64 keys) ∧ w1.cell? ⟨g, 7, none⟩ = some (.int .i64 slots) ∧ w1.cell? ⟨g, 8, none⟩ = some (.int .i64 every) ∧ w1.cell? ⟨g, 9, none⟩ = some (.int .i64 seg) := by
  obtain ⟨h0, h1, h2, h3, h4, h5, h6, h7, h8, h9⟩ := h
  have e : ∀ i, w1.cell? ⟨g, i, none⟩ = W.cell? ⟨g, i, none⟩ := fun i => hb.cell (p := ⟨g, i, none⟩) hg
  exact ⟨(e 0).trans h0, (e 1).trans h1, (e 2).trans h2, (e 3).trans h3, (e 4).trans h4, (e 5).trans h5, (e 6).trans h6, (e 7).trans h7, (e 8).trans h8, (e 9).trans h9⟩

theorem info26 : (Try.prog.info? 26).map (·.size) = some 2 := by kernel_rfl
theorem row_set2 {w : World} {g : Nat} {a b x y : Value} {t : TypeId} (h : w.heap[g]? = some (.cells #[a, b] t (0, 0))) : ((w.setCell ⟨g, 0, none⟩ x).setCell ⟨g, 1, none⟩ y).heap[g]? = some (.cells #[x, y] t (0, 0)) := by
  rw [heap_setCell_same _ g 1 #[x, b] t y (by rw [heap_setCell_same _ g 0 #[a, b] t x h]; rfl)]
  rfl
/-- What a cell holds. -/
def valAt (w : World) (a : Addr) : Value := (w.cell? a).getD undef
theorem valAt_some {w : World} {a : Addr} {v : Value} (h : w.cell? a = some v) : w.cell? a = some (valAt w a) := by simp [valAt, h]
theorem valAt_set {w : World} {a b : Addr} {v x : Value} (h : w.cell? a = some x) : (w.setCell b v).cell? a = some (valAt (w.setCell b v) a) := by
  by_cases e : b = a
  · subst e
    exact valAt_some (World.cell?_setCell_same (w := w) (a := b) (v := v) h)
  · exact valAt_some ((World.cell?_setCell_other (w := w) (a := b) (b := a) (v := v) e).trans h)
theorem cell_far {w : World} {g o : Nat} {a : Addr} {v x : Value} (h : w.cell? a = some x) (hne : g ≠ a.block) : (w.setCell ⟨g, o, none⟩ v).cell? a = some x := by
  rw [World.cell?_setCell_other (w := w) (a := ⟨g, o, none⟩) (b := a) (v := v) (fun e => hne (by rw [← e]))]
  exact h

/-- A window's result cell. -/
theorem two_below {g : Nat} {x y : Value} {W w1 : World} (hb : Below W.heap.size W w1) (hg : g < W.heap.size)
    (h : W.cell? ⟨g, 0, none⟩ = some x ∧ W.cell? ⟨g, 1, none⟩ = some y ∧ W.frozen? ⟨g, 0, none⟩ = false ∧ W.frozen? ⟨g, 1, none⟩ = false) :
    w1.cell? ⟨g, 0, none⟩ = some x ∧ w1.cell? ⟨g, 1, none⟩ = some y ∧ w1.frozen? ⟨g, 0, none⟩ = false ∧ w1.frozen? ⟨g, 1, none⟩ = false := by
  obtain ⟨h0, h1, h2, h3⟩ := h
  exact ⟨(hb.cell (p := ⟨g, 0, none⟩) hg).trans h0, (hb.cell (p := ⟨g, 1, none⟩) hg).trans h1, (hb.frozen (p := ⟨g, 0, none⟩) hg).trans h2, (hb.frozen (p := ⟨g, 1, none⟩) hg).trans h3⟩

set_option maxHeartbeats 2000000 in
theorem fresh_yes (p : Pol) (t : Int) (hm : meansW p = true) (w : World) : Calls Try.prog 16 #[.agg #[.int .i64 p.k, .int .i64 p.cap, .int .i64 p.num, .int .i64 p.den, .int .i64 p.width, .int .i64 p.count, .int .i64 p.keys, .int .i64 p.slots, .int .i64 p.every, .int .i64 p.seg], .int .i64 t] w
    fun e w' => ∃ sl, e = .returned (.agg #[.int .i64 (gridN p t), sl]) ∧ Own w.heap.size w' sl (zeros p.count.toNat) ∧ Below w.heap.size w w' := by
  have hr := means_any p
  have hgd := grid_any p t
  rw [hm] at hr
  rw [gridP_yes hm] at hgd
  have hcc := (meansW_bounds hm).2.2.2
  obtain ⟨k, cap, num, den, width, count, keys, slots, every, seg⟩ := p
  dsimp only at *
  obtain ⟨n, rfl⟩ : ∃ n : Nat, count = n := ⟨count.toNat, by omega⟩
  have hmk := run_make_row' (P := Try.prog) 24 3 (.int .i64 0) 8 Try.underlying24 info3 rfl .i64 .i64 n (by omega) (by omega)
  generalize gridN _ t = gv at *
  have HR := hid hr
  have HG := hid hgd
  clear hr hm hgd
  go_enter Try.func16, Try.ntmps16
  go_wp2_with fail
  refine (HR.out _).mono ?_
  rintro e w1 ⟨rfl, hb⟩
  go_upto_region 3 with fail
  refine abstract_world (fun W => Below w.heap.size w W ∧ w.heap.size + 1 < W.heap.size ∧ W.heap[w.heap.size]? = some (.cells #[.int .i64 k, .int .i64 cap, .int .i64 num, .int .i64 den, .int .i64 width, .int .i64 n, .int .i64 keys, .int .i64 slots, .int .i64 every, .int .i64 seg] 23 (0, 0)) ∧ W.heap[w.heap.size + 1]? = some (.cells #[.int .i64 0, .slice none 0 0] 26 (0, 0))) ?_ ?_
  · have hs := hb.size
    simp at hs
    refine ⟨(((Below.refl _ _).alloc (Nat.le_refl _) _).alloc (by simp) _).trans (hb.mono (by simp; omega)), by omega, ?_, ?_⟩
    · rw [hb.block _ (by simp; omega)]
      exact heap_alloc_keep _ _ (heap_alloc_same _ _)
    · rw [hb.block _ (by simp)]
      have := heap_alloc_same (w.alloc (.cells #[.int .i64 k, .int .i64 cap, .int .i64 num, .int .i64 den, .int .i64 width, .int .i64 n, .int .i64 keys, .int .i64 slots, .int .i64 every, .int .i64 seg] 23)) (.cells #[.int .i64 0, .slice none 0 0] 26)
      simpa using this
  · intro W ⟨hB, hlt, hp, hr⟩
    have c1 : W.cell? ⟨w.heap.size, 0, none⟩ = some (.int .i64 k) ∧ W.cell? ⟨w.heap.size, 1, none⟩ = some (.int .i64 cap) ∧ W.cell? ⟨w.heap.size, 2, none⟩ = some (.int .i64 num) ∧ W.cell? ⟨w.heap.size, 3, none⟩ = some (.int .i64 den) ∧ W.cell? ⟨w.heap.size, 4, none⟩ = some (.int .i64 width) ∧ W.cell? ⟨w.heap.size, 5, none⟩ = some (.int .i64 n) ∧ W.cell? ⟨w.heap.size, 6, none⟩ = some (.int .i64 keys) ∧ W.cell? ⟨w.heap.size, 7, none⟩ = some (.int .i64 slots) ∧ W.cell? ⟨w.heap.size, 8, none⟩ = some (.int .i64 every) ∧ W.cell? ⟨w.heap.size, 9, none⟩ = some (.int .i64 seg) := by simp [World.cell?, hp]
    have c2 : W.cell? ⟨w.heap.size + 1, 0, none⟩ = some (.int .i64 0) ∧ W.cell? ⟨w.heap.size + 1, 1, none⟩ = some (.slice none 0 0) ∧ W.frozen? ⟨w.heap.size + 1, 0, none⟩ = false ∧ W.frozen? ⟨w.heap.size + 1, 1, none⟩ = false := by simp [World.cell?, World.frozen?, hr]
    have F : ∀ w', Below W.heap.size W w' → (w'.cell? ⟨w.heap.size, 0, none⟩ = some (.int .i64 k) ∧ w'.cell? ⟨w.heap.size, 1, none⟩ = some (.int .i64 cap) ∧ w'.cell? ⟨w.heap.size, 2, none⟩ = some (.int .i64 num) ∧ w'.cell? ⟨w.heap.size, 3, none⟩ = some (.int .i64 den) ∧ w'.cell? ⟨w.heap.size, 4, none⟩ = some (.int .i64 width) ∧ w'.cell? ⟨w.heap.size, 5, none⟩ = some (.int .i64 n) ∧ w'.cell? ⟨w.heap.size, 6, none⟩ = some (.int .i64 keys) ∧ w'.cell? ⟨w.heap.size, 7, none⟩ = some (.int .i64 slots) ∧ w'.cell? ⟨w.heap.size, 8, none⟩ = some (.int .i64 every) ∧ w'.cell? ⟨w.heap.size, 9, none⟩ = some (.int .i64 seg) ∧ w'.cell? ⟨w.heap.size + 1, 0, none⟩ = some (valAt w' ⟨w.heap.size + 1, 0, none⟩) ∧ w'.cell? ⟨w.heap.size + 1, 1, none⟩ = some (valAt w' ⟨w.heap.size + 1, 1, none⟩) ∧ w'.frozen? ⟨w.heap.size + 1, 0, none⟩ = false ∧ w'.frozen? ⟨w.heap.size + 1, 1, none⟩ = false) := by
      intro w' hb
      obtain ⟨a0, a1, a2, a3, a4, a5, a6, a7, a8, a9⟩ := ten_below hb (show w.heap.size < W.heap.size by omega) c1
      obtain ⟨b0, b1, b2, b3⟩ := two_below hb hlt c2
      exact ⟨a0, a1, a2, a3, a4, a5, a6, a7, a8, a9, valAt_some b0, valAt_some b1, b2, b3⟩
    obtain ⟨a0, a1, a2, a3, a4, a5, a6, a7, a8, a9, b0, b1, b2, b3⟩ := F W (Below.refl _ _)
    have hne : w.heap.size + 1 ≠ w.heap.size := by omega
    have G : ∀ w' x y, Below W.heap.size W w' → ((w'.setCell ⟨w.heap.size + 1, 0, none⟩ x).setCell ⟨w.heap.size + 1, 1, none⟩ y) = ((w'.setCell ⟨w.heap.size + 1, 0, none⟩ x).setCell ⟨w.heap.size + 1, 1, none⟩ y) ∧ (((w'.setCell ⟨w.heap.size + 1, 0, none⟩ x).setCell ⟨w.heap.size + 1, 1, none⟩ y).cell? ⟨w.heap.size, 0, none⟩ = some (.int .i64 k) ∧ ((w'.setCell ⟨w.heap.size + 1, 0, none⟩ x).setCell ⟨w.heap.size + 1, 1, none⟩ y).cell? ⟨w.heap.size, 1, none⟩ = some (.int .i64 cap) ∧ ((w'.setCell ⟨w.heap.size + 1, 0, none⟩ x).setCell ⟨w.heap.size + 1, 1, none⟩ y).cell? ⟨w.heap.size, 2, none⟩ = some (.int .i64 num) ∧ ((w'.setCell ⟨w.heap.size + 1, 0, none⟩ x).setCell ⟨w.heap.size + 1, 1, none⟩ y).cell? ⟨w.heap.size, 3, none⟩ = some (.int .i64 den) ∧ ((w'.setCell ⟨w.heap.size + 1, 0, none⟩ x).setCell ⟨w.heap.size + 1, 1, none⟩ y).cell? ⟨w.heap.size, 4, none⟩ = some (.int .i64 width) ∧ ((w'.setCell ⟨w.heap.size + 1, 0, none⟩ x).setCell ⟨w.heap.size + 1, 1, none⟩ y).cell? ⟨w.heap.size, 5, none⟩ = some (.int .i64 n) ∧ ((w'.setCell ⟨w.heap.size + 1, 0, none⟩ x).setCell ⟨w.heap.size + 1, 1, none⟩ y).cell? ⟨w.heap.size, 6, none⟩ = some (.int .i64 keys) ∧ ((w'.setCell ⟨w.heap.size + 1, 0, none⟩ x).setCell ⟨w.heap.size + 1, 1, none⟩ y).cell? ⟨w.heap.size, 7, none⟩ = some (.int .i64 slots) ∧ ((w'.setCell ⟨w.heap.size + 1, 0, none⟩ x).setCell ⟨w.heap.size + 1, 1, none⟩ y).cell? ⟨w.heap.size, 8, none⟩ = some (.int .i64 every) ∧ ((w'.setCell ⟨w.heap.size + 1, 0, none⟩ x).setCell ⟨w.heap.size + 1, 1, none⟩ y).cell? ⟨w.heap.size, 9, none⟩ = some (.int .i64 seg) ∧ ((w'.setCell ⟨w.heap.size + 1, 0, none⟩ x).setCell ⟨w.heap.size + 1, 1, none⟩ y).cell? ⟨w.heap.size + 1, 0, none⟩ = some (valAt ((w'.setCell ⟨w.heap.size + 1, 0, none⟩ x).setCell ⟨w.heap.size + 1, 1, none⟩ y) ⟨w.heap.size + 1, 0, none⟩) ∧ ((w'.setCell ⟨w.heap.size + 1, 0, none⟩ x).setCell ⟨w.heap.size + 1, 1, none⟩ y).cell? ⟨w.heap.size + 1, 1, none⟩ = some (valAt ((w'.setCell ⟨w.heap.size + 1, 0, none⟩ x).setCell ⟨w.heap.size + 1, 1, none⟩ y) ⟨w.heap.size + 1, 1, none⟩) ∧ ((w'.setCell ⟨w.heap.size + 1, 0, none⟩ x).setCell ⟨w.heap.size + 1, 1, none⟩ y).frozen? ⟨w.heap.size + 1, 0, none⟩ = false ∧ ((w'.setCell ⟨w.heap.size + 1, 0, none⟩ x).setCell ⟨w.heap.size + 1, 1, none⟩ y).frozen? ⟨w.heap.size + 1, 1, none⟩ = false) := by
      intro w' x y hb
      obtain ⟨a0, a1, a2, a3, a4, a5, a6, a7, a8, a9, b0, b1, b2, b3⟩ := F w' hb
      have e0 := valAt_set (b := ⟨w.heap.size + 1, 0, none⟩) (v := x) b0
      have e1 := valAt_set (b := ⟨w.heap.size + 1, 0, none⟩) (v := x) b1
      exact ⟨rfl, cell_far (cell_far a0 hne) hne, cell_far (cell_far a1 hne) hne, cell_far (cell_far a2 hne) hne, cell_far (cell_far a3 hne) hne, cell_far (cell_far a4 hne) hne, cell_far (cell_far a5 hne) hne, cell_far (cell_far a6 hne) hne, cell_far (cell_far a7 hne) hne, cell_far (cell_far a8 hne) hne, cell_far (cell_far a9 hne) hne, valAt_set e0, valAt_set e1, by rw [World.frozen?_setCell, World.frozen?_setCell]; exact b2, by rw [World.frozen?_setCell, World.frozen?_setCell]; exact b3⟩
    have F := hid F
    have G := hid G
    clear c1 c2 hne
    have hB1 := (Below.refl W.heap.size W).drew
    have hB2 := (Below.refl W.heap.size W).drew.alloc (Nat.le_refl _) (.cells (madeCells #[Value.int .i64 0] n) 3)
    go_region_held3 (fun w' => w'.cell? ⟨w.heap.size, 0, none⟩ = some (.int .i64 k) ∧ w'.cell? ⟨w.heap.size, 1, none⟩ = some (.int .i64 cap) ∧ w'.cell? ⟨w.heap.size, 2, none⟩ = some (.int .i64 num) ∧ w'.cell? ⟨w.heap.size, 3, none⟩ = some (.int .i64 den) ∧ w'.cell? ⟨w.heap.size, 4, none⟩ = some (.int .i64 width) ∧ w'.cell? ⟨w.heap.size, 5, none⟩ = some (.int .i64 n) ∧ w'.cell? ⟨w.heap.size, 6, none⟩ = some (.int .i64 keys) ∧ w'.cell? ⟨w.heap.size, 7, none⟩ = some (.int .i64 slots) ∧ w'.cell? ⟨w.heap.size, 8, none⟩ = some (.int .i64 every) ∧ w'.cell? ⟨w.heap.size, 9, none⟩ = some (.int .i64 seg) ∧ w'.cell? ⟨w.heap.size + 1, 0, none⟩ = some (valAt w' ⟨w.heap.size + 1, 0, none⟩) ∧ w'.cell? ⟨w.heap.size + 1, 1, none⟩ = some (valAt w' ⟨w.heap.size + 1, 1, none⟩) ∧ w'.frozen? ⟨w.heap.size + 1, 0, none⟩ = false ∧ w'.frozen? ⟨w.heap.size + 1, 1, none⟩ = false)
      (first | exact F.out _ hB1 | exact F.out _ (hB1.trans hb) | exact F.out _ (hB2) | exact F.out _ (hB2.trans (hb.mono (by simp))) | exact F.out _ ((hB1.trans hb).alloc hb.size _) | exact (G.out _ _ _ ((hB1.trans hb).alloc hb.size _)).2 | exact (G.out _ _ _ (hB2.trans (hb.mono (by simp)))).2 | go_keep)
      (first | (go_at_call 17; refine (HG.out _).mono ?_; rintro e w2 ⟨rfl, hb⟩))
    all_goals (go_wp2_with fail)
    · have hrow := row_set2 (x := .int .i64 gv) (y := .slice (some ⟨w2.heap.size, 0, none⟩) n n) ((((hB1.trans hb).alloc hb.size (.cells (madeCells #[Value.int .i64 0] n) 3)).block _ hlt).trans hr)
      refine bodyPost_ret (results_cell_row rfl _ _ (w.heap.size + 1) 26 #[.int .i64 gv, .slice (some ⟨w2.heap.size, 0, none⟩) n n] (0, 0) _ rfl hrow Try.underlying26 rfl info26) rfl ?_
      have hz2 := hb.size
      have hlt2 : w.heap.size + 1 < w2.heap.size := Nat.lt_of_lt_of_le hlt hb.size
      refine ⟨_, rfl, ?_, (((hB.trans ((hB1.trans hb).mono (by omega))).alloc (by omega) _).setCell (by simp) _).setCell (by simp) _⟩
      have ho := World.ownsRow_lit (e := 3) (size := 1) w2 (madeCells #[Value.int .i64 0] n) n (base := w.heap.size) (by omega) (by simp [maxLen]; omega) (by simp [madeCells])
      rw [zeros_made] at ho
      refine Own.of_block (w := w2.alloc (.cells (madeCells #[Value.int .i64 0] n) 3)) (by simpa [Own, zeros] using ho) fun k hk => ?_
      cases hk
      rw [heap_setCell_other _ _ _ _ (by simp; omega), heap_setCell_other _ _ _ _ (by simp; omega)]
    · have hrow := row_set2 (x := .int .i64 gv) (y := .slice (some ⟨W.heap.size, 0, none⟩) n n) (((hB2.trans (hb.mono (by simp))).block _ hlt).trans hr)
      refine bodyPost_ret (results_cell_row rfl _ _ (w.heap.size + 1) 26 #[.int .i64 gv, .slice (some ⟨W.heap.size, 0, none⟩) n n] (0, 0) _ rfl hrow Try.underlying26 rfl info26) rfl ?_
      have hz2 := (hB2.trans (hb.mono (by simp))).size
      have ho := World.ownsRow_lit (e := 3) (size := 1) W.drew (madeCells #[Value.int .i64 0] n) n (base := w.heap.size) (by simp; omega) (by simp [maxLen]; omega) (by simp [madeCells])
      rw [zeros_made] at ho
      refine ⟨_, rfl, ?_, ((hB.trans ((hB2.trans (hb.mono (by simp))).mono (by omega))).setCell (by simp) _).setCell (by simp) _⟩
      refine Own.of_block (w := w2) (Own.below (w := W.drew.alloc (.cells (madeCells #[Value.int .i64 0] n) 3)) (by simpa [Own, zeros] using ho) hb) fun k hk => ?_
      cases hk
      rw [heap_setCell_other _ _ _ _ (by simp; omega), heap_setCell_other _ _ _ _ (by simp; omega)]

end Go.Proofs.Ytkcnenekmjgmgaa
end

section
/- Contract: a window as it counts, in memory of its own. -/
namespace Go.Proofs.Ytkcnenekmjgmgaa
open Go.RowKit

set_option maxHeartbeats 2000000 in
set_option linter.unusedVariables false in
theorem counts_low (p : Pol) (gg : Int) (l : List Int) (A : Option Addr) (c : Nat) (w : World) (hm : meansW p = true) (hl : l.length ≤ 9223372036854775807)
    (hrd : 0 < l.length → ∃ g o, A = some ⟨g, o, none⟩ ∧ g < w.heap.size ∧ ∀ i, i < l.length → w.cell? ⟨g, o + i, none⟩ = some (.int .i64 (l.getD i 0))) (h1 : gg < 0) :
    Calls Try.prog 32 #[.agg #[.int .i64 p.k, .int .i64 p.cap, .int .i64 p.num, .int .i64 p.den, .int .i64 p.width, .int .i64 p.count, .int .i64 p.keys, .int .i64 p.slots, .int .i64 p.every, .int .i64 p.seg], .agg #[.int .i64 gg, .slice A l.length c]] w fun e w' => ∃ sl, e = .returned (.agg #[.int .i64 0, sl]) ∧ Own w.heap.size w' sl (zeros p.count.toNat) ∧ Below w.heap.size w w' := by
  have hgd := fun w => grid_any p 1099511627776 w
  have hfr := fun w => fresh_yes p 0 hm w
  rw [gridP_yes hm] at hgd
  rw [gridN_zero] at hfr
  have hcc := (meansW_bounds hm).2.2.2
  obtain ⟨k, cap, num, den, width, count, keys, slots, every, seg⟩ := p
  dsimp only at *
  obtain ⟨n, rfl⟩ : ∃ n : Nat, count = n := ⟨count.toNat, by omega⟩
  generalize gridN _ 1099511627776 = gt at *
  have hct : ∀ w1, Below w.heap.size w w1 → Calls Try.prog 41 #[.slice A l.length c, .func (.func 40) #[] #[]] w1 fun e w' => e = .returned (.bool (l.any badN)) ∧ w1 = w' := fun w1 hb =>
    contains_any l A c w1 (by omega) fun h0 => by
      obtain ⟨g, o, e, hg, hc⟩ := hrd h0
      exact ⟨g, o, e, Nat.lt_of_lt_of_le hg hb.size, fun i hi => (hb.cell (p := ⟨g, o + i, none⟩) hg).trans (hc i hi)⟩
  have HG := hid hgd
  have HF := hid hfr
  have HCT := hid hct
  have HRD := hid hrd
  clear hm hgd hfr hct hrd
  go_enter Try.func32, Try.ntmps32
  go_upto_region 2 with fail
  refine abstract_world (fun W => Below w.heap.size w W ∧ w.heap.size + 2 < W.heap.size ∧ W.heap[w.heap.size]? = some (.cells #[.int .i64 k, .int .i64 cap, .int .i64 num, .int .i64 den, .int .i64 width, .int .i64 n, .int .i64 keys, .int .i64 slots, .int .i64 every, .int .i64 seg] 23 (0, 0)) ∧ W.heap[w.heap.size + 1]? = some (.cells #[.int .i64 gg, .slice A l.length c] 26 (0, 0)) ∧ W.heap[w.heap.size + 2]? = some (.cells #[.int .i64 0, .slice none 0 0] 26 (0, 0))) ?_ ?_
  · refine ⟨(((Below.refl _ _).alloc (Nat.le_refl _) _).alloc (by simp) _).alloc (by simp; omega) _, by simp, ?_, ?_, ?_⟩
    · exact heap_alloc_keep _ _ (heap_alloc_keep _ _ (heap_alloc_same _ _))
    · have := heap_alloc_same (w.alloc (.cells #[.int .i64 k, .int .i64 cap, .int .i64 num, .int .i64 den, .int .i64 width, .int .i64 n, .int .i64 keys, .int .i64 slots, .int .i64 every, .int .i64 seg] 23)) (.cells #[.int .i64 gg, .slice A l.length c] 26)
      exact heap_alloc_keep _ _ (by simpa using this)
    · have := heap_alloc_same ((w.alloc (.cells #[.int .i64 k, .int .i64 cap, .int .i64 num, .int .i64 den, .int .i64 width, .int .i64 n, .int .i64 keys, .int .i64 slots, .int .i64 every, .int .i64 seg] 23)).alloc (.cells #[.int .i64 gg, .slice A l.length c] 26)) (.cells #[.int .i64 0, .slice none 0 0] 26)
      simpa using this
  intro W ⟨hB, hlt, hp, hs, hr⟩
  skip
  have HCTL := hid (fun x : Later W => HCT.out x.world (hB.trans (x.below.mono hB.size)))
  have c1 : W.cell? ⟨w.heap.size, 0, none⟩ = some (.int .i64 k) ∧ W.cell? ⟨w.heap.size, 1, none⟩ = some (.int .i64 cap) ∧ W.cell? ⟨w.heap.size, 2, none⟩ = some (.int .i64 num) ∧ W.cell? ⟨w.heap.size, 3, none⟩ = some (.int .i64 den) ∧ W.cell? ⟨w.heap.size, 4, none⟩ = some (.int .i64 width) ∧ W.cell? ⟨w.heap.size, 5, none⟩ = some (.int .i64 n) ∧ W.cell? ⟨w.heap.size, 6, none⟩ = some (.int .i64 keys) ∧ W.cell? ⟨w.heap.size, 7, none⟩ = some (.int .i64 slots) ∧ W.cell? ⟨w.heap.size, 8, none⟩ = some (.int .i64 every) ∧ W.cell? ⟨w.heap.size, 9, none⟩ = some (.int .i64 seg) := by simp [World.cell?, hp]
  have c2 : W.cell? ⟨w.heap.size + 1, 0, none⟩ = some (.int .i64 gg) ∧ W.cell? ⟨w.heap.size + 1, 1, none⟩ = some (.slice A l.length c) := by simp [World.cell?, hs]
  obtain ⟨a0, a1, a2, a3, a4, a5, a6, a7, a8, a9⟩ := c1
  obtain ⟨b0, b1⟩ := c2
  have hz1 : w.heap.size < W.heap.size := by omega
  have hz2 : w.heap.size + 1 < W.heap.size := by omega
  have x0 := fun x : Later W => Later.cell (a := ⟨w.heap.size, 0, none⟩) hz1 a0 x
  have x1 := fun x : Later W => Later.cell (a := ⟨w.heap.size, 1, none⟩) hz1 a1 x
  have x2 := fun x : Later W => Later.cell (a := ⟨w.heap.size, 2, none⟩) hz1 a2 x
  have x3 := fun x : Later W => Later.cell (a := ⟨w.heap.size, 3, none⟩) hz1 a3 x
  have x4 := fun x : Later W => Later.cell (a := ⟨w.heap.size, 4, none⟩) hz1 a4 x
  have x5 := fun x : Later W => Later.cell (a := ⟨w.heap.size, 5, none⟩) hz1 a5 x
  have x6 := fun x : Later W => Later.cell (a := ⟨w.heap.size, 6, none⟩) hz1 a6 x
  have x7 := fun x : Later W => Later.cell (a := ⟨w.heap.size, 7, none⟩) hz1 a7 x
  have x8 := fun x : Later W => Later.cell (a := ⟨w.heap.size, 8, none⟩) hz1 a8 x
  have x9 := fun x : Later W => Later.cell (a := ⟨w.heap.size, 9, none⟩) hz1 a9 x
  have y0 := fun x : Later W => Later.cell (a := ⟨w.heap.size + 1, 0, none⟩) hz2 b0 x
  have y1 := fun x : Later W => Later.cell (a := ⟨w.heap.size + 1, 1, none⟩) hz2 b1 x
  have HROWP := hid hp
  have HROWS := hid hs
  have HROWR := hid hr
  clear a0 a1 a2 a3 a4 a5 a6 a7 a8 a9 b0 b1 hp hs hr
  generalize hany : l.any badN = q at *
  refine wp_region_quiet_later (by kernel_rfl) (by kernel_rfl) ?_
  repeat (go_big_quiet_step ((first | (go_at_call 17; refine later_of (v := .int .i64 gt) ?_; exact HG.out _) | (go_at_call 41; refine later_same (v := .bool q) ?_; exact HCTL.out _))))
  refine wpQuiet_nil ?_
  intro _ hw'
  obtain ⟨x, hw''⟩ := hw'
  subst hw''
  have hx := x.below
  generalize x.world = w4 at hx
  clear x x0 x1 x2 x3 x4 x5 x6 x7 x8 x9 y0 y1
  have HP4 := hid ((hx.block _ (by omega : w.heap.size < W.heap.size)).trans HROWP.out)
  have HS4 := hid ((hx.block _ (by omega : w.heap.size + 1 < W.heap.size)).trans HROWS.out)
  have HR4 := hid ((hx.block _ hlt).trans HROWR.out)
  have hlt4 : w.heap.size + 2 < w4.heap.size := Nat.lt_of_lt_of_le hlt hx.size
  have hB4 := hid (hB.trans (hx.mono hB.size))
  clear hx hlt hz1 hz2 hB
  have c1 : w4.cell? ⟨w.heap.size, 0, none⟩ = some (.int .i64 k) ∧ w4.cell? ⟨w.heap.size, 1, none⟩ = some (.int .i64 cap) ∧ w4.cell? ⟨w.heap.size, 2, none⟩ = some (.int .i64 num) ∧ w4.cell? ⟨w.heap.size, 3, none⟩ = some (.int .i64 den) ∧ w4.cell? ⟨w.heap.size, 4, none⟩ = some (.int .i64 width) ∧ w4.cell? ⟨w.heap.size, 5, none⟩ = some (.int .i64 n) ∧ w4.cell? ⟨w.heap.size, 6, none⟩ = some (.int .i64 keys) ∧ w4.cell? ⟨w.heap.size, 7, none⟩ = some (.int .i64 slots) ∧ w4.cell? ⟨w.heap.size, 8, none⟩ = some (.int .i64 every) ∧ w4.cell? ⟨w.heap.size, 9, none⟩ = some (.int .i64 seg) := by have hp := HP4.out; simp [World.cell?, hp]
  obtain ⟨a0, a1, a2, a3, a4, a5, a6, a7, a8, a9⟩ := c1
  have d2 : w4.cell? ⟨w.heap.size + 2, 0, none⟩ = some (.int .i64 0) ∧ w4.cell? ⟨w.heap.size + 2, 1, none⟩ = some (.slice none 0 0) := by have hp := HR4.out; simp [World.cell?, hp]
  go_wp2_with fail
  refine (HF.out _).mono ?_
  rintro e w5 ⟨sl, rfl, ho, hb⟩
  have HO := hid ho
  clear ho
  have hrow := (hb.block _ hlt4).trans HR4.out
  have hlt5 : w.heap.size + 2 < w5.heap.size := Nat.lt_of_lt_of_le hlt4 hb.size
  obtain ⟨A2, cc, rfl, hf⟩ := HO.out.form
  have d2 : w5.cell? ⟨w.heap.size + 2, 0, none⟩ = some (.int .i64 0) ∧ w5.cell? ⟨w.heap.size + 2, 1, none⟩ = some (.slice none 0 0) ∧ w5.frozen? ⟨w.heap.size + 2, 0, none⟩ = false ∧ w5.frozen? ⟨w.heap.size + 2, 1, none⟩ = false := by simp [World.cell?, World.frozen?, hrow]
  obtain ⟨e0, e1, e2, e3⟩ := d2
  have hrow2 := row_set2 (x := .int .i64 0) (y := .slice A2 (zeros (n : Int).toNat).length cc) hrow
  have HROW2 := hid hrow2
  have HHF := hid hf
  clear hf
  clear hrow hrow2 a0 a1 a2 a3 a4 a5 a6 a7 a8 a9
  go_wp2_with fail
  refine bodyPost_ret (results_cell_row rfl _ _ (w.heap.size + 2) 26 #[.int .i64 0, .slice A2 (zeros (n : Int).toNat).length cc] (0, 0) _ rfl HROW2.out Try.underlying26 rfl info26) rfl ?_
  have hs4 := hB4.out.size
  refine ⟨_, rfl, ?_, ((hB4.out.trans (hb.mono hs4)).setCell (show w.heap.size ≤ w.heap.size + 2 by omega) _).setCell (show w.heap.size ≤ w.heap.size + 2 by omega) _⟩
  refine Own.of_block (w := w5) (HO.out.lower hs4) fun k hk => ?_
  have hk2 := (World.ownsRow.lt HO.out k hk).1
  rw [heap_setCell_other _ _ _ _ (by simp; omega), heap_setCell_other _ _ _ _ (by simp; omega)]

set_option maxHeartbeats 2000000 in
set_option linter.unusedVariables false in
theorem counts_high (p : Pol) (gg : Int) (l : List Int) (A : Option Addr) (c : Nat) (w : World) (hm : meansW p = true) (hl : l.length ≤ 9223372036854775807)
    (hrd : 0 < l.length → ∃ g o, A = some ⟨g, o, none⟩ ∧ g < w.heap.size ∧ ∀ i, i < l.length → w.cell? ⟨g, o + i, none⟩ = some (.int .i64 (l.getD i 0))) (h0 : ¬ gg < 0) (h1 : gridN p 1099511627776 < gg) :
    Calls Try.prog 32 #[.agg #[.int .i64 p.k, .int .i64 p.cap, .int .i64 p.num, .int .i64 p.den, .int .i64 p.width, .int .i64 p.count, .int .i64 p.keys, .int .i64 p.slots, .int .i64 p.every, .int .i64 p.seg], .agg #[.int .i64 gg, .slice A l.length c]] w fun e w' => ∃ sl, e = .returned (.agg #[.int .i64 0, sl]) ∧ Own w.heap.size w' sl (zeros p.count.toNat) ∧ Below w.heap.size w w' := by
  have hgd := fun w => grid_any p 1099511627776 w
  have hfr := fun w => fresh_yes p 0 hm w
  rw [gridP_yes hm] at hgd
  rw [gridN_zero] at hfr
  have hcc := (meansW_bounds hm).2.2.2
  obtain ⟨k, cap, num, den, width, count, keys, slots, every, seg⟩ := p
  dsimp only at *
  obtain ⟨n, rfl⟩ : ∃ n : Nat, count = n := ⟨count.toNat, by omega⟩
  generalize gridN _ 1099511627776 = gt at *
  have hct : ∀ w1, Below w.heap.size w w1 → Calls Try.prog 41 #[.slice A l.length c, .func (.func 40) #[] #[]] w1 fun e w' => e = .returned (.bool (l.any badN)) ∧ w1 = w' := fun w1 hb =>
    contains_any l A c w1 (by omega) fun h0 => by
      obtain ⟨g, o, e, hg, hc⟩ := hrd h0
      exact ⟨g, o, e, Nat.lt_of_lt_of_le hg hb.size, fun i hi => (hb.cell (p := ⟨g, o + i, none⟩) hg).trans (hc i hi)⟩
  have HG := hid hgd
  have HF := hid hfr
  have HCT := hid hct
  have HRD := hid hrd
  clear hm hgd hfr hct hrd
  go_enter Try.func32, Try.ntmps32
  go_upto_region 2 with fail
  refine abstract_world (fun W => Below w.heap.size w W ∧ w.heap.size + 2 < W.heap.size ∧ W.heap[w.heap.size]? = some (.cells #[.int .i64 k, .int .i64 cap, .int .i64 num, .int .i64 den, .int .i64 width, .int .i64 n, .int .i64 keys, .int .i64 slots, .int .i64 every, .int .i64 seg] 23 (0, 0)) ∧ W.heap[w.heap.size + 1]? = some (.cells #[.int .i64 gg, .slice A l.length c] 26 (0, 0)) ∧ W.heap[w.heap.size + 2]? = some (.cells #[.int .i64 0, .slice none 0 0] 26 (0, 0))) ?_ ?_
  · refine ⟨(((Below.refl _ _).alloc (Nat.le_refl _) _).alloc (by simp) _).alloc (by simp; omega) _, by simp, ?_, ?_, ?_⟩
    · exact heap_alloc_keep _ _ (heap_alloc_keep _ _ (heap_alloc_same _ _))
    · have := heap_alloc_same (w.alloc (.cells #[.int .i64 k, .int .i64 cap, .int .i64 num, .int .i64 den, .int .i64 width, .int .i64 n, .int .i64 keys, .int .i64 slots, .int .i64 every, .int .i64 seg] 23)) (.cells #[.int .i64 gg, .slice A l.length c] 26)
      exact heap_alloc_keep _ _ (by simpa using this)
    · have := heap_alloc_same ((w.alloc (.cells #[.int .i64 k, .int .i64 cap, .int .i64 num, .int .i64 den, .int .i64 width, .int .i64 n, .int .i64 keys, .int .i64 slots, .int .i64 every, .int .i64 seg] 23)).alloc (.cells #[.int .i64 gg, .slice A l.length c] 26)) (.cells #[.int .i64 0, .slice none 0 0] 26)
      simpa using this
  intro W ⟨hB, hlt, hp, hs, hr⟩
  skip
  have HCTL := hid (fun x : Later W => HCT.out x.world (hB.trans (x.below.mono hB.size)))
  have c1 : W.cell? ⟨w.heap.size, 0, none⟩ = some (.int .i64 k) ∧ W.cell? ⟨w.heap.size, 1, none⟩ = some (.int .i64 cap) ∧ W.cell? ⟨w.heap.size, 2, none⟩ = some (.int .i64 num) ∧ W.cell? ⟨w.heap.size, 3, none⟩ = some (.int .i64 den) ∧ W.cell? ⟨w.heap.size, 4, none⟩ = some (.int .i64 width) ∧ W.cell? ⟨w.heap.size, 5, none⟩ = some (.int .i64 n) ∧ W.cell? ⟨w.heap.size, 6, none⟩ = some (.int .i64 keys) ∧ W.cell? ⟨w.heap.size, 7, none⟩ = some (.int .i64 slots) ∧ W.cell? ⟨w.heap.size, 8, none⟩ = some (.int .i64 every) ∧ W.cell? ⟨w.heap.size, 9, none⟩ = some (.int .i64 seg) := by simp [World.cell?, hp]
  have c2 : W.cell? ⟨w.heap.size + 1, 0, none⟩ = some (.int .i64 gg) ∧ W.cell? ⟨w.heap.size + 1, 1, none⟩ = some (.slice A l.length c) := by simp [World.cell?, hs]
  obtain ⟨a0, a1, a2, a3, a4, a5, a6, a7, a8, a9⟩ := c1
  obtain ⟨b0, b1⟩ := c2
  have hz1 : w.heap.size < W.heap.size := by omega
  have hz2 : w.heap.size + 1 < W.heap.size := by omega
  have x0 := fun x : Later W => Later.cell (a := ⟨w.heap.size, 0, none⟩) hz1 a0 x
  have x1 := fun x : Later W => Later.cell (a := ⟨w.heap.size, 1, none⟩) hz1 a1 x
  have x2 := fun x : Later W => Later.cell (a := ⟨w.heap.size, 2, none⟩) hz1 a2 x
  have x3 := fun x : Later W => Later.cell (a := ⟨w.heap.size, 3, none⟩) hz1 a3 x
  have x4 := fun x : Later W => Later.cell (a := ⟨w.heap.size, 4, none⟩) hz1 a4 x
  have x5 := fun x : Later W => Later.cell (a := ⟨w.heap.size, 5, none⟩) hz1 a5 x
  have x6 := fun x : Later W => Later.cell (a := ⟨w.heap.size, 6, none⟩) hz1 a6 x
  have x7 := fun x : Later W => Later.cell (a := ⟨w.heap.size, 7, none⟩) hz1 a7 x
  have x8 := fun x : Later W => Later.cell (a := ⟨w.heap.size, 8, none⟩) hz1 a8 x
  have x9 := fun x : Later W => Later.cell (a := ⟨w.heap.size, 9, none⟩) hz1 a9 x
  have y0 := fun x : Later W => Later.cell (a := ⟨w.heap.size + 1, 0, none⟩) hz2 b0 x
  have y1 := fun x : Later W => Later.cell (a := ⟨w.heap.size + 1, 1, none⟩) hz2 b1 x
  have HROWP := hid hp
  have HROWS := hid hs
  have HROWR := hid hr
  clear a0 a1 a2 a3 a4 a5 a6 a7 a8 a9 b0 b1 hp hs hr
  generalize hany : l.any badN = q at *
  refine wp_region_quiet_later (by kernel_rfl) (by kernel_rfl) ?_
  repeat (go_big_quiet_step ((first | (go_at_call 17; refine later_of (v := .int .i64 gt) ?_; exact HG.out _) | (go_at_call 41; refine later_same (v := .bool q) ?_; exact HCTL.out _))))
  refine wpQuiet_nil ?_
  intro _ hw'
  obtain ⟨x, hw''⟩ := hw'
  subst hw''
  have hx := x.below
  generalize x.world = w4 at hx
  clear x x0 x1 x2 x3 x4 x5 x6 x7 x8 x9 y0 y1
  have HP4 := hid ((hx.block _ (by omega : w.heap.size < W.heap.size)).trans HROWP.out)
  have HS4 := hid ((hx.block _ (by omega : w.heap.size + 1 < W.heap.size)).trans HROWS.out)
  have HR4 := hid ((hx.block _ hlt).trans HROWR.out)
  have hlt4 : w.heap.size + 2 < w4.heap.size := Nat.lt_of_lt_of_le hlt hx.size
  have hB4 := hid (hB.trans (hx.mono hB.size))
  clear hx hlt hz1 hz2 hB
  have c1 : w4.cell? ⟨w.heap.size, 0, none⟩ = some (.int .i64 k) ∧ w4.cell? ⟨w.heap.size, 1, none⟩ = some (.int .i64 cap) ∧ w4.cell? ⟨w.heap.size, 2, none⟩ = some (.int .i64 num) ∧ w4.cell? ⟨w.heap.size, 3, none⟩ = some (.int .i64 den) ∧ w4.cell? ⟨w.heap.size, 4, none⟩ = some (.int .i64 width) ∧ w4.cell? ⟨w.heap.size, 5, none⟩ = some (.int .i64 n) ∧ w4.cell? ⟨w.heap.size, 6, none⟩ = some (.int .i64 keys) ∧ w4.cell? ⟨w.heap.size, 7, none⟩ = some (.int .i64 slots) ∧ w4.cell? ⟨w.heap.size, 8, none⟩ = some (.int .i64 every) ∧ w4.cell? ⟨w.heap.size, 9, none⟩ = some (.int .i64 seg) := by have hp := HP4.out; simp [World.cell?, hp]
  obtain ⟨a0, a1, a2, a3, a4, a5, a6, a7, a8, a9⟩ := c1
  have d2 : w4.cell? ⟨w.heap.size + 2, 0, none⟩ = some (.int .i64 0) ∧ w4.cell? ⟨w.heap.size + 2, 1, none⟩ = some (.slice none 0 0) := by have hp := HR4.out; simp [World.cell?, hp]
  go_wp2_with fail
  refine (HF.out _).mono ?_
  rintro e w5 ⟨sl, rfl, ho, hb⟩
  have HO := hid ho
  clear ho
  have hrow := (hb.block _ hlt4).trans HR4.out
  have hlt5 : w.heap.size + 2 < w5.heap.size := Nat.lt_of_lt_of_le hlt4 hb.size
  obtain ⟨A2, cc, rfl, hf⟩ := HO.out.form
  have d2 : w5.cell? ⟨w.heap.size + 2, 0, none⟩ = some (.int .i64 0) ∧ w5.cell? ⟨w.heap.size + 2, 1, none⟩ = some (.slice none 0 0) ∧ w5.frozen? ⟨w.heap.size + 2, 0, none⟩ = false ∧ w5.frozen? ⟨w.heap.size + 2, 1, none⟩ = false := by simp [World.cell?, World.frozen?, hrow]
  obtain ⟨e0, e1, e2, e3⟩ := d2
  have hrow2 := row_set2 (x := .int .i64 0) (y := .slice A2 (zeros (n : Int).toNat).length cc) hrow
  have HROW2 := hid hrow2
  have HHF := hid hf
  clear hf
  clear hrow hrow2 a0 a1 a2 a3 a4 a5 a6 a7 a8 a9
  go_wp2_with fail
  refine bodyPost_ret (results_cell_row rfl _ _ (w.heap.size + 2) 26 #[.int .i64 0, .slice A2 (zeros (n : Int).toNat).length cc] (0, 0) _ rfl HROW2.out Try.underlying26 rfl info26) rfl ?_
  have hs4 := hB4.out.size
  refine ⟨_, rfl, ?_, ((hB4.out.trans (hb.mono hs4)).setCell (show w.heap.size ≤ w.heap.size + 2 by omega) _).setCell (show w.heap.size ≤ w.heap.size + 2 by omega) _⟩
  refine Own.of_block (w := w5) (HO.out.lower hs4) fun k hk => ?_
  have hk2 := (World.ownsRow.lt HO.out k hk).1
  rw [heap_setCell_other _ _ _ _ (by simp; omega), heap_setCell_other _ _ _ _ (by simp; omega)]

set_option maxHeartbeats 2000000 in
set_option linter.unusedVariables false in
theorem counts_len (p : Pol) (gg : Int) (l : List Int) (A : Option Addr) (c : Nat) (w : World) (hm : meansW p = true) (hl : l.length ≤ 9223372036854775807)
    (hrd : 0 < l.length → ∃ g o, A = some ⟨g, o, none⟩ ∧ g < w.heap.size ∧ ∀ i, i < l.length → w.cell? ⟨g, o + i, none⟩ = some (.int .i64 (l.getD i 0))) (h0 : ¬ gg < 0) (h1 : ¬ gridN p 1099511627776 < gg) (h2 : ¬ (l.length : Int) = p.count) :
    Calls Try.prog 32 #[.agg #[.int .i64 p.k, .int .i64 p.cap, .int .i64 p.num, .int .i64 p.den, .int .i64 p.width, .int .i64 p.count, .int .i64 p.keys, .int .i64 p.slots, .int .i64 p.every, .int .i64 p.seg], .agg #[.int .i64 gg, .slice A l.length c]] w fun e w' => ∃ sl, e = .returned (.agg #[.int .i64 0, sl]) ∧ Own w.heap.size w' sl (zeros p.count.toNat) ∧ Below w.heap.size w w' := by
  have hgd := fun w => grid_any p 1099511627776 w
  have hfr := fun w => fresh_yes p 0 hm w
  rw [gridP_yes hm] at hgd
  rw [gridN_zero] at hfr
  have hcc := (meansW_bounds hm).2.2.2
  obtain ⟨k, cap, num, den, width, count, keys, slots, every, seg⟩ := p
  dsimp only at *
  obtain ⟨n, rfl⟩ : ∃ n : Nat, count = n := ⟨count.toNat, by omega⟩
  generalize gridN _ 1099511627776 = gt at *
  have hct : ∀ w1, Below w.heap.size w w1 → Calls Try.prog 41 #[.slice A l.length c, .func (.func 40) #[] #[]] w1 fun e w' => e = .returned (.bool (l.any badN)) ∧ w1 = w' := fun w1 hb =>
    contains_any l A c w1 (by omega) fun h0 => by
      obtain ⟨g, o, e, hg, hc⟩ := hrd h0
      exact ⟨g, o, e, Nat.lt_of_lt_of_le hg hb.size, fun i hi => (hb.cell (p := ⟨g, o + i, none⟩) hg).trans (hc i hi)⟩
  have HG := hid hgd
  have HF := hid hfr
  have HCT := hid hct
  have HRD := hid hrd
  clear hm hgd hfr hct hrd
  go_enter Try.func32, Try.ntmps32
  go_upto_region 2 with fail
  refine abstract_world (fun W => Below w.heap.size w W ∧ w.heap.size + 2 < W.heap.size ∧ W.heap[w.heap.size]? = some (.cells #[.int .i64 k, .int .i64 cap, .int .i64 num, .int .i64 den, .int .i64 width, .int .i64 n, .int .i64 keys, .int .i64 slots, .int .i64 every, .int .i64 seg] 23 (0, 0)) ∧ W.heap[w.heap.size + 1]? = some (.cells #[.int .i64 gg, .slice A l.length c] 26 (0, 0)) ∧ W.heap[w.heap.size + 2]? = some (.cells #[.int .i64 0, .slice none 0 0] 26 (0, 0))) ?_ ?_
  · refine ⟨(((Below.refl _ _).alloc (Nat.le_refl _) _).alloc (by simp) _).alloc (by simp; omega) _, by simp, ?_, ?_, ?_⟩
    · exact heap_alloc_keep _ _ (heap_alloc_keep _ _ (heap_alloc_same _ _))
    · have := heap_alloc_same (w.alloc (.cells #[.int .i64 k, .int .i64 cap, .int .i64 num, .int .i64 den, .int .i64 width, .int .i64 n, .int .i64 keys, .int .i64 slots, .int .i64 every, .int .i64 seg] 23)) (.cells #[.int .i64 gg, .slice A l.length c] 26)
      exact heap_alloc_keep _ _ (by simpa using this)
    · have := heap_alloc_same ((w.alloc (.cells #[.int .i64 k, .int .i64 cap, .int .i64 num, .int .i64 den, .int .i64 width, .int .i64 n, .int .i64 keys, .int .i64 slots, .int .i64 every, .int .i64 seg] 23)).alloc (.cells #[.int .i64 gg, .slice A l.length c] 26)) (.cells #[.int .i64 0, .slice none 0 0] 26)
      simpa using this
  intro W ⟨hB, hlt, hp, hs, hr⟩
  have hbne : ((l.length : Int) != (n : Int)) = true := by simp; omega
  have HCTL := hid (fun x : Later W => HCT.out x.world (hB.trans (x.below.mono hB.size)))
  have c1 : W.cell? ⟨w.heap.size, 0, none⟩ = some (.int .i64 k) ∧ W.cell? ⟨w.heap.size, 1, none⟩ = some (.int .i64 cap) ∧ W.cell? ⟨w.heap.size, 2, none⟩ = some (.int .i64 num) ∧ W.cell? ⟨w.heap.size, 3, none⟩ = some (.int .i64 den) ∧ W.cell? ⟨w.heap.size, 4, none⟩ = some (.int .i64 width) ∧ W.cell? ⟨w.heap.size, 5, none⟩ = some (.int .i64 n) ∧ W.cell? ⟨w.heap.size, 6, none⟩ = some (.int .i64 keys) ∧ W.cell? ⟨w.heap.size, 7, none⟩ = some (.int .i64 slots) ∧ W.cell? ⟨w.heap.size, 8, none⟩ = some (.int .i64 every) ∧ W.cell? ⟨w.heap.size, 9, none⟩ = some (.int .i64 seg) := by simp [World.cell?, hp]
  have c2 : W.cell? ⟨w.heap.size + 1, 0, none⟩ = some (.int .i64 gg) ∧ W.cell? ⟨w.heap.size + 1, 1, none⟩ = some (.slice A l.length c) := by simp [World.cell?, hs]
  obtain ⟨a0, a1, a2, a3, a4, a5, a6, a7, a8, a9⟩ := c1
  obtain ⟨b0, b1⟩ := c2
  have hz1 : w.heap.size < W.heap.size := by omega
  have hz2 : w.heap.size + 1 < W.heap.size := by omega
  have x0 := fun x : Later W => Later.cell (a := ⟨w.heap.size, 0, none⟩) hz1 a0 x
  have x1 := fun x : Later W => Later.cell (a := ⟨w.heap.size, 1, none⟩) hz1 a1 x
  have x2 := fun x : Later W => Later.cell (a := ⟨w.heap.size, 2, none⟩) hz1 a2 x
  have x3 := fun x : Later W => Later.cell (a := ⟨w.heap.size, 3, none⟩) hz1 a3 x
  have x4 := fun x : Later W => Later.cell (a := ⟨w.heap.size, 4, none⟩) hz1 a4 x
  have x5 := fun x : Later W => Later.cell (a := ⟨w.heap.size, 5, none⟩) hz1 a5 x
  have x6 := fun x : Later W => Later.cell (a := ⟨w.heap.size, 6, none⟩) hz1 a6 x
  have x7 := fun x : Later W => Later.cell (a := ⟨w.heap.size, 7, none⟩) hz1 a7 x
  have x8 := fun x : Later W => Later.cell (a := ⟨w.heap.size, 8, none⟩) hz1 a8 x
  have x9 := fun x : Later W => Later.cell (a := ⟨w.heap.size, 9, none⟩) hz1 a9 x
  have y0 := fun x : Later W => Later.cell (a := ⟨w.heap.size + 1, 0, none⟩) hz2 b0 x
  have y1 := fun x : Later W => Later.cell (a := ⟨w.heap.size + 1, 1, none⟩) hz2 b1 x
  have HROWP := hid hp
  have HROWS := hid hs
  have HROWR := hid hr
  clear a0 a1 a2 a3 a4 a5 a6 a7 a8 a9 b0 b1 hp hs hr
  generalize hany : l.any badN = q at *
  refine wp_region_quiet_later (by kernel_rfl) (by kernel_rfl) ?_
  repeat (go_big_quiet_step ((first | (go_at_call 17; refine later_of (v := .int .i64 gt) ?_; exact HG.out _) | (go_at_call 41; refine later_same (v := .bool q) ?_; exact HCTL.out _))))
  refine wpQuiet_nil ?_
  intro _ hw'
  obtain ⟨x, hw''⟩ := hw'
  subst hw''
  have hx := x.below
  generalize x.world = w4 at hx
  clear x x0 x1 x2 x3 x4 x5 x6 x7 x8 x9 y0 y1
  have HP4 := hid ((hx.block _ (by omega : w.heap.size < W.heap.size)).trans HROWP.out)
  have HS4 := hid ((hx.block _ (by omega : w.heap.size + 1 < W.heap.size)).trans HROWS.out)
  have HR4 := hid ((hx.block _ hlt).trans HROWR.out)
  have hlt4 : w.heap.size + 2 < w4.heap.size := Nat.lt_of_lt_of_le hlt hx.size
  have hB4 := hid (hB.trans (hx.mono hB.size))
  clear hx hlt hz1 hz2 hB
  have c1 : w4.cell? ⟨w.heap.size, 0, none⟩ = some (.int .i64 k) ∧ w4.cell? ⟨w.heap.size, 1, none⟩ = some (.int .i64 cap) ∧ w4.cell? ⟨w.heap.size, 2, none⟩ = some (.int .i64 num) ∧ w4.cell? ⟨w.heap.size, 3, none⟩ = some (.int .i64 den) ∧ w4.cell? ⟨w.heap.size, 4, none⟩ = some (.int .i64 width) ∧ w4.cell? ⟨w.heap.size, 5, none⟩ = some (.int .i64 n) ∧ w4.cell? ⟨w.heap.size, 6, none⟩ = some (.int .i64 keys) ∧ w4.cell? ⟨w.heap.size, 7, none⟩ = some (.int .i64 slots) ∧ w4.cell? ⟨w.heap.size, 8, none⟩ = some (.int .i64 every) ∧ w4.cell? ⟨w.heap.size, 9, none⟩ = some (.int .i64 seg) := by have hp := HP4.out; simp [World.cell?, hp]
  obtain ⟨a0, a1, a2, a3, a4, a5, a6, a7, a8, a9⟩ := c1
  have d2 : w4.cell? ⟨w.heap.size + 2, 0, none⟩ = some (.int .i64 0) ∧ w4.cell? ⟨w.heap.size + 2, 1, none⟩ = some (.slice none 0 0) := by have hp := HR4.out; simp [World.cell?, hp]
  go_wp2_with fail
  refine (HF.out _).mono ?_
  rintro e w5 ⟨sl, rfl, ho, hb⟩
  have HO := hid ho
  clear ho
  have hrow := (hb.block _ hlt4).trans HR4.out
  have hlt5 : w.heap.size + 2 < w5.heap.size := Nat.lt_of_lt_of_le hlt4 hb.size
  obtain ⟨A2, cc, rfl, hf⟩ := HO.out.form
  have d2 : w5.cell? ⟨w.heap.size + 2, 0, none⟩ = some (.int .i64 0) ∧ w5.cell? ⟨w.heap.size + 2, 1, none⟩ = some (.slice none 0 0) ∧ w5.frozen? ⟨w.heap.size + 2, 0, none⟩ = false ∧ w5.frozen? ⟨w.heap.size + 2, 1, none⟩ = false := by simp [World.cell?, World.frozen?, hrow]
  obtain ⟨e0, e1, e2, e3⟩ := d2
  have hrow2 := row_set2 (x := .int .i64 0) (y := .slice A2 (zeros (n : Int).toNat).length cc) hrow
  have HROW2 := hid hrow2
  have HHF := hid hf
  clear hf
  clear hrow hrow2 a0 a1 a2 a3 a4 a5 a6 a7 a8 a9
  go_wp2_with fail
  refine bodyPost_ret (results_cell_row rfl _ _ (w.heap.size + 2) 26 #[.int .i64 0, .slice A2 (zeros (n : Int).toNat).length cc] (0, 0) _ rfl HROW2.out Try.underlying26 rfl info26) rfl ?_
  have hs4 := hB4.out.size
  refine ⟨_, rfl, ?_, ((hB4.out.trans (hb.mono hs4)).setCell (show w.heap.size ≤ w.heap.size + 2 by omega) _).setCell (show w.heap.size ≤ w.heap.size + 2 by omega) _⟩
  refine Own.of_block (w := w5) (HO.out.lower hs4) fun k hk => ?_
  have hk2 := (World.ownsRow.lt HO.out k hk).1
  rw [heap_setCell_other _ _ _ _ (by simp; omega), heap_setCell_other _ _ _ _ (by simp; omega)]

set_option maxHeartbeats 2000000 in
set_option linter.unusedVariables false in
theorem counts_bad (p : Pol) (gg : Int) (l : List Int) (A : Option Addr) (c : Nat) (w : World) (hm : meansW p = true) (hl : l.length ≤ 9223372036854775807)
    (hrd : 0 < l.length → ∃ g o, A = some ⟨g, o, none⟩ ∧ g < w.heap.size ∧ ∀ i, i < l.length → w.cell? ⟨g, o + i, none⟩ = some (.int .i64 (l.getD i 0))) (h0 : ¬ gg < 0) (h1 : ¬ gridN p 1099511627776 < gg) (h2 : (l.length : Int) = p.count) (h3 : l.any badN = true) :
    Calls Try.prog 32 #[.agg #[.int .i64 p.k, .int .i64 p.cap, .int .i64 p.num, .int .i64 p.den, .int .i64 p.width, .int .i64 p.count, .int .i64 p.keys, .int .i64 p.slots, .int .i64 p.every, .int .i64 p.seg], .agg #[.int .i64 gg, .slice A l.length c]] w fun e w' => ∃ sl, e = .returned (.agg #[.int .i64 0, sl]) ∧ Own w.heap.size w' sl (zeros p.count.toNat) ∧ Below w.heap.size w w' := by
  have hgd := fun w => grid_any p 1099511627776 w
  have hfr := fun w => fresh_yes p 0 hm w
  rw [gridP_yes hm] at hgd
  rw [gridN_zero] at hfr
  have hcc := (meansW_bounds hm).2.2.2
  obtain ⟨k, cap, num, den, width, count, keys, slots, every, seg⟩ := p
  dsimp only at *
  obtain ⟨n, rfl⟩ : ∃ n : Nat, count = n := ⟨count.toNat, by omega⟩
  generalize gridN _ 1099511627776 = gt at *
  have hct : ∀ w1, Below w.heap.size w w1 → Calls Try.prog 41 #[.slice A l.length c, .func (.func 40) #[] #[]] w1 fun e w' => e = .returned (.bool (l.any badN)) ∧ w1 = w' := fun w1 hb =>
    contains_any l A c w1 (by omega) fun h0 => by
      obtain ⟨g, o, e, hg, hc⟩ := hrd h0
      exact ⟨g, o, e, Nat.lt_of_lt_of_le hg hb.size, fun i hi => (hb.cell (p := ⟨g, o + i, none⟩) hg).trans (hc i hi)⟩
  have HG := hid hgd
  have HF := hid hfr
  have HCT := hid hct
  have HRD := hid hrd
  clear hm hgd hfr hct hrd
  go_enter Try.func32, Try.ntmps32
  go_upto_region 2 with fail
  refine abstract_world (fun W => Below w.heap.size w W ∧ w.heap.size + 2 < W.heap.size ∧ W.heap[w.heap.size]? = some (.cells #[.int .i64 k, .int .i64 cap, .int .i64 num, .int .i64 den, .int .i64 width, .int .i64 n, .int .i64 keys, .int .i64 slots, .int .i64 every, .int .i64 seg] 23 (0, 0)) ∧ W.heap[w.heap.size + 1]? = some (.cells #[.int .i64 gg, .slice A l.length c] 26 (0, 0)) ∧ W.heap[w.heap.size + 2]? = some (.cells #[.int .i64 0, .slice none 0 0] 26 (0, 0))) ?_ ?_
  · refine ⟨(((Below.refl _ _).alloc (Nat.le_refl _) _).alloc (by simp) _).alloc (by simp; omega) _, by simp, ?_, ?_, ?_⟩
    · exact heap_alloc_keep _ _ (heap_alloc_keep _ _ (heap_alloc_same _ _))
    · have := heap_alloc_same (w.alloc (.cells #[.int .i64 k, .int .i64 cap, .int .i64 num, .int .i64 den, .int .i64 width, .int .i64 n, .int .i64 keys, .int .i64 slots, .int .i64 every, .int .i64 seg] 23)) (.cells #[.int .i64 gg, .slice A l.length c] 26)
      exact heap_alloc_keep _ _ (by simpa using this)
    · have := heap_alloc_same ((w.alloc (.cells #[.int .i64 k, .int .i64 cap, .int .i64 num, .int .i64 den, .int .i64 width, .int .i64 n, .int .i64 keys, .int .i64 slots, .int .i64 every, .int .i64 seg] 23)).alloc (.cells #[.int .i64 gg, .slice A l.length c] 26)) (.cells #[.int .i64 0, .slice none 0 0] 26)
      simpa using this
  intro W ⟨hB, hlt, hp, hs, hr⟩
  obtain rfl : n = l.length := by omega
  have HCTL := hid (fun x : Later W => HCT.out x.world (hB.trans (x.below.mono hB.size)))
  have c1 : W.cell? ⟨w.heap.size, 0, none⟩ = some (.int .i64 k) ∧ W.cell? ⟨w.heap.size, 1, none⟩ = some (.int .i64 cap) ∧ W.cell? ⟨w.heap.size, 2, none⟩ = some (.int .i64 num) ∧ W.cell? ⟨w.heap.size, 3, none⟩ = some (.int .i64 den) ∧ W.cell? ⟨w.heap.size, 4, none⟩ = some (.int .i64 width) ∧ W.cell? ⟨w.heap.size, 5, none⟩ = some (.int .i64 l.length) ∧ W.cell? ⟨w.heap.size, 6, none⟩ = some (.int .i64 keys) ∧ W.cell? ⟨w.heap.size, 7, none⟩ = some (.int .i64 slots) ∧ W.cell? ⟨w.heap.size, 8, none⟩ = some (.int .i64 every) ∧ W.cell? ⟨w.heap.size, 9, none⟩ = some (.int .i64 seg) := by simp [World.cell?, hp]
  have c2 : W.cell? ⟨w.heap.size + 1, 0, none⟩ = some (.int .i64 gg) ∧ W.cell? ⟨w.heap.size + 1, 1, none⟩ = some (.slice A l.length c) := by simp [World.cell?, hs]
  obtain ⟨a0, a1, a2, a3, a4, a5, a6, a7, a8, a9⟩ := c1
  obtain ⟨b0, b1⟩ := c2
  have hz1 : w.heap.size < W.heap.size := by omega
  have hz2 : w.heap.size + 1 < W.heap.size := by omega
  have x0 := fun x : Later W => Later.cell (a := ⟨w.heap.size, 0, none⟩) hz1 a0 x
  have x1 := fun x : Later W => Later.cell (a := ⟨w.heap.size, 1, none⟩) hz1 a1 x
  have x2 := fun x : Later W => Later.cell (a := ⟨w.heap.size, 2, none⟩) hz1 a2 x
  have x3 := fun x : Later W => Later.cell (a := ⟨w.heap.size, 3, none⟩) hz1 a3 x
  have x4 := fun x : Later W => Later.cell (a := ⟨w.heap.size, 4, none⟩) hz1 a4 x
  have x5 := fun x : Later W => Later.cell (a := ⟨w.heap.size, 5, none⟩) hz1 a5 x
  have x6 := fun x : Later W => Later.cell (a := ⟨w.heap.size, 6, none⟩) hz1 a6 x
  have x7 := fun x : Later W => Later.cell (a := ⟨w.heap.size, 7, none⟩) hz1 a7 x
  have x8 := fun x : Later W => Later.cell (a := ⟨w.heap.size, 8, none⟩) hz1 a8 x
  have x9 := fun x : Later W => Later.cell (a := ⟨w.heap.size, 9, none⟩) hz1 a9 x
  have y0 := fun x : Later W => Later.cell (a := ⟨w.heap.size + 1, 0, none⟩) hz2 b0 x
  have y1 := fun x : Later W => Later.cell (a := ⟨w.heap.size + 1, 1, none⟩) hz2 b1 x
  have HROWP := hid hp
  have HROWS := hid hs
  have HROWR := hid hr
  clear a0 a1 a2 a3 a4 a5 a6 a7 a8 a9 b0 b1 hp hs hr
  generalize hany : l.any badN = q at *
  refine wp_region_quiet_later (by kernel_rfl) (by kernel_rfl) ?_
  repeat (go_big_quiet_step ((first | (go_at_call 17; refine later_of (v := .int .i64 gt) ?_; exact HG.out _) | (go_at_call 41; refine later_same (v := .bool q) ?_; exact HCTL.out _))))
  refine wpQuiet_nil ?_
  intro _ hw'
  obtain ⟨x, hw''⟩ := hw'
  subst hw''
  have hx := x.below
  generalize x.world = w4 at hx
  clear x x0 x1 x2 x3 x4 x5 x6 x7 x8 x9 y0 y1
  have HP4 := hid ((hx.block _ (by omega : w.heap.size < W.heap.size)).trans HROWP.out)
  have HS4 := hid ((hx.block _ (by omega : w.heap.size + 1 < W.heap.size)).trans HROWS.out)
  have HR4 := hid ((hx.block _ hlt).trans HROWR.out)
  have hlt4 : w.heap.size + 2 < w4.heap.size := Nat.lt_of_lt_of_le hlt hx.size
  have hB4 := hid (hB.trans (hx.mono hB.size))
  clear hx hlt hz1 hz2 hB
  subst h3
  have c1 : w4.cell? ⟨w.heap.size, 0, none⟩ = some (.int .i64 k) ∧ w4.cell? ⟨w.heap.size, 1, none⟩ = some (.int .i64 cap) ∧ w4.cell? ⟨w.heap.size, 2, none⟩ = some (.int .i64 num) ∧ w4.cell? ⟨w.heap.size, 3, none⟩ = some (.int .i64 den) ∧ w4.cell? ⟨w.heap.size, 4, none⟩ = some (.int .i64 width) ∧ w4.cell? ⟨w.heap.size, 5, none⟩ = some (.int .i64 l.length) ∧ w4.cell? ⟨w.heap.size, 6, none⟩ = some (.int .i64 keys) ∧ w4.cell? ⟨w.heap.size, 7, none⟩ = some (.int .i64 slots) ∧ w4.cell? ⟨w.heap.size, 8, none⟩ = some (.int .i64 every) ∧ w4.cell? ⟨w.heap.size, 9, none⟩ = some (.int .i64 seg) := by have hp := HP4.out; simp [World.cell?, hp]
  obtain ⟨a0, a1, a2, a3, a4, a5, a6, a7, a8, a9⟩ := c1
  have d2 : w4.cell? ⟨w.heap.size + 2, 0, none⟩ = some (.int .i64 0) ∧ w4.cell? ⟨w.heap.size + 2, 1, none⟩ = some (.slice none 0 0) := by have hp := HR4.out; simp [World.cell?, hp]
  go_wp2_with fail
  refine (HF.out _).mono ?_
  rintro e w5 ⟨sl, rfl, ho, hb⟩
  have HO := hid ho
  clear ho
  have hrow := (hb.block _ hlt4).trans HR4.out
  have hlt5 : w.heap.size + 2 < w5.heap.size := Nat.lt_of_lt_of_le hlt4 hb.size
  obtain ⟨A2, cc, rfl, hf⟩ := HO.out.form
  have d2 : w5.cell? ⟨w.heap.size + 2, 0, none⟩ = some (.int .i64 0) ∧ w5.cell? ⟨w.heap.size + 2, 1, none⟩ = some (.slice none 0 0) ∧ w5.frozen? ⟨w.heap.size + 2, 0, none⟩ = false ∧ w5.frozen? ⟨w.heap.size + 2, 1, none⟩ = false := by simp [World.cell?, World.frozen?, hrow]
  obtain ⟨e0, e1, e2, e3⟩ := d2
  have hrow2 := row_set2 (x := .int .i64 0) (y := .slice A2 (zeros (l.length : Int).toNat).length cc) hrow
  have HROW2 := hid hrow2
  have HHF := hid hf
  clear hf
  clear hrow hrow2 a0 a1 a2 a3 a4 a5 a6 a7 a8 a9
  go_wp2_with fail
  refine bodyPost_ret (results_cell_row rfl _ _ (w.heap.size + 2) 26 #[.int .i64 0, .slice A2 (zeros (l.length : Int).toNat).length cc] (0, 0) _ rfl HROW2.out Try.underlying26 rfl info26) rfl ?_
  have hs4 := hB4.out.size
  refine ⟨_, rfl, ?_, ((hB4.out.trans (hb.mono hs4)).setCell (show w.heap.size ≤ w.heap.size + 2 by omega) _).setCell (show w.heap.size ≤ w.heap.size + 2 by omega) _⟩
  refine Own.of_block (w := w5) (HO.out.lower hs4) fun k hk => ?_
  have hk2 := (World.ownsRow.lt HO.out k hk).1
  rw [heap_setCell_other _ _ _ _ (by simp; omega), heap_setCell_other _ _ _ _ (by simp; omega)]

set_option maxHeartbeats 2000000 in
set_option linter.unusedVariables false in
theorem counts_ok (p : Pol) (gg : Int) (l : List Int) (A : Option Addr) (c : Nat) (w : World) (hm : meansW p = true) (hl : l.length ≤ 9223372036854775807)
    (hrd : 0 < l.length → ∃ g o, A = some ⟨g, o, none⟩ ∧ g < w.heap.size ∧ ∀ i, i < l.length → w.cell? ⟨g, o + i, none⟩ = some (.int .i64 (l.getD i 0))) (h0 : ¬ gg < 0) (h1 : ¬ gridN p 1099511627776 < gg) (h2 : (l.length : Int) = p.count) (h3 : l.any badN = false) :
    Calls Try.prog 32 #[.agg #[.int .i64 p.k, .int .i64 p.cap, .int .i64 p.num, .int .i64 p.den, .int .i64 p.width, .int .i64 p.count, .int .i64 p.keys, .int .i64 p.slots, .int .i64 p.every, .int .i64 p.seg], .agg #[.int .i64 gg, .slice A l.length c]] w fun e w' => ∃ sl, e = .returned (.agg #[.int .i64 gg, sl]) ∧ Own w.heap.size w' sl l ∧ Below w.heap.size w w' := by
  have hgd := fun w => grid_any p 1099511627776 w
  have hfr := fun w => fresh_yes p 0 hm w
  rw [gridP_yes hm] at hgd
  rw [gridN_zero] at hfr
  have hcc := (meansW_bounds hm).2.2.2
  obtain ⟨k, cap, num, den, width, count, keys, slots, every, seg⟩ := p
  dsimp only at *
  obtain ⟨n, rfl⟩ : ∃ n : Nat, count = n := ⟨count.toNat, by omega⟩
  generalize gridN _ 1099511627776 = gt at *
  have hct : ∀ w1, Below w.heap.size w w1 → Calls Try.prog 41 #[.slice A l.length c, .func (.func 40) #[] #[]] w1 fun e w' => e = .returned (.bool (l.any badN)) ∧ w1 = w' := fun w1 hb =>
    contains_any l A c w1 (by omega) fun h0 => by
      obtain ⟨g, o, e, hg, hc⟩ := hrd h0
      exact ⟨g, o, e, Nat.lt_of_lt_of_le hg hb.size, fun i hi => (hb.cell (p := ⟨g, o + i, none⟩) hg).trans (hc i hi)⟩
  have HG := hid hgd
  have HF := hid hfr
  have HCT := hid hct
  have HRD := hid hrd
  clear hm hgd hfr hct hrd
  go_enter Try.func32, Try.ntmps32
  go_upto_region 2 with fail
  refine abstract_world (fun W => Below w.heap.size w W ∧ w.heap.size + 2 < W.heap.size ∧ W.heap[w.heap.size]? = some (.cells #[.int .i64 k, .int .i64 cap, .int .i64 num, .int .i64 den, .int .i64 width, .int .i64 n, .int .i64 keys, .int .i64 slots, .int .i64 every, .int .i64 seg] 23 (0, 0)) ∧ W.heap[w.heap.size + 1]? = some (.cells #[.int .i64 gg, .slice A l.length c] 26 (0, 0)) ∧ W.heap[w.heap.size + 2]? = some (.cells #[.int .i64 0, .slice none 0 0] 26 (0, 0))) ?_ ?_
  · refine ⟨(((Below.refl _ _).alloc (Nat.le_refl _) _).alloc (by simp) _).alloc (by simp; omega) _, by simp, ?_, ?_, ?_⟩
    · exact heap_alloc_keep _ _ (heap_alloc_keep _ _ (heap_alloc_same _ _))
    · have := heap_alloc_same (w.alloc (.cells #[.int .i64 k, .int .i64 cap, .int .i64 num, .int .i64 den, .int .i64 width, .int .i64 n, .int .i64 keys, .int .i64 slots, .int .i64 every, .int .i64 seg] 23)) (.cells #[.int .i64 gg, .slice A l.length c] 26)
      exact heap_alloc_keep _ _ (by simpa using this)
    · have := heap_alloc_same ((w.alloc (.cells #[.int .i64 k, .int .i64 cap, .int .i64 num, .int .i64 den, .int .i64 width, .int .i64 n, .int .i64 keys, .int .i64 slots, .int .i64 every, .int .i64 seg] 23)).alloc (.cells #[.int .i64 gg, .slice A l.length c] 26)) (.cells #[.int .i64 0, .slice none 0 0] 26)
      simpa using this
  intro W ⟨hB, hlt, hp, hs, hr⟩
  obtain rfl : n = l.length := by omega
  have HCTL := hid (fun x : Later W => HCT.out x.world (hB.trans (x.below.mono hB.size)))
  have c1 : W.cell? ⟨w.heap.size, 0, none⟩ = some (.int .i64 k) ∧ W.cell? ⟨w.heap.size, 1, none⟩ = some (.int .i64 cap) ∧ W.cell? ⟨w.heap.size, 2, none⟩ = some (.int .i64 num) ∧ W.cell? ⟨w.heap.size, 3, none⟩ = some (.int .i64 den) ∧ W.cell? ⟨w.heap.size, 4, none⟩ = some (.int .i64 width) ∧ W.cell? ⟨w.heap.size, 5, none⟩ = some (.int .i64 l.length) ∧ W.cell? ⟨w.heap.size, 6, none⟩ = some (.int .i64 keys) ∧ W.cell? ⟨w.heap.size, 7, none⟩ = some (.int .i64 slots) ∧ W.cell? ⟨w.heap.size, 8, none⟩ = some (.int .i64 every) ∧ W.cell? ⟨w.heap.size, 9, none⟩ = some (.int .i64 seg) := by simp [World.cell?, hp]
  have c2 : W.cell? ⟨w.heap.size + 1, 0, none⟩ = some (.int .i64 gg) ∧ W.cell? ⟨w.heap.size + 1, 1, none⟩ = some (.slice A l.length c) := by simp [World.cell?, hs]
  obtain ⟨a0, a1, a2, a3, a4, a5, a6, a7, a8, a9⟩ := c1
  obtain ⟨b0, b1⟩ := c2
  have hz1 : w.heap.size < W.heap.size := by omega
  have hz2 : w.heap.size + 1 < W.heap.size := by omega
  have x0 := fun x : Later W => Later.cell (a := ⟨w.heap.size, 0, none⟩) hz1 a0 x
  have x1 := fun x : Later W => Later.cell (a := ⟨w.heap.size, 1, none⟩) hz1 a1 x
  have x2 := fun x : Later W => Later.cell (a := ⟨w.heap.size, 2, none⟩) hz1 a2 x
  have x3 := fun x : Later W => Later.cell (a := ⟨w.heap.size, 3, none⟩) hz1 a3 x
  have x4 := fun x : Later W => Later.cell (a := ⟨w.heap.size, 4, none⟩) hz1 a4 x
  have x5 := fun x : Later W => Later.cell (a := ⟨w.heap.size, 5, none⟩) hz1 a5 x
  have x6 := fun x : Later W => Later.cell (a := ⟨w.heap.size, 6, none⟩) hz1 a6 x
  have x7 := fun x : Later W => Later.cell (a := ⟨w.heap.size, 7, none⟩) hz1 a7 x
  have x8 := fun x : Later W => Later.cell (a := ⟨w.heap.size, 8, none⟩) hz1 a8 x
  have x9 := fun x : Later W => Later.cell (a := ⟨w.heap.size, 9, none⟩) hz1 a9 x
  have y0 := fun x : Later W => Later.cell (a := ⟨w.heap.size + 1, 0, none⟩) hz2 b0 x
  have y1 := fun x : Later W => Later.cell (a := ⟨w.heap.size + 1, 1, none⟩) hz2 b1 x
  have HROWP := hid hp
  have HROWS := hid hs
  have HROWR := hid hr
  clear a0 a1 a2 a3 a4 a5 a6 a7 a8 a9 b0 b1 hp hs hr
  generalize hany : l.any badN = q at *
  refine wp_region_quiet_later (by kernel_rfl) (by kernel_rfl) ?_
  repeat (go_big_quiet_step ((first | (go_at_call 17; refine later_of (v := .int .i64 gt) ?_; exact HG.out _) | (go_at_call 41; refine later_same (v := .bool q) ?_; exact HCTL.out _))))
  refine wpQuiet_nil ?_
  intro _ hw'
  obtain ⟨x, hw''⟩ := hw'
  subst hw''
  have hx := x.below
  generalize x.world = w4 at hx
  clear x x0 x1 x2 x3 x4 x5 x6 x7 x8 x9 y0 y1
  have HP4 := hid ((hx.block _ (by omega : w.heap.size < W.heap.size)).trans HROWP.out)
  have HS4 := hid ((hx.block _ (by omega : w.heap.size + 1 < W.heap.size)).trans HROWS.out)
  have HR4 := hid ((hx.block _ hlt).trans HROWR.out)
  have hlt4 : w.heap.size + 2 < w4.heap.size := Nat.lt_of_lt_of_le hlt hx.size
  have hB4 := hid (hB.trans (hx.mono hB.size))
  clear hx hlt hz1 hz2 hB
  subst h3
  have h0l : 0 < l.length := by omega
  obtain ⟨b, o, rfl, hbw, hbc⟩ := HRD.out h0l
  have HBC := hid hbc
  clear hbc
  go_upto_region 4 with fail
  have c2 : w4.cell? ⟨w.heap.size + 1, 0, none⟩ = some (.int .i64 gg) ∧ w4.cell? ⟨w.heap.size + 1, 1, none⟩ = some (.slice (some ⟨b, o, none⟩) l.length c) := by have hp := HS4.out; simp [World.cell?, hp]
  have d2 : w4.cell? ⟨w.heap.size + 2, 0, none⟩ = some (.int .i64 0) ∧ w4.cell? ⟨w.heap.size + 2, 1, none⟩ = some (.slice none 0 0) ∧ w4.frozen? ⟨w.heap.size + 2, 0, none⟩ = false ∧ w4.frozen? ⟨w.heap.size + 2, 1, none⟩ = false := by have hp := HR4.out; simp [World.cell?, World.frozen?, hp]
  have F : ∀ w', Below w4.heap.size w4 w' → (w'.cell? ⟨w.heap.size + 1, 0, none⟩ = some (.int .i64 gg) ∧ w'.cell? ⟨w.heap.size + 1, 1, none⟩ = some (.slice (some ⟨b, o, none⟩) l.length c) ∧ w'.cell? ⟨w.heap.size + 2, 0, none⟩ = some (valAt w' ⟨w.heap.size + 2, 0, none⟩) ∧ w'.cell? ⟨w.heap.size + 2, 1, none⟩ = some (valAt w' ⟨w.heap.size + 2, 1, none⟩) ∧ w'.frozen? ⟨w.heap.size + 2, 0, none⟩ = false ∧ w'.frozen? ⟨w.heap.size + 2, 1, none⟩ = false) := by
    intro w' hb
    obtain ⟨e0, e1, e2, e3⟩ := two_below hb hlt4 d2
    exact ⟨(hb.cell (p := ⟨w.heap.size + 1, 0, none⟩) (show w.heap.size + 1 < w4.heap.size by omega)).trans c2.1, (hb.cell (p := ⟨w.heap.size + 1, 1, none⟩) (show w.heap.size + 1 < w4.heap.size by omega)).trans c2.2, valAt_some e0, valAt_some e1, e2, e3⟩
  obtain ⟨b0, b1, b2, b3, b4, b5⟩ := F w4 (Below.refl _ _)
  have hne : w.heap.size + 2 ≠ w.heap.size + 1 := by omega
  have G : ∀ w' x y, Below w4.heap.size w4 w' → (((w'.setCell ⟨w.heap.size + 2, 0, none⟩ x).setCell ⟨w.heap.size + 2, 1, none⟩ y).cell? ⟨w.heap.size + 1, 0, none⟩ = some (.int .i64 gg) ∧ ((w'.setCell ⟨w.heap.size + 2, 0, none⟩ x).setCell ⟨w.heap.size + 2, 1, none⟩ y).cell? ⟨w.heap.size + 1, 1, none⟩ = some (.slice (some ⟨b, o, none⟩) l.length c) ∧ ((w'.setCell ⟨w.heap.size + 2, 0, none⟩ x).setCell ⟨w.heap.size + 2, 1, none⟩ y).cell? ⟨w.heap.size + 2, 0, none⟩ = some (valAt ((w'.setCell ⟨w.heap.size + 2, 0, none⟩ x).setCell ⟨w.heap.size + 2, 1, none⟩ y) ⟨w.heap.size + 2, 0, none⟩) ∧ ((w'.setCell ⟨w.heap.size + 2, 0, none⟩ x).setCell ⟨w.heap.size + 2, 1, none⟩ y).cell? ⟨w.heap.size + 2, 1, none⟩ = some (valAt ((w'.setCell ⟨w.heap.size + 2, 0, none⟩ x).setCell ⟨w.heap.size + 2, 1, none⟩ y) ⟨w.heap.size + 2, 1, none⟩) ∧ ((w'.setCell ⟨w.heap.size + 2, 0, none⟩ x).setCell ⟨w.heap.size + 2, 1, none⟩ y).frozen? ⟨w.heap.size + 2, 0, none⟩ = false ∧ ((w'.setCell ⟨w.heap.size + 2, 0, none⟩ x).setCell ⟨w.heap.size + 2, 1, none⟩ y).frozen? ⟨w.heap.size + 2, 1, none⟩ = false) := by
    intro w' x y hb
    obtain ⟨a0, a1, b0, b1, b2, b3⟩ := F w' hb
    have e0 := valAt_set (b := ⟨w.heap.size + 2, 0, none⟩) (v := x) b0
    have e1 := valAt_set (b := ⟨w.heap.size + 2, 0, none⟩) (v := x) b1
    exact ⟨cell_far (cell_far a0 hne) hne, cell_far (cell_far a1 hne) hne, valAt_set e0, valAt_set e1, by rw [World.frozen?_setCell, World.frozen?_setCell]; exact b2, by rw [World.frozen?_setCell, World.frozen?_setCell]; exact b3⟩
  have F := hid F
  have G := hid G
  have CL := hid (fun w1 (hb : Below w.heap.size w w1) => clone_call l b o c w1 h0l (by omega) (Nat.lt_of_lt_of_le hbw hb.size) (fun i hi => (hb.cell (p := ⟨b, o + i, none⟩) hbw).trans (HBC.out i hi)))
  clear c2 d2 hne
  have hB1 := (Below.refl w4.heap.size w4).drew
  go_region_held3 (fun w' => w'.cell? ⟨w.heap.size + 1, 0, none⟩ = some (.int .i64 gg) ∧ w'.cell? ⟨w.heap.size + 1, 1, none⟩ = some (.slice (some ⟨b, o, none⟩) l.length c) ∧ w'.cell? ⟨w.heap.size + 2, 0, none⟩ = some (valAt w' ⟨w.heap.size + 2, 0, none⟩) ∧ w'.cell? ⟨w.heap.size + 2, 1, none⟩ = some (valAt w' ⟨w.heap.size + 2, 1, none⟩) ∧ w'.frozen? ⟨w.heap.size + 2, 0, none⟩ = false ∧ w'.frozen? ⟨w.heap.size + 2, 1, none⟩ = false)
    (first | exact F.out _ hB1 | exact F.out _ (hB1.trans hb) | exact G.out _ _ _ (hB1.trans hb) | go_keep)
    (first | (go_at_call 42; refine (CL.out _ (hB4.out.drew)).mono ?_; rintro e w5 ⟨sl, rfl, ho, hb⟩; obtain ⟨A2, cc, rfl, hf⟩ := ho.form))
  go_wp2_with fail
  have hrow := row_set2 (x := .int .i64 gg) (y := .slice A2 l.length cc) (((hB1.trans hb).block _ hlt4).trans HR4.out)
  refine bodyPost_ret (results_cell_row rfl _ _ (w.heap.size + 2) 26 #[.int .i64 gg, .slice A2 l.length cc] (0, 0) _ rfl hrow Try.underlying26 rfl info26) rfl ?_
  have hs4 := hB4.out.size
  refine ⟨_, rfl, ?_, ((hB4.out.trans ((hB1.trans hb).mono hs4)).setCell (show w.heap.size ≤ w.heap.size + 2 by omega) _).setCell (show w.heap.size ≤ w.heap.size + 2 by omega) _⟩
  refine Own.of_block (w := w5) (ho.lower hs4) fun k hk => ?_
  have hk2 := (World.ownsRow.lt ho k hk).1
  simp at hk2
  rw [heap_setCell_other _ _ _ _ (by simp; omega), heap_setCell_other _ _ _ _ (by simp; omega)]

theorem counts_call (p : Pol) (s : Win) (A : Option Addr) (c : Nat) (w : World) (hm : meansW p = true) (hl : s.l.length ≤ 9223372036854775807)
    (hrd : 0 < s.l.length → ∃ g o, A = some ⟨g, o, none⟩ ∧ g < w.heap.size ∧ ∀ i, i < s.l.length → w.cell? ⟨g, o + i, none⟩ = some (.int .i64 (s.l.getD i 0))) :
    Calls Try.prog 32 #[.agg #[.int .i64 p.k, .int .i64 p.cap, .int .i64 p.num, .int .i64 p.den, .int .i64 p.width, .int .i64 p.count, .int .i64 p.keys, .int .i64 p.slots, .int .i64 p.every, .int .i64 p.seg], .agg #[.int .i64 s.g, .slice A s.l.length c]] w fun e w' => ∃ sl, e = .returned (.agg #[.int .i64 (countsN p s).g, sl]) ∧ Own w.heap.size w' sl (countsN p s).l ∧ Below w.heap.size w w' := by
  have hbad : goodP p s = false → countsN p s = ⟨0, zeros p.count.toNat⟩ := fun h => by simp [countsN, h, freshN, gridN_zero]
  by_cases h0 : s.g < 0
  · rw [hbad (by simp [goodP]; omega)]
    exact counts_low p s.g s.l A c w hm hl hrd h0
  by_cases h1 : gridN p 1099511627776 < s.g
  · rw [hbad (by simp [goodP]; omega)]
    exact counts_high p s.g s.l A c w hm hl hrd h0 h1
  by_cases h2 : (s.l.length : Int) = p.count
  · cases h3 : s.l.any badN with
    | true =>
      rw [hbad (by simp only [goodP, h3]; simp)]
      exact counts_bad p s.g s.l A c w hm hl hrd h0 h1 h2 h3
    | false =>
      have e : countsN p s = s := by
        have : goodP p s = true := by simp only [goodP, h3]; simp; omega
        simp [countsN, this]
      rw [e]
      exact counts_ok p s.g s.l A c w hm hl hrd h0 h1 h2 h3
  · rw [hbad (by simp [goodP]; omega)]
    exact counts_len p s.g s.l A c w hm hl hrd h0 h1 h2

end Go.Proofs.Ytkcnenekmjgmgaa
end

section
/- The boxes of a call that is handed a policy and a window: what stands in them. And: Total. -/
namespace Go.Proofs.Ytkcnenekmjgmgaa
open Go.RowKit

/-- The boxes of the two arguments. -/
structure Boxes (w W : World) (p : Pol) (x y : Value) : Prop where
  below : Below w.heap.size w W
  lt : w.heap.size + 1 < W.heap.size
  pol : W.heap[w.heap.size]? = some (.cells #[.int .i64 p.k, .int .i64 p.cap, .int .i64 p.num, .int .i64 p.den, .int .i64 p.width, .int .i64 p.count, .int .i64 p.keys, .int .i64 p.slots, .int .i64 p.every, .int .i64 p.seg] 23 (0, 0))
  sums : W.heap[w.heap.size + 1]? = some (.cells #[x, y] 26 (0, 0))
theorem Boxes.begin (w : World) (p : Pol) (x y : Value) : Boxes w ((w.alloc (.cells #[.int .i64 p.k, .int .i64 p.cap, .int .i64 p.num, .int .i64 p.den, .int .i64 p.width, .int .i64 p.count, .int .i64 p.keys, .int .i64 p.slots, .int .i64 p.every, .int .i64 p.seg] 23)).alloc (.cells #[x, y] 26)) p x y := by
  refine ⟨((Below.refl _ _).alloc (Nat.le_refl _) _).alloc (by simp) _, by simp, ?_, ?_⟩
  · exact heap_alloc_keep _ _ (heap_alloc_same _ _)
  · have := heap_alloc_same (w.alloc (.cells #[.int .i64 p.k, .int .i64 p.cap, .int .i64 p.num, .int .i64 p.den, .int .i64 p.width, .int .i64 p.count, .int .i64 p.keys, .int .i64 p.slots, .int .i64 p.every, .int .i64 p.seg] 23)) (.cells #[x, y] 26)
    simpa using this
theorem Boxes.on {w W W' : World} {p : Pol} {x y : Value} (h : Boxes w W p x y) (hb : Below W.heap.size W W') : Boxes w W' p x y :=
  ⟨h.below.trans (hb.mono h.below.size), Nat.lt_of_lt_of_le h.lt hb.size, (hb.block _ (by have := h.lt; omega)).trans h.pol, (hb.block _ h.lt).trans h.sums⟩
theorem Boxes.cp {w W : World} {p : Pol} {x y : Value} (h : Boxes w W p x y) : W.cell? ⟨w.heap.size, 0, none⟩ = some (.int .i64 p.k) ∧ W.cell? ⟨w.heap.size, 1, none⟩ = some (.int .i64 p.cap) ∧ W.cell? ⟨w.heap.size, 2, none⟩ = some (.int .i64 p.num) ∧ W.cell? ⟨w.heap.size, 3, none⟩ = some (.int .i64 p.den) ∧ W.cell? ⟨w.heap.size, 4, none⟩ = some (.int .i64 p.width) ∧ W.cell? ⟨w.heap.size, 5, none⟩ = some (.int .i64 p.count) ∧ W.cell? ⟨w.heap.size, 6, none⟩ = some (.int .i64 p.keys) ∧ W.cell? ⟨w.heap.size, 7, none⟩ = some (.int .i64 p.slots) ∧ W.cell? ⟨w.heap.size, 8, none⟩ = some (.int .i64 p.every) ∧ W.cell? ⟨w.heap.size, 9, none⟩ = some (.int .i64 p.seg) := by
  have hp := h.pol
  simp [World.cell?, hp]
theorem Boxes.cs {w W : World} {p : Pol} {x y : Value} (h : Boxes w W p x y) : W.cell? ⟨w.heap.size + 1, 0, none⟩ = some x ∧ W.cell? ⟨w.heap.size + 1, 1, none⟩ = some y ∧ W.frozen? ⟨w.heap.size + 1, 0, none⟩ = false ∧ W.frozen? ⟨w.heap.size + 1, 1, none⟩ = false := by
  have hp := h.sums
  simp [World.cell?, World.frozen?, hp]
theorem Boxes.set {w W : World} {p : Pol} {x y : Value} (h : Boxes w W p x y) (x' y' : Value) : Boxes w ((W.setCell ⟨w.heap.size + 1, 0, none⟩ x').setCell ⟨w.heap.size + 1, 1, none⟩ y') p x' y' := by
  refine ⟨(h.below.setCell (show w.heap.size ≤ w.heap.size + 1 by omega) _).setCell (show w.heap.size ≤ w.heap.size + 1 by omega) _, by have := h.lt; simpa using this, ?_, row_set2 h.sums⟩
  rw [heap_setCell_other _ _ _ _ (by simp), heap_setCell_other _ _ _ _ (by simp)]
  exact h.pol

/-- The result's cell. -/
structure Res (w W : World) (x y : Value) : Prop where
  lt : w.heap.size + 2 < W.heap.size
  row : W.heap[w.heap.size + 2]? = some (.cells #[x, y] 26 (0, 0))
theorem Res.on {w W W' : World} {x y : Value} (h : Res w W x y) (hb : Below W.heap.size W W') : Res w W' x y :=
  ⟨Nat.lt_of_lt_of_le h.lt hb.size, (hb.block _ h.lt).trans h.row⟩
theorem Res.cr {w W : World} {x y : Value} (h : Res w W x y) : W.cell? ⟨w.heap.size + 2, 0, none⟩ = some x ∧ W.cell? ⟨w.heap.size + 2, 1, none⟩ = some y ∧ W.frozen? ⟨w.heap.size + 2, 0, none⟩ = false ∧ W.frozen? ⟨w.heap.size + 2, 1, none⟩ = false := by
  have hp := h.row
  simp [World.cell?, World.frozen?, hp]
theorem Res.set {w W : World} {x y : Value} (h : Res w W x y) (x' y' : Value) : Res w ((W.setCell ⟨w.heap.size + 2, 0, none⟩ x').setCell ⟨w.heap.size + 2, 1, none⟩ y') x' y' :=
  ⟨by have := h.lt; simpa using this, row_set2 h.row⟩
theorem Res.setS {w W : World} {x y : Value} (h : Res w W x y) (x' y' : Value) : Res w ((W.setCell ⟨w.heap.size + 1, 0, none⟩ x').setCell ⟨w.heap.size + 1, 1, none⟩ y') x y := by
  refine ⟨by have := h.lt; simpa using this, ?_⟩
  rw [heap_setCell_other _ _ _ _ (by simp), heap_setCell_other _ _ _ _ (by simp)]
  exact h.row
theorem Boxes.setR {w W : World} {p : Pol} {x y : Value} (h : Boxes w W p x y) (x' y' : Value) : Boxes w ((W.setCell ⟨w.heap.size + 2, 0, none⟩ x').setCell ⟨w.heap.size + 2, 1, none⟩ y') p x y := by
  refine ⟨(h.below.setCell (show w.heap.size ≤ w.heap.size + 2 by omega) _).setCell (show w.heap.size ≤ w.heap.size + 2 by omega) _, by have := h.lt; simpa using this, ?_, ?_⟩
  · rw [heap_setCell_other _ _ _ _ (by simp), heap_setCell_other _ _ _ _ (by simp)]
    exact h.pol
  · rw [heap_setCell_other _ _ _ _ (by simp), heap_setCell_other _ _ _ _ (by simp)]
    exact h.sums
/-- A row elsewhere. -/
theorem Own.set2 {B g : Nat} {w : World} {sl : Value} {l : List Int} (h : Own B w sl l) (hg : g < B) (x y : Value) : Own B ((w.setCell ⟨g, 0, none⟩ x).setCell ⟨g, 1, none⟩ y) sl l :=
  h.of_block fun k hk => by
    have := (World.ownsRow.lt h k hk).1
    rw [heap_setCell_other _ _ _ _ (by simp; omega), heap_setCell_other _ _ _ _ (by simp; omega)]

theorem total_call (s : Win) (A : Option Addr) (c : Nat) (w : World) (hl : s.l.length ≤ 9223372036854775807)
    (hrd : 0 < s.l.length → ∃ g o, A = some ⟨g, o, none⟩ ∧ g < w.heap.size ∧ ∀ i, i < s.l.length → w.cell? ⟨g, o + i, none⟩ = some (.int .i64 (s.l.getD i 0))) :
    Calls Try.prog 13 #[.agg #[.int .i64 s.g, .slice A s.l.length c]] w fun e w' => e = .returned (.int .i64 (totalN s)) ∧ Below w.heap.size w w' := by
  unfold totalN
  obtain ⟨gg, l⟩ := s
  dsimp only at *
  by_cases h : 32 < l.length
  · rw [if_pos h]
    clear hrd
    generalize l.length = n at *
    go_enter Try.func13, Try.ntmps13
    go_wp2_with fail
    go_ret
    exact ⟨rfl, (Below.refl _ _).alloc (Nat.le_refl _) _⟩
  · rw [if_neg h]
    have hs : ∀ w1, Below w.heap.size w w1 → Calls Try.prog 34 #[.slice A l.length c] w1 fun e w' => e = .returned (.int .i64 (sumN l)) ∧ w1 = w' := fun w1 hb =>
      sum_any l A c w1 (by omega) fun h0 => by
        obtain ⟨g, o, e, hg, hc⟩ := hrd h0
        exact ⟨g, o, e, Nat.lt_of_lt_of_le hg hb.size, fun i hi => (hb.cell (p := ⟨g, o + i, none⟩) hg).trans (hc i hi)⟩
    have HS := hid hs
    clear hs hrd
    generalize sumN l = q at *
    generalize l.length = n at *
    go_enter Try.func13, Try.ntmps13
    go_wp2_with fail
    refine (HS.out _ ((Below.refl _ _).alloc (Nat.le_refl _) _)).mono ?_
    rintro e w1 ⟨rfl, rfl⟩
    go_wp2_with fail
    go_ret
    exact ⟨rfl, (Below.refl _ _).alloc (Nat.le_refl _) _⟩

end Go.Proofs.Ytkcnenekmjgmgaa
end

section
/- Contract: a window at a later tick. -/
namespace Go.Proofs.Ytkcnenekmjgmgaa
open Go.RowKit

set_option maxHeartbeats 4000000 in
set_option linter.unusedVariables false in
theorem move_stay (p : Pol) (s : Win) (A : Option Addr) (c : Nat) (t : Int) (w : World) (hm : meansW p = true) (hl : s.l.length ≤ 9223372036854775807)
    (hrd : 0 < s.l.length → ∃ g o, A = some ⟨g, o, none⟩ ∧ g < w.heap.size ∧ ∀ i, i < s.l.length → w.cell? ⟨g, o + i, none⟩ = some (.int .i64 (s.l.getD i 0))) (hto : gridN p t ≤ (countsN p s).g) :
    Calls Try.prog 11 #[.agg #[.int .i64 p.k, .int .i64 p.cap, .int .i64 p.num, .int .i64 p.den, .int .i64 p.width, .int .i64 p.count, .int .i64 p.keys, .int .i64 p.slots, .int .i64 p.every, .int .i64 p.seg], .agg #[.int .i64 s.g, .slice A s.l.length c], .int .i64 t] w fun e w' => ∃ sl, e = .returned (.agg #[.int .i64 (countsN p s).g, sl]) ∧ Own w.heap.size w' sl (countsN p s).l ∧ Below w.heap.size w w' := by
  have hgd := fun w => grid_any p t w
  have hfr := fun w => fresh_yes p t hm w
  have hme := fun w => means_any p w
  rw [gridP_yes hm] at hgd
  rw [hm] at hme
  have hcc := (meansW_bounds hm).2.2.2
  have hcg := counts_good hm s
  have hcnt : ∀ w1, Below w.heap.size w w1 → Calls Try.prog 32 #[.agg #[.int .i64 p.k, .int .i64 p.cap, .int .i64 p.num, .int .i64 p.den, .int .i64 p.width, .int .i64 p.count, .int .i64 p.keys, .int .i64 p.slots, .int .i64 p.every, .int .i64 p.seg], .agg #[.int .i64 s.g, .slice A s.l.length c]] w1 fun e w' => ∃ sl, e = .returned (.agg #[.int .i64 (countsN p s).g, sl]) ∧ Own w1.heap.size w' sl (countsN p s).l ∧ Below w1.heap.size w1 w' := fun w1 hb =>
    counts_call p s A c w1 hm hl fun h0 => by
      obtain ⟨g, o, e, hg, hc⟩ := hrd h0
      exact ⟨g, o, e, Nat.lt_of_lt_of_le hg hb.size, fun i hi => (hb.cell (p := ⟨g, o + i, none⟩) hg).trans (hc i hi)⟩
  have hgl := hcg.lo
  have hgh := Int.le_trans hcg.hi (gridN_bound hm _).2
  have htb := gridN_bound hm t
  have hlen : ((countsN p s).l.length : Int) = p.count := by rw [hcg.len]; omega
  have HME := hid hme
  have HG := hid hgd
  have HF := hid hfr
  have CNT := hid hcnt
  clear hm hme hgd hfr hcnt hrd hcg
  generalize gridN p t = tt at *
  generalize s.l.length = ls at *
  generalize s.g = sg at *
  generalize countsN p s = q at *
  obtain ⟨qg, ql⟩ := q
  dsimp only at *
  go_enter Try.func11, Try.ntmps11
  go_upto_region 1 with fail
  refine abstract_world (fun W => Boxes w W p (.int .i64 sg) (.slice A ls c) ∧ Res w W (.int .i64 0) (.slice none 0 0)) ?_ ?_
  · refine ⟨(Boxes.begin w p (.int .i64 sg) (.slice A ls c)).on ((Below.refl _ _).alloc (Nat.le_refl _) _), by simp, ?_⟩
    have := heap_alloc_same ((w.alloc (.cells #[.int .i64 p.k, .int .i64 p.cap, .int .i64 p.num, .int .i64 p.den, .int .i64 p.width, .int .i64 p.count, .int .i64 p.keys, .int .i64 p.slots, .int .i64 p.every, .int .i64 p.seg] 23)).alloc (.cells #[.int .i64 sg, .slice A ls c] 26)) (.cells #[.int .i64 0, .slice none 0 0] 26)
    simpa using this
  intro W ⟨hX, hR⟩
  have X := hid hX
  have R := hid hR
  clear hX hR
  obtain ⟨a0, a1, a2, a3, a4, a5, a6, a7, a8, a9⟩ := X.out.cp
  obtain ⟨b0, b1, b2, b3⟩ := X.out.cs
  obtain ⟨c0, c1, c2, c3⟩ := R.out.cr
  go_wp2_with fail
  refine (HME.out _).mono ?_
  rintro e w1 ⟨rfl, hb⟩
  have X1 := hid (X.out.on hb)
  have R1 := hid (R.out.on hb)
  clear hb
  clear a0 a1 a2 a3 a4 a5 a6 a7 a8 a9 b0 b1 b2 b3 c0 c1 c2 c3
  clear X R
  obtain ⟨a0, a1, a2, a3, a4, a5, a6, a7, a8, a9⟩ := X1.out.cp
  obtain ⟨b0, b1, b2, b3⟩ := X1.out.cs
  obtain ⟨c0, c1, c2, c3⟩ := R1.out.cr
  go_wp2_with fail
  refine (CNT.out _ X1.out.below).mono ?_
  rintro e w2 ⟨sl, rfl, ho, hb⟩
  have hB1 := R1.out.lt
  have X2 := hid ((X1.out.on hb))
  have R2 := hid ((R1.out.on hb))
  obtain ⟨A2, cc, rfl, hf⟩ := ho.form
  have O2 := hid (ho.lower (show w.heap.size + 3 ≤ w1.heap.size by omega))
  clear hb ho hf hB1
  clear a0 a1 a2 a3 a4 a5 a6 a7 a8 a9 b0 b1 b2 b3 c0 c1 c2 c3
  clear X1 R1
  obtain ⟨a0, a1, a2, a3, a4, a5, a6, a7, a8, a9⟩ := X2.out.cp
  obtain ⟨b0, b1, b2, b3⟩ := X2.out.cs
  obtain ⟨c0, c1, c2, c3⟩ := R2.out.cr
  go_upto_region 4 with fail
  clear a0 a1 a2 a3 a4 a5 a6 a7 a8 a9 b0 b1 b2 b3 c0 c1 c2 c3
  refine abstract_world (fun W => Boxes w W p (.int .i64 qg) (.slice A2 ql.length cc) ∧ Res w W (.int .i64 0) (.slice none 0 0) ∧ Own (w.heap.size + 3) W (.slice A2 ql.length cc) ql) ?_ ?_
  · exact ⟨X2.out.set _ _, R2.out.setS _ _, O2.out.set2 (by omega) _ _⟩
  clear X2 R2 O2
  intro W3 ⟨hX, hR, hO⟩
  have X3 := hid hX
  have R3 := hid hR
  have O3 := hid hO
  clear hX hR hO
  obtain ⟨a0, a1, a2, a3, a4, a5, a6, a7, a8, a9⟩ := X3.out.cp
  obtain ⟨b0, b1, b2, b3⟩ := X3.out.cs
  obtain ⟨c0, c1, c2, c3⟩ := R3.out.cr
  go_wp2_with fail
  refine (HG.out _).mono ?_
  rintro e w4 ⟨rfl, hb⟩
  have X4 := hid (X3.out.on hb)
  have R4 := hid (R3.out.on hb)
  have O4 := hid (O3.out.below hb)
  clear hb
  clear a0 a1 a2 a3 a4 a5 a6 a7 a8 a9 b0 b1 b2 b3 c0 c1 c2 c3
  clear X3 R3 O3
  obtain ⟨a0, a1, a2, a3, a4, a5, a6, a7, a8, a9⟩ := X4.out.cp
  obtain ⟨b0, b1, b2, b3⟩ := X4.out.cs
  obtain ⟨c0, c1, c2, c3⟩ := R4.out.cr
  go_wp2_with fail
  refine bodyPost_ret (results_cell_row rfl _ _ (w.heap.size + 2) 26 #[.int .i64 qg, .slice A2 ql.length cc] (0, 0) _ rfl (R4.out.set _ _).row Try.underlying26 rfl info26) rfl ?_
  exact ⟨_, rfl, (O4.out.set2 (by omega) _ _).lower (by omega), (X4.out.setR _ _).below⟩

set_option maxHeartbeats 4000000 in
set_option linter.unusedVariables false in
theorem move_far (p : Pol) (s : Win) (A : Option Addr) (c : Nat) (t : Int) (w : World) (hm : meansW p = true) (hl : s.l.length ≤ 9223372036854775807)
    (hrd : 0 < s.l.length → ∃ g o, A = some ⟨g, o, none⟩ ∧ g < w.heap.size ∧ ∀ i, i < s.l.length → w.cell? ⟨g, o + i, none⟩ = some (.int .i64 (s.l.getD i 0))) (hto : (countsN p s).g < gridN p t) (hfar : p.count ≤ gridN p t - (countsN p s).g) :
    Calls Try.prog 11 #[.agg #[.int .i64 p.k, .int .i64 p.cap, .int .i64 p.num, .int .i64 p.den, .int .i64 p.width, .int .i64 p.count, .int .i64 p.keys, .int .i64 p.slots, .int .i64 p.every, .int .i64 p.seg], .agg #[.int .i64 s.g, .slice A s.l.length c], .int .i64 t] w fun e w' => ∃ sl, e = .returned (.agg #[.int .i64 (gridN p t), sl]) ∧ Own w.heap.size w' sl (zeros p.count.toNat) ∧ Below w.heap.size w w' := by
  have hgd := fun w => grid_any p t w
  have hfr := fun w => fresh_yes p t hm w
  have hme := fun w => means_any p w
  rw [gridP_yes hm] at hgd
  rw [hm] at hme
  have hcc := (meansW_bounds hm).2.2.2
  have hcg := counts_good hm s
  have hcnt : ∀ w1, Below w.heap.size w w1 → Calls Try.prog 32 #[.agg #[.int .i64 p.k, .int .i64 p.cap, .int .i64 p.num, .int .i64 p.den, .int .i64 p.width, .int .i64 p.count, .int .i64 p.keys, .int .i64 p.slots, .int .i64 p.every, .int .i64 p.seg], .agg #[.int .i64 s.g, .slice A s.l.length c]] w1 fun e w' => ∃ sl, e = .returned (.agg #[.int .i64 (countsN p s).g, sl]) ∧ Own w1.heap.size w' sl (countsN p s).l ∧ Below w1.heap.size w1 w' := fun w1 hb =>
    counts_call p s A c w1 hm hl fun h0 => by
      obtain ⟨g, o, e, hg, hc⟩ := hrd h0
      exact ⟨g, o, e, Nat.lt_of_lt_of_le hg hb.size, fun i hi => (hb.cell (p := ⟨g, o + i, none⟩) hg).trans (hc i hi)⟩
  have hgl := hcg.lo
  have hgh := Int.le_trans hcg.hi (gridN_bound hm _).2
  have htb := gridN_bound hm t
  have hlen : ((countsN p s).l.length : Int) = p.count := by rw [hcg.len]; omega
  have HME := hid hme
  have HG := hid hgd
  have HF := hid hfr
  have CNT := hid hcnt
  clear hm hme hgd hfr hcnt hrd hcg
  generalize gridN p t = tt at *
  generalize s.l.length = ls at *
  generalize s.g = sg at *
  generalize countsN p s = q at *
  obtain ⟨qg, ql⟩ := q
  dsimp only at *
  go_enter Try.func11, Try.ntmps11
  go_upto_region 1 with fail
  refine abstract_world (fun W => Boxes w W p (.int .i64 sg) (.slice A ls c) ∧ Res w W (.int .i64 0) (.slice none 0 0)) ?_ ?_
  · refine ⟨(Boxes.begin w p (.int .i64 sg) (.slice A ls c)).on ((Below.refl _ _).alloc (Nat.le_refl _) _), by simp, ?_⟩
    have := heap_alloc_same ((w.alloc (.cells #[.int .i64 p.k, .int .i64 p.cap, .int .i64 p.num, .int .i64 p.den, .int .i64 p.width, .int .i64 p.count, .int .i64 p.keys, .int .i64 p.slots, .int .i64 p.every, .int .i64 p.seg] 23)).alloc (.cells #[.int .i64 sg, .slice A ls c] 26)) (.cells #[.int .i64 0, .slice none 0 0] 26)
    simpa using this
  intro W ⟨hX, hR⟩
  have X := hid hX
  have R := hid hR
  clear hX hR
  obtain ⟨a0, a1, a2, a3, a4, a5, a6, a7, a8, a9⟩ := X.out.cp
  obtain ⟨b0, b1, b2, b3⟩ := X.out.cs
  obtain ⟨c0, c1, c2, c3⟩ := R.out.cr
  go_wp2_with fail
  refine (HME.out _).mono ?_
  rintro e w1 ⟨rfl, hb⟩
  have X1 := hid (X.out.on hb)
  have R1 := hid (R.out.on hb)
  clear hb
  clear a0 a1 a2 a3 a4 a5 a6 a7 a8 a9 b0 b1 b2 b3 c0 c1 c2 c3
  clear X R
  obtain ⟨a0, a1, a2, a3, a4, a5, a6, a7, a8, a9⟩ := X1.out.cp
  obtain ⟨b0, b1, b2, b3⟩ := X1.out.cs
  obtain ⟨c0, c1, c2, c3⟩ := R1.out.cr
  go_wp2_with fail
  refine (CNT.out _ X1.out.below).mono ?_
  rintro e w2 ⟨sl, rfl, ho, hb⟩
  have hB1 := R1.out.lt
  have X2 := hid ((X1.out.on hb))
  have R2 := hid ((R1.out.on hb))
  obtain ⟨A2, cc, rfl, hf⟩ := ho.form
  have O2 := hid (ho.lower (show w.heap.size + 3 ≤ w1.heap.size by omega))
  clear hb ho hf hB1
  clear a0 a1 a2 a3 a4 a5 a6 a7 a8 a9 b0 b1 b2 b3 c0 c1 c2 c3
  clear X1 R1
  obtain ⟨a0, a1, a2, a3, a4, a5, a6, a7, a8, a9⟩ := X2.out.cp
  obtain ⟨b0, b1, b2, b3⟩ := X2.out.cs
  obtain ⟨c0, c1, c2, c3⟩ := R2.out.cr
  go_upto_region 4 with fail
  clear a0 a1 a2 a3 a4 a5 a6 a7 a8 a9 b0 b1 b2 b3 c0 c1 c2 c3
  refine abstract_world (fun W => Boxes w W p (.int .i64 qg) (.slice A2 ql.length cc) ∧ Res w W (.int .i64 0) (.slice none 0 0) ∧ Own (w.heap.size + 3) W (.slice A2 ql.length cc) ql) ?_ ?_
  · exact ⟨X2.out.set _ _, R2.out.setS _ _, O2.out.set2 (by omega) _ _⟩
  clear X2 R2 O2
  intro W3 ⟨hX, hR, hO⟩
  have X3 := hid hX
  have R3 := hid hR
  have O3 := hid hO
  clear hX hR hO
  obtain ⟨a0, a1, a2, a3, a4, a5, a6, a7, a8, a9⟩ := X3.out.cp
  obtain ⟨b0, b1, b2, b3⟩ := X3.out.cs
  obtain ⟨c0, c1, c2, c3⟩ := R3.out.cr
  go_wp2_with fail
  refine (HG.out _).mono ?_
  rintro e w4 ⟨rfl, hb⟩
  have X4 := hid (X3.out.on hb)
  have R4 := hid (R3.out.on hb)
  have O4 := hid (O3.out.below hb)
  clear hb
  clear a0 a1 a2 a3 a4 a5 a6 a7 a8 a9 b0 b1 b2 b3 c0 c1 c2 c3
  clear X3 R3 O3
  obtain ⟨a0, a1, a2, a3, a4, a5, a6, a7, a8, a9⟩ := X4.out.cp
  obtain ⟨b0, b1, b2, b3⟩ := X4.out.cs
  obtain ⟨c0, c1, c2, c3⟩ := R4.out.cr
  go_wp2_with fail
  refine (HF.out _).mono ?_
  rintro e w5 ⟨sl2, rfl, ho, hb⟩
  have hB4 := R4.out.lt
  have X5 := hid (X4.out.on hb)
  have R5 := hid (R4.out.on hb)
  obtain ⟨A3, c3', rfl, hf⟩ := ho.form
  have O5 := hid (ho.lower (show w.heap.size + 3 ≤ w4.heap.size by omega))
  generalize hzn : (zeros p.count.toNat).length = zn at *
  clear hb ho hf hB4 O4
  clear a0 a1 a2 a3 a4 a5 a6 a7 a8 a9 b0 b1 b2 b3 c0 c1 c2 c3
  clear X4 R4
  obtain ⟨a0, a1, a2, a3, a4, a5, a6, a7, a8, a9⟩ := X5.out.cp
  obtain ⟨b0, b1, b2, b3⟩ := X5.out.cs
  obtain ⟨c0, c1, c2, c3⟩ := R5.out.cr
  go_upto_region 8 with fail
  have hlt5 := R5.out.lt
  have X6 := hid (X5.out.on (((Below.refl w5.heap.size w5).alloc (Nat.le_refl _) (.cells #[.int .i64 tt, .slice A3 zn c3'] 26))))
  have R6 := hid (R5.out.on (((Below.refl w5.heap.size w5).alloc (Nat.le_refl _) (.cells #[.int .i64 tt, .slice A3 zn c3'] 26))))
  have O6 := hid (O5.out.below (((Below.refl w5.heap.size w5).alloc (Nat.le_refl _) (.cells #[.int .i64 tt, .slice A3 zn c3'] 26))))
  have T6 := hid (heap_alloc_same w5 (.cells #[.int .i64 tt, .slice A3 zn c3'] 26))
  have hlt6 : w.heap.size + 2 < w5.heap.size := hlt5
  clear X5 R5 O5
  clear a0 a1 a2 a3 a4 a5 a6 a7 a8 a9 b0 b1 b2 b3 c0 c1 c2 c3
  generalize w5.heap.size = tb at *
  generalize (w5.alloc (.cells #[.int .i64 tt, .slice A3 zn c3'] 26)) = W6 at *
  obtain ⟨a0, a1, a2, a3, a4, a5, a6, a7, a8, a9⟩ := X6.out.cp
  obtain ⟨b0, b1, b2, b3⟩ := X6.out.cs
  obtain ⟨c0, c1, c2, c3⟩ := R6.out.cr
  have t0 : W6.cell? ⟨tb, 0, none⟩ = some (.int .i64 tt) ∧ W6.cell? ⟨tb, 1, none⟩ = some (.slice A3 zn c3') := by have hp := T6.out; simp [World.cell?, hp]
  obtain ⟨t0, t1⟩ := t0
  go_wp2_with fail
  refine bodyPost_ret (results_cell_row rfl _ _ (w.heap.size + 2) 26 #[.int .i64 tt, .slice A3 zn c3'] (0, 0) _ rfl (R6.out.set _ _).row Try.underlying26 rfl info26) rfl ?_
  exact ⟨_, rfl, (O6.out.set2 (by omega) _ _).lower (by omega), (X6.out.setR _ _).below⟩

/-- 'copy' as a step of a region that draws its order: just that row turns. -/
theorem step_copy_set {P : Program} {ops : Array Oper} {o : Oper} {a : Act} {w : World} {K : Act → World → Prop} {Q : Exit → Act → World → Prop} {E : Prop} (hgd : o.guard = none) (d s : Operand) (dT sT : TypeId)
    (ho : o.op = .call { callee := .builtin .copy, args := #[d, s], argTypes := #[dT, sT] }) (elem : TypeId) (hu : P.underlying dT = some (.slice elem)) (hsz : (P.info? elem).map (·.size) = some 1)
    (g off dLen dCap : Nat) (ad : Addr) (sLen sCap : Nat) (hd : a.eval d = .slice (some ⟨g, off, none⟩) dLen dCap) (hs : a.eval s = .slice (some ad) sLen sCap)
    (L : List Value) (t : TypeId) (hg : w.heap[g]? = some (.cells L.toArray t (0, 0))) (cs : List Value) (hn : cs.length = Nat.min sLen dLen)
    (hsrc : ∀ j v, cs[j]? = some v → w.cell? (ad.add j) = some v) (hfit : off + cs.length ≤ L.length) (h1 : ∀ v ∈ cs, v.oneCell' = true)
    (h : ∀ w', RowSet w g (Go.splice L off cs).toArray t w' → K (a.put o.dst (goInt cs.length)) w') :
    if Region.wanted o (yielded ops a.tmps) = true then Oper.wp P o a w K Q else E := by
  have hw : Region.wanted o (yielded ops a.tmps) = true := by simp [Region.wanted, hgd]
  rw [if_pos hw]
  have hrun := run_copy_row (P := P) w dT sT o.type elem g off dLen dCap ad sLen sCap L.toArray t cs hu hsz hg hn hsrc (by simpa using hfit) h1
  unfold Oper.wp
  simp [execOp, ho, resolve, invoke, builtin, hd, hs, hrun, Result.andThen]
  have := h _ (rowSet_of (row := (Go.splice L off cs).toArray) hg)
  have this2 : K (a.put o.dst (goInt cs.length)) (w.setRow g (List.take off L ++ (cs ++ List.drop (off + cs.length) L)).toArray) := by simpa [Go.splice] using this
  exact this2

theorem size3 : (Try.prog.info? 3).map (·.size) = some 1 := by kernel_rfl
theorem splice_take {L : List Value} {n d : Nat} {ql : List Int} (h : L.take n = (zeros n).map (Value.int .i64)) (hq : ql.length = n) (hd : d < n) (_ : n ≤ L.length) :
    (Go.splice L 0 ((ql.drop d).map (Value.int .i64))).take n = (shiftL ql d).map (Value.int .i64) := by
  have h1 : ((ql.drop d).map (Value.int .i64)).length = n - d := by simp; omega
  have h2 : (L.drop (n - d)).take d = (zeros d).map (Value.int .i64) := by
    have := congrArg (List.drop (n - d)) h
    rw [List.drop_take] at this
    rw [show n - (n - d) = d by omega] at this
    rw [this]
    simp [zeros]
    omega
  unfold Go.splice shiftL
  rw [List.take_zero, List.nil_append, List.take_append, h1, List.take_of_length_le (by omega), Nat.zero_add, show n - (n - d) = d by omega, h2, show min d ql.length = d by omega]
  simp
set_option maxHeartbeats 4000000 in
set_option linter.unusedVariables false in
theorem move_near (p : Pol) (s : Win) (A : Option Addr) (c : Nat) (t : Int) (w : World) (hm : meansW p = true) (hl : s.l.length ≤ 9223372036854775807)
    (hrd : 0 < s.l.length → ∃ g o, A = some ⟨g, o, none⟩ ∧ g < w.heap.size ∧ ∀ i, i < s.l.length → w.cell? ⟨g, o + i, none⟩ = some (.int .i64 (s.l.getD i 0))) (d : Nat) (hto : gridN p t = (countsN p s).g + d) (hd0 : 0 < d) (hnear : (d : Int) < p.count) :
    Calls Try.prog 11 #[.agg #[.int .i64 p.k, .int .i64 p.cap, .int .i64 p.num, .int .i64 p.den, .int .i64 p.width, .int .i64 p.count, .int .i64 p.keys, .int .i64 p.slots, .int .i64 p.every, .int .i64 p.seg], .agg #[.int .i64 s.g, .slice A s.l.length c], .int .i64 t] w fun e w' => ∃ sl, e = .returned (.agg #[.int .i64 (gridN p t), sl]) ∧ Own w.heap.size w' sl (shiftL (countsN p s).l d) ∧ Below w.heap.size w w' := by
  have hgd := fun w => grid_any p t w
  have hfr := fun w => fresh_yes p t hm w
  have hme := fun w => means_any p w
  rw [gridP_yes hm] at hgd
  rw [hm] at hme
  have hcc := (meansW_bounds hm).2.2.2
  have hcg := counts_good hm s
  have hcnt : ∀ w1, Below w.heap.size w w1 → Calls Try.prog 32 #[.agg #[.int .i64 p.k, .int .i64 p.cap, .int .i64 p.num, .int .i64 p.den, .int .i64 p.width, .int .i64 p.count, .int .i64 p.keys, .int .i64 p.slots, .int .i64 p.every, .int .i64 p.seg], .agg #[.int .i64 s.g, .slice A s.l.length c]] w1 fun e w' => ∃ sl, e = .returned (.agg #[.int .i64 (countsN p s).g, sl]) ∧ Own w1.heap.size w' sl (countsN p s).l ∧ Below w1.heap.size w1 w' := fun w1 hb =>
    counts_call p s A c w1 hm hl fun h0 => by
      obtain ⟨g, o, e, hg, hc⟩ := hrd h0
      exact ⟨g, o, e, Nat.lt_of_lt_of_le hg hb.size, fun i hi => (hb.cell (p := ⟨g, o + i, none⟩) hg).trans (hc i hi)⟩
  have hgl := hcg.lo
  have hgh := Int.le_trans hcg.hi (gridN_bound hm _).2
  have htb := gridN_bound hm t
  have hlen : ((countsN p s).l.length : Int) = p.count := by rw [hcg.len]; omega
  have HME := hid hme
  have HG := hid hgd
  have HF := hid hfr
  have CNT := hid hcnt
  clear hm hme hgd hfr hcnt hrd hcg
  generalize gridN p t = tt at *
  generalize s.l.length = ls at *
  generalize s.g = sg at *
  generalize countsN p s = q at *
  obtain ⟨qg, ql⟩ := q
  dsimp only at *
  have HTO := hid hto
  have hlt' : qg < tt := by omega
  have hnr : tt - qg < p.count := by omega
  clear hto
  go_enter Try.func11, Try.ntmps11
  go_upto_region 1 with fail
  refine abstract_world (fun W => Boxes w W p (.int .i64 sg) (.slice A ls c) ∧ Res w W (.int .i64 0) (.slice none 0 0)) ?_ ?_
  · refine ⟨(Boxes.begin w p (.int .i64 sg) (.slice A ls c)).on ((Below.refl _ _).alloc (Nat.le_refl _) _), by simp, ?_⟩
    have := heap_alloc_same ((w.alloc (.cells #[.int .i64 p.k, .int .i64 p.cap, .int .i64 p.num, .int .i64 p.den, .int .i64 p.width, .int .i64 p.count, .int .i64 p.keys, .int .i64 p.slots, .int .i64 p.every, .int .i64 p.seg] 23)).alloc (.cells #[.int .i64 sg, .slice A ls c] 26)) (.cells #[.int .i64 0, .slice none 0 0] 26)
    simpa using this
  intro W ⟨hX, hR⟩
  have X := hid hX
  have R := hid hR
  clear hX hR
  obtain ⟨a0, a1, a2, a3, a4, a5, a6, a7, a8, a9⟩ := X.out.cp
  obtain ⟨b0, b1, b2, b3⟩ := X.out.cs
  obtain ⟨c0, c1, c2, c3⟩ := R.out.cr
  go_wp2_with fail
  refine (HME.out _).mono ?_
  rintro e w1 ⟨rfl, hb⟩
  have X1 := hid (X.out.on hb)
  have R1 := hid (R.out.on hb)
  clear hb
  clear a0 a1 a2 a3 a4 a5 a6 a7 a8 a9 b0 b1 b2 b3 c0 c1 c2 c3
  clear X R
  obtain ⟨a0, a1, a2, a3, a4, a5, a6, a7, a8, a9⟩ := X1.out.cp
  obtain ⟨b0, b1, b2, b3⟩ := X1.out.cs
  obtain ⟨c0, c1, c2, c3⟩ := R1.out.cr
  go_wp2_with fail
  refine (CNT.out _ X1.out.below).mono ?_
  rintro e w2 ⟨sl, rfl, ho, hb⟩
  have hB1 := R1.out.lt
  have X2 := hid ((X1.out.on hb))
  have R2 := hid ((R1.out.on hb))
  obtain ⟨A2, cc, rfl, hf⟩ := ho.form
  have O2 := hid (ho.lower (show w.heap.size + 3 ≤ w1.heap.size by omega))
  clear hb ho hf hB1
  clear a0 a1 a2 a3 a4 a5 a6 a7 a8 a9 b0 b1 b2 b3 c0 c1 c2 c3
  clear X1 R1
  obtain ⟨a0, a1, a2, a3, a4, a5, a6, a7, a8, a9⟩ := X2.out.cp
  obtain ⟨b0, b1, b2, b3⟩ := X2.out.cs
  obtain ⟨c0, c1, c2, c3⟩ := R2.out.cr
  go_upto_region 4 with fail
  clear a0 a1 a2 a3 a4 a5 a6 a7 a8 a9 b0 b1 b2 b3 c0 c1 c2 c3
  refine abstract_world (fun W => Boxes w W p (.int .i64 qg) (.slice A2 ql.length cc) ∧ Res w W (.int .i64 0) (.slice none 0 0) ∧ Own (w.heap.size + 3) W (.slice A2 ql.length cc) ql) ?_ ?_
  · exact ⟨X2.out.set _ _, R2.out.setS _ _, O2.out.set2 (by omega) _ _⟩
  clear X2 R2 O2
  intro W3 ⟨hX, hR, hO⟩
  have X3 := hid hX
  have R3 := hid hR
  have O3 := hid hO
  clear hX hR hO
  obtain ⟨a0, a1, a2, a3, a4, a5, a6, a7, a8, a9⟩ := X3.out.cp
  obtain ⟨b0, b1, b2, b3⟩ := X3.out.cs
  obtain ⟨c0, c1, c2, c3⟩ := R3.out.cr
  go_wp2_with fail
  refine (HG.out _).mono ?_
  rintro e w4 ⟨rfl, hb⟩
  have X4 := hid (X3.out.on hb)
  have R4 := hid (R3.out.on hb)
  have O4 := hid (O3.out.below hb)
  clear hb
  clear a0 a1 a2 a3 a4 a5 a6 a7 a8 a9 b0 b1 b2 b3 c0 c1 c2 c3
  clear X3 R3 O3
  obtain ⟨a0, a1, a2, a3, a4, a5, a6, a7, a8, a9⟩ := X4.out.cp
  obtain ⟨b0, b1, b2, b3⟩ := X4.out.cs
  obtain ⟨c0, c1, c2, c3⟩ := R4.out.cr
  go_wp2_with fail
  refine (HF.out _).mono ?_
  rintro e w5 ⟨sl2, rfl, ho, hb⟩
  have hB4 := R4.out.lt
  have X5 := hid (X4.out.on hb)
  have R5 := hid (R4.out.on hb)
  obtain ⟨A3, c3', rfl, hf⟩ := ho.form
  have O5 := hid (ho.lower (show w.heap.size + 3 ≤ w4.heap.size by omega))
  generalize hzn : (zeros p.count.toNat).length = zn at *
  have Q5 := hid (O4.out.below hb)
  clear hb ho hf hB4 O4
  clear a0 a1 a2 a3 a4 a5 a6 a7 a8 a9 b0 b1 b2 b3 c0 c1 c2 c3
  clear X4 R4
  obtain ⟨a0, a1, a2, a3, a4, a5, a6, a7, a8, a9⟩ := X5.out.cp
  obtain ⟨b0, b1, b2, b3⟩ := X5.out.cs
  obtain ⟨c0, c1, c2, c3⟩ := R5.out.cr
  go_upto_region 8 with fail
  have hlt5 := R5.out.lt
  have X6 := hid (X5.out.on (((Below.refl w5.heap.size w5).alloc (Nat.le_refl _) (.cells #[.int .i64 tt, .slice A3 zn c3'] 26))))
  have R6 := hid (R5.out.on (((Below.refl w5.heap.size w5).alloc (Nat.le_refl _) (.cells #[.int .i64 tt, .slice A3 zn c3'] 26))))
  have O6 := hid (O5.out.below (((Below.refl w5.heap.size w5).alloc (Nat.le_refl _) (.cells #[.int .i64 tt, .slice A3 zn c3'] 26))))
  have Q6 := hid (Q5.out.below (((Below.refl w5.heap.size w5).alloc (Nat.le_refl _) (.cells #[.int .i64 tt, .slice A3 zn c3'] 26))))
  have O5h := hid O5.out
  have T6 := hid (heap_alloc_same w5 (.cells #[.int .i64 tt, .slice A3 zn c3'] 26))
  have hlt6 : w.heap.size + 2 < w5.heap.size := hlt5
  clear X5 R5 O5 Q5
  clear a0 a1 a2 a3 a4 a5 a6 a7 a8 a9 b0 b1 b2 b3 c0 c1 c2 c3
  have ew : IntKind.i64.wrap (tt - qg) = d := by rw [IntWalk.i64_in _ (by omega)]; have := HTO.out; omega
  have hznc : zn = p.count.toNat := by rw [← hzn, zeros_length]
  generalize htb5 : w5.heap.size = tb at *
  generalize (w5.alloc (.cells #[.int .i64 tt, .slice A3 zn c3'] 26)) = W6 at *
  obtain ⟨a0, a1, a2, a3, a4, a5, a6, a7, a8, a9⟩ := X6.out.cp
  obtain ⟨b0, b1, b2, b3⟩ := X6.out.cs
  obtain ⟨c0, c1, c2, c3⟩ := R6.out.cr
  have t0 : W6.cell? ⟨tb, 0, none⟩ = some (.int .i64 tt) ∧ W6.cell? ⟨tb, 1, none⟩ = some (.slice A3 zn c3') := by have hp := T6.out; simp [World.cell?, hp]
  obtain ⟨t0, t1⟩ := t0
  have hA2 : ∃ gs, A2 = some ⟨gs, 0, none⟩ ∧ gs < W6.heap.size ∧ ql.length ≤ cc ∧ ∀ i, i < ql.length → W6.cell? ⟨gs, i, none⟩ = some (.int .i64 (ql.getD i 0)) := by
    obtain ⟨A', c', e, f⟩ := Q6.out.form
    cases e
    obtain ⟨g, e1, _, e3, e4⟩ := f (by omega)
    refine ⟨g, e1, e3, ?_, e4⟩
    rcases Q6.out.2 with h | ⟨g', cap, cur, hv, _, _, hcap, _⟩
    · simp [e1] at h
    · cases hv
      exact hcap
  obtain ⟨gs, rfl, hgs, hccq, hsrc⟩ := hA2
  have hA3 : ∃ (gd : Nat) (L : List Value), A3 = some ⟨gd, 0, none⟩ ∧ w.heap.size + 3 ≤ gd ∧ gd < tb ∧ W6.heap[gd]? = some (.cells L.toArray 3 (0, 0)) ∧ zn ≤ c3' ∧ c3' ≤ maxLen ∧ L.length = c3' ∧ L.take zn = (zeros zn).map (Value.int .i64) := by
    have hz : (zeros p.count.toNat) = zeros zn := by rw [← hzn, zeros_length]
    have o5 := O5h.out
    have o6 := O6.out
    unfold Own at o5 o6
    rw [hzn, hz] at o5 o6
    rcases o6.2 with ⟨h, h2⟩ | ⟨g', cap, cur, hv, h1, h2, h3, h4, h5, h6⟩
    · simp at h
      omega
    · cases hv
      have hb : g' < tb := htb5 ▸ (World.ownsRow.lt o5 g' rfl).2
      exact ⟨g', cur.toList, rfl, h1, hb, by simpa using h2, h3, h4, by simpa using h5, by simpa using h6⟩
  obtain ⟨gd, L, rfl, hgd1, hgd2, hrowd, hc31, hc32, hLl, hLt⟩ := hA3
  have hsp := hid (splice_take (d := d) hLt (show ql.length = zn by omega) (by omega) (by omega))
  have hspl : (Go.splice L 0 ((ql.drop d).map (Value.int .i64))).length = c3' := by rw [length_splice]; exact hLl; simp; omega
  have HCL : ((ql.drop d).map (Value.int .i64)).length = ql.length - d := by simp
  have HN := hid (show ∀ j u, ((ql.drop d).map (Value.int .i64))[j]? = some u → W6.cell? (Addr.add ⟨gs, d, none⟩ j) = some u from by
    intro j u hu
    simp only [List.getElem?_map, Option.map_eq_some_iff, List.getElem?_drop] at hu
    obtain ⟨x, hx, rfl⟩ := hu
    obtain ⟨hj, hx⟩ := List.getElem?_eq_some_iff.1 hx
    have := hsrc (d + j) hj
    rw [show ql.getD (d + j) 0 = x by simp [hj, hx]] at this
    have ea : Addr.add ⟨gs, d, none⟩ j = ⟨gs, d + j, none⟩ := by simp [Addr.add]
    rw [ea]
    exact this)
  have H1 := hid (show ∀ u ∈ (ql.drop d).map (Value.int .i64), u.oneCell' = true from by
    intro u hu
    simp only [List.mem_map] at hu
    obtain ⟨x, hx, rfl⟩ := hu
    rfl)
  generalize hcs : (ql.drop d).map (Value.int .i64) = cs at *
  have HROWD := hid hrowd
  have HSPL := hid hspl
  clear hsrc hrowd hLt hspl hcs O5h
  have hqn : ql.length = zn := by omega
  generalize hqq : ql.length = n at *
  have HQL := hid hqq
  clear hqq
  subst hqn
  have hmin : cs.length = Nat.min (n - d) n := by rw [HCL]; show _ = min _ _; omega
  have hfit : 0 + cs.length ≤ L.length := by omega
  have hbl : Below w.heap.size w W6.drew := X6.out.below.drew
  have hbg : w.heap.size ≤ gd := by omega
  have hgdn : d ≤ n := by omega
  have hgdn2 : (d : Int) ≤ (n : Int) := by omega
  have hcd : ¬ cc = d := by omega
  have HLEN := hid hlen
  have HZNC := hid hznc
  clear hlen hznc hcc
  go_upto_region 10 with fail
  go_region_law (first | (refine step_copy_set rfl (.tmp 37) (.tmp 41) 24 24 rfl 3 Try.underlying24 size3 _ _ _ _ _ _ _ rfl rfl L 3 HROWD.out cs ?_ HN.out hfit H1.out ?_; (exact hmin); intro w7 hw7))
  all_goals (
    have X7 := hid (X6.out)
    have e7 : ∀ k, k ≠ gd → w7.heap[k]? = W6.heap[k]? := hw7.other
    have R7 : Res w w7 (.int .i64 0) (.slice none 0 0) := ⟨by rw [hw7.size]; exact R6.out.lt, (e7 _ (by omega)).trans R6.out.row⟩
    have hB7 : Below w.heap.size w w7 := (hbl.trans (hw7.below hbg))
    have t7 := (e7 tb (by omega)).trans T6.out
    have hO7 : Own (w.heap.size + 3) w7 (.slice (some ⟨gd, 0, none⟩) n c3') (shiftL ql d) := by
      have hll : (shiftL ql d).length = n := by rw [shiftL_length]; exact HQL.out
      unfold Own
      rw [hll]
      exact ⟨by simp [hll], .inr ⟨gd, c3', (Go.splice L 0 cs).toArray, rfl, hgd1, hw7.row, hc31, hc32, by simpa using HSPL.out, by simpa using hsp.out⟩⟩
    have O7 := hid hO7
    have RR := hid R7
    have HB7 := hid hB7
    have HT7 := hid t7
    have t0 : w7.cell? ⟨tb, 0, none⟩ = some (.int .i64 tt) ∧ w7.cell? ⟨tb, 1, none⟩ = some (.slice (some ⟨gd, 0, none⟩) n c3') := by simp [World.cell?, t7]
    obtain ⟨t0', t1'⟩ := t0
    obtain ⟨c0', c1', c2', c3''⟩ := R7.cr
    clear hw7 e7 R7 hB7 t7 hO7 b0 b1 b2 b3 c0 c1 c2 c3 t0 t1
    go_wp2_with fail
    refine bodyPost_ret (results_cell_row rfl _ _ (w.heap.size + 2) 26 #[.int .i64 tt, .slice (some ⟨gd, 0, none⟩) n c3'] (0, 0) _ rfl (RR.out.set _ _).row Try.underlying26 rfl info26) rfl ?_
    exact ⟨_, rfl, (O7.out.set2 (by omega) _ _).lower (by omega), (HB7.out.setCell (show w.heap.size ≤ w.heap.size + 2 by omega) _).setCell (show w.heap.size ≤ w.heap.size + 2 by omega) _⟩)

set_option maxHeartbeats 4000000 in
set_option linter.unusedVariables false in
theorem move_no (p : Pol) (g : Int) (A : Option Addr) (n c : Nat) (t : Int) (w : World) (hm : meansW p = false) :
    Calls Try.prog 11 #[.agg #[.int .i64 p.k, .int .i64 p.cap, .int .i64 p.num, .int .i64 p.den, .int .i64 p.width, .int .i64 p.count, .int .i64 p.keys, .int .i64 p.slots, .int .i64 p.every, .int .i64 p.seg], .agg #[.int .i64 g, .slice A n c], .int .i64 t] w fun e w' => ∃ sl, e = .returned (.agg #[.int .i64 0, sl]) ∧ Own w.heap.size w' sl [] ∧ Below w.heap.size w w' := by
  have hme := fun w => means_any p w
  rw [hm] at hme
  have HME := hid hme
  clear hm hme
  go_enter Try.func11, Try.ntmps11
  go_wp2_with fail
  refine (HME.out _).mono ?_
  rintro e w1 ⟨rfl, hb⟩
  have hrow : w1.heap[w.heap.size + 2]? = some (.cells #[.int .i64 0, .slice none 0 0] 26 (0, 0)) := by
    rw [hb.block _ (by simp)]
    have := heap_alloc_same ((w.alloc (.cells #[.int .i64 p.k, .int .i64 p.cap, .int .i64 p.num, .int .i64 p.den, .int .i64 p.width, .int .i64 p.count, .int .i64 p.keys, .int .i64 p.slots, .int .i64 p.every, .int .i64 p.seg] 23)).alloc (.cells #[.int .i64 g, .slice A n c] 26)) (.cells #[.int .i64 0, .slice none 0 0] 26)
    simpa using this
  have hr : w1.cell? ⟨w.heap.size + 2, 0, none⟩ = some (.int .i64 0) ∧ w1.cell? ⟨w.heap.size + 2, 1, none⟩ = some (.slice none 0 0) ∧ w1.frozen? ⟨w.heap.size + 2, 0, none⟩ = false ∧ w1.frozen? ⟨w.heap.size + 2, 1, none⟩ = false := by simp [World.cell?, World.frozen?, hrow]
  obtain ⟨c0, c1, c2, c3⟩ := hr
  have HR := hid (row_set2 (x := .int .i64 0) (y := .slice none 0 0) hrow)
  have HB := hid (((((Below.refl _ _).alloc (Nat.le_refl _) _).alloc (by simp) _).alloc (by simp; omega) _).trans (hb.mono (show w.heap.size ≤ _ by simp; omega)))
  clear hb hrow
  go_wp2_with fail
  refine bodyPost_ret (results_cell_row rfl _ _ (w.heap.size + 2) 26 #[.int .i64 0, .slice none 0 0] (0, 0) _ rfl HR.out Try.underlying26 rfl info26) rfl ?_
  exact ⟨_, rfl, Own.nil _ _, (HB.out.setCell (show w.heap.size ≤ w.heap.size + 2 by omega) _).setCell (show w.heap.size ≤ w.heap.size + 2 by omega) _⟩

theorem move_call (p : Pol) (s : Win) (A : Option Addr) (c : Nat) (t : Int) (w : World) (hl : s.l.length ≤ 9223372036854775807)
    (hrd : 0 < s.l.length → ∃ g o, A = some ⟨g, o, none⟩ ∧ g < w.heap.size ∧ ∀ i, i < s.l.length → w.cell? ⟨g, o + i, none⟩ = some (.int .i64 (s.l.getD i 0))) :
    Calls Try.prog 11 #[.agg #[.int .i64 p.k, .int .i64 p.cap, .int .i64 p.num, .int .i64 p.den, .int .i64 p.width, .int .i64 p.count, .int .i64 p.keys, .int .i64 p.slots, .int .i64 p.every, .int .i64 p.seg], .agg #[.int .i64 s.g, .slice A s.l.length c], .int .i64 t] w fun e w' => ∃ sl, e = .returned (.agg #[.int .i64 (moveP p s t).g, sl]) ∧ Own w.heap.size w' sl (moveP p s t).l ∧ Below w.heap.size w w' := by
  cases hm : meansW p with
  | false =>
    have e : moveP p s t = ⟨0, []⟩ := by simp [moveP, hm, noWin]
    rw [e]
    exact move_no p s.g A s.l.length c t w hm
  | true =>
    have hc := counts_good hm s
    have hcc := (meansW_bounds hm).2.2.2
    by_cases h : gridN p t ≤ (countsN p s).g
    · have e : moveP p s t = countsN p s := by simp [moveP, hm, moveN, h]
      rw [e]
      exact move_stay p s A c t w hm hl hrd h
    · have e : moveP p s t = ⟨gridN p t, shiftL (countsN p s).l (gridN p t - (countsN p s).g).toNat⟩ := by simp [moveP, hm, moveN, h]
      rw [e]
      by_cases h2 : p.count ≤ gridN p t - (countsN p s).g
      · have e2 : shiftL (countsN p s).l (gridN p t - (countsN p s).g).toNat = zeros p.count.toNat := by
          have := hc.len
          unfold shiftL
          rw [List.drop_of_length_le (by omega), Nat.min_eq_right (by omega), hc.len, List.nil_append]
        rw [e2]
        exact move_far p s A c t w hm hl hrd (by omega) h2
      · exact move_near p s A c t w hm hl hrd _ (by omega) (by omega) (by omega)

end Go.Proofs.Ytkcnenekmjgmgaa
end

section
/- Contracts: may a cost be taken; taken. -/
namespace Go.Proofs.Ytkcnenekmjgmgaa
open Go.RowKit

theorem withinF (c : Int) (w : World) {b : Bool} (h : within c 1 1048576 = b) : Calls Try.prog 33 #[.int .i64 c] w fun e w' => e = .returned (.bool b) ∧ w = w' := by
  rw [← h]; exact may_any c w

set_option maxHeartbeats 4000000 in
set_option linter.unusedVariables false in
theorem may_yes (p : Pol) (s : Win) (A : Option Addr) (c : Nat) (cost : Int) (w : World) (hm : meansW p = true) (hl : s.l.length ≤ 9223372036854775807)
    (hrd : 0 < s.l.length → ∃ g o, A = some ⟨g, o, none⟩ ∧ g < w.heap.size ∧ ∀ i, i < s.l.length → w.cell? ⟨g, o + i, none⟩ = some (.int .i64 (s.l.getD i 0))) (hwi : within cost 1 1048576 = true) :
    Calls Try.prog 12 #[.agg #[.int .i64 p.k, .int .i64 p.cap, .int .i64 p.num, .int .i64 p.den, .int .i64 p.width, .int .i64 p.count, .int .i64 p.keys, .int .i64 p.slots, .int .i64 p.every, .int .i64 p.seg], .agg #[.int .i64 s.g, .slice A s.l.length c], .int .i64 cost] w fun e w' => e = .returned (.bool (decide (totalN (countsN p s) + cost ≤ p.cap))) ∧ Below w.heap.size w w' := by
  have hme := fun w => means_any p w
  rw [hm] at hme
  have hcc := (meansW_bounds hm).2.2.2
  have hcap := (meansW_bounds hm).2.1
  have hcg := counts_good hm s
  have hcnt : ∀ w1, Below w.heap.size w w1 → Calls Try.prog 32 #[.agg #[.int .i64 p.k, .int .i64 p.cap, .int .i64 p.num, .int .i64 p.den, .int .i64 p.width, .int .i64 p.count, .int .i64 p.keys, .int .i64 p.slots, .int .i64 p.every, .int .i64 p.seg], .agg #[.int .i64 s.g, .slice A s.l.length c]] w1 fun e w' => ∃ sl, e = .returned (.agg #[.int .i64 (countsN p s).g, sl]) ∧ Own w1.heap.size w' sl (countsN p s).l ∧ Below w1.heap.size w1 w' := fun w1 hb =>
    counts_call p s A c w1 hm hl fun h0 => by
      obtain ⟨g, o, e, hg, hc⟩ := hrd h0
      exact ⟨g, o, e, Nat.lt_of_lt_of_le hg hb.size, fun i hi => (hb.cell (p := ⟨g, o + i, none⟩) hg).trans (hc i hi)⟩
  have hlen : ((countsN p s).l.length : Int) = p.count := by rw [hcg.len]; omega
  have hok := hcg.ok
  have HME := hid hme
  have CNT := hid hcnt
  clear hm hme hcnt hrd hcg
  generalize s.l.length = ls at *
  generalize s.g = sg at *
  have hcost := within_iff.1 hwi
  have HWI := hid (fun w => withinF cost w hwi)
  have htb := totalN_bound (countsN p s)
  have hql : (countsN p s).l.length ≤ 9223372036854775807 := by omega
  have htot : ∀ w1 w2 A2 c2, Own w1 w2 (.slice A2 (countsN p s).l.length c2) (countsN p s).l → Calls Try.prog 13 #[.agg #[.int .i64 (countsN p s).g, .slice A2 (countsN p s).l.length c2]] w2 fun e w' => e = .returned (.int .i64 (totalN (countsN p s))) ∧ Below w2.heap.size w2 w' := fun w1 w2 A2 c2 ho =>
    total_call (countsN p s) A2 c2 w2 hql (by obtain ⟨A', c', e, f⟩ := ho.reads.form; cases e; exact f)
  have TOT := hid htot
  have ew : IntKind.i64.wrap (totalN (countsN p s) + cost) = totalN (countsN p s) + cost := IntWalk.i64_in _ (by omega)
  clear hwi htot hok hlen
  generalize totalN (countsN p s) = tot at *
  generalize countsN p s = q at *
  obtain ⟨qg, ql⟩ := q
  dsimp only at *
  go_enter Try.func12, Try.ntmps12
  go_upto_region 1 with fail
  refine abstract_world (fun W => Boxes w W p (.int .i64 sg) (.slice A ls c)) ?_ ?_
  · exact Boxes.begin w p (.int .i64 sg) (.slice A ls c)
  intro W hX
  have X := hid hX
  clear hX
  have F : ∀ w', Below W.heap.size W w' → (w'.cell? ⟨w.heap.size, 0, none⟩ = some (.int .i64 p.k) ∧ w'.cell? ⟨w.heap.size, 1, none⟩ = some (.int .i64 p.cap) ∧ w'.cell? ⟨w.heap.size, 2, none⟩ = some (.int .i64 p.num) ∧ w'.cell? ⟨w.heap.size, 3, none⟩ = some (.int .i64 p.den) ∧ w'.cell? ⟨w.heap.size, 4, none⟩ = some (.int .i64 p.width) ∧ w'.cell? ⟨w.heap.size, 5, none⟩ = some (.int .i64 p.count) ∧ w'.cell? ⟨w.heap.size, 6, none⟩ = some (.int .i64 p.keys) ∧ w'.cell? ⟨w.heap.size, 7, none⟩ = some (.int .i64 p.slots) ∧ w'.cell? ⟨w.heap.size, 8, none⟩ = some (.int .i64 p.every) ∧ w'.cell? ⟨w.heap.size, 9, none⟩ = some (.int .i64 p.seg) ∧ w'.cell? ⟨w.heap.size + 1, 0, none⟩ = some (.int .i64 sg) ∧ w'.cell? ⟨w.heap.size + 1, 1, none⟩ = some (.slice A ls c)) := by
    intro w' hb
    obtain ⟨a0, a1, a2, a3, a4, a5, a6, a7, a8, a9⟩ := (X.out.on hb).cp
    obtain ⟨b0, b1, b2, b3⟩ := (X.out.on hb).cs
    exact ⟨a0, a1, a2, a3, a4, a5, a6, a7, a8, a9, b0, b1⟩
  obtain ⟨a0, a1, a2, a3, a4, a5, a6, a7, a8, a9, b0, b1⟩ := F W (Below.refl _ _)
  have F := hid F
  have hB1 := (Below.refl W.heap.size W).drew
  go_region_held3 (fun w' => w'.cell? ⟨w.heap.size, 0, none⟩ = some (.int .i64 p.k) ∧ w'.cell? ⟨w.heap.size, 1, none⟩ = some (.int .i64 p.cap) ∧ w'.cell? ⟨w.heap.size, 2, none⟩ = some (.int .i64 p.num) ∧ w'.cell? ⟨w.heap.size, 3, none⟩ = some (.int .i64 p.den) ∧ w'.cell? ⟨w.heap.size, 4, none⟩ = some (.int .i64 p.width) ∧ w'.cell? ⟨w.heap.size, 5, none⟩ = some (.int .i64 p.count) ∧ w'.cell? ⟨w.heap.size, 6, none⟩ = some (.int .i64 p.keys) ∧ w'.cell? ⟨w.heap.size, 7, none⟩ = some (.int .i64 p.slots) ∧ w'.cell? ⟨w.heap.size, 8, none⟩ = some (.int .i64 p.every) ∧ w'.cell? ⟨w.heap.size, 9, none⟩ = some (.int .i64 p.seg) ∧ w'.cell? ⟨w.heap.size + 1, 0, none⟩ = some (.int .i64 sg) ∧ w'.cell? ⟨w.heap.size + 1, 1, none⟩ = some (.slice A ls c))
    (first | exact F.out _ hB1 | exact F.out _ (hB1.trans hb) | exact F.out _ ((hB1.trans hb).trans (hb2.mono (hB1.trans hb).size)) | exact F.out _ (((hB1.trans hb).trans (hb2.mono (hB1.trans hb).size)).trans (hb3.mono (((hB1.trans hb).trans (hb2.mono (hB1.trans hb).size)).size))) | go_keep)
    (first | (go_at_call 31; refine (HME.out _).mono ?_; rintro e w1 ⟨rfl, hb⟩) | (go_at_call 33; refine (HWI.out _).mono ?_; rintro e w1' ⟨rfl, rfl⟩) | (go_at_call 32; refine (CNT.out _ (X.out.below.trans ((hB1.trans hb).mono X.out.below.size))).mono ?_; rintro e w2 ⟨sl, rfl, ho, hb2⟩; obtain ⟨A2, cc, rfl, hf⟩ := ho.form) | (go_at_call 13; refine (TOT.out _ _ _ _ ho).mono ?_; rintro e w3 ⟨rfl, hb3⟩))
  all_goals (
    have hBB := X.out.below.trans ((((hB1.trans hb).trans (hb2.mono (hB1.trans hb).size)).trans (hb3.mono (((hB1.trans hb).trans (hb2.mono (hB1.trans hb).size)).size))).mono X.out.below.size)
    go_wp2_with fail
    go_ret
    exact ⟨rfl, hBB⟩)

set_option maxHeartbeats 4000000 in
set_option linter.unusedVariables false in
theorem may_no (p : Pol) (sg : Int) (A : Option Addr) (ls c : Nat) (cost : Int) (w : World) (hm : meansW p = false) :
    Calls Try.prog 12 #[.agg #[.int .i64 p.k, .int .i64 p.cap, .int .i64 p.num, .int .i64 p.den, .int .i64 p.width, .int .i64 p.count, .int .i64 p.keys, .int .i64 p.slots, .int .i64 p.every, .int .i64 p.seg], .agg #[.int .i64 sg, .slice A ls c], .int .i64 cost] w fun e w' => e = .returned (.bool false) ∧ Below w.heap.size w w' := by
  have hme := fun w => means_any p w
  rw [hm] at hme
  have HME := hid hme
  clear hm hme
  go_enter Try.func12, Try.ntmps12
  go_upto_region 1 with fail
  refine abstract_world (fun W => Boxes w W p (.int .i64 sg) (.slice A ls c)) ?_ ?_
  · exact Boxes.begin w p (.int .i64 sg) (.slice A ls c)
  intro W hX
  have X := hid hX
  clear hX
  have hz1 : w.heap.size < W.heap.size := by have := X.out.lt; omega
  have hz2 : w.heap.size + 1 < W.heap.size := X.out.lt
  obtain ⟨a0, a1, a2, a3, a4, a5, a6, a7, a8, a9⟩ := X.out.cp
  obtain ⟨b0, b1, b2, b3⟩ := X.out.cs
  have x0 := fun x : Later W => Later.cell (a := ⟨w.heap.size, 0, none⟩) hz1 a0 x
  have x1 := fun x : Later W => Later.cell (a := ⟨w.heap.size, 1, none⟩) hz1 a1 x
  have x2 := fun x : Later W => Later.cell (a := ⟨w.heap.size, 2, none⟩) hz1 a2 x
  have x3 := fun x : Later W => Later.cell (a := ⟨w.heap.size, 3, none⟩) hz1 a3 x
  have x4 := fun x : Later W => Later.cell (a := ⟨w.heap.size, 4, none⟩) hz1 a4 x
  have x5 := fun x : Later W => Later.cell (a := ⟨w.heap.size, 5, none⟩) hz1 a5 x
  have x6 := fun x : Later W => Later.cell (a := ⟨w.heap.size, 6, none⟩) hz1 a6 x
  have x7 := fun x : Later W => Later.cell (a := ⟨w.heap.size, 7, none⟩) hz1 a7 x
  have x8 := fun x : Later W => Later.cell (a := ⟨w.heap.size, 8, none⟩) hz1 a8 x
  have x9 := fun x : Later W => Later.cell (a := ⟨w.heap.size, 9, none⟩) hz1 a9 x
  have y0 := fun x : Later W => Later.cell (a := ⟨w.heap.size + 1, 0, none⟩) hz2 b0 x
  have y1 := fun x : Later W => Later.cell (a := ⟨w.heap.size + 1, 1, none⟩) hz2 b1 x
  clear a0 a1 a2 a3 a4 a5 a6 a7 a8 a9 b0 b1 b2 b3
  refine wp_region_quiet_later (by kernel_rfl) (by kernel_rfl) ?_
  repeat (go_big_quiet_step ((first | (go_at_call 31; refine later_of (v := .bool false) ?_; exact HME.out _))))
  refine wpQuiet_nil ?_
  intro _ hw'
  obtain ⟨x, hw''⟩ := hw'
  subst hw''
  have hx := x.below
  have hBB := hid (X.out.below.trans (hx.mono X.out.below.size))
  generalize x.world = w4 at *
  clear x x0 x1 x2 x3 x4 x5 x6 x7 x8 x9 y0 y1
  go_wp2_with fail
  go_ret
  exact ⟨rfl, hBB.out⟩

set_option maxHeartbeats 4000000 in
set_option linter.unusedVariables false in
theorem may_cost (p : Pol) (sg : Int) (A : Option Addr) (ls c : Nat) (cost : Int) (w : World) (hm : meansW p = true) (hwi : within cost 1 1048576 = false) :
    Calls Try.prog 12 #[.agg #[.int .i64 p.k, .int .i64 p.cap, .int .i64 p.num, .int .i64 p.den, .int .i64 p.width, .int .i64 p.count, .int .i64 p.keys, .int .i64 p.slots, .int .i64 p.every, .int .i64 p.seg], .agg #[.int .i64 sg, .slice A ls c], .int .i64 cost] w fun e w' => e = .returned (.bool false) ∧ Below w.heap.size w w' := by
  have hme := fun w => means_any p w
  rw [hm] at hme
  have HME := hid hme
  have HWI := hid (fun w => withinF cost w hwi)
  clear hm hme hwi
  go_enter Try.func12, Try.ntmps12
  go_upto_region 1 with fail
  refine abstract_world (fun W => Boxes w W p (.int .i64 sg) (.slice A ls c)) ?_ ?_
  · exact Boxes.begin w p (.int .i64 sg) (.slice A ls c)
  intro W hX
  have X := hid hX
  clear hX
  have hz1 : w.heap.size < W.heap.size := by have := X.out.lt; omega
  have hz2 : w.heap.size + 1 < W.heap.size := X.out.lt
  obtain ⟨a0, a1, a2, a3, a4, a5, a6, a7, a8, a9⟩ := X.out.cp
  obtain ⟨b0, b1, b2, b3⟩ := X.out.cs
  have x0 := fun x : Later W => Later.cell (a := ⟨w.heap.size, 0, none⟩) hz1 a0 x
  have x1 := fun x : Later W => Later.cell (a := ⟨w.heap.size, 1, none⟩) hz1 a1 x
  have x2 := fun x : Later W => Later.cell (a := ⟨w.heap.size, 2, none⟩) hz1 a2 x
  have x3 := fun x : Later W => Later.cell (a := ⟨w.heap.size, 3, none⟩) hz1 a3 x
  have x4 := fun x : Later W => Later.cell (a := ⟨w.heap.size, 4, none⟩) hz1 a4 x
  have x5 := fun x : Later W => Later.cell (a := ⟨w.heap.size, 5, none⟩) hz1 a5 x
  have x6 := fun x : Later W => Later.cell (a := ⟨w.heap.size, 6, none⟩) hz1 a6 x
  have x7 := fun x : Later W => Later.cell (a := ⟨w.heap.size, 7, none⟩) hz1 a7 x
  have x8 := fun x : Later W => Later.cell (a := ⟨w.heap.size, 8, none⟩) hz1 a8 x
  have x9 := fun x : Later W => Later.cell (a := ⟨w.heap.size, 9, none⟩) hz1 a9 x
  have y0 := fun x : Later W => Later.cell (a := ⟨w.heap.size + 1, 0, none⟩) hz2 b0 x
  have y1 := fun x : Later W => Later.cell (a := ⟨w.heap.size + 1, 1, none⟩) hz2 b1 x
  clear a0 a1 a2 a3 a4 a5 a6 a7 a8 a9 b0 b1 b2 b3
  refine wp_region_quiet_later (by kernel_rfl) (by kernel_rfl) ?_
  repeat (go_big_quiet_step ((first | (go_at_call 31; refine later_of (v := .bool true) ?_; exact HME.out _) | (go_at_call 33; refine later_same (v := .bool false) ?_; exact HWI.out _))))
  refine wpQuiet_nil ?_
  intro _ hw'
  obtain ⟨x, hw''⟩ := hw'
  subst hw''
  have hx := x.below
  have hBB := hid (X.out.below.trans (hx.mono X.out.below.size))
  generalize x.world = w4 at *
  clear x x0 x1 x2 x3 x4 x5 x6 x7 x8 x9 y0 y1
  go_wp2_with fail
  go_ret
  exact ⟨rfl, hBB.out⟩

theorem may_call (p : Pol) (s : Win) (A : Option Addr) (c : Nat) (cost : Int) (w : World) (hl : s.l.length ≤ 9223372036854775807)
    (hrd : 0 < s.l.length → ∃ g o, A = some ⟨g, o, none⟩ ∧ g < w.heap.size ∧ ∀ i, i < s.l.length → w.cell? ⟨g, o + i, none⟩ = some (.int .i64 (s.l.getD i 0))) :
    Calls Try.prog 12 #[.agg #[.int .i64 p.k, .int .i64 p.cap, .int .i64 p.num, .int .i64 p.den, .int .i64 p.width, .int .i64 p.count, .int .i64 p.keys, .int .i64 p.slots, .int .i64 p.every, .int .i64 p.seg], .agg #[.int .i64 s.g, .slice A s.l.length c], .int .i64 cost] w fun e w' => e = .returned (.bool (mayW p s cost)) ∧ Below w.heap.size w w' := by
  cases hm : meansW p with
  | false =>
    rw [show mayW p s cost = false by simp [mayW, hm]]
    exact may_no p s.g A s.l.length c cost w hm
  | true =>
    cases hwi : within cost 1 1048576 with
    | false =>
      rw [show mayW p s cost = false by simp [mayW, hm, hwi]]
      exact may_cost p s.g A s.l.length c cost w hm hwi
    | true =>
      rw [show mayW p s cost = decide (totalN (countsN p s) + cost ≤ p.cap) by simp [mayW, hm, hwi]]
      exact may_yes p s A c cost w hm hl hrd hwi

set_option maxHeartbeats 4000000 in
set_option linter.unusedVariables false in
theorem take_no (p : Pol) (g : Int) (A : Option Addr) (n c : Nat) (t : Int) (w : World) (hm : meansW p = false) :
    Calls Try.prog 15 #[.agg #[.int .i64 p.k, .int .i64 p.cap, .int .i64 p.num, .int .i64 p.den, .int .i64 p.width, .int .i64 p.count, .int .i64 p.keys, .int .i64 p.slots, .int .i64 p.every, .int .i64 p.seg], .agg #[.int .i64 g, .slice A n c], .int .i64 t] w fun e w' => ∃ sl, e = .returned (.agg #[.int .i64 0, sl]) ∧ Own w.heap.size w' sl [] ∧ Below w.heap.size w w' := by
  have hme := fun w => means_any p w
  rw [hm] at hme
  have HME := hid hme
  clear hm hme
  go_enter Try.func15, Try.ntmps15
  go_wp2_with fail
  refine (HME.out _).mono ?_
  rintro e w1 ⟨rfl, hb⟩
  have hrow : w1.heap[w.heap.size + 2]? = some (.cells #[.int .i64 0, .slice none 0 0] 26 (0, 0)) := by
    rw [hb.block _ (by simp)]
    have := heap_alloc_same ((w.alloc (.cells #[.int .i64 p.k, .int .i64 p.cap, .int .i64 p.num, .int .i64 p.den, .int .i64 p.width, .int .i64 p.count, .int .i64 p.keys, .int .i64 p.slots, .int .i64 p.every, .int .i64 p.seg] 23)).alloc (.cells #[.int .i64 g, .slice A n c] 26)) (.cells #[.int .i64 0, .slice none 0 0] 26)
    simpa using this
  have hr : w1.cell? ⟨w.heap.size + 2, 0, none⟩ = some (.int .i64 0) ∧ w1.cell? ⟨w.heap.size + 2, 1, none⟩ = some (.slice none 0 0) ∧ w1.frozen? ⟨w.heap.size + 2, 0, none⟩ = false ∧ w1.frozen? ⟨w.heap.size + 2, 1, none⟩ = false := by simp [World.cell?, World.frozen?, hrow]
  obtain ⟨c0, c1, c2, c3⟩ := hr
  have HR := hid (row_set2 (x := .int .i64 0) (y := .slice none 0 0) hrow)
  have HB := hid (((((Below.refl _ _).alloc (Nat.le_refl _) _).alloc (by simp) _).alloc (by simp; omega) _).trans (hb.mono (show w.heap.size ≤ _ by simp; omega)))
  clear hb hrow
  go_wp2_with fail
  refine bodyPost_ret (results_cell_row rfl _ _ (w.heap.size + 2) 26 #[.int .i64 0, .slice none 0 0] (0, 0) _ rfl HR.out Try.underlying26 rfl info26) rfl ?_
  exact ⟨_, rfl, Own.nil _ _, (HB.out.setCell (show w.heap.size ≤ w.heap.size + 2 by omega) _).setCell (show w.heap.size ≤ w.heap.size + 2 by omega) _⟩

set_option maxHeartbeats 4000000 in
set_option linter.unusedVariables false in
theorem take_cost (p : Pol) (s : Win) (A : Option Addr) (c : Nat) (cost : Int) (w : World) (hm : meansW p = true) (hl : s.l.length ≤ 9223372036854775807)
    (hrd : 0 < s.l.length → ∃ g o, A = some ⟨g, o, none⟩ ∧ g < w.heap.size ∧ ∀ i, i < s.l.length → w.cell? ⟨g, o + i, none⟩ = some (.int .i64 (s.l.getD i 0))) (hwi : within cost 1 1048576 = false) :
    Calls Try.prog 15 #[.agg #[.int .i64 p.k, .int .i64 p.cap, .int .i64 p.num, .int .i64 p.den, .int .i64 p.width, .int .i64 p.count, .int .i64 p.keys, .int .i64 p.slots, .int .i64 p.every, .int .i64 p.seg], .agg #[.int .i64 s.g, .slice A s.l.length c], .int .i64 cost] w fun e w' => ∃ sl, e = .returned (.agg #[.int .i64 (countsN p s).g, sl]) ∧ Own w.heap.size w' sl (countsN p s).l ∧ Below w.heap.size w w' := by
  have hme := fun w => means_any p w
  rw [hm] at hme
  have hcc := (meansW_bounds hm).2.2.2
  have hcap := (meansW_bounds hm).2.1
  have hcg := counts_good hm s
  have hcnt : ∀ w1, Below w.heap.size w w1 → Calls Try.prog 32 #[.agg #[.int .i64 p.k, .int .i64 p.cap, .int .i64 p.num, .int .i64 p.den, .int .i64 p.width, .int .i64 p.count, .int .i64 p.keys, .int .i64 p.slots, .int .i64 p.every, .int .i64 p.seg], .agg #[.int .i64 s.g, .slice A s.l.length c]] w1 fun e w' => ∃ sl, e = .returned (.agg #[.int .i64 (countsN p s).g, sl]) ∧ Own w1.heap.size w' sl (countsN p s).l ∧ Below w1.heap.size w1 w' := fun w1 hb =>
    counts_call p s A c w1 hm hl fun h0 => by
      obtain ⟨g, o, e, hg, hc⟩ := hrd h0
      exact ⟨g, o, e, Nat.lt_of_lt_of_le hg hb.size, fun i hi => (hb.cell (p := ⟨g, o + i, none⟩) hg).trans (hc i hi)⟩
  have hlen : ((countsN p s).l.length : Int) = p.count := by rw [hcg.len]; omega
  have hok := hcg.ok
  have HME := hid hme
  have CNT := hid hcnt
  clear hm hme hcnt hrd hcg
  generalize s.l.length = ls at *
  generalize s.g = sg at *
  have HWI := hid (fun w => withinF cost w hwi)
  clear hwi hok hlen
  generalize countsN p s = q at *
  obtain ⟨qg, ql⟩ := q
  dsimp only at *
  go_enter Try.func15, Try.ntmps15
  go_upto_region 1 with fail
  refine abstract_world (fun W => Boxes w W p (.int .i64 sg) (.slice A ls c) ∧ Res w W (.int .i64 0) (.slice none 0 0)) ?_ ?_
  · refine ⟨(Boxes.begin w p (.int .i64 sg) (.slice A ls c)).on ((Below.refl _ _).alloc (Nat.le_refl _) _), by simp, ?_⟩
    have := heap_alloc_same ((w.alloc (.cells #[.int .i64 p.k, .int .i64 p.cap, .int .i64 p.num, .int .i64 p.den, .int .i64 p.width, .int .i64 p.count, .int .i64 p.keys, .int .i64 p.slots, .int .i64 p.every, .int .i64 p.seg] 23)).alloc (.cells #[.int .i64 sg, .slice A ls c] 26)) (.cells #[.int .i64 0, .slice none 0 0] 26)
    simpa using this
  intro W ⟨hX, hR⟩
  have X := hid hX
  have R := hid hR
  clear hX hR
  obtain ⟨a0, a1, a2, a3, a4, a5, a6, a7, a8, a9⟩ := X.out.cp
  obtain ⟨b0, b1, b2, b3⟩ := X.out.cs
  obtain ⟨c0, c1, c2, c3⟩ := R.out.cr
  go_wp2_with fail
  refine (HME.out _).mono ?_
  rintro e w1 ⟨rfl, hb⟩
  have X1 := hid (X.out.on hb)
  have R1 := hid (R.out.on hb)
  clear hb
  clear a0 a1 a2 a3 a4 a5 a6 a7 a8 a9 b0 b1 b2 b3 c0 c1 c2 c3
  clear X R
  obtain ⟨a0, a1, a2, a3, a4, a5, a6, a7, a8, a9⟩ := X1.out.cp
  obtain ⟨b0, b1, b2, b3⟩ := X1.out.cs
  obtain ⟨c0, c1, c2, c3⟩ := R1.out.cr
  go_wp2_with fail
  refine (CNT.out _ X1.out.below).mono ?_
  rintro e w2 ⟨sl, rfl, ho, hb⟩
  have hB1 := R1.out.lt
  have X2 := hid ((X1.out.on hb))
  have R2 := hid ((R1.out.on hb))
  obtain ⟨A2, cc, rfl, hf⟩ := ho.form
  have O2 := hid (ho.lower (show w.heap.size + 3 ≤ w1.heap.size by omega))
  clear hb ho hf hB1
  clear a0 a1 a2 a3 a4 a5 a6 a7 a8 a9 b0 b1 b2 b3 c0 c1 c2 c3
  clear X1 R1
  obtain ⟨a0, a1, a2, a3, a4, a5, a6, a7, a8, a9⟩ := X2.out.cp
  obtain ⟨b0, b1, b2, b3⟩ := X2.out.cs
  obtain ⟨c0, c1, c2, c3⟩ := R2.out.cr
  go_upto_region 4 with fail
  clear a0 a1 a2 a3 a4 a5 a6 a7 a8 a9 b0 b1 b2 b3 c0 c1 c2 c3
  refine abstract_world (fun W => Boxes w W p (.int .i64 qg) (.slice A2 ql.length cc) ∧ Res w W (.int .i64 0) (.slice none 0 0) ∧ Own (w.heap.size + 3) W (.slice A2 ql.length cc) ql) ?_ ?_
  · exact ⟨X2.out.set _ _, R2.out.setS _ _, O2.out.set2 (by omega) _ _⟩
  clear X2 R2 O2
  intro W3 ⟨hX, hR, hO⟩
  have X3 := hid hX
  have R3 := hid hR
  have O3 := hid hO
  clear hX hR hO
  obtain ⟨a0, a1, a2, a3, a4, a5, a6, a7, a8, a9⟩ := X3.out.cp
  obtain ⟨b0, b1, b2, b3⟩ := X3.out.cs
  obtain ⟨c0, c1, c2, c3⟩ := R3.out.cr
  go_wp2_with (go_at_call 33; refine (HWI.out _).mono ?_; rintro e w1' ⟨rfl, rfl⟩)
  refine bodyPost_ret (results_cell_row rfl _ _ (w.heap.size + 2) 26 #[.int .i64 qg, .slice A2 ql.length cc] (0, 0) _ rfl (R3.out.set _ _).row Try.underlying26 rfl info26) rfl ?_
  exact ⟨_, rfl, (O3.out.set2 (by omega) _ _).lower (by omega), (X3.out.setR _ _).below⟩

set_option maxHeartbeats 4000000 in
set_option linter.unusedVariables false in
theorem take_yes (p : Pol) (s : Win) (A : Option Addr) (c : Nat) (cost : Int) (w : World) (hm : meansW p = true) (hl : s.l.length ≤ 9223372036854775807)
    (hrd : 0 < s.l.length → ∃ g o, A = some ⟨g, o, none⟩ ∧ g < w.heap.size ∧ ∀ i, i < s.l.length → w.cell? ⟨g, o + i, none⟩ = some (.int .i64 (s.l.getD i 0))) (hwi : within cost 1 1048576 = true) :
    Calls Try.prog 15 #[.agg #[.int .i64 p.k, .int .i64 p.cap, .int .i64 p.num, .int .i64 p.den, .int .i64 p.width, .int .i64 p.count, .int .i64 p.keys, .int .i64 p.slots, .int .i64 p.every, .int .i64 p.seg], .agg #[.int .i64 s.g, .slice A s.l.length c], .int .i64 cost] w fun e w' => ∃ sl, e = .returned (.agg #[.int .i64 (countsN p s).g, sl]) ∧ Own w.heap.size w' sl (lastSet (countsN p s).l cost) ∧ Below w.heap.size w w' := by
  have hme := fun w => means_any p w
  rw [hm] at hme
  have hcc := (meansW_bounds hm).2.2.2
  have hcap := (meansW_bounds hm).2.1
  have hcg := counts_good hm s
  have hcnt : ∀ w1, Below w.heap.size w w1 → Calls Try.prog 32 #[.agg #[.int .i64 p.k, .int .i64 p.cap, .int .i64 p.num, .int .i64 p.den, .int .i64 p.width, .int .i64 p.count, .int .i64 p.keys, .int .i64 p.slots, .int .i64 p.every, .int .i64 p.seg], .agg #[.int .i64 s.g, .slice A s.l.length c]] w1 fun e w' => ∃ sl, e = .returned (.agg #[.int .i64 (countsN p s).g, sl]) ∧ Own w1.heap.size w' sl (countsN p s).l ∧ Below w1.heap.size w1 w' := fun w1 hb =>
    counts_call p s A c w1 hm hl fun h0 => by
      obtain ⟨g, o, e, hg, hc⟩ := hrd h0
      exact ⟨g, o, e, Nat.lt_of_lt_of_le hg hb.size, fun i hi => (hb.cell (p := ⟨g, o + i, none⟩) hg).trans (hc i hi)⟩
  have hlen : ((countsN p s).l.length : Int) = p.count := by rw [hcg.len]; omega
  have hok := hcg.ok
  have HME := hid hme
  have CNT := hid hcnt
  clear hm hme hcnt hrd hcg
  generalize s.l.length = ls at *
  generalize s.g = sg at *
  have hcost := within_iff.1 hwi
  have HWI := hid (fun w => withinF cost w hwi)
  clear hwi
  generalize countsN p s = q at *
  obtain ⟨qg, ql⟩ := q
  dsimp only at *
  obtain ⟨m, hm1⟩ : ∃ m : Nat, ql.length = m + 1 := ⟨ql.length - 1, by omega⟩
  have hx := hok _ (getD_mem (l := ql) (i := m) (by omega))
  have ew : IntKind.i64.wrap (p.count - 1) = (m : Int) := by rw [IntWalk.i64_in _ (by omega)]; omega
  have ls1 : lastSet ql cost = ql.set m (min (ql.getD m 0 + cost) 1099511627776) := by simp [lastSet, hm1]
  rw [ls1]
  have HLEN := hid hlen
  have HM1 := hid hm1
  generalize hgx : ql.getD m 0 = x at *
  have HGX := hid hgx
  clear hok hlen hcc ls1 hm1 hgx
  go_enter Try.func15, Try.ntmps15
  go_upto_region 1 with fail
  refine abstract_world (fun W => Boxes w W p (.int .i64 sg) (.slice A ls c) ∧ Res w W (.int .i64 0) (.slice none 0 0)) ?_ ?_
  · refine ⟨(Boxes.begin w p (.int .i64 sg) (.slice A ls c)).on ((Below.refl _ _).alloc (Nat.le_refl _) _), by simp, ?_⟩
    have := heap_alloc_same ((w.alloc (.cells #[.int .i64 p.k, .int .i64 p.cap, .int .i64 p.num, .int .i64 p.den, .int .i64 p.width, .int .i64 p.count, .int .i64 p.keys, .int .i64 p.slots, .int .i64 p.every, .int .i64 p.seg] 23)).alloc (.cells #[.int .i64 sg, .slice A ls c] 26)) (.cells #[.int .i64 0, .slice none 0 0] 26)
    simpa using this
  intro W ⟨hX, hR⟩
  have X := hid hX
  have R := hid hR
  clear hX hR
  obtain ⟨a0, a1, a2, a3, a4, a5, a6, a7, a8, a9⟩ := X.out.cp
  obtain ⟨b0, b1, b2, b3⟩ := X.out.cs
  obtain ⟨c0, c1, c2, c3⟩ := R.out.cr
  go_wp2_with fail
  refine (HME.out _).mono ?_
  rintro e w1 ⟨rfl, hb⟩
  have X1 := hid (X.out.on hb)
  have R1 := hid (R.out.on hb)
  clear hb
  clear a0 a1 a2 a3 a4 a5 a6 a7 a8 a9 b0 b1 b2 b3 c0 c1 c2 c3
  clear X R
  obtain ⟨a0, a1, a2, a3, a4, a5, a6, a7, a8, a9⟩ := X1.out.cp
  obtain ⟨b0, b1, b2, b3⟩ := X1.out.cs
  obtain ⟨c0, c1, c2, c3⟩ := R1.out.cr
  go_wp2_with fail
  refine (CNT.out _ X1.out.below).mono ?_
  rintro e w2 ⟨sl, rfl, ho, hb⟩
  have hB1 := R1.out.lt
  have X2 := hid ((X1.out.on hb))
  have R2 := hid ((R1.out.on hb))
  obtain ⟨A2, cc, rfl, hf⟩ := ho.form
  have O2 := hid (ho.lower (show w.heap.size + 3 ≤ w1.heap.size by omega))
  clear hb ho hf hB1
  clear a0 a1 a2 a3 a4 a5 a6 a7 a8 a9 b0 b1 b2 b3 c0 c1 c2 c3
  clear X1 R1
  obtain ⟨a0, a1, a2, a3, a4, a5, a6, a7, a8, a9⟩ := X2.out.cp
  obtain ⟨b0, b1, b2, b3⟩ := X2.out.cs
  obtain ⟨c0, c1, c2, c3⟩ := R2.out.cr
  go_upto_region 4 with fail
  clear a0 a1 a2 a3 a4 a5 a6 a7 a8 a9 b0 b1 b2 b3 c0 c1 c2 c3
  refine abstract_world (fun W => Boxes w W p (.int .i64 qg) (.slice A2 ql.length cc) ∧ Res w W (.int .i64 0) (.slice none 0 0) ∧ Own (w.heap.size + 3) W (.slice A2 ql.length cc) ql) ?_ ?_
  · exact ⟨X2.out.set _ _, R2.out.setS _ _, O2.out.set2 (by omega) _ _⟩
  clear X2 R2 O2
  intro W3 ⟨hX, hR, hO⟩
  have X3 := hid hX
  have R3 := hid hR
  have O3 := hid hO
  clear hX hR hO
  obtain ⟨A', c', e', f'⟩ := O3.out.form
  cases e'
  obtain ⟨gs, rfl, hgs1, hgs2, hgc⟩ := f' (by have := HM1.out; omega)
  have hcell := hgc m (by have := HM1.out; omega)
  rw [HGX.out] at hcell
  have hfroz := World.ownsRow.frozenAt O3.out m
  have HST := hid (fun u => (World.ownsRow.stored O3.out m u))
  have hmn : m < ql.length := by have := HM1.out; omega
  have hmn2 : (m : Int) < (ql.length : Int) := by omega
  clear hgc f'
  have ew2 : IntKind.i64.wrap (x + cost) = x + cost := IntWalk.i64_in _ (by omega)
  obtain ⟨a0, a1, a2, a3, a4, a5, a6, a7, a8, a9⟩ := X3.out.cp
  obtain ⟨b0, b1, b2, b3⟩ := X3.out.cs
  obtain ⟨c0, c1, c2, c3⟩ := R3.out.cr
  by_cases hbig : 1099511627776 < x + cost
  · have hmi : min (x + cost) 1099511627776 = 1099511627776 := by omega
    have HMI := hid hmi
    clear hmi
    go_wp2_with (go_at_call 33; refine (HWI.out _).mono ?_; rintro e w1' ⟨rfl, rfl⟩)
    have ho := HST.out (.int .i64 1099511627776)
    have e1 : (W3.setCell ⟨gs, m, none⟩ (.int .i64 1099511627776)).heap[w.heap.size + 2]? = some (.cells #[.int .i64 0, .slice none 0 0] 26 (0, 0)) := by
      rw [heap_setCell_other _ _ _ _ (by simp; omega)]; exact R3.out.row
    refine bodyPost_ret (results_cell_row rfl _ _ (w.heap.size + 2) 26 #[.int .i64 qg, .slice (some ⟨gs, 0, none⟩) ql.length cc] (0, 0) _ rfl (row_set2 e1) Try.underlying26 rfl info26) rfl ?_
    have ho1 : Own (w.heap.size + 3) (W3.setCell ⟨gs, m, none⟩ (.int .i64 1099511627776)) (.slice (some ⟨gs, 0, none⟩) ql.length cc) (ql.set m 1099511627776) := by
      have := ho.1
      unfold Own
      rw [List.map_set, List.length_set]
      exact this
    refine ⟨_, rfl, ?_, ((X3.out.below.setCell (show w.heap.size ≤ gs by omega) _).setCell (show w.heap.size ≤ w.heap.size + 2 by omega) _).setCell (show w.heap.size ≤ w.heap.size + 2 by omega) _⟩
    rw [HMI.out]
    exact (ho1.set2 (by omega) _ _).lower (by omega)
  · have hmi : min (x + cost) 1099511627776 = x + cost := by omega
    have HMI := hid hmi
    clear hmi
    go_wp2_with (go_at_call 33; refine (HWI.out _).mono ?_; rintro e w1' ⟨rfl, rfl⟩)
    have ho := HST.out (.int .i64 (x + cost))
    have e1 : (W3.setCell ⟨gs, m, none⟩ (.int .i64 (x + cost))).heap[w.heap.size + 2]? = some (.cells #[.int .i64 0, .slice none 0 0] 26 (0, 0)) := by
      rw [heap_setCell_other _ _ _ _ (by simp; omega)]; exact R3.out.row
    refine bodyPost_ret (results_cell_row rfl _ _ (w.heap.size + 2) 26 #[.int .i64 qg, .slice (some ⟨gs, 0, none⟩) ql.length cc] (0, 0) _ rfl (row_set2 e1) Try.underlying26 rfl info26) rfl ?_
    have ho1 : Own (w.heap.size + 3) (W3.setCell ⟨gs, m, none⟩ (.int .i64 (x + cost))) (.slice (some ⟨gs, 0, none⟩) ql.length cc) (ql.set m (x + cost)) := by
      have := ho.1
      unfold Own
      rw [List.map_set, List.length_set]
      exact this
    refine ⟨_, rfl, ?_, ((X3.out.below.setCell (show w.heap.size ≤ gs by omega) _).setCell (show w.heap.size ≤ w.heap.size + 2 by omega) _).setCell (show w.heap.size ≤ w.heap.size + 2 by omega) _⟩
    rw [HMI.out]
    exact (ho1.set2 (by omega) _ _).lower (by omega)

theorem take_call (p : Pol) (s : Win) (A : Option Addr) (c : Nat) (cost : Int) (w : World) (hl : s.l.length ≤ 9223372036854775807)
    (hrd : 0 < s.l.length → ∃ g o, A = some ⟨g, o, none⟩ ∧ g < w.heap.size ∧ ∀ i, i < s.l.length → w.cell? ⟨g, o + i, none⟩ = some (.int .i64 (s.l.getD i 0))) :
    Calls Try.prog 15 #[.agg #[.int .i64 p.k, .int .i64 p.cap, .int .i64 p.num, .int .i64 p.den, .int .i64 p.width, .int .i64 p.count, .int .i64 p.keys, .int .i64 p.slots, .int .i64 p.every, .int .i64 p.seg], .agg #[.int .i64 s.g, .slice A s.l.length c], .int .i64 cost] w fun e w' => ∃ sl, e = .returned (.agg #[.int .i64 (takeW p s cost).g, sl]) ∧ Own w.heap.size w' sl (takeW p s cost).l ∧ Below w.heap.size w w' := by
  cases hm : meansW p with
  | false =>
    have e : takeW p s cost = ⟨0, []⟩ := by simp [takeW, hm, noWin]
    rw [e]
    exact take_no p s.g A s.l.length c cost w hm
  | true =>
    cases hwi : within cost 1 1048576 with
    | false =>
      have e : takeW p s cost = countsN p s := by simp [takeW, hm, takeN, hwi]
      rw [e]
      exact take_cost p s A c cost w hm hl hrd hwi
    | true =>
      have e : takeW p s cost = ⟨(countsN p s).g, lastSet (countsN p s).l cost⟩ := by simp [takeW, hm, takeN, hwi]
      rw [e]
      exact take_yes p s A c cost w hm hl hrd hwi

end Go.Proofs.Ytkcnenekmjgmgaa
end

section
/- The policy of the document's example, and the small case that each law begins with. -/
namespace Go.Proofs.Ytkcnenekmjgmgaa
open Go.RowKit

theorem plain_window (w : World) : Calls Try.prog 29 #[.int .i64 2] w
    fun e w' => e = .returned (.agg #[.int .i64 2, .int .i64 10, .int .i64 0, .int .i64 0, .int .i64 5, .int .i64 3, .int .i64 5, .int .i64 3, .int .i64 4, .int .i64 6]) ∧ Below w.heap.size w w' := by
  go_enter Try.func29, Try.ntmps29
  go_wp2
  exact bodyPost_ret (v := .agg #[.int .i64 2, .int .i64 10, .int .i64 0, .int .i64 0, .int .i64 5, .int .i64 3, .int .i64 5, .int .i64 3, .int .i64 4, .int .i64 6]) (by simp [results, Try.results29, go_sem]) rfl ⟨rfl, (Below.refl _ _).alloc (Nat.le_refl _) _⟩

def ex : Pol := ⟨2, 10, 0, 0, 5, 3, 5, 3, 4, 6⟩
theorem ex_move : (moveP ex ⟨4, [1, 2, 3]⟩ 25).g = 5 ∧ (moveP ex ⟨4, [1, 2, 3]⟩ 25).l = [2, 3, 0] := by decide +kernel
theorem ex_may1 : mayW ex ⟨5, [2, 3, 0]⟩ 5 = true := by decide +kernel
theorem ex_may2 : mayW ex ⟨5, [2, 3, 0]⟩ 6 = false := by decide +kernel
theorem ex_total : totalN ⟨5, [2, 3, 0]⟩ = 5 := by decide +kernel

theorem ex_move_call (g : Nat) (w : World) (hg : g < w.heap.size) (h0 : w.cell? ⟨g, 0, none⟩ = some (.int .i64 1)) (h1 : w.cell? ⟨g, 1, none⟩ = some (.int .i64 2)) (h2 : w.cell? ⟨g, 2, none⟩ = some (.int .i64 3)) :
    Calls Try.prog 11 #[.agg #[.int .i64 2, .int .i64 10, .int .i64 0, .int .i64 0, .int .i64 5, .int .i64 3, .int .i64 5, .int .i64 3, .int .i64 4, .int .i64 6], .agg #[.int .i64 4, .slice (some ⟨g, 0, none⟩) 3 3], .int .i64 25] w fun e w' => ∃ g2 c2, e = .returned (.agg #[.int .i64 5, .slice (some ⟨g2, 0, none⟩) 3 c2]) ∧ Own w.heap.size w' (.slice (some ⟨g2, 0, none⟩) 3 c2) [2, 3, 0] ∧ Below w.heap.size w w' := by
  have := move_call ex ⟨4, [1, 2, 3]⟩ (some ⟨g, 0, none⟩) 3 25 w (by decide) (fun _ => ⟨g, 0, rfl, hg, fun i hi => by
    match i, hi with
    | 0, _ => simpa using h0
    | 1, _ => simpa using h1
    | 2, _ => simpa using h2⟩)
  rw [ex_move.1, ex_move.2] at this
  refine Calls.mono this ?_
  rintro e w' ⟨sl, rfl, ho, hb⟩
  obtain ⟨A, c2, rfl, f⟩ := ho.form
  obtain ⟨g2, rfl, _⟩ := f (by decide)
  exact ⟨g2, c2, rfl, ho, hb⟩
theorem ex_may1_call {B : Nat} (g c : Nat) (w : World) (h : Own B w (.slice (some ⟨g, 0, none⟩) 3 c) [2, 3, 0]) :
    Calls Try.prog 12 #[.agg #[.int .i64 2, .int .i64 10, .int .i64 0, .int .i64 0, .int .i64 5, .int .i64 3, .int .i64 5, .int .i64 3, .int .i64 4, .int .i64 6], .agg #[.int .i64 5, .slice (some ⟨g, 0, none⟩) 3 c], .int .i64 5] w fun e w' => e = .returned (.bool true) ∧ Below w.heap.size w w' := by
  have := may_call ex ⟨5, [2, 3, 0]⟩ (some ⟨g, 0, none⟩) c 5 w (by decide) (by obtain ⟨A', c', e, f⟩ := h.reads.form; cases e; exact f)
  rw [ex_may1] at this
  exact this
theorem ex_may2_call {B : Nat} (g c : Nat) (w : World) (h : Own B w (.slice (some ⟨g, 0, none⟩) 3 c) [2, 3, 0]) :
    Calls Try.prog 12 #[.agg #[.int .i64 2, .int .i64 10, .int .i64 0, .int .i64 0, .int .i64 5, .int .i64 3, .int .i64 5, .int .i64 3, .int .i64 4, .int .i64 6], .agg #[.int .i64 5, .slice (some ⟨g, 0, none⟩) 3 c], .int .i64 6] w fun e w' => e = .returned (.bool false) ∧ Below w.heap.size w w' := by
  have := may_call ex ⟨5, [2, 3, 0]⟩ (some ⟨g, 0, none⟩) c 6 w (by decide) (by obtain ⟨A', c', e, f⟩ := h.reads.form; cases e; exact f)
  rw [ex_may2] at this
  exact this
theorem ex_total_call {B : Nat} (g c : Nat) (w : World) (h : Own B w (.slice (some ⟨g, 0, none⟩) 3 c) [2, 3, 0]) :
    Calls Try.prog 13 #[.agg #[.int .i64 5, .slice (some ⟨g, 0, none⟩) 3 c]] w fun e w' => e = .returned (.int .i64 5) ∧ Below w.heap.size w w' := by
  have := total_call ⟨5, [2, 3, 0]⟩ (some ⟨g, 0, none⟩) c w (by decide) (by obtain ⟨A', c', e, f⟩ := h.reads.form; cases e; exact f)
  rw [ex_total] at this
  exact this

/-- A window in a variable: its cell, and its numbers in a row of their own. -/
structure WinAt (B : Nat) (W : World) (b : Nat) (g : Int) (sl : Value) (l : List Int) : Prop where
  lt : b < W.heap.size
  row : W.heap[b]? = some (.cells #[.int .i64 g, sl] 26 (0, 0))
  own : Own B W sl l
theorem WinAt.on {B : Nat} {W W' : World} {b : Nat} {g : Int} {sl : Value} {l : List Int} (h : WinAt B W b g sl l) (hb : Below W.heap.size W W') : WinAt B W' b g sl l :=
  ⟨Nat.lt_of_lt_of_le h.lt hb.size, (hb.block _ h.lt).trans h.row, h.own.below hb⟩
theorem WinAt.begin {B : Nat} {W : World} {g : Int} {sl : Value} {l : List Int} (h : Own B W sl l) : WinAt B (W.alloc (.cells #[.int .i64 g, sl] 26)) W.heap.size g sl l :=
  ⟨by simp, heap_alloc_same _ _, h.below ((Below.refl _ _).alloc (Nat.le_refl _) _)⟩
theorem WinAt.cell {B : Nat} {W : World} {b : Nat} {g : Int} {sl : Value} {l : List Int} (h : WinAt B W b g sl l) : W.cell? ⟨b, 0, none⟩ = some (.int .i64 g) ∧ W.cell? ⟨b, 1, none⟩ = some sl := by
  have hp := h.row
  simp [World.cell?, hp]
/-- A policy in a variable. -/
structure PolAt (W : World) (b : Nat) (p : Pol) : Prop where
  lt : b < W.heap.size
  row : W.heap[b]? = some (.cells #[.int .i64 p.k, .int .i64 p.cap, .int .i64 p.num, .int .i64 p.den, .int .i64 p.width, .int .i64 p.count, .int .i64 p.keys, .int .i64 p.slots, .int .i64 p.every, .int .i64 p.seg] 23 (0, 0))
theorem PolAt.on {W W' : World} {b : Nat} {p : Pol} (h : PolAt W b p) (hb : Below W.heap.size W W') : PolAt W' b p :=
  ⟨Nat.lt_of_lt_of_le h.lt hb.size, (hb.block _ h.lt).trans h.row⟩
theorem PolAt.begin (W : World) (p : Pol) : PolAt (W.alloc (.cells #[.int .i64 p.k, .int .i64 p.cap, .int .i64 p.num, .int .i64 p.den, .int .i64 p.width, .int .i64 p.count, .int .i64 p.keys, .int .i64 p.slots, .int .i64 p.every, .int .i64 p.seg] 23)) W.heap.size p := ⟨by simp, heap_alloc_same _ _⟩
theorem PolAt.cell {W : World} {b : Nat} {p : Pol} (h : PolAt W b p) : W.cell? ⟨b, 0, none⟩ = some (.int .i64 p.k) ∧ W.cell? ⟨b, 1, none⟩ = some (.int .i64 p.cap) ∧ W.cell? ⟨b, 2, none⟩ = some (.int .i64 p.num) ∧ W.cell? ⟨b, 3, none⟩ = some (.int .i64 p.den) ∧ W.cell? ⟨b, 4, none⟩ = some (.int .i64 p.width) ∧ W.cell? ⟨b, 5, none⟩ = some (.int .i64 p.count) ∧ W.cell? ⟨b, 6, none⟩ = some (.int .i64 p.keys) ∧ W.cell? ⟨b, 7, none⟩ = some (.int .i64 p.slots) ∧ W.cell? ⟨b, 8, none⟩ = some (.int .i64 p.every) ∧ W.cell? ⟨b, 9, none⟩ = some (.int .i64 p.seg) := by
  have hp := h.row
  simp [World.cell?, hp]

set_option maxHeartbeats 4000000 in
theorem awake_call (w : World) : Calls Try.prog 9 #[] w fun e w' => e = .returned (.bool true) ∧ Below w.heap.size w w' := by
  go_enter Try.func9, Try.ntmps9
  go_wp2_with fail
  refine (plain_window _).mono ?_
  rintro e w1 ⟨rfl, hb0⟩
  go_upto_region 2 with fail
  have B1 := hid ((hb0).alloc hb0.size (.cells #[.int .i64 2, .int .i64 10, .int .i64 0, .int .i64 0, .int .i64 5, .int .i64 3, .int .i64 5, .int .i64 3, .int .i64 4, .int .i64 6] 23))
  have P1 := hid (heap_alloc_same w1 (.cells #[.int .i64 2, .int .i64 10, .int .i64 0, .int .i64 0, .int .i64 5, .int .i64 3, .int .i64 5, .int .i64 3, .int .i64 4, .int .i64 6] 23))
  have hz0 := hb0.size
  have L1 := hid (show w1.heap.size < (w1.alloc (.cells #[.int .i64 2, .int .i64 10, .int .i64 0, .int .i64 0, .int .i64 5, .int .i64 3, .int .i64 5, .int .i64 3, .int .i64 4, .int .i64 6] 23)).heap.size by simp)
  generalize (w1.alloc (.cells #[.int .i64 2, .int .i64 10, .int .i64 0, .int .i64 0, .int .i64 5, .int .i64 3, .int .i64 5, .int .i64 3, .int .i64 4, .int .i64 6] 23)) = W1 at *
  generalize w1.heap.size = tb at *
  clear hb0
  have cp : W1.cell? ⟨tb, 0, none⟩ = some (.int .i64 2) ∧ W1.cell? ⟨tb, 1, none⟩ = some (.int .i64 10) ∧ W1.cell? ⟨tb, 2, none⟩ = some (.int .i64 0) ∧ W1.cell? ⟨tb, 3, none⟩ = some (.int .i64 0) ∧ W1.cell? ⟨tb, 4, none⟩ = some (.int .i64 5) ∧ W1.cell? ⟨tb, 5, none⟩ = some (.int .i64 3) ∧ W1.cell? ⟨tb, 6, none⟩ = some (.int .i64 5) ∧ W1.cell? ⟨tb, 7, none⟩ = some (.int .i64 3) ∧ W1.cell? ⟨tb, 8, none⟩ = some (.int .i64 4) ∧ W1.cell? ⟨tb, 9, none⟩ = some (.int .i64 6) := by have hp := P1.out; simp [World.cell?, hp]
  obtain ⟨a0, a1, a2, a3, a4, a5, a6, a7, a8, a9⟩ := cp
  go_wp2_with fail
  refine (ex_move_call W1.heap.size _ (by simp) (by simp) (by simp) (by simp)).mono ?_
  rintro e w2 ⟨g2, c2, rfl, ho, hb⟩
  have hs2 : W1.heap.size < w2.heap.size := by have := hb.size; simp at this; omega
  have hb2 := ((Below.refl W1.heap.size W1).alloc (Nat.le_refl _) (.cells #[.int .i64 1, .int .i64 2, .int .i64 3] 3)).trans (hb.mono (by simp))
  have B2 := hid (B1.out.trans (hb2.mono B1.out.size))
  have P2 := hid (PolAt.on (p := ex) ⟨L1.out, P1.out⟩ hb2)
  have W2 := hid (WinAt.begin (g := 5) ho)
  have P3 := hid (P2.out.on ((Below.refl w2.heap.size w2).alloc (Nat.le_refl _) (.cells #[.int .i64 5, .slice (some ⟨g2, 0, none⟩) 3 c2] 26)))
  have B3 := hid (B2.out.alloc B2.out.size (.cells #[.int .i64 5, .slice (some ⟨g2, 0, none⟩) 3 c2] 26))
  clear ho hb hb2 a0 a1 a2 a3 a4 a5 a6 a7 a8 a9 B1 P1 L1 hs2 B2 P2
  go_upto_region 3 with fail
  generalize (w2.alloc (.cells #[.int .i64 5, .slice (some ⟨g2, 0, none⟩) 3 c2] 26)) = W3 at *
  generalize w2.heap.size = sb at *
  obtain ⟨a0, a1, a2, a3, a4, a5, a6, a7, a8, a9⟩ := P3.out.cell
  obtain ⟨b0, b1⟩ := W2.out.cell
  go_wp2_with fail
  refine (ex_may1_call _ _ _ W2.out.own).mono ?_
  rintro e w4 ⟨rfl, hb⟩
  have P3' := hid (P3.out.on hb)
  have W2' := hid (W2.out.on hb)
  have B3' := hid (B3.out.trans (hb.mono B3.out.size))
  clear hb
  clear a0 a1 a2 a3 a4 a5 a6 a7 a8 a9 b0 b1
  clear P3 W2 B3
  obtain ⟨a0, a1, a2, a3, a4, a5, a6, a7, a8, a9⟩ := P3'.out.cell
  obtain ⟨b0, b1⟩ := W2'.out.cell
  go_wp2_with fail
  refine (ex_may2_call _ _ _ W2'.out.own).mono ?_
  rintro e w5 ⟨rfl, hb⟩
  have P3'' := hid (P3'.out.on hb)
  have W2'' := hid (W2'.out.on hb)
  have B3'' := hid (B3'.out.trans (hb.mono B3'.out.size))
  clear hb
  clear a0 a1 a2 a3 a4 a5 a6 a7 a8 a9 b0 b1
  clear P3' W2' B3'
  have hcell : w5.cell? ⟨g2, 0, none⟩ = some (.int .i64 2) ∧ w5.cell? ⟨g2, 2, none⟩ = some (.int .i64 0) := by
    have o := W2''.out.own
    exact ⟨World.ownsRow.cellAt o 0 (by decide), World.ownsRow.cellAt o 2 (by decide)⟩
  obtain ⟨k0, k2⟩ := hcell
  obtain ⟨a0, a1, a2, a3, a4, a5, a6, a7, a8, a9⟩ := P3''.out.cell
  obtain ⟨b0, b1⟩ := W2''.out.cell
  go_wp2_with fail
  refine (ex_total_call _ _ _ W2''.out.own).mono ?_
  rintro e w6 ⟨rfl, hb⟩
  have B6 := hid (B3''.out.trans (hb.mono B3''.out.size))
  clear hb
  go_wp2_with fail
  go_ret
  exact ⟨rfl, B6.out⟩

end Go.Proofs.Ytkcnenekmjgmgaa
end

section
/- The contracts on a window whose numbers lie in a row of their own; plain laws of windows. -/
namespace Go.Proofs.Ytkcnenekmjgmgaa
open Go.RowKit

theorem own_read {B : Nat} {w : World} {A : Option Addr} {c : Nat} {l : List Int} (h : Own B w (.slice A l.length c) l) :
    0 < l.length → ∃ g o, A = some ⟨g, o, none⟩ ∧ g < w.heap.size ∧ ∀ i, i < l.length → w.cell? ⟨g, o + i, none⟩ = some (.int .i64 (l.getD i 0)) := by
  obtain ⟨A', c', e, f⟩ := h.reads.form
  cases e
  exact f
theorem may_own (p : Pol) (x : Win) (cost : Int) {B : Nat} {w : World} {A : Option Addr} {c : Nat} (hl : x.l.length ≤ 9223372036854775807) (h : Own B w (.slice A x.l.length c) x.l) :
    Calls Try.prog 12 #[.agg #[.int .i64 p.k, .int .i64 p.cap, .int .i64 p.num, .int .i64 p.den, .int .i64 p.width, .int .i64 p.count, .int .i64 p.keys, .int .i64 p.slots, .int .i64 p.every, .int .i64 p.seg], .agg #[.int .i64 x.g, .slice A x.l.length c], .int .i64 cost] w fun e w' => e = .returned (.bool (mayW p x cost)) ∧ Below w.heap.size w w' := may_call p x A c cost w hl (own_read h)
theorem total_own (x : Win) {B : Nat} {w : World} {A : Option Addr} {c : Nat} (hl : x.l.length ≤ 9223372036854775807) (h : Own B w (.slice A x.l.length c) x.l) :
    Calls Try.prog 13 #[.agg #[.int .i64 x.g, .slice A x.l.length c]] w fun e w' => e = .returned (.int .i64 (totalN x)) ∧ Below w.heap.size w w' := total_call x A c w hl (own_read h)
theorem move_own (p : Pol) (x : Win) (t : Int) {B : Nat} {w : World} {A : Option Addr} {c : Nat} (hl : x.l.length ≤ 9223372036854775807) (h : Own B w (.slice A x.l.length c) x.l) :
    Calls Try.prog 11 #[.agg #[.int .i64 p.k, .int .i64 p.cap, .int .i64 p.num, .int .i64 p.den, .int .i64 p.width, .int .i64 p.count, .int .i64 p.keys, .int .i64 p.slots, .int .i64 p.every, .int .i64 p.seg], .agg #[.int .i64 x.g, .slice A x.l.length c], .int .i64 t] w fun e w' => ∃ sl, e = .returned (.agg #[.int .i64 (moveP p x t).g, sl]) ∧ Own w.heap.size w' sl (moveP p x t).l ∧ Below w.heap.size w w' := move_call p x A c t w hl (own_read h)
theorem take_own (p : Pol) (x : Win) (cost : Int) {B : Nat} {w : World} {A : Option Addr} {c : Nat} (hl : x.l.length ≤ 9223372036854775807) (h : Own B w (.slice A x.l.length c) x.l) :
    Calls Try.prog 15 #[.agg #[.int .i64 p.k, .int .i64 p.cap, .int .i64 p.num, .int .i64 p.den, .int .i64 p.width, .int .i64 p.count, .int .i64 p.keys, .int .i64 p.slots, .int .i64 p.every, .int .i64 p.seg], .agg #[.int .i64 x.g, .slice A x.l.length c], .int .i64 cost] w fun e w' => ∃ sl, e = .returned (.agg #[.int .i64 (takeW p x cost).g, sl]) ∧ Own w.heap.size w' sl (takeW p x cost).l ∧ Below w.heap.size w w' := take_call p x A c cost w hl (own_read h)

/-- A window handed in reads, in whatever world behind. -/
def ReadIn (w : World) (A : Option Addr) (l : List Int) : Prop := 0 < l.length → ∃ g o, A = some ⟨g, o, none⟩ ∧ g < w.heap.size ∧ ∀ i, i < l.length → w.cell? ⟨g, o + i, none⟩ = some (.int .i64 (l.getD i 0))
theorem ReadIn.on {w w' : World} {A : Option Addr} {l : List Int} (h : ReadIn w A l) (hb : Below w.heap.size w w') : ReadIn w' A l := fun h0 => by
  obtain ⟨g, o, e, hg, hc⟩ := h h0
  exact ⟨g, o, e, Nat.lt_of_lt_of_le hg hb.size, fun i hi => (hb.cell (p := ⟨g, o + i, none⟩) hg).trans (hc i hi)⟩

/-! ### Plain laws -/
theorem moveP_yes {p : Pol} (hm : meansW p = true) (s : Win) (t : Int) : moveP p s t = moveN p s t := by simp [moveP, hm]
theorem takeW_yes {p : Pol} (hm : meansW p = true) (s : Win) (t : Int) : takeW p s t = takeN p s t := by simp [takeW, hm]
theorem moveP_good {p : Pol} (hm : meansW p = true) (s : Win) (t : Int) : Good p (moveP p s t) := by rw [moveP_yes hm]; exact move_good hm s t
theorem takeW_good {p : Pol} (hm : meansW p = true) (s : Win) (c : Int) : Good p (takeW p s c) := by rw [takeW_yes hm]; exact take_good hm s c
theorem Good.small {p : Pol} {x : Win} (hm : meansW p = true) (h : Good p x) : x.l.length ≤ 32 := by
  have := (meansW_bounds hm).2.2.2
  have := h.len
  omega
theorem totalN_good {p : Pol} {x : Win} (hm : meansW p = true) (h : Good p x) : totalN x = sumN x.l := by
  have := h.small hm
  simp [totalN]
  omega
theorem mayW_good {p : Pol} {x : Win} (hm : meansW p = true) (h : Good p x) (c : Int) : mayW p x c = (within c 1 1048576 && decide (sumN x.l + c ≤ p.cap)) := by
  unfold mayW
  rw [hm, countsN_self hm h, totalN_good hm h]
  simp
theorem may_less {p : Pol} {x : Win} (hm : meansW p = true) (h : Good p x) {c f : Int} (h1 : 1 ≤ f) (h2 : f ≤ c) (hc : mayW p x c = true) : mayW p x f = true := by
  rw [mayW_good hm h] at *
  simp only [Bool.and_eq_true, within_iff, decide_eq_true_eq] at *
  omega
theorem sumN_zeros (n : Nat) : sumN (zeros n) = 0 := by
  induction n with
  | zero => rfl
  | succ n ih => simp only [zeros, List.replicate_succ, sumN] at *; rw [ih, clipI_mid (by omega) (by omega)]; rfl
theorem sumN_drop (l : List Int) (k : Nat) : sumN (l.drop k) ≤ sumN l := by
  have e := sumN_append (l.take k) (l.drop k)
  rw [List.take_append_drop] at e
  have := sumN_bound (l.take k)
  omega
theorem sumN_shift (l : List Int) (k : Nat) : sumN (shiftL l k) ≤ sumN l := by
  unfold shiftL
  rw [sumN_append, sumN_zeros]
  have := sumN_drop l k
  omega
theorem move_less {p : Pol} {x : Win} (hm : meansW p = true) (h : Good p x) (t : Int) : totalN (moveP p x t) ≤ totalN x := by
  rw [totalN_good hm (moveP_good hm x t), totalN_good hm h, moveP_yes hm]
  unfold moveN
  rw [countsN_self hm h]
  split
  · omega
  · exact sumN_shift _ _

end Go.Proofs.Ytkcnenekmjgmgaa
end

section
/- Contract: are two windows the same? -/
namespace Go.Proofs.Ytkcnenekmjgmgaa
open Go.RowKit

/-- Two windows, the same. -/
def sameB (a b : Win) : Bool := decide (a.g = b.g ∧ a.l = b.l)

set_option maxHeartbeats 4000000 in
set_option maxRecDepth 100000 in
set_option linter.unusedVariables false in
theorem same_grid (a b : Win) (A A' : Option Addr) (c c' : Nat) (w : World) (hl : a.l.length ≤ 9223372036854775807) (hl' : b.l.length ≤ 9223372036854775807) (hr : ReadIn w A a.l) (hr' : ReadIn w A' b.l) (h : ¬ a.g = b.g) :
    Calls Try.prog 19 #[.agg #[.int .i64 a.g, .slice A a.l.length c], .agg #[.int .i64 b.g, .slice A' b.l.length c']] w fun e w' => e = .returned (.bool false) ∧ Below w.heap.size w w' := by
  clear hr hr'
  generalize a.l.length = n at *
  generalize b.l.length = m at *
  generalize a.g = ag at *
  generalize b.g = bg at *
  have h2 : (ag != bg) = true := by simp [h]
  go_enter Try.func19, Try.ntmps19
  go_wp2_with fail
  go_ret
  exact ⟨rfl, ((Below.refl w.heap.size w).alloc (Nat.le_refl _) _).alloc (by simp) _⟩

set_option maxHeartbeats 4000000 in
set_option maxRecDepth 100000 in
set_option linter.unusedVariables false in
theorem same_len (a b : Win) (A A' : Option Addr) (c c' : Nat) (w : World) (hl : a.l.length ≤ 9223372036854775807) (hl' : b.l.length ≤ 9223372036854775807) (hr : ReadIn w A a.l) (hr' : ReadIn w A' b.l) (h : a.g = b.g) (h2 : ¬ a.l.length = b.l.length) :
    Calls Try.prog 19 #[.agg #[.int .i64 a.g, .slice A a.l.length c], .agg #[.int .i64 b.g, .slice A' b.l.length c']] w fun e w' => e = .returned (.bool false) ∧ Below w.heap.size w w' := by
  clear hr hr'
  rw [← h]
  generalize a.l.length = n at *
  generalize b.l.length = m at *
  generalize a.g = ag at *
  clear h
  have h2 : ((n : Int) != (m : Int)) = true := by simp; omega
  go_enter Try.func19, Try.ntmps19
  go_wp2_with fail
  go_ret
  exact ⟨rfl, ((Below.refl w.heap.size w).alloc (Nat.le_refl _) _).alloc (by simp) _⟩

theorem take_eq_succ {a b : List Int} {k : Nat} (h : a.take k = b.take k) (hx : a.getD k 0 = b.getD k 0) (ha : k < a.length) (hb : k < b.length) : a.take (k + 1) = b.take (k + 1) := by
  rw [List.take_succ_eq_append_getElem ha, List.take_succ_eq_append_getElem hb, h]
  simp [ha, hb] at hx
  rw [hx]

set_option maxHeartbeats 4000000 in
set_option maxRecDepth 100000 in
set_option linter.unusedVariables false in
theorem same_list (a b : Win) (A A' : Option Addr) (c c' : Nat) (w : World) (hl : a.l.length ≤ 9223372036854775807) (hl' : b.l.length ≤ 9223372036854775807) (hr : ReadIn w A a.l) (hr' : ReadIn w A' b.l) (h : a.g = b.g) (h2 : b.l.length = a.l.length) :
    Calls Try.prog 19 #[.agg #[.int .i64 a.g, .slice A a.l.length c], .agg #[.int .i64 b.g, .slice A' b.l.length c']] w fun e w' => e = .returned (.bool (decide (a.l = b.l))) ∧ Below w.heap.size w w' := by
  rw [← h, h2]
  have R := hid hr
  have R' := hid hr'
  clear hr hr' h hl'
  obtain ⟨ag, al⟩ := a
  obtain ⟨bg, bl⟩ := b
  dsimp only at *
  have H2 := hid h2
  clear h2
  generalize hn : al.length = n at *
  have HN := hid hn
  clear hn
  go_enter Try.func19, Try.ntmps19
  go_upto_region 3 with fail
  refine abstract_world (fun W => Below w.heap.size w W ∧ W.cell? ⟨w.heap.size, 1, none⟩ = some (.slice A n c) ∧ W.cell? ⟨w.heap.size + 1, 1, none⟩ = some (.slice A' n c')) ?_ ?_
  · exact ⟨((Below.refl w.heap.size w).alloc (Nat.le_refl _) _).alloc (by simp) _, by simp, by simp⟩
  intro W ⟨hB, c1, c2⟩
  go_wp2_with fail
  go_loopw [5] (fun s5 wr => ∃ k q : Nat, k ≤ n ∧ s5 = .int .i64 k ∧ Aside (al.take k = bl.take k) ∧ wr = W.drewN q) (fun i _ => n - (intOf i).toNat)
  case atStart => exact ⟨0, 0, by omega, rfl, by simp [Aside], rfl⟩
  case round =>
    obtain ⟨k, q, hk, rfl, hA, rfl⟩ := hrel
    by_cases hlt : k < n
    · obtain ⟨g1, o1, rfl, hg1, hc1⟩ := R.out (by have := HN.out; omega)
      obtain ⟨g2, o2, rfl, hg2, hc2⟩ := R'.out (by have := HN.out; have := H2.out; omega)
      have hki : (0 : Int) ≤ (k : Int) := by omega
      have hkn : (k : Int) < (n : Int) := by omega
      have hx := (hB.cell (p := ⟨g1, o1 + k, none⟩) hg1).trans (hc1 k (by have := HN.out; omega))
      have hy := (hB.cell (p := ⟨g2, o2 + k, none⟩) hg2).trans (hc2 k (by have := HN.out; have := H2.out; omega))
      have TE := hid (fun e => take_eq_succ (a := al) (b := bl) (k := k) hA.out e (by have := HN.out; omega) (by have := HN.out; have := H2.out; omega))
      have NE := hid (show al = bl → al.getD k 0 = bl.getD k 0 from fun e => by rw [e])
      clear hc1 hc2
      generalize al.getD k 0 = x at *
      generalize bl.getD k 0 = y at *
      by_cases hxy : x = y
      · subst hxy
        go_upto_region 6 with fail
        go_quiet (fail)
        go_wp2_with fail
        go_roundw
        case rel => exact ⟨k + 1, _, by omega, by go_num, TE.out rfl, rfl⟩
        case measure => simp [intOf]; omega
      · have hne : (x != y) = true := by simp [hxy]
        have hf := NE.out
        have hd : decide (al = bl) = false := by simp; exact fun e => hxy (hf e)
        go_upto_region 6 with fail
        go_quiet (fail)
        go_wp2_with fail
        go_ret
        exact ⟨by rw [hd]; rfl, below_drewN' (below_drewN' hB _) _⟩
    · have : k = n := by omega
      subst this
      have hlt : ¬ (k : Int) < (k : Int) := by omega
      have E := hid (show decide (al = bl) = true by
        have := hA.out
        rw [List.take_of_length_le (by have := HN.out; omega), List.take_of_length_le (by have := HN.out; have := H2.out; omega)] at this
        simp [this])
      clear hA
      go_wp2_with fail
      go_ret
      exact ⟨by rw [E.out]; rfl, below_drewN' hB _⟩

theorem same_call (a b : Win) (A A' : Option Addr) (c c' : Nat) (w : World) (hl : a.l.length ≤ 9223372036854775807) (hl' : b.l.length ≤ 9223372036854775807) (hr : ReadIn w A a.l) (hr' : ReadIn w A' b.l) :
    Calls Try.prog 19 #[.agg #[.int .i64 a.g, .slice A a.l.length c], .agg #[.int .i64 b.g, .slice A' b.l.length c']] w fun e w' => e = .returned (.bool (sameB a b)) ∧ Below w.heap.size w w' := by
  by_cases h : a.g = b.g
  · by_cases h2 : b.l.length = a.l.length
    · rw [show sameB a b = decide (a.l = b.l) by simp [sameB, h]]
      exact same_list a b A A' c c' w hl hl' hr hr' h h2
    · rw [show sameB a b = false by simp [sameB]; intro _ e; exact h2 (by rw [e])]
      exact same_len a b A A' c c' w hl hl' hr hr' h (fun e => h2 e.symm)
  · rw [show sameB a b = false by simp [sameB, h]]
    exact same_grid a b A A' c c' w hl hl' hr hr' h

end Go.Proofs.Ytkcnenekmjgmgaa
end

section
/- The functions of package window that were walked by hand, told in the form of the functions that a printer tells. -/
namespace Go.Proofs.YtkcnenekmjgmgaaP
open Go.RowKit Go.Proofs.YtkcnenekmjgmgaaW.PrintWords Go.Proofs.Ytkcnenekmjgmgaa
set_option linter.unusedVariables false

theorem reads_in {w : World} {A : Option Addr} {l : List Int} (h : Kd.C (Kd.int .i64) w A l.length l) : ReadIn w A l := fun h0 => by
  have h2 : ReadsOf (Value.int .i64) (0 : Int) w A l.length l := Kd.reads_of_C h
  obtain ⟨⟨b, off, spot⟩, e, hc⟩ := h2.2.2 h0
  have hspot : spot = none := by simpa [Addr.add] using World.cell?_spot (hc 0 h0)
  subst hspot
  have hlt := World.block_lt_of_cell? _ _ (hc 0 h0)
  refine ⟨b, off, e, by simpa [Addr.add] using hlt, fun i hi => ?_⟩
  have h3 := hc i hi
  have e2 : (⟨b, off, none⟩ : Addr).add i = ⟨b, off + i, none⟩ := by unfold Addr.add; split <;> simp_all
  rw [e2] at h3
  exact h3
theorem reads_len {w : World} {A : Option Addr} {l : List Int} (h : Kd.C (Kd.int .i64) w A l.length l) : l.length ≤ 9223372036854775807 := h.2.1
theorem made_row {w : World} {B : Nat} {sl : Value} {l : List Int} (h : Own B w sl l) : Kd.R (Kd.int .i64) 3 w B (fun _ => True) sl l :=
  Kd.R_of_own (enc := Value.int .i64) h (fun _ _ => trivial)

/-- reevelaw08_awake. -/
def reevelaw08_awake.f  : Option (Bool) := some true
theorem reevelaw08_awake.calls  (r : Bool) (w : World)  (h : reevelaw08_awake.f  = some r) :
    Calls Try.prog 9 #[] w fun e w' => e = .returned (.bool r) ∧ Below w.heap.size w w' := by
  obtain rfl := Option.some.inj h
  clear h
  exact awake_call w

/-- reeveref04_Right. -/
def reeveref04_Right.f (a0_0 a0_1 a0_2 a0_3 a0_4 a0_5 a0_6 a0_7 a0_8 a0_9 : Int) : Option (Int) := some (rightN ⟨a0_0, a0_1, a0_2, a0_3, a0_4, a0_5, a0_6, a0_7, a0_8, a0_9⟩)
theorem reeveref04_Right.calls (a0_0 a0_1 a0_2 a0_3 a0_4 a0_5 a0_6 a0_7 a0_8 a0_9 : Int) (r : Int) (w : World)  (h : reeveref04_Right.f a0_0 a0_1 a0_2 a0_3 a0_4 a0_5 a0_6 a0_7 a0_8 a0_9 = some r) :
    Calls Try.prog 10 #[.agg #[.int .i64 a0_0, .int .i64 a0_1, .int .i64 a0_2, .int .i64 a0_3, .int .i64 a0_4, .int .i64 a0_5, .int .i64 a0_6, .int .i64 a0_7, .int .i64 a0_8, .int .i64 a0_9]] w fun e w' => e = .returned (.int .i64 r) ∧ Below w.heap.size w w' := by
  obtain rfl := Option.some.inj h
  clear h
  exact refRight_any ⟨a0_0, a0_1, a0_2, a0_3, a0_4, a0_5, a0_6, a0_7, a0_8, a0_9⟩ w

/-- window_means. -/
def window_means.f (a0_0 a0_1 a0_2 a0_3 a0_4 a0_5 a0_6 a0_7 a0_8 a0_9 : Int) : Option (Bool) := some (meansW ⟨a0_0, a0_1, a0_2, a0_3, a0_4, a0_5, a0_6, a0_7, a0_8, a0_9⟩)
theorem window_means.calls (a0_0 a0_1 a0_2 a0_3 a0_4 a0_5 a0_6 a0_7 a0_8 a0_9 : Int) (r : Bool) (w : World)  (h : window_means.f a0_0 a0_1 a0_2 a0_3 a0_4 a0_5 a0_6 a0_7 a0_8 a0_9 = some r) :
    Calls Try.prog 31 #[.agg #[.int .i64 a0_0, .int .i64 a0_1, .int .i64 a0_2, .int .i64 a0_3, .int .i64 a0_4, .int .i64 a0_5, .int .i64 a0_6, .int .i64 a0_7, .int .i64 a0_8, .int .i64 a0_9]] w fun e w' => e = .returned (.bool r) ∧ Below w.heap.size w w' := by
  obtain rfl := Option.some.inj h
  clear h
  exact means_any ⟨a0_0, a0_1, a0_2, a0_3, a0_4, a0_5, a0_6, a0_7, a0_8, a0_9⟩ w

/-- window_Grid. -/
def window_Grid.f (a0_0 a0_1 a0_2 a0_3 a0_4 a0_5 a0_6 a0_7 a0_8 a0_9 : Int) (a1 : Int) : Option (Int) := some (gridP ⟨a0_0, a0_1, a0_2, a0_3, a0_4, a0_5, a0_6, a0_7, a0_8, a0_9⟩ a1)
theorem window_Grid.calls (a0_0 a0_1 a0_2 a0_3 a0_4 a0_5 a0_6 a0_7 a0_8 a0_9 : Int) (a1 : Int) (r : Int) (w : World)  (h : window_Grid.f a0_0 a0_1 a0_2 a0_3 a0_4 a0_5 a0_6 a0_7 a0_8 a0_9 a1 = some r) :
    Calls Try.prog 17 #[.agg #[.int .i64 a0_0, .int .i64 a0_1, .int .i64 a0_2, .int .i64 a0_3, .int .i64 a0_4, .int .i64 a0_5, .int .i64 a0_6, .int .i64 a0_7, .int .i64 a0_8, .int .i64 a0_9], .int .i64 a1] w fun e w' => e = .returned (.int .i64 r) ∧ Below w.heap.size w w' := by
  obtain rfl := Option.some.inj h
  clear h
  exact grid_any ⟨a0_0, a0_1, a0_2, a0_3, a0_4, a0_5, a0_6, a0_7, a0_8, a0_9⟩ a1 w

/-- window_Fresh. -/
def window_Fresh.f (a0_0 a0_1 a0_2 a0_3 a0_4 a0_5 a0_6 a0_7 a0_8 a0_9 : Int) (a1 : Int) : Option (Int × List Int) := if meansW ⟨a0_0, a0_1, a0_2, a0_3, a0_4, a0_5, a0_6, a0_7, a0_8, a0_9⟩ then some ((freshN ⟨a0_0, a0_1, a0_2, a0_3, a0_4, a0_5, a0_6, a0_7, a0_8, a0_9⟩ a1).g, (freshN ⟨a0_0, a0_1, a0_2, a0_3, a0_4, a0_5, a0_6, a0_7, a0_8, a0_9⟩ a1).l) else none
theorem window_Fresh.calls (a0_0 a0_1 a0_2 a0_3 a0_4 a0_5 a0_6 a0_7 a0_8 a0_9 : Int) (a1 : Int) (r1 : Int) (r2 : List Int) (w : World)  (h : window_Fresh.f a0_0 a0_1 a0_2 a0_3 a0_4 a0_5 a0_6 a0_7 a0_8 a0_9 a1 = some (r1, r2)) :
    Calls Try.prog 16 #[.agg #[.int .i64 a0_0, .int .i64 a0_1, .int .i64 a0_2, .int .i64 a0_3, .int .i64 a0_4, .int .i64 a0_5, .int .i64 a0_6, .int .i64 a0_7, .int .i64 a0_8, .int .i64 a0_9], .int .i64 a1] w fun e w' => ∃ v1_ : Value, e = .returned (.agg #[.int .i64 r1, v1_]) ∧ Kd.R (Kd.int .i64) 3 w' w.heap.size (fun _ => True) v1_ r2 ∧ Below w.heap.size w w' := by
  unfold window_Fresh.f at h
  cases hm : meansW ⟨a0_0, a0_1, a0_2, a0_3, a0_4, a0_5, a0_6, a0_7, a0_8, a0_9⟩ with
  | false => rw [hm] at h; simp at h
  | true =>
  rw [hm, if_pos rfl] at h
  have H := Option.some.inj h
  simp only [Prod.mk.injEq] at H
  obtain ⟨rfl, rfl⟩ := H
  clear h
  refine (fresh_yes ⟨a0_0, a0_1, a0_2, a0_3, a0_4, a0_5, a0_6, a0_7, a0_8, a0_9⟩ a1 hm w).mono ?_
  rintro e w' ⟨sl, rfl, ho, hb⟩
  exact ⟨sl, rfl, made_row ho, hb⟩

/-- window_Move. -/
def window_Move.f (a0_0 a0_1 a0_2 a0_3 a0_4 a0_5 a0_6 a0_7 a0_8 a0_9 : Int) (a1_0 : Int) (l1_1 : List Int) (a2 : Int) : Option (Int × List Int) := some ((moveP ⟨a0_0, a0_1, a0_2, a0_3, a0_4, a0_5, a0_6, a0_7, a0_8, a0_9⟩ ⟨a1_0, l1_1⟩ a2).g, (moveP ⟨a0_0, a0_1, a0_2, a0_3, a0_4, a0_5, a0_6, a0_7, a0_8, a0_9⟩ ⟨a1_0, l1_1⟩ a2).l)
theorem window_Move.calls (a0_0 a0_1 a0_2 a0_3 a0_4 a0_5 a0_6 a0_7 a0_8 a0_9 : Int) (a1_0 : Int) (A1_1 : Option Addr) (c1_1 : Nat) (l1_1 : List Int) (a2 : Int) (r1 : Int) (r2 : List Int) (w : World) (hr1_1 : Kd.C (Kd.int .i64) w A1_1 l1_1.length l1_1) (hc1_1 : l1_1.length ≤ c1_1) (h : window_Move.f a0_0 a0_1 a0_2 a0_3 a0_4 a0_5 a0_6 a0_7 a0_8 a0_9 a1_0 l1_1 a2 = some (r1, r2)) :
    Calls Try.prog 11 #[.agg #[.int .i64 a0_0, .int .i64 a0_1, .int .i64 a0_2, .int .i64 a0_3, .int .i64 a0_4, .int .i64 a0_5, .int .i64 a0_6, .int .i64 a0_7, .int .i64 a0_8, .int .i64 a0_9], .agg #[.int .i64 a1_0, .slice A1_1 l1_1.length c1_1], .int .i64 a2] w fun e w' => ∃ v1_ : Value, e = .returned (.agg #[.int .i64 r1, v1_]) ∧ Kd.R (Kd.int .i64) 3 w' w.heap.size (fun _ => True) v1_ r2 ∧ Below w.heap.size w w' := by
  have H := Option.some.inj h
  simp only [Prod.mk.injEq] at H
  obtain ⟨rfl, rfl⟩ := H
  clear h
  refine (move_call ⟨a0_0, a0_1, a0_2, a0_3, a0_4, a0_5, a0_6, a0_7, a0_8, a0_9⟩ ⟨a1_0, l1_1⟩ A1_1 c1_1 a2 w (reads_len hr1_1) (reads_in hr1_1)).mono ?_
  rintro e w' ⟨sl, rfl, ho, hb⟩
  exact ⟨sl, rfl, made_row ho, hb⟩

/-- window_May. -/
def window_May.f (a0_0 a0_1 a0_2 a0_3 a0_4 a0_5 a0_6 a0_7 a0_8 a0_9 : Int) (a1_0 : Int) (l1_1 : List Int) (a2 : Int) : Option (Bool) := some (mayW ⟨a0_0, a0_1, a0_2, a0_3, a0_4, a0_5, a0_6, a0_7, a0_8, a0_9⟩ ⟨a1_0, l1_1⟩ a2)
theorem window_May.calls (a0_0 a0_1 a0_2 a0_3 a0_4 a0_5 a0_6 a0_7 a0_8 a0_9 : Int) (a1_0 : Int) (A1_1 : Option Addr) (c1_1 : Nat) (l1_1 : List Int) (a2 : Int) (r : Bool) (w : World) (hr1_1 : Kd.C (Kd.int .i64) w A1_1 l1_1.length l1_1) (hc1_1 : l1_1.length ≤ c1_1) (h : window_May.f a0_0 a0_1 a0_2 a0_3 a0_4 a0_5 a0_6 a0_7 a0_8 a0_9 a1_0 l1_1 a2 = some r) :
    Calls Try.prog 12 #[.agg #[.int .i64 a0_0, .int .i64 a0_1, .int .i64 a0_2, .int .i64 a0_3, .int .i64 a0_4, .int .i64 a0_5, .int .i64 a0_6, .int .i64 a0_7, .int .i64 a0_8, .int .i64 a0_9], .agg #[.int .i64 a1_0, .slice A1_1 l1_1.length c1_1], .int .i64 a2] w fun e w' => e = .returned (.bool r) ∧ Below w.heap.size w w' := by
  obtain rfl := Option.some.inj h
  clear h
  exact may_call ⟨a0_0, a0_1, a0_2, a0_3, a0_4, a0_5, a0_6, a0_7, a0_8, a0_9⟩ ⟨a1_0, l1_1⟩ A1_1 c1_1 a2 w (reads_len hr1_1) (reads_in hr1_1)

/-- window_Take. -/
def window_Take.f (a0_0 a0_1 a0_2 a0_3 a0_4 a0_5 a0_6 a0_7 a0_8 a0_9 : Int) (a1_0 : Int) (l1_1 : List Int) (a2 : Int) : Option (Int × List Int) := some ((takeW ⟨a0_0, a0_1, a0_2, a0_3, a0_4, a0_5, a0_6, a0_7, a0_8, a0_9⟩ ⟨a1_0, l1_1⟩ a2).g, (takeW ⟨a0_0, a0_1, a0_2, a0_3, a0_4, a0_5, a0_6, a0_7, a0_8, a0_9⟩ ⟨a1_0, l1_1⟩ a2).l)
theorem window_Take.calls (a0_0 a0_1 a0_2 a0_3 a0_4 a0_5 a0_6 a0_7 a0_8 a0_9 : Int) (a1_0 : Int) (A1_1 : Option Addr) (c1_1 : Nat) (l1_1 : List Int) (a2 : Int) (r1 : Int) (r2 : List Int) (w : World) (hr1_1 : Kd.C (Kd.int .i64) w A1_1 l1_1.length l1_1) (hc1_1 : l1_1.length ≤ c1_1) (h : window_Take.f a0_0 a0_1 a0_2 a0_3 a0_4 a0_5 a0_6 a0_7 a0_8 a0_9 a1_0 l1_1 a2 = some (r1, r2)) :
    Calls Try.prog 15 #[.agg #[.int .i64 a0_0, .int .i64 a0_1, .int .i64 a0_2, .int .i64 a0_3, .int .i64 a0_4, .int .i64 a0_5, .int .i64 a0_6, .int .i64 a0_7, .int .i64 a0_8, .int .i64 a0_9], .agg #[.int .i64 a1_0, .slice A1_1 l1_1.length c1_1], .int .i64 a2] w fun e w' => ∃ v1_ : Value, e = .returned (.agg #[.int .i64 r1, v1_]) ∧ Kd.R (Kd.int .i64) 3 w' w.heap.size (fun _ => True) v1_ r2 ∧ Below w.heap.size w w' := by
  have H := Option.some.inj h
  simp only [Prod.mk.injEq] at H
  obtain ⟨rfl, rfl⟩ := H
  clear h
  refine (take_call ⟨a0_0, a0_1, a0_2, a0_3, a0_4, a0_5, a0_6, a0_7, a0_8, a0_9⟩ ⟨a1_0, l1_1⟩ A1_1 c1_1 a2 w (reads_len hr1_1) (reads_in hr1_1)).mono ?_
  rintro e w' ⟨sl, rfl, ho, hb⟩
  exact ⟨sl, rfl, made_row ho, hb⟩

/-- window_Total. -/
def window_Total.f (a0_0 : Int) (l0_1 : List Int) : Option (Int) := some (totalN ⟨a0_0, l0_1⟩)
theorem window_Total.calls (a0_0 : Int) (A0_1 : Option Addr) (c0_1 : Nat) (l0_1 : List Int) (r : Int) (w : World) (hr0_1 : Kd.C (Kd.int .i64) w A0_1 l0_1.length l0_1) (hc0_1 : l0_1.length ≤ c0_1) (h : window_Total.f a0_0 l0_1 = some r) :
    Calls Try.prog 13 #[.agg #[.int .i64 a0_0, .slice A0_1 l0_1.length c0_1]] w fun e w' => e = .returned (.int .i64 r) ∧ Below w.heap.size w w' := by
  obtain rfl := Option.some.inj h
  clear h
  exact total_call ⟨a0_0, l0_1⟩ A0_1 c0_1 w (reads_len hr0_1) (reads_in hr0_1)

/-- reevelaw08_Same. -/
def reevelaw08_Same.f (a0_0 : Int) (l0_1 : List Int) (a1_0 : Int) (l1_1 : List Int) : Option (Bool) := some (sameB ⟨a0_0, l0_1⟩ ⟨a1_0, l1_1⟩)
theorem reevelaw08_Same.calls (a0_0 : Int) (A0_1 : Option Addr) (c0_1 : Nat) (l0_1 : List Int) (a1_0 : Int) (A1_1 : Option Addr) (c1_1 : Nat) (l1_1 : List Int) (r : Bool) (w : World) (hr0_1 : Kd.C (Kd.int .i64) w A0_1 l0_1.length l0_1) (hc0_1 : l0_1.length ≤ c0_1) (hr1_1 : Kd.C (Kd.int .i64) w A1_1 l1_1.length l1_1) (hc1_1 : l1_1.length ≤ c1_1) (h : reevelaw08_Same.f a0_0 l0_1 a1_0 l1_1 = some r) :
    Calls Try.prog 19 #[.agg #[.int .i64 a0_0, .slice A0_1 l0_1.length c0_1], .agg #[.int .i64 a1_0, .slice A1_1 l1_1.length c1_1]] w fun e w' => e = .returned (.bool r) ∧ Below w.heap.size w w' := by
  obtain rfl := Option.some.inj h
  clear h
  exact same_call ⟨a0_0, l0_1⟩ ⟨a1_0, l1_1⟩ A0_1 A1_1 c0_1 c1_1 w (reads_len hr0_1) (reads_len hr1_1) (reads_in hr0_1) (reads_in hr1_1)

end Go.Proofs.YtkcnenekmjgmgaaP
end

section
/- counts, told in the form of the functions that a printer tells; awake as a fact. -/
namespace Go.Proofs.YtkcnenekmjgmgaaP
open Go.RowKit Go.Proofs.YtkcnenekmjgmgaaW.PrintWords Go.Proofs.Ytkcnenekmjgmgaa
set_option linter.unusedVariables false

/-- window_counts. -/
def window_counts.f (a0_0 a0_1 a0_2 a0_3 a0_4 a0_5 a0_6 a0_7 a0_8 a0_9 : Int) (a1_0 : Int) (l1_1 : List Int) : Option (Int × List Int) := if meansW ⟨a0_0, a0_1, a0_2, a0_3, a0_4, a0_5, a0_6, a0_7, a0_8, a0_9⟩ then some ((countsN ⟨a0_0, a0_1, a0_2, a0_3, a0_4, a0_5, a0_6, a0_7, a0_8, a0_9⟩ ⟨a1_0, l1_1⟩).g, (countsN ⟨a0_0, a0_1, a0_2, a0_3, a0_4, a0_5, a0_6, a0_7, a0_8, a0_9⟩ ⟨a1_0, l1_1⟩).l) else none
theorem window_counts.calls (a0_0 a0_1 a0_2 a0_3 a0_4 a0_5 a0_6 a0_7 a0_8 a0_9 : Int) (a1_0 : Int) (A1_1 : Option Addr) (c1_1 : Nat) (l1_1 : List Int) (r1 : Int) (r2 : List Int) (w : World) (hr1_1 : Kd.C (Kd.int .i64) w A1_1 l1_1.length l1_1) (hc1_1 : l1_1.length ≤ c1_1) (h : window_counts.f a0_0 a0_1 a0_2 a0_3 a0_4 a0_5 a0_6 a0_7 a0_8 a0_9 a1_0 l1_1 = some (r1, r2)) :
    Calls Try.prog 32 #[.agg #[.int .i64 a0_0, .int .i64 a0_1, .int .i64 a0_2, .int .i64 a0_3, .int .i64 a0_4, .int .i64 a0_5, .int .i64 a0_6, .int .i64 a0_7, .int .i64 a0_8, .int .i64 a0_9], .agg #[.int .i64 a1_0, .slice A1_1 l1_1.length c1_1]] w fun e w' => ∃ v1_ : Value, e = .returned (.agg #[.int .i64 r1, v1_]) ∧ Kd.R (Kd.int .i64) 3 w' w.heap.size (fun _ => True) v1_ r2 ∧ Below w.heap.size w w' := by
  unfold window_counts.f at h
  cases hm : meansW ⟨a0_0, a0_1, a0_2, a0_3, a0_4, a0_5, a0_6, a0_7, a0_8, a0_9⟩ with
  | false => rw [hm] at h; simp at h
  | true =>
  rw [hm, if_pos rfl] at h
  have H := Option.some.inj h
  simp only [Prod.mk.injEq] at H
  obtain ⟨rfl, rfl⟩ := H
  clear h
  refine (counts_call ⟨a0_0, a0_1, a0_2, a0_3, a0_4, a0_5, a0_6, a0_7, a0_8, a0_9⟩ ⟨a1_0, l1_1⟩ A1_1 c1_1 w hm (reads_len hr1_1) (reads_in hr1_1)).mono ?_
  rintro e w' ⟨sl, rfl, ho, hb⟩
  exact ⟨sl, rfl, made_row ho, hb⟩


def awake_ok.f : Option Unit := some ()
theorem awake_ok.calls {r_ : Unit} (w : World) (_h : awake_ok.f = some r_) : Calls Try.prog 9 #[] w fun e w' => e = .returned (.bool true) ∧ Below w.heap.size w w' := reevelaw08_awake.calls true w rfl
def sameB_ok.f (a0_0 : Int) (l0_1 : List Int) (a1_0 : Int) (l1_1 : List Int) : Option Unit := if sameB ⟨a0_0, l0_1⟩ ⟨a1_0, l1_1⟩ = true then some () else none
theorem sameB_ok.calls (a0_0 : Int) (A0_1 : Option Addr) (c0_1 : Nat) (l0_1 : List Int) (a1_0 : Int) (A1_1 : Option Addr) (c1_1 : Nat) (l1_1 : List Int) {r_ : Unit} (w : World) (hr0_1 : Kd.C (Kd.int .i64) w A0_1 l0_1.length l0_1) (hc0_1 : l0_1.length ≤ c0_1) (hr1_1 : Kd.C (Kd.int .i64) w A1_1 l1_1.length l1_1) (hc1_1 : l1_1.length ≤ c1_1) (h : sameB_ok.f a0_0 l0_1 a1_0 l1_1 = some r_) :
    Calls Try.prog 19 #[.agg #[.int .i64 a0_0, .slice A0_1 l0_1.length c0_1], .agg #[.int .i64 a1_0, .slice A1_1 l1_1.length c1_1]] w fun e w' => e = .returned (.bool true) ∧ Below w.heap.size w w' := by
  unfold sameB_ok.f at h
  by_cases c : sameB ⟨a0_0, l0_1⟩ ⟨a1_0, l1_1⟩ = true
  · exact reevelaw08_Same.calls a0_0 A0_1 c0_1 l0_1 a1_0 A1_1 c1_1 l1_1 true w hr0_1 hc0_1 hr1_1 hc1_1 (by unfold reevelaw08_Same.f; rw [c])
  · rw [if_neg c] at h
    exact absurd h (by simp)
end Go.Proofs.YtkcnenekmjgmgaaP
end
