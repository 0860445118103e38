/- The program's Decay, May, Take. -/
import Derived.Test.YtlhnlickmjdjfaaF
import Derived.Test.YtlhnlickmjdjfaaN
import Derived.Deep.RegionHeld3
namespace Go.Proofs.Ytlhnlickmjdjfaa
open Go.RowKit

theorem quiet_left {P : Program} {f : FuncId} {args : Array Value} {w : World} {n : Nat} {v : Value}
    (h : Calls P f args (w.drewN n) fun e w' => e = .returned v ∧ w.drewN n = w') : Calls P f args (w.drewN n) fun e w'' => e = .returned v ∧ ∃ m, w'' = w.drewN m :=
  h.mono fun _ _ ⟨he, hm⟩ => ⟨he, n, hm.symm⟩

/-- The closure that clips, called in a region: nothing turns but the count of draws. -/
theorem clip1_quiet (m : Int) (a : Addr) (W : World) (hm : 0 ≤ m) (hc : W.cell? a = some (.int .i64 m)) (n : Nat) (x : Int) :
    Calls Try.prog 27 #[.int .i64 x, .pointer (some a)] (W.drewN n) fun e w'' => e = .returned (.int .i64 (clipI x m)) ∧ ∃ k, w'' = W.drewN k :=
  quiet_left (clip1_any x m a (W.drewN n) hm hc)

theorem decay_no (p : Pol) (o t : Int) (hm : meansB p = false) (w : World) :
    Calls Try.prog 10 #[.agg #[.int .i64 p.k, .int .i64 p.cap, .int .i64 p.num, .int .i64 p.den, .int .i64 p.width, .int .i64 p.count, .int .i64 p.keys, .int .i64 p.slots, .int .i64 p.every, .int .i64 p.seg], .int .i64 o, .int .i64 t] w
      fun e w' => e = .returned (.int .i64 0) ∧ Below w.heap.size w w' := by
  have hr := means_any p
  rw [hm] at hr
  obtain ⟨k, cap, num, den, width, count, keys, slots, every, seg⟩ := p
  dsimp only at *
  have HR := hid hr
  clear hr hm
  go_enter Try.func10, Try.ntmps10
  go_wp2_with (go_at_call 20; refine (HR.out _).mono ?_; rintro e w1 ⟨rfl, hb⟩)
  go_ret
  exact ⟨rfl, ((Below.refl _ _).alloc (Nat.le_refl _) _).trans (hb.mono (by simp))⟩

set_option maxHeartbeats 1000000 in
theorem decay_yes (p : Pol) (o t : Int) (hm : meansB p = true) (w : World) :
    Calls Try.prog 10 #[.agg #[.int .i64 p.k, .int .i64 p.cap, .int .i64 p.num, .int .i64 p.den, .int .i64 p.width, .int .i64 p.count, .int .i64 p.keys, .int .i64 p.slots, .int .i64 p.every, .int .i64 p.seg], .int .i64 o, .int .i64 t] w
      fun e w' => e = .returned (.int .i64 (decayI p.num o t)) ∧ Below w.heap.size w w' := by
  have hr := means_any p
  rw [hm] at hr
  obtain ⟨hk, _, hnum, _⟩ := meansB_bounds hm
  obtain ⟨k, cap, num, den, width, count, keys, slots, every, seg⟩ := p
  dsimp only at *
  subst hk
  have bo := clipI_bound o (m := 4611686018427387903) (by omega)
  have bt := clipI_bound t (m := 1099511627776) (by omega)
  have bp := mul_bounds bt.1 bt.2 (by omega) hnum.2
  have HR := hid hr
  clear hr hm
  go_enter Try.func10, Try.ntmps10
  go_wp2_with fail
  refine (HR.out _).mono ?_
  rintro e w1 ⟨rfl, hb⟩
  have c2 : w1.cell? ⟨w.heap.size, 2, none⟩ = some (.int .i64 num) := by rw [hb.cell (p := ⟨w.heap.size, 2, none⟩) (by simp)]; simp
  have hz : w.heap.size + 1 ≤ w1.heap.size := by have := hb.size; simp at this; omega
  go_wp2_with fail
  refine (clip_any _ _).mono ?_
  rintro e w' ⟨rfl, rfl⟩
  go_wp2_with fail
  refine (clip_any _ _).mono ?_
  rintro e w' ⟨rfl, rfl⟩
  go_upto_region 4 with fail
  refine abstract_world (fun W => Below w.heap.size w W ∧ W.cell? ⟨w.heap.size, 2, none⟩ = some (.int .i64 num) ∧ W.cell? ⟨w1.heap.size, 0, none⟩ = some (.int .i64 4611686018427387903) ∧ W.cell? ⟨w1.heap.size + 1, 0, none⟩ = some (.int .i64 1099511627776)) ?_ ?_
  · refine ⟨?_, ?_, ?_, ?_⟩
    · exact ((((Below.refl w.heap.size w).alloc (Nat.le_refl _) _).trans (hb.mono (by simp))).alloc (by omega) _).alloc (by simp; omega) _
    · rw [World.cell?_alloc_lt _ _ _ (show w.heap.size < (w1.alloc _).heap.size by simp; omega), World.cell?_alloc_lt _ _ _ (show w.heap.size < w1.heap.size by omega)]; exact c2
    · simp
    · simp
  · intro W ⟨hB, d2, a1, a2⟩
    have H1 := hid (clip1_quiet _ _ W (by omega) a1)
    have H2 := hid (clip1_quiet _ _ W (by omega) a2)
    clear a1 a2 c2 hb HR
    go_quiet ((first | (go_at_call 27; with_reducible exact H1.out _ _) | (go_at_call 27; with_reducible exact H2.out _ _)))
    go_wp2
    go_ret
    exact ⟨rfl, below_drewN' hB _⟩

/-- The ten cells of a policy in a box. -/
theorem ten_below {g : Nat} {k cap num den width count keys slots every seg : Int} {W w1 : World} (hb : Below W.heap.size W w1) (hg : g < W.heap.size)
    (h : W.cell? ⟨g, 0, none⟩ = some (.int .i64 k) ∧ W.cell? ⟨g, 1, none⟩ = some (.int .i64 cap) ∧ W.cell? ⟨g, 2, none⟩ = some (.int .i64 num) ∧ W.cell? ⟨g, 3, none⟩ = some (.int .i64 den) ∧ W.cell? ⟨g, 4, none⟩ = some (.int .i64 width) ∧ W.cell? ⟨g, 5, none⟩ = some (.int .i64 count) ∧ W.cell? ⟨g, 6, none⟩ = some (.int .i64 keys) ∧ W.cell? ⟨g, 7, none⟩ = some (.int .i64 slots) ∧ W.cell? ⟨g, 8, none⟩ = some (.int .i64 every) ∧ W.cell? ⟨g, 9, none⟩ = some (.int .i64 seg)) :
    w1.cell? ⟨g, 0, none⟩ = some (.int .i64 k) ∧ w1.cell? ⟨g, 1, none⟩ = some (.int .i64 cap) ∧ w1.cell? ⟨g, 2, none⟩ = some (.int .i64 num) ∧ w1.cell? ⟨g, 3, none⟩ = some (.int .i64 den) ∧ w1.cell? ⟨g, 4, none⟩ = some (.int .i64 width) ∧ w1.cell? ⟨g, 5, none⟩ = some (.int .i64 count) ∧ w1.cell? ⟨g, 6, none⟩ = some (.int .i64 keys) ∧ w1.cell? ⟨g, 7, none⟩ = some (.int .i64 slots) ∧ w1.cell? ⟨g, 8, none⟩ = some (.int .i64 every) ∧ w1.cell? ⟨g, 9, none⟩ = some (.int .i64 seg) := by
  obtain ⟨h0, h1, h2, h3, h4, h5, h6, h7, h8, h9⟩ := h
  have e : ∀ i, w1.cell? ⟨g, i, none⟩ = W.cell? ⟨g, i, none⟩ := fun i => hb.cell (p := ⟨g, i, none⟩) hg
  exact ⟨(e 0).trans h0, (e 1).trans h1, (e 2).trans h2, (e 3).trans h3, (e 4).trans h4, (e 5).trans h5, (e 6).trans h6, (e 7).trans h7, (e 8).trans h8, (e 9).trans h9⟩

set_option maxHeartbeats 2000000 in
theorem may_yes (p : Pol) (o c : Int) (hm : meansB p = true) (hc1 : 1 ≤ c) (hc2 : c ≤ 1048576) (w : World) :
    Calls Try.prog 11 #[.agg #[.int .i64 p.k, .int .i64 p.cap, .int .i64 p.num, .int .i64 p.den, .int .i64 p.width, .int .i64 p.count, .int .i64 p.keys, .int .i64 p.slots, .int .i64 p.every, .int .i64 p.seg], .int .i64 o, .int .i64 c] w
      fun e w' => e = .returned (.bool (decide (clipI o 4611686018427387903 + c * p.den ≤ p.cap * p.den))) ∧ Below w.heap.size w w' := by
  have hr := means_any p
  rw [hm] at hr
  obtain ⟨hk, hcap, _, hden⟩ := meansB_bounds hm
  obtain ⟨k, cap, num, den, width, count, keys, slots, every, seg⟩ := p
  dsimp only at *
  subst hk
  have bo := clipI_bound o (m := 4611686018427387903) (by omega)
  have bp := mul_bounds (show 0 ≤ c by omega) hc2 (show 0 ≤ den by omega) hden.2
  have bq := mul_bounds (show 0 ≤ cap by omega) hcap.2 (show 0 ≤ den by omega) hden.2
  have hmay := fun w => may_any c w
  rw [within_yes hc1 hc2] at hmay
  have HR := hid hr
  have HM := hid hmay
  clear hr hm hmay
  go_enter Try.func11, Try.ntmps11
  go_upto_region 1 with fail
  refine abstract_world (fun W => Below w.heap.size w W ∧ W.heap.size = w.heap.size + 1 ∧ (W.cell? ⟨w.heap.size, 0, none⟩ = some (.int .i64 1) ∧ W.cell? ⟨w.heap.size, 1, none⟩ = some (.int .i64 cap) ∧ W.cell? ⟨w.heap.size, 2, none⟩ = some (.int .i64 num) ∧ W.cell? ⟨w.heap.size, 3, none⟩ = some (.int .i64 den) ∧ W.cell? ⟨w.heap.size, 4, none⟩ = some (.int .i64 width) ∧ W.cell? ⟨w.heap.size, 5, none⟩ = some (.int .i64 count) ∧ W.cell? ⟨w.heap.size, 6, none⟩ = some (.int .i64 keys) ∧ W.cell? ⟨w.heap.size, 7, none⟩ = some (.int .i64 slots) ∧ W.cell? ⟨w.heap.size, 8, none⟩ = some (.int .i64 every) ∧ W.cell? ⟨w.heap.size, 9, none⟩ = some (.int .i64 seg))) ?_ ?_
  · exact ⟨(Below.refl w.heap.size w).alloc (Nat.le_refl _) _, by simp, by simp⟩
  · intro W ⟨hB, hz, hc⟩
    have hz1 : w.heap.size < W.heap.size := by omega
    have e1 : IntKind.i64.wrap (c * den) = c * den := IntWalk.i64_in _ (by omega)
    have e2 : IntKind.i64.wrap (cap * den) = cap * den := IntWalk.i64_in _ (by omega)
    have e3 : IntKind.i64.wrap (clipI o 4611686018427387903 + c * den) = clipI o 4611686018427387903 + c * den := IntWalk.i64_in _ (by omega)
    clear hz
    go_region_held3 (fun w' => w'.cell? ⟨w.heap.size, 0, none⟩ = some (.int .i64 1) ∧ w'.cell? ⟨w.heap.size, 1, none⟩ = some (.int .i64 cap) ∧ w'.cell? ⟨w.heap.size, 2, none⟩ = some (.int .i64 num) ∧ w'.cell? ⟨w.heap.size, 3, none⟩ = some (.int .i64 den) ∧ w'.cell? ⟨w.heap.size, 4, none⟩ = some (.int .i64 width) ∧ w'.cell? ⟨w.heap.size, 5, none⟩ = some (.int .i64 count) ∧ w'.cell? ⟨w.heap.size, 6, none⟩ = some (.int .i64 keys) ∧ w'.cell? ⟨w.heap.size, 7, none⟩ = some (.int .i64 slots) ∧ w'.cell? ⟨w.heap.size, 8, none⟩ = some (.int .i64 every) ∧ w'.cell? ⟨w.heap.size, 9, none⟩ = some (.int .i64 seg))
      (first | exact ten_below hb hz1 hc | go_keep)
      (first | (go_at_call 20; refine (HR.out _).mono ?_; rintro e w1 ⟨rfl, hb⟩) | (go_at_call 22; refine (HM.out _).mono ?_; rintro e w' ⟨rfl, rfl⟩) | (go_at_call 21; refine (clip_any _ _).mono ?_; rintro e w' ⟨rfl, rfl⟩) | (go_at_call 27; refine (clip1_any _ 4611686018427387903 _ _ (by omega) ?_).mono ?_; (simp); rintro e w' ⟨rfl, rfl⟩))
    go_wp2
    go_ret
    exact ⟨rfl, (hB.drew.trans (hb.mono (show w.heap.size ≤ W.heap.size by omega))).alloc (Nat.le_trans (show w.heap.size ≤ W.heap.size by omega) hb.size) _⟩

end Go.Proofs.Ytlhnlickmjdjfaa
