/- Contract: a window at a later tick. -/
import Derived.Test.YtkcnenekmjgmgaaN
namespace Go.Proofs.Ytkcnenekmjgmgaa
open Go.RowKit

set_option maxHeartbeats 4000000 in
set_option linter.unusedVariables false in
theorem move_stay (p : Pol) (s : Win) (A : Option Addr) (c : Nat) (t : Int) (w : World) (hm : meansW p = true) (hl : s.l.length ≤ 9223372036854775807)
    (hrd : 0 < s.l.length → ∃ g o, A = some ⟨g, o, none⟩ ∧ g < w.heap.size ∧ ∀ i, i < s.l.length → w.cell? ⟨g, o + i, none⟩ = some (.int .i64 (s.l.getD i 0))) (hto : gridN p t ≤ (countsN p s).g) :
    Calls Try.prog 11 #[.agg #[.int .i64 p.k, .int .i64 p.cap, .int .i64 p.num, .int .i64 p.den, .int .i64 p.width, .int .i64 p.count, .int .i64 p.keys, .int .i64 p.slots, .int .i64 p.every, .int .i64 p.seg], .agg #[.int .i64 s.g, .slice A s.l.length c], .int .i64 t] w fun e w' => ∃ sl, e = .returned (.agg #[.int .i64 (countsN p s).g, sl]) ∧ Own w.heap.size w' sl (countsN p s).l ∧ Below w.heap.size w w' := by
  have hgd := fun w => grid_any p t w
  have hfr := fun w => fresh_yes p t hm w
  have hme := fun w => means_any p w
  rw [gridP_yes hm] at hgd
  rw [hm] at hme
  have hcc := (meansW_bounds hm).2.2.2
  have hcg := counts_good hm s
  have hcnt : ∀ w1, Below w.heap.size w w1 → Calls Try.prog 32 #[.agg #[.int .i64 p.k, .int .i64 p.cap, .int .i64 p.num, .int .i64 p.den, .int .i64 p.width, .int .i64 p.count, .int .i64 p.keys, .int .i64 p.slots, .int .i64 p.every, .int .i64 p.seg], .agg #[.int .i64 s.g, .slice A s.l.length c]] w1 fun e w' => ∃ sl, e = .returned (.agg #[.int .i64 (countsN p s).g, sl]) ∧ Own w1.heap.size w' sl (countsN p s).l ∧ Below w1.heap.size w1 w' := fun w1 hb =>
    counts_call p s A c w1 hm hl fun h0 => by
      obtain ⟨g, o, e, hg, hc⟩ := hrd h0
      exact ⟨g, o, e, Nat.lt_of_lt_of_le hg hb.size, fun i hi => (hb.cell (p := ⟨g, o + i, none⟩) hg).trans (hc i hi)⟩
  have hgl := hcg.lo
  have hgh := Int.le_trans hcg.hi (gridN_bound hm _).2
  have htb := gridN_bound hm t
  have hlen : ((countsN p s).l.length : Int) = p.count := by rw [hcg.len]; omega
  have HME := hid hme
  have HG := hid hgd
  have HF := hid hfr
  have CNT := hid hcnt
  clear hm hme hgd hfr hcnt hrd hcg
  generalize gridN p t = tt at *
  generalize s.l.length = ls at *
  generalize s.g = sg at *
  generalize countsN p s = q at *
  obtain ⟨qg, ql⟩ := q
  dsimp only at *
  go_enter Try.func11, Try.ntmps11
  go_upto_region 1 with fail
  refine abstract_world (fun W => Boxes w W p (.int .i64 sg) (.slice A ls c) ∧ Res w W (.int .i64 0) (.slice none 0 0)) ?_ ?_
  · refine ⟨(Boxes.begin w p (.int .i64 sg) (.slice A ls c)).on ((Below.refl _ _).alloc (Nat.le_refl _) _), by simp, ?_⟩
    have := heap_alloc_same ((w.alloc (.cells #[.int .i64 p.k, .int .i64 p.cap, .int .i64 p.num, .int .i64 p.den, .int .i64 p.width, .int .i64 p.count, .int .i64 p.keys, .int .i64 p.slots, .int .i64 p.every, .int .i64 p.seg] 23)).alloc (.cells #[.int .i64 sg, .slice A ls c] 26)) (.cells #[.int .i64 0, .slice none 0 0] 26)
    simpa using this
  intro W ⟨hX, hR⟩
  have X := hid hX
  have R := hid hR
  clear hX hR
  obtain ⟨a0, a1, a2, a3, a4, a5, a6, a7, a8, a9⟩ := X.out.cp
  obtain ⟨b0, b1, b2, b3⟩ := X.out.cs
  obtain ⟨c0, c1, c2, c3⟩ := R.out.cr
  go_wp2_with fail
  refine (HME.out _).mono ?_
  rintro e w1 ⟨rfl, hb⟩
  have X1 := hid (X.out.on hb)
  have R1 := hid (R.out.on hb)
  clear hb
  clear a0 a1 a2 a3 a4 a5 a6 a7 a8 a9 b0 b1 b2 b3 c0 c1 c2 c3
  clear X R
  obtain ⟨a0, a1, a2, a3, a4, a5, a6, a7, a8, a9⟩ := X1.out.cp
  obtain ⟨b0, b1, b2, b3⟩ := X1.out.cs
  obtain ⟨c0, c1, c2, c3⟩ := R1.out.cr
  go_wp2_with fail
  refine (CNT.out _ X1.out.below).mono ?_
  rintro e w2 ⟨sl, rfl, ho, hb⟩
  have hB1 := R1.out.lt
  have X2 := hid ((X1.out.on hb))
  have R2 := hid ((R1.out.on hb))
  obtain ⟨A2, cc, rfl, hf⟩ := ho.form
  have O2 := hid (ho.lower (show w.heap.size + 3 ≤ w1.heap.size by omega))
  clear hb ho hf hB1
  clear a0 a1 a2 a3 a4 a5 a6 a7 a8 a9 b0 b1 b2 b3 c0 c1 c2 c3
  clear X1 R1
  obtain ⟨a0, a1, a2, a3, a4, a5, a6, a7, a8, a9⟩ := X2.out.cp
  obtain ⟨b0, b1, b2, b3⟩ := X2.out.cs
  obtain ⟨c0, c1, c2, c3⟩ := R2.out.cr
  go_upto_region 4 with fail
  clear a0 a1 a2 a3 a4 a5 a6 a7 a8 a9 b0 b1 b2 b3 c0 c1 c2 c3
  refine abstract_world (fun W => Boxes w W p (.int .i64 qg) (.slice A2 ql.length cc) ∧ Res w W (.int .i64 0) (.slice none 0 0) ∧ Own (w.heap.size + 3) W (.slice A2 ql.length cc) ql) ?_ ?_
  · exact ⟨X2.out.set _ _, R2.out.setS _ _, O2.out.set2 (by omega) _ _⟩
  clear X2 R2 O2
  intro W3 ⟨hX, hR, hO⟩
  have X3 := hid hX
  have R3 := hid hR
  have O3 := hid hO
  clear hX hR hO
  obtain ⟨a0, a1, a2, a3, a4, a5, a6, a7, a8, a9⟩ := X3.out.cp
  obtain ⟨b0, b1, b2, b3⟩ := X3.out.cs
  obtain ⟨c0, c1, c2, c3⟩ := R3.out.cr
  go_wp2_with fail
  refine (HG.out _).mono ?_
  rintro e w4 ⟨rfl, hb⟩
  have X4 := hid (X3.out.on hb)
  have R4 := hid (R3.out.on hb)
  have O4 := hid (O3.out.below hb)
  clear hb
  clear a0 a1 a2 a3 a4 a5 a6 a7 a8 a9 b0 b1 b2 b3 c0 c1 c2 c3
  clear X3 R3 O3
  obtain ⟨a0, a1, a2, a3, a4, a5, a6, a7, a8, a9⟩ := X4.out.cp
  obtain ⟨b0, b1, b2, b3⟩ := X4.out.cs
  obtain ⟨c0, c1, c2, c3⟩ := R4.out.cr
  go_wp2_with fail
  refine bodyPost_ret (results_cell_row rfl _ _ (w.heap.size + 2) 26 #[.int .i64 qg, .slice A2 ql.length cc] (0, 0) _ rfl (R4.out.set _ _).row Try.underlying26 rfl info26) rfl ?_
  exact ⟨_, rfl, (O4.out.set2 (by omega) _ _).lower (by omega), (X4.out.setR _ _).below⟩

set_option maxHeartbeats 4000000 in
set_option linter.unusedVariables false in
theorem move_far (p : Pol) (s : Win) (A : Option Addr) (c : Nat) (t : Int) (w : World) (hm : meansW p = true) (hl : s.l.length ≤ 9223372036854775807)
    (hrd : 0 < s.l.length → ∃ g o, A = some ⟨g, o, none⟩ ∧ g < w.heap.size ∧ ∀ i, i < s.l.length → w.cell? ⟨g, o + i, none⟩ = some (.int .i64 (s.l.getD i 0))) (hto : (countsN p s).g < gridN p t) (hfar : p.count ≤ gridN p t - (countsN p s).g) :
    Calls Try.prog 11 #[.agg #[.int .i64 p.k, .int .i64 p.cap, .int .i64 p.num, .int .i64 p.den, .int .i64 p.width, .int .i64 p.count, .int .i64 p.keys, .int .i64 p.slots, .int .i64 p.every, .int .i64 p.seg], .agg #[.int .i64 s.g, .slice A s.l.length c], .int .i64 t] w fun e w' => ∃ sl, e = .returned (.agg #[.int .i64 (gridN p t), sl]) ∧ Own w.heap.size w' sl (zeros p.count.toNat) ∧ Below w.heap.size w w' := by
  have hgd := fun w => grid_any p t w
  have hfr := fun w => fresh_yes p t hm w
  have hme := fun w => means_any p w
  rw [gridP_yes hm] at hgd
  rw [hm] at hme
  have hcc := (meansW_bounds hm).2.2.2
  have hcg := counts_good hm s
  have hcnt : ∀ w1, Below w.heap.size w w1 → Calls Try.prog 32 #[.agg #[.int .i64 p.k, .int .i64 p.cap, .int .i64 p.num, .int .i64 p.den, .int .i64 p.width, .int .i64 p.count, .int .i64 p.keys, .int .i64 p.slots, .int .i64 p.every, .int .i64 p.seg], .agg #[.int .i64 s.g, .slice A s.l.length c]] w1 fun e w' => ∃ sl, e = .returned (.agg #[.int .i64 (countsN p s).g, sl]) ∧ Own w1.heap.size w' sl (countsN p s).l ∧ Below w1.heap.size w1 w' := fun w1 hb =>
    counts_call p s A c w1 hm hl fun h0 => by
      obtain ⟨g, o, e, hg, hc⟩ := hrd h0
      exact ⟨g, o, e, Nat.lt_of_lt_of_le hg hb.size, fun i hi => (hb.cell (p := ⟨g, o + i, none⟩) hg).trans (hc i hi)⟩
  have hgl := hcg.lo
  have hgh := Int.le_trans hcg.hi (gridN_bound hm _).2
  have htb := gridN_bound hm t
  have hlen : ((countsN p s).l.length : Int) = p.count := by rw [hcg.len]; omega
  have HME := hid hme
  have HG := hid hgd
  have HF := hid hfr
  have CNT := hid hcnt
  clear hm hme hgd hfr hcnt hrd hcg
  generalize gridN p t = tt at *
  generalize s.l.length = ls at *
  generalize s.g = sg at *
  generalize countsN p s = q at *
  obtain ⟨qg, ql⟩ := q
  dsimp only at *
  go_enter Try.func11, Try.ntmps11
  go_upto_region 1 with fail
  refine abstract_world (fun W => Boxes w W p (.int .i64 sg) (.slice A ls c) ∧ Res w W (.int .i64 0) (.slice none 0 0)) ?_ ?_
  · refine ⟨(Boxes.begin w p (.int .i64 sg) (.slice A ls c)).on ((Below.refl _ _).alloc (Nat.le_refl _) _), by simp, ?_⟩
    have := heap_alloc_same ((w.alloc (.cells #[.int .i64 p.k, .int .i64 p.cap, .int .i64 p.num, .int .i64 p.den, .int .i64 p.width, .int .i64 p.count, .int .i64 p.keys, .int .i64 p.slots, .int .i64 p.every, .int .i64 p.seg] 23)).alloc (.cells #[.int .i64 sg, .slice A ls c] 26)) (.cells #[.int .i64 0, .slice none 0 0] 26)
    simpa using this
  intro W ⟨hX, hR⟩
  have X := hid hX
  have R := hid hR
  clear hX hR
  obtain ⟨a0, a1, a2, a3, a4, a5, a6, a7, a8, a9⟩ := X.out.cp
  obtain ⟨b0, b1, b2, b3⟩ := X.out.cs
  obtain ⟨c0, c1, c2, c3⟩ := R.out.cr
  go_wp2_with fail
  refine (HME.out _).mono ?_
  rintro e w1 ⟨rfl, hb⟩
  have X1 := hid (X.out.on hb)
  have R1 := hid (R.out.on hb)
  clear hb
  clear a0 a1 a2 a3 a4 a5 a6 a7 a8 a9 b0 b1 b2 b3 c0 c1 c2 c3
  clear X R
  obtain ⟨a0, a1, a2, a3, a4, a5, a6, a7, a8, a9⟩ := X1.out.cp
  obtain ⟨b0, b1, b2, b3⟩ := X1.out.cs
  obtain ⟨c0, c1, c2, c3⟩ := R1.out.cr
  go_wp2_with fail
  refine (CNT.out _ X1.out.below).mono ?_
  rintro e w2 ⟨sl, rfl, ho, hb⟩
  have hB1 := R1.out.lt
  have X2 := hid ((X1.out.on hb))
  have R2 := hid ((R1.out.on hb))
  obtain ⟨A2, cc, rfl, hf⟩ := ho.form
  have O2 := hid (ho.lower (show w.heap.size + 3 ≤ w1.heap.size by omega))
  clear hb ho hf hB1
  clear a0 a1 a2 a3 a4 a5 a6 a7 a8 a9 b0 b1 b2 b3 c0 c1 c2 c3
  clear X1 R1
  obtain ⟨a0, a1, a2, a3, a4, a5, a6, a7, a8, a9⟩ := X2.out.cp
  obtain ⟨b0, b1, b2, b3⟩ := X2.out.cs
  obtain ⟨c0, c1, c2, c3⟩ := R2.out.cr
  go_upto_region 4 with fail
  clear a0 a1 a2 a3 a4 a5 a6 a7 a8 a9 b0 b1 b2 b3 c0 c1 c2 c3
  refine abstract_world (fun W => Boxes w W p (.int .i64 qg) (.slice A2 ql.length cc) ∧ Res w W (.int .i64 0) (.slice none 0 0) ∧ Own (w.heap.size + 3) W (.slice A2 ql.length cc) ql) ?_ ?_
  · exact ⟨X2.out.set _ _, R2.out.setS _ _, O2.out.set2 (by omega) _ _⟩
  clear X2 R2 O2
  intro W3 ⟨hX, hR, hO⟩
  have X3 := hid hX
  have R3 := hid hR
  have O3 := hid hO
  clear hX hR hO
  obtain ⟨a0, a1, a2, a3, a4, a5, a6, a7, a8, a9⟩ := X3.out.cp
  obtain ⟨b0, b1, b2, b3⟩ := X3.out.cs
  obtain ⟨c0, c1, c2, c3⟩ := R3.out.cr
  go_wp2_with fail
  refine (HG.out _).mono ?_
  rintro e w4 ⟨rfl, hb⟩
  have X4 := hid (X3.out.on hb)
  have R4 := hid (R3.out.on hb)
  have O4 := hid (O3.out.below hb)
  clear hb
  clear a0 a1 a2 a3 a4 a5 a6 a7 a8 a9 b0 b1 b2 b3 c0 c1 c2 c3
  clear X3 R3 O3
  obtain ⟨a0, a1, a2, a3, a4, a5, a6, a7, a8, a9⟩ := X4.out.cp
  obtain ⟨b0, b1, b2, b3⟩ := X4.out.cs
  obtain ⟨c0, c1, c2, c3⟩ := R4.out.cr
  go_wp2_with fail
  refine (HF.out _).mono ?_
  rintro e w5 ⟨sl2, rfl, ho, hb⟩
  have hB4 := R4.out.lt
  have X5 := hid (X4.out.on hb)
  have R5 := hid (R4.out.on hb)
  obtain ⟨A3, c3', rfl, hf⟩ := ho.form
  have O5 := hid (ho.lower (show w.heap.size + 3 ≤ w4.heap.size by omega))
  generalize hzn : (zeros p.count.toNat).length = zn at *
  clear hb ho hf hB4 O4
  clear a0 a1 a2 a3 a4 a5 a6 a7 a8 a9 b0 b1 b2 b3 c0 c1 c2 c3
  clear X4 R4
  obtain ⟨a0, a1, a2, a3, a4, a5, a6, a7, a8, a9⟩ := X5.out.cp
  obtain ⟨b0, b1, b2, b3⟩ := X5.out.cs
  obtain ⟨c0, c1, c2, c3⟩ := R5.out.cr
  go_upto_region 8 with fail
  have hlt5 := R5.out.lt
  have X6 := hid (X5.out.on (((Below.refl w5.heap.size w5).alloc (Nat.le_refl _) (.cells #[.int .i64 tt, .slice A3 zn c3'] 26))))
  have R6 := hid (R5.out.on (((Below.refl w5.heap.size w5).alloc (Nat.le_refl _) (.cells #[.int .i64 tt, .slice A3 zn c3'] 26))))
  have O6 := hid (O5.out.below (((Below.refl w5.heap.size w5).alloc (Nat.le_refl _) (.cells #[.int .i64 tt, .slice A3 zn c3'] 26))))
  have T6 := hid (heap_alloc_same w5 (.cells #[.int .i64 tt, .slice A3 zn c3'] 26))
  have hlt6 : w.heap.size + 2 < w5.heap.size := hlt5
  clear X5 R5 O5
  clear a0 a1 a2 a3 a4 a5 a6 a7 a8 a9 b0 b1 b2 b3 c0 c1 c2 c3
  generalize w5.heap.size = tb at *
  generalize (w5.alloc (.cells #[.int .i64 tt, .slice A3 zn c3'] 26)) = W6 at *
  obtain ⟨a0, a1, a2, a3, a4, a5, a6, a7, a8, a9⟩ := X6.out.cp
  obtain ⟨b0, b1, b2, b3⟩ := X6.out.cs
  obtain ⟨c0, c1, c2, c3⟩ := R6.out.cr
  have t0 : W6.cell? ⟨tb, 0, none⟩ = some (.int .i64 tt) ∧ W6.cell? ⟨tb, 1, none⟩ = some (.slice A3 zn c3') := by have hp := T6.out; simp [World.cell?, hp]
  obtain ⟨t0, t1⟩ := t0
  go_wp2_with fail
  refine bodyPost_ret (results_cell_row rfl _ _ (w.heap.size + 2) 26 #[.int .i64 tt, .slice A3 zn c3'] (0, 0) _ rfl (R6.out.set _ _).row Try.underlying26 rfl info26) rfl ?_
  exact ⟨_, rfl, (O6.out.set2 (by omega) _ _).lower (by omega), (X6.out.setR _ _).below⟩

/-- 'copy' as a step of a region that draws its order: just that row turns. -/
theorem step_copy_set {P : Program} {ops : Array Oper} {o : Oper} {a : Act} {w : World} {K : Act → World → Prop} {Q : Exit → Act → World → Prop} {E : Prop} (hgd : o.guard = none) (d s : Operand) (dT sT : TypeId)
    (ho : o.op = .call { callee := .builtin .copy, args := #[d, s], argTypes := #[dT, sT] }) (elem : TypeId) (hu : P.underlying dT = some (.slice elem)) (hsz : (P.info? elem).map (·.size) = some 1)
    (g off dLen dCap : Nat) (ad : Addr) (sLen sCap : Nat) (hd : a.eval d = .slice (some ⟨g, off, none⟩) dLen dCap) (hs : a.eval s = .slice (some ad) sLen sCap)
    (L : List Value) (t : TypeId) (hg : w.heap[g]? = some (.cells L.toArray t (0, 0))) (cs : List Value) (hn : cs.length = Nat.min sLen dLen)
    (hsrc : ∀ j v, cs[j]? = some v → w.cell? (ad.add j) = some v) (hfit : off + cs.length ≤ L.length) (h1 : ∀ v ∈ cs, v.oneCell' = true)
    (h : ∀ w', RowSet w g (Go.splice L off cs).toArray t w' → K (a.put o.dst (goInt cs.length)) w') :
    if Region.wanted o (yielded ops a.tmps) = true then Oper.wp P o a w K Q else E := by
  have hw : Region.wanted o (yielded ops a.tmps) = true := by simp [Region.wanted, hgd]
  rw [if_pos hw]
  have hrun := run_copy_row (P := P) w dT sT o.type elem g off dLen dCap ad sLen sCap L.toArray t cs hu hsz hg hn hsrc (by simpa using hfit) h1
  unfold Oper.wp
  simp [execOp, ho, resolve, invoke, builtin, hd, hs, hrun, Result.andThen]
  have := h _ (rowSet_of (row := (Go.splice L off cs).toArray) hg)
  have this2 : K (a.put o.dst (goInt cs.length)) (w.setRow g (List.take off L ++ (cs ++ List.drop (off + cs.length) L)).toArray) := by simpa [Go.splice] using this
  exact this2

theorem size3 : (Try.prog.info? 3).map (·.size) = some 1 := by kernel_rfl
theorem splice_take {L : List Value} {n d : Nat} {ql : List Int} (h : L.take n = (zeros n).map (Value.int .i64)) (hq : ql.length = n) (hd : d < n) (_ : n ≤ L.length) :
    (Go.splice L 0 ((ql.drop d).map (Value.int .i64))).take n = (shiftL ql d).map (Value.int .i64) := by
  have h1 : ((ql.drop d).map (Value.int .i64)).length = n - d := by simp; omega
  have h2 : (L.drop (n - d)).take d = (zeros d).map (Value.int .i64) := by
    have := congrArg (List.drop (n - d)) h
    rw [List.drop_take] at this
    rw [show n - (n - d) = d by omega] at this
    rw [this]
    simp [zeros]
    omega
  unfold Go.splice shiftL
  rw [List.take_zero, List.nil_append, List.take_append, h1, List.take_of_length_le (by omega), Nat.zero_add, show n - (n - d) = d by omega, h2, show min d ql.length = d by omega]
  simp
set_option maxHeartbeats 4000000 in
set_option linter.unusedVariables false in
theorem move_near (p : Pol) (s : Win) (A : Option Addr) (c : Nat) (t : Int) (w : World) (hm : meansW p = true) (hl : s.l.length ≤ 9223372036854775807)
    (hrd : 0 < s.l.length → ∃ g o, A = some ⟨g, o, none⟩ ∧ g < w.heap.size ∧ ∀ i, i < s.l.length → w.cell? ⟨g, o + i, none⟩ = some (.int .i64 (s.l.getD i 0))) (d : Nat) (hto : gridN p t = (countsN p s).g + d) (hd0 : 0 < d) (hnear : (d : Int) < p.count) :
    Calls Try.prog 11 #[.agg #[.int .i64 p.k, .int .i64 p.cap, .int .i64 p.num, .int .i64 p.den, .int .i64 p.width, .int .i64 p.count, .int .i64 p.keys, .int .i64 p.slots, .int .i64 p.every, .int .i64 p.seg], .agg #[.int .i64 s.g, .slice A s.l.length c], .int .i64 t] w fun e w' => ∃ sl, e = .returned (.agg #[.int .i64 (gridN p t), sl]) ∧ Own w.heap.size w' sl (shiftL (countsN p s).l d) ∧ Below w.heap.size w w' := by
  have hgd := fun w => grid_any p t w
  have hfr := fun w => fresh_yes p t hm w
  have hme := fun w => means_any p w
  rw [gridP_yes hm] at hgd
  rw [hm] at hme
  have hcc := (meansW_bounds hm).2.2.2
  have hcg := counts_good hm s
  have hcnt : ∀ w1, Below w.heap.size w w1 → Calls Try.prog 32 #[.agg #[.int .i64 p.k, .int .i64 p.cap, .int .i64 p.num, .int .i64 p.den, .int .i64 p.width, .int .i64 p.count, .int .i64 p.keys, .int .i64 p.slots, .int .i64 p.every, .int .i64 p.seg], .agg #[.int .i64 s.g, .slice A s.l.length c]] w1 fun e w' => ∃ sl, e = .returned (.agg #[.int .i64 (countsN p s).g, sl]) ∧ Own w1.heap.size w' sl (countsN p s).l ∧ Below w1.heap.size w1 w' := fun w1 hb =>
    counts_call p s A c w1 hm hl fun h0 => by
      obtain ⟨g, o, e, hg, hc⟩ := hrd h0
      exact ⟨g, o, e, Nat.lt_of_lt_of_le hg hb.size, fun i hi => (hb.cell (p := ⟨g, o + i, none⟩) hg).trans (hc i hi)⟩
  have hgl := hcg.lo
  have hgh := Int.le_trans hcg.hi (gridN_bound hm _).2
  have htb := gridN_bound hm t
  have hlen : ((countsN p s).l.length : Int) = p.count := by rw [hcg.len]; omega
  have HME := hid hme
  have HG := hid hgd
  have HF := hid hfr
  have CNT := hid hcnt
  clear hm hme hgd hfr hcnt hrd hcg
  generalize gridN p t = tt at *
  generalize s.l.length = ls at *
  generalize s.g = sg at *
  generalize countsN p s = q at *
  obtain ⟨qg, ql⟩ := q
  dsimp only at *
  have HTO := hid hto
  have hlt' : qg < tt := by omega
  have hnr : tt - qg < p.count := by omega
  clear hto
  go_enter Try.func11, Try.ntmps11
  go_upto_region 1 with fail
  refine abstract_world (fun W => Boxes w W p (.int .i64 sg) (.slice A ls c) ∧ Res w W (.int .i64 0) (.slice none 0 0)) ?_ ?_
  · refine ⟨(Boxes.begin w p (.int .i64 sg) (.slice A ls c)).on ((Below.refl _ _).alloc (Nat.le_refl _) _), by simp, ?_⟩
    have := heap_alloc_same ((w.alloc (.cells #[.int .i64 p.k, .int .i64 p.cap, .int .i64 p.num, .int .i64 p.den, .int .i64 p.width, .int .i64 p.count, .int .i64 p.keys, .int .i64 p.slots, .int .i64 p.every, .int .i64 p.seg] 23)).alloc (.cells #[.int .i64 sg, .slice A ls c] 26)) (.cells #[.int .i64 0, .slice none 0 0] 26)
    simpa using this
  intro W ⟨hX, hR⟩
  have X := hid hX
  have R := hid hR
  clear hX hR
  obtain ⟨a0, a1, a2, a3, a4, a5, a6, a7, a8, a9⟩ := X.out.cp
  obtain ⟨b0, b1, b2, b3⟩ := X.out.cs
  obtain ⟨c0, c1, c2, c3⟩ := R.out.cr
  go_wp2_with fail
  refine (HME.out _).mono ?_
  rintro e w1 ⟨rfl, hb⟩
  have X1 := hid (X.out.on hb)
  have R1 := hid (R.out.on hb)
  clear hb
  clear a0 a1 a2 a3 a4 a5 a6 a7 a8 a9 b0 b1 b2 b3 c0 c1 c2 c3
  clear X R
  obtain ⟨a0, a1, a2, a3, a4, a5, a6, a7, a8, a9⟩ := X1.out.cp
  obtain ⟨b0, b1, b2, b3⟩ := X1.out.cs
  obtain ⟨c0, c1, c2, c3⟩ := R1.out.cr
  go_wp2_with fail
  refine (CNT.out _ X1.out.below).mono ?_
  rintro e w2 ⟨sl, rfl, ho, hb⟩
  have hB1 := R1.out.lt
  have X2 := hid ((X1.out.on hb))
  have R2 := hid ((R1.out.on hb))
  obtain ⟨A2, cc, rfl, hf⟩ := ho.form
  have O2 := hid (ho.lower (show w.heap.size + 3 ≤ w1.heap.size by omega))
  clear hb ho hf hB1
  clear a0 a1 a2 a3 a4 a5 a6 a7 a8 a9 b0 b1 b2 b3 c0 c1 c2 c3
  clear X1 R1
  obtain ⟨a0, a1, a2, a3, a4, a5, a6, a7, a8, a9⟩ := X2.out.cp
  obtain ⟨b0, b1, b2, b3⟩ := X2.out.cs
  obtain ⟨c0, c1, c2, c3⟩ := R2.out.cr
  go_upto_region 4 with fail
  clear a0 a1 a2 a3 a4 a5 a6 a7 a8 a9 b0 b1 b2 b3 c0 c1 c2 c3
  refine abstract_world (fun W => Boxes w W p (.int .i64 qg) (.slice A2 ql.length cc) ∧ Res w W (.int .i64 0) (.slice none 0 0) ∧ Own (w.heap.size + 3) W (.slice A2 ql.length cc) ql) ?_ ?_
  · exact ⟨X2.out.set _ _, R2.out.setS _ _, O2.out.set2 (by omega) _ _⟩
  clear X2 R2 O2
  intro W3 ⟨hX, hR, hO⟩
  have X3 := hid hX
  have R3 := hid hR
  have O3 := hid hO
  clear hX hR hO
  obtain ⟨a0, a1, a2, a3, a4, a5, a6, a7, a8, a9⟩ := X3.out.cp
  obtain ⟨b0, b1, b2, b3⟩ := X3.out.cs
  obtain ⟨c0, c1, c2, c3⟩ := R3.out.cr
  go_wp2_with fail
  refine (HG.out _).mono ?_
  rintro e w4 ⟨rfl, hb⟩
  have X4 := hid (X3.out.on hb)
  have R4 := hid (R3.out.on hb)
  have O4 := hid (O3.out.below hb)
  clear hb
  clear a0 a1 a2 a3 a4 a5 a6 a7 a8 a9 b0 b1 b2 b3 c0 c1 c2 c3
  clear X3 R3 O3
  obtain ⟨a0, a1, a2, a3, a4, a5, a6, a7, a8, a9⟩ := X4.out.cp
  obtain ⟨b0, b1, b2, b3⟩ := X4.out.cs
  obtain ⟨c0, c1, c2, c3⟩ := R4.out.cr
  go_wp2_with fail
  refine (HF.out _).mono ?_
  rintro e w5 ⟨sl2, rfl, ho, hb⟩
  have hB4 := R4.out.lt
  have X5 := hid (X4.out.on hb)
  have R5 := hid (R4.out.on hb)
  obtain ⟨A3, c3', rfl, hf⟩ := ho.form
  have O5 := hid (ho.lower (show w.heap.size + 3 ≤ w4.heap.size by omega))
  generalize hzn : (zeros p.count.toNat).length = zn at *
  have Q5 := hid (O4.out.below hb)
  clear hb ho hf hB4 O4
  clear a0 a1 a2 a3 a4 a5 a6 a7 a8 a9 b0 b1 b2 b3 c0 c1 c2 c3
  clear X4 R4
  obtain ⟨a0, a1, a2, a3, a4, a5, a6, a7, a8, a9⟩ := X5.out.cp
  obtain ⟨b0, b1, b2, b3⟩ := X5.out.cs
  obtain ⟨c0, c1, c2, c3⟩ := R5.out.cr
  go_upto_region 8 with fail
  have hlt5 := R5.out.lt
  have X6 := hid (X5.out.on (((Below.refl w5.heap.size w5).alloc (Nat.le_refl _) (.cells #[.int .i64 tt, .slice A3 zn c3'] 26))))
  have R6 := hid (R5.out.on (((Below.refl w5.heap.size w5).alloc (Nat.le_refl _) (.cells #[.int .i64 tt, .slice A3 zn c3'] 26))))
  have O6 := hid (O5.out.below (((Below.refl w5.heap.size w5).alloc (Nat.le_refl _) (.cells #[.int .i64 tt, .slice A3 zn c3'] 26))))
  have Q6 := hid (Q5.out.below (((Below.refl w5.heap.size w5).alloc (Nat.le_refl _) (.cells #[.int .i64 tt, .slice A3 zn c3'] 26))))
  have O5h := hid O5.out
  have T6 := hid (heap_alloc_same w5 (.cells #[.int .i64 tt, .slice A3 zn c3'] 26))
  have hlt6 : w.heap.size + 2 < w5.heap.size := hlt5
  clear X5 R5 O5 Q5
  clear a0 a1 a2 a3 a4 a5 a6 a7 a8 a9 b0 b1 b2 b3 c0 c1 c2 c3
  have ew : IntKind.i64.wrap (tt - qg) = d := by rw [IntWalk.i64_in _ (by omega)]; have := HTO.out; omega
  have hznc : zn = p.count.toNat := by rw [← hzn, zeros_length]
  generalize htb5 : w5.heap.size = tb at *
  generalize (w5.alloc (.cells #[.int .i64 tt, .slice A3 zn c3'] 26)) = W6 at *
  obtain ⟨a0, a1, a2, a3, a4, a5, a6, a7, a8, a9⟩ := X6.out.cp
  obtain ⟨b0, b1, b2, b3⟩ := X6.out.cs
  obtain ⟨c0, c1, c2, c3⟩ := R6.out.cr
  have t0 : W6.cell? ⟨tb, 0, none⟩ = some (.int .i64 tt) ∧ W6.cell? ⟨tb, 1, none⟩ = some (.slice A3 zn c3') := by have hp := T6.out; simp [World.cell?, hp]
  obtain ⟨t0, t1⟩ := t0
  have hA2 : ∃ gs, A2 = some ⟨gs, 0, none⟩ ∧ gs < W6.heap.size ∧ ql.length ≤ cc ∧ ∀ i, i < ql.length → W6.cell? ⟨gs, i, none⟩ = some (.int .i64 (ql.getD i 0)) := by
    obtain ⟨A', c', e, f⟩ := Q6.out.form
    cases e
    obtain ⟨g, e1, _, e3, e4⟩ := f (by omega)
    refine ⟨g, e1, e3, ?_, e4⟩
    rcases Q6.out.2 with h | ⟨g', cap, cur, hv, _, _, hcap, _⟩
    · simp [e1] at h
    · cases hv
      exact hcap
  obtain ⟨gs, rfl, hgs, hccq, hsrc⟩ := hA2
  have hA3 : ∃ (gd : Nat) (L : List Value), A3 = some ⟨gd, 0, none⟩ ∧ w.heap.size + 3 ≤ gd ∧ gd < tb ∧ W6.heap[gd]? = some (.cells L.toArray 3 (0, 0)) ∧ zn ≤ c3' ∧ c3' ≤ maxLen ∧ L.length = c3' ∧ L.take zn = (zeros zn).map (Value.int .i64) := by
    have hz : (zeros p.count.toNat) = zeros zn := by rw [← hzn, zeros_length]
    have o5 := O5h.out
    have o6 := O6.out
    unfold Own at o5 o6
    rw [hzn, hz] at o5 o6
    rcases o6.2 with ⟨h, h2⟩ | ⟨g', cap, cur, hv, h1, h2, h3, h4, h5, h6⟩
    · simp at h
      omega
    · cases hv
      have hb : g' < tb := htb5 ▸ (World.ownsRow.lt o5 g' rfl).2
      exact ⟨g', cur.toList, rfl, h1, hb, by simpa using h2, h3, h4, by simpa using h5, by simpa using h6⟩
  obtain ⟨gd, L, rfl, hgd1, hgd2, hrowd, hc31, hc32, hLl, hLt⟩ := hA3
  have hsp := hid (splice_take (d := d) hLt (show ql.length = zn by omega) (by omega) (by omega))
  have hspl : (Go.splice L 0 ((ql.drop d).map (Value.int .i64))).length = c3' := by rw [length_splice]; exact hLl; simp; omega
  have HCL : ((ql.drop d).map (Value.int .i64)).length = ql.length - d := by simp
  have HN := hid (show ∀ j u, ((ql.drop d).map (Value.int .i64))[j]? = some u → W6.cell? (Addr.add ⟨gs, d, none⟩ j) = some u from by
    intro j u hu
    simp only [List.getElem?_map, Option.map_eq_some_iff, List.getElem?_drop] at hu
    obtain ⟨x, hx, rfl⟩ := hu
    obtain ⟨hj, hx⟩ := List.getElem?_eq_some_iff.1 hx
    have := hsrc (d + j) hj
    rw [show ql.getD (d + j) 0 = x by simp [hj, hx]] at this
    have ea : Addr.add ⟨gs, d, none⟩ j = ⟨gs, d + j, none⟩ := by simp [Addr.add]
    rw [ea]
    exact this)
  have H1 := hid (show ∀ u ∈ (ql.drop d).map (Value.int .i64), u.oneCell' = true from by
    intro u hu
    simp only [List.mem_map] at hu
    obtain ⟨x, hx, rfl⟩ := hu
    rfl)
  generalize hcs : (ql.drop d).map (Value.int .i64) = cs at *
  have HROWD := hid hrowd
  have HSPL := hid hspl
  clear hsrc hrowd hLt hspl hcs O5h
  have hqn : ql.length = zn := by omega
  generalize hqq : ql.length = n at *
  have HQL := hid hqq
  clear hqq
  subst hqn
  have hmin : cs.length = Nat.min (n - d) n := by rw [HCL]; show _ = min _ _; omega
  have hfit : 0 + cs.length ≤ L.length := by omega
  have hbl : Below w.heap.size w W6.drew := X6.out.below.drew
  have hbg : w.heap.size ≤ gd := by omega
  have hgdn : d ≤ n := by omega
  have hgdn2 : (d : Int) ≤ (n : Int) := by omega
  have hcd : ¬ cc = d := by omega
  have HLEN := hid hlen
  have HZNC := hid hznc
  clear hlen hznc hcc
  go_upto_region 10 with fail
  go_region_law (first | (refine step_copy_set rfl (.tmp 37) (.tmp 41) 24 24 rfl 3 Try.underlying24 size3 _ _ _ _ _ _ _ rfl rfl L 3 HROWD.out cs ?_ HN.out hfit H1.out ?_; (exact hmin); intro w7 hw7))
  all_goals (
    have X7 := hid (X6.out)
    have e7 : ∀ k, k ≠ gd → w7.heap[k]? = W6.heap[k]? := hw7.other
    have R7 : Res w w7 (.int .i64 0) (.slice none 0 0) := ⟨by rw [hw7.size]; exact R6.out.lt, (e7 _ (by omega)).trans R6.out.row⟩
    have hB7 : Below w.heap.size w w7 := (hbl.trans (hw7.below hbg))
    have t7 := (e7 tb (by omega)).trans T6.out
    have hO7 : Own (w.heap.size + 3) w7 (.slice (some ⟨gd, 0, none⟩) n c3') (shiftL ql d) := by
      have hll : (shiftL ql d).length = n := by rw [shiftL_length]; exact HQL.out
      unfold Own
      rw [hll]
      exact ⟨by simp [hll], .inr ⟨gd, c3', (Go.splice L 0 cs).toArray, rfl, hgd1, hw7.row, hc31, hc32, by simpa using HSPL.out, by simpa using hsp.out⟩⟩
    have O7 := hid hO7
    have RR := hid R7
    have HB7 := hid hB7
    have HT7 := hid t7
    have t0 : w7.cell? ⟨tb, 0, none⟩ = some (.int .i64 tt) ∧ w7.cell? ⟨tb, 1, none⟩ = some (.slice (some ⟨gd, 0, none⟩) n c3') := by simp [World.cell?, t7]
    obtain ⟨t0', t1'⟩ := t0
    obtain ⟨c0', c1', c2', c3''⟩ := R7.cr
    clear hw7 e7 R7 hB7 t7 hO7 b0 b1 b2 b3 c0 c1 c2 c3 t0 t1
    go_wp2_with fail
    refine bodyPost_ret (results_cell_row rfl _ _ (w.heap.size + 2) 26 #[.int .i64 tt, .slice (some ⟨gd, 0, none⟩) n c3'] (0, 0) _ rfl (RR.out.set _ _).row Try.underlying26 rfl info26) rfl ?_
    exact ⟨_, rfl, (O7.out.set2 (by omega) _ _).lower (by omega), (HB7.out.setCell (show w.heap.size ≤ w.heap.size + 2 by omega) _).setCell (show w.heap.size ≤ w.heap.size + 2 by omega) _⟩)

set_option maxHeartbeats 4000000 in
set_option linter.unusedVariables false in
theorem move_no (p : Pol) (g : Int) (A : Option Addr) (n c : Nat) (t : Int) (w : World) (hm : meansW p = false) :
    Calls Try.prog 11 #[.agg #[.int .i64 p.k, .int .i64 p.cap, .int .i64 p.num, .int .i64 p.den, .int .i64 p.width, .int .i64 p.count, .int .i64 p.keys, .int .i64 p.slots, .int .i64 p.every, .int .i64 p.seg], .agg #[.int .i64 g, .slice A n c], .int .i64 t] w fun e w' => ∃ sl, e = .returned (.agg #[.int .i64 0, sl]) ∧ Own w.heap.size w' sl [] ∧ Below w.heap.size w w' := by
  have hme := fun w => means_any p w
  rw [hm] at hme
  have HME := hid hme
  clear hm hme
  go_enter Try.func11, Try.ntmps11
  go_wp2_with fail
  refine (HME.out _).mono ?_
  rintro e w1 ⟨rfl, hb⟩
  have hrow : w1.heap[w.heap.size + 2]? = some (.cells #[.int .i64 0, .slice none 0 0] 26 (0, 0)) := by
    rw [hb.block _ (by simp)]
    have := heap_alloc_same ((w.alloc (.cells #[.int .i64 p.k, .int .i64 p.cap, .int .i64 p.num, .int .i64 p.den, .int .i64 p.width, .int .i64 p.count, .int .i64 p.keys, .int .i64 p.slots, .int .i64 p.every, .int .i64 p.seg] 23)).alloc (.cells #[.int .i64 g, .slice A n c] 26)) (.cells #[.int .i64 0, .slice none 0 0] 26)
    simpa using this
  have hr : w1.cell? ⟨w.heap.size + 2, 0, none⟩ = some (.int .i64 0) ∧ w1.cell? ⟨w.heap.size + 2, 1, none⟩ = some (.slice none 0 0) ∧ w1.frozen? ⟨w.heap.size + 2, 0, none⟩ = false ∧ w1.frozen? ⟨w.heap.size + 2, 1, none⟩ = false := by simp [World.cell?, World.frozen?, hrow]
  obtain ⟨c0, c1, c2, c3⟩ := hr
  have HR := hid (row_set2 (x := .int .i64 0) (y := .slice none 0 0) hrow)
  have HB := hid (((((Below.refl _ _).alloc (Nat.le_refl _) _).alloc (by simp) _).alloc (by simp; omega) _).trans (hb.mono (show w.heap.size ≤ _ by simp; omega)))
  clear hb hrow
  go_wp2_with fail
  refine bodyPost_ret (results_cell_row rfl _ _ (w.heap.size + 2) 26 #[.int .i64 0, .slice none 0 0] (0, 0) _ rfl HR.out Try.underlying26 rfl info26) rfl ?_
  exact ⟨_, rfl, Own.nil _ _, (HB.out.setCell (show w.heap.size ≤ w.heap.size + 2 by omega) _).setCell (show w.heap.size ≤ w.heap.size + 2 by omega) _⟩

theorem move_call (p : Pol) (s : Win) (A : Option Addr) (c : Nat) (t : Int) (w : World) (hl : s.l.length ≤ 9223372036854775807)
    (hrd : 0 < s.l.length → ∃ g o, A = some ⟨g, o, none⟩ ∧ g < w.heap.size ∧ ∀ i, i < s.l.length → w.cell? ⟨g, o + i, none⟩ = some (.int .i64 (s.l.getD i 0))) :
    Calls Try.prog 11 #[.agg #[.int .i64 p.k, .int .i64 p.cap, .int .i64 p.num, .int .i64 p.den, .int .i64 p.width, .int .i64 p.count, .int .i64 p.keys, .int .i64 p.slots, .int .i64 p.every, .int .i64 p.seg], .agg #[.int .i64 s.g, .slice A s.l.length c], .int .i64 t] w fun e w' => ∃ sl, e = .returned (.agg #[.int .i64 (moveP p s t).g, sl]) ∧ Own w.heap.size w' sl (moveP p s t).l ∧ Below w.heap.size w w' := by
  cases hm : meansW p with
  | false =>
    have e : moveP p s t = ⟨0, []⟩ := by simp [moveP, hm, noWin]
    rw [e]
    exact move_no p s.g A s.l.length c t w hm
  | true =>
    have hc := counts_good hm s
    have hcc := (meansW_bounds hm).2.2.2
    by_cases h : gridN p t ≤ (countsN p s).g
    · have e : moveP p s t = countsN p s := by simp [moveP, hm, moveN, h]
      rw [e]
      exact move_stay p s A c t w hm hl hrd h
    · have e : moveP p s t = ⟨gridN p t, shiftL (countsN p s).l (gridN p t - (countsN p s).g).toNat⟩ := by simp [moveP, hm, moveN, h]
      rw [e]
      by_cases h2 : p.count ≤ gridN p t - (countsN p s).g
      · have e2 : shiftL (countsN p s).l (gridN p t - (countsN p s).g).toNat = zeros p.count.toNat := by
          have := hc.len
          unfold shiftL
          rw [List.drop_of_length_le (by omega), Nat.min_eq_right (by omega), hc.len, List.nil_append]
        rw [e2]
        exact move_far p s A c t w hm hl hrd (by omega) h2
      · exact move_near p s A c t w hm hl hrd _ (by omega) (by omega) (by omega)

#print axioms move_call
end Go.Proofs.Ytkcnenekmjgmgaa
