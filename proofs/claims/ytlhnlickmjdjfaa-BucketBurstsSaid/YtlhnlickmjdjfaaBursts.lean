/- The law BucketBursts, the stage's theorem: whoever asks for costs at ticks that rise, and takes what he may, takes between any two of them no more than the room, and what is given back between. -/
import Derived.Test.YtlhnlickmjdjfaaU
import Derived.Test.YtlhnlickmjdjfaaBu
import Derived.Test.YtlhnlickmjdjfaaAp
import Derived.LoopTactic
namespace Go.Proofs.Ytlhnlickmjdjfaa
open Go.RowKit

theorem info3 : (Try.prog.info? 3).map (fun i => (i.zero, i.size, i.bytes)) = some (some (.int .i64 0), 1, 8) := by kernel_rfl

/-- Two slices of int that the call owns, in rows of their own. -/
structure TwoRows (B : Nat) (w : World) (va vt : Value) (ats tks : List Int) : Prop where
  a : w.ownsRow B 3 1 va ats.length (ats.map (Value.int .i64))
  t : w.ownsRow B 3 1 vt tks.length (tks.map (Value.int .i64))
  apart : ∀ g, va.ownBlock = some g → vt.ownBlock ≠ some g

theorem TwoRows.begin (B : Nat) (w : World) : TwoRows B w (.slice none 0 0) (.slice none 0 0) [] [] :=
  ⟨World.ownsRow_nil w B 3 1, World.ownsRow_nil w B 3 1, fun g h => by simp [Value.ownBlock] at h⟩
theorem own_below {B : Nat} {w w' : World} {v : Value} {n : Nat} {xs : List Value} (h : w.ownsRow B 3 1 v n xs) (hb : Below w.heap.size w w') : w'.ownsRow B 3 1 v n xs := by
  refine ⟨h.1, ?_⟩
  rcases h.2 with h2 | ⟨g, cap, cur, hv, hg, hh, r⟩
  · exact Or.inl h2
  · refine Or.inr ⟨g, cap, cur, hv, hg, ?_, r⟩
    have hl := (h.lt g (by rw [hv]; rfl)).2
    rw [hb.block g hl]; exact hh
theorem TwoRows.below {B : Nat} {w w' : World} {va vt : Value} {ats tks : List Int} (h : TwoRows B w va vt ats tks) (hb : Below w.heap.size w w') : TwoRows B w' va vt ats tks :=
  ⟨own_below h.a hb, own_below h.t hb, h.apart⟩
/-- One more number in the first row; in the second. -/
theorem TwoRows.pushA {B : Nat} {w w' : World} {va va' vt : Value} {ats tks : List Int} {x : Int} (h : TwoRows B w va vt ats tks) (ho : w'.ownsRow B 3 1 va' (ats.length + 1) (ats.map (Value.int .i64) ++ [.int .i64 x])) (hg : w.grownBy w' va.ownBlock)
    (hw : va'.ownBlock = va.ownBlock ∨ va'.ownBlock = some w.heap.size) : TwoRows B w' va' vt (ats ++ [x]) tks := by
  refine ⟨by simpa using ho, h.t.kept hg ?_, fun g e => ?_⟩
  · cases e : vt.ownBlock with
    | none => exact .inl rfl
    | some k => exact .inr fun e2 => h.apart k e2.symm e
  · rcases hw with hw | hw
    · exact h.apart g (by rw [← hw]; exact e)
    · intro e2
      have := (h.t.lt g e2).2
      rw [hw] at e
      simp at e
      omega
theorem TwoRows.pushT {B : Nat} {w w' : World} {va vt vt' : Value} {ats tks : List Int} {x : Int} (h : TwoRows B w va vt ats tks) (ho : w'.ownsRow B 3 1 vt' (tks.length + 1) (tks.map (Value.int .i64) ++ [.int .i64 x])) (hg : w.grownBy w' vt.ownBlock)
    (hw : vt'.ownBlock = vt.ownBlock ∨ vt'.ownBlock = some w.heap.size) : TwoRows B w' va vt' ats (tks ++ [x]) := by
  refine ⟨h.a.kept hg ?_, by simpa using ho, fun g e => ?_⟩
  · cases e : va.ownBlock with
    | none => exact .inl rfl
    | some k => exact .inr (h.apart k e).symm
  · rcases hw with hw | hw
    · rw [hw]; exact h.apart g e
    · intro e2
      have := (h.a.lt g e).2
      rw [hw] at e2
      simp at e2
      omega
theorem grown_below {B : Nat} {w w' : World} {v : Value} {n : Nat} {xs : List Value} (hg : w.grownBy w' v.ownBlock) (ho : w.ownsRow B 3 1 v n xs) (hB : B ≤ w.heap.size) : Below B w w' :=
  (Below.refl B w).grown hg hB fun k hk => (ho.lt k hk).1

theorem own_form {B : Nat} {w : World} {v : Value} {xs : List Int} (h : w.ownsRow B 3 1 v xs.length (xs.map (Value.int .i64))) :
    ∃ A c, v = .slice A xs.length c ∧ (0 < xs.length → ∃ g, A = some ⟨g, 0, none⟩ ∧ ∀ i, i < xs.length → w.cell? ⟨g, i, none⟩ = some (.int .i64 (xs.getD i 0))) := by
  by_cases hn : 0 < xs.length
  · obtain ⟨g, c, hv, _, _⟩ := h.form hn
    subst hv
    refine ⟨_, c, rfl, fun _ => ⟨g, rfl, fun i hi => ?_⟩⟩
    rw [h.cellAt i (by omega)]
    simp [hi]
  · have h0 : xs.length = 0 := by omega
    rcases h.2 with ⟨hv, _⟩ | ⟨g, c, cur, hv, _⟩
    · exact ⟨none, 0, by rw [hv, h0], fun h => absurd h hn⟩
    · exact ⟨_, c, hv, fun h => absurd h hn⟩

set_option maxHeartbeats 4000000 in
set_option maxRecDepth 100000 in
theorem bursts_main (p : Pol) (g1 o1 n c1 g2 o2 m c2 : Nat) (hk : okB p = true) (hkk : (p.k != 1) = false) (hn0 : 0 < n) (hn : n ≤ 100) (hm0 : 0 < m) (hm : m ≤ 9223372036854775807) (w : World)
    (hg1 : g1 < w.heap.size) (hg2 : g2 < w.heap.size) (hg : ∀ i, i < n → ∃ x, w.cell? ⟨g1, o1 + i, none⟩ = some (.int .i64 x)) (hc : ∀ i, i < m → ∃ x, w.cell? ⟨g2, o2 + i, none⟩ = some (.int .i64 x)) :
    Calls Try.prog 6 #[.agg #[.int .i64 p.k, .int .i64 p.cap, .int .i64 p.num, .int .i64 p.den, .int .i64 p.width, .int .i64 p.count, .int .i64 p.keys, .int .i64 p.slots, .int .i64 p.every, .int .i64 p.seg], .slice (some ⟨g1, o1, none⟩) n c1, .slice (some ⟨g2, o2, none⟩) m c2] w fun e w' => e = .returned (.bool true) ∧ Below w.heap.size w w' := by
  have A := hid awake_call
  have r1 := fun w => refRight_any p w
  rw [rightN_yes hk] at r1
  have R := hid r1
  have hmm : meansB p = true := meansB_yes (by simpa using hkk) hk
  have D := hid (fun o t w => decay_call p o t w)
  have M := hid (fun o c w => may_call p o c w)
  have T := hid (fun o c w => take_call p o c w)
  have MM := hid hmm
  have G := hid hg
  have C := hid hc
  clear r1 hk hmm hg hc
  obtain ⟨iI, hi, hz0, hz1, hz2⟩ := info_parts info3
  have HI := hid hi
  have HZ := hid (And.intro hz0 (And.intro hz1 hz2))
  clear hi hz0 hz1 hz2
  have S := hid (Stand.begin w p)
  obtain ⟨k, cap, num, den, width, count, keys, slots, every, seg⟩ := p
  dsimp only at *
  go_enter Try.func6, Try.ntmps6
  go_upto_region 1 with fail
  refine abstract_world (fun W => Stand w W ⟨k, cap, num, den, width, count, keys, slots, every, seg⟩) S.out ?_
  clear S
  intro W S0
  have S := hid S0
  clear S0
  obtain ⟨hB, hl, h0, h1, h2, h3, h4, h5, h6, h7, h8, h9⟩ := S.out
  dsimp only at h0 h1 h2 h3 h4 h5 h6 h7 h8 h9
  go_wp2_with fail
  refine (A.out _).mono ?_
  rintro e w1 ⟨rfl, hb⟩
  have S := hid (S.out.on hb)
  clear hb hB hl h0 h1 h2 h3 h4 h5 h6 h7 h8 h9
  obtain ⟨hB, hl, h0, h1, h2, h3, h4, h5, h6, h7, h8, h9⟩ := S.out
  dsimp only at h0 h1 h2 h3 h4 h5 h6 h7 h8 h9
  go_wp2_with fail
  refine (R.out _).mono ?_
  rintro e w2 ⟨rfl, hb⟩
  have S := hid (S.out.on hb)
  clear hb hB hl h0 h1 h2 h3 h4 h5 h6 h7 h8 h9
  obtain ⟨hB, hl, h0, h1, h2, h3, h4, h5, h6, h7, h8, h9⟩ := S.out
  dsimp only at h0 h1 h2 h3 h4 h5 h6 h7 h8 h9
  go_wp2_with fail
  have HS := S
  clear S hB hl h0 h1 h2 h3 h4 h5 h6 h7 h8 h9
  go_loopw [9, 10, 11, 12, 13] (fun ow tk va vt i wr => ∃ (j : Nat) (o t : Int) (ats tks : List Int), j ≤ n ∧ i = .int .i64 j ∧ ow = .int .i64 o ∧ tk = .int .i64 t ∧ 0 ≤ t ∧ t ≤ (j : Int) * 1073741823 ∧ ats.length ≤ j ∧ Burst ⟨k, cap, num, den, width, count, keys, slots, every, seg⟩ o t ats tks ∧ TwoRows w2.heap.size wr va vt ats tks ∧ Stand w wr ⟨k, cap, num, den, width, count, keys, slots, every, seg⟩ ∧ Below w2.heap.size w2 wr) (fun _ _ _ _ i _ => n - (intOf i).toNat)
  case atStart => exact ⟨0, 0, 0, [], [], by omega, rfl, rfl, rfl, by omega, by omega, by simp, Burst.begin _, TwoRows.begin _ _, HS.out, Below.refl _ _⟩
  case round =>
    obtain ⟨j, o, t, ats, tks, hj, rfl, rfl, rfl, ht0, ht1, hlen, hBu, hR, hS, hbr⟩ := hrel
    have hz2 := HS.out.2.1
    have hzr := hbr.size
    have HBr := hid hbr
    have HR := hid hR
    have HBu := hid hBu
    have hlen2 : tks.length ≤ j := by have := hBu.len; omega
    have HSr := hid hS
    clear hbr hR hBu hS
    by_cases hgo : j < n ∧ j < m
    · obtain ⟨hjn, hjm⟩ := hgo
      have hji : (0 : Int) ≤ (j : Int) := by omega
      have hjm' : (j : Int) < (m : Int) := by omega
      obtain ⟨x, hx0⟩ := G.out j hjn
      obtain ⟨y, hy0⟩ := C.out j hjm
      obtain ⟨g, hbits, hb0, hb1⟩ := mask30 x
      have hx := (HSr.out.1.cell (p := ⟨g1, o1 + j, none⟩) hg1).trans hx0
      have hy := (HSr.out.1.cell (p := ⟨g2, o2 + j, none⟩) hg2).trans hy0
      have HY0 := hid hy0
      clear hx0 hy0
      have d1 := D.out o g
      have hBu1 := HBu.out.wait MM.out hb0 (by omega)
      generalize decayP ⟨k, cap, num, den, width, count, keys, slots, every, seg⟩ o g = o' at d1 hBu1
      have D1 := hid d1
      have HBu1 := hid hBu1
      clear d1 hBu1
      have m1 := M.out o' y
      have T1 := hid (T.out o' y)
      obtain ⟨hB, hl, h0, h1, h2, h3, h4, h5, h6, h7, h8, h9⟩ := HSr.out
      dsimp only at h0 h1 h2 h3 h4 h5 h6 h7 h8 h9
      go_wp2_with fail
      refine (D1.out _).mono ?_
      rintro e w3 ⟨rfl, hb⟩
      have HS3 := hid (HSr.out.on hb)
      have HR3 := hid (HR.out.below hb)
      have HBr3 := hid (HBr.out.trans (hb.mono hzr))
      have hy := (hb.cell (p := ⟨g2, o2 + j, none⟩) (show g2 < wr.heap.size by omega)).trans hy
      have hz3 := hb.size
      clear hb hB hl h0 h1 h2 h3 h4 h5 h6 h7 h8 h9 hx hbits
      cases hmay : mayP ⟨k, cap, num, den, width, count, keys, slots, every, seg⟩ o' y with
      | false =>
        rw [hmay] at m1
        have M1 := hid m1
        clear m1 hmay
        go_upto_region 15 with fail
        obtain ⟨hB, hl, h0, h1, h2, h3, h4, h5, h6, h7, h8, h9⟩ := HS3.out
        dsimp only at h0 h1 h2 h3 h4 h5 h6 h7 h8 h9
        have x0 := fun x : Later w3 => Later.cell (a := ⟨w.heap.size, 0, none⟩) hl h0 x
        have x1 := fun x : Later w3 => Later.cell (a := ⟨w.heap.size, 1, none⟩) hl h1 x
        have x2 := fun x : Later w3 => Later.cell (a := ⟨w.heap.size, 2, none⟩) hl h2 x
        have x3 := fun x : Later w3 => Later.cell (a := ⟨w.heap.size, 3, none⟩) hl h3 x
        have x4 := fun x : Later w3 => Later.cell (a := ⟨w.heap.size, 4, none⟩) hl h4 x
        have x5 := fun x : Later w3 => Later.cell (a := ⟨w.heap.size, 5, none⟩) hl h5 x
        have x6 := fun x : Later w3 => Later.cell (a := ⟨w.heap.size, 6, none⟩) hl h6 x
        have x7 := fun x : Later w3 => Later.cell (a := ⟨w.heap.size, 7, none⟩) hl h7 x
        have x8 := fun x : Later w3 => Later.cell (a := ⟨w.heap.size, 8, none⟩) hl h8 x
        have x9 := fun x : Later w3 => Later.cell (a := ⟨w.heap.size, 9, none⟩) hl h9 x
        have xy := fun x : Later w3 => Later.cell (a := ⟨g2, o2 + j, none⟩) (show g2 < w3.heap.size by omega) hy x
        clear hB h0 h1 h2 h3 h4 h5 h6 h7 h8 h9
        refine wp_region_quiet_later (by kernel_rfl) (by kernel_rfl) ?_
        repeat (go_big_quiet_step ((first | (go_at_call 11; refine later_of (v := .bool false) ?_; exact M1.out _))))
        refine wpQuiet_nil ?_
        intro _ hw'
        obtain ⟨x, hw''⟩ := hw'
        subst hw''
        clear x0 x1 x2 x3 x4 x5 x6 x7 x8 x9 xy
        have hb := x.below
        generalize x.world = w4 at hb
        clear x hl
        have HS4 := hid (HS3.out.on hb)
        have HR4 := hid (HR3.out.below hb)
        have HBr4 := hid (HBr3.out.trans (hb.mono HBr3.out.size))
        clear hb hy
        go_wp2_with fail
        go_roundw
        case rel => exact ⟨j + 1, o', t + g, ats, tks, by omega, by go_num, rfl, rfl, by omega, by omega, by omega, HBu1.out, HR4.out, HS4.out, HBr4.out⟩
        case measure => simp [intOf]; omega
      | true =>
        rw [hmay] at m1
        have M1 := hid m1
        have HBu2 := hid (HBu1.out.take (show 0 ≤ t + g by omega) hmay)
        clear m1 hmay
        go_upto_region 15 with fail
        obtain ⟨hB, hl, h0, h1, h2, h3, h4, h5, h6, h7, h8, h9⟩ := HS3.out
        dsimp only at h0 h1 h2 h3 h4 h5 h6 h7 h8 h9
        have x0 := fun x : Later w3 => Later.cell (a := ⟨w.heap.size, 0, none⟩) hl h0 x
        have x1 := fun x : Later w3 => Later.cell (a := ⟨w.heap.size, 1, none⟩) hl h1 x
        have x2 := fun x : Later w3 => Later.cell (a := ⟨w.heap.size, 2, none⟩) hl h2 x
        have x3 := fun x : Later w3 => Later.cell (a := ⟨w.heap.size, 3, none⟩) hl h3 x
        have x4 := fun x : Later w3 => Later.cell (a := ⟨w.heap.size, 4, none⟩) hl h4 x
        have x5 := fun x : Later w3 => Later.cell (a := ⟨w.heap.size, 5, none⟩) hl h5 x
        have x6 := fun x : Later w3 => Later.cell (a := ⟨w.heap.size, 6, none⟩) hl h6 x
        have x7 := fun x : Later w3 => Later.cell (a := ⟨w.heap.size, 7, none⟩) hl h7 x
        have x8 := fun x : Later w3 => Later.cell (a := ⟨w.heap.size, 8, none⟩) hl h8 x
        have x9 := fun x : Later w3 => Later.cell (a := ⟨w.heap.size, 9, none⟩) hl h9 x
        have xy := fun x : Later w3 => Later.cell (a := ⟨g2, o2 + j, none⟩) (show g2 < w3.heap.size by omega) hy x
        clear hB h0 h1 h2 h3 h4 h5 h6 h7 h8 h9
        refine wp_region_quiet_later (by kernel_rfl) (by kernel_rfl) ?_
        repeat (go_big_quiet_step ((first | (go_at_call 11; refine later_of (v := .bool true) ?_; exact M1.out _))))
        refine wpQuiet_nil ?_
        intro _ hw'
        obtain ⟨x, hw''⟩ := hw'
        subst hw''
        clear x0 x1 x2 x3 x4 x5 x6 x7 x8 x9 xy
        have hb := x.below
        generalize x.world = w4 at hb
        clear x hl
        have HS4 := hid (HS3.out.on hb)
        have HR4 := hid (HR3.out.below hb)
        have HBr4 := hid (HBr3.out.trans (hb.mono HBr3.out.size))
        have hy := (hb.cell (p := ⟨g2, o2 + j, none⟩) (show g2 < w3.heap.size by omega)).trans hy
        have hz4 := hb.size
        clear hb
        generalize takeP ⟨k, cap, num, den, width, count, keys, slots, every, seg⟩ o' y = ow at T1 HBu2
        go_upto_region 17 with fail
        obtain ⟨hB, hl, h0, h1, h2, h3, h4, h5, h6, h7, h8, h9⟩ := HS4.out
        dsimp only at h0 h1 h2 h3 h4 h5 h6 h7 h8 h9
        have x0 := fun x : Later w4 => Later.cell (a := ⟨w.heap.size, 0, none⟩) hl h0 x
        have x1 := fun x : Later w4 => Later.cell (a := ⟨w.heap.size, 1, none⟩) hl h1 x
        have x2 := fun x : Later w4 => Later.cell (a := ⟨w.heap.size, 2, none⟩) hl h2 x
        have x3 := fun x : Later w4 => Later.cell (a := ⟨w.heap.size, 3, none⟩) hl h3 x
        have x4 := fun x : Later w4 => Later.cell (a := ⟨w.heap.size, 4, none⟩) hl h4 x
        have x5 := fun x : Later w4 => Later.cell (a := ⟨w.heap.size, 5, none⟩) hl h5 x
        have x6 := fun x : Later w4 => Later.cell (a := ⟨w.heap.size, 6, none⟩) hl h6 x
        have x7 := fun x : Later w4 => Later.cell (a := ⟨w.heap.size, 7, none⟩) hl h7 x
        have x8 := fun x : Later w4 => Later.cell (a := ⟨w.heap.size, 8, none⟩) hl h8 x
        have x9 := fun x : Later w4 => Later.cell (a := ⟨w.heap.size, 9, none⟩) hl h9 x
        have xy := fun x : Later w4 => Later.cell (a := ⟨g2, o2 + j, none⟩) (show g2 < w4.heap.size by omega) hy x
        clear hB h0 h1 h2 h3 h4 h5 h6 h7 h8 h9
        refine wp_region_quiet_later (by kernel_rfl) (by kernel_rfl) ?_
        repeat (go_big_quiet_step ((first | (go_at_call 12; refine later_of (v := .int .i64 ow) ?_; exact T1.out _))))
        refine wpQuiet_nil ?_
        intro _ hw'
        obtain ⟨x, hw''⟩ := hw'
        subst hw''
        clear x0 x1 x2 x3 x4 x5 x6 x7 x8 x9 xy
        have hb := x.below
        generalize x.world = w5 at hb
        clear x hl
        have HS5 := hid (HS4.out.on hb)
        have HR5 := hid (HR4.out.below hb)
        have HBr5 := hid (HBr4.out.trans (hb.mono HBr4.out.size))
        have hy := (hb.cell (p := ⟨g2, o2 + j, none⟩) (show g2 < w4.heap.size by omega)).trans hy
        have hz5 := hb.size
        clear hb
        go_upto_region 19 with (at_builtin; refine wpList_append_at rfl (.tmp 78) (.tmp 80) 31 rfl w2.heap.size 3 iI (.int .i64 0) 1 8 Try.underlying31 HI.out HZ.out.1 HZ.out.2.1 HZ.out.2.2 rfl (by decide) _ ats.length (ats.map (Value.int .i64)) rfl (HR5.out.a.alloc _) ⟨w5.heap.size, 0, none⟩ 1 1 [.int .i64 (t + g)] rfl rfl (cell_one_new _ _ _) ?_ ?_ ?_ ?_ ?_; (simp [Value.oneCell']); (unfold maxLen; omega); omega; (simp; omega); intro va' w6 hown6 hgrow6 hlie6)
        have hz5' := HBr5.out.size
        have HR6 := hid ((HR5.out.below ((Below.refl _ _).alloc (Nat.le_refl _) _)).pushA hown6 hgrow6 hlie6)
        have HBr6 := hid ((HBr5.out.alloc hz5' _).trans (grown_below hgrow6 (HR5.out.a.alloc _) (by simp; omega)))
        have HS6 := hid (HS.out.on HBr6.out)
        have hy := (HS6.out.1.cell (p := ⟨g2, o2 + j, none⟩) hg2).trans HY0.out
        have hz6 := HBr6.out.size
        clear hown6 hgrow6 hlie6
        go_wp2_with (at_builtin; refine wpList_append_at rfl (.tmp 82) (.tmp 87) 31 rfl w2.heap.size 3 iI (.int .i64 0) 1 8 Try.underlying31 HI.out HZ.out.1 HZ.out.2.1 HZ.out.2.2 rfl (by decide) _ tks.length (tks.map (Value.int .i64)) rfl (HR6.out.t.alloc _) ⟨w6.heap.size, 0, none⟩ 1 1 [.int .i64 y] rfl rfl (cell_one_new _ _ _) ?_ ?_ ?_ ?_ ?_; (simp [Value.oneCell']); (unfold maxLen; omega); omega; (simp; omega); intro vt' w7 hown7 hgrow7 hlie7)
        have HR7 := hid ((HR6.out.below ((Below.refl _ _).alloc (Nat.le_refl _) _)).pushT hown7 hgrow7 hlie7)
        have HBr7 := hid ((HBr6.out.alloc hz6 _).trans (grown_below hgrow7 (HR6.out.t.alloc _) (by simp; omega)))
        have HS7 := hid (HS.out.on HBr7.out)
        clear hown7 hgrow7 hlie7 hy
        go_roundw
        case rel => exact ⟨j + 1, ow, t + g, ats ++ [t + g], tks ++ [y], by omega, by go_num, rfl, rfl, by omega, by omega, by simp; omega, HBu2.out, HR7.out, HS7.out, HBr7.out⟩
        case measure => simp [intOf]; omega
    · have hex : ¬ j < n ∨ (j < n ∧ ¬ j < m) := by omega
      obtain ⟨A1, ca, rfl, hfa⟩ := own_form HR.out.a
      obtain ⟨A2, ct, rfl, hft⟩ := own_form HR.out.t
      have FA := hid hfa
      have FT := hid hft
      have hll := HBu.out.len
      have HLL := hid hll
      have hL : ats.length ≤ 100 := by omega
      have HB0 := hid HSr.out.1
      clear hfa hft
      rw [← hll]
      clear hll
      rcases hex with hex | ⟨hex1, hex2⟩
      all_goals
        go_wp2_with fail
        go_loopw [16] (fun a wx => ∃ i : Nat, i ≤ ats.length ∧ a = .int .i64 i ∧ ∃ q, wx = wr.drewN q) (fun a _ => ats.length - (intOf a).toNat)
        case atStart => exact ⟨0, by omega, rfl, 0, rfl⟩
        case round =>
          obtain ⟨i, hi, rfl, q, rfl⟩ := hrel
          by_cases hil : i < ats.length
          · obtain ⟨ga, hA1, hca⟩ := FA.out (by omega)
            obtain ⟨gt, hA2, hct⟩ := FT.out (by have := HLL.out; omega)
            subst hA1
            subst hA2
            have HCA := hid hca
            have HCT := hid hct
            clear hca hct
            go_wp2_with fail
            go_loopw [17, 18] (fun s b wy => ∃ e : Nat, i ≤ e ∧ e ≤ ats.length ∧ b = .int .i64 e ∧ s = .int .i64 (part tks i e) ∧ ∃ q, wy = wr.drewN q) (fun _ b _ => ats.length - (intOf b).toNat)
            case atStart => exact ⟨i, Nat.le_refl _, by omega, rfl, by rw [part_self], q, rfl⟩
            case round =>
              obtain ⟨e, hie, hel, rfl, rfl, q2, rfl⟩ := hrel
              by_cases hlt : e < ats.length
              · have hte : e < tks.length := by have := HLL.out; omega
                have hti : i < tks.length := by omega
                have cy := HCT.out e hte
                have ce := HCA.out e hlt
                have ci := HCA.out i hil
                obtain ⟨y0, y1⟩ := HBu.out.cost e hte
                have p1 := part_bounds HBu.out.cost i (e - i) (by omega)
                rw [show i + (e - i) = e by omega] at p1
                have PS := part_snoc hie hte
                have al := HBu.out.all i e hie hte
                rw [PS] at al
                have r1 := HBu.out.at_ i hti
                have r2 := HBu.out.at_ e hte
                have r3 := HBu.out.rise i e hie hte
                obtain ⟨-, hcap, hnum, hden⟩ := meansB_bounds MM.out
                obtain ⟨hB, hl, h0, h1, h2, h3, h4, h5, h6, h7, h8, h9⟩ := HSr.out
                dsimp only at h1 h2 h3 al hcap hnum hden
                clear hB h0 h4 h5 h6 h7 h8 h9
                generalize tks.getD e 0 = y at cy y0 y1 PS al
                generalize ats.getD e 0 = te at ce al r2 r3
                generalize ats.getD i 0 = ti at ci al r1 r3
                generalize part tks i e = se at p1 PS al ⊢
                have PS' := hid PS
                clear PS
                have se1 : se ≤ 104857600 := by omega
                have m1 := mul_bounds (show 0 ≤ se + y by omega) (show se + y ≤ 105906176 by omega) (show 0 ≤ den by omega) hden.2
                have m2 := mul_bounds (show 0 ≤ cap by omega) hcap.2 (show 0 ≤ den by omega) hden.2
                have m3 := mul_bounds (show 0 ≤ te - ti by omega) (show te - ti ≤ 107374182300 by omega) (show 0 ≤ num by omega) hnum.2
                have e0 : IntKind.i64.wrap (se + y) = se + y := IntWalk.i64_in _ (by omega)
                have e1 : IntKind.i64.wrap ((se + y) * den) = (se + y) * den := IntWalk.i64_in _ (by omega)
                have e2 : IntKind.i64.wrap (cap * den) = cap * den := IntWalk.i64_in _ (by omega)
                have e3 : IntKind.i64.wrap (te - ti) = te - ti := IntWalk.i64_in _ (by omega)
                have e4 : IntKind.i64.wrap ((te - ti) * num) = (te - ti) * num := IntWalk.i64_in _ (by omega)
                have e5 : IntKind.i64.wrap (cap * den + (te - ti) * num) = cap * den + (te - ti) * num := IntWalk.i64_in _ (by omega)
                have i1 : (e : Int) < (ats.length : Int) := by omega
                have i2 : (e : Int) < (tks.length : Int) := by omega
                have i3 : (i : Int) < (ats.length : Int) := by omega
                go_upto_region 30 with fail
                go_quiet (fail)
                go_wp2_with fail
                go_roundw
                case rel => exact ⟨e + 1, by omega, by omega, by go_num, by rw [PS'.out], _, rfl⟩
                case measure => simp [intOf]; omega
              · go_wp2_with fail
                go_roundw
                case rel => exact ⟨i + 1, by omega, by go_num, q2, rfl⟩
                case measure => simp [intOf]; omega
          · go_wp2_with fail
            go_ret
            exact ⟨rfl, below_drewN' HB0.out _⟩

end Go.Proofs.Ytlhnlickmjdjfaa
