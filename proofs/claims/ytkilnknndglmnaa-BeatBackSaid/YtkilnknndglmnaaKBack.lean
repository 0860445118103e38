/- The law Back: its walk, and its plain law. -/
import Derived.Test.YtkilnknndglmnaaKBack0

section
/- The law of turning back, told plainly. -/
namespace Go.Proofs.YtkilnknndglmnaaP
open Go.RowKit Go.Proofs.Ytkilnknndglmnaa Go.Proofs.YtkilnknndglmnaaW.PrintWords

theorem back_okR {l : List S26} (h : rowE l = 0) : back_ok.f l = some (backP l) := by unfold back_ok.f; rw [if_pos h]
theorem backP_allS (l : List S26) : allS (backP l) = true := by
  rw [allS_iff, backP_map]
  intro g hg
  unfold bck at hg
  obtain ⟨i, _, rfl⟩ := List.mem_map.1 hg
  exact red_isS _
theorem roundP_allS (x y : List S26) : allS (roundP x y) = true := by
  rw [allS_iff, roundP_map]
  intro g hg
  unfold rnd at hg
  obtain ⟨i, _, rfl⟩ := List.mem_map.1 hg
  exact red_isS _
theorem bft_cong {l l' : Nat → G} {n : Nat} (h : ∀ j, j < n → red (l j) = red (l' j)) (w u : G) (i : Nat) : red (bft l n w u i) = red (bft l' n w u i) := by
  unfold bft
  exact mul_cong (dft_cong h rfl _) rfl
/-- Turned and turned back. -/
theorem back_turnP {l : List S26} (hl : isLen l.length) (hs : allS l = true) : (backP (turnP l)).map sG = l.map sG := by
  refine map_ext (by rw [backP_len, turnP_len]) fun i hi => ?_
  rw [backP_len, turnP_len] at hi
  rw [← rd_sG, backP_at (by rw [turnP_len]; exact hi), turnP_len]
  have e : red (bft (atG ((turnP l).map sG)) l.length (rootW l.length) (rootU l.length) i) = red (bft (dft (atG (l.map sG)) l.length (rootW l.length)) l.length (rootW l.length) (rootU l.length) i) :=
    bft_cong (fun j hj => by rw [← rd_sG, turnP_at hj, red_red]) _ _ i
  rw [e, back_turn (root_len hl) _ hi]
  exact red_small (atG_isS (allS_iff.1 hs) i)
theorem turn_backP {l : List S26} (hl : isLen l.length) (hs : allS l = true) : (turnP (backP l)).map sG = l.map sG := by
  refine map_ext (by rw [turnP_len, backP_len]) fun i hi => ?_
  rw [turnP_len, backP_len] at hi
  rw [← rd_sG, turnP_at (by rw [backP_len]; exact hi), backP_len]
  have e : red (dft (atG ((backP l).map sG)) l.length (rootW l.length) i) = red (dft (bft (atG (l.map sG)) l.length (rootW l.length) (rootU l.length)) l.length (rootW l.length) i) :=
    dft_cong (fun j hj => by rw [← rd_sG, backP_at hj, red_red]) rfl i
  rw [e, turn_back (root_len hl) _ hi]
  exact red_small (atG_isS (allS_iff.1 hs) i)
/-- A round product, turned. -/
theorem turn_round {x y : List S26} {n : Nat} (hl : isLen n) (hx : x.length = n) {i : Nat} (hi : i < n) :
    sG (rd_T26 (turnP (roundP x y)) (i : Int)) = red (G.mul (dft (atG (x.map sG)) n (rootW n) i) (dft (atG (y.map sG)) n (rootW n) i)) := by
  have h1 := turnP_at (l := roundP x y) (i := i) (by rw [roundP_len, hx]; exact hi)
  rw [roundP_len, hx] at h1
  rw [h1]
  have e : red (dft (atG ((roundP x y).map sG)) n (rootW n) i) = red (dft (bft (fun m => G.mul (dft (atG (x.map sG)) n (rootW n) m) (dft (atG (y.map sG)) n (rootW n) m)) n (rootW n) (rootU n)) n (rootW n) i) :=
    dft_cong (fun j hj => by
      have h2 := roundP_at (x := x) (y := y) (i := j) (by omega)
      rw [hx] at h2
      rw [← rd_sG, h2, red_red]
      exact (conv_turn (root_len hl) _ _ hj).symm) rfl i
  rw [e, turn_back (root_len hl) _ hi]
/-- The sum of two rows, as far as i. -/
def addL (a b : List S26) (i : Nat) : List S26 := (List.range i).map fun j => gS (red (G.add (atG (a.map sG) j) (atG (b.map sG) j)))
theorem addL_len (a b : List S26) (i : Nat) : (addL a b i).length = i := by simp [addL]
theorem addL_allS (a b : List S26) (i : Nat) : allS (addL a b i) = true := range_allS i _
theorem addL_at (a b : List S26) {n j : Nat} (h : j < n) : atG ((addL a b n).map sG) j = red (G.add (atG (a.map sG) j) (atG (b.map sG) j)) := by
  unfold addL
  rw [List.map_map]
  exact atG_map _ h
theorem dft_add (f g : Nat → G) (n : Nat) (w : G) (k : Nat) : dft (fun j => G.add (f j) (g j)) n w k = G.add (dft f n w k) (dft g n w k) := by
  unfold dft
  rw [← sm_add]
  exact sm_congr fun j _ => G.add_mul _ _ _
theorem turn_add (a b : List S26) {n i : Nat} (hi : i < n) : sG (rd_T26 (turnP (addL a b n)) (i : Int)) = red (G.add (dft (atG (a.map sG)) n (rootW n) i) (dft (atG (b.map sG)) n (rootW n) i)) := by
  have h1 := turnP_at (l := addL a b n) (i := i) (by rw [addL_len]; exact hi)
  rw [addL_len] at h1
  rw [h1, ← dft_add]
  exact dft_cong (fun j hj => by rw [addL_at a b hj, red_red]) rfl i
theorem fold_two {g u : G} (h : IsS g) (hu : IsS u) : fold_ok.f (wrap64 (g.re + u.re)) = some (red (G.add g u)).re ∧ fold_ok.f (wrap64 (g.im + u.im)) = some (red (G.add g u)).im := by
  unfold IsS at h hu
  constructor
  · rw [w64 (by omega) (by omega)]
    rfl
  · rw [w64 (by omega) (by omega)]
    rfl
theorem back_sums (a b t u bk ag v : List S26) (n : Nat) (ha : a.length = n) (hb : b.length = n) (h1 : 1 ≤ n) (h2 : n ≤ 32) (hsa : allS a = true) (hsb : allS b = true)
    (hr : Ev (fun k => YtkilnknndglmnaaQ.reevelaw21_BeatBack.l0 k a b t u bk ag v (addL a b n) (n : Int)) true) :
    ∀ (d i : Nat), n - i = d → i ≤ n → Ev (fun k => YtkilnknndglmnaaQ.reevelaw21_BeatBack.l0 k a b t u bk ag v (addL a b i) (i : Int)) true := by
  intro d
  induction d with
  | zero =>
    intro i hd hi
    rw [show i = n by omega]
    exact hr
  | succ d ih =>
    intro i hd hi
    refine Ev.step (fun k => ?_) (ih (i + 1) (by omega) (by omega))
    have e : addL a b (i + 1) = addL a b i ++ [gS (red (G.add (sG (rd_T26 a (i : Int))) (sG (rd_T26 b (i : Int)))))] := by
      rw [rd_sG, rd_sG]
      unfold addL
      rw [List.range_succ, List.map_append]
      rfl
    have sa := atG_isS (allS_iff.1 hsa) i
    have sb := atG_isS (allS_iff.1 hsb) i
    rw [← rd_sG] at sa sb
    obtain ⟨f1, f2⟩ := fold_two sa sb
    have f1' : fold_ok.f (wrap64 ((rd_T26 a (i : Int)).f0 + (rd_T26 b (i : Int)).f0)) = some (red (G.add (sG (rd_T26 a (i : Int))) (sG (rd_T26 b (i : Int))))).re := f1
    have f2' : fold_ok.f (wrap64 ((rd_T26 a (i : Int)).f1 + (rd_T26 b (i : Int)).f1)) = some (red (G.add (sG (rd_T26 a (i : Int))) (sG (rd_T26 b (i : Int))))).im := f2
    rw [e]
    simp only [YtkilnknndglmnaaQ.reevelaw21_BeatBack.l0]
    rw [if_pos (by omega), if_pos (by omega), if_pos (by omega), f1', f2']
    simp only [Option.bind_some]
    rw [if_pos (by rw [addL_len]; omega), w64 (x := (i : Int) + 1) (by omega) (by omega)]
    rfl
theorem back_last (a t u v s : List S26) (n : Nat) (ha : a.length = n) (ht : t.length = n) (hu : u.length = n) (hv : v.length = n) (hs : s.length = n) (h2 : n ≤ 32) (hst : allS t = true) (hsu : allS u = true)
    (hm : ∀ i, i < n → sG (rd_T26 v (i : Int)) = red (G.mul (sG (rd_T26 t (i : Int))) (sG (rd_T26 u (i : Int))))) (had : ∀ i, i < n → sG (rd_T26 s (i : Int)) = red (G.add (sG (rd_T26 t (i : Int))) (sG (rd_T26 u (i : Int))))) :
    ∀ (d i : Nat), n - i = d → i ≤ n → Ev (fun k => YtkilnknndglmnaaQ.reevelaw21_BeatBack.l1 k a t u v s (i : Int)) true := by
  intro d
  induction d with
  | zero =>
    intro i hd hi
    refine ev_now fun k => ?_
    simp only [YtkilnknndglmnaaQ.reevelaw21_BeatBack.l1]
    rw [if_neg (by omega)]
  | succ d ih =>
    intro i hd hi
    refine Ev.step (fun k => ?_) (ih (i + 1) (by omega) (by omega))
    have st := atG_isS (allS_iff.1 hst) i
    have su := atG_isS (allS_iff.1 hsu) i
    rw [← rd_sG] at st su
    have ht2 := times_okN st su
    rw [← hm i (by omega)] at ht2
    have ht3 : times_ok.f (rd_T26 t (i : Int)).f0 (rd_T26 t (i : Int)).f1 (rd_T26 u (i : Int)).f0 (rd_T26 u (i : Int)).f1 = some ((rd_T26 v (i : Int)).f0, (rd_T26 v (i : Int)).f1) := ht2
    obtain ⟨f1, f2⟩ := fold_two st su
    rw [← had i (by omega)] at f1 f2
    have f1' : fold_ok.f (wrap64 ((rd_T26 t (i : Int)).f0 + (rd_T26 u (i : Int)).f0)) = some (rd_T26 s (i : Int)).f0 := f1
    have f2' : fold_ok.f (wrap64 ((rd_T26 t (i : Int)).f1 + (rd_T26 u (i : Int)).f1)) = some (rd_T26 s (i : Int)).f1 := f2
    simp only [YtkilnknndglmnaaQ.reevelaw21_BeatBack.l1]
    rw [if_pos (by omega), if_pos (by omega), if_pos (by omega), if_pos (by omega), ht3, f1', f2']
    simp only [Option.bind_some]
    rw [if_pos (by omega), if_neg (by simp), if_pos (by omega), if_neg (by simp), w64 (x := (i : Int) + 1) (by omega) (by omega)]
    rfl
theorem back_pure (x y : List S26) (a : Int) : Ev (fun k => YtkilnknndglmnaaQ.reevelaw21_BeatBack.f k x y a) true := by
  have hl := rightN_len a
  have hs := len_small hl
  generalize hn : rightN a = n at hl hs
  have ha : (rightP x n).length = n := rightP_len x n
  have hb : (rightP y n).length = n := rightP_len y n
  have hsa := rightP_allS x n
  have hsb := rightP_allS y n
  generalize ha' : rightP x n = p at ha hsa
  generalize hb' : rightP y n = q at hb hsb
  have row : ∀ {l : List S26}, l.length = n → allS l = true → rowE l = 0 := fun h1 h2 => rowE_iff.2 ⟨by rw [h1]; exact lenB_iff.2 hl, h2⟩
  have rp := row ha hsa
  have rq := row hb hsb
  have rt := row (l := turnP p) (by rw [turnP_len, ha]) (turnP_allS p)
  have rf := row (l := backP p) (by rw [backP_len, ha]) (backP_allS p)
  have rr := row (l := roundP p q) (by rw [roundP_len, ha]) (roundP_allS p q)
  have rs := row (l := addL p q n) (addL_len p q n) (addL_allS p q n)
  have re : roundE p q = 0 := by
    unfold roundE
    rw [ha, hb, lenB_iff.2 hl, hsa, hsb]
    simp
  have at_p : ∀ i, i < n → sG (rd_T26 (turnP p) (i : Int)) = red (dft (atG (p.map sG)) n (rootW n) i) := fun i hi => by
    have := turnP_at (l := p) (i := i) (by omega)
    rw [ha] at this
    exact this
  have at_q : ∀ i, i < n → sG (rd_T26 (turnP q) (i : Int)) = red (dft (atG (q.map sG)) n (rootW n) i) := fun i hi => by
    have := turnP_at (l := q) (i := i) (by omega)
    rw [hb] at this
    exact this
  have hlast := back_last p (turnP p) (turnP q) (turnP (roundP p q)) (turnP (addL p q n)) n ha (by rw [turnP_len, ha]) (by rw [turnP_len, hb]) (by rw [turnP_len, roundP_len, ha]) (by rw [turnP_len, addL_len]) hs.2 (turnP_allS p) (turnP_allS q)
    (fun i hi => by rw [at_p i hi, at_q i hi, turn_round hl ha hi, red_mul]) (fun i hi => by rw [at_p i hi, at_q i hi, turn_add p q hi, red_add]) _ 0 rfl (by omega)
  have hsum := back_sums p q (turnP p) (turnP q) (backP (turnP p)) (turnP (backP p)) (turnP (roundP p q)) n ha hb hs.1 hs.2 hsa hsb (by
    refine Ev.step (fun k => ?_) hlast
    simp only [YtkilnknndglmnaaQ.reevelaw21_BeatBack.l0]
    rw [if_neg (by omega), turn_okR rs]
    simp only [Option.bind_some]
    unfold same_ok.f
    rw [if_pos ⟨by rw [backP_len, turnP_len]; omega, back_turnP (by rw [ha]; exact hl) hsa⟩, if_pos ⟨by rw [turnP_len, backP_len]; omega, turn_backP (by rw [ha]; exact hl) hsa⟩]
    simp only [Option.bind_some]
    rw [if_pos (by rw [turnP_len]), if_pos (by rw [turnP_len, ha, hb]), if_pos (by rw [turnP_len, roundP_len]), if_pos (by rw [turnP_len, addL_len, ha])]
    rfl) _ 0 rfl (by omega)
  refine Ev.congr (fun k => ?_) hsum
  unfold YtkilnknndglmnaaQ.reevelaw21_BeatBack.f awake_ok.f right_ok.f
  rw [hn, ha', hb']
  simp only [Option.bind_some]
  rw [turn_okR rp, turn_okR rq]
  simp only [Option.bind_some]
  rw [back_okR rt, back_okR rp]
  simp only [Option.bind_some]
  rw [turn_okR rf]
  simp only [Option.bind_some]
  unfold round_ok.f
  rw [if_pos re]
  simp only [Option.bind_some]
  rw [turn_okR rr]
  rfl
theorem back_call (A0 : Option Addr) (c0 : Nat) (l0 : List S26) (A1 : Option Addr) (c1 : Nat) (l1 : List S26) (a2 : Int) (w : World) (h0 : Kd.C k26 w A0 l0.length l0) (g0 : l0.length ≤ c0) (h1 : Kd.C k26 w A1 l1.length l1) (g1 : l1.length ≤ c1) :
    Calls Try.prog 7 #[.slice A0 l0.length c0, .slice A1 l1.length c1, .int .i64 a2] w fun e w' => e = .returned (.bool true) ∧ Below w.heap.size w w' := by
  obtain ⟨k, hk⟩ := (back_pure l0 l1 a2).rounds
  exact YtkilnknndglmnaaQ.reevelaw21_BeatBack.calls k A0 c0 l0 A1 c1 l1 a2 true w h0 g0 h1 g1 hk

#print axioms back_call
end Go.Proofs.YtkilnknndglmnaaP
end
