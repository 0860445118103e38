/- WindowHolds, told: what its printed function answers. -/
import Derived.Test.YtkcnenekmjgmgaaPBx2
import Derived.Test.YtkcnenekmjgmgaaYh
import Derived.Test.YtkcnenekmjgmgaaEm
import Derived.Test.YtkcnenekmjgmgaaAp
namespace Go.Proofs.Ytkcnenekmjgmgaa
open Go.RowKit Go.Proofs.YtkcnenekmjgmgaaW.PrintWords
open YtkcnenekmjgmgaaP (reevelaw08_WindowHolds.l0 reevelaw08_WindowHolds.l1 reevelaw08_WindowHolds.l2 reevelaw08_WindowHolds.j0 reevelaw08_WindowHolds.j2 reevelaw08_WindowHolds.j5)

theorem rd_fst {L : List (Int × Int)} {i : Nat} (h : i < L.length) : rd (L.map Prod.fst) (i : Int) = L[i].1 := by simp [rd, h]
theorem rd_snd {L : List (Int × Int)} {i : Nat} (h : i < L.length) : rd (L.map Prod.snd) (i : Int) = L[i].2 := by simp [rd, h]

/-- What the check over pairs leans on. -/
structure Fits (p : Pol) (L : List (Int × Int)) : Prop where
  len : L.length ≤ 100
  lo : ∀ q ∈ L, 0 ≤ q.1 ∧ q.1 ≤ 1099511627776
  cost : ∀ q ∈ L, 1 ≤ q.2
  room : ∀ x, win L x p.count ≤ p.cap
  up : L.Pairwise fun a b => a.1 ≤ b.1

theorem inner (p : Pol) (hm : meansW p = true) (L : List (Int × Int)) (hf : Fits p L) (a : Nat) (ha : a < L.length)
    (hnext : ∃ k, reevelaw08_WindowHolds.l1 k (L.map Prod.fst) (L.map Prod.snd) ((a + 1 : Nat) : Int) p.k p.cap p.num p.den p.width p.count p.keys p.slots p.every p.seg = some true) :
    ∀ (d b : Nat) (sum : Int), L.length - b = d → a ≤ b → b ≤ L.length → sum = win ((L.drop a).take (b - a)) L[a].1 p.count →
      ∃ k, reevelaw08_WindowHolds.l2 k (L.map Prod.fst) (L.map Prod.snd) (a : Int) sum (b : Int) p.k p.cap p.num p.den p.width p.count p.keys p.slots p.every p.seg = some true := by
  have hcc := (meansW_bounds hm).2.2.2
  have hcap := (meansW_bounds hm).2.1
  have hl100 := hf.len
  have hL : ∀ q ∈ L, 0 ≤ q.2 := fun q hq => by have := hf.cost q hq; omega
  obtain ⟨k1, hk1⟩ := hnext
  have hout : reevelaw08_WindowHolds.l1 k1 (L.map Prod.fst) (L.map Prod.snd) (wrap64 ((a : Int) + 1)) p.k p.cap p.num p.den p.width p.count p.keys p.slots p.every p.seg = some true := by
    rw [wrap_small (by omega) (by omega)]
    exact hk1
  intro d
  induction d with
  | zero =>
    intro b sum hd hab hbl hs
    refine ⟨k1 + 2, ?_⟩
    have e : b = L.length := by omega
    subst e
    simp only [reevelaw08_WindowHolds.l2, List.length_map]
    rw [if_neg (by omega)]
    simp only [reevelaw08_WindowHolds.j5, Bool.false_eq_true, if_false]
    exact hout
  | succ d ih =>
    intro b sum hd hab hbl hs
    have hb : b < L.length := by omega
    have hla := hf.lo L[a] (List.getElem_mem ha)
    have hlb := hf.lo L[b] (List.getElem_mem hb)
    by_cases hin : L[b].1 < L[a].1 + p.count
    · have hle : L[a].1 ≤ L[b].1 := by
        rcases Nat.lt_or_ge a b with h' | h'
        · exact (List.pairwise_iff_getElem.1 hf.up) a b ha hb h'
        · have : b = a := by omega
          subst this
          exact Int.le_refl _
      have htake : (L.drop a).take (b + 1 - a) = (L.drop a).take (b - a) ++ [L[b]] := by
        rw [show b + 1 - a = b - a + 1 by omega, List.take_succ_eq_append_getElem (by rw [List.length_drop]; omega)]
        congr 2
        rw [List.getElem_drop]
        congr 1
        omega
      have hsum : sum + L[b].2 = win ((L.drop a).take (b + 1 - a)) L[a].1 p.count := by
        rw [htake, win_append, hs]
        simp only [win]
        rw [if_pos ⟨hle, hin⟩]
        omega
      have hsub : win ((L.drop a).take (b + 1 - a)) L[a].1 p.count ≤ win L L[a].1 p.count := by
        have e1 := win_append (L.take a) (L.drop a) L[a].1 p.count
        rw [List.take_append_drop] at e1
        have e2 := win_append ((L.drop a).take (b + 1 - a)) ((L.drop a).drop (b + 1 - a)) L[a].1 p.count
        rw [List.take_append_drop] at e2
        have n1 := win_nonneg (L := L.take a) (fun q hq => hL q (List.mem_of_mem_take hq)) L[a].1 p.count
        have n2 := win_nonneg (L := (L.drop a).drop (b + 1 - a)) (fun q hq => hL q (List.mem_of_mem_drop (List.mem_of_mem_drop hq))) L[a].1 p.count
        omega
      have hs0 : 0 ≤ sum := by
        rw [hs]
        exact win_nonneg (fun q hq => hL q (List.mem_of_mem_drop (List.mem_of_mem_take hq))) _ _
      have hroom := hf.room L[a].1
      have hcost := hf.cost L[b] (List.getElem_mem hb)
      obtain ⟨k, hk⟩ := ih (b + 1) (sum + L[b].2) (by omega) (by omega) (by omega) hsum
      refine ⟨k + 2, ?_⟩
      simp only [reevelaw08_WindowHolds.l2, List.length_map]
      rw [if_pos (by omega), if_pos (by omega), if_pos (by omega), if_pos (by omega), rd_fst ha, rd_fst hb, wrap_small (x := L[a].1 + p.count) (by omega) (by omega), decide_eq_true hin]
      simp only [reevelaw08_WindowHolds.j5, if_true, List.length_map]
      rw [if_pos (by omega), if_pos (by omega), rd_snd hb, if_neg (by omega), wrap_small (x := sum + L[b].2) (by omega) (by omega), if_neg (by omega), wrap_small (x := (b : Int) + 1) (by omega) (by omega)]
      exact hk
    · refine ⟨k1 + 2, ?_⟩
      simp only [reevelaw08_WindowHolds.l2, List.length_map]
      rw [if_pos (by omega), if_pos (by omega), if_pos (by omega), if_pos (by omega), rd_fst ha, rd_fst hb, wrap_small (x := L[a].1 + p.count) (by omega) (by omega), decide_eq_false hin]
      simp only [reevelaw08_WindowHolds.j5, Bool.false_eq_true, if_false]
      exact hout

theorem outer (p : Pol) (hm : meansW p = true) (L : List (Int × Int)) (hf : Fits p L) : ∀ (d a : Nat), L.length - a = d → a ≤ L.length →
    ∃ k, reevelaw08_WindowHolds.l1 k (L.map Prod.fst) (L.map Prod.snd) (a : Int) p.k p.cap p.num p.den p.width p.count p.keys p.slots p.every p.seg = some true := by
  intro d
  induction d with
  | zero =>
    intro a hd ha
    refine ⟨1, ?_⟩
    simp only [reevelaw08_WindowHolds.l1, List.length_map]
    rw [if_neg (by omega)]
  | succ d ih =>
    intro a hd ha
    have hlt : a < L.length := by omega
    obtain ⟨k, hk⟩ := inner p hm L hf a hlt (ih (a + 1) (by omega) (by omega)) _ a 0 rfl (Nat.le_refl _) ha (by simp [win])
    refine ⟨k + 1, ?_⟩
    simp only [reevelaw08_WindowHolds.l1, List.length_map]
    rw [if_pos (by omega)]
    exact hk

theorem Holds.fits {p : Pol} {s : Win} {L : List (Int × Int)} {tick : Int} (hm : meansW p = true) (h : Holds p s L tick) (hl : L.length ≤ 100) (h0 : ∀ q ∈ L, 0 ≤ q.1) : Fits p L := by
  refine ⟨hl, fun q hq => ⟨h0 q hq, ?_⟩, h.cost, h.room, h.up⟩
  have h1 := h.at_ q hq
  have h2 := h.g
  have h3 := (gridN_bound hm tick).2
  omega

theorem move_f (p : Pol) (s x : Win) (t : Int) (h : moveP p s t = x) : YtkcnenekmjgmgaaP.window_Move.f p.k p.cap p.num p.den p.width p.count p.keys p.slots p.every p.seg s.g s.l t = some (x.g, x.l) := by
  subst h; rfl
theorem may_f (p : Pol) (x : Win) (c : Int) (b : Bool) (h : mayW p x c = b) : YtkcnenekmjgmgaaP.window_May.f p.k p.cap p.num p.den p.width p.count p.keys p.slots p.every p.seg x.g x.l c = some b := by
  subst h; rfl
theorem take_f (p : Pol) (s x : Win) (c : Int) (h : takeW p s c = x) : YtkcnenekmjgmgaaP.window_Take.f p.k p.cap p.num p.den p.width p.count p.keys p.slots p.every p.seg s.g s.l c = some (x.g, x.l) := by
  subst h; rfl
theorem fresh_f (p : Pol) (t : Int) (x : Win) (hm : meansW p = true) (h : freshN p t = x) : YtkcnenekmjgmgaaP.window_Fresh.f p.k p.cap p.num p.den p.width p.count p.keys p.slots p.every p.seg t = some (x.g, x.l) := by
  subst h
  unfold YtkcnenekmjgmgaaP.window_Fresh.f
  exact if_pos hm
theorem grid_tick {p : Pol} (hm : meansW p = true) {t : Int} (h0 : 0 ≤ t) (h1 : t ≤ 1099511627776) : wrap64 (Int.tdiv t p.width) = gridN p t := by
  have e2 := gridN_bound hm t
  have e1 : gridN p t = Int.tdiv t p.width := by unfold gridN; rw [clipI_mid h0 h1]
  rw [e1] at e2 ⊢
  exact wrap_small (by omega) (by omega)

theorem asked (p : Pol) (hm : meansW p = true) (gs cs : List Int) (hg : gs.length ≤ 100) : ∀ (d i : Nat) (tick : Int) (s : Win) (L : List (Int × Int)), gs.length - i = d → i ≤ gs.length → Holds p s L tick → tick ≤ (i : Int) * 1073741823 → L.length ≤ i → (∀ q ∈ L, 0 ≤ q.1) →
    ∃ k, reevelaw08_WindowHolds.l0 k gs cs tick (L.map Prod.fst) (L.map Prod.snd) (i : Int) p.k p.cap p.num p.den p.width p.count p.keys p.slots p.every p.seg s.g s.l = some true := by
  have hww := (meansW_bounds hm).2.2.1
  intro d
  induction d with
  | zero =>
    intro i tick s L hd hi hh ht hl h0
    obtain ⟨k, hk⟩ := outer p hm L (hh.fits hm (by omega) h0) _ 0 rfl (by omega)
    refine ⟨k + 2, ?_⟩
    simp only [reevelaw08_WindowHolds.l0]
    rw [if_neg (by omega)]
    simp only [reevelaw08_WindowHolds.j2, Bool.false_eq_true, if_false]
    exact hk
  | succ d ih =>
    intro i tick s L hd hi hh ht hl h0
    have hlt : i < gs.length := by omega
    by_cases hc : i < cs.length
    · obtain ⟨m, em, m0, m1⟩ := mask30 (rd gs (i : Int))
      have EM := hid em
      clear em
      have t0 := hh.t0
      have htb : tick + m ≤ ((i + 1 : Nat) : Int) * 1073741823 := by omega
      have HTM := hid (show wrap64 (tick + m) = tick + m from wrap_small (by omega) (by omega))
      have hh2 := hh.move hm (t := tick + m) (by omega)
      have HW1 := hid (show wrap64 ((i : Int) + 1) = ((i + 1 : Nat) : Int) by rw [wrap_small (by omega) (by omega)]; omega)
      have HGT := hid ((grid_tick hm (t := tick + m) (by omega) (by omega)).trans hh2.g.symm)
      have hx0 : 0 ≤ (moveP p s (tick + m)).g := by rw [hh2.g]; exact (gridN_bound hm _).1
      generalize hx : moveP p s (tick + m) = x at *
      generalize hcc : rd cs (i : Int) = c at *
      have d1 : decide ((i : Int) < (cs.length : Int)) = true := decide_eq_true (by omega)
      have b1 : (i : Int) < (gs.length : Int) := by omega
      have b2 : (i : Int) < (cs.length : Int) := by omega
      have b0 : 0 ≤ (i : Int) := by omega
      have bw : ¬ p.width = 0 := by omega
      cases hmay : mayW p x c with
      | true =>
        have hh3 := hh2.take hm hmay
        have htk := take_f p x _ c rfl
        generalize takeW p x c = y at *
        have hL1 : (L ++ [(x.g, c)]).length ≤ i + 1 := by simp; omega
        have c1 : (L.map Prod.fst).length < 17592186044416 := by simp; omega
        have c2 : (L.map Prod.snd).length < 17592186044416 := by simp; omega
        obtain ⟨k, hk⟩ := ih (i + 1) (tick + m) y _ (by omega) (by omega) hh3 (by omega) hL1 (fun q hq => by
          rcases List.mem_append.1 hq with hq | hq
          · exact h0 q hq
          · simp at hq; subst hq; exact hx0)
        rw [List.map_append, List.map_append] at hk
        refine ⟨k + 2, ?_⟩
        simp only [reevelaw08_WindowHolds.l0]
        rw [if_pos b1, d1]
        simp only [reevelaw08_WindowHolds.j2, if_true, EM.out, HTM.out]
        rw [if_pos b0, if_pos b1, move_f p s x _ hx]
        simp only [Option.bind_some]
        rw [if_pos b2, hcc, may_f p x c _ hmay]
        simp only [Option.bind_some, if_true]
        rw [htk]
        simp only [Option.bind_some]
        rw [if_neg bw, if_pos c1, if_pos c2, HGT.out, HW1.out]
        exact hk
      | false =>
        obtain ⟨k, hk⟩ := ih (i + 1) (tick + m) x _ (by omega) (by omega) hh2 (by omega) (by omega) h0
        refine ⟨k + 2, ?_⟩
        simp only [reevelaw08_WindowHolds.l0]
        rw [if_pos b1, d1]
        simp only [reevelaw08_WindowHolds.j2, if_true, EM.out, HTM.out]
        rw [if_pos b0, if_pos b1, move_f p s x _ hx]
        simp only [Option.bind_some]
        rw [if_pos b2, hcc, may_f p x c _ hmay]
        simp only [Option.bind_some, Bool.false_eq_true, if_false]
        rw [HW1.out]
        exact hk
    · obtain ⟨k, hk⟩ := outer p hm L (hh.fits hm (by omega) h0) _ 0 rfl (by omega)
      refine ⟨k + 2, ?_⟩
      simp only [reevelaw08_WindowHolds.l0]
      rw [if_pos (by omega), decide_eq_false (show ¬ (i : Int) < (cs.length : Int) by omega)]
      simp only [reevelaw08_WindowHolds.j2, Bool.false_eq_true, if_false]
      exact hk

theorem holds_told (p : Pol) (gs cs : List Int) : ∃ k, YtkcnenekmjgmgaaP.reevelaw08_WindowHolds.f k p.k p.cap p.num p.den p.width p.count p.keys p.slots p.every p.seg gs cs = some true := by
  cases hok : okB p with
  | false =>
    refine ⟨1, ?_⟩
    unfold YtkcnenekmjgmgaaP.reevelaw08_WindowHolds.f YtkcnenekmjgmgaaP.reevelaw08_awake.f YtkcnenekmjgmgaaP.reeveref04_Right.f
    simp only [Option.bind_some, if_true]
    show (if rightN p = 0 then _ else _) = _
    rw [rightN_no hok, if_neg (by omega)]
    simp only [reevelaw08_WindowHolds.j0, if_true]
  | true =>
    by_cases hk : p.k = 2
    · have hm := meansW_yes hk hok
      by_cases hl : gs.length ≤ 100
      · obtain ⟨k, hk0⟩ := asked p hm gs cs hl _ 0 0 (freshN p 0) [] rfl (by omega) (Holds.begin hm) (by omega) (by simp) (by simp)
        refine ⟨k + 1, ?_⟩
        unfold YtkcnenekmjgmgaaP.reevelaw08_WindowHolds.f YtkcnenekmjgmgaaP.reevelaw08_awake.f YtkcnenekmjgmgaaP.reeveref04_Right.f
        simp only [Option.bind_some, if_true]
        show (if rightN p = 0 then _ else _) = _
        rw [rightN_yes hok, if_pos rfl, if_pos hk, decide_eq_false (show ¬ (gs.length : Int) > 100 by omega)]
        simp only [reevelaw08_WindowHolds.j0, Bool.false_eq_true, if_false]
        rw [fresh_f p 0 _ hm rfl]
        simp only [Option.bind_some]
        exact hk0
      · refine ⟨1, ?_⟩
        unfold YtkcnenekmjgmgaaP.reevelaw08_WindowHolds.f YtkcnenekmjgmgaaP.reevelaw08_awake.f YtkcnenekmjgmgaaP.reeveref04_Right.f
        simp only [Option.bind_some, if_true]
        show (if rightN p = 0 then _ else _) = _
        rw [rightN_yes hok, if_pos rfl, if_pos hk, decide_eq_true (show (gs.length : Int) > 100 by omega)]
        simp only [reevelaw08_WindowHolds.j0, if_true]
    · refine ⟨1, ?_⟩
      unfold YtkcnenekmjgmgaaP.reevelaw08_WindowHolds.f YtkcnenekmjgmgaaP.reevelaw08_awake.f YtkcnenekmjgmgaaP.reeveref04_Right.f
      simp only [Option.bind_some, if_true]
      show (if rightN p = 0 then _ else _) = _
      rw [rightN_yes hok, if_pos rfl, if_neg hk]
      simp only [reevelaw08_WindowHolds.j0, if_true]

theorem holds_call (p : Pol) (gs : List Int) (A : Option Addr) (c : Nat) (cs : List Int) (A' : Option Addr) (c' : Nat) (w : World) (hl : gs.length ≤ 9223372036854775807) (hrd : ReadIn w A gs) (hc : gs.length ≤ c) (hl' : cs.length ≤ 9223372036854775807) (hrd' : ReadIn w A' cs) (hc' : cs.length ≤ c') :
    Calls Try.prog 6 #[.agg #[.int .i64 p.k, .int .i64 p.cap, .int .i64 p.num, .int .i64 p.den, .int .i64 p.width, .int .i64 p.count, .int .i64 p.keys, .int .i64 p.slots, .int .i64 p.every, .int .i64 p.seg], .slice A gs.length c, .slice A' cs.length c'] w fun e w' => e = .returned (.bool true) ∧ Below w.heap.size w w' := by
  obtain ⟨k, hk⟩ := holds_told p gs cs
  exact YtkcnenekmjgmgaaP.reevelaw08_WindowHolds.calls k _ _ _ _ _ _ _ _ _ _ _ _ _ _ _ _ _ _ (kd_of_in hl hrd) hc (kd_of_in hl' hrd') hc' hk

#print axioms holds_call
end Go.Proofs.Ytkcnenekmjgmgaa
