/-
  A part of the symbolic machine, of its soundness, and of what functions compute. No condition.
-/
import Derived.Test.YtdecicbgjkeefaaP4
set_option linter.unusedSimpArgs false
set_option linter.unusedVariables false
/- press: no plan costs less than the cheapest one. -/
section
namespace Go.Eng
open Go Go.RowKit Go.Proofs
set_option maxRecDepth 100000
set_option maxHeartbeats 4000000
attribute [local irreducible] OwnT DefS
theorem rdB_own {D : PD} (hD : D.Ok) {x : Int × T3} (hb : bestM D D.h (begP D) = some x) : rdB D.n D.M D.h (fun _ => D.n) (plV (cAt D)) = true := by
  refine allU_iff.2 fun i hi => ?_
  obtain ⟨q, h1, h2⟩ := cAt_dig hD hb hi
  have := dig_ok hD h1
  simp only [rdRow, Bool.and_eq_true, decide_eq_true_eq, allU_iff, in3_iff, plV, h2]
  exact ⟨trivial, fun a ha => this a ha⟩
theorem forms_own {D : PD} (hD : D.Ok) {x : Int × T3} (hb : bestM D D.h (begP D) = some x) : formsB D.n D.M D.h (fun _ => D.n) (plV (cAt D)) = true := by
  refine allU_iff.2 fun i hi => ?_
  obtain ⟨q, h1, h2⟩ := cAt_dig hD hb hi
  have := dig_ok hD h1
  simp only [formB, Bool.and_eq_true, decide_eq_true_eq, allU_iff, in3_iff, plV, h2]
  exact ⟨trivial, fun a ha => this a ha⟩
theorem ck_own {D : PD} (hD : D.Ok) {x : Int × T3} (hb : bestM D D.h (begP D) = some x) : ckR D true D.h (fun _ => D.n) (plV (cAt D)) = plM D (cAt D) D.h := by
  simp only [ckR, rdB_own hD hb, decide_true, Bool.and_true, if_true]
  exact plM_congr D.h (fun i hi => chT_cAt hD hb hi)
theorem ck_other {D : PD} (hD : D.Ok) {K : Nat → Nat} {W : Nat → Nat → Nat → Int} (he : (ckR D true D.h K W).e = 0) :
    rdB D.n D.M D.h K W = true ∧ ckR D true D.h K W = plM D (fun i => chT D.n (W i)) D.h ∧ (∀ i, i < D.h → chZ D (chT D.n (W i))) := by
  unfold ckR at he ⊢
  simp only [if_true, decide_true, Bool.and_true] at he ⊢
  by_cases hr : rdB D.n D.M D.h K W = true
  · rw [if_pos hr]
    exact ⟨hr, rfl, fun i hi => chT_chZ hD (rdB_ok hr hi).2⟩
  · rw [if_neg hr] at he; simp [plBad] at he
theorem sum_wrap {D : PD} (hD : D.Ok) {C : Nat → T3} (hc : ∀ i, i < D.h → chOk D (C i)) (he : (plM D C D.h).e = 0) : IntKind.i64.wrap (IntKind.i64.wrap ((plM D C D.h).en + (plM D C D.h).st) + (plM D C D.h).s.pk * D.pk) = (plM D C D.h).en + (plM D C D.h).st + (plM D C D.h).s.pk * D.pk := by
  obtain ⟨h1, h2, h3⟩ := plM_ok hD D.h (Nat.le_refl _) hc he
  have hh := hD.h
  have q1 := mulB (x := (plM D C D.h).s.pk) (y := D.pk) (m := 3000) (k := 10000) h1.2.2 hD.pk
  rw [wrap_id (x := (plM D C D.h).en + (plM D C D.h).st) (by omega) (by omega), wrap_id (by omega) (by omega)]
def pressLeastBase : BaseF := fun args => match args with
  | [.agg [.row n sz_A f_A, .row h sz_nd f_nd, .row q sz_pr f_pr, .int .i64 st, .int .i64 ro, .int .i64 pk, .int .i64 fr], .row m sz_by_ f_by_] => some ((sz_A = 5 ∧ NestR n 5 0 2 f_A) ∧ (sz_nd = 1 ∧ IntR h 1 f_nd) ∧ (sz_pr = 1 ∧ IntR q 1 f_pr) ∧ (sz_by_ = 1 ∧ IntK .u8 m 1 f_by_), .bool true)
  | _ => none
theorem pressLeast_eq (n : Nat) (sz_A : Nat) (f_A : Nat → Nat → SV) (h : Nat) (sz_nd : Nat) (f_nd : Nat → Nat → SV) (q : Nat) (sz_pr : Nat) (f_pr : Nat → Nat → SV) (st : Int) (ro : Int) (pk : Int) (fr : Int) (m : Nat) (sz_by_ : Nat) (f_by_ : Nat → Nat → SV) : pressLeastBase [.agg [.row n sz_A f_A, .row h sz_nd f_nd, .row q sz_pr f_pr, .int .i64 st, .int .i64 ro, .int .i64 pk, .int .i64 fr], .row m sz_by_ f_by_] = some ((sz_A = 5 ∧ NestR n 5 0 2 f_A) ∧ (sz_nd = 1 ∧ IntR h 1 f_nd) ∧ (sz_pr = 1 ∧ IntR q 1 f_pr) ∧ (sz_by_ = 1 ∧ IntK .u8 m 1 f_by_), .bool true) := rfl
theorem pressLeast_base : Base Try.prog 4 pressLeastBase := by
  intro args p v hq hp
  unfold pressLeastBase at hq
  split at hq
  rotate_left
  · cases hq
  rename_i n sz_A f_A h sz_nd f_nd q sz_pr f_pr st ro pk fr m sz_by_ f_by_
  cases hq
  obtain ⟨⟨rfl, i_A⟩, ⟨rfl, i_nd⟩, ⟨rfl, i_pr⟩, ⟨rfl, i_by_⟩⟩ := hp
  refine base_of (C := cxn [] [(14, cheapestBase), (18, someBase)] [] [(11, greatBase), (12, slowBase), (13, aliveBase), (16, plansBase), (17, pressesBase), (19, checkBase), (20, sumBase), (21, formsBase), (22, beforeBase)] [] none) (cxn_ok ⟨cheapest_base, some_base, trivial⟩ trivial ⟨great_base, slow_base, alive_base, plans_base, presses_base, check_base, sum_base, forms_base, before_base, trivial⟩) rfl (g := 4) (fn := Try.f4)
    (args' := [.agg [.row n 5 (nestF 0 2 (nsA f_A) (nsM 0 f_A) (nsV 0 f_A)), .row h 1 (rowF .i64 (ivf f_nd)), .row q 1 (rowF .i64 (ivf f_pr)), .int .i64 st, .int .i64 ro, .int .i64 pk, .int .i64 fr], .row m 1 (rowF .u8 (ivf f_by_))]) (fn_4) rfl 1000 (by
    simp only [BdL, Bd, and_self, and_true, true_and]
    exact ⟨⟨(fun i j hi hj => nest_bd i_A i j hi hj), (fun i j hi hj => by rw [i_nd i j hi hj]; trivial), (fun i j hi hj => by rw [i_pr i j hi hj]; trivial)⟩, (fun i j hi hj => by rw [i_by_ i j hi hj]; trivial)⟩) ⟨SameD.agg ⟨SameD.nest i_A, SameD.int i_nd, SameD.int i_pr, SameD.rfl' _, SameD.rfl' _, SameD.rfl' _, SameD.rfl' _, trivial⟩, SameD.intK i_by_, trivial⟩ ?_
  generalize nsA f_A = A
  generalize nsM 0 f_A = M
  generalize nsV 0 f_A = V
  generalize ivf f_nd = nd
  generalize ivf f_pr = pr
  generalize ivf f_by_ = by_
  simp only [rowF_eq]
  simp only [slow_eq, alive_eq, plans_eq, presses_eq, check_eq, sum_eq, forms_eq, before_eq, cheapest_eq, some_eq, great_nil, great0_eq, chE_ns, chC_ns, chN_ns, cAt_ns, psB_ns, ckR_ns, planF, nestF_eq, nestR_lit, nsM_lit, nsV_lit, Try.f4, go_sem, ↓reduceIte, Nat.reduceAdd, Nat.reduceSub, Nat.reduceMul, Nat.reduceEqDiff, Nat.reduceLT, Nat.reduceLeDiff, Int.reduceToNat, Int.reduceLE, Int.reduceLT, Int.reduceEq, Int.reduceNeg, reduceCtorEq]
  refine ⟨fun _ => trivial, fun c1 => ?_⟩
  obtain ⟨h1, h2, h3, h4⟩ := gr0_false c1
  have hm : ∀ i, i < n → M i ≤ 1000000 := fun i hi => by have := h2 i hi; omega
  have hN := chN_le (psB n A M V h nd q pr st ro pk fr) ⟨n, A, M, V, h, nd, pr, st, ro, pk, fr⟩
  simp only [] at hN
  generalize hb : psB n A M V h nd q pr st ro pk fr = b at *
  cases b with
  | false =>
    have e1 : ∀ D, chE false D = 1 := fun _ => rfl
    have e2 : ∀ D, chN false D = 0 := fun _ => rfl
    have e3 : ∀ D, chC false D = 0 := fun _ => rfl
    simp only [e1, e2, e3, go_sem, ↓reduceIte, Nat.reduceAdd, Nat.reduceSub, Nat.reduceMul, Nat.reduceEqDiff, Nat.reduceLT, Nat.reduceLeDiff, Int.reduceToNat, Int.reduceLE, Int.reduceLT, Int.reduceEq, Int.reduceNeg, reduceCtorEq]
    refine ⟨⟨h1, h2, by omega⟩, fun _ => trivial, fun _ => ⟨fun _ => trivial, fun _ => ⟨⟨⟨by omega, hm⟩, by omega, by omega⟩, fun _ => ⟨⟨by omega, hm⟩, by omega, by omega⟩, fun e => absurd e (by simp)⟩⟩⟩
  | true =>
    obtain ⟨rfl, hOk⟩ := psB_iff.1 hb
    generalize hD : (⟨n, A, M, V, q, nd, pr, st, ro, pk, fr⟩ : PD) = D at hOk hN ⊢
    have d0 : n = D.n := by rw [← hD]
    have d1 : A = D.A := by rw [← hD]
    have d2 : M = D.M := by rw [← hD]
    have d3 : V = D.V := by rw [← hD]
    have d4 : q = D.h := by rw [← hD]
    have d5 : nd = D.nd := by rw [← hD]
    have d6 : pr = D.pr := by rw [← hD]
    have d7 : st = D.st := by rw [← hD]
    have d8 : ro = D.ro := by rw [← hD]
    have d9 : pk = D.pk := by rw [← hD]
    have d10 : fr = D.fr := by rw [← hD]
    clear hD
    subst d0 d1 d2 d3 d4 d5 d6 d7 d8 d9 d10
    cases hbest : bestM D D.h (begP D) with
    | none =>
      have e1 : chE true D = 4 := by simp only [chE, hbest]; rfl
      have e2 : chN true D = 0 := by simp only [chN, e1]; rfl
      have e3 : chC true D = 0 := by simp only [chC, e1]; rfl
      simp only [e1, e2, e3, go_sem, ↓reduceIte, Nat.reduceAdd, Nat.reduceSub, Nat.reduceMul, Nat.reduceEqDiff, Nat.reduceLT, Nat.reduceLeDiff, Int.reduceToNat, Int.reduceLE, Int.reduceLT, Int.reduceEq, Int.reduceNeg, reduceCtorEq]
      refine ⟨⟨h1, h2, by omega⟩, fun _ => trivial, fun _ => ⟨fun _ => trivial, fun c3 => ⟨⟨⟨by omega, hm⟩, by omega⟩, ⟨⟨by omega, hm⟩, by omega⟩, ⟨h1, by omega, by simp at c3; omega, h2⟩, ⟨⟨⟨by omega, hm⟩, by omega⟩, by omega, fun _ _ => by omega⟩, fun _ => ⟨fun _ => trivial, fun c4 => ?_⟩, fun e => absurd e (by simp)⟩⟩⟩
      simp only [Bool.not_eq_false', decide_eq_true_eq] at c4
      obtain ⟨g1, g2, g3⟩ := ck_other hOk c4
      rw [g2] at c4
      obtain ⟨y, h5, _⟩ := plM_tl c4 D.h (Nat.le_refl _)
      rw [Nat.sub_self] at h5
      obtain ⟨z, h6, _⟩ := best_le hOk g3 D.h _ y (Nat.le_refl _) h5
      have h7 : (plM D (fun i => chT D.n (somV D.n D.M m by_ i)) 0).s = begP D := rfl
      rw [h7, hbest] at h6
      cases h6
    | some x =>
      have e1 : chE true D = 0 := by simp only [chE, hbest]; rfl
      have e2 : chN true D = D.h := by simp only [chN, e1]; rfl
      have e3 : chC true D = x.1 := by simp only [chC, e1, hbest]; rfl
      simp only [e1, e2, e3, ck_own hOk hbest, forms_own hOk hbest, go_sem, ↓reduceIte, Nat.reduceAdd, Nat.reduceSub, Nat.reduceMul, Nat.reduceEqDiff, Nat.reduceLT, Nat.reduceLeDiff, Int.reduceToNat, Int.reduceLE, Int.reduceLT, Int.reduceEq, Int.reduceNeg, reduceCtorEq]
      obtain ⟨o1, o2, o3⟩ := own_sum hOk hbest
      have hcd : ∀ i, i < D.h → chOk D (cAt D i) := fun i hi => by obtain ⟨p, hp, e⟩ := cAt_dig hOk hbest hi; rw [e]; exact dig_ok hOk hp
      rw [sum_wrap hOk hcd o1, o1, o2, o3]
      refine ⟨⟨h1, h2, by omega⟩, fun _ => trivial, fun _ => ⟨fun _ => trivial, fun c3 => ⟨⟨⟨by omega, hm⟩, by omega⟩, ⟨⟨by omega, hm⟩, by omega⟩, ⟨h1, by omega, by simp at c3; omega, h2⟩, ⟨⟨⟨by omega, hm⟩, by omega⟩, by omega, fun _ _ => by omega⟩, ⟨⟨⟨by omega, hm⟩, by omega⟩, by omega, fun _ _ => by omega⟩, fun e => absurd e (by simp), fun _ => ⟨fun e => absurd e (by simp), fun _ => ⟨fun e => absurd e (by simp), fun _ => ⟨⟨by omega, fun _ _ => by omega⟩, fun _ => trivial, fun c4 => ?_⟩⟩⟩⟩⟩⟩
      simp only [Bool.not_eq_false', decide_eq_true_eq] at c4
      obtain ⟨g1, g2, g3⟩ := ck_other hOk c4
      rw [g2] at c4 ⊢
      rw [sum_wrap hOk (fun i hi => (g3 i hi).1) c4]
      obtain ⟨y, h5, h6⟩ := plM_tl c4 D.h (Nat.le_refl _)
      rw [Nat.sub_self] at h5 h6
      have h7 : (plM D (fun i => chT D.n (somV D.n D.M m by_ i)) 0).s = begP D := rfl
      have h8 : (plM D (fun i => chT D.n (somV D.n D.M m by_ i)) 0).en = 0 := rfl
      have h9 : (plM D (fun i => chT D.n (somV D.n D.M m by_ i)) 0).st = 0 := rfl
      rw [h7] at h5
      rw [h8, h9] at h6
      rw [← h6]
      obtain ⟨z, h10, h11⟩ := best_le hOk g3 D.h _ y (Nat.le_refl _) h5
      rw [hbest] at h10
      cases h10
      refine ⟨fun _ => trivial, fun c5 => ?_⟩
      simp only [decide_eq_false_iff_not] at c5
      have heq : x.1 = y.1 := by omega
      refine ⟨fun _ => ⟨⟨by omega, by omega, fun _ _ => ⟨by omega, by omega⟩⟩, fun _ => trivial, fun c7 => ?_⟩, fun c6 => ?_⟩
      · have hl := best_lex hOk (by rw [hbest]; rfl) g3 (W := somV D.n D.M m by_) (fun i a hi ha => (chT_get ha (by have := hOk.n; omega) _).symm) D.h y x (Nat.le_refl _) (by rw [Nat.sub_self]; exact h5) (by rw [Nat.sub_self]; exact hbest) heq
        rw [Nat.sub_self] at hl
        rw [hl] at c7
        cases c7
      · simp only [decide_eq_false_iff_not] at c6
        exact absurd (by omega) c6
end Go.Eng
end

/- press: the reference checks plans. -/
section
namespace Go.Eng
open Go Go.RowKit Go.Proofs
set_option maxRecDepth 100000
set_option maxHeartbeats 4000000
attribute [local irreducible] OwnT DefS
def rs0 : RS := ⟨fun _ => 0, 0, 0, 0, 0⟩
structure CR where
  (e : Int) (hr : Nat) (s : RS)
def crStep (D : PD) (c : T3) (r : CR) : CR :=
  if r.e = 0 then (if (doR D r.s r.hr c).2 = 0 then ⟨0, r.hr + 1, (doR D r.s r.hr c).1⟩ else ⟨(doR D r.s r.hr c).2, r.hr, rs0⟩) else r
def crM (D : PD) (C : Nat → T3) : Nat → CR
  | 0 => ⟨0, 0, begS D⟩
  | k + 1 => crStep D (C k) (crM D C k)
theorem crM_hr {D : PD} {C : Nat → T3} : ∀ k, (crM D C k).e = 0 → (crM D C k).hr = k
  | 0, _ => rfl
  | k + 1, h => by
    simp only [crM, crStep] at h ⊢
    split at h
    · rename_i h0
      have ih := crM_hr k h0
      split at h
      · rename_i h1; rw [if_pos h0, if_pos h1, ih]
      · rename_i h1; exact absurd h h1
    · rename_i h0; exact absurd h h0
theorem crM_stop {D : PD} {C : Nat → T3} {k : Nat} (h : (crM D C k).e ≠ 0) : ∀ m, k ≤ m → crM D C m = crM D C k := by
  intro m hm
  induction m with
  | zero => obtain rfl : k = 0 := by omega
            rfl
  | succ m ih =>
    rcases Nat.lt_or_ge m k with h1 | h1
    · obtain rfl : k = m + 1 := by omega
      rfl
    · simp only [crM, crStep, ih h1, if_neg h]
theorem crM_ok {D : PD} (hD : D.Ok) {C : Nat → T3} : ∀ k, k ≤ D.h → (∀ i, i < k → chOk D (C i)) → (crM D C k).e = 0 → rsOkH D k (crM D C k).s
  | 0, _, _, _ => begS_ok hD
  | k + 1, hk, hc, h => by
    simp only [crM, crStep] at h ⊢
    split at h
    · rename_i h0
      have hh := crM_hr k h0
      have g := crM_ok hD k (by omega) (fun i hi => hc i (by omega)) h0
      split at h
      · rename_i h1
        rw [if_pos h0, if_pos h1]
        rw [hh] at h1 ⊢
        exact doR_ok hD (by omega) g (hc k (by omega)) h1
      · rename_i h1; exact absurd h h1
    · rename_i h0; exact absurd h h0
/-- The reference's hours are the program's. -/
theorem crM_pl {D : PD} (hD : D.Ok) (C : Nat → T3) : ∀ k, (crM D C k).e = (plM D C k).e ∧ (crM D C k).hr = (plM D C k).hr ∧ ((crM D C k).e = 0 → psOf D (crM D C k).s = (plM D C k).s ∧ (crM D C k).s.en = (plM D C k).en ∧ (crM D C k).s.st = (plM D C k).st)
  | 0 => ⟨rfl, rfl, fun _ => ⟨begS_ps hD, rfl, rfl⟩⟩
  | k + 1 => by
    obtain ⟨h1, h2, h3⟩ := crM_pl hD C k
    simp only [crM, crStep, plM, plStep]
    by_cases h0 : (crM D C k).e = 0
    · obtain ⟨g1, g2, g3⟩ := h3 h0
      obtain ⟨d1, d2⟩ := doR_hour hD (crM D C k).s (crM D C k).hr (C k)
      rw [g1, h2] at d1 d2
      rw [if_pos h0, if_pos (h1.symm.trans h0), h2]
      by_cases he : (doR D (crM D C k).s (plM D C k).hr (C k)).2 = 0
      · obtain ⟨d3, d4, d5⟩ := d2 he
        rw [if_pos he, if_pos (d1.symm.trans he)]
        exact ⟨rfl, rfl, fun _ => ⟨d3, by simp only [d4, g2], by simp only [d5, g3]⟩⟩
      · rw [if_neg he, if_neg (fun h => he (d1.trans h))]
        exact ⟨d1, rfl, fun h => absurd h he⟩
    · rw [if_neg h0, if_neg (fun h => h0 (h1.trans h))]
      exact ⟨h1, h2, fun h => absurd h h0⟩
theorem nsA_on (A : Nat → Nat → Int) (M : Nat → Nat) (V : Nat → Nat → Nat → Int) (i : Nat) : nsA (nestF 0 2 A M V) i 4 = A i 4 := nsA_lit _ (show 4 ≠ 0 by omega)
/-- What is told of it. -/
def crS (n : Nat) (r : CR) : SV := .tup [.agg [.row (if r.e = 0 then n else 0) 1 (fun i _ => .int .i64 (r.s.on i)), .int .i64 r.s.sto, .int .i64 r.s.en, .int .i64 r.s.st, .int .i64 0, .int .i64 r.s.pw], .int .i64 (r.hr : Int), .int .i64 r.e]
def checkSBase : BaseF := fun args => match args with
  | [.agg [.row n sz_A f_A, .row h sz_nd f_nd, .row q sz_pr f_pr, .int .i64 st, .int .i64 ro, .int .i64 pk, .int .i64 fr], .row m sz_B f_B] => some ((sz_A = 5 ∧ NestR n 5 0 2 f_A) ∧ (sz_nd = 1 ∧ IntR h 1 f_nd) ∧ (sz_pr = 1 ∧ IntR q 1 f_pr) ∧ (sz_B = 1 ∧ NestR m 1 0 1 f_B) ∧ (q = h ∧ PD.Ok ⟨n, (nsA f_A), (nsM 0 f_A), (nsV 0 f_A), h, (ivf f_nd), (ivf f_pr), st, ro, pk, fr⟩ ∧ m ≤ h ∧ formsB n (nsM 0 f_A) m (nsM 0 f_B) (nsV 0 f_B) = true), crS n (crM ⟨n, (nsA f_A), (nsM 0 f_A), (nsV 0 f_A), h, (ivf f_nd), (ivf f_pr), st, ro, pk, fr⟩ (fun i => chT n ((nsV 0 f_B) i)) m))
  | _ => none
theorem checkS_eq (n : Nat) (sz_A : Nat) (f_A : Nat → Nat → SV) (h : Nat) (sz_nd : Nat) (f_nd : Nat → Nat → SV) (q : Nat) (sz_pr : Nat) (f_pr : Nat → Nat → SV) (st : Int) (ro : Int) (pk : Int) (fr : Int) (m : Nat) (sz_B : Nat) (f_B : Nat → Nat → SV) : checkSBase [.agg [.row n sz_A f_A, .row h sz_nd f_nd, .row q sz_pr f_pr, .int .i64 st, .int .i64 ro, .int .i64 pk, .int .i64 fr], .row m sz_B f_B] = some ((sz_A = 5 ∧ NestR n 5 0 2 f_A) ∧ (sz_nd = 1 ∧ IntR h 1 f_nd) ∧ (sz_pr = 1 ∧ IntR q 1 f_pr) ∧ (sz_B = 1 ∧ NestR m 1 0 1 f_B) ∧ (q = h ∧ PD.Ok ⟨n, (nsA f_A), (nsM 0 f_A), (nsV 0 f_A), h, (ivf f_nd), (ivf f_pr), st, ro, pk, fr⟩ ∧ m ≤ h ∧ formsB n (nsM 0 f_A) m (nsM 0 f_B) (nsV 0 f_B) = true), crS n (crM ⟨n, (nsA f_A), (nsM 0 f_A), (nsV 0 f_A), h, (ivf f_nd), (ivf f_pr), st, ro, pk, fr⟩ (fun i => chT n ((nsV 0 f_B) i)) m)) := rfl
theorem checkS_base : NB Try.prog 46 checkSBase := by
  intro args p v hq hp
  unfold checkSBase at hq
  split at hq
  rotate_left
  · cases hq
  rename_i n sz_A f_A h sz_nd f_nd q sz_pr f_pr st ro pk fr m sz_B f_B
  cases hq
  obtain ⟨⟨rfl, i_A⟩, ⟨rfl, i_nd⟩, ⟨rfl, i_pr⟩, ⟨rfl, i_B⟩, pre⟩ := hp
  refine nb_of (C := cxn [] [(39, beginRBase), (61, doRefBase)] [] [] [(46, 5, p46_5)] none) (cxn_ok ⟨beginR_base, doRef_base, trivial⟩ trivial trivial) rfl (g := 46) (fn := Try.f46)
    (args' := [.agg [.row n 5 (nestF 0 2 (nsA f_A) (nsM 0 f_A) (nsV 0 f_A)), .row h 1 (rowF .i64 (ivf f_nd)), .row q 1 (rowF .i64 (ivf f_pr)), .int .i64 st, .int .i64 ro, .int .i64 pk, .int .i64 fr], .row m 1 (nestF 0 1 (nsA f_B) (nsM 0 f_B) (nsV 0 f_B))]) (fn_46) rfl 1000 (by
    simp only [BdL, Bd, and_self, and_true, true_and]
    exact ⟨⟨(fun i j hi hj => nest_bd i_A i j hi hj), (fun i j hi hj => by rw [i_nd i j hi hj]; trivial), (fun i j hi hj => by rw [i_pr i j hi hj]; trivial)⟩, (fun i j hi hj => nest_bd i_B i j hi hj)⟩) ⟨SameD.agg ⟨SameD.nest i_A, SameD.int i_nd, SameD.int i_pr, SameD.rfl' _, SameD.rfl' _, SameD.rfl' _, SameD.rfl' _, trivial⟩, SameD.nest i_B, trivial⟩ (by simp only [crS, Bd, BdL, and_true, implies_true]) ?_
  generalize nsA f_A = A at *
  generalize nsM 0 f_A = M at *
  generalize nsV 0 f_A = V at *
  generalize ivf f_nd = nd at *
  generalize ivf f_pr = pr at *
  generalize nsA f_B = B at *
  generalize nsM 0 f_B = K at *
  generalize nsV 0 f_B = W at *
  simp only [rowF_eq]
  simp only [beginR_eq, doRef_eq, p46_5, rsS, nsA_on, doR_ns, Ok_ns, Int.toNat_natCast, nestF_eq, nestR_lit, nsM_lit, nsV_lit, Try.f46, go_sem, ↓reduceIte, Nat.reduceAdd, Nat.reduceSub, Nat.reduceMul, Nat.reduceEqDiff, Nat.reduceLT, Nat.reduceLeDiff, Int.reduceToNat, Int.reduceLE, Int.reduceLT, Int.reduceEq, Int.reduceNeg, reduceCtorEq]
  obtain ⟨rfl, hOk, hmh, hf⟩ := pre
  generalize hD : (⟨n, A, M, V, q, nd, pr, st, ro, pk, fr⟩ : PD) = D at hOk ⊢
  have d0 : n = D.n := by rw [← hD]
  have d1 : A = D.A := by rw [← hD]
  have d2 : M = D.M := by rw [← hD]
  have d3 : V = D.V := by rw [← hD]
  have d4 : q = D.h := by rw [← hD]
  have d5 : nd = D.nd := by rw [← hD]
  have d6 : pr = D.pr := by rw [← hD]
  have d7 : st = D.st := by rw [← hD]
  have d8 : ro = D.ro := by rw [← hD]
  have d9 : pk = D.pk := by rw [← hD]
  have d10 : fr = D.fr := by rw [← hD]
  clear hD
  subst d0 d1 d2 d3 d4 d5 d6 d7 d8 d9 d10
  have hn := hOk.n
  have hh := hOk.h
  refine ⟨by omega, ?_⟩
  have hfi : ∀ i, i < m → K i = D.n ∧ ∀ a, a < D.n → 0 ≤ W i a 0 ∧ W i a 0 ≤ D.M a := fun i hi => by
    have := allU_iff.1 hf i hi
    simp only [formB, Bool.and_eq_true, decide_eq_true_eq, allU_iff, in3_iff] at this
    obtain ⟨g1, g2⟩ := this
    exact ⟨by omega, fun a ha => g2 a (by omega)⟩
  have hch : ∀ i, i < m → chOk D (chT D.n (W i)) := fun i hi => (chT_chZ hOk (hfi i hi).2).1
  refine loop_of { k : Nat // k ≤ m ∧ (crM D (fun i => chT D.n (W i)) k).e = 0 } (fun k => [(8, .int .i64 (k.1 : Int)), (7, .ptr 2 0), (4, .ptr 1 0), (2, .ptr 0 0), (1, .row m 1 (nestF 0 1 B K W))])
    (fun k => ⟨[.live 25 (prC D), .live 85 [.vec 0 0, .int .i64 0, .int .i64 0, .int .i64 0, .int .i64 0, .int .i64 0], .live 85 [.row D.n 1 (fun i _ => .int .i64 ((crM D (fun i => chT D.n (W i)) k.1).s.on i)), .int .i64 (crM D (fun i => chT D.n (W i)) k.1).s.sto, .int .i64 (crM D (fun i => chT D.n (W i)) k.1).s.en, .int .i64 (crM D (fun i => chT D.n (W i)) k.1).s.st, .int .i64 0, .int .i64 (crM D (fun i => chT D.n (W i)) k.1).s.pw]], [.live 0 3 1 0 fun _ _ => .any, .live 0 3 1 0 fun _ _ => .any]⟩) (fun k => m - k.1) (fun _ => ⟨rfl, rfl⟩) ⟨0, by omega, rfl⟩ (by simp only [prC, crM, begS]; (apply sub_of <;> simp only [go_sem, ↓reduceIte, Nat.reduceAdd, Nat.reduceSub, Nat.reduceMul, Nat.reduceEqDiff, Nat.reduceLT, Nat.reduceLeDiff, Int.reduceToNat, Int.reduceLE, Int.reduceLT, Int.reduceEq, Int.reduceNeg, reduceCtorEq] <;> (try simp [catF])); all_goals (repeat' first | assumption | exact nestF_bd _ _ _ _ _ _ _ _ _ | exact nestF_bd1 _ _ _ _ _ _ _ _ _ | exact fun _ _ => nestF_bd1 _ _ _ _ _ _ _ _ _ | exact fun _ _ _ _ => nestF_bd1 _ _ _ _ _ _ _ _ _ | exact fun x hx => catF_one _ hx | refine And.intro ?_ ?_)) ?_
  rintro ⟨k, hk, hk0⟩
  simp only [prC, beginR_eq, doRef_eq, p46_5, rsS, nsA_on, doR_ns, Ok_ns, Int.toNat_natCast, nestF_eq, nestR_lit, nsM_lit, nsV_lit, Try.f46, go_sem, ↓reduceIte, Nat.reduceAdd, Nat.reduceSub, Nat.reduceMul, Nat.reduceEqDiff, Nat.reduceLT, Nat.reduceLeDiff, Int.reduceToNat, Int.reduceLE, Int.reduceLT, Int.reduceEq, Int.reduceNeg, reduceCtorEq]
  have hw3 : IntKind.i64.wrap ((k : Int) + 1) = ((k + 1 : Nat) : Int) := by rw [wrap_id (by omega) (by omega)]; omega
  refine ⟨fun e1 => ?_, fun e1 => ?_⟩
  all_goals simp only [decide_eq_true_eq, decide_eq_false_iff_not] at e1
  · obtain ⟨hK, hKw⟩ := hfi k (by omega)
    have hkr := crM_hr k hk0
    have hok := crM_ok hOk k (by omega) (fun i hi => hch i (by omega)) hk0
    have hstep : crM D (fun i => chT D.n (W i)) (k + 1) = crStep D (chT D.n (W k)) (crM D (fun i => chT D.n (W i)) k) := rfl
    have hstop := crM_stop (D := D) (C := fun i => chT D.n (W i)) (k := k + 1)
    rw [hK]
    have hR : doR ⟨D.n, D.A, D.M, D.V, D.h, D.nd, D.pr, D.st, D.ro, D.pk, D.fr⟩ ⟨fun i => (crM D (fun i => chT D.n (W i)) k).s.on i, (crM D (fun i => chT D.n (W i)) k).s.sto, (crM D (fun i => chT D.n (W i)) k).s.en, (crM D (fun i => chT D.n (W i)) k).s.st, (crM D (fun i => chT D.n (W i)) k).s.pw⟩ k (chT D.n (W k)) = doR D (crM D (fun i => chT D.n (W i)) k).s k (chT D.n (W k)) := rfl
    simp only [hR]
    unfold crStep at hstep
    rw [if_pos hk0, hkr] at hstep
    generalize doR D (crM D (fun i => chT D.n (W i)) k).s k (chT D.n (W k)) = R at hstep
    have hok2 := rsOkH_ok hOk (by omega) hok
    refine ⟨⟨by kernel_rfl, by kernel_rfl⟩, ⟨by omega, by omega⟩, ⟨hOk, trivial, hKw, hok2, by omega, by omega⟩, ⟨⟨by omega, by omega⟩, hOk, trivial, hKw, hok2, by omega, by omega⟩, fun e2 => ?_, fun e2 => ?_⟩
    all_goals simp only [Bool.not_eq_true', Bool.not_eq_false', decide_eq_true_eq, decide_eq_false_iff_not] at e2
    · rw [if_neg e2] at hstep
      rw [hstop (by rw [hstep]; exact e2) m (by omega), hstep]
      refine ⟨fun _ _ _ _ => trivial, ?_⟩
      simp only [crS, if_neg e2, rs0]
      apply SameD.tup
      exact ⟨SameD.agg ⟨SameD.row0, SameD.rfl' _, SameD.rfl' _, SameD.rfl' _, SameD.rfl' _, SameD.rfl' _, trivial⟩, SameD.rfl' _, SameD.rfl' _, trivial⟩
    · rw [if_pos e2] at hstep
      refine ⟨⟨k + 1, by omega, by rw [hstep]⟩, by simp only []; omega, ?_⟩
      apply sub_of <;> simp only [hw3, hstep, go_sem, ↓reduceIte, Nat.reduceAdd, Nat.reduceSub, Nat.reduceMul, Nat.reduceEqDiff, Nat.reduceLT, Nat.reduceLeDiff, Int.reduceToNat, Int.reduceLE, Int.reduceLT, Int.reduceEq, Int.reduceNeg, reduceCtorEq] <;> (try simp)
      all_goals (repeat' first | assumption | exact nestF_bd _ _ _ _ _ _ _ _ _ | exact nestF_bd1 _ _ _ _ _ _ _ _ _ | exact fun _ _ => nestF_bd1 _ _ _ _ _ _ _ _ _ | exact fun _ _ _ _ => nestF_bd1 _ _ _ _ _ _ _ _ _ | exact fun x hx => catF_one _ hx | refine And.intro ?_ ?_)
  · obtain rfl : k = m := by omega
    have hkr := crM_hr k hk0
    generalize crM D (fun i => chT D.n (W i)) k = r at hk0 hkr
    simp only [crS, hk0, hkr, if_true]
    exact ⟨fun _ _ _ _ => trivial, SameD.rfl' _⟩
end Go.Eng
end

/- press: the reference checks plans: what it tells. -/
section
namespace Go.Eng
open Go Go.RowKit Go.Proofs
set_option maxRecDepth 100000
set_option maxHeartbeats 4000000
attribute [local irreducible] OwnT DefS
theorem forms_rd {n : Nat} {M : Nat → Nat} {m : Nat} {K : Nat → Nat} {W : Nat → Nat → Nat → Int} : formsB n M m K W = rdB n M m K W := rfl
theorem begS_ns {n : Nat} {A : Nat → Nat → Int} {M : Nat → Nat} {V : Nat → Nat → Nat → Int} {h : Nat} {nd pr : Nat → Nat → Int} {st ro pk fr : Int} : begS ⟨n, nsA (nestF 0 2 A M V), M, V, h, nd, pr, st, ro, pk, fr⟩ = begS ⟨n, A, M, V, h, nd, pr, st, ro, pk, fr⟩ := by
  simp only [begS, nsA_on]
theorem crM_ns {n : Nat} {A : Nat → Nat → Int} {M : Nat → Nat} {V : Nat → Nat → Nat → Int} {h : Nat} {nd pr : Nat → Nat → Int} {st ro pk fr : Int} (C : Nat → T3) : ∀ k, crM ⟨n, nsA (nestF 0 2 A M V), M, V, h, nd, pr, st, ro, pk, fr⟩ C k = crM ⟨n, A, M, V, h, nd, pr, st, ro, pk, fr⟩ C k
  | 0 => by simp only [crM, begS_ns]
  | k + 1 => by simp only [crM, crStep, crM_ns C k, doR_ns]
def checkRBase : BaseF := fun args => match args with
  | [.agg [.row n sz_A f_A, .row h sz_nd f_nd, .row q sz_pr f_pr, .int .i64 st, .int .i64 ro, .int .i64 pk, .int .i64 fr], .row m sz_B f_B] => some ((sz_A = 5 ∧ NestR n 5 0 2 f_A) ∧ (sz_nd = 1 ∧ IntR h 1 f_nd) ∧ (sz_pr = 1 ∧ IntR q 1 f_pr) ∧ (sz_B = 1 ∧ NestR m 1 0 1 f_B) ∧ (((n ≤ 1000000 ∧ ∀ i, i < n → (nsM 0 f_A) i ≤ 1000000) ∧ h ≤ 1000000 ∧ q ≤ 1000000) ∧ m ≤ 1000000 ∧ ∀ i, i < m → (nsM 0 f_B) i ≤ 1000000), .tup [.agg [.int .i64 (ckR ⟨n, (nsA f_A), (nsM 0 f_A), (nsV 0 f_A), h, (ivf f_nd), (ivf f_pr), st, ro, pk, fr⟩ (psB n (nsA f_A) (nsM 0 f_A) (nsV 0 f_A) h (ivf f_nd) q (ivf f_pr) st ro pk fr) m (nsM 0 f_B) (nsV 0 f_B)).en, .int .i64 (ckR ⟨n, (nsA f_A), (nsM 0 f_A), (nsV 0 f_A), h, (ivf f_nd), (ivf f_pr), st, ro, pk, fr⟩ (psB n (nsA f_A) (nsM 0 f_A) (nsV 0 f_A) h (ivf f_nd) q (ivf f_pr) st ro pk fr) m (nsM 0 f_B) (nsV 0 f_B)).st, .int .i64 ((ckR ⟨n, (nsA f_A), (nsM 0 f_A), (nsV 0 f_A), h, (ivf f_nd), (ivf f_pr), st, ro, pk, fr⟩ (psB n (nsA f_A) (nsM 0 f_A) (nsV 0 f_A) h (ivf f_nd) q (ivf f_pr) st ro pk fr) m (nsM 0 f_B) (nsV 0 f_B)).s.pk * pk)], .int .i64 ((ckR ⟨n, (nsA f_A), (nsM 0 f_A), (nsV 0 f_A), h, (ivf f_nd), (ivf f_pr), st, ro, pk, fr⟩ (psB n (nsA f_A) (nsM 0 f_A) (nsV 0 f_A) h (ivf f_nd) q (ivf f_pr) st ro pk fr) m (nsM 0 f_B) (nsV 0 f_B)).hr : Int), .int .i64 (ckR ⟨n, (nsA f_A), (nsM 0 f_A), (nsV 0 f_A), h, (ivf f_nd), (ivf f_pr), st, ro, pk, fr⟩ (psB n (nsA f_A) (nsM 0 f_A) (nsV 0 f_A) h (ivf f_nd) q (ivf f_pr) st ro pk fr) m (nsM 0 f_B) (nsV 0 f_B)).e])
  | _ => none
theorem checkR_eq (n : Nat) (sz_A : Nat) (f_A : Nat → Nat → SV) (h : Nat) (sz_nd : Nat) (f_nd : Nat → Nat → SV) (q : Nat) (sz_pr : Nat) (f_pr : Nat → Nat → SV) (st : Int) (ro : Int) (pk : Int) (fr : Int) (m : Nat) (sz_B : Nat) (f_B : Nat → Nat → SV) : checkRBase [.agg [.row n sz_A f_A, .row h sz_nd f_nd, .row q sz_pr f_pr, .int .i64 st, .int .i64 ro, .int .i64 pk, .int .i64 fr], .row m sz_B f_B] = some ((sz_A = 5 ∧ NestR n 5 0 2 f_A) ∧ (sz_nd = 1 ∧ IntR h 1 f_nd) ∧ (sz_pr = 1 ∧ IntR q 1 f_pr) ∧ (sz_B = 1 ∧ NestR m 1 0 1 f_B) ∧ (((n ≤ 1000000 ∧ ∀ i, i < n → (nsM 0 f_A) i ≤ 1000000) ∧ h ≤ 1000000 ∧ q ≤ 1000000) ∧ m ≤ 1000000 ∧ ∀ i, i < m → (nsM 0 f_B) i ≤ 1000000), .tup [.agg [.int .i64 (ckR ⟨n, (nsA f_A), (nsM 0 f_A), (nsV 0 f_A), h, (ivf f_nd), (ivf f_pr), st, ro, pk, fr⟩ (psB n (nsA f_A) (nsM 0 f_A) (nsV 0 f_A) h (ivf f_nd) q (ivf f_pr) st ro pk fr) m (nsM 0 f_B) (nsV 0 f_B)).en, .int .i64 (ckR ⟨n, (nsA f_A), (nsM 0 f_A), (nsV 0 f_A), h, (ivf f_nd), (ivf f_pr), st, ro, pk, fr⟩ (psB n (nsA f_A) (nsM 0 f_A) (nsV 0 f_A) h (ivf f_nd) q (ivf f_pr) st ro pk fr) m (nsM 0 f_B) (nsV 0 f_B)).st, .int .i64 ((ckR ⟨n, (nsA f_A), (nsM 0 f_A), (nsV 0 f_A), h, (ivf f_nd), (ivf f_pr), st, ro, pk, fr⟩ (psB n (nsA f_A) (nsM 0 f_A) (nsV 0 f_A) h (ivf f_nd) q (ivf f_pr) st ro pk fr) m (nsM 0 f_B) (nsV 0 f_B)).s.pk * pk)], .int .i64 ((ckR ⟨n, (nsA f_A), (nsM 0 f_A), (nsV 0 f_A), h, (ivf f_nd), (ivf f_pr), st, ro, pk, fr⟩ (psB n (nsA f_A) (nsM 0 f_A) (nsV 0 f_A) h (ivf f_nd) q (ivf f_pr) st ro pk fr) m (nsM 0 f_B) (nsV 0 f_B)).hr : Int), .int .i64 (ckR ⟨n, (nsA f_A), (nsM 0 f_A), (nsV 0 f_A), h, (ivf f_nd), (ivf f_pr), st, ro, pk, fr⟩ (psB n (nsA f_A) (nsM 0 f_A) (nsV 0 f_A) h (ivf f_nd) q (ivf f_pr) st ro pk fr) m (nsM 0 f_B) (nsV 0 f_B)).e]) := rfl
theorem checkR_base : Base Try.prog 23 checkRBase := by
  intro args p v hq hp
  unfold checkRBase at hq
  split at hq
  rotate_left
  · cases hq
  rename_i n sz_A f_A h sz_nd f_nd q sz_pr f_pr st ro pk fr m sz_B f_B
  cases hq
  obtain ⟨⟨rfl, i_A⟩, ⟨rfl, i_nd⟩, ⟨rfl, i_pr⟩, ⟨rfl, i_B⟩, pre⟩ := hp
  refine base_of (C := cxn [] [(46, checkSBase)] [] [(17, pressesBase), (21, formsBase), (47, costRBase)] [] none) (cxn_ok ⟨checkS_base, trivial⟩ trivial ⟨presses_base, forms_base, costR_base, trivial⟩) rfl (g := 23) (fn := Try.f23)
    (args' := [.agg [.row n 5 (nestF 0 2 (nsA f_A) (nsM 0 f_A) (nsV 0 f_A)), .row h 1 (rowF .i64 (ivf f_nd)), .row q 1 (rowF .i64 (ivf f_pr)), .int .i64 st, .int .i64 ro, .int .i64 pk, .int .i64 fr], .row m 1 (nestF 0 1 (nsA f_B) (nsM 0 f_B) (nsV 0 f_B))]) (fn_23) rfl 1000 (by
    simp only [BdL, Bd, and_self, and_true, true_and]
    exact ⟨⟨(fun i j hi hj => nest_bd i_A i j hi hj), (fun i j hi hj => by rw [i_nd i j hi hj]; trivial), (fun i j hi hj => by rw [i_pr i j hi hj]; trivial)⟩, (fun i j hi hj => nest_bd i_B i j hi hj)⟩) ⟨SameD.agg ⟨SameD.nest i_A, SameD.int i_nd, SameD.int i_pr, SameD.rfl' _, SameD.rfl' _, SameD.rfl' _, SameD.rfl' _, trivial⟩, SameD.nest i_B, trivial⟩ ?_
  generalize nsA f_A = A at *
  generalize nsM 0 f_A = M at *
  generalize nsV 0 f_A = V at *
  generalize ivf f_nd = nd at *
  generalize ivf f_pr = pr at *
  generalize nsA f_B = B at *
  generalize nsM 0 f_B = K at *
  generalize nsV 0 f_B = W at *
  simp only [rowF_eq]
  simp only [presses_eq, forms_eq, costR_eq, checkS_eq, crS, Ok_ns, psB_ns, crM_ns, nestF_eq, nestR_lit, nsM_lit, nsV_lit, Try.f23, go_sem, ↓reduceIte, Nat.reduceAdd, Nat.reduceSub, Nat.reduceMul, Nat.reduceEqDiff, Nat.reduceLT, Nat.reduceLeDiff, Int.reduceToNat, Int.reduceLE, Int.reduceLT, Int.reduceEq, Int.reduceNeg, reduceCtorEq]
  obtain ⟨pre, pm, pK⟩ := pre
  generalize hb : psB n A M V h nd q pr st ro pk fr = b
  refine ⟨pre, fun c1 => ?_, fun c1 => ?_⟩
  · obtain rfl : b = false := by simpa using c1
    simp only [ckR, Bool.false_eq_true, if_false, plBad, Int.zero_mul]
    rfl
  obtain rfl : b = true := by simpa using c1
  obtain ⟨rfl, hOk⟩ := psB_iff.1 hb
  generalize hD : (⟨n, A, M, V, q, nd, pr, st, ro, pk, fr⟩ : PD) = D at hOk ⊢
  have d0 : n = D.n := by rw [← hD]
  have d1 : A = D.A := by rw [← hD]
  have d2 : M = D.M := by rw [← hD]
  have d3 : V = D.V := by rw [← hD]
  have d4 : q = D.h := by rw [← hD]
  have d5 : nd = D.nd := by rw [← hD]
  have d6 : pr = D.pr := by rw [← hD]
  have d7 : st = D.st := by rw [← hD]
  have d8 : ro = D.ro := by rw [← hD]
  have d9 : pk = D.pk := by rw [← hD]
  have d10 : fr = D.fr := by rw [← hD]
  clear hD
  subst d0 d1 d2 d3 d4 d5 d6 d7 d8 d9 d10
  have bad : ¬((rdB D.n D.M m K W && decide ((m : Int) = (D.h : Int))) = true) → SV.tup [.agg [.int .i64 0, .int .i64 0, .int .i64 0], .int .i64 0, .int .i64 2] = .tup [.agg [.int .i64 (ckR D true m K W).en, .int .i64 (ckR D true m K W).st, .int .i64 ((ckR D true m K W).s.pk * D.pk)], .int .i64 ((ckR D true m K W).hr : Int), .int .i64 (ckR D true m K W).e] := fun h => by
    have : ckR D true m K W = plBad 2 := by simp only [ckR, if_neg h, if_true]
    rw [this]
    simp only [plBad, Int.zero_mul]
    rfl
  refine ⟨fun c2 => bad (by simp only [Bool.not_eq_true', decide_eq_false_iff_not] at c2; simp [c2]), fun c2 => ⟨⟨pm, pK⟩, fun c3 => bad (by simp only [Bool.not_eq_true', forms_rd] at c3; simp [c3]), fun c3 => ?_⟩⟩
  simp only [Bool.not_eq_false', decide_eq_true_eq] at c2 c3
  obtain rfl : m = D.h := by omega
  have hck : ckR D true D.h K W = plM D (fun i => chT D.n (W i)) D.h := by simp only [ckR, ← forms_rd, c3, decide_true, Bool.and_true, if_true]
  rw [hck]
  have hcr := crM_pl hOk (fun i => chT D.n (W i)) D.h
  have hbad := plM_bad (D := D) (C := fun i => chT D.n (W i)) D.h
  have hch : ∀ i, i < D.h → chOk D (chT D.n (W i)) := fun i hi => chT_ok hOk (forms_rd ▸ c3) hi
  have hok := crM_ok hOk (C := fun i => chT D.n (W i)) D.h (Nat.le_refl _) hch
  generalize plM D (fun i => chT D.n (W i)) D.h = r at hbad hcr
  generalize crM D (fun i => chT D.n (W i)) D.h = t at hcr hok
  obtain ⟨g1, g2, g3⟩ := hcr
  refine ⟨⟨rfl, hOk, Nat.le_refl _, c3⟩, fun c4 => ?_, fun c4 => ?_⟩
  all_goals simp only [Bool.not_eq_true', Bool.not_eq_false', decide_eq_true_eq, decide_eq_false_iff_not] at c4
  · obtain ⟨b1, b2, b3⟩ := hbad (fun h => c4 (g1.trans h))
    rw [b1, b2, b3, g1, g2, Int.zero_mul]
  · obtain ⟨g4, g5, g6⟩ := g3 c4
    have h3 := (hok c4).1.2.2
    refine ⟨⟨h3, hOk.fr, hOk.pk⟩, ?_⟩
    rw [← g1, c4, g2, ← g5, ← g6, ← g4]
    rfl
end Go.Eng
end

/- press: what is left behind some hours. -/
section
namespace Go.Eng
open Go Go.RowKit Go.Proofs
set_option maxRecDepth 100000
set_option maxHeartbeats 4000000
attribute [local irreducible] OwnT DefS
def bhE (D : PD) (b : Bool) (m : Nat) (K : Nat → Nat) (W : Nat → Nat → Nat → Int) : Int :=
  if b then (if m ≤ D.h ∧ rdB D.n D.M m K W = true then (plM D (fun i => chT D.n (W i)) m).e else 2) else 1
def bhP (D : PD) (m : Nat) (s : PS) : PD :=
  { D with A := fun i j => if j = 4 then s.on.get i else D.A i j, h := D.h - m, nd := fun i j => D.nd (m + i) j, pr := fun i j => D.pr (m + i) j, st := s.sto }
def pd0 : PD := ⟨0, fun _ _ => 0, fun _ => 0, fun _ _ _ => 0, 0, fun _ _ => 0, fun _ _ => 0, 0, 0, 0, 0⟩
def bhX (D : PD) (b : Bool) (m : Nat) (K : Nat → Nat) (W : Nat → Nat → Nat → Int) : PD :=
  if bhE D b m K W = 0 then bhP D m (plM D (fun i => chT D.n (W i)) m).s else pd0
theorem catF_nil (F G : Nat → Nat → SV) : catF 0 F G = G := by
  funext i j; simp only [catF, Nat.not_lt_zero, if_false, Nat.sub_zero]
/-- The compressors, of which the first k have run as is told. -/
def bhA (A : Nat → Nat → Int) (on : Nat → Int) (k : Nat) : Nat → Nat → Int := fun i j => if j = 4 ∧ i < k then on i else A i j
theorem bhA_0 (A : Nat → Nat → Int) (on : Nat → Int) : bhA A on 0 = A := by
  funext i j; simp only [bhA, Nat.not_lt_zero, and_false, if_false]
theorem bhA_next {A : Nat → Nat → Int} {M : Nat → Nat} {V : Nat → Nat → Nat → Int} {on : Nat → Int} {k n : Nat} (i j : Nat) (_ : i < n) (hj : j < 5) : (if i = k ∧ 4 ≤ j ∧ j < 5 then nth [.int .i64 (on k)] (j - 4) else nestF 0 2 (bhA A on k) M V i j) = nestF 0 2 (bhA A on (k + 1)) M V i j := by
  by_cases h4 : j = 4
  · subst h4
    by_cases hi : i = k
    · subst hi
      rw [if_pos ⟨rfl, by omega, by omega⟩]
      simp only [nth, nestF, bhA, Nat.lt_succ_self, and_self, if_true]
      rfl
    · rw [if_neg (fun h => hi h.1)]
      have : bhA A on k i 4 = bhA A on (k + 1) i 4 := by
        simp only [bhA, true_and]
        by_cases hk : i < k
        · rw [if_pos hk, if_pos (by omega)]
        · rw [if_neg hk, if_neg (by omega)]
      simp only [nestF, this]
  · rw [if_neg (fun h => h4 (by omega))]
    simp only [nestF, bhA, h4, false_and, if_false]
def behindRBase : BaseF := fun args => match args with
  | [.agg [.row n sz_A f_A, .row h sz_nd f_nd, .row q sz_pr f_pr, .int .i64 st, .int .i64 ro, .int .i64 pk, .int .i64 fr], .row m sz_B f_B] => some ((sz_A = 5 ∧ NestR n 5 0 2 f_A) ∧ (sz_nd = 1 ∧ IntR h 1 f_nd) ∧ (sz_pr = 1 ∧ IntR q 1 f_pr) ∧ (sz_B = 1 ∧ NestR m 1 0 1 f_B) ∧ (((n ≤ 1000000 ∧ ∀ i, i < n → (nsM 0 f_A) i ≤ 1000000) ∧ h ≤ 1000000 ∧ q ≤ 1000000) ∧ m ≤ 1000000 ∧ ∀ i, i < m → (nsM 0 f_B) i ≤ 1000000), .tup [.agg (prC (bhX ⟨n, (nsA f_A), (nsM 0 f_A), (nsV 0 f_A), h, (ivf f_nd), (ivf f_pr), st, ro, pk, fr⟩ (psB n (nsA f_A) (nsM 0 f_A) (nsV 0 f_A) h (ivf f_nd) q (ivf f_pr) st ro pk fr) m (nsM 0 f_B) (nsV 0 f_B))), .int .i64 (bhE ⟨n, (nsA f_A), (nsM 0 f_A), (nsV 0 f_A), h, (ivf f_nd), (ivf f_pr), st, ro, pk, fr⟩ (psB n (nsA f_A) (nsM 0 f_A) (nsV 0 f_A) h (ivf f_nd) q (ivf f_pr) st ro pk fr) m (nsM 0 f_B) (nsV 0 f_B))])
  | _ => none
theorem behindR_eq (n : Nat) (sz_A : Nat) (f_A : Nat → Nat → SV) (h : Nat) (sz_nd : Nat) (f_nd : Nat → Nat → SV) (q : Nat) (sz_pr : Nat) (f_pr : Nat → Nat → SV) (st : Int) (ro : Int) (pk : Int) (fr : Int) (m : Nat) (sz_B : Nat) (f_B : Nat → Nat → SV) : behindRBase [.agg [.row n sz_A f_A, .row h sz_nd f_nd, .row q sz_pr f_pr, .int .i64 st, .int .i64 ro, .int .i64 pk, .int .i64 fr], .row m sz_B f_B] = some ((sz_A = 5 ∧ NestR n 5 0 2 f_A) ∧ (sz_nd = 1 ∧ IntR h 1 f_nd) ∧ (sz_pr = 1 ∧ IntR q 1 f_pr) ∧ (sz_B = 1 ∧ NestR m 1 0 1 f_B) ∧ (((n ≤ 1000000 ∧ ∀ i, i < n → (nsM 0 f_A) i ≤ 1000000) ∧ h ≤ 1000000 ∧ q ≤ 1000000) ∧ m ≤ 1000000 ∧ ∀ i, i < m → (nsM 0 f_B) i ≤ 1000000), .tup [.agg (prC (bhX ⟨n, (nsA f_A), (nsM 0 f_A), (nsV 0 f_A), h, (ivf f_nd), (ivf f_pr), st, ro, pk, fr⟩ (psB n (nsA f_A) (nsM 0 f_A) (nsV 0 f_A) h (ivf f_nd) q (ivf f_pr) st ro pk fr) m (nsM 0 f_B) (nsV 0 f_B))), .int .i64 (bhE ⟨n, (nsA f_A), (nsM 0 f_A), (nsV 0 f_A), h, (ivf f_nd), (ivf f_pr), st, ro, pk, fr⟩ (psB n (nsA f_A) (nsM 0 f_A) (nsV 0 f_A) h (ivf f_nd) q (ivf f_pr) st ro pk fr) m (nsM 0 f_B) (nsV 0 f_B))]) := rfl
theorem behindR_base : NB Try.prog 25 behindRBase := by
  intro args p v hq hp
  unfold behindRBase at hq
  split at hq
  rotate_left
  · cases hq
  rename_i n sz_A f_A h sz_nd f_nd q sz_pr f_pr st ro pk fr m sz_B f_B
  cases hq
  obtain ⟨⟨rfl, i_A⟩, ⟨rfl, i_nd⟩, ⟨rfl, i_pr⟩, ⟨rfl, i_B⟩, pre⟩ := hp
  refine nb_of (C := cxn [] [(46, checkSBase)] [] [(17, pressesBase), (21, formsBase)] [(25, 13, p25_13)] none) (cxn_ok ⟨checkS_base, trivial⟩ trivial ⟨presses_base, forms_base, trivial⟩) rfl (g := 25) (fn := Try.f25)
    (args' := [.agg [.row n 5 (nestF 0 2 (nsA f_A) (nsM 0 f_A) (nsV 0 f_A)), .row h 1 (rowF .i64 (ivf f_nd)), .row q 1 (rowF .i64 (ivf f_pr)), .int .i64 st, .int .i64 ro, .int .i64 pk, .int .i64 fr], .row m 1 (nestF 0 1 (nsA f_B) (nsM 0 f_B) (nsV 0 f_B))]) (fn_25) rfl 1000 (by
    simp only [BdL, Bd, and_self, and_true, true_and]
    exact ⟨⟨(fun i j hi hj => nest_bd i_A i j hi hj), (fun i j hi hj => by rw [i_nd i j hi hj]; trivial), (fun i j hi hj => by rw [i_pr i j hi hj]; trivial)⟩, (fun i j hi hj => nest_bd i_B i j hi hj)⟩) ⟨SameD.agg ⟨SameD.nest i_A, SameD.int i_nd, SameD.int i_pr, SameD.rfl' _, SameD.rfl' _, SameD.rfl' _, SameD.rfl' _, trivial⟩, SameD.nest i_B, trivial⟩ (by simp only [Bd, BdL, and_true]; exact prC_bd _ _ _) ?_
  generalize nsA f_A = A at *
  generalize nsM 0 f_A = M at *
  generalize nsV 0 f_A = V at *
  generalize ivf f_nd = nd at *
  generalize ivf f_pr = pr at *
  generalize nsA f_B = B at *
  generalize nsM 0 f_B = K at *
  generalize nsV 0 f_B = W at *
  simp only [rowF_eq]
  simp only [presses_eq, forms_eq, checkS_eq, p25_13, catF_nil, crS, Ok_ns, psB_ns, crM_ns, nestF_eq, nestR_lit, nsM_lit, nsV_lit, Try.f25, go_sem, ↓reduceIte, Nat.reduceAdd, Nat.reduceSub, Nat.reduceMul, Nat.reduceEqDiff, Nat.reduceLT, Nat.reduceLeDiff, Int.reduceToNat, Int.reduceLE, Int.reduceLT, Int.reduceEq, Int.reduceNeg, reduceCtorEq]
  obtain ⟨pre, pm, pK⟩ := pre
  generalize hb : psB n A M V h nd q pr st ro pk fr = b
  have bad : ∀ {D : PD} {m : Nat} {K : Nat → Nat} {W : Nat → Nat → Nat → Int} {e : Int}, e ≠ 0 → bhE D b m K W = e → SameD (.tup [.agg [.row 0 5 fun _ _ => .any, .row 0 1 fun _ _ => .any, .row 0 1 fun _ _ => .any, .int .i64 0, .int .i64 0, .int .i64 0, .int .i64 0], .int .i64 e]) (.tup [.agg (prC (bhX D b m K W)), .int .i64 (bhE D b m K W)]) := fun h0 h => by
    rw [bhX, h, if_neg h0]
    apply SameD.tup
    exact ⟨SameD.agg ⟨SameD.row0, SameD.row0, SameD.row0, SameD.rfl' _, SameD.rfl' _, SameD.rfl' _, SameD.rfl' _, trivial⟩, SameD.rfl' _, trivial⟩
  refine ⟨pre, fun c1 => ?_, fun c1 => ?_⟩
  · obtain rfl : b = false := by simpa using c1
    exact ⟨⟨fun _ _ _ _ => trivial, fun _ _ _ _ => trivial⟩, bad (by decide) rfl⟩
  obtain rfl : b = true := by simpa using c1
  obtain ⟨rfl, hOk⟩ := psB_iff.1 hb
  generalize hD : (⟨n, A, M, V, q, nd, pr, st, ro, pk, fr⟩ : PD) = D at hOk ⊢
  have d0 : n = D.n := by rw [← hD]
  have d1 : A = D.A := by rw [← hD]
  have d2 : M = D.M := by rw [← hD]
  have d3 : V = D.V := by rw [← hD]
  have d4 : q = D.h := by rw [← hD]
  have d5 : nd = D.nd := by rw [← hD]
  have d6 : pr = D.pr := by rw [← hD]
  have d7 : st = D.st := by rw [← hD]
  have d8 : ro = D.ro := by rw [← hD]
  have d9 : pk = D.pk := by rw [← hD]
  have d10 : fr = D.fr := by rw [← hD]
  clear hD
  subst d0 d1 d2 d3 d4 d5 d6 d7 d8 d9 d10
  have hn := hOk.n
  have hh := hOk.h
  refine ⟨fun c2 => ?_, fun c2 => ⟨⟨pm, pK⟩, fun c3 => ?_, fun c3 => ?_⟩⟩
  · exact ⟨⟨fun _ _ _ _ => trivial, fun _ _ _ _ => trivial⟩, bad (by decide) (by simp only [decide_eq_true_eq] at c2; simp only [bhE, if_true]; rw [if_neg (by omega)])⟩
  · exact ⟨⟨fun _ _ _ _ => trivial, fun _ _ _ _ => trivial⟩, bad (by decide) (by simp only [Bool.not_eq_true', forms_rd] at c3; simp only [bhE, if_true, c3]; simp)⟩
  simp only [Bool.not_eq_false', decide_eq_false_iff_not] at c2 c3
  have hmh : m ≤ D.h := by omega
  have hch : ∀ i, i < m → chOk D (chT D.n (W i)) := fun i hi => chT_ok hOk (forms_rd ▸ c3) hi
  have hE : bhE D true m K W = (plM D (fun i => chT D.n (W i)) m).e := by simp only [bhE, if_true]; rw [if_pos ⟨hmh, by rw [← forms_rd]; exact c3⟩]
  have hcr := crM_pl hOk (fun i => chT D.n (W i)) m
  have hok := crM_ok hOk (C := fun i => chT D.n (W i)) m (by omega) hch
  refine ⟨⟨rfl, hOk, hmh, c3⟩, fun c4 => ?_, fun c4 => ?_⟩
  all_goals simp only [Bool.not_eq_true', Bool.not_eq_false', decide_eq_true_eq, decide_eq_false_iff_not] at c4
  · exact ⟨⟨fun _ _ _ _ => trivial, fun _ _ _ _ => trivial⟩, bad c4 (by rw [hE, hcr.1])⟩
  have hX : bhX D true m K W = bhP D m (plM D (fun i => chT D.n (W i)) m).s := by rw [bhX, hE, ← hcr.1, if_pos c4]
  rw [hX, hE, ← hcr.1]
  generalize plM D (fun i => chT D.n (W i)) m = r at hcr ⊢
  generalize crM D (fun i => chT D.n (W i)) m = t at hcr hok c4 ⊢
  obtain ⟨g1, g2, g3⟩ := hcr
  obtain ⟨g4, g5, g6⟩ := g3 c4
  simp only [c4, if_true]
  refine ⟨⟨by omega, by omega⟩, ?_⟩
  refine loop_ofH { k : Nat // k ≤ D.n } (fun k => [(10, .int .i64 (k.1 : Int)), (9, .ptr 3 0), (6, .ptr 2 0), (4, .ptr 1 0), (2, .ptr 0 0), (1, .row m 1 (nestF 0 1 B K W))])
    (fun h k => ⟨h.blks, setV h.vecs 7 (.live 1 46 5 D.n (nestF 0 2 (bhA D.A t.s.on k.1) D.M D.V))⟩) (fun k => D.n - k.1) (fun _ => ⟨rfl, by simp only [lenV_set]⟩) ⟨0, by omega⟩ (by simp only [bhA_0]; (apply sub_of <;> simp only [go_sem, ↓reduceIte, Nat.reduceAdd, Nat.reduceSub, Nat.reduceMul, Nat.reduceEqDiff, Nat.reduceLT, Nat.reduceLeDiff, Int.reduceToNat, Int.reduceLE, Int.reduceLT, Int.reduceEq, Int.reduceNeg, reduceCtorEq] <;> (try simp [catF])); all_goals (repeat' first | assumption | exact nestF_bd _ _ _ _ _ _ _ _ _ | exact nestF_bd1 _ _ _ _ _ _ _ _ _ | exact fun _ _ => nestF_bd1 _ _ _ _ _ _ _ _ _ | exact fun _ _ _ _ => nestF_bd1 _ _ _ _ _ _ _ _ _ | exact fun x hx => catF_one _ hx | refine And.intro ?_ ?_)) ?_
  rintro ⟨k, hk⟩
  simp only [presses_eq, forms_eq, checkS_eq, p25_13, catF_nil, crS, Ok_ns, psB_ns, crM_ns, nestF_eq, nestR_lit, nsM_lit, nsV_lit, Try.f25, go_sem, ↓reduceIte, Nat.reduceAdd, Nat.reduceSub, Nat.reduceMul, Nat.reduceEqDiff, Nat.reduceLT, Nat.reduceLeDiff, Int.reduceToNat, Int.reduceLE, Int.reduceLT, Int.reduceEq, Int.reduceNeg, reduceCtorEq]
  have hw3 : IntKind.i64.wrap ((k : Int) + 1) = ((k + 1 : Nat) : Int) := by rw [wrap_id (by omega) (by omega)]; omega
  refine ⟨fun e1 => ?_, fun e1 => ?_⟩
  all_goals simp only [decide_eq_true_eq, decide_eq_false_iff_not] at e1
  · refine ⟨⟨by kernel_rfl, by kernel_rfl⟩, ⟨by omega, by omega⟩, ⟨by omega, by omega⟩, by omega, ⟨k + 1, by omega⟩, by simp only []; omega, ?_⟩
    apply sub_of <;> simp only [hw3, go_sem, ↓reduceIte, Nat.reduceAdd, Nat.reduceSub, Nat.reduceMul, Nat.reduceEqDiff, Nat.reduceLT, Nat.reduceLeDiff, Int.reduceToNat, Int.reduceLE, Int.reduceLT, Int.reduceEq, Int.reduceNeg, reduceCtorEq] <;> (try simp)
    · exact fun i j hi hj => bhA_next i j hi hj
    all_goals (repeat' first | assumption | exact nestF_bd _ _ _ _ _ _ _ _ _ | exact nestF_bd1 _ _ _ _ _ _ _ _ _ | exact fun _ _ => nestF_bd1 _ _ _ _ _ _ _ _ _ | exact fun _ _ _ _ => nestF_bd1 _ _ _ _ _ _ _ _ _ | exact fun x hx => catF_one _ hx | refine And.intro ?_ ?_)
  · obtain rfl : k = D.n := by omega
    refine ⟨⟨by omega, by omega⟩, ⟨by omega, by omega⟩, ⟨by omega, by omega⟩, ⟨by omega, by omega⟩, ⟨fun i j _ _ => ?_, fun _ _ _ _ => trivial⟩, ?_⟩
    · exact nestF_bd1 0 0 0 2 (bhA D.A t.s.on D.n) D.M D.V i j
    · apply SameD.tup
      refine ⟨SameD.agg ⟨SameD.rowD fun i j hi hj => ?_, SameD.rfl' _, SameD.rfl' _, ?_, SameD.rfl' _, SameD.rfl' _, SameD.rfl' _, trivial⟩, SameD.rfl' _, trivial⟩
      · have e : (if j = 0 then SV.row (D.M i) 2 fun a b => .int .i64 (D.V i a b) else .int .i64 (bhA D.A t.s.on D.n i j)) = nestF 0 2 (bhP D m r.s).A D.M D.V i j := by
          have : bhA D.A t.s.on D.n i j = (bhP D m r.s).A i j := by
            simp only [bhA, bhP, ← g4, psOf]
            by_cases h4 : j = 4
            · rw [if_pos ⟨h4, hi⟩, if_pos h4, chT_get hi (by omega)]
            · rw [if_neg (fun h => h4 h.1), if_neg h4]
          simp only [nestF, this]
        rw [e]
        exact SameD.rfl' _
      · rw [← g4]
        exact SameD.rfl' _
end Go.Eng
end

/- press: the program's rest behind some hours. -/
section
namespace Go.Eng
open Go Go.RowKit Go.Proofs
set_option maxRecDepth 100000
set_option maxHeartbeats 4000000
attribute [local irreducible] OwnT DefS
def cloneIBase : BaseF := fun args => match args with
  | [.row n sz_a f_a] => some ((sz_a = 1 ∧ IntR n 1 f_a) ∧ (n ≤ 1000000), .row n 1 (fun i j => .int .i64 ((ivf f_a) i j)))
  | _ => none
theorem cloneI_eq (n : Nat) (sz_a : Nat) (f_a : Nat → Nat → SV) : cloneIBase [.row n sz_a f_a] = some ((sz_a = 1 ∧ IntR n 1 f_a) ∧ (n ≤ 1000000), .row n 1 (fun i j => .int .i64 ((ivf f_a) i j))) := rfl
theorem cloneI_base : NB Try.prog 36 cloneIBase := by
  intro args p v hq hp
  unfold cloneIBase at hq
  split at hq
  rotate_left
  · cases hq
  rename_i n sz_a f_a
  cases hq
  obtain ⟨⟨rfl, i_a⟩, pre⟩ := hp
  refine nb_of (C := cx [] [] [] [] none) (cx_ok trivial trivial) rfl (g := 36) (fn := Try.f36)
    (args' := [.row n 1 (rowF .i64 (ivf f_a))]) (fn_36) rfl 1000 (by
    simp only [BdL, Bd, and_self, and_true, true_and]
    exact (fun i j hi hj => by rw [i_a i j hi hj]; trivial)) ⟨SameD.int i_a, trivial⟩ (by simp only [Bd, BdL, and_self, implies_true]) ?_
  generalize ivf f_a = a at *
  simp only [rowF_eq]
  simp only [catF_nil, Try.f36, go_sem, ↓reduceIte, Nat.reduceAdd, Nat.reduceSub, Nat.reduceMul, Nat.reduceEqDiff, Nat.reduceLT, Nat.reduceLeDiff, Int.reduceToNat, Int.reduceLE, Int.reduceLT, Int.reduceEq, Int.reduceNeg, reduceCtorEq]
  refine ⟨fun e => ?_, ⟨by omega, by omega⟩, fun _ _ _ _ => trivial, SameD.rfl' _⟩
  subst e
  exact ⟨fun _ _ _ _ => trivial, SameD.row0⟩
def cloneLBase : BaseF := fun args => match args with
  | [.row n sz_a f_a] => some ((sz_a = 2 ∧ IntR n 2 f_a) ∧ (n ≤ 1000000), .row n 2 (fun i j => .int .i64 ((ivf f_a) i j)))
  | _ => none
theorem cloneL_eq (n : Nat) (sz_a : Nat) (f_a : Nat → Nat → SV) : cloneLBase [.row n sz_a f_a] = some ((sz_a = 2 ∧ IntR n 2 f_a) ∧ (n ≤ 1000000), .row n 2 (fun i j => .int .i64 ((ivf f_a) i j))) := rfl
theorem cloneL_base : NB Try.prog 49 cloneLBase := by
  intro args p v hq hp
  unfold cloneLBase at hq
  split at hq
  rotate_left
  · cases hq
  rename_i n sz_a f_a
  cases hq
  obtain ⟨⟨rfl, i_a⟩, pre⟩ := hp
  refine nb_of (C := cx [] [] [] [] none) (cx_ok trivial trivial) rfl (g := 49) (fn := Try.f49)
    (args' := [.row n 2 (rowF .i64 (ivf f_a))]) (fn_49) rfl 1000 (by
    simp only [BdL, Bd, and_self, and_true, true_and]
    exact (fun i j hi hj => by rw [i_a i j hi hj]; trivial)) ⟨SameD.int i_a, trivial⟩ (by simp only [Bd, BdL, and_self, implies_true]) ?_
  generalize ivf f_a = a at *
  simp only [rowF_eq]
  simp only [catF_nil, Try.f49, go_sem, ↓reduceIte, Nat.reduceAdd, Nat.reduceSub, Nat.reduceMul, Nat.reduceEqDiff, Nat.reduceLT, Nat.reduceLeDiff, Int.reduceToNat, Int.reduceLE, Int.reduceLT, Int.reduceEq, Int.reduceNeg, reduceCtorEq]
  refine ⟨fun e => ?_, ⟨by omega, by omega⟩, fun _ _ _ _ => trivial, SameD.rfl' _⟩
  subst e
  exact ⟨fun _ _ _ _ => trivial, SameD.row0⟩
theorem chF_bd (n : Nat) (W : Nat → Nat → Nat → Int) (L K i j : Nat) : Bd L K (chF n W i j) := by simp only [chF, Bd]
def behindBase : BaseF := fun args => match args with
  | [.agg [.row n sz_A f_A, .row h sz_nd f_nd, .row q sz_pr f_pr, .int .i64 st, .int .i64 ro, .int .i64 pk, .int .i64 fr], .row m sz_B f_B] => some ((sz_A = 5 ∧ NestR n 5 0 2 f_A) ∧ (sz_nd = 1 ∧ IntR h 1 f_nd) ∧ (sz_pr = 1 ∧ IntR q 1 f_pr) ∧ (sz_B = 1 ∧ NestR m 1 0 1 f_B) ∧ (((n ≤ 1000000 ∧ ∀ i, i < n → (nsM 0 f_A) i ≤ 1000000) ∧ h ≤ 1000000 ∧ q ≤ 1000000) ∧ m ≤ 1000000 ∧ ∀ i, i < m → (nsM 0 f_B) i ≤ 1000000), .tup [.agg (prC (bhX ⟨n, (nsA f_A), (nsM 0 f_A), (nsV 0 f_A), h, (ivf f_nd), (ivf f_pr), st, ro, pk, fr⟩ (psB n (nsA f_A) (nsM 0 f_A) (nsV 0 f_A) h (ivf f_nd) q (ivf f_pr) st ro pk fr) m (nsM 0 f_B) (nsV 0 f_B))), .int .i64 (bhE ⟨n, (nsA f_A), (nsM 0 f_A), (nsV 0 f_A), h, (ivf f_nd), (ivf f_pr), st, ro, pk, fr⟩ (psB n (nsA f_A) (nsM 0 f_A) (nsV 0 f_A) h (ivf f_nd) q (ivf f_pr) st ro pk fr) m (nsM 0 f_B) (nsV 0 f_B))])
  | _ => none
theorem behind_eq (n : Nat) (sz_A : Nat) (f_A : Nat → Nat → SV) (h : Nat) (sz_nd : Nat) (f_nd : Nat → Nat → SV) (q : Nat) (sz_pr : Nat) (f_pr : Nat → Nat → SV) (st : Int) (ro : Int) (pk : Int) (fr : Int) (m : Nat) (sz_B : Nat) (f_B : Nat → Nat → SV) : behindBase [.agg [.row n sz_A f_A, .row h sz_nd f_nd, .row q sz_pr f_pr, .int .i64 st, .int .i64 ro, .int .i64 pk, .int .i64 fr], .row m sz_B f_B] = some ((sz_A = 5 ∧ NestR n 5 0 2 f_A) ∧ (sz_nd = 1 ∧ IntR h 1 f_nd) ∧ (sz_pr = 1 ∧ IntR q 1 f_pr) ∧ (sz_B = 1 ∧ NestR m 1 0 1 f_B) ∧ (((n ≤ 1000000 ∧ ∀ i, i < n → (nsM 0 f_A) i ≤ 1000000) ∧ h ≤ 1000000 ∧ q ≤ 1000000) ∧ m ≤ 1000000 ∧ ∀ i, i < m → (nsM 0 f_B) i ≤ 1000000), .tup [.agg (prC (bhX ⟨n, (nsA f_A), (nsM 0 f_A), (nsV 0 f_A), h, (ivf f_nd), (ivf f_pr), st, ro, pk, fr⟩ (psB n (nsA f_A) (nsM 0 f_A) (nsV 0 f_A) h (ivf f_nd) q (ivf f_pr) st ro pk fr) m (nsM 0 f_B) (nsV 0 f_B))), .int .i64 (bhE ⟨n, (nsA f_A), (nsM 0 f_A), (nsV 0 f_A), h, (ivf f_nd), (ivf f_pr), st, ro, pk, fr⟩ (psB n (nsA f_A) (nsM 0 f_A) (nsV 0 f_A) h (ivf f_nd) q (ivf f_pr) st ro pk fr) m (nsM 0 f_B) (nsV 0 f_B))]) := rfl
theorem behind_base : NB Try.prog 24 behindBase := by
  intro args p v hq hp
  unfold behindBase at hq
  split at hq
  rotate_left
  · cases hq
  rename_i n sz_A f_A h sz_nd f_nd q sz_pr f_pr st ro pk fr m sz_B f_B
  cases hq
  obtain ⟨⟨rfl, i_A⟩, ⟨rfl, i_nd⟩, ⟨rfl, i_pr⟩, ⟨rfl, i_B⟩, pre⟩ := hp
  refine nb_of (C := cxn [] [(36, cloneIBase), (49, cloneLBase)] [(43, 63, readBase)] [(31, arePsBase), (44, playBase)] [(24, 13, p24_13), (24, 16, p24_16)] none) (cxn_ok ⟨cloneI_base, cloneL_base, trivial⟩ ⟨read_base, trivial⟩ ⟨arePs_base, play_base, trivial⟩) rfl (g := 24) (fn := Try.f24)
    (args' := [.agg [.row n 5 (nestF 0 2 (nsA f_A) (nsM 0 f_A) (nsV 0 f_A)), .row h 1 (rowF .i64 (ivf f_nd)), .row q 1 (rowF .i64 (ivf f_pr)), .int .i64 st, .int .i64 ro, .int .i64 pk, .int .i64 fr], .row m 1 (nestF 0 1 (nsA f_B) (nsM 0 f_B) (nsV 0 f_B))]) (fn_24) rfl 1000 (by
    simp only [BdL, Bd, and_self, and_true, true_and]
    exact ⟨⟨(fun i j hi hj => nest_bd i_A i j hi hj), (fun i j hi hj => by rw [i_nd i j hi hj]; trivial), (fun i j hi hj => by rw [i_pr i j hi hj]; trivial)⟩, (fun i j hi hj => nest_bd i_B i j hi hj)⟩) ⟨SameD.agg ⟨SameD.nest i_A, SameD.int i_nd, SameD.int i_pr, SameD.rfl' _, SameD.rfl' _, SameD.rfl' _, SameD.rfl' _, trivial⟩, SameD.nest i_B, trivial⟩ (by simp only [Bd, BdL, and_true]; exact prC_bd _ _ _) ?_
  generalize nsA f_A = A at *
  generalize nsM 0 f_A = M at *
  generalize nsV 0 f_A = V at *
  generalize ivf f_nd = nd at *
  generalize ivf f_pr = pr at *
  generalize nsA f_B = B at *
  generalize nsM 0 f_B = K at *
  generalize nsV 0 f_B = W at *
  simp only [rowF_eq]
  simp only [arePs_eq, play_eq, cloneI_eq, cloneL_eq, read_eq, p24_13, p24_16, Try.f48, catF_nil, nestF_eq, nestR_lit, nsM_lit, nsV_lit, psS, onI_ns, psB_ns, chF, chT_eta, plM_ns, plO_ns, Ok_ns, Try.f24, go_sem, ↓reduceIte, Nat.reduceAdd, Nat.reduceSub, Nat.reduceMul, Nat.reduceEqDiff, Nat.reduceLT, Nat.reduceLeDiff, Int.reduceToNat, Int.reduceLE, Int.reduceLT, Int.reduceEq, Int.reduceNeg, reduceCtorEq]
  obtain ⟨pre, pm, pK⟩ := pre
  generalize hb : psB n A M V h nd q pr st ro pk fr = b
  have bad : ∀ {D : PD} {m : Nat} {K : Nat → Nat} {W : Nat → Nat → Nat → Int} {e : Int}, e ≠ 0 → bhE D b m K W = e → SameD (.tup [.agg [.row 0 5 fun _ _ => .any, .row 0 1 fun _ _ => .any, .row 0 1 fun _ _ => .any, .int .i64 0, .int .i64 0, .int .i64 0, .int .i64 0], .int .i64 e]) (.tup [.agg (prC (bhX D b m K W)), .int .i64 (bhE D b m K W)]) := fun h0 h => by
    rw [bhX, h, if_neg h0]
    apply SameD.tup
    exact ⟨SameD.agg ⟨SameD.row0, SameD.row0, SameD.row0, SameD.rfl' _, SameD.rfl' _, SameD.rfl' _, SameD.rfl' _, trivial⟩, SameD.rfl' _, trivial⟩
  refine ⟨pre, fun c1 => ?_, fun c1 => ?_⟩
  · obtain rfl : b = false := by simpa using c1
    exact ⟨⟨fun _ _ _ _ => trivial, fun _ _ _ _ => trivial⟩, bad (by decide) rfl⟩
  obtain rfl : b = true := by simpa using c1
  obtain ⟨rfl, hOk⟩ := psB_iff.1 hb
  generalize hD : (⟨n, A, M, V, q, nd, pr, st, ro, pk, fr⟩ : PD) = D at hOk ⊢
  have d0 : n = D.n := by rw [← hD]
  have d1 : A = D.A := by rw [← hD]
  have d2 : M = D.M := by rw [← hD]
  have d3 : V = D.V := by rw [← hD]
  have d4 : q = D.h := by rw [← hD]
  have d5 : nd = D.nd := by rw [← hD]
  have d6 : pr = D.pr := by rw [← hD]
  have d7 : st = D.st := by rw [← hD]
  have d8 : ro = D.ro := by rw [← hD]
  have d9 : pk = D.pk := by rw [← hD]
  have d10 : fr = D.fr := by rw [← hD]
  clear hD
  subst d0 d1 d2 d3 d4 d5 d6 d7 d8 d9 d10
  have hn := hOk.n
  have hh := hOk.h
  refine ⟨⟨by omega, by omega, pm, pK⟩, fun c2 => ?_, fun c2 => ⟨fun c3 => ?_, fun c3 => ?_⟩⟩
  · exact ⟨⟨fun _ _ _ _ => trivial, fun _ _ _ _ => trivial⟩, bad (by decide) (by simp only [Bool.not_eq_true'] at c2; simp only [bhE, if_true, c2]; simp)⟩
  · exact ⟨⟨fun _ _ _ _ => trivial, fun _ _ _ _ => trivial⟩, bad (by decide) (by simp only [decide_eq_true_eq] at c3; simp only [bhE, if_true]; rw [if_neg (by omega)])⟩
  simp only [Bool.not_eq_false', decide_eq_false_iff_not] at c2 c3
  have hmh : m ≤ D.h := by omega
  have hch : ∀ i, i < m → chOk D (chT D.n (W i)) := fun i hi => chT_ok hOk c2 hi
  have hE : bhE D true m K W = (plM D (fun i => chT D.n (W i)) m).e := by simp only [bhE, if_true]; rw [if_pos ⟨hmh, c2⟩]
  have hpl := plM_ok hOk (C := fun i => chT D.n (W i)) m hmh hch
  have hbad := plM_bad (D := D) (C := fun i => chT D.n (W i)) m
  simp only [c2, if_true]
  refine ⟨⟨trivial, hOk, hmh, fun i hi => hch i hi⟩, ?_⟩
  have hX : (plM D (fun i => chT D.n (W i)) m).e = 0 → bhX D true m K W = bhP D m (plM D (fun i => chT D.n (W i)) m).s := fun h => by rw [bhX, hE, if_pos h]
  generalize plM D (fun i => chT D.n (W i)) m = r at hE hX hpl hbad ⊢
  by_cases he : r.e = 0
  rotate_left
  · obtain ⟨b1, b2, b3⟩ := hbad he
    simp only [plO, if_neg he, arePs_eq, play_eq, cloneI_eq, cloneL_eq, read_eq, p24_13, p24_16, Try.f48, catF_nil, nestF_eq, nestR_lit, nsM_lit, nsV_lit, psS, onI_ns, psB_ns, chF, chT_eta, plM_ns, plO_ns, Ok_ns, Try.f24, go_sem, ↓reduceIte, Nat.reduceAdd, Nat.reduceSub, Nat.reduceMul, Nat.reduceEqDiff, Nat.reduceLT, Nat.reduceLeDiff, Int.reduceToNat, Int.reduceLE, Int.reduceLT, Int.reduceEq, Int.reduceNeg, reduceCtorEq]
    have hd : decide (r.e = 0) = false := decide_eq_false he
    simp only [hd, go_sem, ↓reduceIte, Nat.reduceAdd, Nat.reduceSub, Nat.reduceMul, Nat.reduceEqDiff, Nat.reduceLT, Nat.reduceLeDiff, Int.reduceToNat, Int.reduceLE, Int.reduceLT, Int.reduceEq, Int.reduceNeg, reduceCtorEq]
    exact ⟨⟨fun _ _ _ _ => trivial, fun _ _ _ _ => trivial⟩, bad he hE⟩
  rw [hX he, hE, he]
  obtain ⟨p1, _, _⟩ := hpl he
  simp only [plO, he, if_true, arePs_eq, play_eq, cloneI_eq, cloneL_eq, read_eq, p24_13, p24_16, Try.f48, catF_nil, nestF_eq, nestR_lit, nsM_lit, nsV_lit, psS, onI_ns, psB_ns, chF, chT_eta, plM_ns, plO_ns, Ok_ns, Try.f24, go_sem, ↓reduceIte, Nat.reduceAdd, Nat.reduceSub, Nat.reduceMul, Nat.reduceEqDiff, Nat.reduceLT, Nat.reduceLeDiff, Int.reduceToNat, Int.reduceLE, Int.reduceLT, Int.reduceEq, Int.reduceNeg, reduceCtorEq]
  refine ⟨fun h0 => absurd h0 (by omega), ⟨by omega, by omega⟩, ?_⟩
  refine loop_ofH { k : Nat // k ≤ D.n } (fun k => [(51, .int .i64 (k.1 : Int)), (50, .int .i64 (D.n : Int)), (8, .ptr 2 0), (4, .ptr 1 0), (2, .ptr 0 0), (1, .row m 1 (nestF 0 1 B K W))])
    (fun h k => ⟨h.blks, setV h.vecs 5 (.live 1 46 5 D.n (nestF 0 2 (bhA D.A r.s.on.get k.1) D.M D.V))⟩) (fun k => D.n - k.1) (fun _ => ⟨rfl, by simp only [lenV_set]⟩) ⟨0, by omega⟩ (by simp only [bhA_0]; (apply sub_of <;> simp only [go_sem, ↓reduceIte, Nat.reduceAdd, Nat.reduceSub, Nat.reduceMul, Nat.reduceEqDiff, Nat.reduceLT, Nat.reduceLeDiff, Int.reduceToNat, Int.reduceLE, Int.reduceLT, Int.reduceEq, Int.reduceNeg, reduceCtorEq] <;> (try simp [catF])); all_goals (repeat' first | assumption | exact nestF_bd _ _ _ _ _ _ _ _ _ | exact nestF_bd1 _ _ _ _ _ _ _ _ _ | exact fun _ _ => nestF_bd1 _ _ _ _ _ _ _ _ _ | exact fun _ _ _ _ => nestF_bd1 _ _ _ _ _ _ _ _ _ | exact fun x hx => catF_one _ hx | refine And.intro ?_ ?_); all_goals exact fun i j _ _ => chF_bd _ _ _ _ i j) ?_
  rintro ⟨k, hk⟩
  rcases Nat.lt_or_ge k D.n with hkn | hkn
  · have n5 := fun y z => T3.nth5 r.s.on y z (show k < 3 by omega)
    simp only [n5, arePs_eq, play_eq, cloneI_eq, cloneL_eq, read_eq, p24_13, p24_16, Try.f48, catF_nil, nestF_eq, nestR_lit, nsM_lit, nsV_lit, psS, onI_ns, psB_ns, chF, chT_eta, plM_ns, plO_ns, Ok_ns, Try.f24, go_sem, ↓reduceIte, Nat.reduceAdd, Nat.reduceSub, Nat.reduceMul, Nat.reduceEqDiff, Nat.reduceLT, Nat.reduceLeDiff, Int.reduceToNat, Int.reduceLE, Int.reduceLT, Int.reduceEq, Int.reduceNeg, reduceCtorEq]
    have hw3 : IntKind.i64.wrap ((k : Int) + 1) = ((k + 1 : Nat) : Int) := by rw [wrap_id (by omega) (by omega)]; omega
    refine ⟨fun e1 => ?_, fun e1 => absurd (of_decide_eq_false e1) (by omega)⟩
    have hM := (hOk.M k hkn).2
    refine ⟨⟨by kernel_rfl, by kernel_rfl⟩, ⟨by omega, by omega⟩, by omega, ⟨by omega, by omega⟩, by omega, by omega, ⟨by omega, by omega⟩, by omega, ⟨by omega, by omega⟩, by omega, ⟨k + 1, by omega⟩, by simp only []; omega, ?_⟩
    apply sub_of <;> simp only [hw3, go_sem, ↓reduceIte, Nat.reduceAdd, Nat.reduceSub, Nat.reduceMul, Nat.reduceEqDiff, Nat.reduceLT, Nat.reduceLeDiff, Int.reduceToNat, Int.reduceLE, Int.reduceLT, Int.reduceEq, Int.reduceNeg, reduceCtorEq] <;> (try simp)
    · intro i j hi hj
      by_cases h0 : i = k ∧ j = 0
      · obtain ⟨rfl, rfl⟩ := h0
        rw [if_pos ⟨rfl, rfl⟩]
        simp only [nestF, nth, if_true]
      · rw [if_neg h0]
        exact bhA_next i j hi hj
    all_goals (repeat' first | assumption | exact nestF_bd _ _ _ _ _ _ _ _ _ | exact nestF_bd1 _ _ _ _ _ _ _ _ _ | exact fun _ _ => nestF_bd1 _ _ _ _ _ _ _ _ _ | exact fun _ _ _ _ => nestF_bd1 _ _ _ _ _ _ _ _ _ | exact fun x hx => catF_one _ hx | refine And.intro ?_ ?_)
    all_goals first | exact fun i j _ _ => chF_bd _ _ _ _ i j | exact ⟨fun i j _ _ => chF_bd _ _ _ _ i j, fun i j _ _ => nestF_bd1 _ _ _ _ _ _ _ i j⟩
  · obtain rfl : k = D.n := by omega
    have hd : decide ((D.n : Int) < (D.n : Int)) = false := decide_eq_false (by omega)
    simp only [hd, arePs_eq, play_eq, cloneI_eq, cloneL_eq, read_eq, p24_13, p24_16, Try.f48, catF_nil, nestF_eq, nestR_lit, nsM_lit, nsV_lit, psS, onI_ns, psB_ns, chF, chT_eta, plM_ns, plO_ns, Ok_ns, Try.f24, go_sem, ↓reduceIte, Nat.reduceAdd, Nat.reduceSub, Nat.reduceMul, Nat.reduceEqDiff, Nat.reduceLT, Nat.reduceLeDiff, Int.reduceToNat, Int.reduceLE, Int.reduceLT, Int.reduceEq, Int.reduceNeg, reduceCtorEq]
    refine ⟨⟨by kernel_rfl, by kernel_rfl⟩, ⟨by omega, by omega⟩, by omega, ⟨by omega, by omega⟩, by omega, ⟨fun i j _ _ => ?_, fun _ _ _ _ => trivial⟩, ?_⟩
    · exact nestF_bd1 0 0 0 2 (bhA D.A r.s.on.get D.n) D.M D.V i j
    · apply SameD.tup
      refine ⟨SameD.agg ⟨SameD.rowD fun i j hi hj => ?_, SameD.rfl' _, SameD.rfl' _, SameD.rfl' _, SameD.rfl' _, SameD.rfl' _, SameD.rfl' _, trivial⟩, SameD.rfl' _, trivial⟩
      have e : (if j = 0 then SV.row (D.M i) 2 fun a b => .int .i64 (D.V i a b) else .int .i64 (bhA D.A r.s.on.get D.n i j)) = nestF 0 2 (bhP D m r.s).A D.M D.V i j := by
        have : bhA D.A r.s.on.get D.n i j = (bhP D m r.s).A i j := by
          simp only [bhA, bhP]
          by_cases h4 : j = 4
          · rw [if_pos ⟨h4, hi⟩, if_pos h4]
          · rw [if_neg (fun h => h4 h.1), if_neg h4]
        simp only [nestF, this]
      rw [e]
      exact SameD.rfl' _
end Go.Eng
end

/- press: compressors compared. -/
section
namespace Go.Eng
open Go Go.RowKit Go.Proofs
set_option maxRecDepth 100000
set_option maxHeartbeats 4000000
attribute [local irreducible] OwnT DefS
def intsB (n : Nat) (a : Nat → Nat → Int) (m : Nat) (b : Nat → Nat → Int) : Bool := decide ((n : Int) = (m : Int)) && allU (fun i => decide (a i 0 = b i 0)) n
def same1 (A : Nat → Nat → Int) (M : Nat → Nat) (V : Nat → Nat → Nat → Int) (B : Nat → Nat → Int) (K : Nat → Nat) (W : Nat → Nat → Nat → Int) (i : Nat) : Bool :=
  decide (A i 1 = B i 1) && decide (A i 2 = B i 2) && decide (A i 3 = B i 3) && decide (A i 4 = B i 4) && decide ((M i : Int) = (K i : Int)) && allU (fun k => decide (V i k 0 = W i k 0) && decide (V i k 1 = W i k 1)) (M i)
def sameB (n : Nat) (A : Nat → Nat → Int) (M : Nat → Nat) (V : Nat → Nat → Nat → Int) (h : Nat) (nd : Nat → Nat → Int) (q : Nat) (pr : Nat → Nat → Int) (st ro pk fr : Int)
    (m : Nat) (B : Nat → Nat → Int) (K : Nat → Nat) (W : Nat → Nat → Nat → Int) (g : Nat) (ne : Nat → Nat → Int) (r : Nat) (ps : Nat → Nat → Int) (su rp pl fs : Int) : Bool :=
  decide ((n : Int) = (m : Int)) && intsB h nd g ne && intsB q pr r ps && allU (same1 A M V B K W) n && decide (st = su) && decide (ro = rp) && decide (pk = pl) && decide (fr = fs)
def sameBase : BaseF := fun args => match args with
  | [.agg [.row n sz_A f_A, .row h sz_nd f_nd, .row q sz_pr f_pr, .int .i64 st, .int .i64 ro, .int .i64 pk, .int .i64 fr], .agg [.row m sz_B f_B, .row g sz_ne f_ne, .row r sz_ps f_ps, .int .i64 su, .int .i64 rp, .int .i64 pl, .int .i64 fs]] => some ((sz_A = 5 ∧ NestR n 5 0 2 f_A) ∧ (sz_nd = 1 ∧ IntR h 1 f_nd) ∧ (sz_pr = 1 ∧ IntR q 1 f_pr) ∧ (sz_B = 5 ∧ NestR m 5 0 2 f_B) ∧ (sz_ne = 1 ∧ IntR g 1 f_ne) ∧ (sz_ps = 1 ∧ IntR r 1 f_ps) ∧ (n ≤ 1000000 ∧ h ≤ 1000000 ∧ q ≤ 1000000 ∧ ∀ i, i < n → (nsM 0 f_A) i ≤ 1000000), .bool (sameB n (nsA f_A) (nsM 0 f_A) (nsV 0 f_A) h (ivf f_nd) q (ivf f_pr) st ro pk fr m (nsA f_B) (nsM 0 f_B) (nsV 0 f_B) g (ivf f_ne) r (ivf f_ps) su rp pl fs))
  | _ => none
theorem same_eq (n : Nat) (sz_A : Nat) (f_A : Nat → Nat → SV) (h : Nat) (sz_nd : Nat) (f_nd : Nat → Nat → SV) (q : Nat) (sz_pr : Nat) (f_pr : Nat → Nat → SV) (st : Int) (ro : Int) (pk : Int) (fr : Int) (m : Nat) (sz_B : Nat) (f_B : Nat → Nat → SV) (g : Nat) (sz_ne : Nat) (f_ne : Nat → Nat → SV) (r : Nat) (sz_ps : Nat) (f_ps : Nat → Nat → SV) (su : Int) (rp : Int) (pl : Int) (fs : Int) : sameBase [.agg [.row n sz_A f_A, .row h sz_nd f_nd, .row q sz_pr f_pr, .int .i64 st, .int .i64 ro, .int .i64 pk, .int .i64 fr], .agg [.row m sz_B f_B, .row g sz_ne f_ne, .row r sz_ps f_ps, .int .i64 su, .int .i64 rp, .int .i64 pl, .int .i64 fs]] = some ((sz_A = 5 ∧ NestR n 5 0 2 f_A) ∧ (sz_nd = 1 ∧ IntR h 1 f_nd) ∧ (sz_pr = 1 ∧ IntR q 1 f_pr) ∧ (sz_B = 5 ∧ NestR m 5 0 2 f_B) ∧ (sz_ne = 1 ∧ IntR g 1 f_ne) ∧ (sz_ps = 1 ∧ IntR r 1 f_ps) ∧ (n ≤ 1000000 ∧ h ≤ 1000000 ∧ q ≤ 1000000 ∧ ∀ i, i < n → (nsM 0 f_A) i ≤ 1000000), .bool (sameB n (nsA f_A) (nsM 0 f_A) (nsV 0 f_A) h (ivf f_nd) q (ivf f_pr) st ro pk fr m (nsA f_B) (nsM 0 f_B) (nsV 0 f_B) g (ivf f_ne) r (ivf f_ps) su rp pl fs)) := rfl
theorem same_base : Base Try.prog 26 sameBase := by
  intro args p v hq hp
  unfold sameBase at hq
  split at hq
  rotate_left
  · cases hq
  rename_i n sz_A f_A h sz_nd f_nd q sz_pr f_pr st ro pk fr m sz_B f_B g sz_ne f_ne r sz_ps f_ps su rp pl fs
  cases hq
  obtain ⟨⟨rfl, i_A⟩, ⟨rfl, i_nd⟩, ⟨rfl, i_pr⟩, ⟨rfl, i_B⟩, ⟨rfl, i_ne⟩, ⟨rfl, i_ps⟩, pre⟩ := hp
  refine base_of (C := cx [] [] [(30, intsBase)] [(26, 6, p26_6), (26, 12, p26_12)] none) (cx_ok trivial ⟨ints_base, trivial⟩) rfl (g := 26) (fn := Try.f26)
    (args' := [.agg [.row n 5 (nestF 0 2 (nsA f_A) (nsM 0 f_A) (nsV 0 f_A)), .row h 1 (rowF .i64 (ivf f_nd)), .row q 1 (rowF .i64 (ivf f_pr)), .int .i64 st, .int .i64 ro, .int .i64 pk, .int .i64 fr], .agg [.row m 5 (nestF 0 2 (nsA f_B) (nsM 0 f_B) (nsV 0 f_B)), .row g 1 (rowF .i64 (ivf f_ne)), .row r 1 (rowF .i64 (ivf f_ps)), .int .i64 su, .int .i64 rp, .int .i64 pl, .int .i64 fs]]) (fn_26) rfl 1000 (by
    simp only [BdL, Bd, and_self, and_true, true_and]
    exact ⟨⟨(fun i j hi hj => nest_bd i_A i j hi hj), (fun i j hi hj => by rw [i_nd i j hi hj]; trivial), (fun i j hi hj => by rw [i_pr i j hi hj]; trivial)⟩, ⟨(fun i j hi hj => nest_bd i_B i j hi hj), (fun i j hi hj => by rw [i_ne i j hi hj]; trivial), (fun i j hi hj => by rw [i_ps i j hi hj]; trivial)⟩⟩) ⟨SameD.agg ⟨SameD.nest i_A, SameD.int i_nd, SameD.int i_pr, SameD.rfl' _, SameD.rfl' _, SameD.rfl' _, SameD.rfl' _, trivial⟩, SameD.agg ⟨SameD.nest i_B, SameD.int i_ne, SameD.int i_ps, SameD.rfl' _, SameD.rfl' _, SameD.rfl' _, SameD.rfl' _, trivial⟩, trivial⟩ ?_
  generalize nsA f_A = A at *
  generalize nsM 0 f_A = M at *
  generalize nsV 0 f_A = V at *
  generalize ivf f_nd = nd at *
  generalize ivf f_pr = pr at *
  generalize nsA f_B = B at *
  generalize nsM 0 f_B = K at *
  generalize nsV 0 f_B = W at *
  generalize ivf f_ne = ne at *
  generalize ivf f_ps = ps at *
  simp only [rowF_eq]
  simp only [ints_eq, p26_6, p26_12, nestF_eq, nestR_lit, nsM_lit, nsV_lit, Try.f26, go_sem, ↓reduceIte, Nat.reduceAdd, Nat.reduceSub, Nat.reduceMul, Nat.reduceEqDiff, Nat.reduceLT, Nat.reduceLeDiff, Int.reduceToNat, Int.reduceLE, Int.reduceLT, Int.reduceEq, Int.reduceNeg, reduceCtorEq]
  obtain ⟨p1, p2, p3, p4⟩ := pre
  have no : sameB n A M V h nd q pr st ro pk fr m B K W g ne r ps su rp pl fs = false → SV.bool false = .bool (sameB n A M V h nd q pr st ro pk fr m B K W g ne r ps su rp pl fs) := fun e => by rw [e]
  refine ⟨fun c1 => no (by simp only [Bool.not_eq_true'] at c1; simp [sameB, c1]), fun c1 => ⟨p2, fun c2 => no ?_, fun c2 => ⟨p3, fun c3 => no ?_, fun c3 => ?_⟩⟩⟩
  · simp only [Bool.not_eq_true'] at c2
    have : intsB h nd g ne = false := c2
    simp [sameB, this]
  · simp only [Bool.not_eq_true'] at c3
    have : intsB q pr r ps = false := c3
    simp [sameB, this]
  simp only [Bool.not_eq_false'] at c1 c2 c3
  have hnm := of_decide_eq_true c1
  have hs : sameB n A M V h nd q pr st ro pk fr m B K W g ne r ps su rp pl fs = (allU (same1 A M V B K W) n && decide (st = su) && decide (ro = rp) && decide (pk = pl) && decide (fr = fs)) := by
    have i1 : intsB h nd g ne = true := c2
    have i2 : intsB q pr r ps = true := c3
    simp only [sameB, c1, i1, i2, Bool.true_and]
  rw [hs] at no ⊢
  clear hs
  refine loop_ofH { i : Nat // i ≤ n ∧ ∀ j, j < i → same1 A M V B K W j = true } (fun i => [(5, .int .i64 (i.1 : Int)), (3, .ptr 1 0), (2, .ptr 0 0)]) (fun h _ => h) (fun i => n - i.1) (fun _ => ⟨rfl, rfl⟩) ⟨0, by omega, by omega⟩ (by (apply sub_of <;> simp only [go_sem, ↓reduceIte, Nat.reduceAdd, Nat.reduceSub, Nat.reduceMul, Nat.reduceEqDiff, Nat.reduceLT, Nat.reduceLeDiff, Int.reduceToNat, Int.reduceLE, Int.reduceLT, Int.reduceEq, Int.reduceNeg, reduceCtorEq] <;> (try simp [catF])); all_goals (repeat' first | assumption | exact nestF_bd _ _ _ _ _ _ _ _ _ | exact nestF_bd1 _ _ _ _ _ _ _ _ _ | exact fun _ _ => nestF_bd1 _ _ _ _ _ _ _ _ _ | exact fun _ _ _ _ => nestF_bd1 _ _ _ _ _ _ _ _ _ | exact fun x hx => catF_one _ hx | refine And.intro ?_ ?_)) ?_
  rintro ⟨i, hi, h3⟩
  simp only [ints_eq, p26_6, p26_12, nestF_eq, nestR_lit, nsM_lit, nsV_lit, Try.f26, go_sem, ↓reduceIte, Nat.reduceAdd, Nat.reduceSub, Nat.reduceMul, Nat.reduceEqDiff, Nat.reduceLT, Nat.reduceLeDiff, Int.reduceToNat, Int.reduceLE, Int.reduceLT, Int.reduceEq, Int.reduceNeg, reduceCtorEq]
  have hw3 : IntKind.i64.wrap ((i : Int) + 1) = ((i + 1 : Nat) : Int) := by rw [wrap_id (by omega) (by omega)]; omega
  refine ⟨fun e1 => ?_, fun e1 => ?_⟩
  all_goals simp only [decide_eq_true_eq, decide_eq_false_iff_not] at e1
  · have hM := p4 i (by omega)
    have bad : same1 A M V B K W i = false → SV.bool false = .bool (allU (same1 A M V B K W) n && decide (st = su) && decide (ro = rp) && decide (pk = pl) && decide (fr = fs)) := fun e => no (by rw [allU_false (i := i) (by omega) e]; rfl)
    have key : ∀ P : Prop, (A i 1 = B i 1 → A i 2 = B i 2 → A i 3 = B i 3 → A i 4 = B i 4 → (M i : Int) = (K i : Int) → P) → spl (!decide (A i 1 = B i 1)) (SV.bool false = .bool (allU (same1 A M V B K W) n && decide (st = su) && decide (ro = rp) && decide (pk = pl) && decide (fr = fs))) (spl (!decide (A i 2 = B i 2)) (SV.bool false = .bool (allU (same1 A M V B K W) n && decide (st = su) && decide (ro = rp) && decide (pk = pl) && decide (fr = fs))) (spl (!decide (A i 3 = B i 3)) (SV.bool false = .bool (allU (same1 A M V B K W) n && decide (st = su) && decide (ro = rp) && decide (pk = pl) && decide (fr = fs))) (spl (!decide (A i 4 = B i 4)) (SV.bool false = .bool (allU (same1 A M V B K W) n && decide (st = su) && decide (ro = rp) && decide (pk = pl) && decide (fr = fs))) (spl (!decide ((M i : Int) = (K i : Int))) (SV.bool false = .bool (allU (same1 A M V B K W) n && decide (st = su) && decide (ro = rp) && decide (pk = pl) && decide (fr = fs))) P)))) := fun P hP => by
      refine ⟨fun b1 => bad ?_, fun b1 => ⟨fun b2 => bad ?_, fun b2 => ⟨fun b3 => bad ?_, fun b3 => ⟨fun b4 => bad ?_, fun b4 => ⟨fun b5 => bad ?_, fun b5 => hP ?_ ?_ ?_ ?_ ?_⟩⟩⟩⟩⟩
      all_goals simp only [Bool.not_eq_true', Bool.not_eq_false', decide_eq_true_eq] at *
      all_goals first | assumption | (simp only [same1]; simp [*])
    refine ⟨⟨by kernel_rfl, by kernel_rfl⟩, ⟨by omega, by omega⟩, ⟨by omega, by omega⟩, ⟨⟨⟨by omega, by omega⟩, by omega, by omega⟩, ⟨⟨by omega, by omega⟩, by omega, by omega⟩, ⟨by omega, by omega⟩, key _ fun b1 b2 b3 b4 b5 => ?_⟩, ⟨⟨by omega, by omega⟩, by omega, by omega⟩, ⟨⟨by omega, by omega⟩, by omega, by omega⟩, ⟨by omega, by omega⟩, key _ fun b1 b2 b3 b4 b5 => ?_⟩
    · refine loop_ofH { k : Nat // k ≤ M i ∧ ∀ j, j < k → (fun k => decide (V i k 0 = W i k 0) && decide (V i k 1 = W i k 1)) j = true } (fun k => [(8, .int .i64 (k.1 : Int)), (7, .ptr 3 0), (6, .ptr 2 0), (5, .int .i64 (i : Int)), (3, .ptr 1 0), (2, .ptr 0 0)]) (fun h _ => h) (fun k => M i - k.1) (fun _ => ⟨rfl, rfl⟩) ⟨0, by omega, by omega⟩ (by (apply sub_of <;> simp only [go_sem, ↓reduceIte, Nat.reduceAdd, Nat.reduceSub, Nat.reduceMul, Nat.reduceEqDiff, Nat.reduceLT, Nat.reduceLeDiff, Int.reduceToNat, Int.reduceLE, Int.reduceLT, Int.reduceEq, Int.reduceNeg, reduceCtorEq] <;> (try simp [catF])); all_goals (repeat' first | assumption | exact nestF_bd _ _ _ _ _ _ _ _ _ | exact nestF_bd1 _ _ _ _ _ _ _ _ _ | exact fun _ _ => nestF_bd1 _ _ _ _ _ _ _ _ _ | exact fun _ _ _ _ => nestF_bd1 _ _ _ _ _ _ _ _ _ | exact fun x hx => catF_one _ hx | refine And.intro ?_ ?_); all_goals exact ⟨nestF_bd _ _ _ _ _ _ _ _ _, nestF_bd _ _ _ _ _ _ _ _ _⟩) ?_
      rintro ⟨k, hk, h4⟩
      simp only [ints_eq, p26_6, p26_12, nestF_eq, nestR_lit, nsM_lit, nsV_lit, Try.f26, go_sem, ↓reduceIte, Nat.reduceAdd, Nat.reduceSub, Nat.reduceMul, Nat.reduceEqDiff, Nat.reduceLT, Nat.reduceLeDiff, Int.reduceToNat, Int.reduceLE, Int.reduceLT, Int.reduceEq, Int.reduceNeg, reduceCtorEq]
      have hw4 : IntKind.i64.wrap ((k : Int) + 1) = ((k + 1 : Nat) : Int) := by rw [wrap_id (by omega) (by omega)]; omega
      refine ⟨fun e2 => ?_, fun e2 => ?_⟩
      all_goals simp only [decide_eq_true_eq, decide_eq_false_iff_not] at e2
      · refine ⟨⟨by kernel_rfl, by kernel_rfl⟩, ⟨by omega, by omega⟩, ⟨by omega, by omega⟩, fun e3 => bad ?_, fun e3 => ⟨⟨k + 1, by omega, below h4 (by simp only [Bool.not_eq_false'] at e3; exact e3)⟩, by simp only []; omega, ?_⟩⟩
        · have := allU_false (p := fun k => decide (V i k 0 = W i k 0) && decide (V i k 1 = W i k 1)) (n := M i) (i := k) (by omega) (by simp only [Bool.not_eq_true'] at e3; exact e3)
          simp only [same1, this, Bool.and_false]
        · apply sub_of <;> simp only [hw4, go_sem, ↓reduceIte, Nat.reduceAdd, Nat.reduceSub, Nat.reduceMul, Nat.reduceEqDiff, Nat.reduceLT, Nat.reduceLeDiff, Int.reduceToNat, Int.reduceLE, Int.reduceLT, Int.reduceEq, Int.reduceNeg, reduceCtorEq] <;> (try simp)
          all_goals (repeat' first | assumption | exact nestF_bd _ _ _ _ _ _ _ _ _ | exact nestF_bd1 _ _ _ _ _ _ _ _ _ | exact fun _ _ => nestF_bd1 _ _ _ _ _ _ _ _ _ | exact fun _ _ _ _ => nestF_bd1 _ _ _ _ _ _ _ _ _ | exact fun x hx => catF_one _ hx | refine And.intro ?_ ?_)
          all_goals exact ⟨nestF_bd _ _ _ _ _ _ _ _ _, nestF_bd _ _ _ _ _ _ _ _ _⟩
      · obtain rfl : k = M i := by omega
        refine ⟨⟨i + 1, by omega, below h3 (by simp only [same1, b1, b2, b3, b4, b5, decide_true, Bool.true_and, allU_true h4])⟩, by simp only []; omega, ?_⟩
        apply sub_of <;> simp only [hw3, go_sem, ↓reduceIte, Nat.reduceAdd, Nat.reduceSub, Nat.reduceMul, Nat.reduceEqDiff, Nat.reduceLT, Nat.reduceLeDiff, Int.reduceToNat, Int.reduceLE, Int.reduceLT, Int.reduceEq, Int.reduceNeg, reduceCtorEq] <;> (try simp)
        all_goals (repeat' first | assumption | exact nestF_bd _ _ _ _ _ _ _ _ _ | exact nestF_bd1 _ _ _ _ _ _ _ _ _ | exact fun _ _ => nestF_bd1 _ _ _ _ _ _ _ _ _ | exact fun _ _ _ _ => nestF_bd1 _ _ _ _ _ _ _ _ _ | exact fun x hx => catF_one _ hx | refine And.intro ?_ ?_)
    · refine loop_ofH { k : Nat // k ≤ M i ∧ ∀ j, j < k → (fun k => decide (V i k 0 = W i k 0) && decide (V i k 1 = W i k 1)) j = true } (fun k => [(8, .int .i64 (k.1 : Int)), (7, .ptr 2 0), (6, .ptr 3 0), (5, .int .i64 (i : Int)), (3, .ptr 1 0), (2, .ptr 0 0)]) (fun h _ => h) (fun k => M i - k.1) (fun _ => ⟨rfl, rfl⟩) ⟨0, by omega, by omega⟩ (by (apply sub_of <;> simp only [go_sem, ↓reduceIte, Nat.reduceAdd, Nat.reduceSub, Nat.reduceMul, Nat.reduceEqDiff, Nat.reduceLT, Nat.reduceLeDiff, Int.reduceToNat, Int.reduceLE, Int.reduceLT, Int.reduceEq, Int.reduceNeg, reduceCtorEq] <;> (try simp [catF])); all_goals (repeat' first | assumption | exact nestF_bd _ _ _ _ _ _ _ _ _ | exact nestF_bd1 _ _ _ _ _ _ _ _ _ | exact fun _ _ => nestF_bd1 _ _ _ _ _ _ _ _ _ | exact fun _ _ _ _ => nestF_bd1 _ _ _ _ _ _ _ _ _ | exact fun x hx => catF_one _ hx | refine And.intro ?_ ?_); all_goals exact ⟨nestF_bd _ _ _ _ _ _ _ _ _, nestF_bd _ _ _ _ _ _ _ _ _⟩) ?_
      rintro ⟨k, hk, h4⟩
      simp only [ints_eq, p26_6, p26_12, nestF_eq, nestR_lit, nsM_lit, nsV_lit, Try.f26, go_sem, ↓reduceIte, Nat.reduceAdd, Nat.reduceSub, Nat.reduceMul, Nat.reduceEqDiff, Nat.reduceLT, Nat.reduceLeDiff, Int.reduceToNat, Int.reduceLE, Int.reduceLT, Int.reduceEq, Int.reduceNeg, reduceCtorEq]
      have hw4 : IntKind.i64.wrap ((k : Int) + 1) = ((k + 1 : Nat) : Int) := by rw [wrap_id (by omega) (by omega)]; omega
      refine ⟨fun e2 => ?_, fun e2 => ?_⟩
      all_goals simp only [decide_eq_true_eq, decide_eq_false_iff_not] at e2
      · refine ⟨⟨by kernel_rfl, by kernel_rfl⟩, ⟨by omega, by omega⟩, ⟨by omega, by omega⟩, fun e3 => bad ?_, fun e3 => ⟨⟨k + 1, by omega, below h4 (by simp only [Bool.not_eq_false'] at e3; exact e3)⟩, by simp only []; omega, ?_⟩⟩
        · have := allU_false (p := fun k => decide (V i k 0 = W i k 0) && decide (V i k 1 = W i k 1)) (n := M i) (i := k) (by omega) (by simp only [Bool.not_eq_true'] at e3; exact e3)
          simp only [same1, this, Bool.and_false]
        · apply sub_of <;> simp only [hw4, go_sem, ↓reduceIte, Nat.reduceAdd, Nat.reduceSub, Nat.reduceMul, Nat.reduceEqDiff, Nat.reduceLT, Nat.reduceLeDiff, Int.reduceToNat, Int.reduceLE, Int.reduceLT, Int.reduceEq, Int.reduceNeg, reduceCtorEq] <;> (try simp)
          all_goals (repeat' first | assumption | exact nestF_bd _ _ _ _ _ _ _ _ _ | exact nestF_bd1 _ _ _ _ _ _ _ _ _ | exact fun _ _ => nestF_bd1 _ _ _ _ _ _ _ _ _ | exact fun _ _ _ _ => nestF_bd1 _ _ _ _ _ _ _ _ _ | exact fun x hx => catF_one _ hx | refine And.intro ?_ ?_)
          all_goals exact ⟨nestF_bd _ _ _ _ _ _ _ _ _, nestF_bd _ _ _ _ _ _ _ _ _⟩
      · obtain rfl : k = M i := by omega
        refine ⟨⟨i + 1, by omega, below h3 (by simp only [same1, b1, b2, b3, b4, b5, decide_true, Bool.true_and, allU_true h4])⟩, by simp only []; omega, ?_⟩
        apply sub_of <;> simp only [hw3, go_sem, ↓reduceIte, Nat.reduceAdd, Nat.reduceSub, Nat.reduceMul, Nat.reduceEqDiff, Nat.reduceLT, Nat.reduceLeDiff, Int.reduceToNat, Int.reduceLE, Int.reduceLT, Int.reduceEq, Int.reduceNeg, reduceCtorEq] <;> (try simp)
        all_goals (repeat' first | assumption | exact nestF_bd _ _ _ _ _ _ _ _ _ | exact nestF_bd1 _ _ _ _ _ _ _ _ _ | exact fun _ _ => nestF_bd1 _ _ _ _ _ _ _ _ _ | exact fun _ _ _ _ => nestF_bd1 _ _ _ _ _ _ _ _ _ | exact fun x hx => catF_one _ hx | refine And.intro ?_ ?_)
  · obtain rfl : i = n := by omega
    rw [allU_true h3]
    refine ⟨fun d1 => ⟨fun d2 => ⟨fun d3 => ?_, fun d3 => ?_⟩, fun d2 => ?_⟩, fun d1 => ?_⟩
    · rw [d1, d2, d3]; rfl
    · rw [d1, d2, d3]; rfl
    · rw [d1, d2]; rfl
    · rw [d1]; rfl
end Go.Eng
end
