/-
  PressLeast: for every input the law returns true, and each argument reads afterwards as it read before. No condition.
-/
import Derived.Test.YtdecicbgjkeefaaRows
import Derived.WalkKit
import Derived.Test.YtdecicbgjkeefaaP4
set_option linter.unusedSimpArgs false
set_option linter.unusedVariables false
/- press: no plan costs less than the cheapest one. -/
section
namespace Go.Eng
open Go Go.RowKit Go.Proofs
set_option maxRecDepth 100000
set_option maxHeartbeats 4000000
attribute [local irreducible] OwnT DefS
theorem rdB_own {D : PD} (hD : D.Ok) {x : Int × T3} (hb : bestM D D.h (begP D) = some x) : rdB D.n D.M D.h (fun _ => D.n) (plV (cAt D)) = true := by
  refine allU_iff.2 fun i hi => ?_
  obtain ⟨q, h1, h2⟩ := cAt_dig hD hb hi
  have := dig_ok hD h1
  simp only [rdRow, Bool.and_eq_true, decide_eq_true_eq, allU_iff, in3_iff, plV, h2]
  exact ⟨trivial, fun a ha => this a ha⟩
theorem forms_own {D : PD} (hD : D.Ok) {x : Int × T3} (hb : bestM D D.h (begP D) = some x) : formsB D.n D.M D.h (fun _ => D.n) (plV (cAt D)) = true := by
  refine allU_iff.2 fun i hi => ?_
  obtain ⟨q, h1, h2⟩ := cAt_dig hD hb hi
  have := dig_ok hD h1
  simp only [formB, Bool.and_eq_true, decide_eq_true_eq, allU_iff, in3_iff, plV, h2]
  exact ⟨trivial, fun a ha => this a ha⟩
theorem ck_own {D : PD} (hD : D.Ok) {x : Int × T3} (hb : bestM D D.h (begP D) = some x) : ckR D true D.h (fun _ => D.n) (plV (cAt D)) = plM D (cAt D) D.h := by
  simp only [ckR, rdB_own hD hb, decide_true, Bool.and_true, if_true]
  exact plM_congr D.h (fun i hi => chT_cAt hD hb hi)
theorem ck_other {D : PD} (hD : D.Ok) {K : Nat → Nat} {W : Nat → Nat → Nat → Int} (he : (ckR D true D.h K W).e = 0) :
    rdB D.n D.M D.h K W = true ∧ ckR D true D.h K W = plM D (fun i => chT D.n (W i)) D.h ∧ (∀ i, i < D.h → chZ D (chT D.n (W i))) := by
  unfold ckR at he ⊢
  simp only [if_true, decide_true, Bool.and_true] at he ⊢
  by_cases hr : rdB D.n D.M D.h K W = true
  · rw [if_pos hr]
    exact ⟨hr, rfl, fun i hi => chT_chZ hD (rdB_ok hr hi).2⟩
  · rw [if_neg hr] at he; simp [plBad] at he
theorem sum_wrap {D : PD} (hD : D.Ok) {C : Nat → T3} (hc : ∀ i, i < D.h → chOk D (C i)) (he : (plM D C D.h).e = 0) : IntKind.i64.wrap (IntKind.i64.wrap ((plM D C D.h).en + (plM D C D.h).st) + (plM D C D.h).s.pk * D.pk) = (plM D C D.h).en + (plM D C D.h).st + (plM D C D.h).s.pk * D.pk := by
  obtain ⟨h1, h2, h3⟩ := plM_ok hD D.h (Nat.le_refl _) hc he
  have hh := hD.h
  have q1 := mulB (x := (plM D C D.h).s.pk) (y := D.pk) (m := 3000) (k := 10000) h1.2.2 hD.pk
  rw [wrap_id (x := (plM D C D.h).en + (plM D C D.h).st) (by omega) (by omega), wrap_id (by omega) (by omega)]
def pressLeastBase : BaseF := fun args => match args with
  | [.agg [.row n sz_A f_A, .row h sz_nd f_nd, .row q sz_pr f_pr, .int .i64 st, .int .i64 ro, .int .i64 pk, .int .i64 fr], .row m sz_by_ f_by_] => some ((sz_A = 5 ∧ NestR n 5 0 2 f_A) ∧ (sz_nd = 1 ∧ IntR h 1 f_nd) ∧ (sz_pr = 1 ∧ IntR q 1 f_pr) ∧ (sz_by_ = 1 ∧ IntK .u8 m 1 f_by_), .bool true)
  | _ => none
theorem pressLeast_eq (n : Nat) (sz_A : Nat) (f_A : Nat → Nat → SV) (h : Nat) (sz_nd : Nat) (f_nd : Nat → Nat → SV) (q : Nat) (sz_pr : Nat) (f_pr : Nat → Nat → SV) (st : Int) (ro : Int) (pk : Int) (fr : Int) (m : Nat) (sz_by_ : Nat) (f_by_ : Nat → Nat → SV) : pressLeastBase [.agg [.row n sz_A f_A, .row h sz_nd f_nd, .row q sz_pr f_pr, .int .i64 st, .int .i64 ro, .int .i64 pk, .int .i64 fr], .row m sz_by_ f_by_] = some ((sz_A = 5 ∧ NestR n 5 0 2 f_A) ∧ (sz_nd = 1 ∧ IntR h 1 f_nd) ∧ (sz_pr = 1 ∧ IntR q 1 f_pr) ∧ (sz_by_ = 1 ∧ IntK .u8 m 1 f_by_), .bool true) := rfl
theorem pressLeast_base : Base Try.prog 4 pressLeastBase := by
  intro args p v hq hp
  unfold pressLeastBase at hq
  split at hq
  rotate_left
  · cases hq
  rename_i n sz_A f_A h sz_nd f_nd q sz_pr f_pr st ro pk fr m sz_by_ f_by_
  cases hq
  obtain ⟨⟨rfl, i_A⟩, ⟨rfl, i_nd⟩, ⟨rfl, i_pr⟩, ⟨rfl, i_by_⟩⟩ := hp
  refine base_of (C := cxn [] [(14, cheapestBase), (18, someBase)] [] [(11, greatBase), (12, slowBase), (13, aliveBase), (16, plansBase), (17, pressesBase), (19, checkBase), (20, sumBase), (21, formsBase), (22, beforeBase)] [] none) (cxn_ok ⟨cheapest_base, some_base, trivial⟩ trivial ⟨great_base, slow_base, alive_base, plans_base, presses_base, check_base, sum_base, forms_base, before_base, trivial⟩) rfl (g := 4) (fn := Try.f4)
    (args' := [.agg [.row n 5 (nestF 0 2 (nsA f_A) (nsM 0 f_A) (nsV 0 f_A)), .row h 1 (rowF .i64 (ivf f_nd)), .row q 1 (rowF .i64 (ivf f_pr)), .int .i64 st, .int .i64 ro, .int .i64 pk, .int .i64 fr], .row m 1 (rowF .u8 (ivf f_by_))]) (fn_4) rfl 1000 (by
    simp only [BdL, Bd, and_self, and_true, true_and]
    exact ⟨⟨(fun i j hi hj => nest_bd i_A i j hi hj), (fun i j hi hj => by rw [i_nd i j hi hj]; trivial), (fun i j hi hj => by rw [i_pr i j hi hj]; trivial)⟩, (fun i j hi hj => by rw [i_by_ i j hi hj]; trivial)⟩) ⟨SameD.agg ⟨SameD.nest i_A, SameD.int i_nd, SameD.int i_pr, SameD.rfl' _, SameD.rfl' _, SameD.rfl' _, SameD.rfl' _, trivial⟩, SameD.intK i_by_, trivial⟩ ?_
  generalize nsA f_A = A
  generalize nsM 0 f_A = M
  generalize nsV 0 f_A = V
  generalize ivf f_nd = nd
  generalize ivf f_pr = pr
  generalize ivf f_by_ = by_
  simp only [rowF_eq]
  simp only [slow_eq, alive_eq, plans_eq, presses_eq, check_eq, sum_eq, forms_eq, before_eq, cheapest_eq, some_eq, great_nil, great0_eq, chE_ns, chC_ns, chN_ns, cAt_ns, psB_ns, ckR_ns, planF, nestF_eq, nestR_lit, nsM_lit, nsV_lit, Try.f4, go_sem, ↓reduceIte, Nat.reduceAdd, Nat.reduceSub, Nat.reduceMul, Nat.reduceEqDiff, Nat.reduceLT, Nat.reduceLeDiff, Int.reduceToNat, Int.reduceLE, Int.reduceLT, Int.reduceEq, Int.reduceNeg, reduceCtorEq]
  refine ⟨fun _ => trivial, fun c1 => ?_⟩
  obtain ⟨h1, h2, h3, h4⟩ := gr0_false c1
  have hm : ∀ i, i < n → M i ≤ 1000000 := fun i hi => by have := h2 i hi; omega
  have hN := chN_le (psB n A M V h nd q pr st ro pk fr) ⟨n, A, M, V, h, nd, pr, st, ro, pk, fr⟩
  simp only [] at hN
  generalize hb : psB n A M V h nd q pr st ro pk fr = b at *
  cases b with
  | false =>
    have e1 : ∀ D, chE false D = 1 := fun _ => rfl
    have e2 : ∀ D, chN false D = 0 := fun _ => rfl
    have e3 : ∀ D, chC false D = 0 := fun _ => rfl
    simp only [e1, e2, e3, go_sem, ↓reduceIte, Nat.reduceAdd, Nat.reduceSub, Nat.reduceMul, Nat.reduceEqDiff, Nat.reduceLT, Nat.reduceLeDiff, Int.reduceToNat, Int.reduceLE, Int.reduceLT, Int.reduceEq, Int.reduceNeg, reduceCtorEq]
    refine ⟨⟨h1, h2, by omega⟩, fun _ => trivial, fun _ => ⟨fun _ => trivial, fun _ => ⟨⟨⟨by omega, hm⟩, by omega, by omega⟩, fun _ => ⟨⟨by omega, hm⟩, by omega, by omega⟩, fun e => absurd e (by simp)⟩⟩⟩
  | true =>
    obtain ⟨rfl, hOk⟩ := psB_iff.1 hb
    generalize hD : (⟨n, A, M, V, q, nd, pr, st, ro, pk, fr⟩ : PD) = D at hOk hN ⊢
    have d0 : n = D.n := by rw [← hD]
    have d1 : A = D.A := by rw [← hD]
    have d2 : M = D.M := by rw [← hD]
    have d3 : V = D.V := by rw [← hD]
    have d4 : q = D.h := by rw [← hD]
    have d5 : nd = D.nd := by rw [← hD]
    have d6 : pr = D.pr := by rw [← hD]
    have d7 : st = D.st := by rw [← hD]
    have d8 : ro = D.ro := by rw [← hD]
    have d9 : pk = D.pk := by rw [← hD]
    have d10 : fr = D.fr := by rw [← hD]
    clear hD
    subst d0 d1 d2 d3 d4 d5 d6 d7 d8 d9 d10
    cases hbest : bestM D D.h (begP D) with
    | none =>
      have e1 : chE true D = 4 := by simp only [chE, hbest]; rfl
      have e2 : chN true D = 0 := by simp only [chN, e1]; rfl
      have e3 : chC true D = 0 := by simp only [chC, e1]; rfl
      simp only [e1, e2, e3, go_sem, ↓reduceIte, Nat.reduceAdd, Nat.reduceSub, Nat.reduceMul, Nat.reduceEqDiff, Nat.reduceLT, Nat.reduceLeDiff, Int.reduceToNat, Int.reduceLE, Int.reduceLT, Int.reduceEq, Int.reduceNeg, reduceCtorEq]
      refine ⟨⟨h1, h2, by omega⟩, fun _ => trivial, fun _ => ⟨fun _ => trivial, fun c3 => ⟨⟨⟨by omega, hm⟩, by omega⟩, ⟨⟨by omega, hm⟩, by omega⟩, ⟨h1, by omega, by simp at c3; omega, h2⟩, ⟨⟨⟨by omega, hm⟩, by omega⟩, by omega, fun _ _ => by omega⟩, fun _ => ⟨fun _ => trivial, fun c4 => ?_⟩, fun e => absurd e (by simp)⟩⟩⟩
      simp only [Bool.not_eq_false', decide_eq_true_eq] at c4
      obtain ⟨g1, g2, g3⟩ := ck_other hOk c4
      rw [g2] at c4
      obtain ⟨y, h5, _⟩ := plM_tl c4 D.h (Nat.le_refl _)
      rw [Nat.sub_self] at h5
      obtain ⟨z, h6, _⟩ := best_le hOk g3 D.h _ y (Nat.le_refl _) h5
      have h7 : (plM D (fun i => chT D.n (somV D.n D.M m by_ i)) 0).s = begP D := rfl
      rw [h7, hbest] at h6
      cases h6
    | some x =>
      have e1 : chE true D = 0 := by simp only [chE, hbest]; rfl
      have e2 : chN true D = D.h := by simp only [chN, e1]; rfl
      have e3 : chC true D = x.1 := by simp only [chC, e1, hbest]; rfl
      simp only [e1, e2, e3, ck_own hOk hbest, forms_own hOk hbest, go_sem, ↓reduceIte, Nat.reduceAdd, Nat.reduceSub, Nat.reduceMul, Nat.reduceEqDiff, Nat.reduceLT, Nat.reduceLeDiff, Int.reduceToNat, Int.reduceLE, Int.reduceLT, Int.reduceEq, Int.reduceNeg, reduceCtorEq]
      obtain ⟨o1, o2, o3⟩ := own_sum hOk hbest
      have hcd : ∀ i, i < D.h → chOk D (cAt D i) := fun i hi => by obtain ⟨p, hp, e⟩ := cAt_dig hOk hbest hi; rw [e]; exact dig_ok hOk hp
      rw [sum_wrap hOk hcd o1, o1, o2, o3]
      refine ⟨⟨h1, h2, by omega⟩, fun _ => trivial, fun _ => ⟨fun _ => trivial, fun c3 => ⟨⟨⟨by omega, hm⟩, by omega⟩, ⟨⟨by omega, hm⟩, by omega⟩, ⟨h1, by omega, by simp at c3; omega, h2⟩, ⟨⟨⟨by omega, hm⟩, by omega⟩, by omega, fun _ _ => by omega⟩, ⟨⟨⟨by omega, hm⟩, by omega⟩, by omega, fun _ _ => by omega⟩, fun e => absurd e (by simp), fun _ => ⟨fun e => absurd e (by simp), fun _ => ⟨fun e => absurd e (by simp), fun _ => ⟨⟨by omega, fun _ _ => by omega⟩, fun _ => trivial, fun c4 => ?_⟩⟩⟩⟩⟩⟩
      simp only [Bool.not_eq_false', decide_eq_true_eq] at c4
      obtain ⟨g1, g2, g3⟩ := ck_other hOk c4
      rw [g2] at c4 ⊢
      rw [sum_wrap hOk (fun i hi => (g3 i hi).1) c4]
      obtain ⟨y, h5, h6⟩ := plM_tl c4 D.h (Nat.le_refl _)
      rw [Nat.sub_self] at h5 h6
      have h7 : (plM D (fun i => chT D.n (somV D.n D.M m by_ i)) 0).s = begP D := rfl
      have h8 : (plM D (fun i => chT D.n (somV D.n D.M m by_ i)) 0).en = 0 := rfl
      have h9 : (plM D (fun i => chT D.n (somV D.n D.M m by_ i)) 0).st = 0 := rfl
      rw [h7] at h5
      rw [h8, h9] at h6
      rw [← h6]
      obtain ⟨z, h10, h11⟩ := best_le hOk g3 D.h _ y (Nat.le_refl _) h5
      rw [hbest] at h10
      cases h10
      refine ⟨fun _ => trivial, fun c5 => ?_⟩
      simp only [decide_eq_false_iff_not] at c5
      have heq : x.1 = y.1 := by omega
      refine ⟨fun _ => ⟨⟨by omega, by omega, fun _ _ => ⟨by omega, by omega⟩⟩, fun _ => trivial, fun c7 => ?_⟩, fun c6 => ?_⟩
      · have hl := best_lex hOk (by rw [hbest]; rfl) g3 (W := somV D.n D.M m by_) (fun i a hi ha => (chT_get ha (by have := hOk.n; omega) _).symm) D.h y x (Nat.le_refl _) (by rw [Nat.sub_self]; exact h5) (by rw [Nat.sub_self]; exact hbest) heq
        rw [Nat.sub_self] at hl
        rw [hl] at c7
        cases c7
      · simp only [decide_eq_false_iff_not] at c6
        exact absurd (by omega) c6
end Go.Eng
end

/-
  PressLeast: for every input the law returns true, and each argument reads afterwards as it read before. No condition.
-/
section
namespace Go.Proofs.Ytdecicbgjkeefaa.pressLeast
open Go.ChangeShapes Go.WideShapes Go.ChangeAt Go.RowKit Go.Eng
set_option linter.unusedVariables false
theorem own : ownKnob Try.prog.godebug = none := by kernel_rfl
theorem laid : laidOutB Try.prog = true := by kernel_rfl
set_option maxRecDepth 100000 in
theorem lifted (os : Os) (started : os.Started) (H : Type) (enc : TypeId × Value → H) :
    ReturnsInHanded {} Try.checked os 4 .any (Rows.pressLeastSpec.pre6 enc Try.prog Try.f4 Rows.pressLeastRow.domain false) (Rows.pressLeastSpec.post enc Try.prog Try.f4 false true false false) := by
  refine returnsInHanded_of_change (C := Try.checked) own started (by kernel_rfl) Try.func4
    (ChangeSpec.witness6 (enc := enc) (C := Try.checked) false ⟨#[], #[.agg #[.slice none 0 0, .slice none 0 0, .slice none 0 0, .int .i64 0, .int .i64 0, .int .i64 0, .int .i64 0], .slice none 0 0], []⟩ 8 (by kernel_rfl) (by kernel_rfl) (by kernel_rfl) (by kernel_rfl)) ?_
  intro W base args ds gs before hval0 hW hcnd _
  have hval : ∀ (j : Nat) t v, Try.f4.params[j]? = some t → args[j]? = some v → Value.okWide Try.prog W .any base t v := hval0
  have hW' := hW
  obtain ⟨p, q, hA0, hV, rfl, hfz, hnd⟩ := hW
  have hA : DataW.TrodAll enc Try.prog W 0 (fun _ => true) true Try.f4.params.toList args.toList ds p := hA0
  rw [Try.params4] at hA hval
  obtain ⟨v0, vs0, d0, ds0, p0, q0, hargs, rfl, rfl, h0, r0⟩ := trodAll_cons hA
  obtain ⟨v1, vs1, d1, ds1, p1, q1, rfl, rfl, rfl, h1, r1⟩ := trodAll_cons r0
  obtain ⟨rfl, rfl, rfl⟩ := trodAll_nil r1
  obtain rfl : args = #[v0, v1] := by cases args; simp_all
  obtain ⟨rfl, rfl⟩ := trodVars_none hV
  obtain ⟨xs0, e0, l0, t0⟩ := arg_agg (shs := [.sl [.sl [.int .i64, .int .i64], .int .i64, .int .i64, .int .i64, .int .i64], .sl [.int .i64], .sl [.int .i64], .int .i64, .int .i64, .int .i64, .int .i64]) Try.underlying25 (by kernel_rfl) (hval 0 25 v0 rfl rfl) h0
  obtain ⟨a0_0, a0_1, a0_2, a0_3, a0_4, a0_5, a0_6, rfl⟩ : ∃ a0_0 a0_1 a0_2 a0_3 a0_4 a0_5 a0_6, xs0 = [a0_0, a0_1, a0_2, a0_3, a0_4, a0_5, a0_6] := by
    match xs0, l0 with
    | [a0_0, a0_1, a0_2, a0_3, a0_4, a0_5, a0_6], _ => exact ⟨a0_0, a0_1, a0_2, a0_3, a0_4, a0_5, a0_6, rfl⟩
  obtain ⟨n0_0, f0_0, rfl, m0_0, s0_0⟩ := typ_sl (t0 0 _ _ rfl rfl)
  obtain ⟨i0_0, b0_0, c0_0, g0_0⟩ := nestR_typ (sz := 5) (k := 0) (s := 2) (by intro j hj hk; rcases (show j = 0 ∨ j = 1 ∨ j = 2 ∨ j = 3 ∨ j = 4 by omega) with rfl | rfl | rfl | rfl | rfl <;> first | rfl | exact absurd rfl hk) rfl s0_0
  obtain ⟨n0_1, f0_1, rfl, m0_1, s0_1⟩ := typ_sl (t0 1 _ _ rfl rfl)
  obtain ⟨i0_1, b0_1⟩ := intK_of_typ (k := .i64) (c := 1) rfl s0_1
  obtain ⟨n0_2, f0_2, rfl, m0_2, s0_2⟩ := typ_sl (t0 2 _ _ rfl rfl)
  obtain ⟨i0_2, b0_2⟩ := intK_of_typ (k := .i64) (c := 1) rfl s0_2
  obtain ⟨x0_3, rfl, w0_3⟩ := typ_int (t0 3 _ _ rfl rfl)
  obtain ⟨x0_4, rfl, w0_4⟩ := typ_int (t0 4 _ _ rfl rfl)
  obtain ⟨x0_5, rfl, w0_5⟩ := typ_int (t0 5 _ _ rfl rfl)
  obtain ⟨x0_6, rfl, w0_6⟩ := typ_int (t0 6 _ _ rfl rfl)
  obtain ⟨n1, f1, e1, m1, t1⟩ := arg_row (s := [.int .u8]) Try.underlying35 (by kernel_rfl) (hval 1 35 v1 rfl rfl) h1
  obtain ⟨i1, b1⟩ := intK_of_typ (k := .u8) (c := 1) rfl t1
  have hd : DenL Env.emp W [.agg [.row n0_0 5 f0_0, .row n0_1 1 f0_1, .row n0_2 1 f0_2, .int .i64 x0_3, .int .i64 x0_4, .int .i64 x0_5, .int .i64 x0_6], .row n1 1 f1] [v0, v1] := ⟨e0, e1, trivial⟩
  refine (law_calls pressLeast_base (args := [.agg [.row n0_0 5 f0_0, .row n0_1 1 f0_1, .row n0_2 1 f0_2, .int .i64 x0_3, .int .i64 x0_4, .int .i64 x0_5, .int .i64 x0_6], .row n1 1 f1]) rfl ⟨⟨rfl, i0_0⟩, ⟨rfl, fun i j hi hj => i0_1 i j hi hj⟩, ⟨rfl, fun i j hi hj => i0_2 i j hi hj⟩, ⟨rfl, fun i j hi hj => i1 i j hi hj⟩⟩ (denA_of hd)).mono fun e W' ⟨he, hb⟩ => ?_
  subst he
  exact ⟨_, rfl, law_end laid rfl Try.underlying4 (by kernel_rfl) rfl hW' rfl hb⟩
theorem over : Rows.pressLeastRow.holds Try.pinned (OpenSpec.ofChange Rows.pressLeastSpec) :=
  OpenClaim.holds_of_wide 4 Try.f4 rfl rfl rfl rfl rfl rfl rfl ⟨rfl, rfl, rfl, rfl, rfl⟩ rfl rfl rfl rfl rfl (by kernel_rfl) Try.func4 (by kernel_rfl)
    (of_decide_eq_true (by kernel_rfl)) (by unfold Func.isWrapper; first | (rw [if_pos (by decide +kernel)]; kernel_rfl) | (rw [if_neg (by decide +kernel)]; exact ⟨rfl, rfl⟩))
    (fun os started H enc _ => lifted os started H enc)
end Go.Proofs.Ytdecicbgjkeefaa.pressLeast
namespace Go.Proofs.Ytdecicbgjkeefaa
/-- The given statement. -/
theorem pressLeast_holds : Rows.PressLeastSaid := pressLeast.over
#print axioms pressLeast_holds
end Go.Proofs.Ytdecicbgjkeefaa
end
