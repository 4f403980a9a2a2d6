/-
  PressRest: for every input the law returns true, and each argument reads afterwards as it read before. No condition.
-/
import Derived.Test.YtdecicbgjkeefaaRows
import Derived.WalkKit
import Derived.Test.YtdecicbgjkeefaaP6
set_option linter.unusedSimpArgs false
set_option linter.unusedVariables false
/- press: what is left of the cheapest plan is the cheapest plan of what is left. -/
section
namespace Go.Eng
open Go Go.RowKit Go.Proofs
set_option maxRecDepth 100000
set_option maxHeartbeats 4000000
attribute [local irreducible] OwnT DefS
theorem hour_h (D : PD) (k : Nat) (s : PS) (hr : Nat) (c : T3) : hourP { D with h := k } s hr c = hourP D s hr c := by
  have : ∀ i, stepsP { D with h := k } s.on c (s.sto - D.nd hr 0) i = stepsP D s.on c (s.sto - D.nd hr 0) i := fun i => by
    induction i with
    | zero => rfl
    | succ i ih => simp only [stepsP, ih]; rfl
  simp only [hourP, this]
theorem plM_h (D : PD) (k : Nat) (C : Nat → T3) : ∀ j, plM { D with h := k } C j = plM D C j
  | 0 => rfl
  | j + 1 => by simp only [plM, plStep, plM_h D k C j, hour_h]
theorem Ok_h {D : PD} (hD : D.Ok) {k : Nat} (hk : k ≤ D.h) : PD.Ok { D with h := k } :=
  ⟨hD.n, Nat.le_trans hk hD.h, fun i hi => hD.nd i (Nat.lt_of_lt_of_le hi hk), fun i hi => hD.pr i (Nat.lt_of_lt_of_le hi hk), hD.oil, hD.least, hD.on, hD.start, hD.M, hD.pow, hD.cold, hD.ro, hD.st, hD.pk, hD.fr⟩
def pressRestBase : BaseF := fun args => match args with
  | [.agg [.row n sz_A f_A, .row h sz_nd f_nd, .row q sz_pr f_pr, .int .i64 st, .int .i64 ro, .int .i64 pk, .int .i64 fr], .int .u8 cut] => some ((sz_A = 5 ∧ NestR n 5 0 2 f_A) ∧ (sz_nd = 1 ∧ IntR h 1 f_nd) ∧ (sz_pr = 1 ∧ IntR q 1 f_pr) ∧ ((Lit.int .u8 cut).wf = true), .bool true)
  | _ => none
theorem pressRest_eq (n : Nat) (sz_A : Nat) (f_A : Nat → Nat → SV) (h : Nat) (sz_nd : Nat) (f_nd : Nat → Nat → SV) (q : Nat) (sz_pr : Nat) (f_pr : Nat → Nat → SV) (st : Int) (ro : Int) (pk : Int) (fr : Int) (cut : Int) : pressRestBase [.agg [.row n sz_A f_A, .row h sz_nd f_nd, .row q sz_pr f_pr, .int .i64 st, .int .i64 ro, .int .i64 pk, .int .i64 fr], .int .u8 cut] = some ((sz_A = 5 ∧ NestR n 5 0 2 f_A) ∧ (sz_nd = 1 ∧ IntR h 1 f_nd) ∧ (sz_pr = 1 ∧ IntR q 1 f_pr) ∧ ((Lit.int .u8 cut).wf = true), .bool true) := rfl
theorem pressRest_base : Base Try.prog 9 pressRestBase := by
  intro args p v hq hp
  unfold pressRestBase at hq
  split at hq
  rotate_left
  · cases hq
  rename_i n sz_A f_A h sz_nd f_nd q sz_pr f_pr st ro pk fr cut
  cases hq
  obtain ⟨⟨rfl, i_A⟩, ⟨rfl, i_nd⟩, ⟨rfl, i_pr⟩, wf_cut⟩ := hp
  refine base_of (C := cxn [] [(14, cheapestBase), (24, behindBase)] [] [(11, greatBase), (12, slowBase), (13, aliveBase), (16, plansBase), (19, checkBase), (20, sumBase)] [(9, 10, p9_10), (9, 14, p9_14)] none) (cxn_ok ⟨cheapest_base, behind_base, trivial⟩ trivial ⟨great_base, slow_base, alive_base, plans_base, check_base, sum_base, trivial⟩) rfl (g := 9) (fn := Try.f9)
    (args' := [.agg [.row n 5 (nestF 0 2 (nsA f_A) (nsM 0 f_A) (nsV 0 f_A)), .row h 1 (rowF .i64 (ivf f_nd)), .row q 1 (rowF .i64 (ivf f_pr)), .int .i64 st, .int .i64 ro, .int .i64 pk, .int .i64 fr], .int .u8 cut]) (fn_9) rfl 1000 (by
    simp only [BdL, Bd, and_self, and_true, true_and]
    exact ⟨(fun i j hi hj => nest_bd i_A i j hi hj), (fun i j hi hj => by rw [i_nd i j hi hj]; trivial), (fun i j hi hj => by rw [i_pr i j hi hj]; trivial)⟩) ⟨SameD.agg ⟨SameD.nest i_A, SameD.int i_nd, SameD.int i_pr, SameD.rfl' _, SameD.rfl' _, SameD.rfl' _, SameD.rfl' _, trivial⟩, SameD.rfl' _, trivial⟩ ?_
  generalize nsA f_A = A
  generalize nsM 0 f_A = M
  generalize nsV 0 f_A = V
  generalize ivf f_nd = nd
  generalize ivf f_pr = pr
  simp only [rowF_eq]
  cases c1 : gr0 n M h q with
  | true => simp only [c1, slow_eq, alive_eq, plans_eq, check_eq, sum_eq, cheapest_eq, behind_eq, p9_10, p9_14, great_nil, great0_eq, prC, chE_ns, chC_ns, chN_ns, cAt_ns, psB_ns, ckR_ns, planF, nestF_sh, nestR_lit, nsM_lit, nsV_lit, Try.f9, go_sem, ↓reduceIte, Nat.reduceAdd, Nat.reduceSub, Nat.reduceMul, Nat.reduceEqDiff, Nat.reduceLT, Nat.reduceLeDiff, Int.reduceToNat, Int.reduceLE, Int.reduceLT, Int.reduceEq, Int.reduceNeg, reduceCtorEq]
  | false =>
  obtain ⟨h1, h2, h3, h4⟩ := gr0_false c1
  have hm : ∀ i, i < n → M i ≤ 1000000 := fun i hi => by have := h2 i hi; omega
  have hsl : n ≤ 6 ∧ (∀ (i : Nat), i < n → M i ≤ 6) ∧ h ≤ 1000000 := ⟨h1, h2, by omega⟩
  have hch : (n ≤ 1000000 ∧ ∀ (i : Nat), i < n → M i ≤ 1000000) ∧ h ≤ 1000000 ∧ q ≤ 1000000 := ⟨⟨by omega, hm⟩, by omega, by omega⟩
  cases c2 : slowB n M h 20000 with
  | true => simp only [c1, c2, slow_eq, alive_eq, plans_eq, check_eq, sum_eq, cheapest_eq, behind_eq, p9_10, p9_14, great_nil, great0_eq, prC, chE_ns, chC_ns, chN_ns, cAt_ns, psB_ns, ckR_ns, planF, nestF_sh, nestR_lit, nsM_lit, nsV_lit, Try.f9, go_sem, ↓reduceIte, Nat.reduceAdd, Nat.reduceSub, Nat.reduceMul, Nat.reduceEqDiff, Nat.reduceLT, Nat.reduceLeDiff, Int.reduceToNat, Int.reduceLE, Int.reduceLT, Int.reduceEq, Int.reduceNeg, reduceCtorEq]; exact hsl
  | false =>
  by_cases he : chE (psB n A M V h nd q pr st ro 0 fr) ⟨n, A, M, V, h, nd, pr, st, ro, 0, fr⟩ = 0
  rotate_left
  · have e3 : chN (psB n A M V h nd q pr st ro 0 fr) ⟨n, A, M, V, h, nd, pr, st, ro, 0, fr⟩ = 0 := by simp only [chN, if_neg he]
    have hd : decide (chE (psB n A M V h nd q pr st ro 0 fr) ⟨n, A, M, V, h, nd, pr, st, ro, 0, fr⟩ = 0) = false := decide_eq_false he
    simp only [c1, c2, hd, e3, slow_eq, alive_eq, plans_eq, check_eq, sum_eq, cheapest_eq, behind_eq, p9_10, p9_14, great_nil, great0_eq, prC, chE_ns, chC_ns, chN_ns, cAt_ns, psB_ns, ckR_ns, planF, nestF_sh, nestR_lit, nsM_lit, nsV_lit, Try.f9, go_sem, ↓reduceIte, Nat.reduceAdd, Nat.reduceSub, Nat.reduceMul, Nat.reduceEqDiff, Nat.reduceLT, Nat.reduceLeDiff, Int.reduceToNat, Int.reduceLE, Int.reduceLT, Int.reduceEq, Int.reduceNeg, reduceCtorEq]
    exact ⟨hsl, hch, fun _ => trivial, fun e => absurd e (by simp)⟩
  cases hb : psB n A M V h nd q pr st ro 0 fr with
  | false => rw [hb] at he; simp [chE] at he
  | true =>
  rw [hb] at he
  obtain ⟨rfl, hOk⟩ := psB_iff.1 hb
  have hOkN : PD.Ok ⟨n, nsA (nestF 0 2 A M V), M, V, q, nd, pr, st, ro, 0, fr⟩ := by rw [Ok_ns]; exact hOk
  rw [← chE_ns] at he
  have hc2 := cAt_ns (n := n) (A := A) (M := M) (V := V) (h := q) (nd := nd) (pr := pr) (st := st) (ro := ro) (pk := 0) (fr := fr)
  have e0 : chE true ⟨n, A, M, V, q, nd, pr, st, ro, 0, fr⟩ = 0 := by rw [← chE_ns]; exact he
  generalize hDN : (⟨n, nsA (nestF 0 2 A M V), M, V, q, nd, pr, st, ro, 0, fr⟩ : PD) = D at hOkN he hc2
  have dn : D.n = n := by rw [← hDN]
  have dh : D.h = q := by rw [← hDN]
  have dpk : D.pk = 0 := by rw [← hDN]
  obtain ⟨x, hx⟩ : ∃ x, bestM D D.h (begP D) = some x := by
    simp only [chE, if_true] at he
    cases hz : bestM D D.h (begP D) with
    | none => rw [hz] at he; simp at he
    | some x => exact ⟨x, rfl⟩
  have e2 : chN true ⟨n, A, M, V, q, nd, pr, st, ro, 0, fr⟩ = q := by simp only [chN, e0, if_true]
  have e3 : chC true ⟨n, A, M, V, q, nd, pr, st, ro, 0, fr⟩ = x.1 := by
    rw [← chC_ns, hDN]; simp only [chC, he, if_true, hx]; rfl
  have hwq : IntKind.i64.wrap ((q : Int) + 1) = ((q + 1 : Nat) : Int) := by rw [wrap_id (by omega) (by omega)]; omega
  have hct := wf_u8 wf_cut
  obtain ⟨ct, rfl⟩ : ∃ c : Nat, cut = c := ⟨cut.toNat, by omega⟩
  have hk : (IntKind.i64.wrap (ct : Int)).tmod ((q + 1 : Nat) : Int) = ((ct % (q + 1) : Nat) : Int) := by rw [wrap_id (by omega) (by omega)]; rfl
  have hkq : ct % (q + 1) ≤ q := by have := Nat.mod_lt ct (show 0 < q + 1 by omega); omega
  generalize ct % (q + 1) = k at hk hkq
  obtain ⟨o1, o2, o3, y, o4, o5⟩ := own_plM hOkN hx k (by omega)
  have hchk : ∀ i, i < D.h → chOk D (cAt D i) := fun i hi => by obtain ⟨p, hp, e⟩ := cAt_dig hOkN hx hi; rw [e]; exact dig_ok hOkN hp
  have hrd : rdB D.n D.M k (fun _ => D.n) (plV (cAt D)) = true := allU_iff.2 fun i hi => by
    have := hchk i (by omega)
    simp only [rdRow, Bool.and_eq_true, decide_eq_true_eq, allU_iff, in3_iff, plV]
    exact ⟨trivial, fun a ha => this a ha⟩
  have hplc : plM D (fun i => chT D.n (plV (cAt D) i)) k = plM D (cAt D) k := plM_congr k (fun i hi => chT_cAt hOkN hx (by omega))
  have f1 : bhE D true k (fun _ => D.n) (plV (cAt D)) = 0 := by
    simp only [bhE, if_true]
    rw [if_pos ⟨by omega, hrd⟩, hplc, o1]
  have f2 : bhX D true k (fun _ => D.n) (plV (cAt D)) = bhP D k (sAt D k) := by rw [bhX, if_pos f1, hplc, o3]
  have hE : (bhP D k (sAt D k)).Ok := by
    have := bhP_ok hOkN (C := cAt D) (k := k) (by omega) (fun i hi => hchk i (by omega)) o1
    rw [o3] at this; exact this
  have hsim := sAt_rest (D := D) (m := k) dpk (by omega) hOkN.n.2
  have hbE : bestM (bhP D k (sAt D k)) (D.h - k) (begP (bhP D k (sAt D k))) = some y := by
    have := rest_best (m := k) (s0 := sAt D k) dpk (by omega) (D.h - k) _ _ (Nat.le_refl _) (hsim 0 (by omega)).1
    rw [Nat.add_zero] at this
    refine Eq.trans this ?_
    exact o4
  have hEc := fun i hi => (hsim i hi).2
  have hEh : (bhP D k (sAt D k)).h = D.h - k := rfl
  have hEn : (bhP D k (sAt D k)).n = D.n := rfl
  have hEM : (bhP D k (sAt D k)).M = D.M := rfl
  have dM : D.M = M := by rw [← hDN]
  have dV : D.V = V := by rw [← hDN]
  have dnd : D.nd = nd := by rw [← hDN]
  have dpr : D.pr = pr := by rw [← hDN]
  have dst : D.st = st := by rw [← hDN]
  have dro : D.ro = ro := by rw [← hDN]
  have dfr : D.fr = fr := by rw [← hDN]
  subst dn dh dM dV dnd dpr dst dro dfr
  have hEE : bhP D k (sAt D k) = bhP D k (sAt D k) := rfl
  generalize bhP D k (sAt D k) = E at f2 hE hbE hEc hEh hEn hEM
  have hpE : psB E.n E.A E.M E.V E.h E.nd E.h E.pr E.st E.ro E.pk E.fr = true := psB_iff.2 ⟨rfl, hE⟩
  rw [← hEh] at hbE hEc
  have e4 : chE true ⟨E.n, E.A, E.M, E.V, E.h, E.nd, E.pr, E.st, E.ro, E.pk, E.fr⟩ = 0 := by show chE true E = 0; simp only [chE, hbE]; rfl
  have e5 : chN true ⟨E.n, E.A, E.M, E.V, E.h, E.nd, E.pr, E.st, E.ro, E.pk, E.fr⟩ = E.h := by simp only [chN, e4, if_true]
  have e6 : chC true ⟨E.n, E.A, E.M, E.V, E.h, E.nd, E.pr, E.st, E.ro, E.pk, E.fr⟩ = y.1 := by
    simp only [chC, e4, if_true]
    show wx (bestM E E.h (begP E)) = y.1
    rw [hbE]; rfl
  have eN : chN true D = D.h := by simp only [chN, he, if_true]
  have eC : chC true D = x.1 := by simp only [chC, he, if_true, hx]; rfl
  have f7 : ckR ⟨D.n, A, D.M, D.V, k, D.nd, D.pr, D.st, D.ro, 0, D.fr⟩ (psB D.n A D.M D.V k D.nd k D.pr D.st D.ro 0 D.fr) k (fun _ => D.n) (plV (cAt D)) = plM D (cAt D) k := by
    have hD1 : (⟨D.n, nsA (nestF 0 2 A D.M D.V), D.M, D.V, k, D.nd, D.pr, D.st, D.ro, 0, D.fr⟩ : PD) = { D with h := k } := by
      conv => rhs; rw [← hDN]
    have hp : psB D.n A D.M D.V k D.nd k D.pr D.st D.ro 0 D.fr = true := by
      rw [← psB_ns]
      refine psB_iff.2 ⟨rfl, ?_⟩
      rw [hD1]
      exact Ok_h hOkN hkq
    rw [hp, ← ckR_ns, hD1]
    have hr2 : rdB ({ D with h := k } : PD).n ({ D with h := k } : PD).M k (fun _ => D.n) (plV (cAt D)) = true := hrd
    simp only [ckR, if_true, hr2, decide_true, Bool.and_true]
    exact (plM_h D k _ k).trans hplc
  simp only [c1, c2, hb, he, eN, eC, hwq, hk, Int.toNat_natCast, hDN, ← hc2, f1, f2, hpE, e4, e5, e6, f7, o1, o2, slow_eq, alive_eq, plans_eq, check_eq, sum_eq, cheapest_eq, behind_eq, p9_10, p9_14, great_nil, great0_eq, prC, chE_ns, chC_ns, chN_ns, cAt_ns, psB_ns, ckR_ns, planF, nestF_sh, nestR_lit, nsM_lit, nsV_lit, Try.f9, go_sem, ↓reduceIte, Nat.reduceAdd, Nat.reduceSub, Nat.reduceMul, Nat.reduceEqDiff, Nat.reduceLT, Nat.reduceLeDiff, Int.reduceToNat, Int.reduceLE, Int.reduceLT, Int.reduceEq, Int.reduceNeg, reduceCtorEq]
  have hs1 := plM_ok hOkN (C := cAt D) k hkq (fun i hi => hchk i (by omega)) o1
  have hy := (bestM_ok hOkN _ _ (by omega) (by rw [← o3]; exact hs1.1) y o4).1
  have hh := hOkN.h
  have hw : IntKind.i64.wrap (IntKind.i64.wrap (IntKind.i64.wrap ((plM D (cAt D) k).en + (plM D (cAt D) k).st) + (plM D (cAt D) k).s.pk * 0) + y.1) = x.1 := by
    obtain ⟨_, g2, g3⟩ := hs1
    rw [Int.mul_zero, Int.add_zero, wrap_id (x := (plM D (cAt D) k).en + (plM D (cAt D) k).st) (by omega) (by omega), wrap_id (x := (plM D (cAt D) k).en + (plM D (cAt D) k).st) (by omega) (by omega), wrap_id (by omega) (by omega)]
    exact o5
  have hq : eqB E.h (fun _ => E.n) (plV (cAt E)) (D.h - k) (fun _ => D.n) (fun a => plV (cAt D) (k + a)) = true := by
    simp only [eqB, hEn, hEh, decide_true, Bool.true_and]
    refine allU_iff.2 fun i hi => ?_
    have := hEc i (by omega) (by rw [hEh]; exact hi)
    refine allU_iff.2 fun a _ => ?_
    simp only [plV, this, decide_true]
  have pN : D.n ≤ 1000000 ∧ ∀ (i : Nat), i < D.n → D.M i ≤ 1000000 := ⟨by omega, fun i hi => by have := h2 i hi; omega⟩
  have hq' : eqB E.h (fun _ => E.n) (plV (cAt ⟨E.n, E.A, E.M, E.V, E.h, E.nd, E.pr, E.st, E.ro, E.pk, E.fr⟩)) (D.h - k) (fun _ => D.n) (fun a => plV (cAt D) (k + a)) = true := hq
  rw [hq', hw]
  have pE : (E.n ≤ 1000000 ∧ ∀ (i : Nat), i < E.n → E.M i ≤ 1000000) ∧ E.h ≤ 1000000 := by
    rw [hEn, hEM]; exact ⟨pN, by omega⟩
  have pk1 : 0 ≤ (k : Int) ∧ (k : Int) ≤ D.h := by omega
  have pk2 : ∀ (i : Nat), i < k → D.n ≤ 1000000 := fun _ _ => by omega
  refine ⟨hsl, ⟨pN, by omega⟩, by omega, ⟨by kernel_rfl, by kernel_rfl⟩, pk1, ⟨⟨pN, by omega⟩, by omega, pk2⟩, ⟨pk1, ⟨pN, by omega⟩, by omega, pk2⟩, pE, ⟨by kernel_rfl, by kernel_rfl⟩, pk1, pk1, pk1, ⟨⟨pN, by omega⟩, by omega, pk2⟩, ⟨pk1, pk1, pk1, ⟨pN, by omega⟩, by omega, pk2⟩, pk1, ⟨pE.2, fun _ _ => pE.1.1⟩, fun _ => ⟨fun _ => trivial, fun e => absurd e (by simp)⟩, fun e => absurd e (by simp)⟩
end Go.Eng
end

/-
  PressRest: for every input the law returns true, and each argument reads afterwards as it read before. No condition.
-/
section
namespace Go.Proofs.Ytdecicbgjkeefaa.pressRest
open Go.ChangeShapes Go.WideShapes Go.ChangeAt Go.RowKit Go.Eng
set_option linter.unusedVariables false
theorem own : ownKnob Try.prog.godebug = none := by kernel_rfl
theorem laid : laidOutB Try.prog = true := by kernel_rfl
set_option maxRecDepth 100000 in
theorem lifted (os : Os) (started : os.Started) (H : Type) (enc : TypeId × Value → H) :
    ReturnsInHanded {} Try.checked os 9 .any (Rows.pressRestSpec.pre6 enc Try.prog Try.f9 Rows.pressRestRow.domain false) (Rows.pressRestSpec.post enc Try.prog Try.f9 false true false false) := by
  refine returnsInHanded_of_change (C := Try.checked) own started (by kernel_rfl) Try.func9
    (ChangeSpec.witness6 (enc := enc) (C := Try.checked) false ⟨#[], #[.agg #[.slice none 0 0, .slice none 0 0, .slice none 0 0, .int .i64 0, .int .i64 0, .int .i64 0, .int .i64 0], .int .u8 0], []⟩ 8 (by kernel_rfl) (by kernel_rfl) (by kernel_rfl) (by kernel_rfl)) ?_
  intro W base args ds gs before hval0 hW hcnd _
  have hval : ∀ (j : Nat) t v, Try.f9.params[j]? = some t → args[j]? = some v → Value.okWide Try.prog W .any base t v := hval0
  have hW' := hW
  obtain ⟨p, q, hA0, hV, rfl, hfz, hnd⟩ := hW
  have hA : DataW.TrodAll enc Try.prog W 0 (fun _ => true) true Try.f9.params.toList args.toList ds p := hA0
  rw [Try.params9] at hA hval
  obtain ⟨v0, vs0, d0, ds0, p0, q0, hargs, rfl, rfl, h0, r0⟩ := trodAll_cons hA
  obtain ⟨v1, vs1, d1, ds1, p1, q1, rfl, rfl, rfl, h1, r1⟩ := trodAll_cons r0
  obtain ⟨rfl, rfl, rfl⟩ := trodAll_nil r1
  obtain rfl : args = #[v0, v1] := by cases args; simp_all
  obtain ⟨rfl, rfl⟩ := trodVars_none hV
  obtain ⟨xs0, e0, l0, t0⟩ := arg_agg (shs := [.sl [.sl [.int .i64, .int .i64], .int .i64, .int .i64, .int .i64, .int .i64], .sl [.int .i64], .sl [.int .i64], .int .i64, .int .i64, .int .i64, .int .i64]) Try.underlying25 (by kernel_rfl) (hval 0 25 v0 rfl rfl) h0
  obtain ⟨a0_0, a0_1, a0_2, a0_3, a0_4, a0_5, a0_6, rfl⟩ : ∃ a0_0 a0_1 a0_2 a0_3 a0_4 a0_5 a0_6, xs0 = [a0_0, a0_1, a0_2, a0_3, a0_4, a0_5, a0_6] := by
    match xs0, l0 with
    | [a0_0, a0_1, a0_2, a0_3, a0_4, a0_5, a0_6], _ => exact ⟨a0_0, a0_1, a0_2, a0_3, a0_4, a0_5, a0_6, rfl⟩
  obtain ⟨n0_0, f0_0, rfl, m0_0, s0_0⟩ := typ_sl (t0 0 _ _ rfl rfl)
  obtain ⟨i0_0, b0_0, c0_0, g0_0⟩ := nestR_typ (sz := 5) (k := 0) (s := 2) (by intro j hj hk; rcases (show j = 0 ∨ j = 1 ∨ j = 2 ∨ j = 3 ∨ j = 4 by omega) with rfl | rfl | rfl | rfl | rfl <;> first | rfl | exact absurd rfl hk) rfl s0_0
  obtain ⟨n0_1, f0_1, rfl, m0_1, s0_1⟩ := typ_sl (t0 1 _ _ rfl rfl)
  obtain ⟨i0_1, b0_1⟩ := intK_of_typ (k := .i64) (c := 1) rfl s0_1
  obtain ⟨n0_2, f0_2, rfl, m0_2, s0_2⟩ := typ_sl (t0 2 _ _ rfl rfl)
  obtain ⟨i0_2, b0_2⟩ := intK_of_typ (k := .i64) (c := 1) rfl s0_2
  obtain ⟨x0_3, rfl, w0_3⟩ := typ_int (t0 3 _ _ rfl rfl)
  obtain ⟨x0_4, rfl, w0_4⟩ := typ_int (t0 4 _ _ rfl rfl)
  obtain ⟨x0_5, rfl, w0_5⟩ := typ_int (t0 5 _ _ rfl rfl)
  obtain ⟨x0_6, rfl, w0_6⟩ := typ_int (t0 6 _ _ rfl rfl)
  obtain ⟨x1, rfl, rfl, rfl, w1⟩ := open_int Try.underlying5 (hval 1 5 v1 rfl rfl) h1
  have hd : DenL Env.emp W [.agg [.row n0_0 5 f0_0, .row n0_1 1 f0_1, .row n0_2 1 f0_2, .int .i64 x0_3, .int .i64 x0_4, .int .i64 x0_5, .int .i64 x0_6], .int .u8 x1] [v0, .int .u8 x1] := ⟨e0, .int _ _, trivial⟩
  refine (law_calls pressRest_base (args := [.agg [.row n0_0 5 f0_0, .row n0_1 1 f0_1, .row n0_2 1 f0_2, .int .i64 x0_3, .int .i64 x0_4, .int .i64 x0_5, .int .i64 x0_6], .int .u8 x1]) rfl ⟨⟨rfl, i0_0⟩, ⟨rfl, fun i j hi hj => i0_1 i j hi hj⟩, ⟨rfl, fun i j hi hj => i0_2 i j hi hj⟩, w1⟩ (denA_of hd)).mono fun e W' ⟨he, hb⟩ => ?_
  subst he
  exact ⟨_, rfl, law_end laid rfl Try.underlying4 (by kernel_rfl) rfl hW' rfl hb⟩
theorem over : Rows.pressRestRow.holds Try.pinned (OpenSpec.ofChange Rows.pressRestSpec) :=
  OpenClaim.holds_of_wide 9 Try.f9 rfl rfl rfl rfl rfl rfl rfl ⟨rfl, rfl, rfl, rfl, rfl⟩ rfl rfl rfl rfl rfl (by kernel_rfl) Try.func9 (by kernel_rfl)
    (of_decide_eq_true (by kernel_rfl)) (by unfold Func.isWrapper; first | (rw [if_pos (by decide +kernel)]; kernel_rfl) | (rw [if_neg (by decide +kernel)]; exact ⟨rfl, rfl⟩))
    (fun os started H enc _ => lifted os started H enc)
end Go.Proofs.Ytdecicbgjkeefaa.pressRest
namespace Go.Proofs.Ytdecicbgjkeefaa
/-- The given statement. -/
theorem pressRest_holds : Rows.PressRestSaid := pressRest.over
#print axioms pressRest_holds
end Go.Proofs.Ytdecicbgjkeefaa
end
