/-
  A part of the symbolic machine, of its soundness, and of what functions compute. No condition.
-/
import Derived.Test.YtdecicbgjkeefaaP3
set_option linter.unusedSimpArgs false
set_option linter.unusedVariables false
/- press: the cheapest plan is the document's. -/
section
namespace Go.Eng
open Go Go.RowKit Go.Proofs
set_option maxRecDepth 100000
set_option maxHeartbeats 4000000
attribute [local irreducible] OwnT DefS
theorem great_nil (n a h b q c sz : Nat) (fA fn fp f : Nat → Nat → SV) (st ro pk fr : Int) : greatBase [.agg [.row n a fA, .row h b fn, .row q c fp, .int .i64 st, .int .i64 ro, .int .i64 pk, .int .i64 fr], .row 0 sz f] = great0Base [.agg [.row n a fA, .row h b fn, .row q c fp, .int .i64 st, .int .i64 ro, .int .i64 pk, .int .i64 fr], .row 0 sz f] := rfl
theorem gr0_false {n : Nat} {M : Nat → Nat} {h q : Nat} (e : gr0 n M h q = false) : n ≤ 6 ∧ (∀ i, i < n → M i ≤ 6) ∧ h ≤ 20 ∧ q ≤ 20 := by
  simp only [gr0, Bool.or_eq_false_iff, Bool.not_eq_false', decide_eq_false_iff_not, allU_iff, decide_eq_true_eq] at e
  obtain ⟨e1, e2, e3, e4⟩ := e
  exact ⟨by omega, fun i hi => by have := e4 i hi; omega, by omega, by omega⟩
theorem eqB_refl (n : Nat) (M : Nat → Nat) (V : Nat → Nat → Nat → Int) : eqB n M V n M V = true := by
  simp only [eqB, decide_true, Bool.true_and, allU_iff, implies_true]
theorem chN_le (b : Bool) (D : PD) : chN b D ≤ D.h := by unfold chN; split <;> omega
def pressCheapestBase : BaseF := fun args => match args with
  | [.agg [.row n sz_A f_A, .row h sz_nd f_nd, .row q sz_pr f_pr, .int .i64 st, .int .i64 ro, .int .i64 pk, .int .i64 fr]] => some ((sz_A = 5 ∧ NestR n 5 0 2 f_A) ∧ (sz_nd = 1 ∧ IntR h 1 f_nd) ∧ (sz_pr = 1 ∧ IntR q 1 f_pr), .bool true)
  | _ => none
theorem pressCheapest_eq (n : Nat) (sz_A : Nat) (f_A : Nat → Nat → SV) (h : Nat) (sz_nd : Nat) (f_nd : Nat → Nat → SV) (q : Nat) (sz_pr : Nat) (f_pr : Nat → Nat → SV) (st : Int) (ro : Int) (pk : Int) (fr : Int) : pressCheapestBase [.agg [.row n sz_A f_A, .row h sz_nd f_nd, .row q sz_pr f_pr, .int .i64 st, .int .i64 ro, .int .i64 pk, .int .i64 fr]] = some ((sz_A = 5 ∧ NestR n 5 0 2 f_A) ∧ (sz_nd = 1 ∧ IntR h 1 f_nd) ∧ (sz_pr = 1 ∧ IntR q 1 f_pr), .bool true) := rfl
theorem pressCheapest_base : Base Try.prog 3 pressCheapestBase := by
  intro args p v hq hp
  unfold pressCheapestBase at hq
  split at hq
  rotate_left
  · cases hq
  rename_i n sz_A f_A h sz_nd f_nd q sz_pr f_pr st ro pk fr
  cases hq
  obtain ⟨⟨rfl, i_A⟩, ⟨rfl, i_nd⟩, ⟨rfl, i_pr⟩⟩ := hp
  refine base_of (C := cxn [] [(14, cheapestBase), (15, cheapRBase)] [] [(11, greatBase), (12, slowBase), (13, aliveBase), (16, plansBase)] [] none) (cxn_ok ⟨cheapest_base, cheapR_base, trivial⟩ trivial ⟨great_base, slow_base, alive_base, plans_base, trivial⟩) rfl (g := 3) (fn := Try.f3)
    (args' := [.agg [.row n 5 (nestF 0 2 (nsA f_A) (nsM 0 f_A) (nsV 0 f_A)), .row h 1 (rowF .i64 (ivf f_nd)), .row q 1 (rowF .i64 (ivf f_pr)), .int .i64 st, .int .i64 ro, .int .i64 pk, .int .i64 fr]]) (fn_3) rfl 1000 (by
    simp only [BdL, Bd, and_self, and_true, true_and]
    exact ⟨(fun i j hi hj => nest_bd i_A i j hi hj), (fun i j hi hj => by rw [i_nd i j hi hj]; trivial), (fun i j hi hj => by rw [i_pr i j hi hj]; trivial)⟩) ⟨SameD.agg ⟨SameD.nest i_A, SameD.int i_nd, SameD.int i_pr, SameD.rfl' _, SameD.rfl' _, SameD.rfl' _, SameD.rfl' _, trivial⟩, trivial⟩ ?_
  generalize nsA f_A = A
  generalize nsM 0 f_A = M
  generalize nsV 0 f_A = V
  generalize ivf f_nd = nd
  generalize ivf f_pr = pr
  simp only [rowF_eq]
  simp only [slow_eq, alive_eq, plans_eq, cheapest_eq, cheapR_eq, great_nil, great0_eq, chE_ns, chC_ns, chN_ns, cAt_ns, psB_ns, planF, nestF_eq, nestR_lit, nsM_lit, nsV_lit, Try.f3, go_sem, ↓reduceIte, Nat.reduceAdd, Nat.reduceSub, Nat.reduceMul, Nat.reduceEqDiff, Nat.reduceLT, Nat.reduceLeDiff, Int.reduceToNat, Int.reduceLE, Int.reduceLT, Int.reduceEq, Int.reduceNeg, reduceCtorEq]
  refine ⟨fun _ => trivial, fun c1 => ?_⟩
  obtain ⟨h1, h2, h3, h4⟩ := gr0_false c1
  have hm : ∀ i, i < n → M i ≤ 1000000 := fun i hi => by have := h2 i hi; omega
  have hN := chN_le (psB n A M V h nd q pr st ro pk fr) ⟨n, A, M, V, h, nd, pr, st, ro, pk, fr⟩
  simp only [] at hN
  refine ⟨⟨h1, h2, by omega⟩, fun _ => trivial, fun c2 => ⟨⟨⟨by omega, hm⟩, by omega, by omega⟩, ⟨⟨by omega, hm⟩, by omega, by omega⟩, ⟨by omega, fun _ _ => by omega⟩, fun _ => trivial, fun c3 => ?_⟩⟩
  rw [eqB_refl] at c3
  cases c3
end Go.Eng
end

/- press: plans before another; the form of plans. -/
section
namespace Go.Eng
open Go Go.RowKit Go.Proofs
set_option maxRecDepth 100000
set_option maxHeartbeats 4000000
attribute [local irreducible] OwnT DefS
def cmpL (w x : Nat → Nat → Int) : Nat → Nat → Option Bool
  | 0, _ => none
  | r + 1, k => if w k 0 = x k 0 then cmpL w x r (k + 1) else some (decide (w k 0 < x k 0))
def befL (K : Nat → Nat) (W X : Nat → Nat → Nat → Int) : Nat → Nat → Bool
  | 0, _ => true
  | r + 1, i => match cmpL (W i) (X i) (K i) 0 with
    | some b => b
    | none => befL K W X r (i + 1)
def beforeBase : BaseF := fun args => match args with
  | [.row n sz_A f_A, .row m sz_B f_B] => some ((sz_A = 1 ∧ NestR n 1 0 1 f_A) ∧ (sz_B = 1 ∧ NestR m 1 0 1 f_B) ∧ (n ≤ 1000000 ∧ n ≤ m ∧ ∀ i, i < n → (nsM 0 f_A) i ≤ 1000000 ∧ (nsM 0 f_A) i ≤ (nsM 0 f_B) i), .bool (befL (nsM 0 f_A) (nsV 0 f_A) (nsV 0 f_B) n 0))
  | _ => none
theorem before_eq (n : Nat) (sz_A : Nat) (f_A : Nat → Nat → SV) (m : Nat) (sz_B : Nat) (f_B : Nat → Nat → SV) : beforeBase [.row n sz_A f_A, .row m sz_B f_B] = some ((sz_A = 1 ∧ NestR n 1 0 1 f_A) ∧ (sz_B = 1 ∧ NestR m 1 0 1 f_B) ∧ (n ≤ 1000000 ∧ n ≤ m ∧ ∀ i, i < n → (nsM 0 f_A) i ≤ 1000000 ∧ (nsM 0 f_A) i ≤ (nsM 0 f_B) i), .bool (befL (nsM 0 f_A) (nsV 0 f_A) (nsV 0 f_B) n 0)) := rfl
theorem before_base : Base Try.prog 22 beforeBase := by
  intro args p v hq hp
  unfold beforeBase at hq
  split at hq
  rotate_left
  · cases hq
  rename_i n sz_A f_A m sz_B f_B
  cases hq
  obtain ⟨⟨rfl, i_A⟩, ⟨rfl, i_B⟩, pre⟩ := hp
  refine base_of (C := cx [] [] [] [(22, 7, p22_7), (22, 8, p22_8)] none) (cx_ok trivial trivial) rfl (g := 22) (fn := Try.f22)
    (args' := [.row n 1 (nestF 0 1 (nsA f_A) (nsM 0 f_A) (nsV 0 f_A)), .row m 1 (nestF 0 1 (nsA f_B) (nsM 0 f_B) (nsV 0 f_B))]) (fn_22) rfl 1000 (by
    simp only [BdL, Bd, and_self, and_true, true_and]
    exact ⟨(fun i j hi hj => nest_bd i_A i j hi hj), (fun i j hi hj => nest_bd i_B i j hi hj)⟩) ⟨SameD.nest i_A, SameD.nest i_B, trivial⟩ ?_
  generalize nsA f_A = A at *
  generalize nsM 0 f_A = M at *
  generalize nsV 0 f_A = V at *
  generalize nsA f_B = B at *
  generalize nsM 0 f_B = K at *
  generalize nsV 0 f_B = W at *
  simp only [p22_7, p22_8, nestF_eq, nestR_lit, nsM_lit, nsV_lit, Try.f22, go_sem, ↓reduceIte, Nat.reduceAdd, Nat.reduceSub, Nat.reduceMul, Nat.reduceEqDiff, Nat.reduceLT, Nat.reduceLeDiff, Int.reduceToNat, Int.reduceLE, Int.reduceLT, Int.reduceEq, Int.reduceNeg, reduceCtorEq]
  obtain ⟨hn, hnm, hM⟩ := pre
  refine loop_ofH { i : Nat // i ≤ n ∧ befL M V W n 0 = befL M V W (n - i) i } (fun i => [(9, .int .i64 (i.1 : Int)), (8, .int .i64 (n : Int)), (1, .row m 1 (nestF 0 1 B K W)), (0, .row n 1 (nestF 0 1 A M V))]) (fun h _ => h) (fun i => n - i.1) (fun _ => ⟨rfl, rfl⟩) ⟨0, by omega, rfl⟩ (by (apply sub_of <;> simp only [go_sem, ↓reduceIte, Nat.reduceAdd, Nat.reduceSub, Nat.reduceMul, Nat.reduceEqDiff, Nat.reduceLT, Nat.reduceLeDiff, Int.reduceToNat, Int.reduceLE, Int.reduceLT, Int.reduceEq, Int.reduceNeg, reduceCtorEq] <;> (try simp [catF])); all_goals (repeat' first | assumption | exact nestF_bd _ _ _ _ _ _ _ _ _ | exact nestF_bd1 _ _ _ _ _ _ _ _ _ | exact fun _ _ => nestF_bd1 _ _ _ _ _ _ _ _ _ | exact fun _ _ _ _ => nestF_bd1 _ _ _ _ _ _ _ _ _ | exact fun x hx => catF_one _ hx | refine And.intro ?_ ?_); all_goals exact ⟨fun i _ => nestF_bd1 _ _ _ _ _ _ _ i 0, fun i _ => nestF_bd1 _ _ _ _ _ _ _ i 0⟩) ?_
  rintro ⟨i, hi, h3⟩
  simp only [p22_7, p22_8, nestF_eq, nestR_lit, nsM_lit, nsV_lit, Try.f22, go_sem, ↓reduceIte, Nat.reduceAdd, Nat.reduceSub, Nat.reduceMul, Nat.reduceEqDiff, Nat.reduceLT, Nat.reduceLeDiff, Int.reduceToNat, Int.reduceLE, Int.reduceLT, Int.reduceEq, Int.reduceNeg, reduceCtorEq]
  have hw3 : IntKind.i64.wrap ((i : Int) + 1) = ((i + 1 : Nat) : Int) := by rw [wrap_id (by omega) (by omega)]; omega
  refine ⟨fun e1 => ?_, fun e1 => ?_⟩
  all_goals simp only [decide_eq_true_eq, decide_eq_false_iff_not] at e1
  · obtain ⟨hM1, hM2⟩ := hM i (by omega)
    have hb : befL M V W n 0 = match cmpL (V i) (W i) (M i) 0 with | some b => b | none => befL M V W (n - (i + 1)) (i + 1) := by
      rw [h3, show n - i = (n - (i + 1)) + 1 by omega]; rfl
    refine ⟨⟨by omega, by omega⟩, ?_⟩
    refine loop_ofH { k : Nat // k ≤ M i ∧ cmpL (V i) (W i) (M i) 0 = cmpL (V i) (W i) (M i - k) k } (fun k => [(17, .int .i64 (k.1 : Int)), (16, .int .i64 (M i : Int)), (5, .int .i64 (i : Int)), (9, .int .i64 (i : Int)), (8, .int .i64 (n : Int)), (1, .row m 1 (nestF 0 1 B K W)), (0, .row n 1 (nestF 0 1 A M V))]) (fun h _ => h) (fun k => M i - k.1) (fun _ => ⟨rfl, rfl⟩) ⟨0, by omega, rfl⟩ (by (apply sub_of <;> simp only [go_sem, ↓reduceIte, Nat.reduceAdd, Nat.reduceSub, Nat.reduceMul, Nat.reduceEqDiff, Nat.reduceLT, Nat.reduceLeDiff, Int.reduceToNat, Int.reduceLE, Int.reduceLT, Int.reduceEq, Int.reduceNeg, reduceCtorEq] <;> (try simp [catF])); all_goals (repeat' first | assumption | exact nestF_bd _ _ _ _ _ _ _ _ _ | exact nestF_bd1 _ _ _ _ _ _ _ _ _ | exact fun _ _ => nestF_bd1 _ _ _ _ _ _ _ _ _ | exact fun _ _ _ _ => nestF_bd1 _ _ _ _ _ _ _ _ _ | exact fun x hx => catF_one _ hx | refine And.intro ?_ ?_); all_goals exact ⟨fun i _ => nestF_bd1 _ _ _ _ _ _ _ i 0, fun i _ => nestF_bd1 _ _ _ _ _ _ _ i 0⟩) ?_
    rintro ⟨k, hk, h4⟩
    simp only [p22_7, p22_8, nestF_eq, nestR_lit, nsM_lit, nsV_lit, Try.f22, go_sem, ↓reduceIte, Nat.reduceAdd, Nat.reduceSub, Nat.reduceMul, Nat.reduceEqDiff, Nat.reduceLT, Nat.reduceLeDiff, Int.reduceToNat, Int.reduceLE, Int.reduceLT, Int.reduceEq, Int.reduceNeg, reduceCtorEq]
    have hw4 : IntKind.i64.wrap ((k : Int) + 1) = ((k + 1 : Nat) : Int) := by rw [wrap_id (by omega) (by omega)]; omega
    refine ⟨fun e2 => ?_, fun e2 => ?_⟩
    all_goals simp only [decide_eq_true_eq, decide_eq_false_iff_not] at e2
    · have hc : cmpL (V i) (W i) (M i) 0 = if V i k 0 = W i k 0 then cmpL (V i) (W i) (M i - (k + 1)) (k + 1) else some (decide (V i k 0 < W i k 0)) := by
        rw [h4, show M i - k = (M i - (k + 1)) + 1 by omega]; rfl
      refine ⟨⟨by kernel_rfl, by kernel_rfl⟩, ⟨by omega, by omega⟩, ⟨by omega, by omega⟩, ⟨by omega, by omega⟩, ⟨by omega, by omega⟩, fun e3 => ?_, fun e3 => ?_⟩
      all_goals simp only [Bool.not_eq_true', Bool.not_eq_false', decide_eq_true_eq, decide_eq_false_iff_not, ne_eq] at e3
      · refine ⟨⟨by kernel_rfl, by kernel_rfl⟩, ⟨by omega, by omega⟩, ⟨by omega, by omega⟩, ⟨by omega, by omega⟩, ⟨by omega, by omega⟩, ?_⟩
        rw [hb, hc, if_neg e3]
      · refine ⟨⟨k + 1, by omega, ?_⟩, by simp only []; omega, ?_⟩
        · rw [hc, if_pos (by simpa using e3)]
        · apply sub_of <;> simp only [hw4, go_sem, ↓reduceIte, Nat.reduceAdd, Nat.reduceSub, Nat.reduceMul, Nat.reduceEqDiff, Nat.reduceLT, Nat.reduceLeDiff, Int.reduceToNat, Int.reduceLE, Int.reduceLT, Int.reduceEq, Int.reduceNeg, reduceCtorEq] <;> (try simp)
          all_goals (repeat' first | assumption | exact nestF_bd _ _ _ _ _ _ _ _ _ | exact nestF_bd1 _ _ _ _ _ _ _ _ _ | exact fun _ _ => nestF_bd1 _ _ _ _ _ _ _ _ _ | exact fun _ _ _ _ => nestF_bd1 _ _ _ _ _ _ _ _ _ | exact fun x hx => catF_one _ hx | refine And.intro ?_ ?_)
          all_goals exact ⟨fun i _ => nestF_bd1 _ _ _ _ _ _ _ i 0, fun i _ => nestF_bd1 _ _ _ _ _ _ _ i 0⟩
    · obtain rfl : k = M i := by omega
      rw [Nat.sub_self] at h4
      refine ⟨⟨i + 1, by omega, ?_⟩, by simp only []; omega, ?_⟩
      · rw [hb, h4]; rfl
      · apply sub_of <;> simp only [hw3, go_sem, ↓reduceIte, Nat.reduceAdd, Nat.reduceSub, Nat.reduceMul, Nat.reduceEqDiff, Nat.reduceLT, Nat.reduceLeDiff, Int.reduceToNat, Int.reduceLE, Int.reduceLT, Int.reduceEq, Int.reduceNeg, reduceCtorEq] <;> (try simp)
        all_goals (repeat' first | assumption | exact nestF_bd _ _ _ _ _ _ _ _ _ | exact nestF_bd1 _ _ _ _ _ _ _ _ _ | exact fun _ _ => nestF_bd1 _ _ _ _ _ _ _ _ _ | exact fun _ _ _ _ => nestF_bd1 _ _ _ _ _ _ _ _ _ | exact fun x hx => catF_one _ hx | refine And.intro ?_ ?_)
        all_goals exact ⟨fun i _ => nestF_bd1 _ _ _ _ _ _ _ i 0, fun i _ => nestF_bd1 _ _ _ _ _ _ _ i 0⟩
  · obtain rfl : i = n := by omega
    rw [h3, Nat.sub_self]
    rfl
def formsB (n : Nat) (M : Nat → Nat) (m : Nat) (K : Nat → Nat) (W : Nat → Nat → Nat → Int) : Bool := allU (fun i => formB n M (K i) (W i)) m
def formsBase : BaseF := fun args => match args with
  | [.agg [.row n sz_A f_A, .row h sz_nd f_nd, .row q sz_pr f_pr, .int .i64 st, .int .i64 ro, .int .i64 pk, .int .i64 fr], .row m sz_B f_B] => some ((sz_A = 5 ∧ NestR n 5 0 2 f_A) ∧ (sz_nd = 1 ∧ IntR h 1 f_nd) ∧ (sz_pr = 1 ∧ IntR q 1 f_pr) ∧ (sz_B = 1 ∧ NestR m 1 0 1 f_B) ∧ (m ≤ 1000000 ∧ ∀ i, i < m → (nsM 0 f_B) i ≤ 1000000), .bool (formsB n (nsM 0 f_A) m (nsM 0 f_B) (nsV 0 f_B)))
  | _ => none
theorem forms_eq (n : Nat) (sz_A : Nat) (f_A : Nat → Nat → SV) (h : Nat) (sz_nd : Nat) (f_nd : Nat → Nat → SV) (q : Nat) (sz_pr : Nat) (f_pr : Nat → Nat → SV) (st : Int) (ro : Int) (pk : Int) (fr : Int) (m : Nat) (sz_B : Nat) (f_B : Nat → Nat → SV) : formsBase [.agg [.row n sz_A f_A, .row h sz_nd f_nd, .row q sz_pr f_pr, .int .i64 st, .int .i64 ro, .int .i64 pk, .int .i64 fr], .row m sz_B f_B] = some ((sz_A = 5 ∧ NestR n 5 0 2 f_A) ∧ (sz_nd = 1 ∧ IntR h 1 f_nd) ∧ (sz_pr = 1 ∧ IntR q 1 f_pr) ∧ (sz_B = 1 ∧ NestR m 1 0 1 f_B) ∧ (m ≤ 1000000 ∧ ∀ i, i < m → (nsM 0 f_B) i ≤ 1000000), .bool (formsB n (nsM 0 f_A) m (nsM 0 f_B) (nsV 0 f_B))) := rfl
theorem forms_base : Base Try.prog 21 formsBase := by
  intro args p v hq hp
  unfold formsBase at hq
  split at hq
  rotate_left
  · cases hq
  rename_i n sz_A f_A h sz_nd f_nd q sz_pr f_pr st ro pk fr m sz_B f_B
  cases hq
  obtain ⟨⟨rfl, i_A⟩, ⟨rfl, i_nd⟩, ⟨rfl, i_pr⟩, ⟨rfl, i_B⟩, pre⟩ := hp
  refine base_of (C := cx [] [] [(45, formBase)] [(21, 4, p21_4)] none) (cx_ok trivial ⟨form_base, trivial⟩) rfl (g := 21) (fn := Try.f21)
    (args' := [.agg [.row n 5 (nestF 0 2 (nsA f_A) (nsM 0 f_A) (nsV 0 f_A)), .row h 1 (rowF .i64 (ivf f_nd)), .row q 1 (rowF .i64 (ivf f_pr)), .int .i64 st, .int .i64 ro, .int .i64 pk, .int .i64 fr], .row m 1 (nestF 0 1 (nsA f_B) (nsM 0 f_B) (nsV 0 f_B))]) (fn_21) rfl 1000 (by
    simp only [BdL, Bd, and_self, and_true, true_and]
    exact ⟨⟨(fun i j hi hj => nest_bd i_A i j hi hj), (fun i j hi hj => by rw [i_nd i j hi hj]; trivial), (fun i j hi hj => by rw [i_pr i j hi hj]; trivial)⟩, (fun i j hi hj => nest_bd i_B i j hi hj)⟩) ⟨SameD.agg ⟨SameD.nest i_A, SameD.int i_nd, SameD.int i_pr, SameD.rfl' _, SameD.rfl' _, SameD.rfl' _, SameD.rfl' _, trivial⟩, SameD.nest i_B, trivial⟩ ?_
  generalize nsA f_A = A at *
  generalize nsM 0 f_A = M at *
  generalize nsV 0 f_A = V at *
  generalize ivf f_nd = nd at *
  generalize ivf f_pr = pr at *
  generalize nsA f_B = B at *
  generalize nsM 0 f_B = K at *
  generalize nsV 0 f_B = W at *
  simp only [rowF_eq]
  simp only [form_eq, p21_4, nestF_eq, nestR_lit, nsM_lit, nsV_lit, Try.f21, go_sem, ↓reduceIte, Nat.reduceAdd, Nat.reduceSub, Nat.reduceMul, Nat.reduceEqDiff, Nat.reduceLT, Nat.reduceLeDiff, Int.reduceToNat, Int.reduceLE, Int.reduceLT, Int.reduceEq, Int.reduceNeg, reduceCtorEq]
  obtain ⟨hm, hK⟩ := pre
  refine loop_ofH { i : Nat // i ≤ m ∧ ∀ j, j < i → (fun i => formB n M (K i) (W i)) j = true } (fun i => [(5, .int .i64 (i.1 : Int)), (2, .ptr 0 0), (1, .row m 1 (nestF 0 1 B K W))]) (fun h _ => h) (fun i => m - i.1) (fun _ => ⟨rfl, rfl⟩) ⟨0, by omega, by omega⟩ (by (apply sub_of <;> simp only [go_sem, ↓reduceIte, Nat.reduceAdd, Nat.reduceSub, Nat.reduceMul, Nat.reduceEqDiff, Nat.reduceLT, Nat.reduceLeDiff, Int.reduceToNat, Int.reduceLE, Int.reduceLT, Int.reduceEq, Int.reduceNeg, reduceCtorEq] <;> (try simp [catF])); all_goals (repeat' first | assumption | exact nestF_bd _ _ _ _ _ _ _ _ _ | exact nestF_bd1 _ _ _ _ _ _ _ _ _ | exact fun _ _ => nestF_bd1 _ _ _ _ _ _ _ _ _ | exact fun _ _ _ _ => nestF_bd1 _ _ _ _ _ _ _ _ _ | exact fun x hx => catF_one _ hx | refine And.intro ?_ ?_)) ?_
  rintro ⟨i, hi, h3⟩
  simp only [form_eq, p21_4, nestF_eq, nestR_lit, nsM_lit, nsV_lit, Try.f21, go_sem, ↓reduceIte, Nat.reduceAdd, Nat.reduceSub, Nat.reduceMul, Nat.reduceEqDiff, Nat.reduceLT, Nat.reduceLeDiff, Int.reduceToNat, Int.reduceLE, Int.reduceLT, Int.reduceEq, Int.reduceNeg, reduceCtorEq]
  have hw3 : IntKind.i64.wrap ((i : Int) + 1) = ((i + 1 : Nat) : Int) := by rw [wrap_id (by omega) (by omega)]; omega
  refine ⟨fun e1 => ?_, fun e1 => ?_⟩
  all_goals simp only [decide_eq_true_eq, decide_eq_false_iff_not] at e1
  · refine ⟨⟨by kernel_rfl, by kernel_rfl⟩, ⟨by omega, by omega⟩, hK i (by omega), fun e2 => ?_, fun e2 => ⟨⟨i + 1, by omega, below h3 (by simpa using e2)⟩, by simp only []; omega, ?_⟩⟩
    · rw [show formsB n M m K W = false from allU_false (p := fun i => formB n M (K i) (W i)) (i := i) (by omega) (by simpa using e2)]
    · apply sub_of <;> simp only [hw3, go_sem, ↓reduceIte, Nat.reduceAdd, Nat.reduceSub, Nat.reduceMul, Nat.reduceEqDiff, Nat.reduceLT, Nat.reduceLeDiff, Int.reduceToNat, Int.reduceLE, Int.reduceLT, Int.reduceEq, Int.reduceNeg, reduceCtorEq] <;> (try simp)
      all_goals (repeat' first | assumption | exact nestF_bd _ _ _ _ _ _ _ _ _ | exact nestF_bd1 _ _ _ _ _ _ _ _ _ | exact fun _ _ => nestF_bd1 _ _ _ _ _ _ _ _ _ | exact fun _ _ _ _ => nestF_bd1 _ _ _ _ _ _ _ _ _ | exact fun x hx => catF_one _ hx | refine And.intro ?_ ?_)
  · obtain rfl : i = m := by omega
    rw [show formsB n M i K W = true from allU_true h3]
/-- A plan by remainders. -/
def somP (n : Nat) (M : Nat → Nat) (m : Nat) (b : Nat → Nat → Int) (i a : Nat) : Int := (IntKind.i64.wrap (b ((i * n + a) % m) 0)).tmod (IntKind.i64.wrap ((M a : Int) + 1))
def somV (n : Nat) (M : Nat → Nat) (m : Nat) (b : Nat → Nat → Int) : Nat → Nat → Nat → Int := fun i a _ => somP n M m b i a
def someBase : BaseF := fun args => match args with
  | [.agg [.row n sz_A f_A, .row h sz_nd f_nd, .row q sz_pr f_pr, .int .i64 st, .int .i64 ro, .int .i64 pk, .int .i64 fr], .row m sz_b f_b] => some ((sz_A = 5 ∧ NestR n 5 0 2 f_A) ∧ (sz_nd = 1 ∧ IntR h 1 f_nd) ∧ (sz_pr = 1 ∧ IntR q 1 f_pr) ∧ (sz_b = 1 ∧ IntK .u8 m 1 f_b) ∧ (n ≤ 6 ∧ h ≤ 20 ∧ 0 < m ∧ ∀ i, i < n → (nsM 0 f_A) i ≤ 6), .row h 1 (nestF 0 1 z0 (fun _ => n) (somV n (nsM 0 f_A) m (ivf f_b))))
  | _ => none
theorem some_eq (n : Nat) (sz_A : Nat) (f_A : Nat → Nat → SV) (h : Nat) (sz_nd : Nat) (f_nd : Nat → Nat → SV) (q : Nat) (sz_pr : Nat) (f_pr : Nat → Nat → SV) (st : Int) (ro : Int) (pk : Int) (fr : Int) (m : Nat) (sz_b : Nat) (f_b : Nat → Nat → SV) : someBase [.agg [.row n sz_A f_A, .row h sz_nd f_nd, .row q sz_pr f_pr, .int .i64 st, .int .i64 ro, .int .i64 pk, .int .i64 fr], .row m sz_b f_b] = some ((sz_A = 5 ∧ NestR n 5 0 2 f_A) ∧ (sz_nd = 1 ∧ IntR h 1 f_nd) ∧ (sz_pr = 1 ∧ IntR q 1 f_pr) ∧ (sz_b = 1 ∧ IntK .u8 m 1 f_b) ∧ (n ≤ 6 ∧ h ≤ 20 ∧ 0 < m ∧ ∀ i, i < n → (nsM 0 f_A) i ≤ 6), .row h 1 (nestF 0 1 z0 (fun _ => n) (somV n (nsM 0 f_A) m (ivf f_b)))) := rfl
theorem some_base : NB Try.prog 18 someBase := by
  intro args p v hq hp
  unfold someBase at hq
  split at hq
  rotate_left
  · cases hq
  rename_i n sz_A f_A h sz_nd f_nd q sz_pr f_pr st ro pk fr m sz_b f_b
  cases hq
  obtain ⟨⟨rfl, i_A⟩, ⟨rfl, i_nd⟩, ⟨rfl, i_pr⟩, ⟨rfl, i_b⟩, pre⟩ := hp
  refine nb_of (C := cx [] [] [] [(18, 9, p18_9)] none) (cx_ok trivial trivial) rfl (g := 18) (fn := Try.f18)
    (args' := [.agg [.row n 5 (nestF 0 2 (nsA f_A) (nsM 0 f_A) (nsV 0 f_A)), .row h 1 (rowF .i64 (ivf f_nd)), .row q 1 (rowF .i64 (ivf f_pr)), .int .i64 st, .int .i64 ro, .int .i64 pk, .int .i64 fr], .row m 1 (rowF .u8 (ivf f_b))]) (fn_18) rfl 1000 (by
    simp only [BdL, Bd, and_self, and_true, true_and]
    exact ⟨⟨(fun i j hi hj => nest_bd i_A i j hi hj), (fun i j hi hj => by rw [i_nd i j hi hj]; trivial), (fun i j hi hj => by rw [i_pr i j hi hj]; trivial)⟩, (fun i j hi hj => by rw [i_b i j hi hj]; trivial)⟩) ⟨SameD.agg ⟨SameD.nest i_A, SameD.int i_nd, SameD.int i_pr, SameD.rfl' _, SameD.rfl' _, SameD.rfl' _, SameD.rfl' _, trivial⟩, SameD.intK i_b, trivial⟩ (by exact nestF_bd _ _ _ _ _ _ _ _ _) ?_
  generalize nsA f_A = A at *
  generalize nsM 0 f_A = M at *
  generalize nsV 0 f_A = V at *
  generalize ivf f_nd = nd at *
  generalize ivf f_pr = pr at *
  generalize ivf f_b = b at *
  simp only [rowF_eq]
  simp only [p18_9, nestF_eq, nestR_lit, nsM_lit, nsV_lit, Try.f18, go_sem, ↓reduceIte, Nat.reduceAdd, Nat.reduceSub, Nat.reduceMul, Nat.reduceEqDiff, Nat.reduceLT, Nat.reduceLeDiff, Int.reduceToNat, Int.reduceLE, Int.reduceLT, Int.reduceEq, Int.reduceNeg, reduceCtorEq]
  obtain ⟨hn, hh, hm, hM⟩ := pre
  refine loop_of { i : Nat // i ≤ h } (fun i => [(13, .int .i64 (i.1 : Int)), (12, .int .i64 (h : Int)), (6, .int .i64 ((i.1 * n : Nat) : Int)), (5, .vec 1 i.1), (2, .ptr 0 0), (1, .row m 1 fun i j => .int .u8 (b i j))])
    (fun i => ⟨[.live 25 [.row n 5 (nestF 0 2 A M V), .row h 1 (fun i j => .int .i64 (nd i j)), .row q 1 (fun i j => .int .i64 (pr i j)), .int .i64 st, .int .i64 ro, .int .i64 pk, .int .i64 fr]], [.live 0 23 1 0 fun _ _ => .any, .live i.1 23 1 i.1 (fun x _ => .row n 1 (fun a _ => .int .i64 (somP n M m b x a)))]⟩) (fun i => h - i.1) (fun _ => ⟨rfl, rfl⟩) ⟨0, by omega⟩ (by (apply sub_of <;> simp only [go_sem, ↓reduceIte, Nat.reduceAdd, Nat.reduceSub, Nat.reduceMul, Nat.reduceEqDiff, Nat.reduceLT, Nat.reduceLeDiff, Int.reduceToNat, Int.reduceLE, Int.reduceLT, Int.reduceEq, Int.reduceNeg, reduceCtorEq] <;> (try simp [catF])); all_goals (repeat' first | assumption | exact nestF_bd _ _ _ _ _ _ _ _ _ | exact nestF_bd1 _ _ _ _ _ _ _ _ _ | exact fun _ _ => nestF_bd1 _ _ _ _ _ _ _ _ _ | exact fun _ _ _ _ => nestF_bd1 _ _ _ _ _ _ _ _ _ | exact fun x hx => catF_one _ hx | refine And.intro ?_ ?_)) ?_
  rintro ⟨i, hi⟩
  simp only [p18_9, nestF_eq, nestR_lit, nsM_lit, nsV_lit, Try.f18, go_sem, ↓reduceIte, Nat.reduceAdd, Nat.reduceSub, Nat.reduceMul, Nat.reduceEqDiff, Nat.reduceLT, Nat.reduceLeDiff, Int.reduceToNat, Int.reduceLE, Int.reduceLT, Int.reduceEq, Int.reduceNeg, reduceCtorEq]
  have hw3 : IntKind.i64.wrap ((i : Int) + 1) = ((i + 1 : Nat) : Int) := by rw [wrap_id (by omega) (by omega)]; omega
  refine ⟨fun e1 => ?_, fun e1 => ?_⟩
  all_goals simp only [decide_eq_true_eq, decide_eq_false_iff_not] at e1
  · have hin : i * n ≤ 20 * 6 := Nat.mul_le_mul (by omega) hn
    refine loop_of { a : Nat // a ≤ n } (fun a => [(18, .int .i64 (a.1 : Int)), (17, .int .i64 (n : Int)), (16, .row n 5 (nestF 0 2 A M V)), (7, .vec 2 a.1), (13, .int .i64 (i : Int)), (12, .int .i64 (h : Int)), (6, .int .i64 ((i * n + a.1 : Nat) : Int)), (5, .vec 1 i), (2, .ptr 0 0), (1, .row m 1 fun i j => .int .u8 (b i j))])
      (fun a => ⟨[.live 25 [.row n 5 (nestF 0 2 A M V), .row h 1 (fun i j => .int .i64 (nd i j)), .row q 1 (fun i j => .int .i64 (pr i j)), .int .i64 st, .int .i64 ro, .int .i64 pk, .int .i64 fr]], [.live 0 23 1 0 fun _ _ => .any, .live i 23 1 i (fun x _ => .row n 1 (fun a _ => .int .i64 (somP n M m b x a))), .live a.1 3 1 a.1 (fun x _ => .int .i64 (somP n M m b i x))]⟩) (fun a => n - a.1) (fun _ => ⟨rfl, rfl⟩) ⟨0, by omega⟩ (by (apply sub_of <;> simp only [go_sem, ↓reduceIte, Nat.reduceAdd, Nat.reduceSub, Nat.reduceMul, Nat.reduceEqDiff, Nat.reduceLT, Nat.reduceLeDiff, Int.reduceToNat, Int.reduceLE, Int.reduceLT, Int.reduceEq, Int.reduceNeg, reduceCtorEq] <;> (try simp [catF])); all_goals (repeat' first | assumption | exact nestF_bd _ _ _ _ _ _ _ _ _ | exact nestF_bd1 _ _ _ _ _ _ _ _ _ | exact fun _ _ => nestF_bd1 _ _ _ _ _ _ _ _ _ | exact fun _ _ _ _ => nestF_bd1 _ _ _ _ _ _ _ _ _ | exact fun x hx => catF_one _ hx | refine And.intro ?_ ?_)) ?_
    rintro ⟨a, ha⟩
    simp only [p18_9, nestF_eq, nestR_lit, nsM_lit, nsV_lit, Try.f18, go_sem, ↓reduceIte, Nat.reduceAdd, Nat.reduceSub, Nat.reduceMul, Nat.reduceEqDiff, Nat.reduceLT, Nat.reduceLeDiff, Int.reduceToNat, Int.reduceLE, Int.reduceLT, Int.reduceEq, Int.reduceNeg, reduceCtorEq]
    have hw4 : IntKind.i64.wrap ((a : Int) + 1) = ((a + 1 : Nat) : Int) := by rw [wrap_id (by omega) (by omega)]; omega
    refine ⟨fun e2 => ?_, fun e2 => ?_⟩
    all_goals simp only [decide_eq_true_eq, decide_eq_false_iff_not] at e2
    · have hMa := hM a (by omega)
      have w1 : IntKind.i64.wrap ((M a : Int) + 1) = (M a : Int) + 1 := wrap_id (by omega) (by omega)
      have hz : ((i * n + a : Nat) : Int).tmod (m : Int) = (((i * n + a) % m : Nat) : Int) := rfl
      have hlt := Nat.mod_lt (i * n + a) hm
      have w2 : IntKind.i64.wrap (((i * n + a : Nat) : Int) + 1) = ((i * n + (a + 1) : Nat) : Int) := by rw [wrap_id (by omega) (by omega)]; omega
      rw [hz]
      refine ⟨⟨by omega, by omega⟩, ⟨by kernel_rfl, by kernel_rfl⟩, by omega, ⟨by omega, by omega⟩, by omega, ⟨by omega, by omega⟩, ⟨a + 1, by omega⟩, by simp only []; omega, ?_⟩
      apply sub_of <;> simp only [hw4, w2, go_sem, ↓reduceIte, Nat.reduceAdd, Nat.reduceSub, Nat.reduceMul, Nat.reduceEqDiff, Nat.reduceLT, Nat.reduceLeDiff, Int.reduceToNat, Int.reduceLE, Int.reduceLT, Int.reduceEq, Int.reduceNeg, reduceCtorEq] <;> (try simp)
      · exact fun x hx => catF_two (fun x => .int .i64 (somP n M m b i x)) (fun x => .int .i64 (somP n M m b i x)) _ hx (fun _ _ => rfl) rfl
      all_goals (repeat' first | assumption | exact nestF_bd _ _ _ _ _ _ _ _ _ | exact nestF_bd1 _ _ _ _ _ _ _ _ _ | exact fun _ _ => nestF_bd1 _ _ _ _ _ _ _ _ _ | exact fun _ _ _ _ => nestF_bd1 _ _ _ _ _ _ _ _ _ | exact fun x hx => catF_one _ hx | refine And.intro ?_ ?_)
    · obtain rfl : a = n := by omega
      refine ⟨⟨by omega, by omega⟩, ⟨i + 1, by omega⟩, by simp only []; omega, ?_⟩
      refine sub_fz 2 1 (fun x _ => .row a 1 (fun y _ => .int .i64 (somP a M m b x y))) rfl rfl (by decide) ?_ ?_
      · intro x y hx hy
        rcases Nat.lt_or_ge x i with h1 | h1
        · left
          simp only [catF, if_pos h1]
        · obtain rfl : x = i := by omega
          right
          obtain rfl : y = 0 := by omega
          exact ⟨by simp only [catF, if_neg (Nat.lt_irrefl _), Nat.sub_self]; rfl, rfl⟩
      · apply sub_of <;> simp only [hw3, go_sem, ↓reduceIte, Nat.reduceAdd, Nat.reduceSub, Nat.reduceMul, Nat.reduceEqDiff, Nat.reduceLT, Nat.reduceLeDiff, Int.reduceToNat, Int.reduceLE, Int.reduceLT, Int.reduceEq, Int.reduceNeg, reduceCtorEq] <;> (try simp)
        · rw [Int.add_mul, Int.one_mul]
        all_goals (repeat' first | assumption | exact nestF_bd _ _ _ _ _ _ _ _ _ | exact nestF_bd1 _ _ _ _ _ _ _ _ _ | exact fun _ _ => nestF_bd1 _ _ _ _ _ _ _ _ _ | exact fun _ _ _ _ => nestF_bd1 _ _ _ _ _ _ _ _ _ | exact fun x hx => catF_one _ hx | refine And.intro ?_ ?_)
  · obtain rfl : i = h := by omega
    refine ⟨fun _ _ _ _ _ _ _ _ => trivial, SameD.rowD fun x y _ hy => ?_⟩
    obtain rfl : y = 0 := by omega
    exact SameD.rowD fun u v _ hv => by obtain rfl : v = 0 := by omega
                                        exact SameD.rfl' _
end Go.Eng
end

/- press: no plan is better than the cheapest one. No program in sight. -/
section
namespace Go.Eng
open Go Go.RowKit Go.Proofs
set_option maxRecDepth 100000
set_option maxHeartbeats 4000000
attribute [local irreducible] OwnT DefS
/-- What a plan leaves to be paid with k hours left. -/
def tlM (D : PD) (C : Nat → T3) : Nat → PS → Option (Int × T3)
  | 0, s => some (s.pk * D.pk, ⟨0, 0, 0⟩)
  | k + 1, s => match candM D (tlM D C k) s (D.h - (k + 1)) (C (D.h - (k + 1))) with
    | some x => some (x, C (D.h - (k + 1)))
    | none => none
theorem plM_tl {D : PD} {C : Nat → T3} (hT : (plM D C D.h).e = 0) : ∀ k, k ≤ D.h → ∃ x, tlM D C k (plM D C (D.h - k)).s = some x ∧
    (plM D C (D.h - k)).en + (plM D C (D.h - k)).st + x.1 = (plM D C D.h).en + (plM D C D.h).st + (plM D C D.h).s.pk * D.pk
  | 0, _ => ⟨_, rfl, rfl⟩
  | k + 1, hk => by
    obtain ⟨z, h1, h2⟩ := plM_tl hT k (by omega)
    have h0 : (plM D C (D.h - (k + 1))).e = 0 := by
      by_cases h : (plM D C (D.h - (k + 1))).e = 0
      · exact h
      · exact absurd (plM_stop h D.h (by omega) ▸ hT) h
    have h0' : (plM D C (D.h - k)).e = 0 := by
      by_cases h : (plM D C (D.h - k)).e = 0
      · exact h
      · exact absurd (plM_stop h D.h (by omega) ▸ hT) h
    have hr := plM_hr _ h0
    have e1 : D.h - k = (D.h - (k + 1)) + 1 := by omega
    rw [e1] at h1 h2 h0'
    simp only [plM, plStep, if_pos h0, hr] at h1 h2 h0'
    by_cases he : (hourP D (plM D C (D.h - (k + 1))).s (D.h - (k + 1)) (C (D.h - (k + 1)))).e = 0
    · rw [if_pos he] at h1 h2
      simp only [] at h1 h2
      refine ⟨(_, C (D.h - (k + 1))), by rw [tlM, candM, if_pos he, h1], ?_⟩
      simp only []
      omega
    · rw [if_neg he] at h0'
      exact absurd h0' he
theorem dig_surj {D : PD} (hD : D.Ok) {c : T3} (hc : chOk D c) (hz : zr D.n c = c) : ∃ q, q < tot D ∧ dig D q = c := by
  obtain ⟨a, b, d⟩ := c
  have h0 := hc 0
  have h1 := hc 1
  have h2 := hc 2
  refine ⟨(a * (rad D 1 * rad D 2 : Nat) + b * (rad D 2 : Nat) + d).toNat, ?_, ?_⟩
  all_goals
    unfold tot at *
    rcases M_cases hD with ⟨e, m0 | m0⟩ | ⟨e, m0 | m0, m1 | m1⟩ | ⟨e, m0 | m0, m1 | m1, m2 | m2⟩
  all_goals
    simp [rad, *, T3.get, dig, zr] at h0 h1 h2 hz ⊢
  all_goals try omega
theorem pickM_le {D : PD} {f : T3 → Option Int} : ∀ (k : Nat) {q : Nat} {v : Int}, q < k → f (dig D q) = some v → ∃ y, pickM D f k = some y ∧ y.1 ≤ v ∧ (y.1 = v → ∃ p, p ≤ q ∧ y.2 = dig D p)
  | 0, q, v, h, _ => absurd h (by omega)
  | k + 1, q, v, h, hf => by
    rcases Nat.lt_or_ge q k with hq | hq
    · obtain ⟨y, h1, h2, h3⟩ := pickM_le k hq hf
      simp only [pickM, h1]
      cases hk : f (dig D k) with
      | none => exact ⟨y, rfl, h2, h3⟩
      | some x =>
        simp only []
        by_cases hx : x < y.1
        · rw [if_pos hx]
          exact ⟨_, rfl, by simp only []; omega, fun e => by simp only [] at e; omega⟩
        · rw [if_neg hx]
          exact ⟨y, rfl, h2, h3⟩
    · obtain rfl : q = k := by omega
      simp only [pickM, hf]
      cases hp : pickM D f q with
      | none => exact ⟨_, rfl, Int.le_refl _, fun _ => ⟨q, Nat.le_refl _, rfl⟩⟩
      | some y =>
        simp only []
        by_cases hx : v < y.1
        · rw [if_pos hx]; exact ⟨_, rfl, Int.le_refl _, fun _ => ⟨q, Nat.le_refl _, rfl⟩⟩
        · rw [if_neg hx]
          obtain ⟨p, hp1, hp2, _⟩ := pickM_some q hp
          exact ⟨y, rfl, by omega, fun _ => ⟨p, by omega, hp2⟩⟩
/-- Choices that can be, and off beyond. -/
def chZ (D : PD) (c : T3) : Prop := chOk D c ∧ zr D.n c = c
theorem best_le {D : PD} (hD : D.Ok) {C : Nat → T3} (hC : ∀ i, i < D.h → chZ D (C i)) : ∀ (k : Nat) (s : PS) (x : Int × T3), k ≤ D.h → tlM D C k s = some x → ∃ y, bestM D k s = some y ∧ y.1 ≤ x.1
  | 0, s, x, _, h => ⟨_, rfl, by cases h; exact Int.le_refl _⟩
  | k + 1, s, x, hk, h => by
    simp only [tlM] at h
    split at h
    · rename_i v hv
      cases h
      obtain ⟨he, z, hz, rfl⟩ := candM_some hv
      obtain ⟨y, hy, hle⟩ := best_le hD hC k _ z (by omega) hz
      obtain ⟨q, hq, hdq⟩ := dig_surj hD (hC (D.h - (k + 1)) (by omega)).1 (hC (D.h - (k + 1)) (by omega)).2
      obtain ⟨w, h1, h2, _⟩ := pickM_le (D := D) (f := candM D (bestM D k) s (D.h - (k + 1))) (tot D) hq (by rw [hdq, candM, if_pos he, hy])
      exact ⟨w, h1, by simp only []; omega⟩
    · cases h
theorem dig_lex {D : PD} (hD : D.Ok) {p q : Nat} (hpq : p < q) (hq : q < tot D) : cmpL (fun a _ => (dig D p).get a) (fun a _ => (dig D q).get a) D.n 0 = some true := by
  unfold tot at hq
  rcases M_cases hD with ⟨e, m0 | m0⟩ | ⟨e, m0 | m0, m1 | m1⟩ | ⟨e, m0 | m0, m1 | m1, m2 | m2⟩
  all_goals
    simp only [e, cmpL]
    simp [rad, *, T3.get, dig] at hq ⊢
  all_goals
    repeat' split
  all_goals try simp
  all_goals omega
theorem cmpL_congr {w w' x x' : Nat → Nat → Int} : ∀ (r k : Nat), (∀ a, k ≤ a → a < k + r → w a 0 = w' a 0 ∧ x a 0 = x' a 0) → cmpL w x r k = cmpL w' x' r k
  | 0, _, _ => rfl
  | r + 1, k, h => by
    obtain ⟨h1, h2⟩ := h k (Nat.le_refl _) (by omega)
    simp only [cmpL, h1, h2, cmpL_congr r (k + 1) (fun a ha hb => h a (by omega) (by omega))]
theorem cmpL_same {w x : Nat → Nat → Int} : ∀ (r k : Nat), (∀ a, k ≤ a → a < k + r → w a 0 = x a 0) → cmpL w x r k = none
  | 0, _, _ => rfl
  | r + 1, k, h => by
    rw [cmpL, if_pos (h k (Nat.le_refl _) (by omega))]
    exact cmpL_same r (k + 1) (fun a ha hb => h a (by omega) (by omega))
theorem isSome_of {D : PD} {k : Nat} {s : PS} (h : (bestM D k s).isNone = false) : ∃ y, bestM D k s = some y := by
  cases hq : bestM D k s with
  | none => rw [hq] at h; cases h
  | some y => exact ⟨y, rfl⟩
/-- Of plans that cost as much the cheapest one is first. -/
theorem best_lex {D : PD} (hD : D.Ok) (hb : (bestM D D.h (begP D)).isNone = false) {C : Nat → T3} (hC : ∀ i, i < D.h → chZ D (C i)) {W : Nat → Nat → Nat → Int} (hW : ∀ i a, i < D.h → a < D.n → W i a 0 = (C i).get a) :
    ∀ (k : Nat) (x y : Int × T3), k ≤ D.h → tlM D C k (sAt D (D.h - k)) = some x → bestM D k (sAt D (D.h - k)) = some y → y.1 = x.1 → befL (fun _ => D.n) (plV (cAt D)) W k (D.h - k) = true
  | 0, _, _, _, _, _, _ => rfl
  | k + 1, x, y, hk, hx, hy, he => by
    simp only [tlM] at hx
    split at hx
    · rename_i v hv
      cases hx
      simp only [] at he
      obtain ⟨h0, z, hz, hvz⟩ := candM_some hv
      obtain ⟨u, hu, hle⟩ := best_le hD hC k _ z (by omega) hz
      obtain ⟨q, hq, hdq⟩ := dig_surj hD (hC (D.h - (k + 1)) (by omega)).1 (hC (D.h - (k + 1)) (by omega)).2
      obtain ⟨w, h1, h2, h3⟩ := pickM_le (D := D) (f := candM D (bestM D k) (sAt D (D.h - (k + 1))) (D.h - (k + 1))) (tot D) hq (by rw [hdq, candM, if_pos h0, hu])
      have hwy : w = y := by
        have : bestM D (k + 1) (sAt D (D.h - (k + 1))) = some w := h1
        rw [this] at hy; exact Option.some.inj hy
      subst hwy
      obtain ⟨p, hp, hdp⟩ := h3 (by omega)
      have hcat : cAt D (D.h - (k + 1)) = dig D p := by
        rw [cAt, show D.h - (D.h - (k + 1)) = k + 1 by omega, hy, wc_some, hdp]
      rw [befL]
      rcases Nat.lt_or_ge p q with hpq | hpq
      · have hl := dig_lex hD hpq hq
        rw [cmpL_congr (w' := fun a _ => (dig D p).get a) (x' := fun a _ => (dig D q).get a) D.n 0 (fun a _ ha => ⟨by simp only [plV, hcat], by rw [hW _ _ (by omega) (by omega), hdq]⟩), hl]
      · obtain rfl : p = q := by omega
        rw [cmpL_same D.n 0 (fun a _ ha => by simp only [plV]; rw [hcat, hdq, hW _ _ (by omega) (by omega)])]
        have e1 : D.h - (k + 1) + 1 = D.h - k := by omega
        rw [e1]
        have hs : (hourP D (sAt D (D.h - (k + 1))) (D.h - (k + 1)) (C (D.h - (k + 1)))).s = sAt D (D.h - k) := by
          rw [← e1, sAt_succ, hcat, hdq]
        rw [hs] at hz hu
        refine best_lex hD hb hC hW k z u (by omega) hz hu ?_
        obtain ⟨h5, h6, z2, h7, h8⟩ := bestM_some hD hy
        have hwc : w.2 = C (D.h - (k + 1)) := by rw [hdp, hdq]
        rw [hwc, hs, hu] at h7
        rw [hwc] at h8
        cases h7
        omega
    · cases hx
/-- The cheapest plan, played. -/
theorem own_plM {D : PD} (hD : D.Ok) {x : Int × T3} (hb : bestM D D.h (begP D) = some x) : ∀ k, k ≤ D.h → (plM D (cAt D) k).e = 0 ∧ (plM D (cAt D) k).hr = k ∧ (plM D (cAt D) k).s = sAt D k ∧ ∃ y, bestM D (D.h - k) (sAt D k) = some y ∧ (plM D (cAt D) k).en + (plM D (cAt D) k).st + y.1 = x.1
  | 0, _ => ⟨rfl, rfl, rfl, x, hb, by simp [plM]⟩
  | k + 1, hk => by
    obtain ⟨h1, h2, h3, y, h4, h5⟩ := own_plM hD hb k (by omega)
    have e1 : D.h - k = (D.h - (k + 1)) + 1 := by omega
    have hc : cAt D k = y.2 := by rw [cAt, h4, wc_some]
    rw [e1] at h4
    obtain ⟨g1, g2, z, g3, g4⟩ := bestM_some hD h4
    rw [show D.h - (D.h - (k + 1) + 1) = k by omega] at g2 g3 g4
    simp only [plM, plStep, if_pos h1, h2, h3, hc, if_pos g2]
    refine ⟨trivial, trivial, by rw [sAt_succ, hc], z, ?_, ?_⟩
    · rw [sAt_succ, hc]; exact g3
    · omega
theorem own_sum {D : PD} (hD : D.Ok) {x : Int × T3} (hb : bestM D D.h (begP D) = some x) : (plM D (cAt D) D.h).e = 0 ∧ (plM D (cAt D) D.h).hr = D.h ∧ (plM D (cAt D) D.h).en + (plM D (cAt D) D.h).st + (plM D (cAt D) D.h).s.pk * D.pk = x.1 := by
  obtain ⟨h1, h2, h3, y, h4, h5⟩ := own_plM hD hb D.h (Nat.le_refl _)
  rw [Nat.sub_self] at h4
  cases h4
  refine ⟨h1, h2, ?_⟩
  rw [h3]
  exact h5
theorem cAt_dig {D : PD} (hD : D.Ok) {x : Int × T3} (hb : bestM D D.h (begP D) = some x) {i : Nat} (hi : i < D.h) : ∃ q, q < tot D ∧ cAt D i = dig D q := by
  obtain ⟨h1, h2, h3, y, h4, h5⟩ := own_plM hD hb i (by omega)
  have e1 : D.h - i = (D.h - (i + 1)) + 1 := by omega
  have hc : cAt D i = y.2 := by rw [cAt, h4, wc_some]
  rw [e1] at h4
  obtain ⟨q, g1, g2, _⟩ := pickM_some (D := D) _ h4
  exact ⟨q, g1, by rw [hc, g2]⟩
theorem chT_cAt {D : PD} (hD : D.Ok) {x : Int × T3} (hb : bestM D D.h (begP D) = some x) {i : Nat} (hi : i < D.h) : chT D.n (plV (cAt D) i) = cAt D i := by
  obtain ⟨q, h1, h2⟩ := cAt_dig hD hb hi
  have := chT_dig hD q
  rw [h2.symm] at this
  exact this
theorem plM_congr {D : PD} {C C' : Nat → T3} : ∀ k, (∀ i, i < k → C i = C' i) → plM D C k = plM D C' k
  | 0, _ => rfl
  | k + 1, h => by simp only [plM, plM_congr k (fun i hi => h i (by omega)), h k (by omega)]
theorem chT_chZ {D : PD} (hD : D.Ok) {w : Nat → Nat → Int} (h : ∀ a, a < D.n → 0 ≤ w a 0 ∧ w a 0 ≤ D.M a) : chZ D (chT D.n w) := by
  have hn := hD.n
  refine ⟨fun a ha => by rw [chT_get ha (by omega)]; exact h a ha, ?_⟩
  rcases (by omega : D.n = 1 ∨ D.n = 2 ∨ D.n = 3) with e | e | e <;> simp [zr, chT, e]
end Go.Eng
end
