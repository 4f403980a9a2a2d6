/-
  BrineSplit: for every input the law returns true, and each argument reads afterwards as it read before. No condition.
-/
import Derived.Test.YtakbfbcfddcncaaRows
import Derived.WalkKit
import Derived.Test.YtakbfbcfddcncaaK2
set_option linter.unusedSimpArgs false
set_option linter.unusedVariables false
/- brine: Total. -/
section
namespace Go.Eng
open Go Go.RowKit Go.Proofs
set_option maxRecDepth 100000
set_option maxHeartbeats 4000000
attribute [local irreducible] OwnT DefS
/-- Pipes whose slugs can be added. -/
def OkT (n : Nat) (M : Nat → Nat) (V : Nat → Nat → Nat → Int) : Prop := n ≤ 100 ∧ ∀ i, i < n → M i ≤ 1000 ∧ OkB (slL (M i) (V i))
/-- What is in tank and the first pipes, and what is stored. -/
def toV (tv : Int) (M : Nat → Nat) (V : Nat → Nat → Nat → Int) (n : Nat) : Int := tv + smN (fun i => volL (slL (M i) (V i))) n
def toH (th he : Int) (M : Nat → Nat) (V : Nat → Nat → Nat → Int) (n : Nat) : Int := th + he + smN (fun i => heatL (slL (M i) (V i))) n
def mid (x : Int) : Prop := 0 ≤ x ∧ x ≤ 8796093022208
theorem OkT.bd {n : Nat} {M : Nat → Nat} {V : Nat → Nat → Nat → Int} (h : OkT n M V) : ∀ i, i ≤ n → (0 ≤ smN (fun i => volL (slL (M i) (V i))) i ∧ smN (fun i => volL (slL (M i) (V i))) i ≤ 2097152000 * (i : Int)) ∧ 0 ≤ smN (fun i => heatL (slL (M i) (V i))) i ∧ smN (fun i => heatL (slL (M i) (V i))) i ≤ 4398046511104000 * (i : Int)
  | 0, _ => by simp [smN]
  | i + 1, hi => by
    have h1 := h.bd i (by omega)
    obtain ⟨h2, h3⟩ := h.2 i (by omega)
    have h4 := h3.sum
    rw [slL_len] at h4
    simp only [smN, volL, heatL] at h1 ⊢
    omega
theorem okB_of {n : Nat} {v : Nat → Nat → Int} (h : allU (fun i => okS (v i 0) (v i 1)) n = true) : OkB (slL n v) := fun x hx => by
  obtain ⟨k, hk, rfl⟩ := slL_mem hx
  have := allU_iff.1 h k hk
  simp only [okS, Bool.and_eq_true, in3_iff] at this
  simp only []
  omega
theorem okBr_T {tv th : Int} {n : Nat} {A : Nat → Nat → Int} {M : Nat → Nat} {V : Nat → Nat → Nat → Int} {he hr : Int} (h : okBr tv th n A M V he hr = true) : OkT n M V ∧ mid tv ∧ mid th ∧ mid he := by
  obtain ⟨hp, _, hn, _⟩ := okBr_start h
  have h0 := h
  simp only [okBr, Bool.and_eq_true, Bool.or_eq_true, in3_iff, decide_eq_true_eq, allU_iff] at h
  obtain ⟨⟨h1, h2, h3⟩, ⟨h4, h5⟩, h6, h7⟩ := h
  refine ⟨⟨by omega, fun i hi => ?_⟩, ?_, ?_, ?_⟩
  · have := h7 i hi
    simp only [okPp, Bool.and_eq_true, in3_iff, decide_eq_true_eq] at this
    exact ⟨by omega, okB_of this.2.2.1⟩
  · unfold mid; omega
  · unfold mid; omega
  · unfold mid; omega
def TotalBase : BaseF := fun args => match args with
  | [.agg [.int .i64 tv, .int .i64 th, .row n sz_A f_A, .int .i64 he, .int .i64 hr]] => some ((sz_A = 2 ∧ NestR n 2 1 2 f_A) ∧ (n ≤ 1000000), if okBr tv th n (nsA f_A) (nsM 1 f_A) (nsV 1 f_A) he hr then .tup [.agg [.int .i64 (toV tv (nsM 1 f_A) (nsV 1 f_A) n), .int .i64 (toH th he (nsM 1 f_A) (nsV 1 f_A) n)], .int .i64 0] else .tup [.agg [.int .i64 0, .int .i64 0], .int .i64 1])
  | _ => none
theorem Total_eq (tv : Int) (th : Int) (n : Nat) (sz_A : Nat) (f_A : Nat → Nat → SV) (he : Int) (hr : Int) : TotalBase [.agg [.int .i64 tv, .int .i64 th, .row n sz_A f_A, .int .i64 he, .int .i64 hr]] = some ((sz_A = 2 ∧ NestR n 2 1 2 f_A) ∧ (n ≤ 1000000), if okBr tv th n (nsA f_A) (nsM 1 f_A) (nsV 1 f_A) he hr then .tup [.agg [.int .i64 (toV tv (nsM 1 f_A) (nsV 1 f_A) n), .int .i64 (toH th he (nsM 1 f_A) (nsV 1 f_A) n)], .int .i64 0] else .tup [.agg [.int .i64 0, .int .i64 0], .int .i64 1]) := rfl
theorem Total_base : Base Try.prog 21 TotalBase := by
  intro args p v hq hp
  unfold TotalBase at hq
  split at hq
  rotate_left
  · cases hq
  rename_i tv th n sz_A f_A he hr
  cases hq
  obtain ⟨⟨rfl, i_A⟩, pre⟩ := hp
  refine base_of (C := cx [] [] [(31, isBrineBase), (41, plusBase), (42, sumBase)] [(21, 7, p21_7)] none) (cx_ok trivial ⟨isBrine_base, plus_base, sum_base, trivial⟩) rfl (g := 21) (fn := Try.f21)
    (args' := [.agg [.int .i64 tv, .int .i64 th, .row n 2 (nestF 1 2 (nsA f_A) (nsM 1 f_A) (nsV 1 f_A)), .int .i64 he, .int .i64 hr]]) (fn_21) rfl 1000 (by
    simp only [BdL, Bd, and_self, and_true, true_and]
    exact (fun i j hi hj => nest_bd i_A i j hi hj)) ⟨SameD.agg ⟨SameD.rfl' _, SameD.rfl' _, SameD.nest i_A, SameD.rfl' _, SameD.rfl' _, trivial⟩, trivial⟩ ?_
  generalize nsA f_A = A at *
  generalize nsM 1 f_A = M at *
  generalize nsV 1 f_A = V at *
  cases hok : okBr tv th n A M V he hr with
  | false =>
    simp only [hok, pre, isBrine_eq, plus_eq, sum_eq, p21_7, nestR_lit, nsM_lit, nsV_lit, okBr_ns, nestF11_0, nestF11_1, Try.f21, go_sem, ↓reduceIte, Nat.reduceAdd, Nat.reduceSub, Nat.reduceMul, Nat.reduceEqDiff, Nat.reduceLT, Nat.reduceLeDiff, Int.reduceToNat, Int.reduceLE, Int.reduceLT, Int.reduceEq, Int.reduceNeg, reduceCtorEq]
  | true =>
    obtain ⟨hT, t1, t2, t3⟩ := okBr_T hok
    simp only [hok, pre, isBrine_eq, plus_eq, sum_eq, p21_7, nestR_lit, nsM_lit, nsV_lit, okBr_ns, nestF11_0, nestF11_1, Try.f21, go_sem, ↓reduceIte, Nat.reduceAdd, Nat.reduceSub, Nat.reduceMul, Nat.reduceEqDiff, Nat.reduceLT, Nat.reduceLeDiff, Int.reduceToNat, Int.reduceLE, Int.reduceLT, Int.reduceEq, Int.reduceNeg, reduceCtorEq]
    have hb : ∀ i, i ≤ n → bg (toV tv M V i) ∧ bg (toH th he M V i) := fun i hi => by
      have h1 := hT.bd i hi
      have h2 := hT.1
      unfold mid at t1 t2 t3
      unfold bg toV toH
      omega
    refine ⟨?_, ?_⟩
    · unfold mid at t1 t2 t3
      unfold bg
      omega
    refine loop_ofH { i : Nat // i ≤ n } (fun i => [(20, .int .i64 (i.1 : Int)), (19, .int .i64 (n : Int)), (18, .row n 2 (nestF 1 2 A M V)), (4, .ptr 2 0), (2, .ptr 1 0)]) (fun _ i => { blks := [.live 26 [.int .i64 tv, .int .i64 th, .row n 2 (nestF 1 2 A M V), .int .i64 he, .int .i64 hr], .live 23 [.int .i64 0, .int .i64 0], .live 23 [.int .i64 (toV tv M V i.1), .int .i64 (toH th he M V i.1)]], vecs := [] }) (fun i => n - i.1) (fun _ => ⟨rfl, rfl⟩) ⟨0, by omega⟩ (by
      have e1 : tv = toV tv M V 0 := by simp [toV, smN]
      have e2 : th + he = toH th he M V 0 := by simp [toH, smN]
      apply sub_of <;> simp only [go_sem, ↓reduceIte, Nat.reduceAdd, Nat.reduceSub, Nat.reduceMul, Nat.reduceEqDiff, Nat.reduceLT, Nat.reduceLeDiff, Int.reduceToNat, Int.reduceLE, Int.reduceLT, Int.reduceEq, Int.reduceNeg, reduceCtorEq] <;> (try simp) <;> (try exact fun j _ => Bd_nth (by simp [BdL, Bd]) j) <;> (try exact bd_setL (by simp [bdAs, BdL, Bd])) <;> (try exact nestF_bd _ _ _ _ _ _ _ _ _) <;> first | exact ⟨e1, e2⟩ | exact nestF_bd _ _ _ _ _ _ _ _ _ | exact ⟨nestF_bd _ _ _ _ _ _ _ _ _, nestF_bd _ _ _ _ _ _ _ _ _⟩) ?_
    rintro ⟨i, hi⟩
    simp only [hok, pre, isBrine_eq, plus_eq, sum_eq, p21_7, nestR_lit, nsM_lit, nsV_lit, okBr_ns, nestF11_0, nestF11_1, Try.f21, go_sem, ↓reduceIte, Nat.reduceAdd, Nat.reduceSub, Nat.reduceMul, Nat.reduceEqDiff, Nat.reduceLT, Nat.reduceLeDiff, Int.reduceToNat, Int.reduceLE, Int.reduceLT, Int.reduceEq, Int.reduceNeg, reduceCtorEq]
    refine ⟨fun e1 => ?_, fun e1 => ?_⟩
    · simp only [decide_eq_true_eq] at e1
      have ik : i < n := by omega
      obtain ⟨m1, m2⟩ := hT.2 i ik
      have m3 := m2.sum
      rw [slL_len] at m3
      have v1 : toV tv M V i + (smL (slL (M i) (V i))).1 = toV tv M V (i + 1) := by simp only [toV, smN, volL]; omega
      have v2 : toH th he M V i + (smL (slL (M i) (V i))).2 = toH th he M V (i + 1) := by simp only [toH, smN, heatL]; omega
      refine ⟨⟨by omega, by omega⟩, ⟨by kernel_rfl, by kernel_rfl⟩, ⟨m1, m2⟩, ⟨(hb i hi).1, (hb i hi).2, by unfold bg; omega, by unfold bg; omega⟩, ⟨i + 1, by omega⟩, by simp only []; omega, ?_⟩
      apply sub_of <;> simp only [wrap_s ik pre, v1, v2, go_sem, ↓reduceIte, Nat.reduceAdd, Nat.reduceSub, Nat.reduceMul, Nat.reduceEqDiff, Nat.reduceLT, Nat.reduceLeDiff, Int.reduceToNat, Int.reduceLE, Int.reduceLT, Int.reduceEq, Int.reduceNeg, reduceCtorEq] <;> (try simp) <;> (try exact fun j _ => Bd_nth (by simp [BdL, Bd]) j) <;> (try exact bd_setL (by simp [bdAs, BdL, Bd])) <;> (try exact nestF_bd _ _ _ _ _ _ _ _ _)
    · simp only [decide_eq_false_iff_not] at e1
      obtain rfl : i = n := by omega
      rfl
end Go.Eng
end

/- brine: Sum, and Total of the reference. -/
section
namespace Go.Eng
open Go Go.RowKit Go.Proofs
set_option maxRecDepth 100000
set_option maxHeartbeats 4000000
attribute [local irreducible] OwnT DefS
def SumBase : BaseF := fun args => match args with
  | [.agg [.int .i64 tv, .int .i64 th, .row n sz_A f_A, .int .i64 he, .int .i64 hr]] => some ((sz_A = 2 ∧ NestR n 2 1 2 f_A) ∧ (OkT n (nsM 1 f_A) (nsV 1 f_A) ∧ mid tv ∧ mid th ∧ mid he), .agg [.int .i64 (toV tv (nsM 1 f_A) (nsV 1 f_A) n), .int .i64 (toH th he (nsM 1 f_A) (nsV 1 f_A) n)])
  | _ => none
theorem Sum_eq (tv : Int) (th : Int) (n : Nat) (sz_A : Nat) (f_A : Nat → Nat → SV) (he : Int) (hr : Int) : SumBase [.agg [.int .i64 tv, .int .i64 th, .row n sz_A f_A, .int .i64 he, .int .i64 hr]] = some ((sz_A = 2 ∧ NestR n 2 1 2 f_A) ∧ (OkT n (nsM 1 f_A) (nsV 1 f_A) ∧ mid tv ∧ mid th ∧ mid he), .agg [.int .i64 (toV tv (nsM 1 f_A) (nsV 1 f_A) n), .int .i64 (toH th he (nsM 1 f_A) (nsV 1 f_A) n)]) := rfl
theorem Sum_base : Base Try.prog 23 SumBase := by
  intro args p v hq hp
  unfold SumBase at hq
  split at hq
  rotate_left
  · cases hq
  rename_i tv th n sz_A f_A he hr
  cases hq
  obtain ⟨⟨rfl, i_A⟩, pre⟩ := hp
  refine base_of (C := cx [] [] [(43, plusRBase)] [(23, 8, p23_8)] none) (cx_ok trivial ⟨plusR_base, trivial⟩) rfl (g := 23) (fn := Try.f23)
    (args' := [.agg [.int .i64 tv, .int .i64 th, .row n 2 (nestF 1 2 (nsA f_A) (nsM 1 f_A) (nsV 1 f_A)), .int .i64 he, .int .i64 hr]]) (fn_23) rfl 1000 (by
    simp only [BdL, Bd, and_self, and_true, true_and]
    exact (fun i j hi hj => nest_bd i_A i j hi hj)) ⟨SameD.agg ⟨SameD.rfl' _, SameD.rfl' _, SameD.nest i_A, SameD.rfl' _, SameD.rfl' _, trivial⟩, trivial⟩ ?_
  generalize nsA f_A = A at *
  generalize nsM 1 f_A = M at *
  generalize nsV 1 f_A = V at *
  obtain ⟨hT, t1, t2, t3⟩ := pre
  have hn := hT.1
  have hb : ∀ i, i ≤ n → (-1 ≤ toV tv M V i ∧ toV tv M V i ≤ 4503599627370496) ∧ -1 ≤ toH th he M V i ∧ toH th he M V i ≤ 450359962737049600 := fun i hi => by
    have h1 := hT.bd i hi
    unfold mid at t1 t2 t3
    unfold toV toH
    omega
  simp only [plusR_eq, p23_8, nestF11_0, nestF11_1, Try.f23, go_sem, ↓reduceIte, Nat.reduceAdd, Nat.reduceSub, Nat.reduceMul, Nat.reduceEqDiff, Nat.reduceLT, Nat.reduceLeDiff, Int.reduceToNat, Int.reduceLE, Int.reduceLT, Int.reduceEq, Int.reduceNeg, reduceCtorEq]
  refine ⟨?_, ?_⟩
  · unfold mid at t1 t2 t3
    unfold bg
    omega
  refine loop_ofH { i : Nat // i ≤ n } (fun i => [(4, .int .i64 (i.1 : Int)), (3, .ptr 2 0), (2, .ptr 1 0), (1, .ptr 0 0)]) (fun _ i => { blks := [.live 26 [.int .i64 tv, .int .i64 th, .row n 2 (nestF 1 2 A M V), .int .i64 he, .int .i64 hr], .live 23 [.int .i64 0, .int .i64 0], .live 23 [.int .i64 (toV tv M V i.1), .int .i64 (toH th he M V i.1)]], vecs := [] }) (fun i => n - i.1) (fun _ => ⟨rfl, rfl⟩) ⟨0, by omega⟩ (by
      have e1 : tv = toV tv M V 0 := by simp [toV, smN]
      have e2 : th + he = toH th he M V 0 := by simp [toH, smN]
      apply sub_of <;> simp only [go_sem, ↓reduceIte, Nat.reduceAdd, Nat.reduceSub, Nat.reduceMul, Nat.reduceEqDiff, Nat.reduceLT, Nat.reduceLeDiff, Int.reduceToNat, Int.reduceLE, Int.reduceLT, Int.reduceEq, Int.reduceNeg, reduceCtorEq] <;> (try simp) <;> (try exact fun j _ => Bd_nth (by simp [BdL, Bd]) j) <;> (try exact bd_setL (by simp [bdAs, BdL, Bd])) <;> (try exact nestF_bd _ _ _ _ _ _ _ _ _) <;> first | exact ⟨e1, e2⟩ | exact nestF_bd _ _ _ _ _ _ _ _ _ | exact ⟨nestF_bd _ _ _ _ _ _ _ _ _, nestF_bd _ _ _ _ _ _ _ _ _⟩) ?_
  rintro ⟨i, hi⟩
  simp only [plusR_eq, p23_8, nestF11_0, nestF11_1, Try.f23, go_sem, ↓reduceIte, Nat.reduceAdd, Nat.reduceSub, Nat.reduceMul, Nat.reduceEqDiff, Nat.reduceLT, Nat.reduceLeDiff, Int.reduceToNat, Int.reduceLE, Int.reduceLT, Int.reduceEq, Int.reduceNeg, reduceCtorEq]
  refine ⟨fun e1 => ?_, fun e1 => ?_⟩
  rotate_left
  · simp only [decide_eq_false_iff_not] at e1
    obtain rfl : i = n := by omega
    rfl
  simp only [decide_eq_true_eq] at e1
  have ik : i < n := by omega
  obtain ⟨m1, m2⟩ := hT.2 i ik
  have hbi := hb i hi
  have v1 : toV tv M V i + (smL (slL (M i) (V i))).1 = toV tv M V (i + 1) := by simp only [toV, smN, volL]; omega
  have v2 : toH th he M V i + (smL (slL (M i) (V i))).2 = toH th he M V (i + 1) := by simp only [toH, smN, heatL]; omega
  refine loop_ofH { k : Nat // k ≤ M i } (fun k => [(5, .int .i64 (k.1 : Int)), (4, .int .i64 (i : Int)), (3, .ptr 2 0), (2, .ptr 1 0), (1, .ptr 0 0)]) (fun _ k => { blks := [.live 26 [.int .i64 tv, .int .i64 th, .row n 2 (nestF 1 2 A M V), .int .i64 he, .int .i64 hr], .live 23 [.int .i64 0, .int .i64 0], .live 23 [.int .i64 (toV tv M V i + (smL (slL k.1 (V i))).1), .int .i64 (toH th he M V i + (smL (slL k.1 (V i))).2)]], vecs := [] }) (fun k => M i - k.1) (fun _ => ⟨rfl, rfl⟩) ⟨0, by omega⟩ (by
      have e1 : toV tv M V i = toV tv M V i + (smL (slL 0 (V i))).1 := by simp [slL, smL]
      have e2 : toH th he M V i = toH th he M V i + (smL (slL 0 (V i))).2 := by simp [slL, smL]
      apply sub_of <;> simp only [go_sem, ↓reduceIte, Nat.reduceAdd, Nat.reduceSub, Nat.reduceMul, Nat.reduceEqDiff, Nat.reduceLT, Nat.reduceLeDiff, Int.reduceToNat, Int.reduceLE, Int.reduceLT, Int.reduceEq, Int.reduceNeg, reduceCtorEq] <;> (try simp) <;> (try exact fun j _ => Bd_nth (by simp [BdL, Bd]) j) <;> (try exact bd_setL (by simp [bdAs, BdL, Bd])) <;> (try exact nestF_bd _ _ _ _ _ _ _ _ _) <;> first | exact ⟨e1, e2⟩ | exact nestF_bd _ _ _ _ _ _ _ _ _ | exact ⟨nestF_bd _ _ _ _ _ _ _ _ _, nestF_bd _ _ _ _ _ _ _ _ _⟩) ?_
  rintro ⟨k, hk⟩
  simp only [plusR_eq, p23_8, nestF11_0, nestF11_1, Try.f23, go_sem, ↓reduceIte, Nat.reduceAdd, Nat.reduceSub, Nat.reduceMul, Nat.reduceEqDiff, Nat.reduceLT, Nat.reduceLeDiff, Int.reduceToNat, Int.reduceLE, Int.reduceLT, Int.reduceEq, Int.reduceNeg, reduceCtorEq]
  refine ⟨⟨by omega, by omega⟩, fun g1 => ?_, fun g1 => ?_⟩
  · simp only [decide_eq_true_eq] at g1
    have kk : k < M i := by omega
    have h1 := (m2.take hk).sum
    rw [slL_len] at h1
    have h2 := m2.at kk
    have h3 : smL (slL (k + 1) (V i)) = plS (smL (slL k (V i))) (V i k 0, V i k 1) := by rw [slL_succ, smL_app]; simp [smL, plS]
    have u1 : toV tv M V i + (smL (slL k (V i))).1 + V i k 0 = toV tv M V i + (smL (slL (k + 1) (V i))).1 := by rw [h3]; simp only [plS]; omega
    have u2 : toH th he M V i + (smL (slL k (V i))).2 + V i k 1 = toH th he M V i + (smL (slL (k + 1) (V i))).2 := by rw [h3]; simp only [plS]; omega
    refine ⟨⟨by kernel_rfl, by kernel_rfl⟩, ⟨by omega, by omega⟩, ⟨by omega, by omega⟩, ⟨by unfold bg; omega, by unfold bg; omega, by unfold bg; omega, by unfold bg; omega⟩, ⟨k + 1, by omega⟩, by simp only []; omega, ?_⟩
    apply sub_of <;> simp only [wrap_s kk (show M i ≤ 1000000 by omega), u1, u2, go_sem, ↓reduceIte, Nat.reduceAdd, Nat.reduceSub, Nat.reduceMul, Nat.reduceEqDiff, Nat.reduceLT, Nat.reduceLeDiff, Int.reduceToNat, Int.reduceLE, Int.reduceLT, Int.reduceEq, Int.reduceNeg, reduceCtorEq] <;> (try simp) <;> (try exact fun j _ => Bd_nth (by simp [BdL, Bd]) j) <;> (try exact bd_setL (by simp [bdAs, BdL, Bd])) <;> (try exact nestF_bd _ _ _ _ _ _ _ _ _)
  · simp only [decide_eq_false_iff_not] at g1
    obtain rfl : k = M i := by omega
    refine ⟨⟨i + 1, by omega⟩, by simp only []; omega, ?_⟩
    apply sub_of <;> simp only [wrap_s ik (show n ≤ 1000000 by omega), v1, v2, go_sem, ↓reduceIte, Nat.reduceAdd, Nat.reduceSub, Nat.reduceMul, Nat.reduceEqDiff, Nat.reduceLT, Nat.reduceLeDiff, Int.reduceToNat, Int.reduceLE, Int.reduceLT, Int.reduceEq, Int.reduceNeg, reduceCtorEq] <;> (try simp) <;> (try exact fun j _ => Bd_nth (by simp [BdL, Bd]) j) <;> (try exact bd_setL (by simp [bdAs, BdL, Bd])) <;> (try exact nestF_bd _ _ _ _ _ _ _ _ _)
def TotalRBase : BaseF := fun args => match args with
  | [.agg [.int .i64 tv, .int .i64 th, .row n sz_A f_A, .int .i64 he, .int .i64 hr]] => some ((sz_A = 2 ∧ NestR n 2 1 2 f_A) ∧ (n ≤ 1000000 ∧ ∀ i, i < n → (nsM 1 f_A) i ≤ 1000000), if okBr tv th n (nsA f_A) (nsM 1 f_A) (nsV 1 f_A) he hr then .tup [.agg [.int .i64 (toV tv (nsM 1 f_A) (nsV 1 f_A) n), .int .i64 (toH th he (nsM 1 f_A) (nsV 1 f_A) n)], .int .i64 0] else .tup [.agg [.int .i64 0, .int .i64 0], .int .i64 1])
  | _ => none
theorem TotalR_eq (tv : Int) (th : Int) (n : Nat) (sz_A : Nat) (f_A : Nat → Nat → SV) (he : Int) (hr : Int) : TotalRBase [.agg [.int .i64 tv, .int .i64 th, .row n sz_A f_A, .int .i64 he, .int .i64 hr]] = some ((sz_A = 2 ∧ NestR n 2 1 2 f_A) ∧ (n ≤ 1000000 ∧ ∀ i, i < n → (nsM 1 f_A) i ≤ 1000000), if okBr tv th n (nsA f_A) (nsM 1 f_A) (nsV 1 f_A) he hr then .tup [.agg [.int .i64 (toV tv (nsM 1 f_A) (nsV 1 f_A) n), .int .i64 (toH th he (nsM 1 f_A) (nsV 1 f_A) n)], .int .i64 0] else .tup [.agg [.int .i64 0, .int .i64 0], .int .i64 1]) := rfl
theorem TotalR_base : Base Try.prog 22 TotalRBase := by
  intro args p v hq hp
  unfold TotalRBase at hq
  split at hq
  rotate_left
  · cases hq
  rename_i tv th n sz_A f_A he hr
  cases hq
  obtain ⟨⟨rfl, i_A⟩, pre⟩ := hp
  refine base_of (C := cx [] [] [(15, BrineRBase), (23, SumBase)] [] none) (cx_ok trivial ⟨BrineR_base, Sum_base, trivial⟩) rfl (g := 22) (fn := Try.f22)
    (args' := [.agg [.int .i64 tv, .int .i64 th, .row n 2 (nestF 1 2 (nsA f_A) (nsM 1 f_A) (nsV 1 f_A)), .int .i64 he, .int .i64 hr]]) (fn_22) rfl 1000 (by
    simp only [BdL, Bd, and_self, and_true, true_and]
    exact (fun i j hi hj => nest_bd i_A i j hi hj)) ⟨SameD.agg ⟨SameD.rfl' _, SameD.rfl' _, SameD.nest i_A, SameD.rfl' _, SameD.rfl' _, trivial⟩, trivial⟩ ?_
  generalize nsA f_A = A at *
  generalize nsM 1 f_A = M at *
  generalize nsV 1 f_A = V at *
  cases hok : okBr tv th n A M V he hr with
  | false =>
    simp only [hok, pre.1, BrineR_eq, Sum_eq, nestR_lit, nsM_lit, nsV_lit, okBr_ns, nestF11_0, nestF11_1, Try.f22, go_sem, ↓reduceIte, Nat.reduceAdd, Nat.reduceSub, Nat.reduceMul, Nat.reduceEqDiff, Nat.reduceLT, Nat.reduceLeDiff, Int.reduceToNat, Int.reduceLE, Int.reduceLT, Int.reduceEq, Int.reduceNeg, reduceCtorEq]
    exact pre.2
  | true =>
    have hT := okBr_T hok
    simp only [hok, pre.1, BrineR_eq, Sum_eq, nestR_lit, nsM_lit, nsV_lit, okBr_ns, nestF11_0, nestF11_1, Try.f22, go_sem, ↓reduceIte, Nat.reduceAdd, Nat.reduceSub, Nat.reduceMul, Nat.reduceEqDiff, Nat.reduceLT, Nat.reduceLeDiff, Int.reduceToNat, Int.reduceLE, Int.reduceLT, Int.reduceEq, Int.reduceNeg, reduceCtorEq]
    exact ⟨pre.2, hT⟩
end Go.Eng
end

/- brine: great; what all events leave. -/
section
namespace Go.Eng
open Go Go.RowKit Go.Proofs
set_option maxRecDepth 100000
set_option maxHeartbeats 4000000
attribute [local irreducible] OwnT DefS
theorem spl_i {q : Bool} {A B : Prop} (a : A) (b : B) : spl q A B := ⟨fun _ => a, fun _ => b⟩
def grM (n : Nat) (M : Nat → Nat) : Bool := decide (12 < n) || !allU (fun i => decide (M i ≤ 20)) n
theorem grM_no {n : Nat} {M : Nat → Nat} (h : grM n M = false) : n ≤ 12 ∧ ∀ i, i < n → M i ≤ 20 := by
  simp only [grM, Bool.or_eq_false_iff, Bool.not_eq_false', decide_eq_false_iff_not, allU_iff, decide_eq_true_eq] at h
  exact ⟨by omega, h.2⟩
def greatBase : BaseF := fun args => match args with
  | [.agg [.int .i64 tv, .int .i64 th, .row n sz_A f_A, .int .i64 he, .int .i64 hr]] => some ((sz_A = 2 ∧ NestR n 2 1 2 f_A), .bool (grM n (nsM 1 f_A)))
  | _ => none
theorem great_eq (tv : Int) (th : Int) (n : Nat) (sz_A : Nat) (f_A : Nat → Nat → SV) (he : Int) (hr : Int) : greatBase [.agg [.int .i64 tv, .int .i64 th, .row n sz_A f_A, .int .i64 he, .int .i64 hr]] = some ((sz_A = 2 ∧ NestR n 2 1 2 f_A), .bool (grM n (nsM 1 f_A))) := rfl
theorem great_base : Base Try.prog 12 greatBase := by
  intro args p v hq hp
  unfold greatBase at hq
  split at hq
  rotate_left
  · cases hq
  rename_i tv th n sz_A f_A he hr
  cases hq
  obtain ⟨rfl, i_A⟩ := hp
  refine base_of (C := cx [] [] [] [] none) (cx_ok trivial trivial) rfl (g := 12) (fn := Try.f12)
    (args' := [.agg [.int .i64 tv, .int .i64 th, .row n 2 (nestF 1 2 (nsA f_A) (nsM 1 f_A) (nsV 1 f_A)), .int .i64 he, .int .i64 hr]]) (fn_12) rfl 1000 (by
    simp only [BdL, Bd, and_self, and_true, true_and]
    exact (fun i j hi hj => nest_bd i_A i j hi hj)) ⟨SameD.agg ⟨SameD.rfl' _, SameD.rfl' _, SameD.nest i_A, SameD.rfl' _, SameD.rfl' _, trivial⟩, trivial⟩ ?_
  generalize nsA f_A = A
  generalize nsM 1 f_A = M
  generalize nsV 1 f_A = V
  simp only [nestF11_0, nestF11_1, Try.f12, go_sem, ↓reduceIte, Nat.reduceAdd, Nat.reduceSub, Nat.reduceMul, Nat.reduceEqDiff, Nat.reduceLT, Nat.reduceLeDiff, Int.reduceToNat, Int.reduceLE, Int.reduceLT, Int.reduceEq, Int.reduceNeg, reduceCtorEq]
  refine loop_ofH { i : Nat // i ≤ n ∧ i ≤ 13 ∧ ∀ j, j < i → (fun i => decide (M i ≤ 20)) j = true } (fun i => [(3, .int .i64 (i.1 : Int)), (1, .ptr 0 0)]) (fun h _ => h) (fun i => 13 - i.1) (fun _ => ⟨rfl, rfl⟩) ⟨0, by omega, by omega, by omega⟩ (by (apply sub_of <;> simp only [go_sem, ↓reduceIte, Nat.reduceAdd, Nat.reduceSub, Nat.reduceMul, Nat.reduceEqDiff, Nat.reduceLT, Nat.reduceLeDiff, Int.reduceToNat, Int.reduceLE, Int.reduceLT, Int.reduceEq, Int.reduceNeg, reduceCtorEq] <;> (try simp [catF]) <;> (try exact fun j _ => Bd_nth (by simp [BdL, Bd]) j) <;> (try exact bd_setL (by simp [bdAs, BdL, Bd])) <;> (try exact nestF_bd _ _ _ _ _ _ _ _ _))) ?_
  rintro ⟨i, hi, h13, h3⟩
  have w : IntKind.i64.wrap ((i : Int) + 1) = ((i + 1 : Nat) : Int) := by rw [wrap_id (by omega) (by omega)]; omega
  simp only [nestF11_0, nestF11_1, Try.f12, go_sem, ↓reduceIte, Nat.reduceAdd, Nat.reduceSub, Nat.reduceMul, Nat.reduceEqDiff, Nat.reduceLT, Nat.reduceLeDiff, Int.reduceToNat, Int.reduceLE, Int.reduceLT, Int.reduceEq, Int.reduceNeg, reduceCtorEq]
  refine ⟨fun e1 => ?_, fun e1 => ?_⟩
  · simp only [decide_eq_true_eq] at e1
    have ik : i < n := by omega
    refine ⟨fun e2 => ?_, fun e2 => ?_⟩
    · simp only [decide_eq_true_eq] at e2
      refine ⟨⟨by omega, by omega⟩, ?_⟩
      by_cases c1 : M i ≤ 20
      · have e : decide (20 < (M i : Int)) = false := decide_eq_false (by omega)
        simp only [e, go_sem, ↓reduceIte, Nat.reduceAdd, Nat.reduceSub, Nat.reduceMul, Nat.reduceEqDiff, Nat.reduceLT, Nat.reduceLeDiff, Int.reduceToNat, Int.reduceLE, Int.reduceLT, Int.reduceEq, Int.reduceNeg, reduceCtorEq]
        refine ⟨⟨i + 1, by omega, by omega, below h3 (decide_eq_true c1)⟩, by simp only []; omega, ?_⟩
        apply sub_of <;> simp only [w, go_sem, ↓reduceIte, Nat.reduceAdd, Nat.reduceSub, Nat.reduceMul, Nat.reduceEqDiff, Nat.reduceLT, Nat.reduceLeDiff, Int.reduceToNat, Int.reduceLE, Int.reduceLT, Int.reduceEq, Int.reduceNeg, reduceCtorEq] <;> (try simp) <;> (try exact fun j _ => Bd_nth (by simp [BdL, Bd]) j) <;> (try exact bd_setL (by simp [bdAs, BdL, Bd])) <;> (try exact nestF_bd _ _ _ _ _ _ _ _ _)
      · have e : decide (20 < (M i : Int)) = true := decide_eq_true (by omega)
        simp only [e, go_sem, ↓reduceIte, Nat.reduceAdd, Nat.reduceSub, Nat.reduceMul, Nat.reduceEqDiff, Nat.reduceLT, Nat.reduceLeDiff, Int.reduceToNat, Int.reduceLE, Int.reduceLT, Int.reduceEq, Int.reduceNeg, reduceCtorEq]
        simp only [grM, allU_false (p := fun i => decide (M i ≤ 20)) ik (decide_eq_false c1), Bool.not_false, Bool.or_true]
    · simp only [decide_eq_false_iff_not] at e2
      have c1 : decide (12 < (n : Int)) = true := decide_eq_true (by omega)
      have c2 : decide (12 < n) = true := decide_eq_true (by omega)
      simp only [grM, c1, c2, Bool.true_or]
  · simp only [decide_eq_false_iff_not] at e1
    obtain rfl : i = n := by omega
    by_cases c : 12 < i
    · have c1 : decide (12 < (i : Int)) = true := decide_eq_true (by omega)
      have c2 : decide (12 < i) = true := decide_eq_true c
      simp only [grM, c1, c2, Bool.true_or]
    · have c1 : decide (12 < (i : Int)) = false := decide_eq_false (by omega)
      have c2 : decide (12 < i) = false := decide_eq_false c
      simp only [grM, c1, c2, allU_true h3, Bool.not_true, Bool.or_false]
/-- What holds of the plant behind all events. -/
theorem plM_kept {N : Nat} {room : Nat → Int} (hroom : ∀ i, i < N → 0 ≤ room i ∧ room i ≤ 1048576) {s : TkP} {R : Rst} (x : Nat → Nat → Int) {H : Int} (h : POk N room s R H) : ∀ j : Nat, Kept N s (plM N room s R x j).s R (plM N room s R x j).R
  | 0 => Kept.rfl' _ _ _
  | j + 1 => by
    have h1 := (plM_fine hroom x h j).1
    have h2 := plM_kept hroom x h j
    have h3 := (do_fine hroom h1 (x j 0) (x j 1) (x j 2) (x j 3)).2
    simp only [plM]
    split
    · split
      · exact h2.trans h3
      · exact h2
    · exact h2
theorem plM_n {N : Nat} {room : Nat → Int} {s : TkP} {R : Rst} {x : Nat → Nat → Int} : ∀ j : Nat, (plM N room s R x j).n ≤ j
  | 0 => Nat.le_refl 0
  | j + 1 => by
    have := plM_n (N := N) (room := room) (s := s) (R := R) (x := x) j
    simp only [plM]
    split
    · split
      · exact Nat.le_refl _
      · exact Nat.le_succ _
    · omega
section
variable {tv th : Int} {n : Nat} {A : Nat → Nat → Int} {M : Nat → Nat} {V : Nat → Nat → Nat → Int} {he hr : Int} {m : Nat} {x : Nat → Nat → Int}
theorem plA_n : (plA tv th n A M V he hr m x).n ≤ m := by
  unfold plA
  split
  · split
    · exact Nat.zero_le _
    · exact plM_n m
  · exact Nat.zero_le _
theorem plA_ok (h : (plA tv th n A M V he hr m x).e = 0) : okBr tv th n A M V he hr = true ∧ m ≤ 256 ∧ plA tv th n A M V he hr m x = plM n (fun i => A i 0) (s00 tv th M V) (R00 he hr) x m := by
  unfold plA at h ⊢
  split at h
  · split at h
    · cases h
    · rename_i h1 h2
      exact ⟨h1, by omega, by rw [if_pos h1, if_neg h2]⟩
  · cases h
structure Left (tv th : Int) (n : Nat) (A : Nat → Nat → Int) (M : Nat → Nat) (V : Nat → Nat → Nat → Int) (he hr : Int) (m : Nat) (r : PlR) : Prop where
  nn : r.n = m
  ok : POk n (fun i => A i 0) r.s r.R 3298534883328
  room : ∀ i, i < n → 0 ≤ A i 0 ∧ A i 0 ≤ 1048576
  n8 : 1 ≤ n ∧ n ≤ 8
  kept : Kept n (s00 tv th M V) r.s (R00 he hr) r.R
theorem plA_left (h : (plA tv th n A M V he hr m x).e = 0) : Left tv th n A M V he hr m (plA tv th n A M V he hr m x) := by
  obtain ⟨h1, h2, h3⟩ := plA_ok h
  obtain ⟨k1, k2, k3, k4⟩ := okBr_start h1
  have k5 := plM_fine k2 x k1 m
  rw [h3] at h ⊢
  exact ⟨k5.2 h, k5.1.mono (by omega), k2, ⟨k4, k3⟩, plM_kept k2 x k1 m⟩
end
/-- A plant's own pipes can be added. -/
theorem POk.okB {N : Nat} {room : Nat → Int} (hroom : ∀ i, i < N → 0 ≤ room i ∧ room i ≤ 1048576) {s : TkP} {R : Rst} {H : Int} (h : POk N room s R H) (hH : H ≤ 4398046511104) {i : Nat} (hi : i < N) : OkB (s.sl i) := fun y hy => by
  have h1 := (h.ok.ok i hi) y hy
  have h2 := (h.ok.ok i hi).mem_le hy
  have h3 := h.ok.room i hi
  have h4 := hroom i hi
  have h5 := smN_le (f := fun i => heatL (s.sl i)) N i hi (fun i hi => (h.ok.ok i hi).heat)
  have h6 := h.heat
  have h7 := h.ok.t
  have h8 := h.lh
  simp only [TkP.heat] at h6 h5
  omega
theorem POk.okT {N : Nat} (hN : N ≤ 100) {room : Nat → Int} (hroom : ∀ i, i < N → 0 ≤ room i ∧ room i ≤ 1048576) {s : TkP} {R : Rst} {H : Int} (h : POk N room s R H) (hH : H ≤ 4398046511104) : OkT N (fun i => (s.sl i).length) (fun i => slI (s.sl i)) :=
  ⟨hN, fun i hi => ⟨by have := h.ok.len i hi; show (s.sl i).length ≤ 1000; omega, by rw [slL_slI]; exact h.okB hroom hH hi⟩⟩
end Go.Eng
end

/- brine: events in two parts; the plain law. -/
section
namespace Go.Eng
open Go Go.RowKit Go.Proofs
set_option maxRecDepth 100000
set_option maxHeartbeats 4000000
attribute [local irreducible] OwnT DefS
def addR (T R : Rst) : Rst := ⟨R.he, R.hr, T.w + R.w, T.lv + R.lv, T.lh + R.lh, T.fv + R.fv, T.fh + R.fh, T.ch + R.ch, T.ai + R.ai, T.us + R.us, T.bo + R.bo⟩
theorem doM_add {N : Nat} {room : Nat → Int} {s : TkP} {T R : Rst} {k p a h : Int} : doM N room s (addR T R) k p a h = ((doM N room s R k p a h).1, (doM N room s R k p a h).2.1, addR T (doM N room s R k p a h).2.2) := by
  have ec : ∀ (e : Int) (s : TkP) (R : Rst) (e' : Int) (s' : TkP) (R' : Rst), e = e' → s = s' → R = R' → ((e, s, R) : Stp) = (e', s', R') := by rintro _ _ _ _ _ _ rfl rfl rfl; rfl
  unfold doM
  split
  · unfold pumpM; split <;> (try split) <;> rfl
  split
  · unfold warmM; split <;> (try split) <;> (refine ec _ _ _ _ _ _ rfl rfl ?_) <;> (simp only [addR, Rst.mk.injEq, true_and, and_true]) <;> (try omega)
  split
  · unfold leakM; split <;> (refine ec _ _ _ _ _ _ rfl rfl ?_) <;> (simp only [addR, Rst.mk.injEq, true_and, and_true]) <;> (try omega)
  split
  · unfold fillM; split <;> (try split) <;> (refine ec _ _ _ _ _ _ rfl rfl ?_) <;> (simp only [addR, Rst.mk.injEq, true_and, and_true]) <;> (try omega)
  split
  · unfold chillM; split <;> (try split) <;> (refine ec _ _ _ _ _ _ rfl rfl ?_) <;> (simp only [addR, Rst.mk.injEq, true_and, and_true]) <;> (try omega)
  split
  · unfold useM; split <;> (refine ec _ _ _ _ _ _ rfl rfl ?_) <;> (simp only [addR, Rst.mk.injEq, true_and, and_true]) <;> (try omega)
  · rfl
theorem plM_add {N : Nat} {room : Nat → Int} {s : TkP} {T R : Rst} {x : Nat → Nat → Int} : ∀ j, plM N room s (addR T R) x j = ⟨(plM N room s R x j).e, (plM N room s R x j).n, (plM N room s R x j).s, addR T (plM N room s R x j).R⟩
  | 0 => rfl
  | j + 1 => by
    simp only [plM, plM_add j, doM_add]
    split
    · split <;> rfl
    · rfl
theorem plM_nn {N : Nat} {room : Nat → Int} {s : TkP} {R : Rst} {x : Nat → Nat → Int} : ∀ j, (plM N room s R x j).e = 0 → (plM N room s R x j).n = j
  | 0, _ => rfl
  | j + 1, h => by
    simp only [plM] at h ⊢
    split at h
    · split at h
      · rename_i h1 h2; rw [if_pos h1, if_pos h2]
      · exact absurd h (by assumption)
    · exact absurd h (by assumption)
theorem plM_pre {N : Nat} {room : Nat → Int} {s : TkP} {R : Rst} {x : Nat → Nat → Int} {m : Nat} (h : (plM N room s R x m).e = 0) {k : Nat} (hk : k ≤ m) : (plM N room s R x k).e = 0 := by
  by_cases h0 : (plM N room s R x k).e = 0
  · exact h0
  · rw [plM_end h0 m hk] at h; exact absurd h h0
theorem plM_two {N : Nat} {room : Nat → Int} {s : TkP} {R : Rst} {x : Nat → Nat → Int} {k : Nat} (hk : (plM N room s R x k).e = 0) : ∀ j, plM N room s R x (k + j) =
    ⟨(plM N room (plM N room s R x k).s (plM N room s R x k).R (fun i => x (k + i)) j).e, k + (plM N room (plM N room s R x k).s (plM N room s R x k).R (fun i => x (k + i)) j).n, (plM N room (plM N room s R x k).s (plM N room s R x k).R (fun i => x (k + i)) j).s, (plM N room (plM N room s R x k).s (plM N room s R x k).R (fun i => x (k + i)) j).R⟩
  | 0 => by
    have := plM_nn (N := N) (room := room) (s := s) (R := R) (x := x) k hk
    have e : ∀ P : PlR, P.e = 0 → P.n = k → P = ⟨0, k + 0, P.s, P.R⟩ := by
      rintro ⟨e, n, s, R⟩ h1 h2
      simp only at h1 h2
      subst h1 h2
      rfl
    exact e _ hk this
  | j + 1 => by
    rw [← Nat.add_assoc]
    simp only [plM, plM_two hk j]
    split
    · split <;> rfl
    · rfl
/-- What the two parts leave. -/
theorem split_law {tv th : Int} {n : Nat} {A : Nat → Nat → Int} {M : Nat → Nat} {V : Nat → Nat → Nat → Int} {he hr : Int} {m : Nat} {x : Nat → Nat → Int} (h0 : (plA tv th n A M V he hr m x).e = 0) {k : Nat} (hk : k ≤ m) :
    ∃ P Q : PlR, plA tv th n A M V he hr k x = P ∧ P.e = 0 ∧ P.n = k ∧
      (okBr P.s.t.1 P.s.t.2 n (fun i _ => A i 0) (fun i => (P.s.sl i).length) (fun i => slI (P.s.sl i)) P.R.he P.R.hr = true →
        plA P.s.t.1 P.s.t.2 n (fun i _ => A i 0) (fun i => (P.s.sl i).length) (fun i => slI (P.s.sl i)) P.R.he P.R.hr (m - k) (fun i => x (k + i)) = Q ∧ Q.e = 0 ∧ Q.n = m - k ∧
        (plA tv th n A M V he hr m x).s = Q.s ∧ (plA tv th n A M V he hr m x).R = addR P.R Q.R) := by
  obtain ⟨h1, h2, h3⟩ := plA_ok h0
  rw [h3] at h0 ⊢
  have hP : plA tv th n A M V he hr k x = plM n (fun i => A i 0) (s00 tv th M V) (R00 he hr) x k := by
    unfold plA; rw [if_pos h1, if_neg (by omega)]
  have hPe := plM_pre h0 hk
  have hPn := plM_nn k hPe
  have htwo := plM_two hPe (m - k)
  rw [show k + (m - k) = m by omega] at htwo
  rw [hP]
  generalize plM n (fun i => A i 0) (s00 tv th M V) (R00 he hr) x k = P at *
  refine ⟨P, plM n (fun i => A i 0) P.s (R00 P.R.he P.R.hr) (fun i => x (k + i)) (m - k), rfl, hPe, hPn, fun hok => ?_⟩
  have hR : P.R = addR P.R (R00 P.R.he P.R.hr) := by
    simp only [addR, R00, Int.add_zero]
  have hadd := plM_add (N := n) (room := fun i => A i 0) (s := P.s) (T := P.R) (R := R00 P.R.he P.R.hr) (x := fun i => x (k + i)) (m - k)
  rw [← hR] at hadd
  rw [hadd] at htwo
  have hs : s00 P.s.t.1 P.s.t.2 (fun i => (P.s.sl i).length) (fun i => slI (P.s.sl i)) = P.s := by simp only [s00, slL_slI]
  rw [htwo] at h0 ⊢
  simp only at h0
  refine ⟨?_, h0, plM_nn _ h0, rfl, rfl⟩
  unfold plA
  rw [if_pos hok, if_neg (by omega), hs]
def plusSBase : BaseF := fun args => match args with
  | [.agg [.int .i64 a, .int .i64 b], .agg [.int .i64 c, .int .i64 d]] => some ((bg a ∧ bg b ∧ bg c ∧ bg d), .agg [.int .i64 (a + c), .int .i64 (b + d)])
  | _ => none
theorem plusS_eq (a : Int) (b : Int) (c : Int) (d : Int) : plusSBase [.agg [.int .i64 a, .int .i64 b], .agg [.int .i64 c, .int .i64 d]] = some ((bg a ∧ bg b ∧ bg c ∧ bg d), .agg [.int .i64 (a + c), .int .i64 (b + d)]) := rfl
theorem plusS_base : Base Try.prog 16 plusSBase := by
  intro args p v hq hp
  unfold plusSBase at hq
  split at hq
  rotate_left
  · cases hq
  rename_i a b c d
  cases hq
  have pre := hp
  refine base_of (C := cx [] [] [] [] none) (cx_ok trivial trivial) rfl (g := 16) (fn := Try.f16)
    (args' := [.agg [.int .i64 a, .int .i64 b], .agg [.int .i64 c, .int .i64 d]]) (fn_16) rfl 1000 (by simp only [BdL, Bd, and_self, and_true, true_and]) ⟨SameD.rfl' _, SameD.rfl' _, trivial⟩ ?_
  obtain ⟨p1, p2, p3, p4⟩ := pre
  unfold bg at p1 p2 p3 p4
  have w1 : IntKind.i64.wrap (a + c) = a + c := wrap_id (by omega) (by omega)
  have w2 : IntKind.i64.wrap (b + d) = b + d := wrap_id (by omega) (by omega)
  simp only [w1, w2, Try.f16, go_sem, ↓reduceIte, Nat.reduceAdd, Nat.reduceSub, Nat.reduceMul, Nat.reduceEqDiff, Nat.reduceLT, Nat.reduceLeDiff, Int.reduceToNat, Int.reduceLE, Int.reduceLT, Int.reduceEq, Int.reduceNeg, reduceCtorEq]
end Go.Eng
end

/- brine: litres and heat are conserved. -/
section
namespace Go.Eng
open Go Go.RowKit Go.Proofs
set_option maxRecDepth 100000
set_option maxHeartbeats 4000000
attribute [local irreducible] OwnT DefS
theorem plS1_no {n : Nat} {A : Nat → Nat → Int} {r : PlR} (h : r.e ≠ 0) : plS1 n A r = .tup [.agg [.int .i64 0, .int .i64 0, .row 0 2 (piR A ⟨(0, 0), fun _ => []⟩), .int .i64 0, .int .i64 0],
    .agg [.int .i64 0, .int .i64 0, .int .i64 0, .int .i64 0, .int .i64 0, .int .i64 0, .int .i64 0, .int .i64 0, .int .i64 0], .int .i64 (r.n : Int), .int .i64 r.e] := by
  simp only [plS1, plN, plF, if_neg h, R00]
theorem plS1_ok {n : Nat} {A : Nat → Nat → Int} {r : PlR} (h : r.e = 0) : plS1 n A r = .tup [.agg [.int .i64 r.s.t.1, .int .i64 r.s.t.2, .row n 2 (nestF 1 2 (fun i _ => A i 0) (fun i => (r.s.sl i).length) (fun i => slI (r.s.sl i))), .int .i64 r.R.he, .int .i64 r.R.hr],
    .agg [.int .i64 r.R.w, .int .i64 r.R.lv, .int .i64 r.R.lh, .int .i64 r.R.fv, .int .i64 r.R.fh, .int .i64 r.R.ch, .int .i64 r.R.ai, .int .i64 r.R.us, .int .i64 r.R.bo], .int .i64 (r.n : Int), .int .i64 0] := by
  simp only [plS1, plN, plF, h, if_true, piR]
theorem lapp1 (k : List Oper) : List.append [] k = k := rfl
theorem lapp2 (o : Oper) (l k : List Oper) : List.append (o :: l) k = o :: List.append l k := rfl
theorem two_use {B G : Prop} (main : B → G) (b : B) : G := main b
theorem samB_0 (A : Nat → Nat → Int) (M : Nat → Nat) (V : Nat → Nat → Nat → Int) (B : Nat → Nat → Int) (K : Nat → Nat) (W : Nat → Nat → Nat → Int) : samB 0 0 0 A M V 0 0 0 0 0 B K W 0 0 = true := by simp [samB, allU]
theorem nsA_A (A : Nat → Nat → Int) (M : Nat → Nat) (V : Nat → Nat → Nat → Int) : (fun i (_ : Nat) => nsA (nestF 1 2 A M V) i 0) = fun i _ => A i 0 := by funext i _; exact nsA_lit _ (by omega)
def brineKeepsBase : BaseF := fun args => match args with
  | [.agg [.int .i64 tv, .int .i64 th, .row n sz_A f_A, .int .i64 he, .int .i64 hr], .row m sz_x f_x] => some ((sz_A = 2 ∧ NestR n 2 1 2 f_A) ∧ (sz_x = 4 ∧ IntR m 4 f_x), .bool true)
  | _ => none
theorem brineKeeps_eq (tv : Int) (th : Int) (n : Nat) (sz_A : Nat) (f_A : Nat → Nat → SV) (he : Int) (hr : Int) (m : Nat) (sz_x : Nat) (f_x : Nat → Nat → SV) : brineKeepsBase [.agg [.int .i64 tv, .int .i64 th, .row n sz_A f_A, .int .i64 he, .int .i64 hr], .row m sz_x f_x] = some ((sz_A = 2 ∧ NestR n 2 1 2 f_A) ∧ (sz_x = 4 ∧ IntR m 4 f_x), .bool true) := rfl
theorem brineKeeps_base : Base Try.prog 8 brineKeepsBase := by
  intro args p v hq hp
  unfold brineKeepsBase at hq
  split at hq
  rotate_left
  · cases hq
  rename_i tv th n sz_A f_A he hr m sz_x f_x
  cases hq
  obtain ⟨⟨rfl, i_A⟩, ⟨rfl, i_x⟩⟩ := hp
  refine base_of (C := cxn [] [(14, playBase)] [] [(12, greatBase), (13, aliveBase), (17, SameBase), (21, TotalBase), (15, BrineRBase), (23, SumBase)] [(8, 7, p8_7), (8, 20, p8_20)] none) (cxn_ok ⟨play_base, trivial⟩ trivial ⟨great_base, alive_base, Same_base, Total_base, BrineR_base, Sum_base, trivial⟩) rfl (g := 8) (fn := Try.f8)
    (args' := [.agg [.int .i64 tv, .int .i64 th, .row n 2 (nestF 1 2 (nsA f_A) (nsM 1 f_A) (nsV 1 f_A)), .int .i64 he, .int .i64 hr], .row m 4 (rowF .i64 (ivf f_x))]) (fn_8) rfl 1000 (by
    simp only [BdL, Bd, and_self, and_true, true_and]
    exact ⟨(fun i j hi hj => nest_bd i_A i j hi hj), (fun i j hi hj => by rw [i_x i j hi hj]; trivial)⟩) ⟨SameD.agg ⟨SameD.rfl' _, SameD.rfl' _, SameD.nest i_A, SameD.rfl' _, SameD.rfl' _, trivial⟩, SameD.int i_x, trivial⟩ ?_
  generalize nsA f_A = A
  generalize nsM 1 f_A = M
  generalize nsV 1 f_A = V
  generalize ivf f_x = x
  simp only [rowF_eq]
  cases hg : grM n M with
  | true => simp only [hg, great_eq, alive_eq, Same_eq, Total_eq, BrineR_eq, Sum_eq, play_eq, p8_7, p8_20, lapp1, lapp2, nestR_lit, nsM_lit, nsV_lit, plA_ns, okBr_ns, nestF11_0, nestF11_1, Try.f8, go_sem, ↓reduceIte, Nat.reduceAdd, Nat.reduceSub, Nat.reduceMul, Nat.reduceEqDiff, Nat.reduceLT, Nat.reduceLeDiff, Int.reduceToNat, Int.reduceLE, Int.reduceLT, Int.reduceEq, Int.reduceNeg, reduceCtorEq]
  | false =>
  by_cases hm : 60 < m
  · have e1 : decide (60 < (m : Int)) = true := decide_eq_true (by omega)
    simp only [hg, e1, great_eq, alive_eq, Same_eq, Total_eq, BrineR_eq, Sum_eq, play_eq, p8_7, p8_20, lapp1, lapp2, nestR_lit, nsM_lit, nsV_lit, plA_ns, okBr_ns, nestF11_0, nestF11_1, Try.f8, go_sem, ↓reduceIte, Nat.reduceAdd, Nat.reduceSub, Nat.reduceMul, Nat.reduceEqDiff, Nat.reduceLT, Nat.reduceLeDiff, Int.reduceToNat, Int.reduceLE, Int.reduceLT, Int.reduceEq, Int.reduceNeg, reduceCtorEq]
  have e1 : decide (60 < (m : Int)) = false := decide_eq_false (by omega)
  obtain ⟨g1, g2⟩ := grM_no hg
  have c1 : n ≤ 1000 := by omega
  have c2 : m ≤ 1000000 := by omega
  have c3 : n ≤ 1000000 := by omega
  have hn := plA_n (tv := tv) (th := th) (n := n) (A := A) (M := M) (V := V) (he := he) (hr := hr) (m := m) (x := x)
  obtain ⟨r, hr0⟩ : ∃ r, plA tv th n A M V he hr m x = r := ⟨_, rfl⟩
  have hleft := plA_left (tv := tv) (th := th) (n := n) (A := A) (M := M) (V := V) (he := he) (hr := hr) (m := m) (x := x)
  have hokp := plA_ok (tv := tv) (th := th) (n := n) (A := A) (M := M) (V := V) (he := he) (hr := hr) (m := m) (x := x)
  rw [hr0] at hn hleft hokp
  have hM : ∀ i, i < n → M i ≤ 1000 := fun i hi => by have := g2 i hi; omega
  by_cases h0 : r.e = 0
  rotate_left
  · have hp : plS1 n (nsA (nestF 1 2 A M V)) r = _ := plS1_no h0
    have e2 : decide (r.e = 0) = false := decide_eq_false h0
    have e3 : decide (0 ≤ (r.n : Int)) = true := decide_eq_true (by omega)
    have e4 : decide ((r.n : Int) ≤ (m : Int)) = true := decide_eq_true (by omega)
    simp only [hg, e1, hr0, hp, e2, e3, e4, c1, c2, c3, samB_0, piR, great_eq, alive_eq, Same_eq, Total_eq, BrineR_eq, Sum_eq, play_eq, p8_7, p8_20, lapp1, lapp2, nestR_lit, nsM_lit, nsV_lit, plA_ns, okBr_ns, nestF11_0, nestF11_1, Try.f8, go_sem, ↓reduceIte, Nat.reduceAdd, Nat.reduceSub, Nat.reduceMul, Nat.reduceEqDiff, Nat.reduceLT, Nat.reduceLeDiff, Int.reduceToNat, Int.reduceLE, Int.reduceLT, Int.reduceEq, Int.reduceNeg, reduceCtorEq]
    exact ⟨hM, fun i hi => absurd hi (Nat.not_lt_zero i), fun _ _ => trivial⟩
  have hp : plS1 n (nsA (nestF 1 2 A M V)) r = _ := plS1_ok h0
  have hL := hleft h0
  have hok := (hokp h0).1
  obtain ⟨hT, t1, t2, t3⟩ := okBr_T hok
  have hnm : (r.n : Int) = (m : Int) := by rw [hL.nn]
  have f1 : decide ((m : Int) = (m : Int)) = true := decide_eq_true rfl
  have f2 : decide (r.R.hr = hr) = true := decide_eq_true hL.kept.hr
  have f3 : decide (r.R.he < 0) = false := decide_eq_false (by have := hL.ok.he; omega)
  have f4 : decide (r.R.hr < r.R.he) = false := decide_eq_false (by have := hL.ok.he; omega)
  have f5 : decide (r.s.t.1 < 0) = false := decide_eq_false (by have := hL.ok.ok.t; omega)
  have f6 : decide (r.s.t.2 < 0) = false := decide_eq_false (by have := hL.ok.ok.t; omega)
  simp only [hg, e1, hr0, hp, hnm, nsA_A, hok, if_true, f1, f2, f3, f4, f5, f6, c1, c2, c3, great_eq, alive_eq, Same_eq, Total_eq, BrineR_eq, Sum_eq, play_eq, p8_7, p8_20, lapp1, lapp2, nestR_lit, nsM_lit, nsV_lit, plA_ns, okBr_ns, nestF11_0, nestF11_1, Try.f8, go_sem, ↓reduceIte, Nat.reduceAdd, Nat.reduceSub, Nat.reduceMul, Nat.reduceEqDiff, Nat.reduceLT, Nat.reduceLeDiff, Int.reduceToNat, Int.reduceLE, Int.reduceLT, Int.reduceEq, Int.reduceNeg, reduceCtorEq]
  have hM2 : ∀ i, i < n → M i ≤ 1000000 := fun i hi => by have := g2 i hi; omega
  have hz := hL.ok.tz
  apply two_use
  · intro hb
    refine ⟨hM, ⟨by kernel_rfl, by kernel_rfl⟩, hM2, ⟨hT, t1, t2, t3⟩, fun e => ?_, fun _ => loop_ofH { i : Nat // i ≤ n } (fun i => [(136, .int .i64 (i.1 : Int)), (135, .int .i64 (n : Int)), (134, .row n 2 (nestF 1 2 (fun i _ => A i 0) (fun i => (r.s.sl i).length) fun i => slI (r.s.sl i))), (9, .ptr 3 0), (6, .ptr 2 0), (5, .ptr 1 0), (2, .ptr 0 0)]) (fun h _ => h) (fun i => n - i.1) (fun _ => ⟨rfl, rfl⟩) ⟨0, Nat.zero_le n⟩ (by (apply sub_of <;> simp only [go_sem, ↓reduceIte, Nat.reduceAdd, Nat.reduceSub, Nat.reduceMul, Nat.reduceEqDiff, Nat.reduceLT, Nat.reduceLeDiff, Int.reduceToNat, Int.reduceLE, Int.reduceLT, Int.reduceEq, Int.reduceNeg, reduceCtorEq] <;> (try simp [catF]) <;> (try exact fun j _ => Bd_nth (by simp [BdL, Bd]) j) <;> (try exact bd_setL (by simp [bdAs, BdL, Bd])) <;> (try exact nestF_bd _ _ _ _ _ _ _ _ _)) <;> exact ⟨nestF_bd _ _ _ _ _ _ _ _ _, nestF_bd _ _ _ _ _ _ _ _ _⟩) hb⟩
    simp only [decide_eq_true_eq] at e
    have f7 : (!decide (r.s.t.2 = 0)) = false := by rw [decide_eq_true (hz e)]; rfl
    exact spl_f f7 (loop_ofH { i : Nat // i ≤ n } (fun i => [(136, .int .i64 (i.1 : Int)), (135, .int .i64 (n : Int)), (134, .row n 2 (nestF 1 2 (fun i _ => A i 0) (fun i => (r.s.sl i).length) fun i => slI (r.s.sl i))), (9, .ptr 3 0), (6, .ptr 2 0), (5, .ptr 1 0), (2, .ptr 0 0)]) (fun h _ => h) (fun i => n - i.1) (fun _ => ⟨rfl, rfl⟩) ⟨0, Nat.zero_le n⟩ (by (apply sub_of <;> simp only [go_sem, ↓reduceIte, Nat.reduceAdd, Nat.reduceSub, Nat.reduceMul, Nat.reduceEqDiff, Nat.reduceLT, Nat.reduceLeDiff, Int.reduceToNat, Int.reduceLE, Int.reduceLT, Int.reduceEq, Int.reduceNeg, reduceCtorEq] <;> (try simp [catF]) <;> (try exact fun j _ => Bd_nth (by simp [BdL, Bd]) j) <;> (try exact bd_setL (by simp [bdAs, BdL, Bd])) <;> (try exact nestF_bd _ _ _ _ _ _ _ _ _)) <;> exact ⟨nestF_bd _ _ _ _ _ _ _ _ _, nestF_bd _ _ _ _ _ _ _ _ _⟩) hb)
  rintro ⟨i, hi⟩
  simp only [great_eq, alive_eq, Same_eq, Total_eq, BrineR_eq, Sum_eq, play_eq, p8_7, p8_20, lapp1, lapp2, nestR_lit, nsM_lit, nsV_lit, plA_ns, okBr_ns, nestF11_0, nestF11_1, Try.f8, go_sem, ↓reduceIte, Nat.reduceAdd, Nat.reduceSub, Nat.reduceMul, Nat.reduceEqDiff, Nat.reduceLT, Nat.reduceLeDiff, Int.reduceToNat, Int.reduceLE, Int.reduceLT, Int.reduceEq, Int.reduceNeg, reduceCtorEq]
  by_cases ik : i < n
  rotate_left
  · obtain rfl : i = n := by omega
    refine spl_f (decide_eq_false (by omega)) ⟨⟨hL.ok.okT (by omega) hL.room (by omega), ?_, ?_, ?_⟩, ?_⟩
    · have := hL.ok.ok.t; have := hL.ok.t1; unfold mid; omega
    · have := hL.ok.ok.t; have := hL.ok.heat; have := hL.ok.ok.heat_nonneg; have := hL.ok.lh; simp only [TkP.heat] at *; unfold mid; omega
    · have := hL.ok.he; unfold mid; omega
    have k1 := hL.kept.heat
    have k2 := hL.kept.vol
    have k3 := hT.bd i (Nat.le_refl _)
    have k4 := (hL.ok.okT (by omega) hL.room (by omega)).bd i (Nat.le_refl _)
    have k5 := hL.ok
    obtain ⟨_, o1, o2, o3, o4, o5, o6, o7, o8, o9, o10, o11, o12, o13⟩ := k5
    have o14 := hL.ok.ok.t
    have o15 := hL.ok.ok.heat_nonneg
    simp only [TkP.heat, TkP.vol, R00, s00] at k1 k2 o3
    simp only [slL_slI] at k4
    have e1 : toH r.s.t.2 r.R.he (fun i => (r.s.sl i).length) (fun i => slI (r.s.sl i)) i = r.s.t.2 + r.R.he + smN (fun i => heatL (r.s.sl i)) i := by simp only [toH, slL_slI]
    have e2 : toV r.s.t.1 (fun i => (r.s.sl i).length) (fun i => slI (r.s.sl i)) i = r.s.t.1 + smN (fun i => volL (r.s.sl i)) i := by simp only [toV, slL_slI]
    have e3 : toH th he M V i = th + he + smN (fun i => heatL (slL (M i) (V i))) i := rfl
    have e4 : toV tv M V i = tv + smN (fun i => volL (slL (M i) (V i))) i := rfl
    unfold mid at t1 t2 t3
    rw [e1, e2, e3, e4]
    generalize smN (fun i => heatL (slL (M i) (V i))) i = q1 at *
    generalize smN (fun i => volL (slL (M i) (V i))) i = q2 at *
    generalize smN (fun i => heatL (r.s.sl i)) i = q3 at *
    generalize smN (fun i => volL (r.s.sl i)) i = q4 at *
    clear hp hr0 hleft hokp hL
    refine spl_t (decide_eq_true ?_) (spl_t (decide_eq_true ?_) trivial)
    · rw [wrap_id (x := th + he + q1 + r.R.fh) (by omega) (by omega), wrap_id (x := th + he + q1 + r.R.fh + r.R.w) (by omega) (by omega), wrap_id (x := th + he + q1 + r.R.fh + r.R.w + r.R.bo) (by omega) (by omega),
        wrap_id (x := r.s.t.2 + r.R.he + q3 + r.R.lh) (by omega) (by omega), wrap_id (x := r.s.t.2 + r.R.he + q3 + r.R.lh + r.R.ai) (by omega) (by omega), wrap_id (x := r.s.t.2 + r.R.he + q3 + r.R.lh + r.R.ai + r.R.us) (by omega) (by omega)]
      omega
    · rw [wrap_id (by omega) (by omega), wrap_id (by omega) (by omega)]
      omega
  refine spl_t (decide_eq_true (by omega)) ⟨⟨by omega, by omega⟩, ?_⟩
  have hoi := hL.ok.ok.ok i ik
  have hri := hL.ok.ok.room i ik
  have hli := hL.ok.ok.len i ik
  have hro := hL.room i ik
  refine loop_ofH { k : Nat // k ≤ (r.s.sl i).length } (fun k => [(144, .int .i64 (k.1 : Int)), (143, .int .i64 ((r.s.sl i).length : Int)), (142, .row (r.s.sl i).length 2 fun a b => .int .i64 (slI (r.s.sl i) a b)), (13, .int .i64 (smL ((r.s.sl i).take k.1)).1), (11, .int .i64 (i : Int)), (12, .ptr 4 0), (136, .int .i64 (i : Int)), (135, .int .i64 (n : Int)), (134, .row n 2 (nestF 1 2 (fun i _ => A i 0) (fun i => (r.s.sl i).length) fun i => slI (r.s.sl i))), (9, .ptr 3 0), (6, .ptr 2 0), (5, .ptr 1 0), (2, .ptr 0 0)]) (fun h _ => h) (fun k => (r.s.sl i).length - k.1) (fun _ => ⟨rfl, rfl⟩) ⟨0, by omega⟩ (by (apply sub_of <;> simp only [go_sem, ↓reduceIte, Nat.reduceAdd, Nat.reduceSub, Nat.reduceMul, Nat.reduceEqDiff, Nat.reduceLT, Nat.reduceLeDiff, Int.reduceToNat, Int.reduceLE, Int.reduceLT, Int.reduceEq, Int.reduceNeg, reduceCtorEq] <;> (try simp [catF]) <;> (try exact fun j _ => Bd_nth (by simp [BdL, Bd]) j) <;> (try exact bd_setL (by simp [bdAs, BdL, Bd])) <;> (try exact nestF_bd _ _ _ _ _ _ _ _ _)) <;> first | rfl | exact ⟨nestF_bd _ _ _ _ _ _ _ _ _, nestF_bd _ _ _ _ _ _ _ _ _⟩) ?_
  rintro ⟨k, hk⟩
  simp only [great_eq, alive_eq, Same_eq, Total_eq, BrineR_eq, Sum_eq, play_eq, p8_7, p8_20, lapp1, lapp2, nestR_lit, nsM_lit, nsV_lit, plA_ns, okBr_ns, nestF11_0, nestF11_1, Try.f8, go_sem, ↓reduceIte, Nat.reduceAdd, Nat.reduceSub, Nat.reduceMul, Nat.reduceEqDiff, Nat.reduceLT, Nat.reduceLeDiff, Int.reduceToNat, Int.reduceLE, Int.reduceLT, Int.reduceEq, Int.reduceNeg, reduceCtorEq]
  by_cases kk : k < (r.s.sl i).length
  · obtain ⟨⟨u1, u2⟩, u3, u4, u5, u6⟩ := hoi.upto kk
    have hs : (smL ((r.s.sl i).take k)).1 + slI (r.s.sl i) k 0 = (smL ((r.s.sl i).take (k + 1))).1 := by rw [take_slI kk, smL_app]; simp [smL, plS]
    have w1 : IntKind.i64.wrap ((smL ((r.s.sl i).take k)).1 + slI (r.s.sl i) k 0) = (smL ((r.s.sl i).take (k + 1))).1 := by rw [← hs]; exact wrap_id (by omega) (by omega)
    refine spl_t (decide_eq_true (by omega)) ⟨⟨by omega, by omega⟩, spl_f (decide_eq_false (by omega)) (spl_f (decide_eq_false (by omega)) ⟨⟨k + 1, by omega⟩, by simp only []; omega, ?_⟩)⟩
    apply sub_of <;> simp only [wrap_s kk (show (r.s.sl i).length ≤ 1000000 by omega), w1, go_sem, ↓reduceIte, Nat.reduceAdd, Nat.reduceSub, Nat.reduceMul, Nat.reduceEqDiff, Nat.reduceLT, Nat.reduceLeDiff, Int.reduceToNat, Int.reduceLE, Int.reduceLT, Int.reduceEq, Int.reduceNeg, reduceCtorEq] <;> (try simp) <;> (try exact fun j _ => Bd_nth (by simp [BdL, Bd]) j) <;> (try exact bd_setL (by simp [bdAs, BdL, Bd])) <;> (try exact nestF_bd _ _ _ _ _ _ _ _ _) <;> first | rfl | exact ⟨nestF_bd _ _ _ _ _ _ _ _ _, nestF_bd _ _ _ _ _ _ _ _ _⟩
  · obtain rfl : k = (r.s.sl i).length := by omega
    have hs : (smL ((r.s.sl i).take (r.s.sl i).length)).1 = volL (r.s.sl i) := by rw [List.take_length]; rfl
    refine spl_f (decide_eq_false (by omega)) ⟨⟨by kernel_rfl, by kernel_rfl⟩, ⟨by omega, by omega⟩, spl_f (decide_eq_false (by omega)) (spl_f (decide_eq_false (by omega)) ⟨⟨i + 1, by omega⟩, by simp only []; omega, ?_⟩)⟩
    apply sub_of <;> simp only [wrap_s ik c3, go_sem, ↓reduceIte, Nat.reduceAdd, Nat.reduceSub, Nat.reduceMul, Nat.reduceEqDiff, Nat.reduceLT, Nat.reduceLeDiff, Int.reduceToNat, Int.reduceLE, Int.reduceLT, Int.reduceEq, Int.reduceNeg, reduceCtorEq] <;> (try simp) <;> (try exact fun j _ => Bd_nth (by simp [BdL, Bd]) j) <;> (try exact bd_setL (by simp [bdAs, BdL, Bd])) <;> (try exact nestF_bd _ _ _ _ _ _ _ _ _) <;> first | rfl | exact ⟨nestF_bd _ _ _ _ _ _ _ _ _, nestF_bd _ _ _ _ _ _ _ _ _⟩
end Go.Eng
end

/- brine: events in two parts. -/
section
namespace Go.Eng
open Go Go.RowKit Go.Proofs
set_option maxRecDepth 100000
set_option maxHeartbeats 4000000
attribute [local irreducible] OwnT DefS
theorem samB_rfl (tv th : Int) (n : Nat) (A : Nat → Nat → Int) (M : Nat → Nat) (V : Nat → Nat → Nat → Int) (he hr : Int) : samB tv th n A M V he hr tv th n A M V he hr = true := by
  simp only [samB, samP, decide_true, Bool.true_and, allU_true fun _ _ => rfl]
def brineSplitBase : BaseF := fun args => match args with
  | [.agg [.int .i64 tv, .int .i64 th, .row n sz_A f_A, .int .i64 he, .int .i64 hr], .row m sz_x f_x, .int .u8 cu] => some ((sz_A = 2 ∧ NestR n 2 1 2 f_A) ∧ (sz_x = 4 ∧ IntR m 4 f_x) ∧ ((Lit.int .u8 cu).wf = true), .bool true)
  | _ => none
theorem brineSplit_eq (tv : Int) (th : Int) (n : Nat) (sz_A : Nat) (f_A : Nat → Nat → SV) (he : Int) (hr : Int) (m : Nat) (sz_x : Nat) (f_x : Nat → Nat → SV) (cu : Int) : brineSplitBase [.agg [.int .i64 tv, .int .i64 th, .row n sz_A f_A, .int .i64 he, .int .i64 hr], .row m sz_x f_x, .int .u8 cu] = some ((sz_A = 2 ∧ NestR n 2 1 2 f_A) ∧ (sz_x = 4 ∧ IntR m 4 f_x) ∧ ((Lit.int .u8 cu).wf = true), .bool true) := rfl
theorem brineSplit_base : Base Try.prog 3 brineSplitBase := by
  intro args p v hq hp
  unfold brineSplitBase at hq
  split at hq
  rotate_left
  · cases hq
  rename_i tv th n sz_A f_A he hr m sz_x f_x cu
  cases hq
  obtain ⟨⟨rfl, i_A⟩, ⟨rfl, i_x⟩, wf_cu⟩ := hp
  refine base_of (C := cxn [] [(14, playBase)] [] [(12, greatBase), (13, aliveBase), (17, SameBase), (15, BrineRBase), (16, plusSBase)] [(3, 7, p3_7), (3, 12, p3_12), (3, 14, p3_14)] none) (cxn_ok ⟨play_base, trivial⟩ trivial ⟨great_base, alive_base, Same_base, BrineR_base, plusS_base, trivial⟩) rfl (g := 3) (fn := Try.f3)
    (args' := [.agg [.int .i64 tv, .int .i64 th, .row n 2 (nestF 1 2 (nsA f_A) (nsM 1 f_A) (nsV 1 f_A)), .int .i64 he, .int .i64 hr], .row m 4 (rowF .i64 (ivf f_x)), .int .u8 cu]) (fn_3) rfl 1000 (by
    simp only [BdL, Bd, and_self, and_true, true_and]
    exact ⟨(fun i j hi hj => nest_bd i_A i j hi hj), (fun i j hi hj => by rw [i_x i j hi hj]; trivial)⟩) ⟨SameD.agg ⟨SameD.rfl' _, SameD.rfl' _, SameD.nest i_A, SameD.rfl' _, SameD.rfl' _, trivial⟩, SameD.int i_x, SameD.rfl' _, trivial⟩ ?_
  generalize nsA f_A = A
  generalize nsM 1 f_A = M
  generalize nsV 1 f_A = V
  generalize ivf f_x = x
  simp only [rowF_eq]
  have hcu := wf_u8 wf_cu
  cases hg : grM n M with
  | true => simp only [hg, great_eq, alive_eq, Same_eq, BrineR_eq, plusS_eq, play_eq, p3_7, p3_12, p3_14, lapp1, lapp2, nestR_lit, nsM_lit, nsV_lit, plA_ns, okBr_ns, nestF11_0, nestF11_1, Try.f3, go_sem, ↓reduceIte, Nat.reduceAdd, Nat.reduceSub, Nat.reduceMul, Nat.reduceEqDiff, Nat.reduceLT, Nat.reduceLeDiff, Int.reduceToNat, Int.reduceLE, Int.reduceLT, Int.reduceEq, Int.reduceNeg, reduceCtorEq]
  | false =>
  by_cases hm : 40 < m
  · have e1 : decide (40 < (m : Int)) = true := decide_eq_true (by omega)
    simp only [hg, e1, great_eq, alive_eq, Same_eq, BrineR_eq, plusS_eq, play_eq, p3_7, p3_12, p3_14, lapp1, lapp2, nestR_lit, nsM_lit, nsV_lit, plA_ns, okBr_ns, nestF11_0, nestF11_1, Try.f3, go_sem, ↓reduceIte, Nat.reduceAdd, Nat.reduceSub, Nat.reduceMul, Nat.reduceEqDiff, Nat.reduceLT, Nat.reduceLeDiff, Int.reduceToNat, Int.reduceLE, Int.reduceLT, Int.reduceEq, Int.reduceNeg, reduceCtorEq]
  have e1 : decide (40 < (m : Int)) = false := decide_eq_false (by omega)
  obtain ⟨g1, g2⟩ := grM_no hg
  have c1 : n ≤ 1000 := by omega
  have c2 : m ≤ 1000000 := by omega
  have c3 : n ≤ 1000000 := by omega
  have hM : ∀ i, i < n → M i ≤ 1000 := fun i hi => by have := g2 i hi; omega
  have hM' : (∀ i, i < n → M i ≤ 1000) = True := eq_true hM
  obtain ⟨r, hr0⟩ : ∃ r, plA tv th n A M V he hr m x = r := ⟨_, rfl⟩
  have hleft := plA_left (tv := tv) (th := th) (n := n) (A := A) (M := M) (V := V) (he := he) (hr := hr) (m := m) (x := x)
  have hspl := fun h => split_law (tv := tv) (th := th) (n := n) (A := A) (M := M) (V := V) (he := he) (hr := hr) (m := m) (x := x) h (k := cu.toNat % (m + 1)) (by have := Nat.mod_lt cu.toNat (show 0 < m + 1 by omega); omega)
  rw [hr0] at hleft hspl
  by_cases h0 : r.e = 0
  rotate_left
  · have hp : plS1 n (nsA (nestF 1 2 A M V)) r = _ := plS1_no h0
    have e2 : decide (r.e = 0) = false := decide_eq_false h0
    simp only [hg, e1, hr0, hp, e2, c1, c2, c3, hM', great_eq, alive_eq, Same_eq, BrineR_eq, plusS_eq, play_eq, p3_7, p3_12, p3_14, lapp1, lapp2, nestR_lit, nsM_lit, nsV_lit, plA_ns, okBr_ns, nestF11_0, nestF11_1, Try.f3, go_sem, ↓reduceIte, Nat.reduceAdd, Nat.reduceSub, Nat.reduceMul, Nat.reduceEqDiff, Nat.reduceLT, Nat.reduceLeDiff, Int.reduceToNat, Int.reduceLE, Int.reduceLT, Int.reduceEq, Int.reduceNeg, reduceCtorEq]
  have hp : plS1 n (nsA (nestF 1 2 A M V)) r = _ := plS1_ok h0
  have hL := hleft h0
  obtain ⟨P, Q, q1, q2, q3, q4⟩ := hspl h0
  have wk : (IntKind.i64.wrap cu).tmod (IntKind.i64.wrap ((m : Int) + 1)) = ((cu.toNat % (m + 1) : Nat) : Int) := by
    rw [wrap_id (x := cu) (by omega) (by omega), wrap_id (x := (m : Int) + 1) (by omega) (by omega), Int.tmod_eq_emod_of_nonneg (by omega)]
    obtain ⟨q, rfl⟩ : ∃ q : Nat, cu = (q : Int) := ⟨cu.toNat, by omega⟩
    simp only [Int.toNat_natCast]
    rfl
  have wm : (IntKind.i64.wrap ((m : Int) + 1) = 0) = False := eq_false (by rw [wrap_id (by omega) (by omega)]; omega)
  have hkm : cu.toNat % (m + 1) ≤ m := by have := Nat.mod_lt cu.toNat (show 0 < m + 1 by omega); omega
  generalize cu.toNat % (m + 1) = k at *
  have hpP : plS1 n (nsA (nestF 1 2 A M V)) P = _ := plS1_ok q2
  have f1 : decide ((k : Int) = (k : Int)) = true := decide_eq_true rfl
  have f2 : (0 ≤ (k : Int)) = True := eq_true (by omega)
  have f3 : ((k : Int) ≤ (m : Int)) = True := eq_true (by omega)
  have f4 : (IntKind.i64.wrap ((m : Int) + 1) ≠ 0) = True := eq_true (by rw [wrap_id (by omega) (by omega)]; omega)
  have hLP := plA_left (tv := tv) (th := th) (n := n) (A := A) (M := M) (V := V) (he := he) (hr := hr) (m := k) (x := x)
  rw [q1] at hLP
  have hLP := hLP q2
  have f5 : (∀ i, i < n → (P.s.sl i).length ≤ 1000000) = True := eq_true fun i hi => by have := hLP.ok.ok.len i hi; omega
  have f6 : (∀ i, i < n → (P.s.sl i).length ≤ 1000) = True := eq_true fun i hi => by have := hLP.ok.ok.len i hi; omega
  have f7 : (k ≤ 1000000) = True := eq_true (by omega)
  have f8 : (m - k ≤ 1000000) = True := eq_true (by omega)
  cases hok : okBr P.s.t.1 P.s.t.2 n (fun i _ => A i 0) (fun i => (P.s.sl i).length) (fun i => slI (P.s.sl i)) P.R.he P.R.hr with
  | false =>
    simp only [hg, e1, hr0, hp, wk, q1, hpP, q3, f1, f2, f3, f4, f5, f6, f7, f8, hok, nsA_A, c1, c2, c3, hM', Int.toNat_natCast, great_eq, alive_eq, Same_eq, BrineR_eq, plusS_eq, play_eq, p3_7, p3_12, p3_14, lapp1, lapp2, nestR_lit, nsM_lit, nsV_lit, plA_ns, okBr_ns, nestF11_0, nestF11_1, Try.f3, go_sem, ↓reduceIte, Nat.reduceAdd, Nat.reduceSub, Nat.reduceMul, Nat.reduceEqDiff, Nat.reduceLT, Nat.reduceLeDiff, Int.reduceToNat, Int.reduceLE, Int.reduceLT, Int.reduceEq, Int.reduceNeg, reduceCtorEq]
    exact ⟨by kernel_rfl, by kernel_rfl⟩
  | true =>
    obtain ⟨q5, q6, q7, q8, q9⟩ := q4 hok
    have hLQ := plA_left (tv := P.s.t.1) (th := P.s.t.2) (n := n) (A := fun i _ => A i 0) (M := fun i => (P.s.sl i).length) (V := fun i => slI (P.s.sl i)) (he := P.R.he) (hr := P.R.hr) (m := m - k) (x := fun i => x (k + i))
    rw [q5] at hLQ
    have hLQ := hLQ q6
    have hpQ : plS1 n (nsA (nestF 1 2 (fun i _ => A i 0) (fun i => (P.s.sl i).length) (fun i => slI (P.s.sl i)))) Q = _ := plS1_ok q6
    have f9 : (∀ i, i < n → (Q.s.sl i).length ≤ 1000000) = True := eq_true fun i hi => by have := hLQ.ok.ok.len i hi; omega
    have hwm : IntKind.i64.wrap ((m : Int) - (k : Int)) = ((m - k : Nat) : Int) := by rw [wrap_id (by omega) (by omega)]; omega
    have f10 : decide (((m - k : Nat) : Int) = ((m - k : Nat) : Int)) = true := decide_eq_true rfl
    have b1 := hLP.ok
    have b2 := hLQ.ok
    obtain ⟨_, _, _, _, _, _, a6, a7, a8, a9, a10, a11, a12, a13⟩ := b1
    obtain ⟨_, _, _, _, _, _, d6, d7, d8, d9, d10, d11, d12, d13⟩ := b2
    have a5 := hLP.ok.lh
    have d5 := hLQ.ok.lh
    have a4 := hLP.ok.heat
    have d4 := hLQ.ok.heat
    have a3 := hLP.ok.ok.heat_nonneg
    have d3 := hLQ.ok.ok.heat_nonneg
    have a2 := hLP.ok.ok.t
    have d2 := hLQ.ok.ok.t
    simp only [TkP.heat] at a4 d4
    have r1 : r.R.he = Q.R.he := by rw [q9]; rfl
    have r2 : r.R.hr = Q.R.hr := by rw [q9]; rfl
    have r3 : IntKind.i64.wrap (P.R.w + Q.R.w) = r.R.w := by rw [q9]; exact wrap_id (by omega) (by omega)
    have r4 : P.R.lv + Q.R.lv = r.R.lv := by rw [q9]; rfl
    have r5 : P.R.lh + Q.R.lh = r.R.lh := by rw [q9]; rfl
    have r6 : P.R.fv + Q.R.fv = r.R.fv := by rw [q9]; rfl
    have r7 : P.R.fh + Q.R.fh = r.R.fh := by rw [q9]; rfl
    have r8 : IntKind.i64.wrap (P.R.ch + Q.R.ch) = r.R.ch := by rw [q9]; exact wrap_id (by omega) (by omega)
    have r9 : IntKind.i64.wrap (P.R.ai + Q.R.ai) = r.R.ai := by rw [q9]; exact wrap_id (by omega) (by omega)
    have r10 : IntKind.i64.wrap (P.R.us + Q.R.us) = r.R.us := by rw [q9]; exact wrap_id (by omega) (by omega)
    have r11 : IntKind.i64.wrap (P.R.bo + Q.R.bo) = r.R.bo := by rw [q9]; exact wrap_id (by omega) (by omega)
    have bgs : ∀ y : Int, 0 ≤ y → y ≤ 3298534883328 → bg y = True := fun y h1 h2 => eq_true (by unfold bg; omega)
    have bg1 := bgs _ a7.1 a7.2
    have bg2 := bgs _ a5 (by omega)
    have bg3 := bgs _ a8.1 a8.2
    have bg4 := bgs _ a9.1 a9.2
    have bg5 := bgs _ d7.1 d7.2
    have bg6 := bgs _ d5 (by omega)
    have bg7 := bgs _ d8.1 d8.2
    have bg8 := bgs _ d9.1 d9.2
    simp (maxSteps := 5000000) only [hg, e1, hr0, hp, wk, q1, hpP, q3, f1, f2, f3, f4, f5, f6, f7, f8, hok, q5, hpQ, q7, q8, f9, hwm, f10, r1, r2, r3, r4, r5, r6, r7, r8, r9, r10, r11, bg1, bg2, bg3, bg4, bg5, bg6, bg7, bg8, samB_rfl, decide_true, nsA_A, c1, c2, c3, hM', Int.toNat_natCast, great_eq, alive_eq, Same_eq, BrineR_eq, plusS_eq, play_eq, p3_7, p3_12, p3_14, lapp1, lapp2, nestR_lit, nsM_lit, nsV_lit, plA_ns, okBr_ns, nestF11_0, nestF11_1, Try.f3, go_sem, ↓reduceIte, Nat.reduceAdd, Nat.reduceSub, Nat.reduceMul, Nat.reduceEqDiff, Nat.reduceLT, Nat.reduceLeDiff, Int.reduceToNat, Int.reduceLE, Int.reduceLT, Int.reduceEq, Int.reduceNeg, reduceCtorEq]
    exact ⟨⟨by kernel_rfl, by kernel_rfl⟩, ⟨by kernel_rfl, by kernel_rfl⟩, by kernel_rfl, by kernel_rfl⟩
end Go.Eng
end

/-
  BrineSplit: for every input the law returns true, and each argument reads afterwards as it read before. No condition.
-/
section
namespace Go.Proofs.Ytakbfbcfddcncaa.brineSplit
open Go.ChangeShapes Go.WideShapes Go.ChangeAt Go.RowKit Go.Eng
set_option linter.unusedVariables false
theorem own : ownKnob Try.prog.godebug = none := by kernel_rfl
theorem laid : laidOutB Try.prog = true := by kernel_rfl
set_option maxRecDepth 100000 in
theorem lifted (os : Os) (started : os.Started) (H : Type) (enc : TypeId × Value → H) :
    ReturnsInHanded {} Try.checked os 3 .any (Rows.brineSplitSpec.pre6 enc Try.prog Try.f3 Rows.brineSplitRow.domain false) (Rows.brineSplitSpec.post enc Try.prog Try.f3 false true false false) := by
  refine returnsInHanded_of_change (C := Try.checked) own started (by kernel_rfl) Try.func3
    (ChangeSpec.witness6 (enc := enc) (C := Try.checked) false ⟨#[], #[.agg #[.int .i64 0, .int .i64 0, .slice none 0 0, .int .i64 0, .int .i64 0], .slice none 0 0, .int .u8 0], []⟩ 8 (by kernel_rfl) (by kernel_rfl) (by kernel_rfl) (by kernel_rfl)) ?_
  intro W base args ds gs before hval0 hW hcnd _
  have hval : ∀ (j : Nat) t v, Try.f3.params[j]? = some t → args[j]? = some v → Value.okWide Try.prog W .any base t v := hval0
  have hW' := hW
  obtain ⟨p, q, hA0, hV, rfl, hfz, hnd⟩ := hW
  have hA : DataW.TrodAll enc Try.prog W 0 (fun _ => true) true Try.f3.params.toList args.toList ds p := hA0
  rw [Try.params3] at hA hval
  obtain ⟨v0, vs0, d0, ds0, p0, q0, hargs, rfl, rfl, h0, r0⟩ := trodAll_cons hA
  obtain ⟨v1, vs1, d1, ds1, p1, q1, rfl, rfl, rfl, h1, r1⟩ := trodAll_cons r0
  obtain ⟨v2, vs2, d2, ds2, p2, q2, rfl, rfl, rfl, h2, r2⟩ := trodAll_cons r1
  obtain ⟨rfl, rfl, rfl⟩ := trodAll_nil r2
  obtain rfl : args = #[v0, v1, v2] := by cases args; simp_all
  obtain ⟨rfl, rfl⟩ := trodVars_none hV
  obtain ⟨xs0, e0, l0, t0⟩ := arg_agg (shs := [.int .i64, .int .i64, .sl [.int .i64, .sl [.int .i64, .int .i64]], .int .i64, .int .i64]) Try.underlying26 (by kernel_rfl) (hval 0 26 v0 rfl rfl) h0
  obtain ⟨a0_0, a0_1, a0_2, a0_3, a0_4, rfl⟩ : ∃ a0_0 a0_1 a0_2 a0_3 a0_4, xs0 = [a0_0, a0_1, a0_2, a0_3, a0_4] := by
    match xs0, l0 with
    | [a0_0, a0_1, a0_2, a0_3, a0_4], _ => exact ⟨a0_0, a0_1, a0_2, a0_3, a0_4, rfl⟩
  obtain ⟨x0_0, rfl, w0_0⟩ := typ_int (t0 0 _ _ rfl rfl)
  obtain ⟨x0_1, rfl, w0_1⟩ := typ_int (t0 1 _ _ rfl rfl)
  obtain ⟨n0_2, f0_2, rfl, m0_2, s0_2⟩ := typ_sl (t0 2 _ _ rfl rfl)
  obtain ⟨i0_2, b0_2, c0_2, g0_2⟩ := nestR_typ (sz := 2) (k := 1) (s := 2) (by intro j hj hk; rcases (show j = 0 ∨ j = 1 by omega) with rfl | rfl <;> first | rfl | exact absurd rfl hk) rfl s0_2
  obtain ⟨x0_3, rfl, w0_3⟩ := typ_int (t0 3 _ _ rfl rfl)
  obtain ⟨x0_4, rfl, w0_4⟩ := typ_int (t0 4 _ _ rfl rfl)
  obtain ⟨n1, f1, e1, m1, t1⟩ := arg_row (s := [.int .i64, .int .i64, .int .i64, .int .i64]) Try.underlying27 (by kernel_rfl) (hval 1 27 v1 rfl rfl) h1
  obtain ⟨i1, b1⟩ := intK_of_typ (k := .i64) (c := 4) rfl t1
  obtain ⟨x2, rfl, rfl, rfl, w2⟩ := open_int Try.underlying5 (hval 2 5 v2 rfl rfl) h2
  have hd : DenL Env.emp W [.agg [.int .i64 x0_0, .int .i64 x0_1, .row n0_2 2 f0_2, .int .i64 x0_3, .int .i64 x0_4], .row n1 4 f1, .int .u8 x2] [v0, v1, .int .u8 x2] := ⟨e0, e1, .int _ _, trivial⟩
  refine (law_calls brineSplit_base (args := [.agg [.int .i64 x0_0, .int .i64 x0_1, .row n0_2 2 f0_2, .int .i64 x0_3, .int .i64 x0_4], .row n1 4 f1, .int .u8 x2]) rfl ⟨⟨rfl, i0_2⟩, ⟨rfl, fun i j hi hj => i1 i j hi hj⟩, w2⟩ (denA_of hd)).mono fun e W' ⟨he, hb⟩ => ?_
  subst he
  exact ⟨_, rfl, law_end laid rfl Try.underlying4 (by kernel_rfl) rfl hW' rfl hb⟩
theorem over : Rows.brineSplitRow.holds Try.pinned (OpenSpec.ofChange Rows.brineSplitSpec) :=
  OpenClaim.holds_of_wide 3 Try.f3 rfl rfl rfl rfl rfl rfl rfl ⟨rfl, rfl, rfl, rfl, rfl⟩ rfl rfl rfl rfl rfl (by kernel_rfl) Try.func3 (by kernel_rfl)
    (of_decide_eq_true (by kernel_rfl)) (by unfold Func.isWrapper; first | (rw [if_pos (by decide +kernel)]; kernel_rfl) | (rw [if_neg (by decide +kernel)]; exact ⟨rfl, rfl⟩))
    (fun os started H enc _ => lifted os started H enc)
end Go.Proofs.Ytakbfbcfddcncaa.brineSplit
namespace Go.Proofs.Ytakbfbcfddcncaa
/-- The given statement. -/
theorem brineSplit_holds : Rows.BrineSplitSaid := brineSplit.over
#print axioms brineSplit_holds
end Go.Proofs.Ytakbfbcfddcncaa
end
