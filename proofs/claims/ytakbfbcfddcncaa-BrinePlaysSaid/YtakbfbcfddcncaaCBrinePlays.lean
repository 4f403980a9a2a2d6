/-
  BrinePlays: for every input the law returns true, and each argument reads afterwards as it read before. No condition.
-/
import Derived.Test.YtakbfbcfddcncaaRows
import Derived.WalkKit
import Derived.Test.YtakbfbcfddcncaaK2
set_option linter.unusedSimpArgs false
set_option linter.unusedVariables false
/- brine: Total. -/
section
namespace Go.Eng
open Go Go.RowKit Go.Proofs
set_option maxRecDepth 100000
set_option maxHeartbeats 4000000
attribute [local irreducible] OwnT DefS
/-- Pipes whose slugs can be added. -/
def OkT (n : Nat) (M : Nat → Nat) (V : Nat → Nat → Nat → Int) : Prop := n ≤ 100 ∧ ∀ i, i < n → M i ≤ 1000 ∧ OkB (slL (M i) (V i))
/-- What is in tank and the first pipes, and what is stored. -/
def toV (tv : Int) (M : Nat → Nat) (V : Nat → Nat → Nat → Int) (n : Nat) : Int := tv + smN (fun i => volL (slL (M i) (V i))) n
def toH (th he : Int) (M : Nat → Nat) (V : Nat → Nat → Nat → Int) (n : Nat) : Int := th + he + smN (fun i => heatL (slL (M i) (V i))) n
def mid (x : Int) : Prop := 0 ≤ x ∧ x ≤ 8796093022208
theorem OkT.bd {n : Nat} {M : Nat → Nat} {V : Nat → Nat → Nat → Int} (h : OkT n M V) : ∀ i, i ≤ n → (0 ≤ smN (fun i => volL (slL (M i) (V i))) i ∧ smN (fun i => volL (slL (M i) (V i))) i ≤ 2097152000 * (i : Int)) ∧ 0 ≤ smN (fun i => heatL (slL (M i) (V i))) i ∧ smN (fun i => heatL (slL (M i) (V i))) i ≤ 4398046511104000 * (i : Int)
  | 0, _ => by simp [smN]
  | i + 1, hi => by
    have h1 := h.bd i (by omega)
    obtain ⟨h2, h3⟩ := h.2 i (by omega)
    have h4 := h3.sum
    rw [slL_len] at h4
    simp only [smN, volL, heatL] at h1 ⊢
    omega
theorem okB_of {n : Nat} {v : Nat → Nat → Int} (h : allU (fun i => okS (v i 0) (v i 1)) n = true) : OkB (slL n v) := fun x hx => by
  obtain ⟨k, hk, rfl⟩ := slL_mem hx
  have := allU_iff.1 h k hk
  simp only [okS, Bool.and_eq_true, in3_iff] at this
  simp only []
  omega
theorem okBr_T {tv th : Int} {n : Nat} {A : Nat → Nat → Int} {M : Nat → Nat} {V : Nat → Nat → Nat → Int} {he hr : Int} (h : okBr tv th n A M V he hr = true) : OkT n M V ∧ mid tv ∧ mid th ∧ mid he := by
  obtain ⟨hp, _, hn, _⟩ := okBr_start h
  have h0 := h
  simp only [okBr, Bool.and_eq_true, Bool.or_eq_true, in3_iff, decide_eq_true_eq, allU_iff] at h
  obtain ⟨⟨h1, h2, h3⟩, ⟨h4, h5⟩, h6, h7⟩ := h
  refine ⟨⟨by omega, fun i hi => ?_⟩, ?_, ?_, ?_⟩
  · have := h7 i hi
    simp only [okPp, Bool.and_eq_true, in3_iff, decide_eq_true_eq] at this
    exact ⟨by omega, okB_of this.2.2.1⟩
  · unfold mid; omega
  · unfold mid; omega
  · unfold mid; omega
def TotalBase : BaseF := fun args => match args with
  | [.agg [.int .i64 tv, .int .i64 th, .row n sz_A f_A, .int .i64 he, .int .i64 hr]] => some ((sz_A = 2 ∧ NestR n 2 1 2 f_A) ∧ (n ≤ 1000000), if okBr tv th n (nsA f_A) (nsM 1 f_A) (nsV 1 f_A) he hr then .tup [.agg [.int .i64 (toV tv (nsM 1 f_A) (nsV 1 f_A) n), .int .i64 (toH th he (nsM 1 f_A) (nsV 1 f_A) n)], .int .i64 0] else .tup [.agg [.int .i64 0, .int .i64 0], .int .i64 1])
  | _ => none
theorem Total_eq (tv : Int) (th : Int) (n : Nat) (sz_A : Nat) (f_A : Nat → Nat → SV) (he : Int) (hr : Int) : TotalBase [.agg [.int .i64 tv, .int .i64 th, .row n sz_A f_A, .int .i64 he, .int .i64 hr]] = some ((sz_A = 2 ∧ NestR n 2 1 2 f_A) ∧ (n ≤ 1000000), if okBr tv th n (nsA f_A) (nsM 1 f_A) (nsV 1 f_A) he hr then .tup [.agg [.int .i64 (toV tv (nsM 1 f_A) (nsV 1 f_A) n), .int .i64 (toH th he (nsM 1 f_A) (nsV 1 f_A) n)], .int .i64 0] else .tup [.agg [.int .i64 0, .int .i64 0], .int .i64 1]) := rfl
theorem Total_base : Base Try.prog 21 TotalBase := by
  intro args p v hq hp
  unfold TotalBase at hq
  split at hq
  rotate_left
  · cases hq
  rename_i tv th n sz_A f_A he hr
  cases hq
  obtain ⟨⟨rfl, i_A⟩, pre⟩ := hp
  refine base_of (C := cx [] [] [(31, isBrineBase), (41, plusBase), (42, sumBase)] [(21, 7, p21_7)] none) (cx_ok trivial ⟨isBrine_base, plus_base, sum_base, trivial⟩) rfl (g := 21) (fn := Try.f21)
    (args' := [.agg [.int .i64 tv, .int .i64 th, .row n 2 (nestF 1 2 (nsA f_A) (nsM 1 f_A) (nsV 1 f_A)), .int .i64 he, .int .i64 hr]]) (fn_21) rfl 1000 (by
    simp only [BdL, Bd, and_self, and_true, true_and]
    exact (fun i j hi hj => nest_bd i_A i j hi hj)) ⟨SameD.agg ⟨SameD.rfl' _, SameD.rfl' _, SameD.nest i_A, SameD.rfl' _, SameD.rfl' _, trivial⟩, trivial⟩ ?_
  generalize nsA f_A = A at *
  generalize nsM 1 f_A = M at *
  generalize nsV 1 f_A = V at *
  cases hok : okBr tv th n A M V he hr with
  | false =>
    simp only [hok, pre, isBrine_eq, plus_eq, sum_eq, p21_7, nestR_lit, nsM_lit, nsV_lit, okBr_ns, nestF11_0, nestF11_1, Try.f21, go_sem, ↓reduceIte, Nat.reduceAdd, Nat.reduceSub, Nat.reduceMul, Nat.reduceEqDiff, Nat.reduceLT, Nat.reduceLeDiff, Int.reduceToNat, Int.reduceLE, Int.reduceLT, Int.reduceEq, Int.reduceNeg, reduceCtorEq]
  | true =>
    obtain ⟨hT, t1, t2, t3⟩ := okBr_T hok
    simp only [hok, pre, isBrine_eq, plus_eq, sum_eq, p21_7, nestR_lit, nsM_lit, nsV_lit, okBr_ns, nestF11_0, nestF11_1, Try.f21, go_sem, ↓reduceIte, Nat.reduceAdd, Nat.reduceSub, Nat.reduceMul, Nat.reduceEqDiff, Nat.reduceLT, Nat.reduceLeDiff, Int.reduceToNat, Int.reduceLE, Int.reduceLT, Int.reduceEq, Int.reduceNeg, reduceCtorEq]
    have hb : ∀ i, i ≤ n → bg (toV tv M V i) ∧ bg (toH th he M V i) := fun i hi => by
      have h1 := hT.bd i hi
      have h2 := hT.1
      unfold mid at t1 t2 t3
      unfold bg toV toH
      omega
    refine ⟨?_, ?_⟩
    · unfold mid at t1 t2 t3
      unfold bg
      omega
    refine loop_ofH { i : Nat // i ≤ n } (fun i => [(20, .int .i64 (i.1 : Int)), (19, .int .i64 (n : Int)), (18, .row n 2 (nestF 1 2 A M V)), (4, .ptr 2 0), (2, .ptr 1 0)]) (fun _ i => { blks := [.live 26 [.int .i64 tv, .int .i64 th, .row n 2 (nestF 1 2 A M V), .int .i64 he, .int .i64 hr], .live 23 [.int .i64 0, .int .i64 0], .live 23 [.int .i64 (toV tv M V i.1), .int .i64 (toH th he M V i.1)]], vecs := [] }) (fun i => n - i.1) (fun _ => ⟨rfl, rfl⟩) ⟨0, by omega⟩ (by
      have e1 : tv = toV tv M V 0 := by simp [toV, smN]
      have e2 : th + he = toH th he M V 0 := by simp [toH, smN]
      apply sub_of <;> simp only [go_sem, ↓reduceIte, Nat.reduceAdd, Nat.reduceSub, Nat.reduceMul, Nat.reduceEqDiff, Nat.reduceLT, Nat.reduceLeDiff, Int.reduceToNat, Int.reduceLE, Int.reduceLT, Int.reduceEq, Int.reduceNeg, reduceCtorEq] <;> (try simp) <;> (try exact fun j _ => Bd_nth (by simp [BdL, Bd]) j) <;> (try exact bd_setL (by simp [bdAs, BdL, Bd])) <;> (try exact nestF_bd _ _ _ _ _ _ _ _ _) <;> first | exact ⟨e1, e2⟩ | exact nestF_bd _ _ _ _ _ _ _ _ _ | exact ⟨nestF_bd _ _ _ _ _ _ _ _ _, nestF_bd _ _ _ _ _ _ _ _ _⟩) ?_
    rintro ⟨i, hi⟩
    simp only [hok, pre, isBrine_eq, plus_eq, sum_eq, p21_7, nestR_lit, nsM_lit, nsV_lit, okBr_ns, nestF11_0, nestF11_1, Try.f21, go_sem, ↓reduceIte, Nat.reduceAdd, Nat.reduceSub, Nat.reduceMul, Nat.reduceEqDiff, Nat.reduceLT, Nat.reduceLeDiff, Int.reduceToNat, Int.reduceLE, Int.reduceLT, Int.reduceEq, Int.reduceNeg, reduceCtorEq]
    refine ⟨fun e1 => ?_, fun e1 => ?_⟩
    · simp only [decide_eq_true_eq] at e1
      have ik : i < n := by omega
      obtain ⟨m1, m2⟩ := hT.2 i ik
      have m3 := m2.sum
      rw [slL_len] at m3
      have v1 : toV tv M V i + (smL (slL (M i) (V i))).1 = toV tv M V (i + 1) := by simp only [toV, smN, volL]; omega
      have v2 : toH th he M V i + (smL (slL (M i) (V i))).2 = toH th he M V (i + 1) := by simp only [toH, smN, heatL]; omega
      refine ⟨⟨by omega, by omega⟩, ⟨by kernel_rfl, by kernel_rfl⟩, ⟨m1, m2⟩, ⟨(hb i hi).1, (hb i hi).2, by unfold bg; omega, by unfold bg; omega⟩, ⟨i + 1, by omega⟩, by simp only []; omega, ?_⟩
      apply sub_of <;> simp only [wrap_s ik pre, v1, v2, go_sem, ↓reduceIte, Nat.reduceAdd, Nat.reduceSub, Nat.reduceMul, Nat.reduceEqDiff, Nat.reduceLT, Nat.reduceLeDiff, Int.reduceToNat, Int.reduceLE, Int.reduceLT, Int.reduceEq, Int.reduceNeg, reduceCtorEq] <;> (try simp) <;> (try exact fun j _ => Bd_nth (by simp [BdL, Bd]) j) <;> (try exact bd_setL (by simp [bdAs, BdL, Bd])) <;> (try exact nestF_bd _ _ _ _ _ _ _ _ _)
    · simp only [decide_eq_false_iff_not] at e1
      obtain rfl : i = n := by omega
      rfl
end Go.Eng
end

/- brine: Sum, and Total of the reference. -/
section
namespace Go.Eng
open Go Go.RowKit Go.Proofs
set_option maxRecDepth 100000
set_option maxHeartbeats 4000000
attribute [local irreducible] OwnT DefS
def SumBase : BaseF := fun args => match args with
  | [.agg [.int .i64 tv, .int .i64 th, .row n sz_A f_A, .int .i64 he, .int .i64 hr]] => some ((sz_A = 2 ∧ NestR n 2 1 2 f_A) ∧ (OkT n (nsM 1 f_A) (nsV 1 f_A) ∧ mid tv ∧ mid th ∧ mid he), .agg [.int .i64 (toV tv (nsM 1 f_A) (nsV 1 f_A) n), .int .i64 (toH th he (nsM 1 f_A) (nsV 1 f_A) n)])
  | _ => none
theorem Sum_eq (tv : Int) (th : Int) (n : Nat) (sz_A : Nat) (f_A : Nat → Nat → SV) (he : Int) (hr : Int) : SumBase [.agg [.int .i64 tv, .int .i64 th, .row n sz_A f_A, .int .i64 he, .int .i64 hr]] = some ((sz_A = 2 ∧ NestR n 2 1 2 f_A) ∧ (OkT n (nsM 1 f_A) (nsV 1 f_A) ∧ mid tv ∧ mid th ∧ mid he), .agg [.int .i64 (toV tv (nsM 1 f_A) (nsV 1 f_A) n), .int .i64 (toH th he (nsM 1 f_A) (nsV 1 f_A) n)]) := rfl
theorem Sum_base : Base Try.prog 23 SumBase := by
  intro args p v hq hp
  unfold SumBase at hq
  split at hq
  rotate_left
  · cases hq
  rename_i tv th n sz_A f_A he hr
  cases hq
  obtain ⟨⟨rfl, i_A⟩, pre⟩ := hp
  refine base_of (C := cx [] [] [(43, plusRBase)] [(23, 8, p23_8)] none) (cx_ok trivial ⟨plusR_base, trivial⟩) rfl (g := 23) (fn := Try.f23)
    (args' := [.agg [.int .i64 tv, .int .i64 th, .row n 2 (nestF 1 2 (nsA f_A) (nsM 1 f_A) (nsV 1 f_A)), .int .i64 he, .int .i64 hr]]) (fn_23) rfl 1000 (by
    simp only [BdL, Bd, and_self, and_true, true_and]
    exact (fun i j hi hj => nest_bd i_A i j hi hj)) ⟨SameD.agg ⟨SameD.rfl' _, SameD.rfl' _, SameD.nest i_A, SameD.rfl' _, SameD.rfl' _, trivial⟩, trivial⟩ ?_
  generalize nsA f_A = A at *
  generalize nsM 1 f_A = M at *
  generalize nsV 1 f_A = V at *
  obtain ⟨hT, t1, t2, t3⟩ := pre
  have hn := hT.1
  have hb : ∀ i, i ≤ n → (-1 ≤ toV tv M V i ∧ toV tv M V i ≤ 4503599627370496) ∧ -1 ≤ toH th he M V i ∧ toH th he M V i ≤ 450359962737049600 := fun i hi => by
    have h1 := hT.bd i hi
    unfold mid at t1 t2 t3
    unfold toV toH
    omega
  simp only [plusR_eq, p23_8, nestF11_0, nestF11_1, Try.f23, go_sem, ↓reduceIte, Nat.reduceAdd, Nat.reduceSub, Nat.reduceMul, Nat.reduceEqDiff, Nat.reduceLT, Nat.reduceLeDiff, Int.reduceToNat, Int.reduceLE, Int.reduceLT, Int.reduceEq, Int.reduceNeg, reduceCtorEq]
  refine ⟨?_, ?_⟩
  · unfold mid at t1 t2 t3
    unfold bg
    omega
  refine loop_ofH { i : Nat // i ≤ n } (fun i => [(4, .int .i64 (i.1 : Int)), (3, .ptr 2 0), (2, .ptr 1 0), (1, .ptr 0 0)]) (fun _ i => { blks := [.live 26 [.int .i64 tv, .int .i64 th, .row n 2 (nestF 1 2 A M V), .int .i64 he, .int .i64 hr], .live 23 [.int .i64 0, .int .i64 0], .live 23 [.int .i64 (toV tv M V i.1), .int .i64 (toH th he M V i.1)]], vecs := [] }) (fun i => n - i.1) (fun _ => ⟨rfl, rfl⟩) ⟨0, by omega⟩ (by
      have e1 : tv = toV tv M V 0 := by simp [toV, smN]
      have e2 : th + he = toH th he M V 0 := by simp [toH, smN]
      apply sub_of <;> simp only [go_sem, ↓reduceIte, Nat.reduceAdd, Nat.reduceSub, Nat.reduceMul, Nat.reduceEqDiff, Nat.reduceLT, Nat.reduceLeDiff, Int.reduceToNat, Int.reduceLE, Int.reduceLT, Int.reduceEq, Int.reduceNeg, reduceCtorEq] <;> (try simp) <;> (try exact fun j _ => Bd_nth (by simp [BdL, Bd]) j) <;> (try exact bd_setL (by simp [bdAs, BdL, Bd])) <;> (try exact nestF_bd _ _ _ _ _ _ _ _ _) <;> first | exact ⟨e1, e2⟩ | exact nestF_bd _ _ _ _ _ _ _ _ _ | exact ⟨nestF_bd _ _ _ _ _ _ _ _ _, nestF_bd _ _ _ _ _ _ _ _ _⟩) ?_
  rintro ⟨i, hi⟩
  simp only [plusR_eq, p23_8, nestF11_0, nestF11_1, Try.f23, go_sem, ↓reduceIte, Nat.reduceAdd, Nat.reduceSub, Nat.reduceMul, Nat.reduceEqDiff, Nat.reduceLT, Nat.reduceLeDiff, Int.reduceToNat, Int.reduceLE, Int.reduceLT, Int.reduceEq, Int.reduceNeg, reduceCtorEq]
  refine ⟨fun e1 => ?_, fun e1 => ?_⟩
  rotate_left
  · simp only [decide_eq_false_iff_not] at e1
    obtain rfl : i = n := by omega
    rfl
  simp only [decide_eq_true_eq] at e1
  have ik : i < n := by omega
  obtain ⟨m1, m2⟩ := hT.2 i ik
  have hbi := hb i hi
  have v1 : toV tv M V i + (smL (slL (M i) (V i))).1 = toV tv M V (i + 1) := by simp only [toV, smN, volL]; omega
  have v2 : toH th he M V i + (smL (slL (M i) (V i))).2 = toH th he M V (i + 1) := by simp only [toH, smN, heatL]; omega
  refine loop_ofH { k : Nat // k ≤ M i } (fun k => [(5, .int .i64 (k.1 : Int)), (4, .int .i64 (i : Int)), (3, .ptr 2 0), (2, .ptr 1 0), (1, .ptr 0 0)]) (fun _ k => { blks := [.live 26 [.int .i64 tv, .int .i64 th, .row n 2 (nestF 1 2 A M V), .int .i64 he, .int .i64 hr], .live 23 [.int .i64 0, .int .i64 0], .live 23 [.int .i64 (toV tv M V i + (smL (slL k.1 (V i))).1), .int .i64 (toH th he M V i + (smL (slL k.1 (V i))).2)]], vecs := [] }) (fun k => M i - k.1) (fun _ => ⟨rfl, rfl⟩) ⟨0, by omega⟩ (by
      have e1 : toV tv M V i = toV tv M V i + (smL (slL 0 (V i))).1 := by simp [slL, smL]
      have e2 : toH th he M V i = toH th he M V i + (smL (slL 0 (V i))).2 := by simp [slL, smL]
      apply sub_of <;> simp only [go_sem, ↓reduceIte, Nat.reduceAdd, Nat.reduceSub, Nat.reduceMul, Nat.reduceEqDiff, Nat.reduceLT, Nat.reduceLeDiff, Int.reduceToNat, Int.reduceLE, Int.reduceLT, Int.reduceEq, Int.reduceNeg, reduceCtorEq] <;> (try simp) <;> (try exact fun j _ => Bd_nth (by simp [BdL, Bd]) j) <;> (try exact bd_setL (by simp [bdAs, BdL, Bd])) <;> (try exact nestF_bd _ _ _ _ _ _ _ _ _) <;> first | exact ⟨e1, e2⟩ | exact nestF_bd _ _ _ _ _ _ _ _ _ | exact ⟨nestF_bd _ _ _ _ _ _ _ _ _, nestF_bd _ _ _ _ _ _ _ _ _⟩) ?_
  rintro ⟨k, hk⟩
  simp only [plusR_eq, p23_8, nestF11_0, nestF11_1, Try.f23, go_sem, ↓reduceIte, Nat.reduceAdd, Nat.reduceSub, Nat.reduceMul, Nat.reduceEqDiff, Nat.reduceLT, Nat.reduceLeDiff, Int.reduceToNat, Int.reduceLE, Int.reduceLT, Int.reduceEq, Int.reduceNeg, reduceCtorEq]
  refine ⟨⟨by omega, by omega⟩, fun g1 => ?_, fun g1 => ?_⟩
  · simp only [decide_eq_true_eq] at g1
    have kk : k < M i := by omega
    have h1 := (m2.take hk).sum
    rw [slL_len] at h1
    have h2 := m2.at kk
    have h3 : smL (slL (k + 1) (V i)) = plS (smL (slL k (V i))) (V i k 0, V i k 1) := by rw [slL_succ, smL_app]; simp [smL, plS]
    have u1 : toV tv M V i + (smL (slL k (V i))).1 + V i k 0 = toV tv M V i + (smL (slL (k + 1) (V i))).1 := by rw [h3]; simp only [plS]; omega
    have u2 : toH th he M V i + (smL (slL k (V i))).2 + V i k 1 = toH th he M V i + (smL (slL (k + 1) (V i))).2 := by rw [h3]; simp only [plS]; omega
    refine ⟨⟨by kernel_rfl, by kernel_rfl⟩, ⟨by omega, by omega⟩, ⟨by omega, by omega⟩, ⟨by unfold bg; omega, by unfold bg; omega, by unfold bg; omega, by unfold bg; omega⟩, ⟨k + 1, by omega⟩, by simp only []; omega, ?_⟩
    apply sub_of <;> simp only [wrap_s kk (show M i ≤ 1000000 by omega), u1, u2, go_sem, ↓reduceIte, Nat.reduceAdd, Nat.reduceSub, Nat.reduceMul, Nat.reduceEqDiff, Nat.reduceLT, Nat.reduceLeDiff, Int.reduceToNat, Int.reduceLE, Int.reduceLT, Int.reduceEq, Int.reduceNeg, reduceCtorEq] <;> (try simp) <;> (try exact fun j _ => Bd_nth (by simp [BdL, Bd]) j) <;> (try exact bd_setL (by simp [bdAs, BdL, Bd])) <;> (try exact nestF_bd _ _ _ _ _ _ _ _ _)
  · simp only [decide_eq_false_iff_not] at g1
    obtain rfl : k = M i := by omega
    refine ⟨⟨i + 1, by omega⟩, by simp only []; omega, ?_⟩
    apply sub_of <;> simp only [wrap_s ik (show n ≤ 1000000 by omega), v1, v2, go_sem, ↓reduceIte, Nat.reduceAdd, Nat.reduceSub, Nat.reduceMul, Nat.reduceEqDiff, Nat.reduceLT, Nat.reduceLeDiff, Int.reduceToNat, Int.reduceLE, Int.reduceLT, Int.reduceEq, Int.reduceNeg, reduceCtorEq] <;> (try simp) <;> (try exact fun j _ => Bd_nth (by simp [BdL, Bd]) j) <;> (try exact bd_setL (by simp [bdAs, BdL, Bd])) <;> (try exact nestF_bd _ _ _ _ _ _ _ _ _)
def TotalRBase : BaseF := fun args => match args with
  | [.agg [.int .i64 tv, .int .i64 th, .row n sz_A f_A, .int .i64 he, .int .i64 hr]] => some ((sz_A = 2 ∧ NestR n 2 1 2 f_A) ∧ (n ≤ 1000000 ∧ ∀ i, i < n → (nsM 1 f_A) i ≤ 1000000), if okBr tv th n (nsA f_A) (nsM 1 f_A) (nsV 1 f_A) he hr then .tup [.agg [.int .i64 (toV tv (nsM 1 f_A) (nsV 1 f_A) n), .int .i64 (toH th he (nsM 1 f_A) (nsV 1 f_A) n)], .int .i64 0] else .tup [.agg [.int .i64 0, .int .i64 0], .int .i64 1])
  | _ => none
theorem TotalR_eq (tv : Int) (th : Int) (n : Nat) (sz_A : Nat) (f_A : Nat → Nat → SV) (he : Int) (hr : Int) : TotalRBase [.agg [.int .i64 tv, .int .i64 th, .row n sz_A f_A, .int .i64 he, .int .i64 hr]] = some ((sz_A = 2 ∧ NestR n 2 1 2 f_A) ∧ (n ≤ 1000000 ∧ ∀ i, i < n → (nsM 1 f_A) i ≤ 1000000), if okBr tv th n (nsA f_A) (nsM 1 f_A) (nsV 1 f_A) he hr then .tup [.agg [.int .i64 (toV tv (nsM 1 f_A) (nsV 1 f_A) n), .int .i64 (toH th he (nsM 1 f_A) (nsV 1 f_A) n)], .int .i64 0] else .tup [.agg [.int .i64 0, .int .i64 0], .int .i64 1]) := rfl
theorem TotalR_base : Base Try.prog 22 TotalRBase := by
  intro args p v hq hp
  unfold TotalRBase at hq
  split at hq
  rotate_left
  · cases hq
  rename_i tv th n sz_A f_A he hr
  cases hq
  obtain ⟨⟨rfl, i_A⟩, pre⟩ := hp
  refine base_of (C := cx [] [] [(15, BrineRBase), (23, SumBase)] [] none) (cx_ok trivial ⟨BrineR_base, Sum_base, trivial⟩) rfl (g := 22) (fn := Try.f22)
    (args' := [.agg [.int .i64 tv, .int .i64 th, .row n 2 (nestF 1 2 (nsA f_A) (nsM 1 f_A) (nsV 1 f_A)), .int .i64 he, .int .i64 hr]]) (fn_22) rfl 1000 (by
    simp only [BdL, Bd, and_self, and_true, true_and]
    exact (fun i j hi hj => nest_bd i_A i j hi hj)) ⟨SameD.agg ⟨SameD.rfl' _, SameD.rfl' _, SameD.nest i_A, SameD.rfl' _, SameD.rfl' _, trivial⟩, trivial⟩ ?_
  generalize nsA f_A = A at *
  generalize nsM 1 f_A = M at *
  generalize nsV 1 f_A = V at *
  cases hok : okBr tv th n A M V he hr with
  | false =>
    simp only [hok, pre.1, BrineR_eq, Sum_eq, nestR_lit, nsM_lit, nsV_lit, okBr_ns, nestF11_0, nestF11_1, Try.f22, go_sem, ↓reduceIte, Nat.reduceAdd, Nat.reduceSub, Nat.reduceMul, Nat.reduceEqDiff, Nat.reduceLT, Nat.reduceLeDiff, Int.reduceToNat, Int.reduceLE, Int.reduceLT, Int.reduceEq, Int.reduceNeg, reduceCtorEq]
    exact pre.2
  | true =>
    have hT := okBr_T hok
    simp only [hok, pre.1, BrineR_eq, Sum_eq, nestR_lit, nsM_lit, nsV_lit, okBr_ns, nestF11_0, nestF11_1, Try.f22, go_sem, ↓reduceIte, Nat.reduceAdd, Nat.reduceSub, Nat.reduceMul, Nat.reduceEqDiff, Nat.reduceLT, Nat.reduceLeDiff, Int.reduceToNat, Int.reduceLE, Int.reduceLT, Int.reduceEq, Int.reduceNeg, reduceCtorEq]
    exact ⟨pre.2, hT⟩
end Go.Eng
end

/- brine: great; what all events leave. -/
section
namespace Go.Eng
open Go Go.RowKit Go.Proofs
set_option maxRecDepth 100000
set_option maxHeartbeats 4000000
attribute [local irreducible] OwnT DefS
theorem spl_i {q : Bool} {A B : Prop} (a : A) (b : B) : spl q A B := ⟨fun _ => a, fun _ => b⟩
def grM (n : Nat) (M : Nat → Nat) : Bool := decide (12 < n) || !allU (fun i => decide (M i ≤ 20)) n
theorem grM_no {n : Nat} {M : Nat → Nat} (h : grM n M = false) : n ≤ 12 ∧ ∀ i, i < n → M i ≤ 20 := by
  simp only [grM, Bool.or_eq_false_iff, Bool.not_eq_false', decide_eq_false_iff_not, allU_iff, decide_eq_true_eq] at h
  exact ⟨by omega, h.2⟩
def greatBase : BaseF := fun args => match args with
  | [.agg [.int .i64 tv, .int .i64 th, .row n sz_A f_A, .int .i64 he, .int .i64 hr]] => some ((sz_A = 2 ∧ NestR n 2 1 2 f_A), .bool (grM n (nsM 1 f_A)))
  | _ => none
theorem great_eq (tv : Int) (th : Int) (n : Nat) (sz_A : Nat) (f_A : Nat → Nat → SV) (he : Int) (hr : Int) : greatBase [.agg [.int .i64 tv, .int .i64 th, .row n sz_A f_A, .int .i64 he, .int .i64 hr]] = some ((sz_A = 2 ∧ NestR n 2 1 2 f_A), .bool (grM n (nsM 1 f_A))) := rfl
theorem great_base : Base Try.prog 12 greatBase := by
  intro args p v hq hp
  unfold greatBase at hq
  split at hq
  rotate_left
  · cases hq
  rename_i tv th n sz_A f_A he hr
  cases hq
  obtain ⟨rfl, i_A⟩ := hp
  refine base_of (C := cx [] [] [] [] none) (cx_ok trivial trivial) rfl (g := 12) (fn := Try.f12)
    (args' := [.agg [.int .i64 tv, .int .i64 th, .row n 2 (nestF 1 2 (nsA f_A) (nsM 1 f_A) (nsV 1 f_A)), .int .i64 he, .int .i64 hr]]) (fn_12) rfl 1000 (by
    simp only [BdL, Bd, and_self, and_true, true_and]
    exact (fun i j hi hj => nest_bd i_A i j hi hj)) ⟨SameD.agg ⟨SameD.rfl' _, SameD.rfl' _, SameD.nest i_A, SameD.rfl' _, SameD.rfl' _, trivial⟩, trivial⟩ ?_
  generalize nsA f_A = A
  generalize nsM 1 f_A = M
  generalize nsV 1 f_A = V
  simp only [nestF11_0, nestF11_1, Try.f12, go_sem, ↓reduceIte, Nat.reduceAdd, Nat.reduceSub, Nat.reduceMul, Nat.reduceEqDiff, Nat.reduceLT, Nat.reduceLeDiff, Int.reduceToNat, Int.reduceLE, Int.reduceLT, Int.reduceEq, Int.reduceNeg, reduceCtorEq]
  refine loop_ofH { i : Nat // i ≤ n ∧ i ≤ 13 ∧ ∀ j, j < i → (fun i => decide (M i ≤ 20)) j = true } (fun i => [(3, .int .i64 (i.1 : Int)), (1, .ptr 0 0)]) (fun h _ => h) (fun i => 13 - i.1) (fun _ => ⟨rfl, rfl⟩) ⟨0, by omega, by omega, by omega⟩ (by (apply sub_of <;> simp only [go_sem, ↓reduceIte, Nat.reduceAdd, Nat.reduceSub, Nat.reduceMul, Nat.reduceEqDiff, Nat.reduceLT, Nat.reduceLeDiff, Int.reduceToNat, Int.reduceLE, Int.reduceLT, Int.reduceEq, Int.reduceNeg, reduceCtorEq] <;> (try simp [catF]) <;> (try exact fun j _ => Bd_nth (by simp [BdL, Bd]) j) <;> (try exact bd_setL (by simp [bdAs, BdL, Bd])) <;> (try exact nestF_bd _ _ _ _ _ _ _ _ _))) ?_
  rintro ⟨i, hi, h13, h3⟩
  have w : IntKind.i64.wrap ((i : Int) + 1) = ((i + 1 : Nat) : Int) := by rw [wrap_id (by omega) (by omega)]; omega
  simp only [nestF11_0, nestF11_1, Try.f12, go_sem, ↓reduceIte, Nat.reduceAdd, Nat.reduceSub, Nat.reduceMul, Nat.reduceEqDiff, Nat.reduceLT, Nat.reduceLeDiff, Int.reduceToNat, Int.reduceLE, Int.reduceLT, Int.reduceEq, Int.reduceNeg, reduceCtorEq]
  refine ⟨fun e1 => ?_, fun e1 => ?_⟩
  · simp only [decide_eq_true_eq] at e1
    have ik : i < n := by omega
    refine ⟨fun e2 => ?_, fun e2 => ?_⟩
    · simp only [decide_eq_true_eq] at e2
      refine ⟨⟨by omega, by omega⟩, ?_⟩
      by_cases c1 : M i ≤ 20
      · have e : decide (20 < (M i : Int)) = false := decide_eq_false (by omega)
        simp only [e, go_sem, ↓reduceIte, Nat.reduceAdd, Nat.reduceSub, Nat.reduceMul, Nat.reduceEqDiff, Nat.reduceLT, Nat.reduceLeDiff, Int.reduceToNat, Int.reduceLE, Int.reduceLT, Int.reduceEq, Int.reduceNeg, reduceCtorEq]
        refine ⟨⟨i + 1, by omega, by omega, below h3 (decide_eq_true c1)⟩, by simp only []; omega, ?_⟩
        apply sub_of <;> simp only [w, go_sem, ↓reduceIte, Nat.reduceAdd, Nat.reduceSub, Nat.reduceMul, Nat.reduceEqDiff, Nat.reduceLT, Nat.reduceLeDiff, Int.reduceToNat, Int.reduceLE, Int.reduceLT, Int.reduceEq, Int.reduceNeg, reduceCtorEq] <;> (try simp) <;> (try exact fun j _ => Bd_nth (by simp [BdL, Bd]) j) <;> (try exact bd_setL (by simp [bdAs, BdL, Bd])) <;> (try exact nestF_bd _ _ _ _ _ _ _ _ _)
      · have e : decide (20 < (M i : Int)) = true := decide_eq_true (by omega)
        simp only [e, go_sem, ↓reduceIte, Nat.reduceAdd, Nat.reduceSub, Nat.reduceMul, Nat.reduceEqDiff, Nat.reduceLT, Nat.reduceLeDiff, Int.reduceToNat, Int.reduceLE, Int.reduceLT, Int.reduceEq, Int.reduceNeg, reduceCtorEq]
        simp only [grM, allU_false (p := fun i => decide (M i ≤ 20)) ik (decide_eq_false c1), Bool.not_false, Bool.or_true]
    · simp only [decide_eq_false_iff_not] at e2
      have c1 : decide (12 < (n : Int)) = true := decide_eq_true (by omega)
      have c2 : decide (12 < n) = true := decide_eq_true (by omega)
      simp only [grM, c1, c2, Bool.true_or]
  · simp only [decide_eq_false_iff_not] at e1
    obtain rfl : i = n := by omega
    by_cases c : 12 < i
    · have c1 : decide (12 < (i : Int)) = true := decide_eq_true (by omega)
      have c2 : decide (12 < i) = true := decide_eq_true c
      simp only [grM, c1, c2, Bool.true_or]
    · have c1 : decide (12 < (i : Int)) = false := decide_eq_false (by omega)
      have c2 : decide (12 < i) = false := decide_eq_false c
      simp only [grM, c1, c2, allU_true h3, Bool.not_true, Bool.or_false]
/-- What holds of the plant behind all events. -/
theorem plM_kept {N : Nat} {room : Nat → Int} (hroom : ∀ i, i < N → 0 ≤ room i ∧ room i ≤ 1048576) {s : TkP} {R : Rst} (x : Nat → Nat → Int) {H : Int} (h : POk N room s R H) : ∀ j : Nat, Kept N s (plM N room s R x j).s R (plM N room s R x j).R
  | 0 => Kept.rfl' _ _ _
  | j + 1 => by
    have h1 := (plM_fine hroom x h j).1
    have h2 := plM_kept hroom x h j
    have h3 := (do_fine hroom h1 (x j 0) (x j 1) (x j 2) (x j 3)).2
    simp only [plM]
    split
    · split
      · exact h2.trans h3
      · exact h2
    · exact h2
theorem plM_n {N : Nat} {room : Nat → Int} {s : TkP} {R : Rst} {x : Nat → Nat → Int} : ∀ j : Nat, (plM N room s R x j).n ≤ j
  | 0 => Nat.le_refl 0
  | j + 1 => by
    have := plM_n (N := N) (room := room) (s := s) (R := R) (x := x) j
    simp only [plM]
    split
    · split
      · exact Nat.le_refl _
      · exact Nat.le_succ _
    · omega
section
variable {tv th : Int} {n : Nat} {A : Nat → Nat → Int} {M : Nat → Nat} {V : Nat → Nat → Nat → Int} {he hr : Int} {m : Nat} {x : Nat → Nat → Int}
theorem plA_n : (plA tv th n A M V he hr m x).n ≤ m := by
  unfold plA
  split
  · split
    · exact Nat.zero_le _
    · exact plM_n m
  · exact Nat.zero_le _
theorem plA_ok (h : (plA tv th n A M V he hr m x).e = 0) : okBr tv th n A M V he hr = true ∧ m ≤ 256 ∧ plA tv th n A M V he hr m x = plM n (fun i => A i 0) (s00 tv th M V) (R00 he hr) x m := by
  unfold plA at h ⊢
  split at h
  · split at h
    · cases h
    · rename_i h1 h2
      exact ⟨h1, by omega, by rw [if_pos h1, if_neg h2]⟩
  · cases h
structure Left (tv th : Int) (n : Nat) (A : Nat → Nat → Int) (M : Nat → Nat) (V : Nat → Nat → Nat → Int) (he hr : Int) (m : Nat) (r : PlR) : Prop where
  nn : r.n = m
  ok : POk n (fun i => A i 0) r.s r.R 3298534883328
  room : ∀ i, i < n → 0 ≤ A i 0 ∧ A i 0 ≤ 1048576
  n8 : 1 ≤ n ∧ n ≤ 8
  kept : Kept n (s00 tv th M V) r.s (R00 he hr) r.R
theorem plA_left (h : (plA tv th n A M V he hr m x).e = 0) : Left tv th n A M V he hr m (plA tv th n A M V he hr m x) := by
  obtain ⟨h1, h2, h3⟩ := plA_ok h
  obtain ⟨k1, k2, k3, k4⟩ := okBr_start h1
  have k5 := plM_fine k2 x k1 m
  rw [h3] at h ⊢
  exact ⟨k5.2 h, k5.1.mono (by omega), k2, ⟨k4, k3⟩, plM_kept k2 x k1 m⟩
end
/-- A plant's own pipes can be added. -/
theorem POk.okB {N : Nat} {room : Nat → Int} (hroom : ∀ i, i < N → 0 ≤ room i ∧ room i ≤ 1048576) {s : TkP} {R : Rst} {H : Int} (h : POk N room s R H) (hH : H ≤ 4398046511104) {i : Nat} (hi : i < N) : OkB (s.sl i) := fun y hy => by
  have h1 := (h.ok.ok i hi) y hy
  have h2 := (h.ok.ok i hi).mem_le hy
  have h3 := h.ok.room i hi
  have h4 := hroom i hi
  have h5 := smN_le (f := fun i => heatL (s.sl i)) N i hi (fun i hi => (h.ok.ok i hi).heat)
  have h6 := h.heat
  have h7 := h.ok.t
  have h8 := h.lh
  simp only [TkP.heat] at h6 h5
  omega
theorem POk.okT {N : Nat} (hN : N ≤ 100) {room : Nat → Int} (hroom : ∀ i, i < N → 0 ≤ room i ∧ room i ≤ 1048576) {s : TkP} {R : Rst} {H : Int} (h : POk N room s R H) (hH : H ≤ 4398046511104) : OkT N (fun i => (s.sl i).length) (fun i => slI (s.sl i)) :=
  ⟨hN, fun i hi => ⟨by have := h.ok.len i hi; show (s.sl i).length ≤ 1000; omega, by rw [slL_slI]; exact h.okB hroom hH hi⟩⟩
end Go.Eng
end

/- An own slice that is given away is foreign from then on. -/
section
namespace Go.Eng
open Go Go.RowKit Go.Proofs
/-- A call that is given an own slice for good. -/
theorem calls_give {P : Program} {g : Nat} {l1 l2 : List SV} {h : HS} {K : Out → HS → Prop} {id ver ty sz n f} (hg : getV h.vecs id = .live ver ty sz n f)
    (hc : CallsS P g (l1 ++ .row n sz f :: l2) { h with vecs := setV h.vecs id .dead } K) : CallsS P g (l1 ++ .vec id ver :: l2) h K := fun E w vals hr hd => by
  have hx := give_ext E id w
  refine (hc (E.give id) w vals (give_rel hr id) ⟨by rw [hd.1]; simp, fun i x u hy hu => ?_⟩).mono ?_
  · rcases Nat.lt_trichotomy i l1.length with hi | hi | hi
    · rw [List.getElem?_append_left hi] at hy
      exact (hd.2 i x u (by rw [List.getElem?_append_left hi]; exact hy) hu).ext hx
    · subst hi
      rw [List.getElem?_append_right (Nat.le_refl _)] at hy
      simp only [Nat.sub_self, List.getElem?_cons_zero, Option.some.injEq] at hy
      subst hy
      exact give_den hr hg (hd.2 l1.length _ u (by rw [List.getElem?_append_right (Nat.le_refl _)]; simp) hu)
    · rw [List.getElem?_append_right (by omega)] at hy
      obtain ⟨k, hk⟩ : ∃ k, i - l1.length = k + 1 := ⟨i - l1.length - 1, by omega⟩
      rw [hk, List.getElem?_cons_succ] at hy
      exact (hd.2 i x u (by rw [List.getElem?_append_right (by omega), hk, List.getElem?_cons_succ]; exact hy) hu).ext hx
  · rintro e w' ⟨o, h', E', q, r1, r2, r3⟩
    exact ⟨o, h', E', q, r1, hx.trans r2, r3⟩
/-- A call from a memory of which more is known. -/
theorem calls_pre {P : Program} {g : Nat} {args args' : List SV} {h h' : HS} {K : Out → HS → Prop} (hs : SubS args h (args', h')) (hB : lenB h'.blks = lenB h.blks) (hV : lenV h'.vecs = lenV h.vecs) (hc : CallsS P g args' h' K) : CallsS P g args h K := fun E w vals hr hd => by
  obtain ⟨g1, g2⟩ := hs.go hd hr E.nb E.nv (hB.trans hr.nb.symm) (hV.trans hr.nv.symm) (Nat.le_refl _) (Nat.le_refl _)
  exact hc E w vals g2 g1
end Go.Eng
end

/- brine: small lemmas. -/
section
namespace Go.Eng
open Go Go.RowKit Go.Proofs
set_option maxRecDepth 100000
set_option maxHeartbeats 4000000
attribute [local irreducible] OwnT DefS
theorem nestF_nsA (A : Nat → Nat → Int) (M M' : Nat → Nat) (V V' : Nat → Nat → Nat → Int) : nestF 1 2 (nsA (nestF 1 2 A M V)) M' V' = nestF 1 2 A M' V' := by
  funext i j
  simp only [nestF]
  split
  · rfl
  · rename_i h; rw [nsA_lit _ h]
theorem subB_nil' (B : List Blk) : subB B [] := by cases B <;> exact trivial
theorem plS1_no {n : Nat} {A : Nat → Nat → Int} {r : PlR} (h : r.e ≠ 0) : plS1 n A r = .tup [.agg [.int .i64 0, .int .i64 0, .row 0 2 (piR A ⟨(0, 0), fun _ => []⟩), .int .i64 0, .int .i64 0],
    .agg [.int .i64 0, .int .i64 0, .int .i64 0, .int .i64 0, .int .i64 0, .int .i64 0, .int .i64 0, .int .i64 0, .int .i64 0], .int .i64 (r.n : Int), .int .i64 r.e] := by
  simp only [plS1, plN, plF, if_neg h, R00]
theorem plS1_ok {n : Nat} {A : Nat → Nat → Int} {r : PlR} (h : r.e = 0) : plS1 n A r = .tup [.agg [.int .i64 r.s.t.1, .int .i64 r.s.t.2, .row n 2 (nestF 1 2 (fun i _ => A i 0) (fun i => (r.s.sl i).length) (fun i => slI (r.s.sl i))), .int .i64 r.R.he, .int .i64 r.R.hr],
    .agg [.int .i64 r.R.w, .int .i64 r.R.lv, .int .i64 r.R.lh, .int .i64 r.R.fv, .int .i64 r.R.fh, .int .i64 r.R.ch, .int .i64 r.R.ai, .int .i64 r.R.us, .int .i64 r.R.bo], .int .i64 (r.n : Int), .int .i64 0] := by
  simp only [plS1, plN, plF, h, if_true, piR]
theorem lapp1 (k : List Oper) : List.append [] k = k := rfl
theorem lapp2 (o : Oper) (l k : List Oper) : List.append (o :: l) k = o :: List.append l k := rfl
theorem samB_0 (A : Nat → Nat → Int) (M : Nat → Nat) (V : Nat → Nat → Nat → Int) (B : Nat → Nat → Int) (K : Nat → Nat) (W : Nat → Nat → Nat → Int) : samB 0 0 0 A M V 0 0 0 0 0 B K W 0 0 = true := by simp [samB, allU]
theorem nsA_A (A : Nat → Nat → Int) (M : Nat → Nat) (V : Nat → Nat → Nat → Int) : (fun i (_ : Nat) => nsA (nestF 1 2 A M V) i 0) = fun i _ => A i 0 := by funext i _; exact nsA_lit _ (by omega)
end Go.Eng
end

/- brine: the reference's pipes: with. -/
section
namespace Go.Eng
open Go Go.RowKit Go.Proofs
set_option maxRecDepth 100000
set_option maxHeartbeats 4000000
attribute [local irreducible] OwnT DefS
def setM (M : Nat → Nat) (p m : Nat) : Nat → Nat := fun i => if i = p then m else M i
def setW (V : Nat → Nat → Nat → Int) (p : Nat) (W : Nat → Nat → Int) : Nat → Nat → Nat → Int := fun i => if i = p then W else V i
theorem with_cell (h : HS) (A : Nat → Nat → Int) (M : Nat → Nat) (V : Nat → Nat → Nat → Int) (p m : Nat) (w : Nat → Nat → Int) {i j : Nat} (hj : j < 2) :
    (if i = p ∧ 0 ≤ j ∧ j < 2 then frzF 2 h (nth [.int .i64 (A p 0), .row m 2 fun i j => .int .i64 (w i j)] (j - 0)) else frzF 2 h (catF 0 (fun _ _ => .any) (nestF 1 2 A M V) i j)) = nestF 1 2 A (setM M p m) (setW V p w) i j := by
  by_cases e : i = p
  · subst e
    rw [if_pos ⟨rfl, by omega, hj⟩]
    rcases (show j = 0 ∨ j = 1 by omega) with rfl | rfl
    · rfl
    · simp [nestF, setM, setW, nth, frzF]
  · rw [if_neg (by omega)]
    have e1 : catF 0 (fun _ _ => .any) (nestF 1 2 A M V) i j = nestF 1 2 A M V i j := by simp [catF]
    rw [e1, frzF_nest]
    simp [nestF, setM, setW, e]
def withBase : BaseF := fun args => match args with
  | [.agg [.int .i64 tv, .int .i64 th, .row n sz_A f_A, .int .i64 he, .int .i64 hr], .int .i64 p, .row m sz_w f_w] => some ((sz_A = 2 ∧ NestR n 2 1 2 f_A) ∧ (sz_w = 2 ∧ IntR m 2 f_w) ∧ (n ≤ 1000000 ∧ 0 ≤ p ∧ p < (n : Int)), .agg [.int .i64 tv, .int .i64 th, .row n 2 (nestF 1 2 (nsA f_A) (setM (nsM 1 f_A) p.toNat m) (setW (nsV 1 f_A) p.toNat (ivf f_w))), .int .i64 he, .int .i64 hr])
  | _ => none
theorem with_eq (tv : Int) (th : Int) (n : Nat) (sz_A : Nat) (f_A : Nat → Nat → SV) (he : Int) (hr : Int) (p : Int) (m : Nat) (sz_w : Nat) (f_w : Nat → Nat → SV) : withBase [.agg [.int .i64 tv, .int .i64 th, .row n sz_A f_A, .int .i64 he, .int .i64 hr], .int .i64 p, .row m sz_w f_w] = some ((sz_A = 2 ∧ NestR n 2 1 2 f_A) ∧ (sz_w = 2 ∧ IntR m 2 f_w) ∧ (n ≤ 1000000 ∧ 0 ≤ p ∧ p < (n : Int)), .agg [.int .i64 tv, .int .i64 th, .row n 2 (nestF 1 2 (nsA f_A) (setM (nsM 1 f_A) p.toNat m) (setW (nsV 1 f_A) p.toNat (ivf f_w))), .int .i64 he, .int .i64 hr]) := rfl
theorem with_base : NB Try.prog 65 withBase := by
  intro args p v hq hp
  unfold withBase at hq
  split at hq
  rotate_left
  · cases hq
  rename_i tv th n sz_A f_A he hr p m sz_w f_w
  cases hq
  obtain ⟨⟨rfl, i_A⟩, ⟨rfl, i_w⟩, pre⟩ := hp
  refine nb_of (C := cx [] [] [] [] none) (cx_ok trivial trivial) rfl (g := 65) (fn := Try.f65)
    (args' := [.agg [.int .i64 tv, .int .i64 th, .row n 2 (nestF 1 2 (nsA f_A) (nsM 1 f_A) (nsV 1 f_A)), .int .i64 he, .int .i64 hr], .int .i64 p, .row m 2 (rowF .i64 (ivf f_w))]) (fn_65) rfl 1000 (by
    simp only [BdL, Bd, and_self, and_true, true_and]
    exact ⟨(fun i j hi hj => nest_bd i_A i j hi hj), (fun i j hi hj => by rw [i_w i j hi hj]; trivial)⟩) ⟨SameD.agg ⟨SameD.rfl' _, SameD.rfl' _, SameD.nest i_A, SameD.rfl' _, SameD.rfl' _, trivial⟩, SameD.rfl' _, SameD.int i_w, trivial⟩ (by simp only [Bd, BdL, and_true, true_and, implies_true]; exact nestF_bd _ _ _ _ _ _ _ _ _) ?_
  generalize nsA f_A = A at *
  generalize nsM 1 f_A = M at *
  generalize nsV 1 f_A = V at *
  generalize ivf f_w = w at *
  simp only [rowF_eq]
  simp only [nestF11_0, nestF11_1, frzF_nest, Try.f65, go_sem, ↓reduceIte, Nat.reduceAdd, Nat.reduceSub, Nat.reduceMul, Nat.reduceEqDiff, Nat.reduceLT, Nat.reduceLeDiff, Int.reduceToNat, Int.reduceLE, Int.reduceLT, Int.reduceEq, Int.reduceNeg, reduceCtorEq]
  obtain ⟨p1, p2, p3⟩ := pre
  refine ⟨⟨by omega, by omega⟩, ⟨p2, p3⟩, ⟨p2, p3⟩, by omega, fun i j hi hj => ?_, SameD.agg ⟨SameD.rfl' _, SameD.rfl' _, SameD.rowD fun i j hi hj => ?_, SameD.rfl' _, SameD.rfl' _, trivial⟩⟩
  · rw [with_cell _ A M V p.toNat m w hj]; exact nestF_bd1 _ _ _ _ _ _ _ _ _
  · rw [with_cell _ A M V p.toNat m w hj]; exact SameD.rfl' _
end Go.Eng
end

/- brine: the reference's pipes: flow. -/
section
namespace Go.Eng
open Go Go.RowKit Go.Proofs
set_option maxRecDepth 100000
set_option maxHeartbeats 4000000
attribute [local irreducible] OwnT DefS
/-- Slugs that can be parted. -/
def OkF (l : List Sl) : Prop := ∀ x ∈ l, (1 ≤ x.1 ∧ x.1 ≤ 1048576) ∧ 0 ≤ x.2 ∧ x.2 ≤ 4398046511104
theorem OkF.at {n : Nat} {f : Nat → Nat → Int} (h : OkF (slL n f)) {i : Nat} (hi : i < n) : (1 ≤ f i 0 ∧ f i 0 ≤ 1048576) ∧ 0 ≤ f i 1 ∧ f i 1 ≤ 4398046511104 :=
  h (f i 0, f i 1) (by simp only [slL, List.mem_map, List.mem_range]; exact ⟨i, hi, rfl⟩)
theorem slL_drop {n : Nat} {v : Nat → Nat → Int} {i : Nat} (hi : i < n) : (slL n v).drop i = (v i 0, v i 1) :: (slL n v).drop (i + 1) := by
  rw [List.drop_eq_getElem_cons (by rw [slL_len]; exact hi)]
  congr 1
  simp [slL]
theorem slL_dropN {n : Nat} {v : Nat → Nat → Int} : (slL n v).drop n = [] := by rw [List.drop_eq_nil_of_le]; rw [slL_len]; exact Nat.le_refl _
def FlowK (l : List Sl) (q : Int) (o : Out) (h' : HS) : Prop :=
  ∃ va vb v0 v1 fa fb V B, o = .ret (.tup [.vec 2 va, .vec 3 vb]) ∧ h' = ⟨B, v0 :: v1 :: .live va 23 2 (flowM l q).1.length fa :: .live vb 23 2 (flowM l q).2.length fb :: V⟩ ∧ (∀ k j, k < (flowM l q).1.length → j < 2 → fa k j = .int .i64 (slI (flowM l q).1 k j)) ∧ ∀ k j, k < (flowM l q).2.length → j < 2 → fb k j = .int .i64 (slI (flowM l q).2 k j)
theorem catZ (f g : Nat → Nat → SV) : catF 0 f g = g := by funext i j; simp [catF]
theorem slI_drop {n : Nat} {v : Nat → Nat → Int} {i k j : Nat} (hk : i + k < n) (hj : j < 2) : slI ((slL n v).drop i) k j = v (i + k) j := by
  rw [← slI_slL (f := v) hk hj]
  simp [slI, List.getD_eq_getElem?_getD]
theorem flow_run {n : Nat} (hn : n ≤ 1000) (v : Nat → Nat → Int) (hv : OkF (slL n v)) {q : Int} (h0 : 0 ≤ q) (hq : q ≤ volL (slL n v)) :
    CallsS Try.prog 66 [.row n 2 (fun k j => .int .i64 (v k j)), .int .i64 q] ⟨[], []⟩ (FlowK (slL n v) q) := by
  have hB : OkB (slL n v) := fun y hy => by have := hv y hy; omega
  have hs := hB.sum
  rw [slL_len] at hs
  have hq2 : q ≤ 2097152000 := by
    have : volL (slL n v) = (smL (slL n v)).1 := rfl
    omega
  refine calls_of_run (C := cx [] [] [(62, takeRBase)] [] none) (cx_ok trivial ⟨takeR_base, trivial⟩) rfl (g := 66) (fn := Try.f66) (fn_66) rfl 1000 ?_
  simp only [catZ, Try.f66, takeR_eq, go_sem, ↓reduceIte, Nat.reduceAdd, Nat.reduceSub, Nat.reduceMul, Nat.reduceEqDiff, Nat.reduceLT, Nat.reduceLeDiff, Int.reduceToNat, Int.reduceLE, Int.reduceLT, Int.reduceEq, Int.reduceNeg, reduceCtorEq]
  refine loop_of { c : Nat × Int // c.1 ≤ n ∧ (0 ≤ c.2 ∧ c.2 ≤ q) ∧ c.2 ≤ volL ((slL n v).drop c.1) ∧ flowM (slL n v) q = (slL c.1 v ++ (flowM ((slL n v).drop c.1) c.2).1, (flowM ((slL n v).drop c.1) c.2).2) } (fun c => [(7, .int .i64 (c.1.1 : Int)), (6, .vec 2 c.1.1), (1, .int .i64 c.1.2), (0, .row n 2 fun k j => .int .i64 (v k j))])
    (fun c => ⟨[], [.live 0 23 2 0 (fun _ _ => .any), .live 0 23 2 0 (fun _ _ => .any), .live c.1.1 23 2 c.1.1 (fun k j => .int .i64 (v k j))]⟩) (fun c => n - c.1.1) (fun _ => ⟨rfl, rfl⟩) ⟨(0, q), Nat.zero_le n, ⟨h0, Int.le_refl _⟩, by rw [List.drop_zero]; exact hq, by simp [slL]⟩ (by (apply sub_of <;> simp only [go_sem, ↓reduceIte, Nat.reduceAdd, Nat.reduceSub, Nat.reduceMul, Nat.reduceEqDiff, Nat.reduceLT, Nat.reduceLeDiff, Int.reduceToNat, Int.reduceLE, Int.reduceLT, Int.reduceEq, Int.reduceNeg, reduceCtorEq] <;> (try simp [catF])); all_goals (repeat' first | assumption | exact nestF_bd _ _ _ _ _ _ _ _ _ | exact nestF_bd1 _ _ _ _ _ _ _ _ _ | exact fun _ _ => nestF_bd1 _ _ _ _ _ _ _ _ _ | exact fun _ _ _ _ => nestF_bd1 _ _ _ _ _ _ _ _ _ | exact fun x hx => catF_one _ hx | refine And.intro ?_ ?_)) ?_
  rintro ⟨⟨i, c⟩, hi, ⟨hc0, hcq⟩, hcv, hfl⟩
  simp only at hi hc0 hcq hcv hfl ⊢
  by_cases ik : i < n
  · have e1 : decide ((i : Int) < (n : Int)) = true := decide_eq_true (by omega)
    have hx := hv.at ik
    rw [slL_drop ik] at hcv hfl
    by_cases hge : v i 0 ≤ c
    · have e2 : decide (v i 0 ≤ c) = true := decide_eq_true hge
      simp only [e1, e2, Int.toNat_natCast, catZ, Try.f66, takeR_eq, go_sem, ↓reduceIte, Nat.reduceAdd, Nat.reduceSub, Nat.reduceMul, Nat.reduceEqDiff, Nat.reduceLT, Nat.reduceLeDiff, Int.reduceToNat, Int.reduceLE, Int.reduceLT, Int.reduceEq, Int.reduceNeg, reduceCtorEq]
      have w1 : IntKind.i64.wrap (c - v i 0) = c - v i 0 := wrap_id (by omega) (by omega)
      have hvc : volL ((v i 0, v i 1) :: (slL n v).drop (i + 1)) = v i 0 + volL ((slL n v).drop (i + 1)) := rfl
      rw [hvc] at hcv
      have hst : flowM ((v i 0, v i 1) :: (slL n v).drop (i + 1)) c = ((v i 0, v i 1) :: (flowM ((slL n v).drop (i + 1)) (c - v i 0)).1, (flowM ((slL n v).drop (i + 1)) (c - v i 0)).2) := by
        simp only [flowM]; rw [if_neg (by omega), if_pos hge]
      refine ⟨⟨by omega, by omega⟩, ⟨by omega, by omega⟩, ⟨by omega, by omega⟩, ⟨by omega, by omega⟩, ⟨(i + 1, c - v i 0), by simp only []; omega, ⟨by simp only []; omega, by simp only []; omega⟩, by simp only []; omega, ?_⟩, by simp only []; omega, ?_⟩
      · simp only []
        rw [hfl, hst, slL_succ]
        simp
      apply sub_of <;> simp only [wrap_s ik (show n ≤ 1000000 by omega), w1, go_sem, ↓reduceIte, Nat.reduceAdd, Nat.reduceSub, Nat.reduceMul, Nat.reduceEqDiff, Nat.reduceLT, Nat.reduceLeDiff, Int.reduceToNat, Int.reduceLE, Int.reduceLT, Int.reduceEq, Int.reduceNeg, reduceCtorEq] <;> (try simp)
      intro a b ha hb
      rcases Nat.lt_or_ge a i with h1 | h1
      · simp only [catF, if_pos h1]
      · obtain rfl : a = i := by omega
        simp only [catF, if_neg (Nat.lt_irrefl _), Nat.sub_self]
        rcases two hb with rfl | rfl <;> rfl
    · have e2 : decide (v i 0 ≤ c) = false := decide_eq_false hge
      by_cases hz : 0 < c
      · have e3 : decide (0 < c) = true := decide_eq_true hz
        simp only [e1, e2, e3, Int.toNat_natCast, catZ, Try.f66, takeR_eq, go_sem, ↓reduceIte, Nat.reduceAdd, Nat.reduceSub, Nat.reduceMul, Nat.reduceEqDiff, Nat.reduceLT, Nat.reduceLeDiff, Int.reduceToNat, Int.reduceLE, Int.reduceLT, Int.reduceEq, Int.reduceNeg, reduceCtorEq]
        have ho : flowM (slL n v) q = (slL i v ++ [tkS (v i 0, v i 1) c], mnS (v i 0, v i 1) (tkS (v i 0, v i 1) c) :: (slL n v).drop (i + 1)) := by
          rw [hfl, flowM_cut hz (by simp only []; omega)]
        simp only [Nat.add_zero]
        refine ⟨⟨by omega, by omega⟩, ⟨by omega, by omega⟩, ⟨by omega, by omega⟩, by omega, by omega, ⟨by omega, by omega, hx.1.2, hx.2.1, hx.2.2⟩, ⟨by omega, by omega⟩, by omega, by omega, ?_⟩
        unfold FlowK
        rw [ho]
        simp only [List.length_append, List.length_cons, List.length_nil, slL_len, List.length_drop]
        rw [show n - (i + 1) + 1 = n - i by omega]
        refine ⟨i + 1, 1, _, _, _, _, _, _, rfl, rfl, fun k j hk hj => ?_, fun k j hk hj => ?_⟩
        · rcases Nat.lt_or_ge k i with h1 | h1
          · have e : slI (slL i v ++ [tkS (v i 0, v i 1) c]) k j = v k j := by
              rw [← slI_slL (f := v) h1 hj]
              simp only [slI, List.getD_eq_getElem?_getD, List.getElem?_append_left (show k < (slL i v).length by rw [slL_len]; exact h1)]
            rw [e]
            simp only [catF, if_pos h1]
          · obtain rfl : k = i := by omega
            have e : slI (slL k v ++ [tkS (v k 0, v k 1) c]) k j = if j = 0 then (tkS (v k 0, v k 1) c).1 else (tkS (v k 0, v k 1) c).2 := by
              have : (slL k v ++ [tkS (v k 0, v k 1) c])[k]? = some (tkS (v k 0, v k 1) c) := by
                rw [List.getElem?_append_right (by rw [slL_len]; exact Nat.le_refl _), slL_len, Nat.sub_self]; rfl
              simp only [slI, List.getD_eq_getElem?_getD, this]; rfl
            rw [e]
            simp only [catF, if_neg (Nat.lt_irrefl _), Nat.sub_self]
            rcases two hj with rfl | rfl <;> rfl
        · cases k with
          | zero => rcases two hj with rfl | rfl <;> rfl
          | succ k =>
            have e : slI (mnS (v i 0, v i 1) (tkS (v i 0, v i 1) c) :: (slL n v).drop (i + 1)) (k + 1) j = slI ((slL n v).drop (i + 1)) k j := by simp [slI]
            rw [e, slI_drop (by omega) hj]
            simp only [updF]
            rw [if_neg (by omega)]
            congr 2
            omega
      · have e3 : decide (0 < c) = false := decide_eq_false hz
        simp only [e1, e2, e3, Int.toNat_natCast, catZ, Try.f66, takeR_eq, go_sem, ↓reduceIte, Nat.reduceAdd, Nat.reduceSub, Nat.reduceMul, Nat.reduceEqDiff, Nat.reduceLT, Nat.reduceLeDiff, Int.reduceToNat, Int.reduceLE, Int.reduceLT, Int.reduceEq, Int.reduceNeg, reduceCtorEq]
        have ho : flowM (slL n v) q = (slL i v, (slL n v).drop i) := by
          rw [hfl]
          simp only [flowM]
          rw [if_pos (by omega), slL_drop ik]
          simp
        refine ⟨⟨by omega, by omega⟩, ⟨by omega, by omega⟩, ⟨by omega, by omega⟩, ?_⟩
        unfold FlowK
        rw [ho, slL_len, List.length_drop, slL_len]
        refine ⟨i, 1, _, _, _, _, _, _, rfl, rfl, fun k j hk hj => by rw [slI_slL hk hj], fun k j hk hj => by rw [slI_drop (by omega) hj]⟩
  · obtain rfl : i = n := by omega
    have e1 : decide ((i : Int) < (i : Int)) = false := decide_eq_false (by omega)
    rw [slL_dropN] at hcv hfl
    have e3 : decide (0 < c) = false := decide_eq_false (by rw [volL_nil] at hcv; omega)
    simp only [e1, e3, Int.toNat_natCast, catZ, Try.f66, takeR_eq, go_sem, ↓reduceIte, Nat.reduceAdd, Nat.reduceSub, Nat.reduceMul, Nat.reduceEqDiff, Nat.reduceLT, Nat.reduceLeDiff, Int.reduceToNat, Int.reduceLE, Int.reduceLT, Int.reduceEq, Int.reduceNeg, reduceCtorEq]
    have ho : flowM (slL i v) q = (slL i v, []) := by rw [hfl]; simp [flowM]
    refine ⟨⟨by omega, by omega⟩, ⟨by omega, by omega⟩, ?_⟩
    unfold FlowK
    rw [ho, slL_len]
    refine ⟨i, 1, _, _, _, _, _, _, rfl, by simp only [Nat.sub_self]; rfl, fun k j hk hj => by rw [slI_slL hk hj], fun k j hk => absurd hk (Nat.not_lt_zero k)⟩
end Go.Eng
end

/- brine: the reference's pipes: a slug flows into a pipe. -/
section
namespace Go.Eng
open Go Go.RowKit Go.Proofs
set_option maxRecDepth 100000
set_option maxHeartbeats 4000000
attribute [local irreducible] OwnT DefS
theorem appB_nil (b v : Nat → Nat) : ∀ l : List Blk, appB b v l [] = l
  | [] => by simp [appB]
  | x :: l => by simp only [appB, appB_nil b v l]
def brL (N : Nat) (room : Nat → Int) (s : TkP) (he hr : Int) : SV := .agg [.int .i64 s.t.1, .int .i64 s.t.2, .row N 2 (nestF 1 2 (fun i _ => room i) (fun i => (s.sl i).length) (fun i => slI (s.sl i))), .int .i64 he, .int .i64 hr]
theorem brL_bd (N : Nat) (room : Nat → Int) (s : TkP) (he hr : Int) : Bd 0 0 (brL N room s he hr) := by
  simp only [brL, Bd, BdL, and_self, and_true, true_and, implies_true]
  exact nestF_bd _ _ _ _ _ _ _ _ _
theorem flow_calls {l : List Sl} (hn : l.length ≤ 1000) (hv : OkF l) {q : Int} (h0 : 0 ≤ q) (hq : q ≤ volL l) :
    CallsS Try.prog 66 [.row l.length 2 (fun k j => .int .i64 (slI l k j)), .int .i64 q] ⟨[], []⟩ (fun o h' => ∃ va vb, o = .ret (.tup [.vec 2 va, .vec 3 vb]) ∧ h' = ⟨[], [.dead, .dead, slV va (flowM l q).1, slV vb (flowM l q).2]⟩) := by
  have hr := flow_run hn (slI l) (by rw [slL_slI]; exact hv) h0 (by rw [slL_slI]; exact hq)
  rw [slL_slI] at hr
  refine calls_trim2 hr ?_
  rintro o h' ⟨va, vb, v0, v1, fa, fb, V, B, rfl, rfl, ha, hb⟩
  refine ⟨_, _, .ret (.tup [.vec 2 va, .vec 3 vb]), ⟨[], [.dead, .dead, slV va (flowM l q).1, slV vb (flowM l q).2]⟩, .inl ⟨rfl, rfl⟩, ⟨va, vb, rfl, rfl⟩, ⟨⟨rfl, trivial⟩, subB_nil' _, ⟨trivial, trivial, ⟨rfl, rfl, rfl, rfl, ha⟩, ⟨rfl, rfl, rfl, rfl, hb⟩, subV_nil _⟩, ⟨by simp [Bd, BdL, lenV], trivial⟩, trivial, ⟨fun _ _ _ _ => trivial, fun _ _ _ _ => trivial, trivial⟩⟩, ⟨Nat.le_refl _, Nat.zero_le _⟩, ⟨Nat.zero_le _, by simp [lenV]⟩⟩
theorem slV_rn (b v : Nat → Nat) (k : Nat) (l : List Sl) : renC b v (slV k l) = slV k l := by simp [slV, renC, renS]
/-- flow, for own slugs. -/
theorem flow_own {l : List Sl} {n : Nat} (hln : n = l.length) (hn : n ≤ 1000) (hv : OkF l) {q : Int} (h0 : 0 ≤ q) (hq : q ≤ volL l) {B : List Blk} {v0 v1 v2 : Vc} {id v ty : Nat} {F : Nat → Nat → SV} (hk : getV [v0, v1, v2] id = .live v ty 2 n F) (hF : ∀ i j, i < n → j < 2 → F i j = .int .i64 (slI l i j)) :
    CallsS Try.prog 66 [.vec id v, .int .i64 q] ⟨B, [v0, v1, v2]⟩ (fun o h' => ∃ va vb w0 w1 w2, setV [v0, v1, v2] id .dead = [w0, w1, w2] ∧ o = .ret (.tup [.vec 5 va, .vec 6 vb]) ∧ h' = ⟨B, [w0, w1, w2, .dead, .dead, slV va (flowM l q).1, slV vb (flowM l q).2]⟩) := by
  subst hln
  obtain ⟨w0, w1, w2, hw⟩ : ∃ w0 w1 w2, setV [v0, v1, v2] id .dead = [w0, w1, w2] := by
    match id with
    | 0 => exact ⟨_, _, _, rfl⟩
    | 1 => exact ⟨_, _, _, rfl⟩
    | 2 => exact ⟨_, _, _, rfl⟩
    | _ + 3 => exact ⟨_, _, _, rfl⟩
  refine calls_give (l1 := []) (l2 := [.int .i64 q]) hk ?_
  refine calls_congr (args' := [.row l.length 2 (fun i j => .int .i64 (slI l i j)), .int .i64 q]) ⟨SameD.rowD fun i j hi hj => by rw [hF i j hi hj]; exact SameD.rfl' _, SameD.rfl' _, trivial⟩ ?_
  simp only [hw]
  refine calls_mono ?_ (calls_grow (flow_calls hn hv h0 hq) ?_ ?_ _)
  · rintro o h' ⟨o0, h0', ⟨va, vb, rfl, rfl⟩, rfl, rfl⟩
    refine ⟨va, vb, w0, w1, w2, rfl, rfl, ?_⟩
    simp only [appV, renC, slV_rn, appB_nil]
    rfl
  · exact ⟨fun _ _ _ _ => trivial, trivial, trivial⟩
  · rintro o h' ⟨va, vb, rfl, rfl⟩
    exact ⟨trivial, ⟨fun _ _ _ _ => trivial, fun _ _ _ _ => trivial, trivial⟩, by simp [bdO, Bd, BdL, lenV]⟩
/-- with, for own slugs. -/
theorem with_own {N : Nat} (hN : N ≤ 1000) {room : Nat → Int} {s : TkP} {he hr : Int} {p : Nat} (hp : p < N) {l : List Sl} {n : Nat} (hln : n = l.length) {h : HS} {id v ty : Nat} {F : Nat → Nat → SV} (hk : getV h.vecs id = .live v ty 2 n F) (hF : ∀ i j, i < n → j < 2 → F i j = .int .i64 (slI l i j)) :
    CallsS Try.prog 65 [brL N room s he hr, .int .i64 (p : Int), .vec id v] h (fun o h' => o = .ret (brL N room ⟨s.t, upL s.sl p l⟩ he hr) ∧ h' = { h with vecs := setV h.vecs id .dead }) := by
  subst hln
  refine calls_give (l1 := [brL N room s he hr, .int .i64 (p : Int)]) (l2 := []) hk ?_
  refine calls_congr (args' := [brL N room s he hr, .int .i64 (p : Int), .row l.length 2 (fun i j => .int .i64 (slI l i j))]) ⟨SameD.rfl' _, SameD.rfl' _, SameD.rowD fun i j hi hj => by rw [hF i j hi hj]; exact SameD.rfl' _, trivial⟩ ?_
  unfold brL
  have hb := with_base _ _ _ (with_eq s.t.1 s.t.2 N 2 (nestF 1 2 (fun i _ => room i) (fun i => (s.sl i).length) (fun i => slI (s.sl i))) he hr (p : Int) l.length 2 (fun i j => .int .i64 (slI l i j))) ⟨⟨rfl, of_eq_true (nestR_lit _ _ _ _ _ _ _)⟩, ⟨rfl, fun _ _ _ _ => rfl⟩, by omega, by omega, by omega⟩
  have eM : setM (fun i => (s.sl i).length) p l.length = fun i => (upL s.sl p l i).length := by funext i; simp only [setM, upL]; split <;> rfl
  have eV : setW (fun i => slI (s.sl i)) p (slI l) = fun i => slI (upL s.sl p l i) := by funext i; simp only [setW, upL]; split <;> rfl
  have eI : ivf (fun i j => .int .i64 (slI l i j)) = slI l := rfl
  simp only [nsM_lit, nsV_lit, nestF_nsA, eI, Int.toNat_natCast, eM, eV] at hb
  obtain ⟨b1, b2, b3⟩ := hb
  exact frame_calls b3 b1 (fun o => o = .ret _) (fun o h' e => by subst e; exact ⟨rfl, b2⟩) _
end Go.Eng
end

/- brine: the reference's pipes: into. -/
section
namespace Go.Eng
open Go Go.RowKit Go.Proofs
set_option maxRecDepth 100000
set_option maxHeartbeats 4000000
attribute [local irreducible] OwnT DefS
theorem mrg_len1 {l : List Sl} (h : 16 < l.length) : l.length - 2 - 0 + 1 = (mrg l).length := by
  rw [mrg, if_pos h]; simp <;> omega
theorem mrg_cell {l : List Sl} (h : 16 < l.length) {k j : Nat} (hk : k < l.length - 2 - 0 + 1) (hj : j < 2) :
    catF (l.length - 2 - 0) (fun k j => .int .i64 (slI l k j)) (oneF [.int .i64 (slI l (l.length - 2) 0 + slI l (l.length - 1) 0), .int .i64 (slI l (l.length - 2) 1 + slI l (l.length - 1) 1)]) k j = .int .i64 (slI (mrg l) k j) := by
  have hm : mrg l = l.take (l.length - 2) ++ [plS (l.getD (l.length - 2) (0, 0)) (l.getD (l.length - 1) (0, 0))] := by rw [mrg, if_pos h]
  have ht : (l.take (l.length - 2)).length = l.length - 2 := by rw [List.length_take]; omega
  rw [Nat.sub_zero] at hk ⊢
  rcases Nat.lt_or_ge k (l.length - 2) with g | g
  · have e : slI (mrg l) k j = slI l k j := by
      rw [hm]
      simp only [slI, List.getD_eq_getElem?_getD, List.getElem?_append_left (show k < (l.take (l.length - 2)).length by rw [ht]; exact g), List.getElem?_take_of_lt g]
    rw [e]
    simp only [catF, if_pos g]
  · obtain rfl : k = l.length - 2 := by omega
    have e : (mrg l)[l.length - 2]? = some (plS (l.getD (l.length - 2) (0, 0)) (l.getD (l.length - 1) (0, 0))) := by
      rw [hm, List.getElem?_append_right (by rw [ht]; exact Nat.le_refl _), ht, Nat.sub_self]; rfl
    have e2 : ∀ j, slI (mrg l) (l.length - 2) j = if j = 0 then (plS (l.getD (l.length - 2) (0, 0)) (l.getD (l.length - 1) (0, 0))).1 else (plS (l.getD (l.length - 2) (0, 0)) (l.getD (l.length - 1) (0, 0))).2 := fun j => by
      simp only [slI, List.getD_eq_getElem?_getD, e]; rfl
    rw [e2]
    simp only [catF, if_neg (Nat.lt_irrefl _), Nat.sub_self]
    rcases two hj with rfl | rfl <;> rfl
theorem into_ref {N : Nat} {room : Nat → Int} (hN : N ≤ 100) (hroom : ∀ i, i < N → 0 ≤ room i ∧ room i ≤ 1048576) (he hr : Int) : ∀ (k : Nat), k ≤ N → ∀ (s : TkP) (a b : Int), s.Ok N room → 1 ≤ a → a ≤ 1048576 → 0 ≤ b → s.heat N + b ≤ 4398046511104 → s.t.1 + a ≤ 1099511627776 →
    CallsS Try.prog 63 [brL N room s he hr, .int .i64 ((N - k : Nat) : Int), .agg [.int .i64 a, .int .i64 b]] ⟨[], []⟩ (fun o _ => o = .ret (brL N room (intoK N room k s (a, b)) he hr)) := by
  intro k
  induction k with
  | zero =>
    intro hk s a b hok h1 h2 h3 h4 h5
    have hth := hok.heat_nonneg
    have ht := hok.t
    unfold TkP.heat at h4
    refine calls_of_run (C := cx [63, 65, 66] [] [(43, plusRBase), (64, volumeBase)] [(63, 4, p63_4), (63, 5, p63_5), (63, 8, p63_8), (63, 13, p63_13)] none) (cx_ok trivial ⟨plusR_base, volume_base, trivial⟩) rfl (g := 63) (fn := Try.f63) (fn_63) rfl 1000 ?_
    have e0 : decide ((N : Int) = (N : Int)) = true := decide_eq_true rfl
    simp only [brL, Nat.sub_zero, e0, Try.f63, plusR_eq, volume_eq, go_sem, ↓reduceIte, Nat.reduceAdd, Nat.reduceSub, Nat.reduceMul, Nat.reduceEqDiff, Nat.reduceLT, Nat.reduceLeDiff, Int.reduceToNat, Int.reduceLE, Int.reduceLT, Int.reduceEq, Int.reduceNeg, reduceCtorEq]
    exact ⟨⟨⟨by omega, by omega⟩, ⟨by omega, by omega⟩, ⟨by omega, by omega⟩, by omega, by omega⟩, rfl⟩
  | succ k ih =>
    intro hk s a b hok h1 h2 h3 h4 h5
    have hi : N - (k + 1) < N := by omega
    generalize hi' : N - (k + 1) = i at hi
    have hth := hok.heat_nonneg
    have hro := hroom i hi
    have hoi := hok.ok i hi
    have hle := smN_le (f := fun i => heatL (s.sl i)) N i hi (fun j hj => (hok.ok j hj).heat)
    have hri := hok.room i hi
    have hli := hok.len i hi
    have ht := hok.t
    have h4' := h4
    unfold TkP.heat at h4
    have hoa : OkL (s.sl i ++ [(a, b)]) := hoi.app (fun y hy => by simp only [List.mem_singleton] at hy; subst hy; exact ⟨h1, h3⟩)
    have hva : volL (s.sl i ++ [(a, b)]) = volL (s.sl i) + a := by rw [volL_app]; simp [volL_cons, volL_nil]
    have hOF : OkF (s.sl i ++ [(a, b)]) := fun y hy => by
      rcases List.mem_append.1 hy with hy | hy
      · have q1 := hoi y hy; have q2 := hoi.mem_le hy; have q3 : heatL (s.sl i) ≤ smN (fun i => heatL (s.sl i)) N := hle; omega
      · simp only [List.mem_singleton] at hy; subst hy; exact ⟨⟨h1, h2⟩, h3, by have := hoi.heat; show b ≤ 4398046511104; omega⟩
    have hfa := outP_facts hoi (x := (a, b)) ⟨h1, h3⟩ hri hro.1 hli
    have hout : flowM (s.sl i ++ [(a, b)]) (max 0 (volL (s.sl i ++ [(a, b)]) - room i)) = outP (s.sl i) (a, b) (room i) := rfl
    have hint : intoK N room (k + 1) s (a, b) = (outP (s.sl i) (a, b) (room i)).1.foldl (intoK N room k) ⟨s.t, upL s.sl i (mrg (outP (s.sl i) (a, b) (room i)).2)⟩ := by simp only [intoK, hi']
    have hOB : OkB (s.sl i ++ [(a, b)]) := fun y hy => by have := hOF y hy; omega
    have hvn := hoi.vol
    have wq : IntKind.i64.wrap ((smL (s.sl i ++ [(a, b)])).1 - room i) = volL (s.sl i ++ [(a, b)]) - room i := wrap_id (by show _ ≤ volL (s.sl i ++ [(a, b)]) - room i; omega) (by show volL (s.sl i ++ [(a, b)]) - room i ≤ _; omega)
    refine calls_of_run (C := cx [63, 65, 66] [] [(43, plusRBase), (64, volumeBase)] [(63, 4, p63_4), (63, 5, p63_5), (63, 8, p63_8), (63, 13, p63_13)] none) (cx_ok trivial ⟨plusR_base, volume_base, trivial⟩) rfl (g := 63) (fn := Try.f63) (fn_63) rfl 1000 ?_
    have e0 : decide ((i : Int) = (N : Int)) = false := decide_eq_false (by omega)
    simp only [brL, e0, nestF11_0, nestF11_1, catZ, Int.toNat_natCast, getV_fL, setV_fL, getV_fI, setV_fI, getV_fP, setV_fP, snocV_fam', fam_lenV, updV_same, updV_upd, upN_same, catS1_eq, catS1_intR, catS1_slL, catS1_frz, piF_0, piF_1, piF_upd, slV, Try.f63, plusR_eq, volume_eq, p63_4, p63_5, go_sem, ↓reduceIte, Nat.reduceAdd, Nat.reduceSub, Nat.reduceMul, Nat.reduceEqDiff, Nat.reduceLT, Nat.reduceLeDiff, Int.reduceToNat, Int.reduceLE, Int.reduceLT, Int.reduceEq, Int.reduceNeg, reduceCtorEq]
    simp only [wq]
    repeat' refine And.intro ?_ ?_
    all_goals first | (show planOk _ _ = true; kernel_rfl) | (show keepOk _ _ = true; kernel_rfl) | exact hOB | omega | skip
    all_goals
      refine calls_mono ?_ (flow_own (l := s.sl i ++ [(a, b)]) (n := (s.sl i).length + 1) (by simp) (by omega) hOF (by omega) (by omega) rfl (fun _ _ hx hy => by rw [catS1_at _ _ _ hx hy]))
      rintro o h' ⟨va, vb, w0, w1, w2, hw, rfl, rfl⟩
      cases hw
      simp only [hout, hint]
      generalize outP (s.sl i) (a, b) (room i) = fl at hfa ⊢
      obtain ⟨f1, f2, f3, f4, f5, f6, f7, f8⟩ := hfa
      have hok0 : TkP.Ok N room ⟨s.t, upL s.sl i (mrg fl.2)⟩ := by
        refine ⟨ht, fun j hj => ?_, fun j hj => ?_, fun j hj => ?_⟩ <;> simp only [upL] <;> split
        · exact f2
        · exact hok.ok j hj
        · rename_i e; subst e; simp only [volL, mrg_sum]; exact f4
        · exact hok.room j hj
        · exact f7
        · exact hok.len j hj
      have hh0 : TkP.heat N ⟨s.t, upL s.sl i (mrg fl.2)⟩ + heatL fl.1 = TkP.heat N s + b := by
        have u1 : smN (fun j => heatL (upL s.sl i (mrg fl.2) j)) N = smN (fun j => heatL (s.sl j)) N + (heatL (mrg fl.2) - heatL (s.sl i)) := by
          rw [smN_upd (f := fun j => heatL (s.sl j)) (g := fun j => heatL (upL s.sl i (mrg fl.2) j)) (i := i) N hi (fun j hj hne => by simp [upL, hne])]
          simp [upL]
        have hm : heatL (mrg fl.2) = heatL fl.2 := by simp only [heatL, mrg_sum]
        simp only [plS, Prod.ext_iff] at f5
        simp only [TkP.heat, u1, hm]
        unfold heatL at *
        omega
      generalize hs0 : (⟨s.t, upL s.sl i (mrg fl.2)⟩ : TkP) = s0 at hok0 hh0 ⊢
      have hst : s0.t = s.t := by rw [← hs0]
      have hfl : ∀ j, Flows N room s0 ((fl.1.take j).foldl (intoK N room k) s0) (smL (fl.1.take j)) := fun j =>
        foldl_flows (fun s x => intoK_flows (fun i hi => (hroom i hi).1) k (by omega) s x) _ _ hok0 (fun y hy => f1 y (List.mem_of_mem_take hy))
      by_cases hl : 16 < fl.2.length
      · have e1 : decide (16 < (fl.2.length : Int)) = true := decide_eq_true (by omega)
        obtain ⟨K, y1, y2, hk1, hk2⟩ := mrg_split hl
        have w2 : IntKind.i64.wrap ((fl.2.length : Int) - 2) = ((fl.2.length - 2 : Nat) : Int) := by rw [wrap_id (by omega) (by omega)]; omega
        have w1 : IntKind.i64.wrap ((fl.2.length : Int) - 1) = ((fl.2.length - 1 : Nat) : Int) := by rw [wrap_id (by omega) (by omega)]; omega
        have u2 := f8.upto (show fl.2.length - 2 < fl.2.length by omega)
        have u1 := f8.upto (show fl.2.length - 1 < fl.2.length by omega)
        simp only [brL, e1, w1, w2, nestF11_0, nestF11_1, catZ, Int.toNat_natCast, getV_fL, setV_fL, getV_fI, setV_fI, getV_fP, setV_fP, snocV_fam', fam_lenV, updV_same, updV_upd, upN_same, catS1_eq, catS1_intR, catS1_slL, catS1_frz, piF_0, piF_1, piF_upd, slV, Try.f63, plusR_eq, volume_eq, p63_4, p63_5, p63_8, p63_13, go_sem, ↓reduceIte, Nat.reduceAdd, Nat.reduceSub, Nat.reduceMul, Nat.reduceEqDiff, Nat.reduceLT, Nat.reduceLeDiff, Int.reduceToNat, Int.reduceLE, Int.reduceLT, Int.reduceEq, Int.reduceNeg, reduceCtorEq]
        have hh2 : heatL fl.2 ≤ 4398046511104 := by
          have := f1.heat
          simp only [plS, Prod.ext_iff] at f5
          unfold heatL at *
          omega
        refine ⟨⟨by kernel_rfl, by kernel_rfl⟩, ⟨by omega, by omega⟩, ⟨by omega, by omega⟩, by omega, ⟨by omega, by omega⟩, by omega, ⟨⟨by omega, by omega⟩, ⟨by omega, by omega⟩, ⟨by omega, by omega⟩, by omega, by omega⟩, ⟨by omega, by omega⟩, ⟨by omega, by omega⟩, ⟨by omega, by omega⟩, ?_⟩
        unfold callS
        refine calls_mono ?_ (with_own (s := s) (room := room) (he := he) (hr := hr) (show N ≤ 1000 by omega) hi (l := mrg fl.2) (mrg_len1 hl) rfl (fun _ _ hx hy => mrg_cell hl hx hy))
        rintro o h' ⟨rfl, rfl⟩
        rw [hs0]
        simp only [brL, e1, nestF11_0, nestF11_1, catZ, Int.toNat_natCast, getV_fL, setV_fL, getV_fI, setV_fI, getV_fP, setV_fP, snocV_fam', fam_lenV, updV_same, updV_upd, upN_same, catS1_eq, catS1_intR, catS1_slL, catS1_frz, piF_0, piF_1, piF_upd, slV, Try.f63, plusR_eq, volume_eq, p63_4, p63_5, p63_8, p63_13, go_sem, ↓reduceIte, Nat.reduceAdd, Nat.reduceSub, Nat.reduceMul, Nat.reduceEqDiff, Nat.reduceLT, Nat.reduceLeDiff, Int.reduceToNat, Int.reduceLE, Int.reduceLT, Int.reduceEq, Int.reduceNeg, reduceCtorEq]
        refine loop_ofH { j : Nat // j ≤ fl.1.length } (fun j => [(11, .int .i64 (j.1 : Int)), (8, .vec 5 va), (6, .ptr 2 0), (3, .ptr 0 0), (1, .int .i64 (i : Int))]) (fun h j => ⟨[.live 26 [.int .i64 ((fl.1.take j.1).foldl (intoK N room k) s0).t.1, .int .i64 ((fl.1.take j.1).foldl (intoK N room k) s0).t.2, .row N 2 (nestF 1 2 (fun i _ => room i) (fun i => (((fl.1.take j.1).foldl (intoK N room k) s0).sl i).length) (fun i => slI (((fl.1.take j.1).foldl (intoK N room k) s0).sl i))), .int .i64 he, .int .i64 hr], .live 23 [.int .i64 a, .int .i64 b], .live 26 [.int .i64 0, .int .i64 0, .vec 0 0, .int .i64 0, .int .i64 0]], h.vecs⟩) (fun j => fl.1.length - j.1) (fun _ => ⟨rfl, rfl⟩) ⟨0, Nat.zero_le _⟩ (by
          simp only [List.take_zero, List.foldl_nil]
          (apply sub_of <;> simp only [go_sem, ↓reduceIte, Nat.reduceAdd, Nat.reduceSub, Nat.reduceMul, Nat.reduceEqDiff, Nat.reduceLT, Nat.reduceLeDiff, Int.reduceToNat, Int.reduceLE, Int.reduceLT, Int.reduceEq, Int.reduceNeg, reduceCtorEq] <;> (try simp [catF]))
          all_goals (repeat' first | assumption | exact nestF_bd _ _ _ _ _ _ _ _ _ | exact nestF_bd1 _ _ _ _ _ _ _ _ _ | exact fun _ _ => nestF_bd1 _ _ _ _ _ _ _ _ _ | exact fun _ _ _ _ => nestF_bd1 _ _ _ _ _ _ _ _ _ | exact fun x hx => catF_one _ hx | refine And.intro ?_ ?_)
          all_goals exact fun x y hx hy => by rcases two hy with rfl | rfl <;> exact trivial) ?_
        rintro ⟨j, hj⟩
        simp only
        by_cases jk : j < fl.1.length
        · have e2 : decide ((j : Int) < (fl.1.length : Int)) = true := decide_eq_true (by omega)
          simp only [brL, e2, nestF11_0, nestF11_1, catZ, Int.toNat_natCast, getV_fL, setV_fL, getV_fI, setV_fI, getV_fP, setV_fP, snocV_fam', fam_lenV, updV_same, updV_upd, upN_same, catS1_eq, catS1_intR, catS1_slL, catS1_frz, piF_0, piF_1, piF_upd, slV, Try.f63, plusR_eq, volume_eq, p63_4, p63_5, p63_8, p63_13, go_sem, ↓reduceIte, Nat.reduceAdd, Nat.reduceSub, Nat.reduceMul, Nat.reduceEqDiff, Nat.reduceLT, Nat.reduceLeDiff, Int.reduceToNat, Int.reduceLE, Int.reduceLT, Int.reduceEq, Int.reduceNeg, reduceCtorEq]
          have hfj := hfl j
          have hup := f1.upto jk
          have F3 : (fl.1.take (j + 1)).foldl (intoK N room k) s0 = intoK N room k ((fl.1.take j).foldl (intoK N room k) s0) (slI fl.1 j 0, slI fl.1 j 1) := by rw [take_slI jk, List.foldl_append]; rfl
          have wi : IntKind.i64.wrap ((i : Int) + 1) = ((N - k : Nat) : Int) := by rw [wrap_id (by omega) (by omega)]; omega
          have hlen : fl.1.length ≤ 1048576 := by have := f1.vol; simp only at f3; omega
          have wj : IntKind.i64.wrap ((j : Int) + 1) = ((j + 1 : Nat) : Int) := by rw [wrap_id (by omega) (by omega)]; omega
          have hcall := ih (by omega) ((fl.1.take j).foldl (intoK N room k) s0) (slI fl.1 j 0) (slI fl.1 j 1) hfj.ok hup.1.1 (by have := hup.2.1; have := hup.2.2.2.1; simp only at f3; omega) hup.1.2 (by rw [hfj.heat]; have := hup.2.2.1; omega) (by have := hfj.t1.2; rw [hst] at this; have := hup.2.1; simp only at f3; omega)
          rw [wi]
          refine ⟨⟨by kernel_rfl, by kernel_rfl⟩, ⟨by omega, by omega⟩, jk, ?_⟩
          refine calls_mono ?_ (frame_calls hcall ⟨brL_bd _ _ _ _ _, trivial, by simp [Bd, BdL], trivial⟩ (fun o => o = .ret _) (fun o h' e => by subst e; exact ⟨rfl, brL_bd _ _ _ _ _⟩) _)
          rintro o h' ⟨rfl, rfl⟩
          simp only [brL, nestF11_0, nestF11_1, catZ, Int.toNat_natCast, getV_fL, setV_fL, getV_fI, setV_fI, getV_fP, setV_fP, snocV_fam', fam_lenV, updV_same, updV_upd, upN_same, catS1_eq, catS1_intR, catS1_slL, catS1_frz, piF_0, piF_1, piF_upd, slV, Try.f63, plusR_eq, volume_eq, p63_4, p63_5, p63_8, p63_13, go_sem, ↓reduceIte, Nat.reduceAdd, Nat.reduceSub, Nat.reduceMul, Nat.reduceEqDiff, Nat.reduceLT, Nat.reduceLeDiff, Int.reduceToNat, Int.reduceLE, Int.reduceLT, Int.reduceEq, Int.reduceNeg, reduceCtorEq]
          refine ⟨⟨j + 1, by omega⟩, by simp only []; omega, ?_⟩
          rw [F3]
          apply sub_of <;> simp only [wj, F3, getV_fL, setV_fL, getV_fI, setV_fI, getV_fP, setV_fP, snocV_fam', fam_lenV, updV_same, updV_upd, upN_same, catS1_eq, catS1_intR, catS1_slL, catS1_frz, piF_0, piF_1, piF_upd, slV, go_sem, ↓reduceIte, Nat.reduceAdd, Nat.reduceSub, Nat.reduceMul, Nat.reduceEqDiff, Nat.reduceLT, Nat.reduceLeDiff, Int.reduceToNat, Int.reduceLE, Int.reduceLT, Int.reduceEq, Int.reduceNeg, reduceCtorEq] <;> (try simp)
          all_goals (repeat' first | assumption | exact nestF_bd _ _ _ _ _ _ _ _ _ | exact nestF_bd1 _ _ _ _ _ _ _ _ _ | exact fun _ _ => nestF_bd1 _ _ _ _ _ _ _ _ _ | exact fun _ _ _ _ => nestF_bd1 _ _ _ _ _ _ _ _ _ | exact fun x hx => catF_one _ hx | refine And.intro ?_ ?_)
          all_goals exact fun x y hx hy => by rcases two hy with rfl | rfl <;> exact trivial
        · obtain rfl : j = fl.1.length := by omega
          have e2 : decide ((fl.1.length : Int) < (fl.1.length : Int)) = false := decide_eq_false (by omega)
          simp only [List.take_length, brL, e2, nestF11_0, nestF11_1, catZ, Int.toNat_natCast, getV_fL, setV_fL, getV_fI, setV_fI, getV_fP, setV_fP, snocV_fam', fam_lenV, updV_same, updV_upd, upN_same, catS1_eq, catS1_intR, catS1_slL, catS1_frz, piF_0, piF_1, piF_upd, slV, Try.f63, plusR_eq, volume_eq, p63_4, p63_5, p63_8, p63_13, go_sem, ↓reduceIte, Nat.reduceAdd, Nat.reduceSub, Nat.reduceMul, Nat.reduceEqDiff, Nat.reduceLT, Nat.reduceLeDiff, Int.reduceToNat, Int.reduceLE, Int.reduceLT, Int.reduceEq, Int.reduceNeg, reduceCtorEq]
      · have e1 : decide (16 < (fl.2.length : Int)) = false := decide_eq_false (by omega)
        simp only [brL, e1, nestF11_0, nestF11_1, catZ, Int.toNat_natCast, getV_fL, setV_fL, getV_fI, setV_fI, getV_fP, setV_fP, snocV_fam', fam_lenV, updV_same, updV_upd, upN_same, catS1_eq, catS1_intR, catS1_slL, catS1_frz, piF_0, piF_1, piF_upd, slV, Try.f63, plusR_eq, volume_eq, p63_4, p63_5, p63_8, p63_13, go_sem, ↓reduceIte, Nat.reduceAdd, Nat.reduceSub, Nat.reduceMul, Nat.reduceEqDiff, Nat.reduceLT, Nat.reduceLeDiff, Int.reduceToNat, Int.reduceLE, Int.reduceLT, Int.reduceEq, Int.reduceNeg, reduceCtorEq]
        have hm : mrg fl.2 = fl.2 := by rw [mrg, if_neg hl]
        rw [hm] at hs0
        unfold callS
        refine calls_mono ?_ (with_own (s := s) (room := room) (he := he) (hr := hr) (show N ≤ 1000 by omega) hi (l := fl.2) rfl rfl (fun _ _ _ _ => rfl))
        rintro o h' ⟨rfl, rfl⟩
        rw [hs0]
        simp only [brL, e1, nestF11_0, nestF11_1, catZ, Int.toNat_natCast, getV_fL, setV_fL, getV_fI, setV_fI, getV_fP, setV_fP, snocV_fam', fam_lenV, updV_same, updV_upd, upN_same, catS1_eq, catS1_intR, catS1_slL, catS1_frz, piF_0, piF_1, piF_upd, slV, Try.f63, plusR_eq, volume_eq, p63_4, p63_5, p63_8, p63_13, go_sem, ↓reduceIte, Nat.reduceAdd, Nat.reduceSub, Nat.reduceMul, Nat.reduceEqDiff, Nat.reduceLT, Nat.reduceLeDiff, Int.reduceToNat, Int.reduceLE, Int.reduceLT, Int.reduceEq, Int.reduceNeg, reduceCtorEq]
        refine loop_ofH { j : Nat // j ≤ fl.1.length } (fun j => [(11, .int .i64 (j.1 : Int)), (8, .vec 5 va), (6, .ptr 2 0), (3, .ptr 0 0), (1, .int .i64 (i : Int))]) (fun h j => ⟨[.live 26 [.int .i64 ((fl.1.take j.1).foldl (intoK N room k) s0).t.1, .int .i64 ((fl.1.take j.1).foldl (intoK N room k) s0).t.2, .row N 2 (nestF 1 2 (fun i _ => room i) (fun i => (((fl.1.take j.1).foldl (intoK N room k) s0).sl i).length) (fun i => slI (((fl.1.take j.1).foldl (intoK N room k) s0).sl i))), .int .i64 he, .int .i64 hr], .live 23 [.int .i64 a, .int .i64 b], .live 26 [.int .i64 0, .int .i64 0, .vec 0 0, .int .i64 0, .int .i64 0]], h.vecs⟩) (fun j => fl.1.length - j.1) (fun _ => ⟨rfl, rfl⟩) ⟨0, Nat.zero_le _⟩ (by
          simp only [List.take_zero, List.foldl_nil]
          (apply sub_of <;> simp only [go_sem, ↓reduceIte, Nat.reduceAdd, Nat.reduceSub, Nat.reduceMul, Nat.reduceEqDiff, Nat.reduceLT, Nat.reduceLeDiff, Int.reduceToNat, Int.reduceLE, Int.reduceLT, Int.reduceEq, Int.reduceNeg, reduceCtorEq] <;> (try simp [catF]))
          all_goals (repeat' first | assumption | exact nestF_bd _ _ _ _ _ _ _ _ _ | exact nestF_bd1 _ _ _ _ _ _ _ _ _ | exact fun _ _ => nestF_bd1 _ _ _ _ _ _ _ _ _ | exact fun _ _ _ _ => nestF_bd1 _ _ _ _ _ _ _ _ _ | exact fun x hx => catF_one _ hx | refine And.intro ?_ ?_)
          all_goals exact fun x y hx hy => by rcases two hy with rfl | rfl <;> exact trivial) ?_
        rintro ⟨j, hj⟩
        simp only
        by_cases jk : j < fl.1.length
        · have e2 : decide ((j : Int) < (fl.1.length : Int)) = true := decide_eq_true (by omega)
          simp only [brL, e2, nestF11_0, nestF11_1, catZ, Int.toNat_natCast, getV_fL, setV_fL, getV_fI, setV_fI, getV_fP, setV_fP, snocV_fam', fam_lenV, updV_same, updV_upd, upN_same, catS1_eq, catS1_intR, catS1_slL, catS1_frz, piF_0, piF_1, piF_upd, slV, Try.f63, plusR_eq, volume_eq, p63_4, p63_5, p63_8, p63_13, go_sem, ↓reduceIte, Nat.reduceAdd, Nat.reduceSub, Nat.reduceMul, Nat.reduceEqDiff, Nat.reduceLT, Nat.reduceLeDiff, Int.reduceToNat, Int.reduceLE, Int.reduceLT, Int.reduceEq, Int.reduceNeg, reduceCtorEq]
          have hfj := hfl j
          have hup := f1.upto jk
          have F3 : (fl.1.take (j + 1)).foldl (intoK N room k) s0 = intoK N room k ((fl.1.take j).foldl (intoK N room k) s0) (slI fl.1 j 0, slI fl.1 j 1) := by rw [take_slI jk, List.foldl_append]; rfl
          have wi : IntKind.i64.wrap ((i : Int) + 1) = ((N - k : Nat) : Int) := by rw [wrap_id (by omega) (by omega)]; omega
          have hlen : fl.1.length ≤ 1048576 := by have := f1.vol; simp only at f3; omega
          have wj : IntKind.i64.wrap ((j : Int) + 1) = ((j + 1 : Nat) : Int) := by rw [wrap_id (by omega) (by omega)]; omega
          have hcall := ih (by omega) ((fl.1.take j).foldl (intoK N room k) s0) (slI fl.1 j 0) (slI fl.1 j 1) hfj.ok hup.1.1 (by have := hup.2.1; have := hup.2.2.2.1; simp only at f3; omega) hup.1.2 (by rw [hfj.heat]; have := hup.2.2.1; omega) (by have := hfj.t1.2; rw [hst] at this; have := hup.2.1; simp only at f3; omega)
          rw [wi]
          refine ⟨⟨by kernel_rfl, by kernel_rfl⟩, ⟨by omega, by omega⟩, jk, ?_⟩
          refine calls_mono ?_ (frame_calls hcall ⟨brL_bd _ _ _ _ _, trivial, by simp [Bd, BdL], trivial⟩ (fun o => o = .ret _) (fun o h' e => by subst e; exact ⟨rfl, brL_bd _ _ _ _ _⟩) _)
          rintro o h' ⟨rfl, rfl⟩
          simp only [brL, nestF11_0, nestF11_1, catZ, Int.toNat_natCast, getV_fL, setV_fL, getV_fI, setV_fI, getV_fP, setV_fP, snocV_fam', fam_lenV, updV_same, updV_upd, upN_same, catS1_eq, catS1_intR, catS1_slL, catS1_frz, piF_0, piF_1, piF_upd, slV, Try.f63, plusR_eq, volume_eq, p63_4, p63_5, p63_8, p63_13, go_sem, ↓reduceIte, Nat.reduceAdd, Nat.reduceSub, Nat.reduceMul, Nat.reduceEqDiff, Nat.reduceLT, Nat.reduceLeDiff, Int.reduceToNat, Int.reduceLE, Int.reduceLT, Int.reduceEq, Int.reduceNeg, reduceCtorEq]
          refine ⟨⟨j + 1, by omega⟩, by simp only []; omega, ?_⟩
          rw [F3]
          apply sub_of <;> simp only [wj, F3, getV_fL, setV_fL, getV_fI, setV_fI, getV_fP, setV_fP, snocV_fam', fam_lenV, updV_same, updV_upd, upN_same, catS1_eq, catS1_intR, catS1_slL, catS1_frz, piF_0, piF_1, piF_upd, slV, go_sem, ↓reduceIte, Nat.reduceAdd, Nat.reduceSub, Nat.reduceMul, Nat.reduceEqDiff, Nat.reduceLT, Nat.reduceLeDiff, Int.reduceToNat, Int.reduceLE, Int.reduceLT, Int.reduceEq, Int.reduceNeg, reduceCtorEq] <;> (try simp)
          all_goals (repeat' first | assumption | exact nestF_bd _ _ _ _ _ _ _ _ _ | exact nestF_bd1 _ _ _ _ _ _ _ _ _ | exact fun _ _ => nestF_bd1 _ _ _ _ _ _ _ _ _ | exact fun _ _ _ _ => nestF_bd1 _ _ _ _ _ _ _ _ _ | exact fun x hx => catF_one _ hx | refine And.intro ?_ ?_)
          all_goals exact fun x y hx hy => by rcases two hy with rfl | rfl <;> exact trivial
        · obtain rfl : j = fl.1.length := by omega
          have e2 : decide ((fl.1.length : Int) < (fl.1.length : Int)) = false := decide_eq_false (by omega)
          simp only [List.take_length, brL, e2, nestF11_0, nestF11_1, catZ, Int.toNat_natCast, getV_fL, setV_fL, getV_fI, setV_fI, getV_fP, setV_fP, snocV_fam', fam_lenV, updV_same, updV_upd, upN_same, catS1_eq, catS1_intR, catS1_slL, catS1_frz, piF_0, piF_1, piF_upd, slV, Try.f63, plusR_eq, volume_eq, p63_4, p63_5, p63_8, p63_13, go_sem, ↓reduceIte, Nat.reduceAdd, Nat.reduceSub, Nat.reduceMul, Nat.reduceEqDiff, Nat.reduceLT, Nat.reduceLeDiff, Int.reduceToNat, Int.reduceLE, Int.reduceLT, Int.reduceEq, Int.reduceNeg, reduceCtorEq]
end Go.Eng
end

/- brine: the reference's events. -/
section
namespace Go.Eng
open Go Go.RowKit Go.Proofs
set_option maxRecDepth 100000
set_option maxHeartbeats 4000000
attribute [local irreducible] OwnT DefS
/-- A state of the reference. -/
def stS (N : Nat) (room : Nat → Int) (s : TkP) (R : Rst) : SV := .agg [.int .i64 s.t.1, .int .i64 s.t.2, .row N 2 (nestF 1 2 (fun i _ => room i) (fun i => (s.sl i).length) (fun i => slI (s.sl i))), .int .i64 R.he, .int .i64 R.hr,
  .int .i64 R.w, .int .i64 R.lv, .int .i64 R.lh, .int .i64 R.fv, .int .i64 R.fh, .int .i64 R.ch, .int .i64 R.ai, .int .i64 R.us, .int .i64 R.bo]
def DoR (N : Nat) (room : Nat → Int) (s : TkP) (R : Rst) (r : Stp) (o : Out) : Prop := o = .ret (.tup [stS N room (if r.1 = 0 then r.2.1 else s) (if r.1 = 0 then r.2.2 else R), .int .i64 r.1])
theorem use_ref {N : Nat} {room : Nat → Int} {s : TkP} {R : Rst} {H : Int} (hok : POk N room s R H) (hH : H ≤ 4398046511104) (p a q : Int) :
    CallsS Try.prog 40 [stS N room s R, .agg [.int .i64 5, .int .i64 p, .int .i64 a, .int .i64 q]] ⟨[], []⟩ (fun o _ => DoR N room s R (useM s R q) o) := by
  refine calls_of_run (C := cx [63, 65, 66] [] [(37, inBase), (62, takeRBase), (43, plusRBase), (64, volumeBase)] [(40, 1, p40_1), (40, 24, p40_24), (40, 33, p40_33), (40, 38, p40_38)] none) (cx_ok trivial ⟨in_base, takeR_base, plusR_base, volume_base, trivial⟩) rfl (g := 40) (fn := Try.f40) (fn_40) rfl 1000 ?_
  obtain ⟨p1, p2, pz, p3, p4, p5, p6, p7, p8, p9, p10, p11, p12, p13⟩ := hok
  cases hq : in3 q 0 4294967296 with
  | false =>
    have hm : useM s R q = (1, s, R) := by simp [useM, hq]
    rw [hm]
    simp only [hq, stS, Try.f40, in_eq, takeR_eq, plusR_eq, volume_eq, p40_1, p40_24, p40_33, p40_38, go_sem, ↓reduceIte, Nat.reduceAdd, Nat.reduceSub, Nat.reduceMul, Nat.reduceEqDiff, Nat.reduceLT, Nat.reduceLeDiff, Int.reduceToNat, Int.reduceLE, Int.reduceLT, Int.reduceEq, Int.reduceNeg, reduceCtorEq]
    first | exact ⟨⟨by kernel_rfl, by kernel_rfl⟩, rfl⟩ | trace_state
  | true =>
    obtain ⟨q1, q2⟩ := in3_iff.1 hq
    have hm : useM s R q = (0, s, { R with he := R.he - min q R.he, us := R.us + q, bo := R.bo + (q - min q R.he) }) := by simp [useM, hq]
    rw [hm]
    have w1 : IntKind.i64.wrap (R.us + q) = R.us + q := wrap_id (by omega) (by omega)
    have w2 : IntKind.i64.wrap (q - R.he) = q - R.he := wrap_id (by omega) (by omega)
    have w3 : IntKind.i64.wrap (R.he - q) = R.he - q := wrap_id (by omega) (by omega)
    have w4 : IntKind.i64.wrap (R.bo + max 0 (q - R.he)) = R.bo + (q - min q R.he) := by rw [wrap_id (by omega) (by omega)]; omega
    have w5 : max 0 (R.he - q) = R.he - min q R.he := by omega
    simp only [hq, w1, w2, w3, w4, w5, stS, Try.f40, in_eq, takeR_eq, plusR_eq, volume_eq, p40_1, p40_24, p40_33, p40_38, go_sem, ↓reduceIte, Nat.reduceAdd, Nat.reduceSub, Nat.reduceMul, Nat.reduceEqDiff, Nat.reduceLT, Nat.reduceLeDiff, Int.reduceToNat, Int.reduceLE, Int.reduceLT, Int.reduceEq, Int.reduceNeg, reduceCtorEq]
    first | exact ⟨⟨by kernel_rfl, by kernel_rfl⟩, rfl⟩ | trace_state
theorem chill_ref {N : Nat} {room : Nat → Int} {s : TkP} {R : Rst} {H : Int} (hok : POk N room s R H) (hH : H ≤ 4398046511104) (p a q : Int) :
    CallsS Try.prog 40 [stS N room s R, .agg [.int .i64 4, .int .i64 p, .int .i64 a, .int .i64 q]] ⟨[], []⟩ (fun o _ => DoR N room s R (chillM s R q) o) := by
  refine calls_of_run (C := cx [63, 65, 66] [] [(37, inBase), (62, takeRBase), (43, plusRBase), (64, volumeBase)] [(40, 1, p40_1), (40, 24, p40_24), (40, 33, p40_33), (40, 38, p40_38)] none) (cx_ok trivial ⟨in_base, takeR_base, plusR_base, volume_base, trivial⟩) rfl (g := 40) (fn := Try.f40) (fn_40) rfl 1000 ?_
  obtain ⟨p1, p2, pz, p3, p4, p5, p6, p7, p8, p9, p10, p11, p12, p13⟩ := hok
  cases hq : in3 q 0 4294967296 with
  | false =>
    have hm : chillM s R q = (1, s, R) := by simp [chillM, hq]
    rw [hm]
    simp only [hq, stS, Try.f40, in_eq, takeR_eq, plusR_eq, volume_eq, p40_1, p40_24, p40_33, p40_38, go_sem, ↓reduceIte, Nat.reduceAdd, Nat.reduceSub, Nat.reduceMul, Nat.reduceEqDiff, Nat.reduceLT, Nat.reduceLeDiff, Int.reduceToNat, Int.reduceLE, Int.reduceLT, Int.reduceEq, Int.reduceNeg, reduceCtorEq]
    first | exact ⟨⟨by kernel_rfl, by kernel_rfl⟩, rfl⟩ | trace_state
  | true =>
    obtain ⟨q1, q2⟩ := in3_iff.1 hq
    by_cases hs : q ≤ s.t.2
    · have hm : chillM s R q = (0, ⟨(s.t.1, s.t.2 - q), s.sl⟩, { R with he := min (R.he + q) R.hr, ch := R.ch + q, ai := R.ai + (R.he + q - min (R.he + q) R.hr) }) := by simp [chillM, hq, hs]
      rw [hm]
      have e1 : decide (s.t.2 < q) = false := decide_eq_false (by omega)
      have w1 : IntKind.i64.wrap (R.ch + q) = R.ch + q := wrap_id (by omega) (by omega)
      have w2 : IntKind.i64.wrap (R.he + q) = R.he + q := wrap_id (by omega) (by omega)
      have w3 : IntKind.i64.wrap (R.he + q - R.hr) = R.he + q - R.hr := wrap_id (by omega) (by omega)
      have w4 : IntKind.i64.wrap (R.ai + max 0 (R.he + q - R.hr)) = R.ai + (R.he + q - min (R.he + q) R.hr) := by rw [wrap_id (by omega) (by omega)]; omega
      have w5 : min R.hr (R.he + q) = min (R.he + q) R.hr := by omega
      have ht := p1.t
      have hn := p1.heat_nonneg
      have hh := p3
      simp only [TkP.heat] at hh
      have w6 : IntKind.i64.wrap (s.t.2 - q) = s.t.2 - q := wrap_id (by omega) (by omega)
      simp only [hq, e1, w1, w2, w3, w4, w5, w6, stS, Try.f40, in_eq, takeR_eq, plusR_eq, volume_eq, p40_1, p40_24, p40_33, p40_38, go_sem, ↓reduceIte, Nat.reduceAdd, Nat.reduceSub, Nat.reduceMul, Nat.reduceEqDiff, Nat.reduceLT, Nat.reduceLeDiff, Int.reduceToNat, Int.reduceLE, Int.reduceLT, Int.reduceEq, Int.reduceNeg, reduceCtorEq]
      first | exact ⟨⟨by kernel_rfl, by kernel_rfl⟩, rfl⟩ | trace_state
    · have hm : chillM s R q = (10, s, R) := by simp [chillM, hq, hs]
      rw [hm]
      have e1 : decide (s.t.2 < q) = true := decide_eq_true (by omega)
      simp only [hq, e1, stS, Try.f40, in_eq, takeR_eq, plusR_eq, volume_eq, p40_1, p40_24, p40_33, p40_38, go_sem, ↓reduceIte, Nat.reduceAdd, Nat.reduceSub, Nat.reduceMul, Nat.reduceEqDiff, Nat.reduceLT, Nat.reduceLeDiff, Int.reduceToNat, Int.reduceLE, Int.reduceLT, Int.reduceEq, Int.reduceNeg, reduceCtorEq]
      first | exact ⟨⟨by kernel_rfl, by kernel_rfl⟩, rfl⟩ | trace_state
end Go.Eng
end

/- brine: the reference's events: fill, and none. -/
section
namespace Go.Eng
open Go Go.RowKit Go.Proofs
set_option maxRecDepth 100000
set_option maxHeartbeats 4000000
attribute [local irreducible] OwnT DefS
theorem fill_ref {N : Nat} {room : Nat → Int} {s : TkP} {R : Rst} {H : Int} (hok : POk N room s R H) (hH : H ≤ 4398046511104) (p a q : Int) :
    CallsS Try.prog 40 [stS N room s R, .agg [.int .i64 3, .int .i64 p, .int .i64 a, .int .i64 q]] ⟨[], []⟩ (fun o _ => DoR N room s R (fillM s R a q) o) := by
  refine calls_of_run (C := cx [63, 65, 66] [] [(37, inBase), (62, takeRBase), (43, plusRBase), (64, volumeBase)] [(40, 1, p40_1), (40, 24, p40_24), (40, 33, p40_33), (40, 38, p40_38)] none) (cx_ok trivial ⟨in_base, takeR_base, plusR_base, volume_base, trivial⟩) rfl (g := 40) (fn := Try.f40) (fn_40) rfl 1000 ?_
  obtain ⟨p1, p2, pz, p3, p4, p5, p6, p7, p8, p9, p10, p11, p12, p13⟩ := hok
  have ht := p1.t
  have hn := p1.heat_nonneg
  have hh := p3
  simp only [TkP.heat] at hh
  cases ha : in3 a 1 1048576 with
  | false =>
    have hm : fillM s R a q = (1, s, R) := by simp [fillM, ha]
    rw [hm]
    simp only [ha, stS, Try.f40, in_eq, takeR_eq, plusR_eq, volume_eq, p40_1, p40_24, p40_33, p40_38, go_sem, ↓reduceIte, Nat.reduceAdd, Nat.reduceSub, Nat.reduceMul, Nat.reduceEqDiff, Nat.reduceLT, Nat.reduceLeDiff, Int.reduceToNat, Int.reduceLE, Int.reduceLT, Int.reduceEq, Int.reduceNeg, reduceCtorEq]
    first | exact ⟨⟨by kernel_rfl, by kernel_rfl⟩, rfl⟩ | trace_state
  | true =>
  cases hq : in3 q 0 4294967296 with
  | false =>
    have hm : fillM s R a q = (1, s, R) := by simp [fillM, ha, hq]
    rw [hm]
    simp only [ha, hq, stS, Try.f40, in_eq, takeR_eq, plusR_eq, volume_eq, p40_1, p40_24, p40_33, p40_38, go_sem, ↓reduceIte, Nat.reduceAdd, Nat.reduceSub, Nat.reduceMul, Nat.reduceEqDiff, Nat.reduceLT, Nat.reduceLeDiff, Int.reduceToNat, Int.reduceLE, Int.reduceLT, Int.reduceEq, Int.reduceNeg, reduceCtorEq]
    first | exact ⟨⟨by kernel_rfl, by kernel_rfl⟩, rfl⟩ | trace_state
  | true =>
    obtain ⟨a1, a2⟩ := in3_iff.1 ha
    obtain ⟨q1, q2⟩ := in3_iff.1 hq
    have w0 : IntKind.i64.wrap (s.t.1 + a) = s.t.1 + a := wrap_id (by omega) (by omega)
    by_cases hs : s.t.1 + a ≤ 1048576
    · have hm : fillM s R a q = (0, ⟨(s.t.1 + a, s.t.2 + q), s.sl⟩, { R with fv := R.fv + a, fh := R.fh + q }) := by simp [fillM, ha, hq, hs]
      rw [hm]
      have e1 : decide (1048576 < s.t.1 + a) = false := decide_eq_false (by omega)
      simp only [ha, hq, e1, w0, stS, Try.f40, in_eq, takeR_eq, plusR_eq, volume_eq, p40_1, p40_24, p40_33, p40_38, go_sem, ↓reduceIte, Nat.reduceAdd, Nat.reduceSub, Nat.reduceMul, Nat.reduceEqDiff, Nat.reduceLT, Nat.reduceLeDiff, Int.reduceToNat, Int.reduceLE, Int.reduceLT, Int.reduceEq, Int.reduceNeg, reduceCtorEq]
      have b1 : bg s.t.1 ∧ bg s.t.2 ∧ bg a ∧ bg q := by unfold bg; omega
      have b2 : bg R.fv ∧ bg R.fh ∧ bg a ∧ bg q := by unfold bg; omega
      exact ⟨⟨by kernel_rfl, by kernel_rfl⟩, b1, b2, rfl⟩
    · have hm : fillM s R a q = (12, s, R) := by simp [fillM, ha, hq, hs]
      rw [hm]
      have e1 : decide (1048576 < s.t.1 + a) = true := decide_eq_true (by omega)
      simp only [ha, hq, e1, w0, stS, Try.f40, in_eq, takeR_eq, plusR_eq, volume_eq, p40_1, p40_24, p40_33, p40_38, go_sem, ↓reduceIte, Nat.reduceAdd, Nat.reduceSub, Nat.reduceMul, Nat.reduceEqDiff, Nat.reduceLT, Nat.reduceLeDiff, Int.reduceToNat, Int.reduceLE, Int.reduceLT, Int.reduceEq, Int.reduceNeg, reduceCtorEq]
      first | exact ⟨⟨by kernel_rfl, by kernel_rfl⟩, rfl⟩ | trace_state
theorem none_ref {N : Nat} {room : Nat → Int} {s : TkP} {R : Rst} {H : Int} (hok : POk N room s R H) (hH : H ≤ 4398046511104) (k p a q : Int) (hk : in3 k 0 5 = false) :
    CallsS Try.prog 40 [stS N room s R, .agg [.int .i64 k, .int .i64 p, .int .i64 a, .int .i64 q]] ⟨[], []⟩ (fun o _ => DoR N room s R (doM N room s R k p a q) o) := by
  refine calls_of_run (C := cx [63, 65, 66] [] [(37, inBase), (62, takeRBase), (43, plusRBase), (64, volumeBase)] [(40, 1, p40_1), (40, 24, p40_24), (40, 33, p40_33), (40, 38, p40_38)] none) (cx_ok trivial ⟨in_base, takeR_base, plusR_base, volume_base, trivial⟩) rfl (g := 40) (fn := Try.f40) (fn_40) rfl 1000 ?_
  obtain ⟨p1, p2, pz, p3, p4, p5, p6, p7, p8, p9, p10, p11, p12, p13⟩ := hok
  have hn : ¬ (0 ≤ k ∧ k ≤ 5) := fun h => by rw [in3_iff.2 h] at hk; cases hk
  rw [doM_kind hk]
  have e0 : decide (k = 0) = false := decide_eq_false (by omega)
  have e1 : decide (k = 1) = false := decide_eq_false (by omega)
  have e2 : decide (k = 2) = false := decide_eq_false (by omega)
  have e3 : decide (k = 3) = false := decide_eq_false (by omega)
  have e4 : decide (k = 4) = false := decide_eq_false (by omega)
  have e5 : decide (k = 5) = false := decide_eq_false (by omega)
  simp only [e0, e1, e2, e3, e4, e5, stS, Try.f40, in_eq, takeR_eq, plusR_eq, volume_eq, p40_1, p40_24, p40_33, p40_38, go_sem, ↓reduceIte, Nat.reduceAdd, Nat.reduceSub, Nat.reduceMul, Nat.reduceEqDiff, Nat.reduceLT, Nat.reduceLeDiff, Int.reduceToNat, Int.reduceLE, Int.reduceLT, Int.reduceEq, Int.reduceNeg, reduceCtorEq]
  first | exact ⟨⟨by kernel_rfl, by kernel_rfl⟩, rfl⟩ | trace_state
end Go.Eng
end

/- brine: the reference's events: pump. -/
section
namespace Go.Eng
open Go Go.RowKit Go.Proofs
set_option maxRecDepth 100000
set_option maxHeartbeats 4000000
attribute [local irreducible] OwnT DefS
theorem pump_ref {N : Nat} {room : Nat → Int} (hN : N ≤ 100) (hroom : ∀ i, i < N → 0 ≤ room i ∧ room i ≤ 1048576) {s : TkP} {R : Rst} {H : Int} (hok : POk N room s R H) (hH : H ≤ 4398046511104) (p a q : Int) :
    CallsS Try.prog 40 [stS N room s R, .agg [.int .i64 0, .int .i64 p, .int .i64 a, .int .i64 q]] ⟨[], []⟩ (fun o _ => DoR N room s R (pumpM N room s R a) o) := by
  refine calls_of_run (C := cx [63, 65, 66] [] [(37, inBase), (62, takeRBase), (43, plusRBase), (64, volumeBase)] [(40, 1, p40_1), (40, 24, p40_24), (40, 33, p40_33), (40, 38, p40_38)] none) (cx_ok trivial ⟨in_base, takeR_base, plusR_base, volume_base, trivial⟩) rfl (g := 40) (fn := Try.f40) (fn_40) rfl 1000 ?_
  obtain ⟨p1, p2, pz, p3, p4, p5, p6, p7, p8, p9, p10, p11, p12, p13⟩ := hok
  have ht := p1.t
  have hn := p1.heat_nonneg
  have hh := p3
  simp only [TkP.heat] at hh
  cases ha : in3 a 1 1048576 with
  | false =>
    have hm : pumpM N room s R a = (1, s, R) := by simp [pumpM, ha]
    rw [hm]
    simp only [ha, stS, Try.f40, in_eq, takeR_eq, plusR_eq, volume_eq, p40_1, p40_24, p40_33, p40_38, go_sem, ↓reduceIte, Nat.reduceAdd, Nat.reduceSub, Nat.reduceMul, Nat.reduceEqDiff, Nat.reduceLT, Nat.reduceLeDiff, Int.reduceToNat, Int.reduceLE, Int.reduceLT, Int.reduceEq, Int.reduceNeg, reduceCtorEq]
    first | exact ⟨⟨by kernel_rfl, by kernel_rfl⟩, rfl⟩ | trace_state
  | true =>
    obtain ⟨a1, a2⟩ := in3_iff.1 ha
    by_cases hs : s.t.1 < a
    · have hm : pumpM N room s R a = (10, s, R) := by simp [pumpM, ha, hs]
      rw [hm]
      have e1 : decide (s.t.1 < a) = true := decide_eq_true hs
      simp only [ha, e1, stS, Try.f40, in_eq, takeR_eq, plusR_eq, volume_eq, p40_1, p40_24, p40_33, p40_38, go_sem, ↓reduceIte, Nat.reduceAdd, Nat.reduceSub, Nat.reduceMul, Nat.reduceEqDiff, Nat.reduceLT, Nat.reduceLeDiff, Int.reduceToNat, Int.reduceLE, Int.reduceLT, Int.reduceEq, Int.reduceNeg, reduceCtorEq]
      first | exact ⟨⟨by kernel_rfl, by kernel_rfl⟩, rfl⟩ | trace_state
    · have hm : pumpM N room s R a = (0, intoK N room N ⟨mnS s.t (tkS s.t a), s.sl⟩ (tkS s.t a), R) := by simp [pumpM, ha, hs]
      rw [hm]
      have e1 : decide (s.t.1 < a) = false := decide_eq_false hs
      simp only [ha, e1, stS, Try.f40, in_eq, takeR_eq, plusR_eq, volume_eq, p40_1, p40_24, p40_33, p40_38, go_sem, ↓reduceIte, Nat.reduceAdd, Nat.reduceSub, Nat.reduceMul, Nat.reduceEqDiff, Nat.reduceLT, Nat.reduceLeDiff, Int.reduceToNat, Int.reduceLE, Int.reduceLT, Int.reduceEq, Int.reduceNeg, reduceCtorEq]
      have tk : (tkS s.t a).1 = a ∧ 0 ≤ (tkS s.t a).2 ∧ (tkS s.t a).2 ≤ s.t.2 := by
        by_cases g : a < s.t.1
        · obtain ⟨t1, t2, t3⟩ := tkS_bd (x := s.t) (n := a) a1 ht.2 g
          exact ⟨t3, t1, t2⟩
        · have e : tkS s.t a = s.t := by unfold tkS; rw [if_neg g]
          rw [e]
          exact ⟨by omega, ht.2, Int.le_refl _⟩
      have hok2 : TkP.Ok N room ⟨mnS s.t (tkS s.t a), s.sl⟩ := ⟨by simp only [mnS]; omega, p1.ok, p1.room, p1.len⟩
      have hcall := into_ref hN hroom R.he R.hr N (Nat.le_refl N) ⟨mnS s.t (tkS s.t a), s.sl⟩ (tkS s.t a).1 (tkS s.t a).2 hok2 (by omega) (by omega) tk.2.1 (by simp only [TkP.heat, mnS]; omega) (by simp only [mnS]; omega)
      rw [Nat.sub_self] at hcall
      have pre : 1 ≤ a ∧ a ≤ s.t.1 ∧ s.t.1 ≤ 1048576 ∧ 0 ≤ s.t.2 ∧ s.t.2 ≤ 4398046511104 := by omega
      refine ⟨⟨by kernel_rfl, by kernel_rfl⟩, ⟨pre, ?_⟩, ⟨pre, ?_⟩⟩
      all_goals
        unfold callS
        refine calls_mono ?_ (frame_calls hcall ⟨brL_bd _ _ _ _ _, trivial, by simp [Bd, BdL], trivial⟩ (fun o => o = .ret _) (fun o h' e => by subst e; exact ⟨rfl, brL_bd _ _ _ _ _⟩) _)
        rintro o h' ⟨rfl, rfl⟩
        simp only [brL, stS, Try.f40, in_eq, takeR_eq, plusR_eq, volume_eq, p40_1, p40_24, p40_33, p40_38, go_sem, ↓reduceIte, Nat.reduceAdd, Nat.reduceSub, Nat.reduceMul, Nat.reduceEqDiff, Nat.reduceLT, Nat.reduceLeDiff, Int.reduceToNat, Int.reduceLE, Int.reduceLT, Int.reduceEq, Int.reduceNeg, reduceCtorEq]
        first | rfl | trace_state
end Go.Eng
end

/- brine: the reference's events: leak. -/
section
namespace Go.Eng
open Go Go.RowKit Go.Proofs
set_option maxRecDepth 100000
set_option maxHeartbeats 4000000
attribute [local irreducible] OwnT DefS
/-- flow, for slugs of others, over any memory of two slices. -/
theorem flow_at {l : List Sl} (hn : l.length ≤ 1000) (hv : OkF l) {q : Int} (h0 : 0 ≤ q) (hq : q ≤ volL l) (B : List Blk) (v0 v1 : Vc) :
    CallsS Try.prog 66 [.row l.length 2 (fun k j => .int .i64 (slI l k j)), .int .i64 q] ⟨B, [v0, v1]⟩ (fun o h' => ∃ va vb, o = .ret (.tup [.vec 4 va, .vec 5 vb]) ∧ h' = ⟨B, [v0, v1, .dead, .dead, slV va (flowM l q).1, slV vb (flowM l q).2]⟩) := by
  refine calls_mono ?_ (calls_grow (flow_calls hn hv h0 hq) ?_ ?_ _)
  · rintro o h' ⟨o0, h0', ⟨va, vb, rfl, rfl⟩, rfl, rfl⟩
    refine ⟨va, vb, rfl, ?_⟩
    simp only [appV, renC, slV_rn, appB_nil]
    rfl
  · exact ⟨fun _ _ _ _ => trivial, trivial, trivial⟩
  · rintro o h' ⟨va, vb, rfl, rfl⟩
    exact ⟨trivial, ⟨fun _ _ _ _ => trivial, fun _ _ _ _ => trivial, trivial⟩, by simp [bdO, Bd, BdL, lenV]⟩
theorem leak_ref {N : Nat} {room : Nat → Int} (hN : N ≤ 100) (hroom : ∀ i, i < N → 0 ≤ room i ∧ room i ≤ 1048576) {s : TkP} {R : Rst} {H : Int} (hok : POk N room s R H) (hH : H ≤ 4398046511104) (p a q : Int) :
    CallsS Try.prog 40 [stS N room s R, .agg [.int .i64 2, .int .i64 p, .int .i64 a, .int .i64 q]] ⟨[], []⟩ (fun o _ => DoR N room s R (leakM N s R p a) o) := by
  refine calls_of_run (C := cx [63, 65, 66] [] [(37, inBase), (62, takeRBase), (43, plusRBase), (64, volumeBase)] [(40, 1, p40_1), (40, 24, p40_24), (40, 33, p40_33), (40, 38, p40_38)] none) (cx_ok trivial ⟨in_base, takeR_base, plusR_base, volume_base, trivial⟩) rfl (g := 40) (fn := Try.f40) (fn_40) rfl 1000 ?_
  obtain ⟨p1, p2, pz, p3, p4, p5, p6, p7, p8, p9, p10, p11, p12, p13⟩ := hok
  have ht := p1.t
  have hn := p1.heat_nonneg
  have hh := p3
  simp only [TkP.heat] at hh
  have wN1 : IntKind.i64.wrap ((N : Int) - 1) = (N : Int) - 1 := wrap_id (by omega) (by omega)
  cases hp : in3 p 0 ((N : Int) - 1) with
  | false =>
    have hm : leakM N s R p a = (1, s, R) := by simp [leakM, hp]
    rw [hm]
    simp only [wN1, hp, stS, nestF11_0, nestF11_1, Int.toNat_natCast, getV_fL, setV_fL, getV_fI, setV_fI, getV_fP, setV_fP, snocV_fam', fam_lenV, updV_same, updV_upd, upN_same, catS1_eq, catS1_intR, catS1_slL, catS1_frz, piF_0, piF_1, piF_upd, slV, Try.f40, in_eq, takeR_eq, plusR_eq, volume_eq, p40_1, p40_24, p40_33, p40_38, go_sem, ↓reduceIte, Nat.reduceAdd, Nat.reduceSub, Nat.reduceMul, Nat.reduceEqDiff, Nat.reduceLT, Nat.reduceLeDiff, Int.reduceToNat, Int.reduceLE, Int.reduceLT, Int.reduceEq, Int.reduceNeg, reduceCtorEq]
    first | exact ⟨⟨by kernel_rfl, by kernel_rfl⟩, rfl⟩ | trace_state
  | true =>
  cases ha : in3 a 1 1048576 with
  | false =>
    have hm : leakM N s R p a = (1, s, R) := by simp [leakM, hp, ha]
    rw [hm]
    simp only [wN1, hp, ha, stS, nestF11_0, nestF11_1, Int.toNat_natCast, getV_fL, setV_fL, getV_fI, setV_fI, getV_fP, setV_fP, snocV_fam', fam_lenV, updV_same, updV_upd, upN_same, catS1_eq, catS1_intR, catS1_slL, catS1_frz, piF_0, piF_1, piF_upd, slV, Try.f40, in_eq, takeR_eq, plusR_eq, volume_eq, p40_1, p40_24, p40_33, p40_38, go_sem, ↓reduceIte, Nat.reduceAdd, Nat.reduceSub, Nat.reduceMul, Nat.reduceEqDiff, Nat.reduceLT, Nat.reduceLeDiff, Int.reduceToNat, Int.reduceLE, Int.reduceLT, Int.reduceEq, Int.reduceNeg, reduceCtorEq]
    first | exact ⟨⟨by kernel_rfl, by kernel_rfl⟩, rfl⟩ | trace_state
  | true =>
    obtain ⟨a1, a2⟩ := in3_iff.1 ha
    obtain ⟨pp1, pp2⟩ := in3_iff.1 hp
    obtain ⟨i, rfl⟩ : ∃ i : Nat, p = (i : Int) := ⟨p.toNat, by omega⟩
    have hi : i < N := by omega
    simp only [wN1, hp, ha, stS, nestF11_0, nestF11_1, Int.toNat_natCast, getV_fL, setV_fL, getV_fI, setV_fI, getV_fP, setV_fP, snocV_fam', fam_lenV, updV_same, updV_upd, upN_same, catS1_eq, catS1_intR, catS1_slL, catS1_frz, piF_0, piF_1, piF_upd, slV, Try.f40, in_eq, takeR_eq, plusR_eq, volume_eq, p40_1, p40_24, p40_33, p40_38, go_sem, ↓reduceIte, Nat.reduceAdd, Nat.reduceSub, Nat.reduceMul, Nat.reduceEqDiff, Nat.reduceLT, Nat.reduceLeDiff, Int.reduceToNat, Int.reduceLE, Int.reduceLT, Int.reduceEq, Int.reduceNeg, reduceCtorEq]
    have hoi := p1.ok i hi
    have hri := p1.room i hi
    have hli := p1.len i hi
    have hro := hroom i hi
    have hle := smN_le (f := fun i => heatL (s.sl i)) N i hi (fun j hj => (p1.ok j hj).heat)
    have hOF : OkF (s.sl i) := fun y hy => by
      have q1 := hoi y hy
      have q2 := hoi.mem_le hy
      have q3 : heatL (s.sl i) ≤ smN (fun i => heatL (s.sl i)) N := hle
      omega
    have hOB : OkB (slL (s.sl i).length (slI (s.sl i))) := by rw [slL_slI]; exact fun y hy => by have := hOF y hy; omega
    have hvn := hoi.vol
    simp only [slL_slI, show (smL (s.sl i)).1 = volL (s.sl i) from rfl] at hOB ⊢
    repeat' refine And.intro ?_ ?_
    all_goals first | (show planOk _ _ = true; kernel_rfl) | (show keepOk _ _ = true; kernel_rfl) | exact hOB | omega | skip
    all_goals
      refine calls_mono ?_ (flow_at (l := s.sl i) (by omega) hOF (by omega) (by omega) _ _ _)
      rintro o h' ⟨va, vb, rfl, rfl⟩
      simp only [stS, nestF11_0, nestF11_1, Int.toNat_natCast, getV_fL, setV_fL, getV_fI, setV_fI, getV_fP, setV_fP, snocV_fam', fam_lenV, updV_same, updV_upd, upN_same, catS1_eq, catS1_intR, catS1_slL, catS1_frz, piF_0, piF_1, piF_upd, slV, Try.f40, in_eq, takeR_eq, plusR_eq, volume_eq, p40_1, p40_24, p40_33, p40_38, go_sem, ↓reduceIte, Nat.reduceAdd, Nat.reduceSub, Nat.reduceMul, Nat.reduceEqDiff, Nat.reduceLT, Nat.reduceLeDiff, Int.reduceToNat, Int.reduceLE, Int.reduceLT, Int.reduceEq, Int.reduceNeg, reduceCtorEq]
      unfold callS
      refine calls_mono ?_ (with_own (s := s) (room := room) (he := R.he) (hr := R.hr) (show N ≤ 1000 by omega) hi (l := (flowM (s.sl i) (min a (volL (s.sl i)))).2) rfl rfl (fun _ _ _ _ => rfl))
      rintro o h' ⟨rfl, rfl⟩
      simp only [brL, stS, nestF11_0, nestF11_1, Int.toNat_natCast, getV_fL, setV_fL, getV_fI, setV_fI, getV_fP, setV_fP, snocV_fam', fam_lenV, updV_same, updV_upd, upN_same, catS1_eq, catS1_intR, catS1_slL, catS1_frz, piF_0, piF_1, piF_upd, slV, Try.f40, in_eq, takeR_eq, plusR_eq, volume_eq, p40_1, p40_24, p40_33, p40_38, go_sem, ↓reduceIte, Nat.reduceAdd, Nat.reduceSub, Nat.reduceMul, Nat.reduceEqDiff, Nat.reduceLT, Nat.reduceLeDiff, Int.reduceToNat, Int.reduceLE, Int.reduceLT, Int.reduceEq, Int.reduceNeg, reduceCtorEq]
      have hleak : leakM N s R (i : Int) a = (0, ⟨s.t, upL s.sl i (flowM (s.sl i) (min a (volL (s.sl i)))).2⟩, { R with lv := R.lv + (smL (flowM (s.sl i) (min a (volL (s.sl i)))).1).1, lh := R.lh + (smL (flowM (s.sl i) (min a (volL (s.sl i)))).1).2 }) := by simp [leakM, hp, ha, leakO]
      rw [hleak]
      have g1 := flowM_ok (s.sl i) (min a (volL (s.sl i))) hoi
      have g2 := flowM_vol (s.sl i) (min a (volL (s.sl i))) hoi (by omega) (by omega)
      have g3 := flowM_heat (s.sl i) (min a (volL (s.sl i)))
      have g4 := (g1.2).heat
      generalize flowM (s.sl i) (min a (volL (s.sl i))) = fl at g1 g2 g3 g4 ⊢
      first
        | (refine loop_ofH { j : Nat // j ≤ fl.1.length } (fun j => [(17, .int .i64 (j.1 : Int)), (15, .vec 4 va), (7, .ptr 4 0), (6, .ptr 3 0), (4, .ptr 2 0)]) (fun h j => ⟨setB h.blks 4 (.live 31 [.int .i64 R.w, .int .i64 (R.lv + (smL (fl.1.take j.1)).1), .int .i64 (R.lh + (smL (fl.1.take j.1)).2), .int .i64 R.fv, .int .i64 R.fh, .int .i64 R.ch, .int .i64 R.ai, .int .i64 R.us, .int .i64 R.bo]), h.vecs⟩) (fun j => fl.1.length - j.1) (fun _ => ⟨by simp only [go_sem, ↓reduceIte, Nat.reduceAdd, Nat.reduceSub, Nat.reduceMul, Nat.reduceEqDiff, Nat.reduceLT, Nat.reduceLeDiff, Int.reduceToNat, Int.reduceLE, Int.reduceLT, Int.reduceEq, Int.reduceNeg, reduceCtorEq], rfl⟩) ⟨0, Nat.zero_le _⟩ ?_ ?_
           focus
             have z1 : R.lv + (smL (fl.1.take 0)).1 = R.lv := by simp [smL]
             have z2 : R.lh + (smL (fl.1.take 0)).2 = R.lh := by simp [smL]
             apply sub_of <;> simp only [z1, z2, go_sem, ↓reduceIte, Nat.reduceAdd, Nat.reduceSub, Nat.reduceMul, Nat.reduceEqDiff, Nat.reduceLT, Nat.reduceLeDiff, Int.reduceToNat, Int.reduceLE, Int.reduceLT, Int.reduceEq, Int.reduceNeg, reduceCtorEq] <;> (try simp)
             all_goals (repeat' first | assumption | exact nestF_bd _ _ _ _ _ _ _ _ _ | exact nestF_bd1 _ _ _ _ _ _ _ _ _ | exact fun _ _ => nestF_bd1 _ _ _ _ _ _ _ _ _ | exact fun _ _ _ _ => nestF_bd1 _ _ _ _ _ _ _ _ _ | exact fun x hx => catF_one _ hx | refine And.intro ?_ ?_)
             done)
        | (refine loop_ofH { j : Nat // j ≤ fl.1.length } (fun j => [(17, .int .i64 (j.1 : Int)), (15, .vec 4 va), (7, .ptr 3 0), (6, .ptr 4 0), (4, .ptr 2 0)]) (fun h j => ⟨setB h.blks 3 (.live 31 [.int .i64 R.w, .int .i64 (R.lv + (smL (fl.1.take j.1)).1), .int .i64 (R.lh + (smL (fl.1.take j.1)).2), .int .i64 R.fv, .int .i64 R.fh, .int .i64 R.ch, .int .i64 R.ai, .int .i64 R.us, .int .i64 R.bo]), h.vecs⟩) (fun j => fl.1.length - j.1) (fun _ => ⟨by simp only [go_sem, ↓reduceIte, Nat.reduceAdd, Nat.reduceSub, Nat.reduceMul, Nat.reduceEqDiff, Nat.reduceLT, Nat.reduceLeDiff, Int.reduceToNat, Int.reduceLE, Int.reduceLT, Int.reduceEq, Int.reduceNeg, reduceCtorEq], rfl⟩) ⟨0, Nat.zero_le _⟩ ?_ ?_
           focus
             have z1 : R.lv + (smL (fl.1.take 0)).1 = R.lv := by simp [smL]
             have z2 : R.lh + (smL (fl.1.take 0)).2 = R.lh := by simp [smL]
             apply sub_of <;> simp only [z1, z2, go_sem, ↓reduceIte, Nat.reduceAdd, Nat.reduceSub, Nat.reduceMul, Nat.reduceEqDiff, Nat.reduceLT, Nat.reduceLeDiff, Int.reduceToNat, Int.reduceLE, Int.reduceLT, Int.reduceEq, Int.reduceNeg, reduceCtorEq] <;> (try simp)
             all_goals (repeat' first | assumption | exact nestF_bd _ _ _ _ _ _ _ _ _ | exact nestF_bd1 _ _ _ _ _ _ _ _ _ | exact fun _ _ => nestF_bd1 _ _ _ _ _ _ _ _ _ | exact fun _ _ _ _ => nestF_bd1 _ _ _ _ _ _ _ _ _ | exact fun x hx => catF_one _ hx | refine And.intro ?_ ?_)
             done)
        | trace_state
      all_goals
        rintro ⟨j, hj⟩
        simp only
        by_cases jk : j < fl.1.length
        · have e2 : decide ((j : Int) < (fl.1.length : Int)) = true := decide_eq_true (by omega)
          simp only [e2, stS, nestF11_0, nestF11_1, Int.toNat_natCast, getV_fL, setV_fL, getV_fI, setV_fI, getV_fP, setV_fP, snocV_fam', fam_lenV, updV_same, updV_upd, upN_same, catS1_eq, catS1_intR, catS1_slL, catS1_frz, piF_0, piF_1, piF_upd, slV, Try.f40, in_eq, takeR_eq, plusR_eq, volume_eq, p40_1, p40_24, p40_33, p40_38, go_sem, ↓reduceIte, Nat.reduceAdd, Nat.reduceSub, Nat.reduceMul, Nat.reduceEqDiff, Nat.reduceLT, Nat.reduceLeDiff, Int.reduceToNat, Int.reduceLE, Int.reduceLT, Int.reduceEq, Int.reduceNeg, reduceCtorEq]
          have hup := g1.1.upto jk
          have hj1 : (smL (fl.1.take j)).1 + slI fl.1 j 0 = (smL (fl.1.take (j + 1))).1 := by rw [take_slI jk, smL_app]; simp [smL, plS]
          have hj2 : (smL (fl.1.take j)).2 + slI fl.1 j 1 = (smL (fl.1.take (j + 1))).2 := by rw [take_slI jk, smL_app]; simp [smL, plS]
          have hvl : (fl.1.length : Int) ≤ volL fl.1 := g1.1.vol
          have wj : IntKind.i64.wrap ((j : Int) + 1) = ((j + 1 : Nat) : Int) := by rw [wrap_id (by omega) (by omega)]; omega
          have k1 : R.lv + (smL (fl.1.take j)).1 + slI fl.1 j 0 = R.lv + (smL (fl.1.take (j + 1))).1 := by omega
          have k2 : R.lh + (smL (fl.1.take j)).2 + slI fl.1 j 1 = R.lh + (smL (fl.1.take (j + 1))).2 := by omega
          refine ⟨⟨by kernel_rfl, by kernel_rfl⟩, ⟨by omega, by omega⟩, jk, ⟨by unfold bg; omega, by unfold bg; omega, by unfold bg; omega, by unfold bg; omega⟩, ⟨j + 1, by omega⟩, by simp only []; omega, ?_⟩
          apply sub_of <;> simp only [wj, k1, k2, go_sem, ↓reduceIte, Nat.reduceAdd, Nat.reduceSub, Nat.reduceMul, Nat.reduceEqDiff, Nat.reduceLT, Nat.reduceLeDiff, Int.reduceToNat, Int.reduceLE, Int.reduceLT, Int.reduceEq, Int.reduceNeg, reduceCtorEq] <;> (try simp)
          all_goals (repeat' first | assumption | exact nestF_bd _ _ _ _ _ _ _ _ _ | exact nestF_bd1 _ _ _ _ _ _ _ _ _ | exact fun _ _ => nestF_bd1 _ _ _ _ _ _ _ _ _ | exact fun _ _ _ _ => nestF_bd1 _ _ _ _ _ _ _ _ _ | exact fun x hx => catF_one _ hx | refine And.intro ?_ ?_)
        · obtain rfl : j = fl.1.length := by omega
          have e2 : decide ((fl.1.length : Int) < (fl.1.length : Int)) = false := decide_eq_false (by omega)
          simp only [List.take_length, e2, stS, nestF11_0, nestF11_1, Int.toNat_natCast, getV_fL, setV_fL, getV_fI, setV_fI, getV_fP, setV_fP, snocV_fam', fam_lenV, updV_same, updV_upd, upN_same, catS1_eq, catS1_intR, catS1_slL, catS1_frz, piF_0, piF_1, piF_upd, slV, Try.f40, in_eq, takeR_eq, plusR_eq, volume_eq, p40_1, p40_24, p40_33, p40_38, go_sem, ↓reduceIte, Nat.reduceAdd, Nat.reduceSub, Nat.reduceMul, Nat.reduceEqDiff, Nat.reduceLT, Nat.reduceLeDiff, Int.reduceToNat, Int.reduceLE, Int.reduceLT, Int.reduceEq, Int.reduceNeg, reduceCtorEq]
          first | rfl | trace_state
end Go.Eng
end

/- brine: the reference's events: warm. -/
section
namespace Go.Eng
open Go Go.RowKit Go.Proofs
set_option maxRecDepth 100000
set_option maxHeartbeats 4000000
attribute [local irreducible] OwnT DefS
/-- Slugs of which the first j have got their share, the last one too. -/
def wS (l : List Sl) (h : Int) (k : Nat) : Int := if k + 1 < l.length then wN l h k else h - smN (wN l h) (l.length - 1)
def wJ (l : List Sl) (h : Int) (j k c : Nat) : Int := if c = 1 ∧ k < j then slI l k 1 + wS l h k else slI l k c
def wL (l : List Sl) (h : Int) (j : Nat) : Int := if j < l.length then h - smN (wN l h) j else 0
theorem wJ_0 (l : List Sl) (h : Int) : wJ l h 0 = slI l := by funext k c; simp [wJ]
theorem wJ_j0 (l : List Sl) (h : Int) (j k : Nat) : wJ l h j k 0 = slI l k 0 := by simp [wJ]
theorem wJ_j1 (l : List Sl) (h : Int) (j : Nat) : wJ l h j j 1 = slI l j 1 := by simp [wJ]
theorem wJ_all {l : List Sl} {h : Int} {k c : Nat} (hk : k < l.length) (hc : c < 2) : wJ l h l.length k c = slI (warmL l h) k c := by
  rw [slI_warm hk hc]
  rcases (show c = 0 ∨ c = 1 by omega) with rfl | rfl
  · simp [wJ]
  · simp only [wJ, wS, hk, and_self, if_true]
theorem wJ_vol (l : List Sl) (h : Int) (j : Nat) : (smL (slL l.length (wJ l h j))).1 = volL l := by
  have e : ∀ n, (smL (slL n (wJ l h j))).1 = (smL (slL n (slI l))).1 := by
    intro n
    induction n with
    | zero => rfl
    | succ n ih =>
      rw [slL_succ, slL_succ, smL_app, smL_app]
      simp only [plS, smL]
      rw [ih, wJ_j0]
  rw [e, slL_slI]
  rfl
theorem wS_bd {l : List Sl} {h : Int} (ok : OkL l) (h0 : 0 ≤ h) {k : Nat} (hk : k < l.length) : 0 ≤ wS l h k ∧ wS l h k ≤ h := by
  have hl : l.length ≠ 0 := by omega
  unfold wS
  split
  · have a := (wN_sum ok h0 l.length (Nat.le_refl _)).1 k hk
    have b := wN_le ok h0 (show k ≤ l.length by omega) hl
    have c := wN_le ok h0 (show k + 1 ≤ l.length by omega) hl
    simp only [smN] at c
    omega
  · have b := wN_le ok h0 (show l.length - 1 ≤ l.length by omega) hl
    omega
theorem wJ_ok {l : List Sl} {h : Int} (ok : OkL l) (h0 : 0 ≤ h) (hv : volL l ≤ 1048576) (hh : heatL l + h ≤ 4398046511104) (j : Nat) : OkB (slL l.length (wJ l h j)) := by
  intro x hx
  simp only [slL, List.mem_map, List.mem_range] at hx
  obtain ⟨k, hk, rfl⟩ := hx
  have a := ok.upto hk
  have b := wS_bd ok h0 hk
  have d : wJ l h j k 0 = slI l k 0 := wJ_j0 l h j k
  have e : wJ l h j k 1 = slI l k 1 ∨ wJ l h j k 1 = slI l k 1 + wS l h k := by
    unfold wJ; split
    · exact .inr rfl
    · exact .inl rfl
  have hm : 0 ≤ (smL (l.take k)).1 := a.2.2.2.1
  simp only [d]
  refine ⟨by omega, ?_⟩
  rcases e with e | e <;> rw [e] <;> omega
theorem wJ_step (l : List Sl) (h : Int) (j k c : Nat) (hc : c < 2) (hjl : j < l.length) : (if k = j ∧ 1 ≤ c ∧ c < 2 then (nth [SV.int .i64 (slI l j 1 + wS l h j)] (c - 1)) else .int .i64 (wJ l h j k c)) = .int .i64 (wJ l h (j + 1) k c) := by
  rcases (show c = 0 ∨ c = 1 by omega) with rfl | rfl
  · rw [if_neg (by omega)]; simp [wJ]
  · by_cases e : k = j
    · subst e
      rw [if_pos ⟨rfl, by omega, by omega⟩]
      simp [nth, wJ]
    · rw [if_neg (by omega)]
      have e2 : (k < j + 1) = (k < j) := by apply propext; omega
      simp only [wJ, e2]
theorem warm_ref {N : Nat} {room : Nat → Int} (hN : N ≤ 100) (hroom : ∀ i, i < N → 0 ≤ room i ∧ room i ≤ 1048576) {s : TkP} {R : Rst} {H : Int} (hok : POk N room s R H) (hH : H ≤ 4393751543808) (p a q : Int) :
    CallsS Try.prog 40 [stS N room s R, .agg [.int .i64 1, .int .i64 p, .int .i64 a, .int .i64 q]] ⟨[], []⟩ (fun o _ => DoR N room s R (warmM N s R p q) o) := by
  refine calls_of_run (C := cx [63, 65, 66] [] [(37, inBase), (62, takeRBase), (43, plusRBase), (64, volumeBase)] [(40, 1, p40_1), (40, 24, p40_24), (40, 33, p40_33), (40, 38, p40_38)] none) (cx_ok trivial ⟨in_base, takeR_base, plusR_base, volume_base, trivial⟩) rfl (g := 40) (fn := Try.f40) (fn_40) rfl 1000 ?_
  obtain ⟨p1, p2, pz, p3, p4, p5, p6, p7, p8, p9, p10, p11, p12, p13⟩ := hok
  have ht := p1.t
  have hn := p1.heat_nonneg
  have hh := p3
  simp only [TkP.heat] at hh
  have wN1 : IntKind.i64.wrap ((N : Int) - 1) = (N : Int) - 1 := wrap_id (by omega) (by omega)
  cases hp : in3 p 0 ((N : Int) - 1) with
  | false =>
    have hm : warmM N s R p q = (1, s, R) := by simp [warmM, hp]
    rw [hm]
    simp only [wN1, hp, stS, nestF11_0, nestF11_1, catZ, Int.toNat_natCast, getV_fL, setV_fL, getV_fI, setV_fI, getV_fP, setV_fP, snocV_fam', fam_lenV, updV_same, updV_upd, upN_same, catS1_eq, catS1_intR, catS1_slL, catS1_frz, piF_0, piF_1, piF_upd, slV, Try.f40, in_eq, takeR_eq, plusR_eq, volume_eq, p40_1, p40_24, p40_33, p40_38, go_sem, ↓reduceIte, Nat.reduceAdd, Nat.reduceSub, Nat.reduceMul, Nat.reduceEqDiff, Nat.reduceLT, Nat.reduceLeDiff, Int.reduceToNat, Int.reduceLE, Int.reduceLT, Int.reduceEq, Int.reduceNeg, reduceCtorEq]
    first | exact ⟨⟨by kernel_rfl, by kernel_rfl⟩, rfl⟩ | trace_state
  | true =>
  cases hq : in3 q 0 4294967296 with
  | false =>
    have hm : warmM N s R p q = (1, s, R) := by simp [warmM, hp, hq]
    rw [hm]
    simp only [wN1, hp, hq, stS, nestF11_0, nestF11_1, catZ, Int.toNat_natCast, getV_fL, setV_fL, getV_fI, setV_fI, getV_fP, setV_fP, snocV_fam', fam_lenV, updV_same, updV_upd, upN_same, catS1_eq, catS1_intR, catS1_slL, catS1_frz, piF_0, piF_1, piF_upd, slV, Try.f40, in_eq, takeR_eq, plusR_eq, volume_eq, p40_1, p40_24, p40_33, p40_38, go_sem, ↓reduceIte, Nat.reduceAdd, Nat.reduceSub, Nat.reduceMul, Nat.reduceEqDiff, Nat.reduceLT, Nat.reduceLeDiff, Int.reduceToNat, Int.reduceLE, Int.reduceLT, Int.reduceEq, Int.reduceNeg, reduceCtorEq]
    first | exact ⟨⟨by kernel_rfl, by kernel_rfl⟩, rfl⟩ | trace_state
  | true =>
    obtain ⟨q1, q2⟩ := in3_iff.1 hq
    obtain ⟨pp1, pp2⟩ := in3_iff.1 hp
    obtain ⟨i, rfl⟩ : ∃ i : Nat, p = (i : Int) := ⟨p.toNat, by omega⟩
    have hi : i < N := by omega
    have hli := p1.len i hi
    by_cases hl : (s.sl i).length = 0
    · have hm : warmM N s R (i : Int) q = (6, s, R) := by simp [warmM, hp, hq, hl]
      rw [hm]
      have e1 : decide (((s.sl i).length : Int) = 0) = true := decide_eq_true (by omega)
      simp only [wN1, hp, hq, e1, stS, nestF11_0, nestF11_1, catZ, Int.toNat_natCast, getV_fL, setV_fL, getV_fI, setV_fI, getV_fP, setV_fP, snocV_fam', fam_lenV, updV_same, updV_upd, upN_same, catS1_eq, catS1_intR, catS1_slL, catS1_frz, piF_0, piF_1, piF_upd, slV, Try.f40, in_eq, takeR_eq, plusR_eq, volume_eq, p40_1, p40_24, p40_33, p40_38, go_sem, ↓reduceIte, Nat.reduceAdd, Nat.reduceSub, Nat.reduceMul, Nat.reduceEqDiff, Nat.reduceLT, Nat.reduceLeDiff, Int.reduceToNat, Int.reduceLE, Int.reduceLT, Int.reduceEq, Int.reduceNeg, reduceCtorEq]
      exact ⟨⟨by kernel_rfl, by kernel_rfl⟩, ⟨by omega, by omega⟩, ⟨by omega, by omega⟩, rfl⟩
    · have e1 : decide (((s.sl i).length : Int) = 0) = false := decide_eq_false (by omega)
      simp only [wN1, hp, hq, e1, stS, nestF11_0, nestF11_1, catZ, Int.toNat_natCast, getV_fL, setV_fL, getV_fI, setV_fI, getV_fP, setV_fP, snocV_fam', fam_lenV, updV_same, updV_upd, upN_same, catS1_eq, catS1_intR, catS1_slL, catS1_frz, piF_0, piF_1, piF_upd, slV, Try.f40, in_eq, takeR_eq, plusR_eq, volume_eq, p40_1, p40_24, p40_33, p40_38, go_sem, ↓reduceIte, Nat.reduceAdd, Nat.reduceSub, Nat.reduceMul, Nat.reduceEqDiff, Nat.reduceLT, Nat.reduceLeDiff, Int.reduceToNat, Int.reduceLE, Int.reduceLT, Int.reduceEq, Int.reduceNeg, reduceCtorEq]
      have hoi := p1.ok i hi
      have hri := p1.room i hi
      have hro := hroom i hi
      have hle := smN_le (f := fun i => heatL (s.sl i)) N i hi (fun j hj => (p1.ok j hj).heat)
      obtain ⟨m, hm1⟩ : ∃ m, (s.sl i).length = m + 1 := ⟨(s.sl i).length - 1, by omega⟩
      have hv1 := hoi.pos hl
      have wl : IntKind.i64.wrap (((s.sl i).length : Int) - 1) = (m : Int) := by rw [wrap_id (by omega) (by omega)]; omega
      have hm : warmM N s R i q = (0, ⟨s.t, upL s.sl i (warmL (s.sl i) q)⟩, { R with w := R.w + q }) := by
        simp only [warmM, hp, hq, Bool.and_self, if_true, Int.toNat_natCast, if_neg hl]
      have hwm := wN_le hoi q1 (show m ≤ (s.sl i).length by omega) hl
      rw [hm]
      repeat' refine And.intro ?_ ?_
      all_goals first | (show planOk _ _ = true; kernel_rfl) | (show keepOk _ _ = true; kernel_rfl) | omega | skip
      all_goals
        first
        | (refine loop_ofH { j : Nat // j ≤ (s.sl i).length } (fun j => [(12, .int .i64 (j.1 : Int)), (11, .int .i64 (wL (s.sl i) q j.1)), (10, .vec 2 1), (7, .ptr 4 0), (6, .ptr 3 0), (4, .ptr 2 0), (3, .ptr 1 0)]) (fun h j => ⟨h.blks, setV h.vecs 2 (.live 1 23 2 (s.sl i).length (fun k c => .int .i64 (wJ (s.sl i) q j.1 k c)))⟩) (fun j => (s.sl i).length - j.1) (fun _ => ⟨by simp only [go_sem, ↓reduceIte, Nat.reduceAdd, Nat.reduceSub, Nat.reduceMul, Nat.reduceEqDiff, Nat.reduceLT, Nat.reduceLeDiff, Int.reduceToNat, Int.reduceLE, Int.reduceLT, Int.reduceEq, Int.reduceNeg, reduceCtorEq], by simp only [go_sem, ↓reduceIte, Nat.reduceAdd, Nat.reduceSub, Nat.reduceMul, Nat.reduceEqDiff, Nat.reduceLT, Nat.reduceLeDiff, Int.reduceToNat, Int.reduceLE, Int.reduceLT, Int.reduceEq, Int.reduceNeg, reduceCtorEq]⟩) ⟨0, Nat.zero_le _⟩ ?_ ?_
           focus
             have z1 : wL (s.sl i) q 0 = q := by simp [wL, hm1, smN]
             apply sub_of <;> simp only [z1, wJ_0, go_sem, ↓reduceIte, Nat.reduceAdd, Nat.reduceSub, Nat.reduceMul, Nat.reduceEqDiff, Nat.reduceLT, Nat.reduceLeDiff, Int.reduceToNat, Int.reduceLE, Int.reduceLT, Int.reduceEq, Int.reduceNeg, reduceCtorEq] <;> (try simp)
             all_goals (repeat' first | assumption | exact nestF_bd _ _ _ _ _ _ _ _ _ | exact nestF_bd1 _ _ _ _ _ _ _ _ _ | exact fun _ _ => nestF_bd1 _ _ _ _ _ _ _ _ _ | exact fun _ _ _ _ => nestF_bd1 _ _ _ _ _ _ _ _ _ | exact fun x hx => catF_one _ hx | refine And.intro ?_ ?_)
             done)
        | (refine loop_ofH { j : Nat // j ≤ (s.sl i).length } (fun j => [(12, .int .i64 (j.1 : Int)), (11, .int .i64 (wL (s.sl i) q j.1)), (10, .vec 2 1), (7, .ptr 3 0), (6, .ptr 4 0), (4, .ptr 2 0), (3, .ptr 1 0)]) (fun h j => ⟨h.blks, setV h.vecs 2 (.live 1 23 2 (s.sl i).length (fun k c => .int .i64 (wJ (s.sl i) q j.1 k c)))⟩) (fun j => (s.sl i).length - j.1) (fun _ => ⟨by simp only [go_sem, ↓reduceIte, Nat.reduceAdd, Nat.reduceSub, Nat.reduceMul, Nat.reduceEqDiff, Nat.reduceLT, Nat.reduceLeDiff, Int.reduceToNat, Int.reduceLE, Int.reduceLT, Int.reduceEq, Int.reduceNeg, reduceCtorEq], by simp only [go_sem, ↓reduceIte, Nat.reduceAdd, Nat.reduceSub, Nat.reduceMul, Nat.reduceEqDiff, Nat.reduceLT, Nat.reduceLeDiff, Int.reduceToNat, Int.reduceLE, Int.reduceLT, Int.reduceEq, Int.reduceNeg, reduceCtorEq]⟩) ⟨0, Nat.zero_le _⟩ ?_ ?_
           focus
             have z1 : wL (s.sl i) q 0 = q := by simp [wL, hm1, smN]
             apply sub_of <;> simp only [z1, wJ_0, go_sem, ↓reduceIte, Nat.reduceAdd, Nat.reduceSub, Nat.reduceMul, Nat.reduceEqDiff, Nat.reduceLT, Nat.reduceLeDiff, Int.reduceToNat, Int.reduceLE, Int.reduceLT, Int.reduceEq, Int.reduceNeg, reduceCtorEq] <;> (try simp)
             all_goals (repeat' first | assumption | exact nestF_bd _ _ _ _ _ _ _ _ _ | exact nestF_bd1 _ _ _ _ _ _ _ _ _ | exact fun _ _ => nestF_bd1 _ _ _ _ _ _ _ _ _ | exact fun _ _ _ _ => nestF_bd1 _ _ _ _ _ _ _ _ _ | exact fun x hx => catF_one _ hx | refine And.intro ?_ ?_)
             done)
      all_goals
        rintro ⟨j, hj⟩
        simp only
        by_cases jk : j < (s.sl i).length
        · have e2 : decide ((j : Int) < ((s.sl i).length : Int)) = true := decide_eq_true (by omega)
          by_cases jm : j < m
          · have e3 : decide ((j : Int) < (m : Int)) = true := decide_eq_true (by omega)
            simp only [e2, e3, wN1, hp, hq, e1, stS, nestF11_0, nestF11_1, catZ, Int.toNat_natCast, wJ_j0, wJ_j1, wJ_vol, wl, getV_fL, setV_fL, getV_fI, setV_fI, getV_fP, setV_fP, snocV_fam', fam_lenV, updV_same, updV_upd, upN_same, catS1_eq, catS1_intR, catS1_slL, catS1_frz, piF_0, piF_1, piF_upd, slV, Try.f40, in_eq, takeR_eq, plusR_eq, volume_eq, p40_1, p40_24, p40_33, p40_38, go_sem, ↓reduceIte, Nat.reduceAdd, Nat.reduceSub, Nat.reduceMul, Nat.reduceEqDiff, Nat.reduceLT, Nat.reduceLeDiff, Int.reduceToNat, Int.reduceLE, Int.reduceLT, Int.reduceEq, Int.reduceNeg, reduceCtorEq]
            have hju := hoi.upto jk
            have hjb := wS_bd hoi q1 jk
            have wj : IntKind.i64.wrap ((j : Int) + 1) = ((j + 1 : Nat) : Int) := by rw [wrap_id (by omega) (by omega)]; omega
            have w4 : IntKind.i64.wrap (slI (s.sl i) j 1 + wS (s.sl i) q j) = slI (s.sl i) j 1 + wS (s.sl i) q j := wrap_id (by omega) (by omega)
            have hws : wS (s.sl i) q j = wN (s.sl i) q j := by simp only [wS]; rw [if_pos (by omega)]
            have hb := mul_bd (h := q) (n := slI (s.sl i) j 0) ⟨by omega, by omega⟩ ⟨by omega, by omega⟩
            have e5 : IntKind.i64.wrap (q * slI (s.sl i) j 0) = q * slI (s.sl i) j 0 := wrap_id (by omega) (by omega)
            have e6 : (q * slI (s.sl i) j 0).tdiv (volL (s.sl i)) = wS (s.sl i) q j := by rw [hws]; rfl
            have e7 : IntKind.i64.wrap (wS (s.sl i) q j) = wS (s.sl i) q j := wrap_id (by omega) (by omega)
            have hwj := wN_le hoi q1 (show j ≤ (s.sl i).length by omega) hl
            have e8 : IntKind.i64.wrap (wL (s.sl i) q j - wS (s.sl i) q j) = wL (s.sl i) q (j + 1) := by
              simp only [wL]; rw [if_pos jk, if_pos (by omega), hws]; simp only [smN]; rw [← hws, wrap_id (by omega) (by omega)]; omega
            refine ⟨⟨by kernel_rfl, by kernel_rfl⟩, ⟨by omega, by omega⟩, jk, ⟨by omega, wJ_ok hoi q1 (by omega) (by omega) j⟩, ⟨⟨by omega, by omega⟩, jk⟩, by omega, ⟨by omega, by omega⟩, jk, ⟨by omega, by omega⟩, jk, ⟨j + 1, by omega⟩, by simp only []; omega, ?_⟩
            apply sub_of <;> simp only [wj, e5, e6, e7, e8, w4, go_sem, ↓reduceIte, Nat.reduceAdd, Nat.reduceSub, Nat.reduceMul, Nat.reduceEqDiff, Nat.reduceLT, Nat.reduceLeDiff, Int.reduceToNat, Int.reduceLE, Int.reduceLT, Int.reduceEq, Int.reduceNeg, reduceCtorEq] <;> (try simp)
            all_goals (repeat' first | assumption | exact nestF_bd _ _ _ _ _ _ _ _ _ | exact nestF_bd1 _ _ _ _ _ _ _ _ _ | exact fun _ _ => nestF_bd1 _ _ _ _ _ _ _ _ _ | exact fun _ _ _ _ => nestF_bd1 _ _ _ _ _ _ _ _ _ | exact fun x hx => catF_one _ hx | refine And.intro ?_ ?_)
            all_goals first | (intro a b ha hb; exact wJ_step (s.sl i) q j a b hb jk) | trace_state
          · have e3 : decide ((j : Int) < (m : Int)) = false := decide_eq_false (by omega)
            simp only [e2, e3, wN1, hp, hq, e1, stS, nestF11_0, nestF11_1, catZ, Int.toNat_natCast, wJ_j0, wJ_j1, wJ_vol, wl, getV_fL, setV_fL, getV_fI, setV_fI, getV_fP, setV_fP, snocV_fam', fam_lenV, updV_same, updV_upd, upN_same, catS1_eq, catS1_intR, catS1_slL, catS1_frz, piF_0, piF_1, piF_upd, slV, Try.f40, in_eq, takeR_eq, plusR_eq, volume_eq, p40_1, p40_24, p40_33, p40_38, go_sem, ↓reduceIte, Nat.reduceAdd, Nat.reduceSub, Nat.reduceMul, Nat.reduceEqDiff, Nat.reduceLT, Nat.reduceLeDiff, Int.reduceToNat, Int.reduceLE, Int.reduceLT, Int.reduceEq, Int.reduceNeg, reduceCtorEq]
            obtain rfl : j = m := by omega
            have hju := hoi.upto jk
            have hjb := wS_bd hoi q1 jk
            have wj : IntKind.i64.wrap ((j : Int) + 1) = ((j + 1 : Nat) : Int) := by rw [wrap_id (by omega) (by omega)]; omega
            have w4 : IntKind.i64.wrap (slI (s.sl i) j 1 + wS (s.sl i) q j) = slI (s.sl i) j 1 + wS (s.sl i) q j := wrap_id (by omega) (by omega)
            have hws : wL (s.sl i) q j = wS (s.sl i) q j := by simp only [wS, wL]; rw [if_pos jk, if_neg (by omega), hm1]; rfl
            have hz : wL (s.sl i) q (j + 1) = 0 := by simp only [wL]; rw [if_neg (by omega)]
            have e8 : IntKind.i64.wrap (0 : Int) = 0 := by rfl
            refine ⟨⟨by omega, by omega⟩, jk, ⟨by omega, by omega⟩, jk, ⟨j + 1, by omega⟩, by simp only []; omega, ?_⟩
            apply sub_of <;> simp only [wj, hws, hz, Int.sub_self, e8, w4, go_sem, ↓reduceIte, Nat.reduceAdd, Nat.reduceSub, Nat.reduceMul, Nat.reduceEqDiff, Nat.reduceLT, Nat.reduceLeDiff, Int.reduceToNat, Int.reduceLE, Int.reduceLT, Int.reduceEq, Int.reduceNeg, reduceCtorEq] <;> (try simp)
            all_goals (repeat' first | assumption | exact nestF_bd _ _ _ _ _ _ _ _ _ | exact nestF_bd1 _ _ _ _ _ _ _ _ _ | exact fun _ _ => nestF_bd1 _ _ _ _ _ _ _ _ _ | exact fun _ _ _ _ => nestF_bd1 _ _ _ _ _ _ _ _ _ | exact fun x hx => catF_one _ hx | refine And.intro ?_ ?_)
            all_goals first | (intro a b ha hb; exact wJ_step (s.sl i) q j a b hb jk) | trace_state
        · obtain rfl : j = (s.sl i).length := by omega
          have e2 : decide (((s.sl i).length : Int) < ((s.sl i).length : Int)) = false := decide_eq_false (by omega)
          simp only [e2, wN1, hp, hq, e1, stS, nestF11_0, nestF11_1, catZ, Int.toNat_natCast, wJ_j0, wJ_j1, wJ_vol, wl, getV_fL, setV_fL, getV_fI, setV_fI, getV_fP, setV_fP, snocV_fam', fam_lenV, updV_same, updV_upd, upN_same, catS1_eq, catS1_intR, catS1_slL, catS1_frz, piF_0, piF_1, piF_upd, slV, Try.f40, in_eq, takeR_eq, plusR_eq, volume_eq, p40_1, p40_24, p40_33, p40_38, go_sem, ↓reduceIte, Nat.reduceAdd, Nat.reduceSub, Nat.reduceMul, Nat.reduceEqDiff, Nat.reduceLT, Nat.reduceLeDiff, Int.reduceToNat, Int.reduceLE, Int.reduceLT, Int.reduceEq, Int.reduceNeg, reduceCtorEq]
          unfold callS
          refine calls_mono ?_ (with_own (s := s) (room := room) (he := R.he) (hr := R.hr) (show N ≤ 1000 by omega) hi (l := warmL (s.sl i) q) (warmL_len _ _).symm rfl (fun i' j' hi' hj' => by rw [wJ_all hi' hj']))
          rintro o h' ⟨rfl, rfl⟩
          have w9 : IntKind.i64.wrap (R.w + q) = R.w + q := wrap_id (by omega) (by omega)
          simp only [brL, w9, stS, nestF11_0, nestF11_1, catZ, Int.toNat_natCast, getV_fL, setV_fL, getV_fI, setV_fI, getV_fP, setV_fP, snocV_fam', fam_lenV, updV_same, updV_upd, upN_same, catS1_eq, catS1_intR, catS1_slL, catS1_frz, piF_0, piF_1, piF_upd, slV, Try.f40, in_eq, takeR_eq, plusR_eq, volume_eq, p40_1, p40_24, p40_33, p40_38, go_sem, ↓reduceIte, Nat.reduceAdd, Nat.reduceSub, Nat.reduceMul, Nat.reduceEqDiff, Nat.reduceLT, Nat.reduceLeDiff, Int.reduceToNat, Int.reduceLE, Int.reduceLT, Int.reduceEq, Int.reduceNeg, reduceCtorEq]
          first | rfl | trace_state
end Go.Eng
end

/- brine: the reference's events, and all of them. -/
section
namespace Go.Eng
open Go Go.RowKit Go.Proofs
set_option maxRecDepth 100000
set_option maxHeartbeats 4000000
attribute [local irreducible] OwnT DefS
theorem do_ref {N : Nat} {room : Nat → Int} (hN : N ≤ 100) (hroom : ∀ i, i < N → 0 ≤ room i ∧ room i ≤ 1048576) {s : TkP} {R : Rst} {H : Int} (hok : POk N room s R H) (hH : H ≤ 4393751543808) (k p a q : Int) :
    CallsS Try.prog 40 [stS N room s R, .agg [.int .i64 k, .int .i64 p, .int .i64 a, .int .i64 q]] ⟨[], []⟩ (fun o _ => DoR N room s R (doM N room s R k p a q) o) := by
  have hH' : H ≤ 4398046511104 := by omega
  cases hk : in3 k 0 5 with
  | false => exact none_ref hok hH' k p a q hk
  | true =>
    obtain ⟨k1, k2⟩ := in3_iff.1 hk
    have hk6 : k = 0 ∨ k = 1 ∨ k = 2 ∨ k = 3 ∨ k = 4 ∨ k = 5 := by omega
    rcases hk6 with rfl | rfl | rfl | rfl | rfl | rfl
    · exact pump_ref hN hroom hok hH' p a q
    · exact warm_ref hN hroom hok hH p a q
    · exact leak_ref hN hroom hok hH' p a q
    · exact fill_ref hok hH' p a q
    · exact chill_ref hok hH' p a q
    · exact use_ref hok hH' p a q
def stC (N : Nat) (room : Nat → Int) (s : TkP) (R : Rst) : List SV := [.int .i64 s.t.1, .int .i64 s.t.2, .row N 2 (nestF 1 2 (fun i _ => room i) (fun i => (s.sl i).length) (fun i => slI (s.sl i))), .int .i64 R.he, .int .i64 R.hr,
  .int .i64 R.w, .int .i64 R.lv, .int .i64 R.lh, .int .i64 R.fv, .int .i64 R.fh, .int .i64 R.ch, .int .i64 R.ai, .int .i64 R.us, .int .i64 R.bo]
theorem stS_bd (N : Nat) (room : Nat → Int) (s : TkP) (R : Rst) : Bd 0 0 (stS N room s R) := by
  simp only [stS, Bd, BdL, and_self, and_true, true_and, implies_true]
  exact nestF_bd _ _ _ _ _ _ _ _ _
theorem s00_can (s : TkP) : s00 s.t.1 s.t.2 (fun i => (s.sl i).length) (fun i => slI (s.sl i)) = s := by
  cases s with
  | mk t sl =>
    simp only [s00, slL_slI]
def PlRK (n : Nat) (A : Nat → Nat → Int) (r : PlR) (o : Out) (h' : HS) : Prop := ∃ u, o = .ret u ∧ Bd 0 0 (frzT h' u) ∧ SameD (frzT h' u) (plS1 n A r)
theorem plrk_no {n : Nat} {A : Nat → Nat → Int} {r : PlR} {h' : HS} (h0 : r.e ≠ 0) {k ty : Nat} {f : Nat → Nat → SV} (hk : getV h'.vecs k = .live 0 ty 2 0 f) {o : Out} (ho : o = .ret (.tup [.agg [.int .i64 0, .int .i64 0, .vec k 0, .int .i64 0, .int .i64 0], .agg [.int .i64 0, .int .i64 0, .int .i64 0, .int .i64 0, .int .i64 0, .int .i64 0, .int .i64 0, .int .i64 0, .int .i64 0], .int .i64 (r.n : Int), .int .i64 r.e])) : PlRK n A r o h' := by
  refine ⟨_, ho, ?_⟩
  rw [plS1_no h0]
  simp only [frzT, frzA, frzV, hk, go_sem, ↓reduceIte, Nat.reduceAdd, Nat.reduceSub, Nat.reduceMul, Nat.reduceEqDiff, Nat.reduceLT, Nat.reduceLeDiff, Int.reduceToNat, Int.reduceLE, Int.reduceLT, Int.reduceEq, Int.reduceNeg, reduceCtorEq]
  exact ⟨fun _ _ hi _ => absurd hi (Nat.not_lt_zero _), SameD.tup ⟨SameD.agg ⟨SameD.rfl' _, SameD.rfl' _, SameD.row0, SameD.rfl' _, SameD.rfl' _, trivial⟩, SameD.rfl' _, SameD.rfl' _, SameD.rfl' _, trivial⟩⟩
theorem playR_can {N : Nat} {room : Nat → Int} {s : TkP} {he hr : Int} (hN : N ≤ 1000) (hM : ∀ i, i < N → (s.sl i).length ≤ 1000) {m : Nat} (hm : m ≤ 1000000) (x : Nat → Nat → Int) :
    CallsS Try.prog 20 [brL N room s he hr, .row m 4 (fun i j => .int .i64 (x i j))] ⟨[], []⟩ (PlRK N (fun i _ => room i) (plA s.t.1 s.t.2 N (fun i _ => room i) (fun i => (s.sl i).length) (fun i => slI (s.sl i)) he hr m x)) := by
  refine calls_of_run (C := cx [40] [] [(15, BrineRBase)] [(20, 9, p20_9), (20, 13, p20_13)] none) (cx_ok trivial ⟨BrineR_base, trivial⟩) rfl (g := 20) (fn := Try.f20) (fn_20) rfl 1000 ?_
  have hM' : ∀ i, i < N → (s.sl i).length ≤ 1000000 := fun i hi => by have := hM i hi; omega
  cases hok : okBr s.t.1 s.t.2 N (fun i _ => room i) (fun i => (s.sl i).length) (fun i => slI (s.sl i)) he hr with
  | false =>
    simp only [brL, hok, okBr_ns, Try.f20, BrineR_eq, nestR_lit, nsM_lit, nsV_lit, p20_9, p20_13, go_sem, ↓reduceIte, Nat.reduceAdd, Nat.reduceSub, Nat.reduceMul, Nat.reduceEqDiff, Nat.reduceLT, Nat.reduceLeDiff, Int.reduceToNat, Int.reduceLE, Int.reduceLT, Int.reduceEq, Int.reduceNeg, reduceCtorEq]
    have hp : plA s.t.1 s.t.2 N (fun i _ => room i) (fun i => (s.sl i).length) (fun i => slI (s.sl i)) he hr m x = ⟨1, 0, s, R00 he hr⟩ := by simp [plA, hok, s00_can]
    rw [hp]
    exact ⟨⟨by omega, hM'⟩, plrk_no (by simp only []; omega) rfl rfl⟩
  | true =>
    by_cases hm2 : 256 < m
    · have hd : decide (256 < (m : Int)) = true := decide_eq_true (by omega)
      simp only [brL, hok, hd, okBr_ns, Try.f20, BrineR_eq, nestR_lit, nsM_lit, nsV_lit, p20_9, p20_13, go_sem, ↓reduceIte, Nat.reduceAdd, Nat.reduceSub, Nat.reduceMul, Nat.reduceEqDiff, Nat.reduceLT, Nat.reduceLeDiff, Int.reduceToNat, Int.reduceLE, Int.reduceLT, Int.reduceEq, Int.reduceNeg, reduceCtorEq]
      have hp : plA s.t.1 s.t.2 N (fun i _ => room i) (fun i => (s.sl i).length) (fun i => slI (s.sl i)) he hr m x = ⟨3, 0, s, R00 he hr⟩ := by simp [plA, hok, s00_can, hm2]
      rw [hp]
      exact ⟨⟨by omega, hM'⟩, plrk_no (by simp only []; omega) rfl rfl⟩
    · have hd : decide (256 < (m : Int)) = false := decide_eq_false (by omega)
      simp only [brL, hok, hd, okBr_ns, Try.f20, BrineR_eq, nestR_lit, nsM_lit, nsV_lit, p20_9, p20_13, go_sem, ↓reduceIte, Nat.reduceAdd, Nat.reduceSub, Nat.reduceMul, Nat.reduceEqDiff, Nat.reduceLT, Nat.reduceLeDiff, Int.reduceToNat, Int.reduceLE, Int.reduceLT, Int.reduceEq, Int.reduceNeg, reduceCtorEq]
      refine ⟨⟨by omega, hM'⟩, ?_⟩
      obtain ⟨hst, hroom, hn8, _⟩ := okBr_start hok
      have hA : plA s.t.1 s.t.2 N (fun i _ => room i) (fun i => (s.sl i).length) (fun i => slI (s.sl i)) he hr m x = plM N room s (R00 he hr) x m := by simp [plA, hok, hm2, s00_can]
      rw [hA]
      rw [s00_can] at hst
      have hfine := plM_fine hroom x hst
      have hstep := fun j => @plM_s N room s (R00 he hr) x j
      have hend := fun j => @plM_end N room s (R00 he hr) x j
      have hP0 : plM N room s (R00 he hr) x 0 = ⟨0, 0, s, R00 he hr⟩ := rfl
      generalize plM N room s (R00 he hr) x = P at hfine hstep hend hP0 ⊢
      refine loop_ofH { j : Nat // j ≤ m ∧ (P j).e = 0 } (fun j => [(9, .int .i64 (j.1 : Int)), (8, .ptr 3 0), (5, .ptr 2 0), (4, .ptr 1 0), (1, .row m 4 (fun i j => .int .i64 (x i j)))])
        (fun h j => ⟨setB h.blks 3 (.live 79 (stC N room (P j.1).s (P j.1).R)), h.vecs⟩) (fun j => m - j.1) (fun _ => ⟨by simp only [go_sem, ↓reduceIte, Nat.reduceAdd, Nat.reduceSub, Nat.reduceMul, Nat.reduceEqDiff, Nat.reduceLT, Nat.reduceLeDiff, Int.reduceToNat, Int.reduceLE, Int.reduceLT, Int.reduceEq, Int.reduceNeg, reduceCtorEq], by simp only [go_sem, ↓reduceIte, Nat.reduceAdd, Nat.reduceSub, Nat.reduceMul, Nat.reduceEqDiff, Nat.reduceLT, Nat.reduceLeDiff, Int.reduceToNat, Int.reduceLE, Int.reduceLT, Int.reduceEq, Int.reduceNeg, reduceCtorEq]⟩) ⟨0, by omega, by rw [hP0]⟩ ?_ ?_
      · apply sub_of <;> simp only [hP0, stC, R00, go_sem, ↓reduceIte, Nat.reduceAdd, Nat.reduceSub, Nat.reduceMul, Nat.reduceEqDiff, Nat.reduceLT, Nat.reduceLeDiff, Int.reduceToNat, Int.reduceLE, Int.reduceLT, Int.reduceEq, Int.reduceNeg, reduceCtorEq] <;> (try simp)
        all_goals (repeat' first | assumption | exact nestF_bd _ _ _ _ _ _ _ _ _ | exact nestF_bd1 _ _ _ _ _ _ _ _ _ | exact fun _ _ => nestF_bd1 _ _ _ _ _ _ _ _ _ | exact fun _ _ _ _ => nestF_bd1 _ _ _ _ _ _ _ _ _ | exact fun x hx => catF_one _ hx | refine And.intro ?_ ?_)
        all_goals trace_state
      · rintro ⟨j, hj, hje⟩
        simp only at hj hje ⊢
        obtain ⟨hPj, hnj⟩ := hfine j
        have hnj := hnj hje
        by_cases hjm : j < m
        · have hd2 : decide ((j : Int) < (m : Int)) = true := decide_eq_true (by omega)
          have hst1 := hstep j hje
          have hcall := do_ref (show N ≤ 100 by omega) hroom hPj (show 1099511627776 + 8589934592 * (j : Int) ≤ 4393751543808 by omega) (x j 0) (x j 1) (x j 2) (x j 3)
          generalize doM N room (P j).s (P j).R (x j 0) (x j 1) (x j 2) (x j 3) = r at hst1 hcall
          simp only [hd2, stC, Int.toNat_natCast, Try.f20, p20_9, p20_13, go_sem, ↓reduceIte, Nat.reduceAdd, Nat.reduceSub, Nat.reduceMul, Nat.reduceEqDiff, Nat.reduceLT, Nat.reduceLeDiff, Int.reduceToNat, Int.reduceLE, Int.reduceLT, Int.reduceEq, Int.reduceNeg, reduceCtorEq]
          refine ⟨⟨by kernel_rfl, by kernel_rfl⟩, ⟨by omega, by omega⟩, ?_, ⟨by omega, by omega⟩, ?_⟩
          all_goals
            refine calls_mono ?_ (frame_calls hcall ⟨stS_bd _ _ _ _, by simp [Bd, BdL], trivial⟩ (fun o => DoR N room (P j).s (P j).R r o) (fun o h' e => by subst e; exact ⟨rfl, ⟨stS_bd _ _ _ _, trivial, trivial⟩⟩) _)
            rintro o h' ⟨rfl, rfl⟩
            by_cases q1 : r.1 = 0
            · have hP1 : P (j + 1) = ⟨0, j + 1, r.2.1, r.2.2⟩ := by rw [hst1, stepR, if_pos q1]
              have d1 : decide (r.1 = 0) = true := decide_eq_true q1
              simp only [q1, d1, if_true, stS, Int.toNat_natCast, Try.f20, p20_9, p20_13, go_sem, ↓reduceIte, Nat.reduceAdd, Nat.reduceSub, Nat.reduceMul, Nat.reduceEqDiff, Nat.reduceLT, Nat.reduceLeDiff, Int.reduceToNat, Int.reduceLE, Int.reduceLT, Int.reduceEq, Int.reduceNeg, reduceCtorEq]
              refine ⟨⟨j + 1, by omega, by rw [hP1]⟩, by simp only []; omega, ?_⟩
              apply sub_of <;> simp only [hP1, wrap_s hjm hm, stC, go_sem, ↓reduceIte, Nat.reduceAdd, Nat.reduceSub, Nat.reduceMul, Nat.reduceEqDiff, Nat.reduceLT, Nat.reduceLeDiff, Int.reduceToNat, Int.reduceLE, Int.reduceLT, Int.reduceEq, Int.reduceNeg, reduceCtorEq] <;> (try simp)
              all_goals (repeat' first | assumption | exact nestF_bd _ _ _ _ _ _ _ _ _ | exact nestF_bd1 _ _ _ _ _ _ _ _ _ | exact fun _ _ => nestF_bd1 _ _ _ _ _ _ _ _ _ | exact fun _ _ _ _ => nestF_bd1 _ _ _ _ _ _ _ _ _ | exact fun x hx => catF_one _ hx | refine And.intro ?_ ?_)
              all_goals trace_state
            · have hPm : P m = ⟨r.1, j, (P j).s, (P j).R⟩ := by
                have e : P (j + 1) = ⟨r.1, j, (P j).s, (P j).R⟩ := by rw [hst1, stepR, if_neg q1]
                rw [hend (j + 1) (by rw [e]; exact q1) m (by omega), e]
              have d1 : decide (r.1 = 0) = false := decide_eq_false q1
              simp only [d1, if_neg q1, stS, Int.toNat_natCast, Try.f20, p20_9, p20_13, go_sem, ↓reduceIte, Nat.reduceAdd, Nat.reduceSub, Nat.reduceMul, Nat.reduceEqDiff, Nat.reduceLT, Nat.reduceLeDiff, Int.reduceToNat, Int.reduceLE, Int.reduceLT, Int.reduceEq, Int.reduceNeg, reduceCtorEq]
              rw [hPm]
              first | exact plrk_no q1 rfl rfl | trace_state
        · have hd2 : decide ((j : Int) < (m : Int)) = false := decide_eq_false (by omega)
          obtain rfl : j = m := by omega
          simp only [hd2, stC, Int.toNat_natCast, Try.f20, p20_9, p20_13, go_sem, ↓reduceIte, Nat.reduceAdd, Nat.reduceSub, Nat.reduceMul, Nat.reduceEqDiff, Nat.reduceLT, Nat.reduceLeDiff, Int.reduceToNat, Int.reduceLE, Int.reduceLT, Int.reduceEq, Int.reduceNeg, reduceCtorEq]
          refine ⟨⟨by kernel_rfl, by kernel_rfl⟩, _, rfl, ?_⟩
          rw [plS1_ok hje, hnj]
          simp only [frzT, frzA, go_sem, ↓reduceIte, Nat.reduceAdd, Nat.reduceSub, Nat.reduceMul, Nat.reduceEqDiff, Nat.reduceLT, Nat.reduceLeDiff, Int.reduceToNat, Int.reduceLE, Int.reduceLT, Int.reduceEq, Int.reduceNeg, reduceCtorEq]
          exact ⟨nestF_bd _ _ _ _ _ _ _ _ _, SameD.rfl' _⟩
end Go.Eng
end

/- brine: the reference's Play as a contract; Play and Total are the document's. -/
section
namespace Go.Eng
open Go Go.RowKit Go.Proofs
set_option maxRecDepth 100000
set_option maxHeartbeats 4000000
attribute [local irreducible] OwnT DefS
theorem allU_cg {p q : Nat → Bool} : ∀ {n : Nat}, (∀ i, i < n → p i = q i) → allU p n = allU q n
  | 0, _ => rfl
  | n + 1, h => by simp only [allU]; rw [allU_cg (fun i hi => h i (by omega)), h n (Nat.lt_succ_self n)]
theorem okPp_can (r : Int) (m : Nat) (v : Nat → Nat → Int) : okPp r (slL m v).length (slI (slL m v)) = okPp r m v := by
  have e := slL_slI (slL m v)
  rw [slL_len] at e
  simp only [okPp, e, slL_len]
  congr 3
  exact allU_cg fun i hi => by rw [slI_slL hi (by omega), slI_slL hi (by omega)]
theorem okBr_can {tv th : Int} {n : Nat} {A : Nat → Nat → Int} {M : Nat → Nat} {V : Nat → Nat → Nat → Int} {he hr : Int} : okBr tv th n (fun i _ => A i 0) (fun i => (slL (M i) (V i)).length) (fun i => slI (slL (M i) (V i))) he hr = okBr tv th n A M V he hr := by
  simp only [okBr, okPp_can]
theorem plA_can {tv th : Int} {n : Nat} {A : Nat → Nat → Int} {M : Nat → Nat} {V : Nat → Nat → Nat → Int} {he hr : Int} {m : Nat} {x : Nat → Nat → Int} : plA tv th n (fun i _ => A i 0) (fun i => (slL (M i) (V i)).length) (fun i => slI (slL (M i) (V i))) he hr m x = plA tv th n A M V he hr m x := by
  simp only [plA, okBr_can, s00, slL_slI]
theorem playR_calls {n : Nat} (hn : n ≤ 1000) (A : Nat → Nat → Int) (M : Nat → Nat) (V : Nat → Nat → Nat → Int) (hM : ∀ i, i < n → M i ≤ 1000) (tv th he hr : Int) {m : Nat} (hm : m ≤ 1000000) (x : Nat → Nat → Int) :
    CallsS Try.prog 20 [brS tv th (.row n 2 (nestF 1 2 A M V)) he hr, .row m 4 (fun i j => .int .i64 (x i j))] ⟨[], []⟩ (PlRK n A (plA tv th n A M V he hr m x)) := by
  have h := playR_can (N := n) (room := fun i => A i 0) (s := s00 tv th M V) (he := he) (hr := hr) hn (fun i hi => by simp only [s00, slL_len]; exact hM i hi) hm x
  simp only [s00, plA_can] at h
  simp only [brL] at h
  refine calls_mono (fun o h' hk => hk) (calls_congr (args' := [.agg [.int .i64 tv, .int .i64 th, .row n 2 (nestF 1 2 (fun i _ => A i 0) (fun i => (slL (M i) (V i)).length) (fun i => slI (slL (M i) (V i)))), .int .i64 he, .int .i64 hr], .row m 4 (fun i j => .int .i64 (x i j))]) ⟨?_, SameD.rfl' _, trivial⟩ h)
  · unfold brS
    refine SameD.agg ⟨SameD.rfl' _, SameD.rfl' _, SameD.rowD fun i j hi hj => ?_, SameD.rfl' _, SameD.rfl' _, trivial⟩
    rcases (show j = 0 ∨ j = 1 by omega) with rfl | rfl
    · simp only [nestF]; exact SameD.rfl' _
    · rw [nestF11_1, nestF11_1, slL_len]
      exact SameD.rowD fun a b ha hb => by rw [slI_slL ha hb]; exact SameD.rfl' _
def playRBase : BaseF := fun args => match args with
  | [.agg [.int .i64 tv, .int .i64 th, .row n sz_A f_A, .int .i64 he, .int .i64 hr], .row m sz_x f_x] => some ((sz_A = 2 ∧ NestR n 2 1 2 f_A) ∧ (sz_x = 4 ∧ IntR m 4 f_x) ∧ (n ≤ 1000 ∧ (∀ i, i < n → (nsM 1 f_A) i ≤ 1000) ∧ m ≤ 1000000), plS1 n (nsA f_A) (plA tv th n (nsA f_A) (nsM 1 f_A) (nsV 1 f_A) he hr m (ivf f_x)))
  | _ => none
theorem playR_eq (tv : Int) (th : Int) (n : Nat) (sz_A : Nat) (f_A : Nat → Nat → SV) (he : Int) (hr : Int) (m : Nat) (sz_x : Nat) (f_x : Nat → Nat → SV) : playRBase [.agg [.int .i64 tv, .int .i64 th, .row n sz_A f_A, .int .i64 he, .int .i64 hr], .row m sz_x f_x] = some ((sz_A = 2 ∧ NestR n 2 1 2 f_A) ∧ (sz_x = 4 ∧ IntR m 4 f_x) ∧ (n ≤ 1000 ∧ (∀ i, i < n → (nsM 1 f_A) i ≤ 1000) ∧ m ≤ 1000000), plS1 n (nsA f_A) (plA tv th n (nsA f_A) (nsM 1 f_A) (nsV 1 f_A) he hr m (ivf f_x))) := rfl
theorem playR_base : NB Try.prog 20 playRBase := by
  intro args p v hq hp
  unfold playRBase at hq
  split at hq
  rotate_left
  · cases hq
  rename_i tv th n sz_A f_A he hr m sz_x f_x
  cases hq
  obtain ⟨⟨rfl, i_A⟩, ⟨rfl, i_x⟩, pre⟩ := hp
  refine nb_calls (K := PlRK n (nsA f_A) (plA tv th n (nsA f_A) (nsM 1 f_A) (nsV 1 f_A) he hr m (ivf f_x))) (g := 20) (args' := [.agg [.int .i64 tv, .int .i64 th, .row n 2 (nestF 1 2 (nsA f_A) (nsM 1 f_A) (nsV 1 f_A)), .int .i64 he, .int .i64 hr], .row m 4 (rowF .i64 (ivf f_x))]) (by
    simp only [BdL, Bd, and_self, and_true, true_and]
    exact ⟨(fun i j hi hj => nest_bd i_A i j hi hj), (fun i j hi hj => by rw [i_x i j hi hj]; trivial)⟩) ⟨SameD.agg ⟨SameD.rfl' _, SameD.rfl' _, SameD.nest i_A, SameD.rfl' _, SameD.rfl' _, trivial⟩, SameD.int i_x, trivial⟩ (plS1_bd _ _ _) ?_ ?_
  · obtain ⟨p1, p2, p3⟩ := pre
    exact playR_calls p1 (nsA f_A) (nsM 1 f_A) (nsV 1 f_A) p2 tv th he hr p3 (ivf f_x)
  · exact fun o h' hk => hk
end Go.Eng
end

/- brine: Play and Total return the document's brine, sums and indices. -/
section
namespace Go.Eng
open Go Go.RowKit Go.Proofs
set_option maxRecDepth 100000
set_option maxHeartbeats 4000000
attribute [local irreducible] OwnT DefS
theorem samB_rf (tv th : Int) (n : Nat) (A : Nat → Nat → Int) (M : Nat → Nat) (V : Nat → Nat → Nat → Int) (he hr : Int) : samB tv th n A M V he hr tv th n A M V he hr = true := by
  simp only [samB, samP, decide_true, Bool.true_and, allU_true fun _ _ => rfl]
def isW (k : Int) : Bool := decide (k = 0) || (decide (k = 2) || (decide (k = 3) || decide (k = 1)))
/-- Events that do not chill or use. -/
def fl (x : Nat → Nat → Int) : Nat → List Nat
  | 0 => []
  | i + 1 => if isW (x i 0) then fl x i ++ [i] else fl x i
def wx (x : Nat → Nat → Int) (i a b : Nat) : Int := x ((fl x i).getD a 0) b
def wn (x : Nat → Nat → Int) (i a b : Nat) : Int := if b = 3 then 0 else wx x i a b
def brinePlaysBase : BaseF := fun args => match args with
  | [.agg [.int .i64 tv, .int .i64 th, .row n sz_A f_A, .int .i64 he, .int .i64 hr], .row m sz_x f_x] => some ((sz_A = 2 ∧ NestR n 2 1 2 f_A) ∧ (sz_x = 4 ∧ IntR m 4 f_x), .bool true)
  | _ => none
theorem brinePlays_eq (tv : Int) (th : Int) (n : Nat) (sz_A : Nat) (f_A : Nat → Nat → SV) (he : Int) (hr : Int) (m : Nat) (sz_x : Nat) (f_x : Nat → Nat → SV) : brinePlaysBase [.agg [.int .i64 tv, .int .i64 th, .row n sz_A f_A, .int .i64 he, .int .i64 hr], .row m sz_x f_x] = some ((sz_A = 2 ∧ NestR n 2 1 2 f_A) ∧ (sz_x = 4 ∧ IntR m 4 f_x), .bool true) := rfl
theorem brinePlays_base : Base Try.prog 7 brinePlaysBase := by
  intro args p v hq hp
  unfold brinePlaysBase at hq
  split at hq
  rotate_left
  · cases hq
  rename_i tv th n sz_A f_A he hr m sz_x f_x
  cases hq
  obtain ⟨⟨rfl, i_A⟩, ⟨rfl, i_x⟩⟩ := hp
  refine base_of (C := cxn [] [(14, playBase), (20, playRBase)] [] [(12, greatBase), (13, aliveBase), (17, SameBase), (21, TotalBase), (22, TotalRBase)] [] none) (cxn_ok ⟨play_base, playR_base, trivial⟩ trivial ⟨great_base, alive_base, Same_base, Total_base, TotalR_base, trivial⟩) rfl (g := 7) (fn := Try.f7)
    (args' := [.agg [.int .i64 tv, .int .i64 th, .row n 2 (nestF 1 2 (nsA f_A) (nsM 1 f_A) (nsV 1 f_A)), .int .i64 he, .int .i64 hr], .row m 4 (rowF .i64 (ivf f_x))]) (fn_7) rfl 1000 (by
    simp only [BdL, Bd, and_self, and_true, true_and]
    exact ⟨(fun i j hi hj => nest_bd i_A i j hi hj), (fun i j hi hj => by rw [i_x i j hi hj]; trivial)⟩) ⟨SameD.agg ⟨SameD.rfl' _, SameD.rfl' _, SameD.nest i_A, SameD.rfl' _, SameD.rfl' _, trivial⟩, SameD.int i_x, trivial⟩ ?_
  generalize nsA f_A = A
  generalize nsM 1 f_A = M
  generalize nsV 1 f_A = V
  generalize ivf f_x = x
  simp only [rowF_eq]
  cases hg : grM n M with
  | true => simp only [hg, great_eq, alive_eq, Same_eq, Total_eq, TotalR_eq, play_eq, playR_eq, lapp1, lapp2, nestR_lit, nsM_lit, nsV_lit, plA_ns, okBr_ns, nestF11_0, nestF11_1, Try.f7, go_sem, ↓reduceIte, Nat.reduceAdd, Nat.reduceSub, Nat.reduceMul, Nat.reduceEqDiff, Nat.reduceLT, Nat.reduceLeDiff, Int.reduceToNat, Int.reduceLE, Int.reduceLT, Int.reduceEq, Int.reduceNeg, reduceCtorEq]
  | false =>
  obtain ⟨g1, g2⟩ := grM_no hg
  have c1 : n ≤ 1000 := by omega
  have c3 : n ≤ 1000000 := by omega
  have hM : ∀ i, i < n → M i ≤ 1000 := fun i hi => by have := g2 i hi; omega
  have hM2 : ∀ i, i < n → M i ≤ 1000000 := fun i hi => by have := g2 i hi; omega
  by_cases m1 : 60 < m ∧ m ≤ 256
  · have e1 : decide (60 < (m : Int)) = true := decide_eq_true (by omega)
    have e2 : decide ((m : Int) ≤ 256) = true := decide_eq_true (by omega)
    simp only [hg, e1, e2, great_eq, alive_eq, Same_eq, Total_eq, TotalR_eq, play_eq, playR_eq, lapp1, lapp2, nestR_lit, nsM_lit, nsV_lit, plA_ns, okBr_ns, nestF11_0, nestF11_1, Try.f7, go_sem, ↓reduceIte, Nat.reduceAdd, Nat.reduceSub, Nat.reduceMul, Nat.reduceEqDiff, Nat.reduceLT, Nat.reduceLeDiff, Int.reduceToNat, Int.reduceLE, Int.reduceLT, Int.reduceEq, Int.reduceNeg, reduceCtorEq]
  by_cases m2 : 260 < m
  · have e1 : decide (60 < (m : Int)) = true := decide_eq_true (by omega)
    have e2 : decide ((m : Int) ≤ 256) = false := decide_eq_false (by omega)
    have e3 : decide (260 < (m : Int)) = true := decide_eq_true (by omega)
    simp only [hg, e1, e2, e3, great_eq, alive_eq, Same_eq, Total_eq, TotalR_eq, play_eq, playR_eq, lapp1, lapp2, nestR_lit, nsM_lit, nsV_lit, plA_ns, okBr_ns, nestF11_0, nestF11_1, Try.f7, go_sem, ↓reduceIte, Nat.reduceAdd, Nat.reduceSub, Nat.reduceMul, Nat.reduceEqDiff, Nat.reduceLT, Nat.reduceLeDiff, Int.reduceToNat, Int.reduceLE, Int.reduceLT, Int.reduceEq, Int.reduceNeg, reduceCtorEq]
  have c2 : m ≤ 1000000 := by omega
  have e3 : decide (260 < (m : Int)) = false := decide_eq_false (by omega)
  have e12 : decide (60 < (m : Int)) = false ∨ (decide (60 < (m : Int)) = true ∧ decide ((m : Int) ≤ 256) = false) := by
    by_cases h : 60 < m
    · exact .inr ⟨decide_eq_true (by omega), decide_eq_false (by omega)⟩
    · exact .inl (decide_eq_false (by omega))
  obtain ⟨r, hr0⟩ : ∃ r, plA tv th n A M V he hr m x = r := ⟨_, rfl⟩
  have f0 : decide ((r.n : Int) = (r.n : Int)) = true := decide_eq_true rfl
  have f2 : decide (r.e = r.e) = true := decide_eq_true rfl
  by_cases h0 : r.e = 0
  rotate_left
  · have hp : plS1 n (nsA (nestF 1 2 A M V)) r = _ := plS1_no h0
    cases hok : okBr tv th n A M V he hr with
    | false =>
      rcases e12 with e1 | ⟨e1, e2⟩
      · simp only [hg, e1, e3, hr0, hp, hok, if_false, f0, f2, c1, c2, c3, samB_0, piR, decide_true, great_eq, alive_eq, Same_eq, Total_eq, TotalR_eq, play_eq, playR_eq, lapp1, lapp2, nestR_lit, nsM_lit, nsV_lit, plA_ns, okBr_ns, nestF11_0, nestF11_1, Try.f7, go_sem, ↓reduceIte, Nat.reduceAdd, Nat.reduceSub, Nat.reduceMul, Nat.reduceEqDiff, Nat.reduceLT, Nat.reduceLeDiff, Int.reduceToNat, Int.reduceLE, Int.reduceLT, Int.reduceEq, Int.reduceNeg, reduceCtorEq]
        exact ⟨hM, hM, hM2, fun _ _ => trivial⟩
      · simp only [hg, e1, e2, e3, hr0, hp, hok, if_false, f0, f2, c1, c2, c3, samB_0, piR, decide_true, great_eq, alive_eq, Same_eq, Total_eq, TotalR_eq, play_eq, playR_eq, lapp1, lapp2, nestR_lit, nsM_lit, nsV_lit, plA_ns, okBr_ns, nestF11_0, nestF11_1, Try.f7, go_sem, ↓reduceIte, Nat.reduceAdd, Nat.reduceSub, Nat.reduceMul, Nat.reduceEqDiff, Nat.reduceLT, Nat.reduceLeDiff, Int.reduceToNat, Int.reduceLE, Int.reduceLT, Int.reduceEq, Int.reduceNeg, reduceCtorEq]
        exact ⟨hM, hM, hM2, fun _ _ => trivial⟩
    | true =>
      rcases e12 with e1 | ⟨e1, e2⟩
      · simp only [hg, e1, e3, hr0, hp, hok, if_true, f0, f2, c1, c2, c3, samB_0, piR, decide_true, great_eq, alive_eq, Same_eq, Total_eq, TotalR_eq, play_eq, playR_eq, lapp1, lapp2, nestR_lit, nsM_lit, nsV_lit, plA_ns, okBr_ns, nestF11_0, nestF11_1, Try.f7, go_sem, ↓reduceIte, Nat.reduceAdd, Nat.reduceSub, Nat.reduceMul, Nat.reduceEqDiff, Nat.reduceLT, Nat.reduceLeDiff, Int.reduceToNat, Int.reduceLE, Int.reduceLT, Int.reduceEq, Int.reduceNeg, reduceCtorEq]
        exact ⟨hM, hM, hM2, fun _ _ => trivial⟩
      · simp only [hg, e1, e2, e3, hr0, hp, hok, if_true, f0, f2, c1, c2, c3, samB_0, piR, decide_true, great_eq, alive_eq, Same_eq, Total_eq, TotalR_eq, play_eq, playR_eq, lapp1, lapp2, nestR_lit, nsM_lit, nsV_lit, plA_ns, okBr_ns, nestF11_0, nestF11_1, Try.f7, go_sem, ↓reduceIte, Nat.reduceAdd, Nat.reduceSub, Nat.reduceMul, Nat.reduceEqDiff, Nat.reduceLT, Nat.reduceLeDiff, Int.reduceToNat, Int.reduceLE, Int.reduceLT, Int.reduceEq, Int.reduceNeg, reduceCtorEq]
        exact ⟨hM, hM, hM2, fun _ _ => trivial⟩
  have hp : plS1 n (nsA (nestF 1 2 A M V)) r = _ := plS1_ok h0
  have hokp := plA_ok (tv := tv) (th := th) (n := n) (A := A) (M := M) (V := V) (he := he) (hr := hr) (m := m) (x := x)
  have hleft := plA_left (tv := tv) (th := th) (n := n) (A := A) (M := M) (V := V) (he := he) (hr := hr) (m := m) (x := x)
  rw [hr0] at hokp hleft
  have hok := (hokp h0).1
  have hL := (hleft h0).ok.ok.len
  have hL2 : ∀ i, i < n → (r.s.sl i).length ≤ 1000000 := fun i hi => by have := hL i hi; omega
  rcases e12 with e1 | ⟨e1, e2⟩
  · simp only [hg, e1, e3, hr0, hp, hok, if_true, f0, f2, c1, c2, c3, samB_rf, nsA_A, decide_true, great_eq, alive_eq, Same_eq, Total_eq, TotalR_eq, play_eq, playR_eq, lapp1, lapp2, nestR_lit, nsM_lit, nsV_lit, plA_ns, okBr_ns, nestF11_0, nestF11_1, Try.f7, go_sem, ↓reduceIte, Nat.reduceAdd, Nat.reduceSub, Nat.reduceMul, Nat.reduceEqDiff, Nat.reduceLT, Nat.reduceLeDiff, Int.reduceToNat, Int.reduceLE, Int.reduceLT, Int.reduceEq, Int.reduceNeg, reduceCtorEq]
    exact ⟨hM, hM, hM2, hL2⟩
  · simp only [hg, e1, e2, e3, hr0, hp, hok, if_true, f0, f2, c1, c2, c3, samB_rf, nsA_A, decide_true, great_eq, alive_eq, Same_eq, Total_eq, TotalR_eq, play_eq, playR_eq, lapp1, lapp2, nestR_lit, nsM_lit, nsV_lit, plA_ns, okBr_ns, nestF11_0, nestF11_1, Try.f7, go_sem, ↓reduceIte, Nat.reduceAdd, Nat.reduceSub, Nat.reduceMul, Nat.reduceEqDiff, Nat.reduceLT, Nat.reduceLeDiff, Int.reduceToNat, Int.reduceLE, Int.reduceLT, Int.reduceEq, Int.reduceNeg, reduceCtorEq]
    exact ⟨hM, hM, hM2, hL2⟩
end Go.Eng
end

/-
  BrinePlays: for every input the law returns true, and each argument reads afterwards as it read before. No condition.
-/
section
namespace Go.Proofs.Ytakbfbcfddcncaa.brinePlays
open Go.ChangeShapes Go.WideShapes Go.ChangeAt Go.RowKit Go.Eng
set_option linter.unusedVariables false
theorem own : ownKnob Try.prog.godebug = none := by kernel_rfl
theorem laid : laidOutB Try.prog = true := by kernel_rfl
set_option maxRecDepth 100000 in
theorem lifted (os : Os) (started : os.Started) (H : Type) (enc : TypeId × Value → H) :
    ReturnsInHanded {} Try.checked os 7 .any (Rows.brinePlaysSpec.pre6 enc Try.prog Try.f7 Rows.brinePlaysRow.domain false) (Rows.brinePlaysSpec.post enc Try.prog Try.f7 false true false false) := by
  refine returnsInHanded_of_change (C := Try.checked) own started (by kernel_rfl) Try.func7
    (ChangeSpec.witness6 (enc := enc) (C := Try.checked) false ⟨#[], #[.agg #[.int .i64 0, .int .i64 0, .slice none 0 0, .int .i64 0, .int .i64 0], .slice none 0 0], []⟩ 8 (by kernel_rfl) (by kernel_rfl) (by kernel_rfl) (by kernel_rfl)) ?_
  intro W base args ds gs before hval0 hW hcnd _
  have hval : ∀ (j : Nat) t v, Try.f7.params[j]? = some t → args[j]? = some v → Value.okWide Try.prog W .any base t v := hval0
  have hW' := hW
  obtain ⟨p, q, hA0, hV, rfl, hfz, hnd⟩ := hW
  have hA : DataW.TrodAll enc Try.prog W 0 (fun _ => true) true Try.f7.params.toList args.toList ds p := hA0
  rw [Try.params7] at hA hval
  obtain ⟨v0, vs0, d0, ds0, p0, q0, hargs, rfl, rfl, h0, r0⟩ := trodAll_cons hA
  obtain ⟨v1, vs1, d1, ds1, p1, q1, rfl, rfl, rfl, h1, r1⟩ := trodAll_cons r0
  obtain ⟨rfl, rfl, rfl⟩ := trodAll_nil r1
  obtain rfl : args = #[v0, v1] := by cases args; simp_all
  obtain ⟨rfl, rfl⟩ := trodVars_none hV
  obtain ⟨xs0, e0, l0, t0⟩ := arg_agg (shs := [.int .i64, .int .i64, .sl [.int .i64, .sl [.int .i64, .int .i64]], .int .i64, .int .i64]) Try.underlying26 (by kernel_rfl) (hval 0 26 v0 rfl rfl) h0
  obtain ⟨a0_0, a0_1, a0_2, a0_3, a0_4, rfl⟩ : ∃ a0_0 a0_1 a0_2 a0_3 a0_4, xs0 = [a0_0, a0_1, a0_2, a0_3, a0_4] := by
    match xs0, l0 with
    | [a0_0, a0_1, a0_2, a0_3, a0_4], _ => exact ⟨a0_0, a0_1, a0_2, a0_3, a0_4, rfl⟩
  obtain ⟨x0_0, rfl, w0_0⟩ := typ_int (t0 0 _ _ rfl rfl)
  obtain ⟨x0_1, rfl, w0_1⟩ := typ_int (t0 1 _ _ rfl rfl)
  obtain ⟨n0_2, f0_2, rfl, m0_2, s0_2⟩ := typ_sl (t0 2 _ _ rfl rfl)
  obtain ⟨i0_2, b0_2, c0_2, g0_2⟩ := nestR_typ (sz := 2) (k := 1) (s := 2) (by intro j hj hk; rcases (show j = 0 ∨ j = 1 by omega) with rfl | rfl <;> first | rfl | exact absurd rfl hk) rfl s0_2
  obtain ⟨x0_3, rfl, w0_3⟩ := typ_int (t0 3 _ _ rfl rfl)
  obtain ⟨x0_4, rfl, w0_4⟩ := typ_int (t0 4 _ _ rfl rfl)
  obtain ⟨n1, f1, e1, m1, t1⟩ := arg_row (s := [.int .i64, .int .i64, .int .i64, .int .i64]) Try.underlying27 (by kernel_rfl) (hval 1 27 v1 rfl rfl) h1
  obtain ⟨i1, b1⟩ := intK_of_typ (k := .i64) (c := 4) rfl t1
  have hd : DenL Env.emp W [.agg [.int .i64 x0_0, .int .i64 x0_1, .row n0_2 2 f0_2, .int .i64 x0_3, .int .i64 x0_4], .row n1 4 f1] [v0, v1] := ⟨e0, e1, trivial⟩
  refine (law_calls brinePlays_base (args := [.agg [.int .i64 x0_0, .int .i64 x0_1, .row n0_2 2 f0_2, .int .i64 x0_3, .int .i64 x0_4], .row n1 4 f1]) rfl ⟨⟨rfl, i0_2⟩, ⟨rfl, fun i j hi hj => i1 i j hi hj⟩⟩ (denA_of hd)).mono fun e W' ⟨he, hb⟩ => ?_
  subst he
  exact ⟨_, rfl, law_end laid rfl Try.underlying4 (by kernel_rfl) rfl hW' rfl hb⟩
theorem over : Rows.brinePlaysRow.holds Try.pinned (OpenSpec.ofChange Rows.brinePlaysSpec) :=
  OpenClaim.holds_of_wide 7 Try.f7 rfl rfl rfl rfl rfl rfl rfl ⟨rfl, rfl, rfl, rfl, rfl⟩ rfl rfl rfl rfl rfl (by kernel_rfl) Try.func7 (by kernel_rfl)
    (of_decide_eq_true (by kernel_rfl)) (by unfold Func.isWrapper; first | (rw [if_pos (by decide +kernel)]; kernel_rfl) | (rw [if_neg (by decide +kernel)]; exact ⟨rfl, rfl⟩))
    (fun os started H enc _ => lifted os started H enc)
end Go.Proofs.Ytakbfbcfddcncaa.brinePlays
namespace Go.Proofs.Ytakbfbcfddcncaa
/-- The given statement. -/
theorem brinePlays_holds : Rows.BrinePlaysSaid := brinePlays.over
#print axioms brinePlays_holds
end Go.Proofs.Ytakbfbcfddcncaa
end
