/-
  BrineOwns: for every input the law returns true, and each argument reads afterwards as it read before. No condition.
-/
import Derived.Test.YtakbfbcfddcncaaRows
import Derived.WalkKit
import Derived.Test.YtakbfbcfddcncaaK2
set_option linter.unusedSimpArgs false
set_option linter.unusedVariables false
/- brine: Total. -/
section
namespace Go.Eng
open Go Go.RowKit Go.Proofs
set_option maxRecDepth 100000
set_option maxHeartbeats 4000000
attribute [local irreducible] OwnT DefS
/-- Pipes whose slugs can be added. -/
def OkT (n : Nat) (M : Nat → Nat) (V : Nat → Nat → Nat → Int) : Prop := n ≤ 100 ∧ ∀ i, i < n → M i ≤ 1000 ∧ OkB (slL (M i) (V i))
/-- What is in tank and the first pipes, and what is stored. -/
def toV (tv : Int) (M : Nat → Nat) (V : Nat → Nat → Nat → Int) (n : Nat) : Int := tv + smN (fun i => volL (slL (M i) (V i))) n
def toH (th he : Int) (M : Nat → Nat) (V : Nat → Nat → Nat → Int) (n : Nat) : Int := th + he + smN (fun i => heatL (slL (M i) (V i))) n
def mid (x : Int) : Prop := 0 ≤ x ∧ x ≤ 8796093022208
theorem OkT.bd {n : Nat} {M : Nat → Nat} {V : Nat → Nat → Nat → Int} (h : OkT n M V) : ∀ i, i ≤ n → (0 ≤ smN (fun i => volL (slL (M i) (V i))) i ∧ smN (fun i => volL (slL (M i) (V i))) i ≤ 2097152000 * (i : Int)) ∧ 0 ≤ smN (fun i => heatL (slL (M i) (V i))) i ∧ smN (fun i => heatL (slL (M i) (V i))) i ≤ 4398046511104000 * (i : Int)
  | 0, _ => by simp [smN]
  | i + 1, hi => by
    have h1 := h.bd i (by omega)
    obtain ⟨h2, h3⟩ := h.2 i (by omega)
    have h4 := h3.sum
    rw [slL_len] at h4
    simp only [smN, volL, heatL] at h1 ⊢
    omega
theorem okB_of {n : Nat} {v : Nat → Nat → Int} (h : allU (fun i => okS (v i 0) (v i 1)) n = true) : OkB (slL n v) := fun x hx => by
  obtain ⟨k, hk, rfl⟩ := slL_mem hx
  have := allU_iff.1 h k hk
  simp only [okS, Bool.and_eq_true, in3_iff] at this
  simp only []
  omega
theorem okBr_T {tv th : Int} {n : Nat} {A : Nat → Nat → Int} {M : Nat → Nat} {V : Nat → Nat → Nat → Int} {he hr : Int} (h : okBr tv th n A M V he hr = true) : OkT n M V ∧ mid tv ∧ mid th ∧ mid he := by
  obtain ⟨hp, _, hn, _⟩ := okBr_start h
  have h0 := h
  simp only [okBr, Bool.and_eq_true, Bool.or_eq_true, in3_iff, decide_eq_true_eq, allU_iff] at h
  obtain ⟨⟨h1, h2, h3⟩, ⟨h4, h5⟩, h6, h7⟩ := h
  refine ⟨⟨by omega, fun i hi => ?_⟩, ?_, ?_, ?_⟩
  · have := h7 i hi
    simp only [okPp, Bool.and_eq_true, in3_iff, decide_eq_true_eq] at this
    exact ⟨by omega, okB_of this.2.2.1⟩
  · unfold mid; omega
  · unfold mid; omega
  · unfold mid; omega
def TotalBase : BaseF := fun args => match args with
  | [.agg [.int .i64 tv, .int .i64 th, .row n sz_A f_A, .int .i64 he, .int .i64 hr]] => some ((sz_A = 2 ∧ NestR n 2 1 2 f_A) ∧ (n ≤ 1000000), if okBr tv th n (nsA f_A) (nsM 1 f_A) (nsV 1 f_A) he hr then .tup [.agg [.int .i64 (toV tv (nsM 1 f_A) (nsV 1 f_A) n), .int .i64 (toH th he (nsM 1 f_A) (nsV 1 f_A) n)], .int .i64 0] else .tup [.agg [.int .i64 0, .int .i64 0], .int .i64 1])
  | _ => none
theorem Total_eq (tv : Int) (th : Int) (n : Nat) (sz_A : Nat) (f_A : Nat → Nat → SV) (he : Int) (hr : Int) : TotalBase [.agg [.int .i64 tv, .int .i64 th, .row n sz_A f_A, .int .i64 he, .int .i64 hr]] = some ((sz_A = 2 ∧ NestR n 2 1 2 f_A) ∧ (n ≤ 1000000), if okBr tv th n (nsA f_A) (nsM 1 f_A) (nsV 1 f_A) he hr then .tup [.agg [.int .i64 (toV tv (nsM 1 f_A) (nsV 1 f_A) n), .int .i64 (toH th he (nsM 1 f_A) (nsV 1 f_A) n)], .int .i64 0] else .tup [.agg [.int .i64 0, .int .i64 0], .int .i64 1]) := rfl
theorem Total_base : Base Try.prog 21 TotalBase := by
  intro args p v hq hp
  unfold TotalBase at hq
  split at hq
  rotate_left
  · cases hq
  rename_i tv th n sz_A f_A he hr
  cases hq
  obtain ⟨⟨rfl, i_A⟩, pre⟩ := hp
  refine base_of (C := cx [] [] [(31, isBrineBase), (41, plusBase), (42, sumBase)] [(21, 7, p21_7)] none) (cx_ok trivial ⟨isBrine_base, plus_base, sum_base, trivial⟩) rfl (g := 21) (fn := Try.f21)
    (args' := [.agg [.int .i64 tv, .int .i64 th, .row n 2 (nestF 1 2 (nsA f_A) (nsM 1 f_A) (nsV 1 f_A)), .int .i64 he, .int .i64 hr]]) (fn_21) rfl 1000 (by
    simp only [BdL, Bd, and_self, and_true, true_and]
    exact (fun i j hi hj => nest_bd i_A i j hi hj)) ⟨SameD.agg ⟨SameD.rfl' _, SameD.rfl' _, SameD.nest i_A, SameD.rfl' _, SameD.rfl' _, trivial⟩, trivial⟩ ?_
  generalize nsA f_A = A at *
  generalize nsM 1 f_A = M at *
  generalize nsV 1 f_A = V at *
  cases hok : okBr tv th n A M V he hr with
  | false =>
    simp only [hok, pre, isBrine_eq, plus_eq, sum_eq, p21_7, nestR_lit, nsM_lit, nsV_lit, okBr_ns, nestF11_0, nestF11_1, Try.f21, go_sem, ↓reduceIte, Nat.reduceAdd, Nat.reduceSub, Nat.reduceMul, Nat.reduceEqDiff, Nat.reduceLT, Nat.reduceLeDiff, Int.reduceToNat, Int.reduceLE, Int.reduceLT, Int.reduceEq, Int.reduceNeg, reduceCtorEq]
  | true =>
    obtain ⟨hT, t1, t2, t3⟩ := okBr_T hok
    simp only [hok, pre, isBrine_eq, plus_eq, sum_eq, p21_7, nestR_lit, nsM_lit, nsV_lit, okBr_ns, nestF11_0, nestF11_1, Try.f21, go_sem, ↓reduceIte, Nat.reduceAdd, Nat.reduceSub, Nat.reduceMul, Nat.reduceEqDiff, Nat.reduceLT, Nat.reduceLeDiff, Int.reduceToNat, Int.reduceLE, Int.reduceLT, Int.reduceEq, Int.reduceNeg, reduceCtorEq]
    have hb : ∀ i, i ≤ n → bg (toV tv M V i) ∧ bg (toH th he M V i) := fun i hi => by
      have h1 := hT.bd i hi
      have h2 := hT.1
      unfold mid at t1 t2 t3
      unfold bg toV toH
      omega
    refine ⟨?_, ?_⟩
    · unfold mid at t1 t2 t3
      unfold bg
      omega
    refine loop_ofH { i : Nat // i ≤ n } (fun i => [(20, .int .i64 (i.1 : Int)), (19, .int .i64 (n : Int)), (18, .row n 2 (nestF 1 2 A M V)), (4, .ptr 2 0), (2, .ptr 1 0)]) (fun _ i => { blks := [.live 26 [.int .i64 tv, .int .i64 th, .row n 2 (nestF 1 2 A M V), .int .i64 he, .int .i64 hr], .live 23 [.int .i64 0, .int .i64 0], .live 23 [.int .i64 (toV tv M V i.1), .int .i64 (toH th he M V i.1)]], vecs := [] }) (fun i => n - i.1) (fun _ => ⟨rfl, rfl⟩) ⟨0, by omega⟩ (by
      have e1 : tv = toV tv M V 0 := by simp [toV, smN]
      have e2 : th + he = toH th he M V 0 := by simp [toH, smN]
      apply sub_of <;> simp only [go_sem, ↓reduceIte, Nat.reduceAdd, Nat.reduceSub, Nat.reduceMul, Nat.reduceEqDiff, Nat.reduceLT, Nat.reduceLeDiff, Int.reduceToNat, Int.reduceLE, Int.reduceLT, Int.reduceEq, Int.reduceNeg, reduceCtorEq] <;> (try simp) <;> (try exact fun j _ => Bd_nth (by simp [BdL, Bd]) j) <;> (try exact bd_setL (by simp [bdAs, BdL, Bd])) <;> (try exact nestF_bd _ _ _ _ _ _ _ _ _) <;> first | exact ⟨e1, e2⟩ | exact nestF_bd _ _ _ _ _ _ _ _ _ | exact ⟨nestF_bd _ _ _ _ _ _ _ _ _, nestF_bd _ _ _ _ _ _ _ _ _⟩) ?_
    rintro ⟨i, hi⟩
    simp only [hok, pre, isBrine_eq, plus_eq, sum_eq, p21_7, nestR_lit, nsM_lit, nsV_lit, okBr_ns, nestF11_0, nestF11_1, Try.f21, go_sem, ↓reduceIte, Nat.reduceAdd, Nat.reduceSub, Nat.reduceMul, Nat.reduceEqDiff, Nat.reduceLT, Nat.reduceLeDiff, Int.reduceToNat, Int.reduceLE, Int.reduceLT, Int.reduceEq, Int.reduceNeg, reduceCtorEq]
    refine ⟨fun e1 => ?_, fun e1 => ?_⟩
    · simp only [decide_eq_true_eq] at e1
      have ik : i < n := by omega
      obtain ⟨m1, m2⟩ := hT.2 i ik
      have m3 := m2.sum
      rw [slL_len] at m3
      have v1 : toV tv M V i + (smL (slL (M i) (V i))).1 = toV tv M V (i + 1) := by simp only [toV, smN, volL]; omega
      have v2 : toH th he M V i + (smL (slL (M i) (V i))).2 = toH th he M V (i + 1) := by simp only [toH, smN, heatL]; omega
      refine ⟨⟨by omega, by omega⟩, ⟨by kernel_rfl, by kernel_rfl⟩, ⟨m1, m2⟩, ⟨(hb i hi).1, (hb i hi).2, by unfold bg; omega, by unfold bg; omega⟩, ⟨i + 1, by omega⟩, by simp only []; omega, ?_⟩
      apply sub_of <;> simp only [wrap_s ik pre, v1, v2, go_sem, ↓reduceIte, Nat.reduceAdd, Nat.reduceSub, Nat.reduceMul, Nat.reduceEqDiff, Nat.reduceLT, Nat.reduceLeDiff, Int.reduceToNat, Int.reduceLE, Int.reduceLT, Int.reduceEq, Int.reduceNeg, reduceCtorEq] <;> (try simp) <;> (try exact fun j _ => Bd_nth (by simp [BdL, Bd]) j) <;> (try exact bd_setL (by simp [bdAs, BdL, Bd])) <;> (try exact nestF_bd _ _ _ _ _ _ _ _ _)
    · simp only [decide_eq_false_iff_not] at e1
      obtain rfl : i = n := by omega
      rfl
end Go.Eng
end

/- brine: Sum, and Total of the reference. -/
section
namespace Go.Eng
open Go Go.RowKit Go.Proofs
set_option maxRecDepth 100000
set_option maxHeartbeats 4000000
attribute [local irreducible] OwnT DefS
def SumBase : BaseF := fun args => match args with
  | [.agg [.int .i64 tv, .int .i64 th, .row n sz_A f_A, .int .i64 he, .int .i64 hr]] => some ((sz_A = 2 ∧ NestR n 2 1 2 f_A) ∧ (OkT n (nsM 1 f_A) (nsV 1 f_A) ∧ mid tv ∧ mid th ∧ mid he), .agg [.int .i64 (toV tv (nsM 1 f_A) (nsV 1 f_A) n), .int .i64 (toH th he (nsM 1 f_A) (nsV 1 f_A) n)])
  | _ => none
theorem Sum_eq (tv : Int) (th : Int) (n : Nat) (sz_A : Nat) (f_A : Nat → Nat → SV) (he : Int) (hr : Int) : SumBase [.agg [.int .i64 tv, .int .i64 th, .row n sz_A f_A, .int .i64 he, .int .i64 hr]] = some ((sz_A = 2 ∧ NestR n 2 1 2 f_A) ∧ (OkT n (nsM 1 f_A) (nsV 1 f_A) ∧ mid tv ∧ mid th ∧ mid he), .agg [.int .i64 (toV tv (nsM 1 f_A) (nsV 1 f_A) n), .int .i64 (toH th he (nsM 1 f_A) (nsV 1 f_A) n)]) := rfl
theorem Sum_base : Base Try.prog 23 SumBase := by
  intro args p v hq hp
  unfold SumBase at hq
  split at hq
  rotate_left
  · cases hq
  rename_i tv th n sz_A f_A he hr
  cases hq
  obtain ⟨⟨rfl, i_A⟩, pre⟩ := hp
  refine base_of (C := cx [] [] [(43, plusRBase)] [(23, 8, p23_8)] none) (cx_ok trivial ⟨plusR_base, trivial⟩) rfl (g := 23) (fn := Try.f23)
    (args' := [.agg [.int .i64 tv, .int .i64 th, .row n 2 (nestF 1 2 (nsA f_A) (nsM 1 f_A) (nsV 1 f_A)), .int .i64 he, .int .i64 hr]]) (fn_23) rfl 1000 (by
    simp only [BdL, Bd, and_self, and_true, true_and]
    exact (fun i j hi hj => nest_bd i_A i j hi hj)) ⟨SameD.agg ⟨SameD.rfl' _, SameD.rfl' _, SameD.nest i_A, SameD.rfl' _, SameD.rfl' _, trivial⟩, trivial⟩ ?_
  generalize nsA f_A = A at *
  generalize nsM 1 f_A = M at *
  generalize nsV 1 f_A = V at *
  obtain ⟨hT, t1, t2, t3⟩ := pre
  have hn := hT.1
  have hb : ∀ i, i ≤ n → (-1 ≤ toV tv M V i ∧ toV tv M V i ≤ 4503599627370496) ∧ -1 ≤ toH th he M V i ∧ toH th he M V i ≤ 450359962737049600 := fun i hi => by
    have h1 := hT.bd i hi
    unfold mid at t1 t2 t3
    unfold toV toH
    omega
  simp only [plusR_eq, p23_8, nestF11_0, nestF11_1, Try.f23, go_sem, ↓reduceIte, Nat.reduceAdd, Nat.reduceSub, Nat.reduceMul, Nat.reduceEqDiff, Nat.reduceLT, Nat.reduceLeDiff, Int.reduceToNat, Int.reduceLE, Int.reduceLT, Int.reduceEq, Int.reduceNeg, reduceCtorEq]
  refine ⟨?_, ?_⟩
  · unfold mid at t1 t2 t3
    unfold bg
    omega
  refine loop_ofH { i : Nat // i ≤ n } (fun i => [(4, .int .i64 (i.1 : Int)), (3, .ptr 2 0), (2, .ptr 1 0), (1, .ptr 0 0)]) (fun _ i => { blks := [.live 26 [.int .i64 tv, .int .i64 th, .row n 2 (nestF 1 2 A M V), .int .i64 he, .int .i64 hr], .live 23 [.int .i64 0, .int .i64 0], .live 23 [.int .i64 (toV tv M V i.1), .int .i64 (toH th he M V i.1)]], vecs := [] }) (fun i => n - i.1) (fun _ => ⟨rfl, rfl⟩) ⟨0, by omega⟩ (by
      have e1 : tv = toV tv M V 0 := by simp [toV, smN]
      have e2 : th + he = toH th he M V 0 := by simp [toH, smN]
      apply sub_of <;> simp only [go_sem, ↓reduceIte, Nat.reduceAdd, Nat.reduceSub, Nat.reduceMul, Nat.reduceEqDiff, Nat.reduceLT, Nat.reduceLeDiff, Int.reduceToNat, Int.reduceLE, Int.reduceLT, Int.reduceEq, Int.reduceNeg, reduceCtorEq] <;> (try simp) <;> (try exact fun j _ => Bd_nth (by simp [BdL, Bd]) j) <;> (try exact bd_setL (by simp [bdAs, BdL, Bd])) <;> (try exact nestF_bd _ _ _ _ _ _ _ _ _) <;> first | exact ⟨e1, e2⟩ | exact nestF_bd _ _ _ _ _ _ _ _ _ | exact ⟨nestF_bd _ _ _ _ _ _ _ _ _, nestF_bd _ _ _ _ _ _ _ _ _⟩) ?_
  rintro ⟨i, hi⟩
  simp only [plusR_eq, p23_8, nestF11_0, nestF11_1, Try.f23, go_sem, ↓reduceIte, Nat.reduceAdd, Nat.reduceSub, Nat.reduceMul, Nat.reduceEqDiff, Nat.reduceLT, Nat.reduceLeDiff, Int.reduceToNat, Int.reduceLE, Int.reduceLT, Int.reduceEq, Int.reduceNeg, reduceCtorEq]
  refine ⟨fun e1 => ?_, fun e1 => ?_⟩
  rotate_left
  · simp only [decide_eq_false_iff_not] at e1
    obtain rfl : i = n := by omega
    rfl
  simp only [decide_eq_true_eq] at e1
  have ik : i < n := by omega
  obtain ⟨m1, m2⟩ := hT.2 i ik
  have hbi := hb i hi
  have v1 : toV tv M V i + (smL (slL (M i) (V i))).1 = toV tv M V (i + 1) := by simp only [toV, smN, volL]; omega
  have v2 : toH th he M V i + (smL (slL (M i) (V i))).2 = toH th he M V (i + 1) := by simp only [toH, smN, heatL]; omega
  refine loop_ofH { k : Nat // k ≤ M i } (fun k => [(5, .int .i64 (k.1 : Int)), (4, .int .i64 (i : Int)), (3, .ptr 2 0), (2, .ptr 1 0), (1, .ptr 0 0)]) (fun _ k => { blks := [.live 26 [.int .i64 tv, .int .i64 th, .row n 2 (nestF 1 2 A M V), .int .i64 he, .int .i64 hr], .live 23 [.int .i64 0, .int .i64 0], .live 23 [.int .i64 (toV tv M V i + (smL (slL k.1 (V i))).1), .int .i64 (toH th he M V i + (smL (slL k.1 (V i))).2)]], vecs := [] }) (fun k => M i - k.1) (fun _ => ⟨rfl, rfl⟩) ⟨0, by omega⟩ (by
      have e1 : toV tv M V i = toV tv M V i + (smL (slL 0 (V i))).1 := by simp [slL, smL]
      have e2 : toH th he M V i = toH th he M V i + (smL (slL 0 (V i))).2 := by simp [slL, smL]
      apply sub_of <;> simp only [go_sem, ↓reduceIte, Nat.reduceAdd, Nat.reduceSub, Nat.reduceMul, Nat.reduceEqDiff, Nat.reduceLT, Nat.reduceLeDiff, Int.reduceToNat, Int.reduceLE, Int.reduceLT, Int.reduceEq, Int.reduceNeg, reduceCtorEq] <;> (try simp) <;> (try exact fun j _ => Bd_nth (by simp [BdL, Bd]) j) <;> (try exact bd_setL (by simp [bdAs, BdL, Bd])) <;> (try exact nestF_bd _ _ _ _ _ _ _ _ _) <;> first | exact ⟨e1, e2⟩ | exact nestF_bd _ _ _ _ _ _ _ _ _ | exact ⟨nestF_bd _ _ _ _ _ _ _ _ _, nestF_bd _ _ _ _ _ _ _ _ _⟩) ?_
  rintro ⟨k, hk⟩
  simp only [plusR_eq, p23_8, nestF11_0, nestF11_1, Try.f23, go_sem, ↓reduceIte, Nat.reduceAdd, Nat.reduceSub, Nat.reduceMul, Nat.reduceEqDiff, Nat.reduceLT, Nat.reduceLeDiff, Int.reduceToNat, Int.reduceLE, Int.reduceLT, Int.reduceEq, Int.reduceNeg, reduceCtorEq]
  refine ⟨⟨by omega, by omega⟩, fun g1 => ?_, fun g1 => ?_⟩
  · simp only [decide_eq_true_eq] at g1
    have kk : k < M i := by omega
    have h1 := (m2.take hk).sum
    rw [slL_len] at h1
    have h2 := m2.at kk
    have h3 : smL (slL (k + 1) (V i)) = plS (smL (slL k (V i))) (V i k 0, V i k 1) := by rw [slL_succ, smL_app]; simp [smL, plS]
    have u1 : toV tv M V i + (smL (slL k (V i))).1 + V i k 0 = toV tv M V i + (smL (slL (k + 1) (V i))).1 := by rw [h3]; simp only [plS]; omega
    have u2 : toH th he M V i + (smL (slL k (V i))).2 + V i k 1 = toH th he M V i + (smL (slL (k + 1) (V i))).2 := by rw [h3]; simp only [plS]; omega
    refine ⟨⟨by kernel_rfl, by kernel_rfl⟩, ⟨by omega, by omega⟩, ⟨by omega, by omega⟩, ⟨by unfold bg; omega, by unfold bg; omega, by unfold bg; omega, by unfold bg; omega⟩, ⟨k + 1, by omega⟩, by simp only []; omega, ?_⟩
    apply sub_of <;> simp only [wrap_s kk (show M i ≤ 1000000 by omega), u1, u2, go_sem, ↓reduceIte, Nat.reduceAdd, Nat.reduceSub, Nat.reduceMul, Nat.reduceEqDiff, Nat.reduceLT, Nat.reduceLeDiff, Int.reduceToNat, Int.reduceLE, Int.reduceLT, Int.reduceEq, Int.reduceNeg, reduceCtorEq] <;> (try simp) <;> (try exact fun j _ => Bd_nth (by simp [BdL, Bd]) j) <;> (try exact bd_setL (by simp [bdAs, BdL, Bd])) <;> (try exact nestF_bd _ _ _ _ _ _ _ _ _)
  · simp only [decide_eq_false_iff_not] at g1
    obtain rfl : k = M i := by omega
    refine ⟨⟨i + 1, by omega⟩, by simp only []; omega, ?_⟩
    apply sub_of <;> simp only [wrap_s ik (show n ≤ 1000000 by omega), v1, v2, go_sem, ↓reduceIte, Nat.reduceAdd, Nat.reduceSub, Nat.reduceMul, Nat.reduceEqDiff, Nat.reduceLT, Nat.reduceLeDiff, Int.reduceToNat, Int.reduceLE, Int.reduceLT, Int.reduceEq, Int.reduceNeg, reduceCtorEq] <;> (try simp) <;> (try exact fun j _ => Bd_nth (by simp [BdL, Bd]) j) <;> (try exact bd_setL (by simp [bdAs, BdL, Bd])) <;> (try exact nestF_bd _ _ _ _ _ _ _ _ _)
def TotalRBase : BaseF := fun args => match args with
  | [.agg [.int .i64 tv, .int .i64 th, .row n sz_A f_A, .int .i64 he, .int .i64 hr]] => some ((sz_A = 2 ∧ NestR n 2 1 2 f_A) ∧ (n ≤ 1000000 ∧ ∀ i, i < n → (nsM 1 f_A) i ≤ 1000000), if okBr tv th n (nsA f_A) (nsM 1 f_A) (nsV 1 f_A) he hr then .tup [.agg [.int .i64 (toV tv (nsM 1 f_A) (nsV 1 f_A) n), .int .i64 (toH th he (nsM 1 f_A) (nsV 1 f_A) n)], .int .i64 0] else .tup [.agg [.int .i64 0, .int .i64 0], .int .i64 1])
  | _ => none
theorem TotalR_eq (tv : Int) (th : Int) (n : Nat) (sz_A : Nat) (f_A : Nat → Nat → SV) (he : Int) (hr : Int) : TotalRBase [.agg [.int .i64 tv, .int .i64 th, .row n sz_A f_A, .int .i64 he, .int .i64 hr]] = some ((sz_A = 2 ∧ NestR n 2 1 2 f_A) ∧ (n ≤ 1000000 ∧ ∀ i, i < n → (nsM 1 f_A) i ≤ 1000000), if okBr tv th n (nsA f_A) (nsM 1 f_A) (nsV 1 f_A) he hr then .tup [.agg [.int .i64 (toV tv (nsM 1 f_A) (nsV 1 f_A) n), .int .i64 (toH th he (nsM 1 f_A) (nsV 1 f_A) n)], .int .i64 0] else .tup [.agg [.int .i64 0, .int .i64 0], .int .i64 1]) := rfl
theorem TotalR_base : Base Try.prog 22 TotalRBase := by
  intro args p v hq hp
  unfold TotalRBase at hq
  split at hq
  rotate_left
  · cases hq
  rename_i tv th n sz_A f_A he hr
  cases hq
  obtain ⟨⟨rfl, i_A⟩, pre⟩ := hp
  refine base_of (C := cx [] [] [(15, BrineRBase), (23, SumBase)] [] none) (cx_ok trivial ⟨BrineR_base, Sum_base, trivial⟩) rfl (g := 22) (fn := Try.f22)
    (args' := [.agg [.int .i64 tv, .int .i64 th, .row n 2 (nestF 1 2 (nsA f_A) (nsM 1 f_A) (nsV 1 f_A)), .int .i64 he, .int .i64 hr]]) (fn_22) rfl 1000 (by
    simp only [BdL, Bd, and_self, and_true, true_and]
    exact (fun i j hi hj => nest_bd i_A i j hi hj)) ⟨SameD.agg ⟨SameD.rfl' _, SameD.rfl' _, SameD.nest i_A, SameD.rfl' _, SameD.rfl' _, trivial⟩, trivial⟩ ?_
  generalize nsA f_A = A at *
  generalize nsM 1 f_A = M at *
  generalize nsV 1 f_A = V at *
  cases hok : okBr tv th n A M V he hr with
  | false =>
    simp only [hok, pre.1, BrineR_eq, Sum_eq, nestR_lit, nsM_lit, nsV_lit, okBr_ns, nestF11_0, nestF11_1, Try.f22, go_sem, ↓reduceIte, Nat.reduceAdd, Nat.reduceSub, Nat.reduceMul, Nat.reduceEqDiff, Nat.reduceLT, Nat.reduceLeDiff, Int.reduceToNat, Int.reduceLE, Int.reduceLT, Int.reduceEq, Int.reduceNeg, reduceCtorEq]
    exact pre.2
  | true =>
    have hT := okBr_T hok
    simp only [hok, pre.1, BrineR_eq, Sum_eq, nestR_lit, nsM_lit, nsV_lit, okBr_ns, nestF11_0, nestF11_1, Try.f22, go_sem, ↓reduceIte, Nat.reduceAdd, Nat.reduceSub, Nat.reduceMul, Nat.reduceEqDiff, Nat.reduceLT, Nat.reduceLeDiff, Int.reduceToNat, Int.reduceLE, Int.reduceLT, Int.reduceEq, Int.reduceNeg, reduceCtorEq]
    exact ⟨pre.2, hT⟩
end Go.Eng
end

/- brine: great; what all events leave. -/
section
namespace Go.Eng
open Go Go.RowKit Go.Proofs
set_option maxRecDepth 100000
set_option maxHeartbeats 4000000
attribute [local irreducible] OwnT DefS
theorem spl_i {q : Bool} {A B : Prop} (a : A) (b : B) : spl q A B := ⟨fun _ => a, fun _ => b⟩
def grM (n : Nat) (M : Nat → Nat) : Bool := decide (12 < n) || !allU (fun i => decide (M i ≤ 20)) n
theorem grM_no {n : Nat} {M : Nat → Nat} (h : grM n M = false) : n ≤ 12 ∧ ∀ i, i < n → M i ≤ 20 := by
  simp only [grM, Bool.or_eq_false_iff, Bool.not_eq_false', decide_eq_false_iff_not, allU_iff, decide_eq_true_eq] at h
  exact ⟨by omega, h.2⟩
def greatBase : BaseF := fun args => match args with
  | [.agg [.int .i64 tv, .int .i64 th, .row n sz_A f_A, .int .i64 he, .int .i64 hr]] => some ((sz_A = 2 ∧ NestR n 2 1 2 f_A), .bool (grM n (nsM 1 f_A)))
  | _ => none
theorem great_eq (tv : Int) (th : Int) (n : Nat) (sz_A : Nat) (f_A : Nat → Nat → SV) (he : Int) (hr : Int) : greatBase [.agg [.int .i64 tv, .int .i64 th, .row n sz_A f_A, .int .i64 he, .int .i64 hr]] = some ((sz_A = 2 ∧ NestR n 2 1 2 f_A), .bool (grM n (nsM 1 f_A))) := rfl
theorem great_base : Base Try.prog 12 greatBase := by
  intro args p v hq hp
  unfold greatBase at hq
  split at hq
  rotate_left
  · cases hq
  rename_i tv th n sz_A f_A he hr
  cases hq
  obtain ⟨rfl, i_A⟩ := hp
  refine base_of (C := cx [] [] [] [] none) (cx_ok trivial trivial) rfl (g := 12) (fn := Try.f12)
    (args' := [.agg [.int .i64 tv, .int .i64 th, .row n 2 (nestF 1 2 (nsA f_A) (nsM 1 f_A) (nsV 1 f_A)), .int .i64 he, .int .i64 hr]]) (fn_12) rfl 1000 (by
    simp only [BdL, Bd, and_self, and_true, true_and]
    exact (fun i j hi hj => nest_bd i_A i j hi hj)) ⟨SameD.agg ⟨SameD.rfl' _, SameD.rfl' _, SameD.nest i_A, SameD.rfl' _, SameD.rfl' _, trivial⟩, trivial⟩ ?_
  generalize nsA f_A = A
  generalize nsM 1 f_A = M
  generalize nsV 1 f_A = V
  simp only [nestF11_0, nestF11_1, Try.f12, go_sem, ↓reduceIte, Nat.reduceAdd, Nat.reduceSub, Nat.reduceMul, Nat.reduceEqDiff, Nat.reduceLT, Nat.reduceLeDiff, Int.reduceToNat, Int.reduceLE, Int.reduceLT, Int.reduceEq, Int.reduceNeg, reduceCtorEq]
  refine loop_ofH { i : Nat // i ≤ n ∧ i ≤ 13 ∧ ∀ j, j < i → (fun i => decide (M i ≤ 20)) j = true } (fun i => [(3, .int .i64 (i.1 : Int)), (1, .ptr 0 0)]) (fun h _ => h) (fun i => 13 - i.1) (fun _ => ⟨rfl, rfl⟩) ⟨0, by omega, by omega, by omega⟩ (by (apply sub_of <;> simp only [go_sem, ↓reduceIte, Nat.reduceAdd, Nat.reduceSub, Nat.reduceMul, Nat.reduceEqDiff, Nat.reduceLT, Nat.reduceLeDiff, Int.reduceToNat, Int.reduceLE, Int.reduceLT, Int.reduceEq, Int.reduceNeg, reduceCtorEq] <;> (try simp [catF]) <;> (try exact fun j _ => Bd_nth (by simp [BdL, Bd]) j) <;> (try exact bd_setL (by simp [bdAs, BdL, Bd])) <;> (try exact nestF_bd _ _ _ _ _ _ _ _ _))) ?_
  rintro ⟨i, hi, h13, h3⟩
  have w : IntKind.i64.wrap ((i : Int) + 1) = ((i + 1 : Nat) : Int) := by rw [wrap_id (by omega) (by omega)]; omega
  simp only [nestF11_0, nestF11_1, Try.f12, go_sem, ↓reduceIte, Nat.reduceAdd, Nat.reduceSub, Nat.reduceMul, Nat.reduceEqDiff, Nat.reduceLT, Nat.reduceLeDiff, Int.reduceToNat, Int.reduceLE, Int.reduceLT, Int.reduceEq, Int.reduceNeg, reduceCtorEq]
  refine ⟨fun e1 => ?_, fun e1 => ?_⟩
  · simp only [decide_eq_true_eq] at e1
    have ik : i < n := by omega
    refine ⟨fun e2 => ?_, fun e2 => ?_⟩
    · simp only [decide_eq_true_eq] at e2
      refine ⟨⟨by omega, by omega⟩, ?_⟩
      by_cases c1 : M i ≤ 20
      · have e : decide (20 < (M i : Int)) = false := decide_eq_false (by omega)
        simp only [e, go_sem, ↓reduceIte, Nat.reduceAdd, Nat.reduceSub, Nat.reduceMul, Nat.reduceEqDiff, Nat.reduceLT, Nat.reduceLeDiff, Int.reduceToNat, Int.reduceLE, Int.reduceLT, Int.reduceEq, Int.reduceNeg, reduceCtorEq]
        refine ⟨⟨i + 1, by omega, by omega, below h3 (decide_eq_true c1)⟩, by simp only []; omega, ?_⟩
        apply sub_of <;> simp only [w, go_sem, ↓reduceIte, Nat.reduceAdd, Nat.reduceSub, Nat.reduceMul, Nat.reduceEqDiff, Nat.reduceLT, Nat.reduceLeDiff, Int.reduceToNat, Int.reduceLE, Int.reduceLT, Int.reduceEq, Int.reduceNeg, reduceCtorEq] <;> (try simp) <;> (try exact fun j _ => Bd_nth (by simp [BdL, Bd]) j) <;> (try exact bd_setL (by simp [bdAs, BdL, Bd])) <;> (try exact nestF_bd _ _ _ _ _ _ _ _ _)
      · have e : decide (20 < (M i : Int)) = true := decide_eq_true (by omega)
        simp only [e, go_sem, ↓reduceIte, Nat.reduceAdd, Nat.reduceSub, Nat.reduceMul, Nat.reduceEqDiff, Nat.reduceLT, Nat.reduceLeDiff, Int.reduceToNat, Int.reduceLE, Int.reduceLT, Int.reduceEq, Int.reduceNeg, reduceCtorEq]
        simp only [grM, allU_false (p := fun i => decide (M i ≤ 20)) ik (decide_eq_false c1), Bool.not_false, Bool.or_true]
    · simp only [decide_eq_false_iff_not] at e2
      have c1 : decide (12 < (n : Int)) = true := decide_eq_true (by omega)
      have c2 : decide (12 < n) = true := decide_eq_true (by omega)
      simp only [grM, c1, c2, Bool.true_or]
  · simp only [decide_eq_false_iff_not] at e1
    obtain rfl : i = n := by omega
    by_cases c : 12 < i
    · have c1 : decide (12 < (i : Int)) = true := decide_eq_true (by omega)
      have c2 : decide (12 < i) = true := decide_eq_true c
      simp only [grM, c1, c2, Bool.true_or]
    · have c1 : decide (12 < (i : Int)) = false := decide_eq_false (by omega)
      have c2 : decide (12 < i) = false := decide_eq_false c
      simp only [grM, c1, c2, allU_true h3, Bool.not_true, Bool.or_false]
/-- What holds of the plant behind all events. -/
theorem plM_kept {N : Nat} {room : Nat → Int} (hroom : ∀ i, i < N → 0 ≤ room i ∧ room i ≤ 1048576) {s : TkP} {R : Rst} (x : Nat → Nat → Int) {H : Int} (h : POk N room s R H) : ∀ j : Nat, Kept N s (plM N room s R x j).s R (plM N room s R x j).R
  | 0 => Kept.rfl' _ _ _
  | j + 1 => by
    have h1 := (plM_fine hroom x h j).1
    have h2 := plM_kept hroom x h j
    have h3 := (do_fine hroom h1 (x j 0) (x j 1) (x j 2) (x j 3)).2
    simp only [plM]
    split
    · split
      · exact h2.trans h3
      · exact h2
    · exact h2
theorem plM_n {N : Nat} {room : Nat → Int} {s : TkP} {R : Rst} {x : Nat → Nat → Int} : ∀ j : Nat, (plM N room s R x j).n ≤ j
  | 0 => Nat.le_refl 0
  | j + 1 => by
    have := plM_n (N := N) (room := room) (s := s) (R := R) (x := x) j
    simp only [plM]
    split
    · split
      · exact Nat.le_refl _
      · exact Nat.le_succ _
    · omega
section
variable {tv th : Int} {n : Nat} {A : Nat → Nat → Int} {M : Nat → Nat} {V : Nat → Nat → Nat → Int} {he hr : Int} {m : Nat} {x : Nat → Nat → Int}
theorem plA_n : (plA tv th n A M V he hr m x).n ≤ m := by
  unfold plA
  split
  · split
    · exact Nat.zero_le _
    · exact plM_n m
  · exact Nat.zero_le _
theorem plA_ok (h : (plA tv th n A M V he hr m x).e = 0) : okBr tv th n A M V he hr = true ∧ m ≤ 256 ∧ plA tv th n A M V he hr m x = plM n (fun i => A i 0) (s00 tv th M V) (R00 he hr) x m := by
  unfold plA at h ⊢
  split at h
  · split at h
    · cases h
    · rename_i h1 h2
      exact ⟨h1, by omega, by rw [if_pos h1, if_neg h2]⟩
  · cases h
structure Left (tv th : Int) (n : Nat) (A : Nat → Nat → Int) (M : Nat → Nat) (V : Nat → Nat → Nat → Int) (he hr : Int) (m : Nat) (r : PlR) : Prop where
  nn : r.n = m
  ok : POk n (fun i => A i 0) r.s r.R 3298534883328
  room : ∀ i, i < n → 0 ≤ A i 0 ∧ A i 0 ≤ 1048576
  n8 : 1 ≤ n ∧ n ≤ 8
  kept : Kept n (s00 tv th M V) r.s (R00 he hr) r.R
theorem plA_left (h : (plA tv th n A M V he hr m x).e = 0) : Left tv th n A M V he hr m (plA tv th n A M V he hr m x) := by
  obtain ⟨h1, h2, h3⟩ := plA_ok h
  obtain ⟨k1, k2, k3, k4⟩ := okBr_start h1
  have k5 := plM_fine k2 x k1 m
  rw [h3] at h ⊢
  exact ⟨k5.2 h, k5.1.mono (by omega), k2, ⟨k4, k3⟩, plM_kept k2 x k1 m⟩
end
/-- A plant's own pipes can be added. -/
theorem POk.okB {N : Nat} {room : Nat → Int} (hroom : ∀ i, i < N → 0 ≤ room i ∧ room i ≤ 1048576) {s : TkP} {R : Rst} {H : Int} (h : POk N room s R H) (hH : H ≤ 4398046511104) {i : Nat} (hi : i < N) : OkB (s.sl i) := fun y hy => by
  have h1 := (h.ok.ok i hi) y hy
  have h2 := (h.ok.ok i hi).mem_le hy
  have h3 := h.ok.room i hi
  have h4 := hroom i hi
  have h5 := smN_le (f := fun i => heatL (s.sl i)) N i hi (fun i hi => (h.ok.ok i hi).heat)
  have h6 := h.heat
  have h7 := h.ok.t
  have h8 := h.lh
  simp only [TkP.heat] at h6 h5
  omega
theorem POk.okT {N : Nat} (hN : N ≤ 100) {room : Nat → Int} (hroom : ∀ i, i < N → 0 ≤ room i ∧ room i ≤ 1048576) {s : TkP} {R : Rst} {H : Int} (h : POk N room s R H) (hH : H ≤ 4398046511104) : OkT N (fun i => (s.sl i).length) (fun i => slI (s.sl i)) :=
  ⟨hN, fun i hi => ⟨by have := h.ok.len i hi; show (s.sl i).length ≤ 1000; omega, by rw [slL_slI]; exact h.okB hroom hH hi⟩⟩
end Go.Eng
end

/- brine: litres and heat are conserved. -/
section
namespace Go.Eng
open Go Go.RowKit Go.Proofs
set_option maxRecDepth 100000
set_option maxHeartbeats 4000000
attribute [local irreducible] OwnT DefS
theorem plS1_no {n : Nat} {A : Nat → Nat → Int} {r : PlR} (h : r.e ≠ 0) : plS1 n A r = .tup [.agg [.int .i64 0, .int .i64 0, .row 0 2 (piR A ⟨(0, 0), fun _ => []⟩), .int .i64 0, .int .i64 0],
    .agg [.int .i64 0, .int .i64 0, .int .i64 0, .int .i64 0, .int .i64 0, .int .i64 0, .int .i64 0, .int .i64 0, .int .i64 0], .int .i64 (r.n : Int), .int .i64 r.e] := by
  simp only [plS1, plN, plF, if_neg h, R00]
theorem plS1_ok {n : Nat} {A : Nat → Nat → Int} {r : PlR} (h : r.e = 0) : plS1 n A r = .tup [.agg [.int .i64 r.s.t.1, .int .i64 r.s.t.2, .row n 2 (nestF 1 2 (fun i _ => A i 0) (fun i => (r.s.sl i).length) (fun i => slI (r.s.sl i))), .int .i64 r.R.he, .int .i64 r.R.hr],
    .agg [.int .i64 r.R.w, .int .i64 r.R.lv, .int .i64 r.R.lh, .int .i64 r.R.fv, .int .i64 r.R.fh, .int .i64 r.R.ch, .int .i64 r.R.ai, .int .i64 r.R.us, .int .i64 r.R.bo], .int .i64 (r.n : Int), .int .i64 0] := by
  simp only [plS1, plN, plF, h, if_true, piR]
theorem lapp1 (k : List Oper) : List.append [] k = k := rfl
theorem lapp2 (o : Oper) (l k : List Oper) : List.append (o :: l) k = o :: List.append l k := rfl
theorem two_use {B G : Prop} (main : B → G) (b : B) : G := main b
theorem samB_0 (A : Nat → Nat → Int) (M : Nat → Nat) (V : Nat → Nat → Nat → Int) (B : Nat → Nat → Int) (K : Nat → Nat) (W : Nat → Nat → Nat → Int) : samB 0 0 0 A M V 0 0 0 0 0 B K W 0 0 = true := by simp [samB, allU]
theorem nsA_A (A : Nat → Nat → Int) (M : Nat → Nat) (V : Nat → Nat → Nat → Int) : (fun i (_ : Nat) => nsA (nestF 1 2 A M V) i 0) = fun i _ => A i 0 := by funext i _; exact nsA_lit _ (by omega)
def brineKeepsBase : BaseF := fun args => match args with
  | [.agg [.int .i64 tv, .int .i64 th, .row n sz_A f_A, .int .i64 he, .int .i64 hr], .row m sz_x f_x] => some ((sz_A = 2 ∧ NestR n 2 1 2 f_A) ∧ (sz_x = 4 ∧ IntR m 4 f_x), .bool true)
  | _ => none
theorem brineKeeps_eq (tv : Int) (th : Int) (n : Nat) (sz_A : Nat) (f_A : Nat → Nat → SV) (he : Int) (hr : Int) (m : Nat) (sz_x : Nat) (f_x : Nat → Nat → SV) : brineKeepsBase [.agg [.int .i64 tv, .int .i64 th, .row n sz_A f_A, .int .i64 he, .int .i64 hr], .row m sz_x f_x] = some ((sz_A = 2 ∧ NestR n 2 1 2 f_A) ∧ (sz_x = 4 ∧ IntR m 4 f_x), .bool true) := rfl
theorem brineKeeps_base : Base Try.prog 8 brineKeepsBase := by
  intro args p v hq hp
  unfold brineKeepsBase at hq
  split at hq
  rotate_left
  · cases hq
  rename_i tv th n sz_A f_A he hr m sz_x f_x
  cases hq
  obtain ⟨⟨rfl, i_A⟩, ⟨rfl, i_x⟩⟩ := hp
  refine base_of (C := cxn [] [(14, playBase)] [] [(12, greatBase), (13, aliveBase), (17, SameBase), (21, TotalBase), (15, BrineRBase), (23, SumBase)] [(8, 7, p8_7), (8, 20, p8_20)] none) (cxn_ok ⟨play_base, trivial⟩ trivial ⟨great_base, alive_base, Same_base, Total_base, BrineR_base, Sum_base, trivial⟩) rfl (g := 8) (fn := Try.f8)
    (args' := [.agg [.int .i64 tv, .int .i64 th, .row n 2 (nestF 1 2 (nsA f_A) (nsM 1 f_A) (nsV 1 f_A)), .int .i64 he, .int .i64 hr], .row m 4 (rowF .i64 (ivf f_x))]) (fn_8) rfl 1000 (by
    simp only [BdL, Bd, and_self, and_true, true_and]
    exact ⟨(fun i j hi hj => nest_bd i_A i j hi hj), (fun i j hi hj => by rw [i_x i j hi hj]; trivial)⟩) ⟨SameD.agg ⟨SameD.rfl' _, SameD.rfl' _, SameD.nest i_A, SameD.rfl' _, SameD.rfl' _, trivial⟩, SameD.int i_x, trivial⟩ ?_
  generalize nsA f_A = A
  generalize nsM 1 f_A = M
  generalize nsV 1 f_A = V
  generalize ivf f_x = x
  simp only [rowF_eq]
  cases hg : grM n M with
  | true => simp only [hg, great_eq, alive_eq, Same_eq, Total_eq, BrineR_eq, Sum_eq, play_eq, p8_7, p8_20, lapp1, lapp2, nestR_lit, nsM_lit, nsV_lit, plA_ns, okBr_ns, nestF11_0, nestF11_1, Try.f8, go_sem, ↓reduceIte, Nat.reduceAdd, Nat.reduceSub, Nat.reduceMul, Nat.reduceEqDiff, Nat.reduceLT, Nat.reduceLeDiff, Int.reduceToNat, Int.reduceLE, Int.reduceLT, Int.reduceEq, Int.reduceNeg, reduceCtorEq]
  | false =>
  by_cases hm : 60 < m
  · have e1 : decide (60 < (m : Int)) = true := decide_eq_true (by omega)
    simp only [hg, e1, great_eq, alive_eq, Same_eq, Total_eq, BrineR_eq, Sum_eq, play_eq, p8_7, p8_20, lapp1, lapp2, nestR_lit, nsM_lit, nsV_lit, plA_ns, okBr_ns, nestF11_0, nestF11_1, Try.f8, go_sem, ↓reduceIte, Nat.reduceAdd, Nat.reduceSub, Nat.reduceMul, Nat.reduceEqDiff, Nat.reduceLT, Nat.reduceLeDiff, Int.reduceToNat, Int.reduceLE, Int.reduceLT, Int.reduceEq, Int.reduceNeg, reduceCtorEq]
  have e1 : decide (60 < (m : Int)) = false := decide_eq_false (by omega)
  obtain ⟨g1, g2⟩ := grM_no hg
  have c1 : n ≤ 1000 := by omega
  have c2 : m ≤ 1000000 := by omega
  have c3 : n ≤ 1000000 := by omega
  have hn := plA_n (tv := tv) (th := th) (n := n) (A := A) (M := M) (V := V) (he := he) (hr := hr) (m := m) (x := x)
  obtain ⟨r, hr0⟩ : ∃ r, plA tv th n A M V he hr m x = r := ⟨_, rfl⟩
  have hleft := plA_left (tv := tv) (th := th) (n := n) (A := A) (M := M) (V := V) (he := he) (hr := hr) (m := m) (x := x)
  have hokp := plA_ok (tv := tv) (th := th) (n := n) (A := A) (M := M) (V := V) (he := he) (hr := hr) (m := m) (x := x)
  rw [hr0] at hn hleft hokp
  have hM : ∀ i, i < n → M i ≤ 1000 := fun i hi => by have := g2 i hi; omega
  by_cases h0 : r.e = 0
  rotate_left
  · have hp : plS1 n (nsA (nestF 1 2 A M V)) r = _ := plS1_no h0
    have e2 : decide (r.e = 0) = false := decide_eq_false h0
    have e3 : decide (0 ≤ (r.n : Int)) = true := decide_eq_true (by omega)
    have e4 : decide ((r.n : Int) ≤ (m : Int)) = true := decide_eq_true (by omega)
    simp only [hg, e1, hr0, hp, e2, e3, e4, c1, c2, c3, samB_0, piR, great_eq, alive_eq, Same_eq, Total_eq, BrineR_eq, Sum_eq, play_eq, p8_7, p8_20, lapp1, lapp2, nestR_lit, nsM_lit, nsV_lit, plA_ns, okBr_ns, nestF11_0, nestF11_1, Try.f8, go_sem, ↓reduceIte, Nat.reduceAdd, Nat.reduceSub, Nat.reduceMul, Nat.reduceEqDiff, Nat.reduceLT, Nat.reduceLeDiff, Int.reduceToNat, Int.reduceLE, Int.reduceLT, Int.reduceEq, Int.reduceNeg, reduceCtorEq]
    exact ⟨hM, fun i hi => absurd hi (Nat.not_lt_zero i), fun _ _ => trivial⟩
  have hp : plS1 n (nsA (nestF 1 2 A M V)) r = _ := plS1_ok h0
  have hL := hleft h0
  have hok := (hokp h0).1
  obtain ⟨hT, t1, t2, t3⟩ := okBr_T hok
  have hnm : (r.n : Int) = (m : Int) := by rw [hL.nn]
  have f1 : decide ((m : Int) = (m : Int)) = true := decide_eq_true rfl
  have f2 : decide (r.R.hr = hr) = true := decide_eq_true hL.kept.hr
  have f3 : decide (r.R.he < 0) = false := decide_eq_false (by have := hL.ok.he; omega)
  have f4 : decide (r.R.hr < r.R.he) = false := decide_eq_false (by have := hL.ok.he; omega)
  have f5 : decide (r.s.t.1 < 0) = false := decide_eq_false (by have := hL.ok.ok.t; omega)
  have f6 : decide (r.s.t.2 < 0) = false := decide_eq_false (by have := hL.ok.ok.t; omega)
  simp only [hg, e1, hr0, hp, hnm, nsA_A, hok, if_true, f1, f2, f3, f4, f5, f6, c1, c2, c3, great_eq, alive_eq, Same_eq, Total_eq, BrineR_eq, Sum_eq, play_eq, p8_7, p8_20, lapp1, lapp2, nestR_lit, nsM_lit, nsV_lit, plA_ns, okBr_ns, nestF11_0, nestF11_1, Try.f8, go_sem, ↓reduceIte, Nat.reduceAdd, Nat.reduceSub, Nat.reduceMul, Nat.reduceEqDiff, Nat.reduceLT, Nat.reduceLeDiff, Int.reduceToNat, Int.reduceLE, Int.reduceLT, Int.reduceEq, Int.reduceNeg, reduceCtorEq]
  have hM2 : ∀ i, i < n → M i ≤ 1000000 := fun i hi => by have := g2 i hi; omega
  have hz := hL.ok.tz
  apply two_use
  · intro hb
    refine ⟨hM, ⟨by kernel_rfl, by kernel_rfl⟩, hM2, ⟨hT, t1, t2, t3⟩, fun e => ?_, fun _ => loop_ofH { i : Nat // i ≤ n } (fun i => [(136, .int .i64 (i.1 : Int)), (135, .int .i64 (n : Int)), (134, .row n 2 (nestF 1 2 (fun i _ => A i 0) (fun i => (r.s.sl i).length) fun i => slI (r.s.sl i))), (9, .ptr 3 0), (6, .ptr 2 0), (5, .ptr 1 0), (2, .ptr 0 0)]) (fun h _ => h) (fun i => n - i.1) (fun _ => ⟨rfl, rfl⟩) ⟨0, Nat.zero_le n⟩ (by (apply sub_of <;> simp only [go_sem, ↓reduceIte, Nat.reduceAdd, Nat.reduceSub, Nat.reduceMul, Nat.reduceEqDiff, Nat.reduceLT, Nat.reduceLeDiff, Int.reduceToNat, Int.reduceLE, Int.reduceLT, Int.reduceEq, Int.reduceNeg, reduceCtorEq] <;> (try simp [catF]) <;> (try exact fun j _ => Bd_nth (by simp [BdL, Bd]) j) <;> (try exact bd_setL (by simp [bdAs, BdL, Bd])) <;> (try exact nestF_bd _ _ _ _ _ _ _ _ _)) <;> exact ⟨nestF_bd _ _ _ _ _ _ _ _ _, nestF_bd _ _ _ _ _ _ _ _ _⟩) hb⟩
    simp only [decide_eq_true_eq] at e
    have f7 : (!decide (r.s.t.2 = 0)) = false := by rw [decide_eq_true (hz e)]; rfl
    exact spl_f f7 (loop_ofH { i : Nat // i ≤ n } (fun i => [(136, .int .i64 (i.1 : Int)), (135, .int .i64 (n : Int)), (134, .row n 2 (nestF 1 2 (fun i _ => A i 0) (fun i => (r.s.sl i).length) fun i => slI (r.s.sl i))), (9, .ptr 3 0), (6, .ptr 2 0), (5, .ptr 1 0), (2, .ptr 0 0)]) (fun h _ => h) (fun i => n - i.1) (fun _ => ⟨rfl, rfl⟩) ⟨0, Nat.zero_le n⟩ (by (apply sub_of <;> simp only [go_sem, ↓reduceIte, Nat.reduceAdd, Nat.reduceSub, Nat.reduceMul, Nat.reduceEqDiff, Nat.reduceLT, Nat.reduceLeDiff, Int.reduceToNat, Int.reduceLE, Int.reduceLT, Int.reduceEq, Int.reduceNeg, reduceCtorEq] <;> (try simp [catF]) <;> (try exact fun j _ => Bd_nth (by simp [BdL, Bd]) j) <;> (try exact bd_setL (by simp [bdAs, BdL, Bd])) <;> (try exact nestF_bd _ _ _ _ _ _ _ _ _)) <;> exact ⟨nestF_bd _ _ _ _ _ _ _ _ _, nestF_bd _ _ _ _ _ _ _ _ _⟩) hb)
  rintro ⟨i, hi⟩
  simp only [great_eq, alive_eq, Same_eq, Total_eq, BrineR_eq, Sum_eq, play_eq, p8_7, p8_20, lapp1, lapp2, nestR_lit, nsM_lit, nsV_lit, plA_ns, okBr_ns, nestF11_0, nestF11_1, Try.f8, go_sem, ↓reduceIte, Nat.reduceAdd, Nat.reduceSub, Nat.reduceMul, Nat.reduceEqDiff, Nat.reduceLT, Nat.reduceLeDiff, Int.reduceToNat, Int.reduceLE, Int.reduceLT, Int.reduceEq, Int.reduceNeg, reduceCtorEq]
  by_cases ik : i < n
  rotate_left
  · obtain rfl : i = n := by omega
    refine spl_f (decide_eq_false (by omega)) ⟨⟨hL.ok.okT (by omega) hL.room (by omega), ?_, ?_, ?_⟩, ?_⟩
    · have := hL.ok.ok.t; have := hL.ok.t1; unfold mid; omega
    · have := hL.ok.ok.t; have := hL.ok.heat; have := hL.ok.ok.heat_nonneg; have := hL.ok.lh; simp only [TkP.heat] at *; unfold mid; omega
    · have := hL.ok.he; unfold mid; omega
    have k1 := hL.kept.heat
    have k2 := hL.kept.vol
    have k3 := hT.bd i (Nat.le_refl _)
    have k4 := (hL.ok.okT (by omega) hL.room (by omega)).bd i (Nat.le_refl _)
    have k5 := hL.ok
    obtain ⟨_, o1, o2, o3, o4, o5, o6, o7, o8, o9, o10, o11, o12, o13⟩ := k5
    have o14 := hL.ok.ok.t
    have o15 := hL.ok.ok.heat_nonneg
    simp only [TkP.heat, TkP.vol, R00, s00] at k1 k2 o3
    simp only [slL_slI] at k4
    have e1 : toH r.s.t.2 r.R.he (fun i => (r.s.sl i).length) (fun i => slI (r.s.sl i)) i = r.s.t.2 + r.R.he + smN (fun i => heatL (r.s.sl i)) i := by simp only [toH, slL_slI]
    have e2 : toV r.s.t.1 (fun i => (r.s.sl i).length) (fun i => slI (r.s.sl i)) i = r.s.t.1 + smN (fun i => volL (r.s.sl i)) i := by simp only [toV, slL_slI]
    have e3 : toH th he M V i = th + he + smN (fun i => heatL (slL (M i) (V i))) i := rfl
    have e4 : toV tv M V i = tv + smN (fun i => volL (slL (M i) (V i))) i := rfl
    unfold mid at t1 t2 t3
    rw [e1, e2, e3, e4]
    generalize smN (fun i => heatL (slL (M i) (V i))) i = q1 at *
    generalize smN (fun i => volL (slL (M i) (V i))) i = q2 at *
    generalize smN (fun i => heatL (r.s.sl i)) i = q3 at *
    generalize smN (fun i => volL (r.s.sl i)) i = q4 at *
    clear hp hr0 hleft hokp hL
    refine spl_t (decide_eq_true ?_) (spl_t (decide_eq_true ?_) trivial)
    · rw [wrap_id (x := th + he + q1 + r.R.fh) (by omega) (by omega), wrap_id (x := th + he + q1 + r.R.fh + r.R.w) (by omega) (by omega), wrap_id (x := th + he + q1 + r.R.fh + r.R.w + r.R.bo) (by omega) (by omega),
        wrap_id (x := r.s.t.2 + r.R.he + q3 + r.R.lh) (by omega) (by omega), wrap_id (x := r.s.t.2 + r.R.he + q3 + r.R.lh + r.R.ai) (by omega) (by omega), wrap_id (x := r.s.t.2 + r.R.he + q3 + r.R.lh + r.R.ai + r.R.us) (by omega) (by omega)]
      omega
    · rw [wrap_id (by omega) (by omega), wrap_id (by omega) (by omega)]
      omega
  refine spl_t (decide_eq_true (by omega)) ⟨⟨by omega, by omega⟩, ?_⟩
  have hoi := hL.ok.ok.ok i ik
  have hri := hL.ok.ok.room i ik
  have hli := hL.ok.ok.len i ik
  have hro := hL.room i ik
  refine loop_ofH { k : Nat // k ≤ (r.s.sl i).length } (fun k => [(144, .int .i64 (k.1 : Int)), (143, .int .i64 ((r.s.sl i).length : Int)), (142, .row (r.s.sl i).length 2 fun a b => .int .i64 (slI (r.s.sl i) a b)), (13, .int .i64 (smL ((r.s.sl i).take k.1)).1), (11, .int .i64 (i : Int)), (12, .ptr 4 0), (136, .int .i64 (i : Int)), (135, .int .i64 (n : Int)), (134, .row n 2 (nestF 1 2 (fun i _ => A i 0) (fun i => (r.s.sl i).length) fun i => slI (r.s.sl i))), (9, .ptr 3 0), (6, .ptr 2 0), (5, .ptr 1 0), (2, .ptr 0 0)]) (fun h _ => h) (fun k => (r.s.sl i).length - k.1) (fun _ => ⟨rfl, rfl⟩) ⟨0, by omega⟩ (by (apply sub_of <;> simp only [go_sem, ↓reduceIte, Nat.reduceAdd, Nat.reduceSub, Nat.reduceMul, Nat.reduceEqDiff, Nat.reduceLT, Nat.reduceLeDiff, Int.reduceToNat, Int.reduceLE, Int.reduceLT, Int.reduceEq, Int.reduceNeg, reduceCtorEq] <;> (try simp [catF]) <;> (try exact fun j _ => Bd_nth (by simp [BdL, Bd]) j) <;> (try exact bd_setL (by simp [bdAs, BdL, Bd])) <;> (try exact nestF_bd _ _ _ _ _ _ _ _ _)) <;> first | rfl | exact ⟨nestF_bd _ _ _ _ _ _ _ _ _, nestF_bd _ _ _ _ _ _ _ _ _⟩) ?_
  rintro ⟨k, hk⟩
  simp only [great_eq, alive_eq, Same_eq, Total_eq, BrineR_eq, Sum_eq, play_eq, p8_7, p8_20, lapp1, lapp2, nestR_lit, nsM_lit, nsV_lit, plA_ns, okBr_ns, nestF11_0, nestF11_1, Try.f8, go_sem, ↓reduceIte, Nat.reduceAdd, Nat.reduceSub, Nat.reduceMul, Nat.reduceEqDiff, Nat.reduceLT, Nat.reduceLeDiff, Int.reduceToNat, Int.reduceLE, Int.reduceLT, Int.reduceEq, Int.reduceNeg, reduceCtorEq]
  by_cases kk : k < (r.s.sl i).length
  · obtain ⟨⟨u1, u2⟩, u3, u4, u5, u6⟩ := hoi.upto kk
    have hs : (smL ((r.s.sl i).take k)).1 + slI (r.s.sl i) k 0 = (smL ((r.s.sl i).take (k + 1))).1 := by rw [take_slI kk, smL_app]; simp [smL, plS]
    have w1 : IntKind.i64.wrap ((smL ((r.s.sl i).take k)).1 + slI (r.s.sl i) k 0) = (smL ((r.s.sl i).take (k + 1))).1 := by rw [← hs]; exact wrap_id (by omega) (by omega)
    refine spl_t (decide_eq_true (by omega)) ⟨⟨by omega, by omega⟩, spl_f (decide_eq_false (by omega)) (spl_f (decide_eq_false (by omega)) ⟨⟨k + 1, by omega⟩, by simp only []; omega, ?_⟩)⟩
    apply sub_of <;> simp only [wrap_s kk (show (r.s.sl i).length ≤ 1000000 by omega), w1, go_sem, ↓reduceIte, Nat.reduceAdd, Nat.reduceSub, Nat.reduceMul, Nat.reduceEqDiff, Nat.reduceLT, Nat.reduceLeDiff, Int.reduceToNat, Int.reduceLE, Int.reduceLT, Int.reduceEq, Int.reduceNeg, reduceCtorEq] <;> (try simp) <;> (try exact fun j _ => Bd_nth (by simp [BdL, Bd]) j) <;> (try exact bd_setL (by simp [bdAs, BdL, Bd])) <;> (try exact nestF_bd _ _ _ _ _ _ _ _ _) <;> first | rfl | exact ⟨nestF_bd _ _ _ _ _ _ _ _ _, nestF_bd _ _ _ _ _ _ _ _ _⟩
  · obtain rfl : k = (r.s.sl i).length := by omega
    have hs : (smL ((r.s.sl i).take (r.s.sl i).length)).1 = volL (r.s.sl i) := by rw [List.take_length]; rfl
    refine spl_f (decide_eq_false (by omega)) ⟨⟨by kernel_rfl, by kernel_rfl⟩, ⟨by omega, by omega⟩, spl_f (decide_eq_false (by omega)) (spl_f (decide_eq_false (by omega)) ⟨⟨i + 1, by omega⟩, by simp only []; omega, ?_⟩)⟩
    apply sub_of <;> simp only [wrap_s ik c3, go_sem, ↓reduceIte, Nat.reduceAdd, Nat.reduceSub, Nat.reduceMul, Nat.reduceEqDiff, Nat.reduceLT, Nat.reduceLeDiff, Int.reduceToNat, Int.reduceLE, Int.reduceLT, Int.reduceEq, Int.reduceNeg, reduceCtorEq] <;> (try simp) <;> (try exact fun j _ => Bd_nth (by simp [BdL, Bd]) j) <;> (try exact bd_setL (by simp [bdAs, BdL, Bd])) <;> (try exact nestF_bd _ _ _ _ _ _ _ _ _) <;> first | rfl | exact ⟨nestF_bd _ _ _ _ _ _ _ _ _, nestF_bd _ _ _ _ _ _ _ _ _⟩
end Go.Eng
end

/- brine: where heat is changes nothing of where litres are. The plain law. -/
section
namespace Go.Eng
def cS (x : Sl) : Sl := (x.1, 0)
def cL (l : List Sl) : List Sl := l.map cS
def cT (s : TkP) : TkP := ⟨cS s.t, fun i => cL (s.sl i)⟩
theorem plS_cold (a b : Sl) : plS (cS a) (cS b) = cS (plS a b) := by simp [plS, cS]
theorem mnS_cold (a b : Sl) : mnS (cS a) (cS b) = cS (mnS a b) := by simp [mnS, cS]
theorem smL_cold : ∀ l : List Sl, smL (cL l) = cS (smL l)
  | [] => rfl
  | x :: l => by
    have := smL_cold l
    simp only [cL, List.map_cons, smL] at this ⊢
    rw [this, plS_cold]
theorem volL_cold (l : List Sl) : volL (cL l) = volL l := by simp only [volL, smL_cold]; rfl
theorem cL_len (l : List Sl) : (cL l).length = l.length := by simp [cL]
theorem cL_app (l k : List Sl) : cL (l ++ k) = cL l ++ cL k := by simp [cL]
theorem cL_getD (l : List Sl) (i : Nat) : (cL l).getD i (0, 0) = cS (l.getD i (0, 0)) := by
  simp only [cL, List.getD_eq_getElem?_getD, List.getElem?_map]
  cases l[i]? <;> rfl
theorem tkS_cold (x : Sl) (n : Int) : tkS (cS x) n = cS (tkS x n) := by
  by_cases h : n < x.1
  · simp only [tkS, cS, if_pos h, Int.zero_mul, Int.zero_tdiv]
  · have e : (cS x).1 = x.1 := rfl
    unfold tkS
    rw [e, if_neg h, if_neg h]
theorem flowM_cold : ∀ (l : List Sl) (n : Int), flowM (cL l) n = (cL (flowM l n).1, cL (flowM l n).2)
  | [], _ => rfl
  | x :: l, n => by
    have ih := flowM_cold l (n - x.1)
    have e : cL (x :: l) = cS x :: cL l := rfl
    rw [e]
    simp only [flowM]
    split
    · rfl
    · have : (cS x).1 = x.1 := rfl
      rw [this]
      split
      · rw [ih]; rfl
      · rw [tkS_cold, mnS_cold]; rfl
theorem mrg_cold (l : List Sl) : mrg (cL l) = cL (mrg l) := by
  simp only [mrg, cL_len]
  split
  · rw [cL_getD, cL_getD, plS_cold, cL_app]
    congr 1
    simp only [cL, List.map_take]
  · rfl
theorem outP_cold (l : List Sl) (x : Sl) (r : Int) : outP (cL l) (cS x) r = (cL (outP l x r).1, cL (outP l x r).2) := by
  have e : cL l ++ [cS x] = cL (l ++ [x]) := by rw [cL_app]; rfl
  simp only [outP, e, volL_cold, flowM_cold]
theorem upL_cold (f : Nat → List Sl) (i : Nat) (l : List Sl) : upL (fun i => cL (f i)) i (cL l) = fun j => cL (upL f i l j) := by
  funext j; simp only [upL]; split <;> rfl
theorem into_cold {N : Nat} {room : Nat → Int} : ∀ (k : Nat) (s : TkP) (x : Sl), intoK N room k (cT s) (cS x) = cT (intoK N room k s x)
  | 0, s, x => by simp only [intoK, cT, plS_cold]
  | k + 1, s, x => by
    have hf : ∀ (L : List Sl) (s : TkP), (cL L).foldl (intoK N room k) (cT s) = cT (L.foldl (intoK N room k) s) := fun L => by
      induction L with
      | nil => intro s; rfl
      | cons y L ih =>
        intro s
        have e : cL (y :: L) = cS y :: cL L := rfl
        rw [e, List.foldl_cons, List.foldl_cons, into_cold k s y]
        exact ih _
    simp only [intoK]
    have e : (cT s).sl (N - (k + 1)) = cL (s.sl (N - (k + 1))) := rfl
    rw [e, outP_cold]
    simp only [mrg_cold]
    rw [← hf]
    congr 1
    simp only [cT, upL_cold]
theorem slI_cold (l : List Sl) (i j : Nat) : slI (cL l) i j = if j = 0 then slI l i 0 else 0 := by
  simp only [slI, cL_getD]
  split <;> rfl
theorem warm_cold (l : List Sl) (h : Int) : warmL (cL l) 0 = cL (warmL l h) := by
  have h0 : ∀ i, wN (cL l) 0 i = 0 := fun i => by simp [wN]
  have h1 : ∀ n, smN (wN (cL l) 0) n = 0 := fun n => by induction n with
    | zero => rfl
    | succ n ih => simp only [smN, ih, h0]; rfl
  simp only [warmL, cL_len, h0, h1, slI_cold]
  simp only [cL, List.map_map]
  refine List.map_congr_left fun i _ => ?_
  simp [cS]
theorem leak_cold (l : List Sl) (a : Int) : leakO (cL l) a = (cL (leakO l a).1, cL (leakO l a).2) := by
  simp only [leakO, volL_cold, flowM_cold]
def Lit2 (R' R : Rst) : Prop := R'.lv = R.lv ∧ R'.fv = R.fv
theorem doM_cold {N : Nat} {room : Nat → Int} {s : TkP} {R R' : Rst} {k p a h : Int} (hk : k = 0 ∨ k = 2 ∨ k = 3 ∨ k = 1) (hR : Lit2 R' R) :
    (doM N room s R k p a h).1 = 1 ∨ ((doM N room (cT s) R' k p a 0).1 = (doM N room s R k p a h).1 ∧ (doM N room (cT s) R' k p a 0).2.1 = cT (doM N room s R k p a h).2.1 ∧ Lit2 (doM N room (cT s) R' k p a 0).2.2 (doM N room s R k p a h).2.2) := by
  rcases hk with rfl | rfl | rfl | rfl
  · refine .inr ?_
    simp only [doM, if_true, pumpM]
    split
    · have e : (cT s).t.1 = s.t.1 := rfl
      rw [e]
      split
      · exact ⟨rfl, rfl, hR⟩
      · refine ⟨rfl, ?_, hR⟩
        have e2 : (⟨mnS (cT s).t (tkS (cT s).t a), (cT s).sl⟩ : TkP) = cT ⟨mnS s.t (tkS s.t a), s.sl⟩ := by simp only [cT, tkS_cold, mnS_cold]
        have e3 : tkS (cT s).t a = cS (tkS s.t a) := tkS_cold _ _
        rw [e2, e3, into_cold]
    · exact ⟨rfl, rfl, hR⟩
  · refine .inr ?_
    simp only [doM, show ¬ ((2 : Int) = 0) by decide, show ¬ ((2 : Int) = 1) by decide, if_false, if_true, leakM]
    split
    · have e : (cT s).sl p.toNat = cL (s.sl p.toNat) := rfl
      rw [e, leak_cold]
      refine ⟨rfl, ?_, ?_, hR.2⟩
      · simp only [cT, upL_cold]
      · simp only [hR.1, smL_cold, cS]
    · exact ⟨rfl, rfl, hR⟩
  · by_cases h1 : in3 h 0 4294967296 = true
    · refine .inr ?_
      have h2 : in3 0 0 4294967296 = true := by decide
      simp only [doM, show ¬ ((3 : Int) = 0) by decide, show ¬ ((3 : Int) = 1) by decide, show ¬ ((3 : Int) = 2) by decide, if_false, if_true, fillM, h1, h2, Bool.and_true]
      split
      · have e : (cT s).t.1 = s.t.1 := rfl
        rw [e]
        split
        · refine ⟨rfl, ?_, hR.1, ?_⟩
          · simp only [cT, cS, Int.add_zero]
          · simp only [hR.2]
        · exact ⟨rfl, rfl, hR⟩
      · exact ⟨rfl, rfl, hR⟩
    · refine .inl ?_
      simp only [doM, show ¬ ((3 : Int) = 0) by decide, show ¬ ((3 : Int) = 1) by decide, show ¬ ((3 : Int) = 2) by decide, if_false, if_true, fillM, h1, Bool.and_false, Bool.false_eq_true]
  · by_cases h1 : in3 h 0 4294967296 = true
    · refine .inr ?_
      have h2 : in3 0 0 4294967296 = true := by decide
      simp only [doM, show ¬ ((1 : Int) = 0) by decide, if_false, if_true, warmM, h1, h2, Bool.and_true]
      split
      · have e : (cT s).sl p.toNat = cL (s.sl p.toNat) := rfl
        rw [e, cL_len]
        split
        · exact ⟨rfl, rfl, hR⟩
        · refine ⟨rfl, ?_, hR⟩
          rw [warm_cold _ h]
          simp only [cT, upL_cold]
      · exact ⟨rfl, rfl, hR⟩
    · refine .inl ?_
      simp only [doM, show ¬ ((1 : Int) = 0) by decide, if_false, if_true, warmM, h1, Bool.and_false, Bool.false_eq_true]
theorem plM_cold {N : Nat} {room : Nat → Int} {s : TkP} {R R' : Rst} {x y : Nat → Nat → Int} (hR : Lit2 R' R) : ∀ m, (∀ i, i < m → (x i 0 = 0 ∨ x i 0 = 2 ∨ x i 0 = 3 ∨ x i 0 = 1) ∧ y i 0 = x i 0 ∧ y i 1 = x i 1 ∧ y i 2 = x i 2 ∧ y i 3 = 0) →
    (plM N room s R x m).e = 1 ∨ ((plM N room (cT s) R' y m).e = (plM N room s R x m).e ∧ (plM N room (cT s) R' y m).n = (plM N room s R x m).n ∧ (plM N room (cT s) R' y m).s = cT (plM N room s R x m).s ∧ Lit2 (plM N room (cT s) R' y m).R (plM N room s R x m).R)
  | 0, _ => .inr ⟨rfl, rfl, rfl, hR⟩
  | j + 1, h => by
    obtain ⟨h1, h2, h3, h4, h5⟩ := h j (by omega)
    rcases plM_cold hR j (fun i hi => h i (by omega)) with q | ⟨q1, q2, q3, q4⟩
    · left
      simp only [plM]
      rw [if_neg (by rw [q]; decide)]
      exact q
    · simp only [plM]
      rw [q1, q3, h2, h3, h4, h5]
      split
      · rcases doM_cold (N := N) (room := room) (s := (plM N room s R x j).s) (p := x j 1) (a := x j 2) (h := x j 3) h1 q4 with p | ⟨p1, p2, p3⟩
        · left
          rw [if_neg (by rw [p]; decide)]
          exact p
        · right
          rw [p1, p2]
          split
          · exact ⟨rfl, rfl, rfl, p3⟩
          · exact ⟨rfl, rfl, rfl, q4⟩
      · right
        exact ⟨q1, q2, q3, q4⟩
end Go.Eng
end

/- brine: cold. -/
section
namespace Go.Eng
open Go Go.RowKit Go.Proofs
set_option maxRecDepth 100000
set_option maxHeartbeats 4000000
attribute [local irreducible] OwnT DefS
/-- Slugs without heat. -/
def coV (V : Nat → Nat → Nat → Int) : Nat → Nat → Nat → Int := fun i k j => if j = 0 then V i k 0 else 0
def coldBase : BaseF := fun args => match args with
  | [.agg [.int .i64 tv, .int .i64 th, .row n sz_A f_A, .int .i64 he, .int .i64 hr]] => some ((sz_A = 2 ∧ NestR n 2 1 2 f_A) ∧ (n ≤ 1000000 ∧ ∀ i, i < n → (nsM 1 f_A) i ≤ 1000000), .agg [.int .i64 tv, .int .i64 0, .row n 2 (nestF 1 2 (nsA f_A) (nsM 1 f_A) (coV (nsV 1 f_A))), .int .i64 0, .int .i64 0])
  | _ => none
theorem cold_eq (tv : Int) (th : Int) (n : Nat) (sz_A : Nat) (f_A : Nat → Nat → SV) (he : Int) (hr : Int) : coldBase [.agg [.int .i64 tv, .int .i64 th, .row n sz_A f_A, .int .i64 he, .int .i64 hr]] = some ((sz_A = 2 ∧ NestR n 2 1 2 f_A) ∧ (n ≤ 1000000 ∧ ∀ i, i < n → (nsM 1 f_A) i ≤ 1000000), .agg [.int .i64 tv, .int .i64 0, .row n 2 (nestF 1 2 (nsA f_A) (nsM 1 f_A) (coV (nsV 1 f_A))), .int .i64 0, .int .i64 0]) := rfl
theorem cold_base : NB Try.prog 18 coldBase := by
  intro args p v hq hp
  unfold coldBase at hq
  split at hq
  rotate_left
  · cases hq
  rename_i tv th n sz_A f_A he hr
  cases hq
  obtain ⟨⟨rfl, i_A⟩, pre⟩ := hp
  refine nb_of (C := cx [] [] [] [] none) (cx_ok trivial trivial) rfl (g := 18) (fn := Try.f18)
    (args' := [.agg [.int .i64 tv, .int .i64 th, .row n 2 (nestF 1 2 (nsA f_A) (nsM 1 f_A) (nsV 1 f_A)), .int .i64 he, .int .i64 hr]]) (fn_18) rfl 1000 (by
    simp only [BdL, Bd, and_self, and_true, true_and]
    exact (fun i j hi hj => nest_bd i_A i j hi hj)) ⟨SameD.agg ⟨SameD.rfl' _, SameD.rfl' _, SameD.nest i_A, SameD.rfl' _, SameD.rfl' _, trivial⟩, trivial⟩ (by simp only [Bd, BdL, and_true, true_and, implies_true]; exact nestF_bd _ _ _ _ _ _ _ _ _) ?_
  generalize nsA f_A = A at *
  generalize nsM 1 f_A = M at *
  generalize nsV 1 f_A = V at *
  simp only [nestF11_0, nestF11_1, frzF_nest, Try.f18, go_sem, ↓reduceIte, Nat.reduceAdd, Nat.reduceSub, Nat.reduceMul, Nat.reduceEqDiff, Nat.reduceLT, Nat.reduceLeDiff, Int.reduceToNat, Int.reduceLE, Int.reduceLT, Int.reduceEq, Int.reduceNeg, reduceCtorEq]
  obtain ⟨p1, p2⟩ := pre
  refine loop_of { i : Nat // i ≤ n } (fun i => [(17, .int .i64 (i.1 : Int)), (16, .int .i64 (n : Int)), (15, .row n 2 (nestF 1 2 A M V)), (3, .ptr 2 0), (2, .ptr 1 0)])
    (fun i => ⟨[.live 26 [.int .i64 tv, .int .i64 th, .row n 2 (nestF 1 2 A M V), .int .i64 he, .int .i64 hr], .live 26 [.int .i64 0, .int .i64 0, .vec 0 0, .int .i64 0, .int .i64 0], .live 26 [.int .i64 tv, .int .i64 0, .vec 2 i.1, .int .i64 0, .int .i64 0]], [.live 0 50 2 0 (fun _ _ => .any), .live 0 50 2 0 (fun _ _ => .any), .live i.1 50 2 i.1 (nestF 1 2 A M (coV V))]⟩) (fun i => n - i.1) (fun _ => ⟨rfl, rfl⟩) ⟨0, by omega⟩ (by (apply sub_of <;> simp only [go_sem, ↓reduceIte, Nat.reduceAdd, Nat.reduceSub, Nat.reduceMul, Nat.reduceEqDiff, Nat.reduceLT, Nat.reduceLeDiff, Int.reduceToNat, Int.reduceLE, Int.reduceLT, Int.reduceEq, Int.reduceNeg, reduceCtorEq] <;> (try simp [catF])); all_goals (repeat' first | assumption | exact nestF_bd _ _ _ _ _ _ _ _ _ | exact nestF_bd1 _ _ _ _ _ _ _ _ _ | exact fun _ _ => nestF_bd1 _ _ _ _ _ _ _ _ _ | exact fun _ _ _ _ => nestF_bd1 _ _ _ _ _ _ _ _ _ | exact fun x hx => catF_one _ hx | refine And.intro ?_ ?_)) ?_
  rintro ⟨i, hi⟩
  simp only [nestF11_0, nestF11_1, frzF_nest, Try.f18, go_sem, ↓reduceIte, Nat.reduceAdd, Nat.reduceSub, Nat.reduceMul, Nat.reduceEqDiff, Nat.reduceLT, Nat.reduceLeDiff, Int.reduceToNat, Int.reduceLE, Int.reduceLT, Int.reduceEq, Int.reduceNeg, reduceCtorEq]
  refine ⟨fun e1 => ?_, fun e1 => ?_⟩
  all_goals simp only [decide_eq_true_eq, decide_eq_false_iff_not] at e1
  rotate_left
  · obtain rfl : i = n := by omega
    exact ⟨nestF_bd _ _ _ _ _ _ _ _ _, SameD.agg ⟨SameD.rfl' _, SameD.rfl' _, SameD.rfl' _, SameD.rfl' _, SameD.rfl' _, trivial⟩⟩
  have ik : i < n := by omega
  have pM := p2 i ik
  refine ⟨⟨by omega, by omega⟩, ?_⟩
  refine loop_of { k : Nat // k ≤ M i } (fun k => [(27, .int .i64 (k.1 : Int)), (26, .int .i64 (M i : Int)), (25, .row (M i) 2 fun a b => .int .i64 (V i a b)), (6, .ptr 4 0), (17, .int .i64 (i : Int)), (16, .int .i64 (n : Int)), (15, .row n 2 (nestF 1 2 A M V)), (3, .ptr 2 0), (2, .ptr 1 0)])
    (fun k => ⟨[.live 26 [.int .i64 tv, .int .i64 th, .row n 2 (nestF 1 2 A M V), .int .i64 he, .int .i64 hr], .live 26 [.int .i64 0, .int .i64 0, .vec 0 0, .int .i64 0, .int .i64 0], .live 26 [.int .i64 tv, .int .i64 0, .vec 2 i, .int .i64 0, .int .i64 0], .live 50 [.int .i64 (A i 0), .row (M i) 2 fun a b => .int .i64 (V i a b)], .live 50 [.int .i64 (A i 0), .vec 5 k.1]],
      [.live 0 50 2 0 (fun _ _ => .any), .live 0 50 2 0 (fun _ _ => .any), .live i 50 2 i (nestF 1 2 A M (coV V)), .live 0 23 2 0 (fun _ _ => .any), .live 0 23 2 0 (fun _ _ => .any), .live k.1 23 2 k.1 (fun a b => .int .i64 (coV V i a b))]⟩) (fun k => M i - k.1) (fun _ => ⟨rfl, rfl⟩) ⟨0, by omega⟩ (by (apply sub_of <;> simp only [go_sem, ↓reduceIte, Nat.reduceAdd, Nat.reduceSub, Nat.reduceMul, Nat.reduceEqDiff, Nat.reduceLT, Nat.reduceLeDiff, Int.reduceToNat, Int.reduceLE, Int.reduceLT, Int.reduceEq, Int.reduceNeg, reduceCtorEq] <;> (try simp [catF])); all_goals (repeat' first | assumption | exact nestF_bd _ _ _ _ _ _ _ _ _ | exact nestF_bd1 _ _ _ _ _ _ _ _ _ | exact fun _ _ => nestF_bd1 _ _ _ _ _ _ _ _ _ | exact fun _ _ _ _ => nestF_bd1 _ _ _ _ _ _ _ _ _ | exact fun x hx => catF_one _ hx | refine And.intro ?_ ?_)) ?_
  rintro ⟨k, hk⟩
  simp only [nestF11_0, nestF11_1, frzF_nest, Try.f18, go_sem, ↓reduceIte, Nat.reduceAdd, Nat.reduceSub, Nat.reduceMul, Nat.reduceEqDiff, Nat.reduceLT, Nat.reduceLeDiff, Int.reduceToNat, Int.reduceLE, Int.reduceLT, Int.reduceEq, Int.reduceNeg, reduceCtorEq]
  refine ⟨fun e2 => ?_, fun e2 => ?_⟩
  all_goals simp only [decide_eq_true_eq, decide_eq_false_iff_not] at e2
  · have kk : k < M i := by omega
    refine ⟨⟨by omega, by omega⟩, ⟨by omega, by omega⟩, ⟨k + 1, by omega⟩, by simp only []; omega, ?_⟩
    apply sub_of <;> simp only [wrap_s kk pM, go_sem, ↓reduceIte, Nat.reduceAdd, Nat.reduceSub, Nat.reduceMul, Nat.reduceEqDiff, Nat.reduceLT, Nat.reduceLeDiff, Int.reduceToNat, Int.reduceLE, Int.reduceLT, Int.reduceEq, Int.reduceNeg, reduceCtorEq] <;> (try simp)
    · intro x y hx hy
      rcases Nat.lt_or_ge x k with h1 | h1
      · simp only [catF, if_pos h1]
      · obtain rfl : x = k := by omega
        simp only [catF, if_neg (Nat.lt_irrefl _), Nat.sub_self]
        rcases two hy with rfl | rfl <;> rfl
    all_goals (repeat' first | assumption | exact nestF_bd _ _ _ _ _ _ _ _ _ | exact nestF_bd1 _ _ _ _ _ _ _ _ _ | exact fun _ _ => nestF_bd1 _ _ _ _ _ _ _ _ _ | exact fun _ _ _ _ => nestF_bd1 _ _ _ _ _ _ _ _ _ | exact fun x hx => catF_one _ hx | refine And.intro ?_ ?_)
  · obtain rfl : k = M i := by omega
    refine ⟨⟨by omega, by omega⟩, ⟨i + 1, by omega⟩, by simp only []; omega, ?_⟩
    refine sub_fz 5 2 (nestF 1 2 A M (coV V)) rfl rfl (by decide) ?_ ?_
    · intro x y hx hy
      rcases Nat.lt_or_ge x i with h1 | h1
      · left
        simp only [catF, if_pos h1]
      · obtain rfl : x = i := by omega
        rcases two hy with rfl | rfl
        · left
          simp only [catF, if_neg (Nat.lt_irrefl _), Nat.sub_self]; rfl
        · right
          exact ⟨by simp only [catF, if_neg (Nat.lt_irrefl _), Nat.sub_self]; rfl, rfl⟩
    · apply sub_of <;> simp only [wrap_s ik p1, go_sem, ↓reduceIte, Nat.reduceAdd, Nat.reduceSub, Nat.reduceMul, Nat.reduceEqDiff, Nat.reduceLT, Nat.reduceLeDiff, Int.reduceToNat, Int.reduceLE, Int.reduceLT, Int.reduceEq, Int.reduceNeg, reduceCtorEq] <;> (try simp)
      all_goals (repeat' first | assumption | exact nestF_bd _ _ _ _ _ _ _ _ _ | exact nestF_bd1 _ _ _ _ _ _ _ _ _ | exact fun _ _ => nestF_bd1 _ _ _ _ _ _ _ _ _ | exact fun _ _ _ _ => nestF_bd1 _ _ _ _ _ _ _ _ _ | exact fun x hx => catF_one _ hx | refine And.intro ?_ ?_)
end Go.Eng
end

/- An own slice that is given away is foreign from then on. -/
section
namespace Go.Eng
open Go Go.RowKit Go.Proofs
/-- A call that is given an own slice for good. -/
theorem calls_give {P : Program} {g : Nat} {l1 l2 : List SV} {h : HS} {K : Out → HS → Prop} {id ver ty sz n f} (hg : getV h.vecs id = .live ver ty sz n f)
    (hc : CallsS P g (l1 ++ .row n sz f :: l2) { h with vecs := setV h.vecs id .dead } K) : CallsS P g (l1 ++ .vec id ver :: l2) h K := fun E w vals hr hd => by
  have hx := give_ext E id w
  refine (hc (E.give id) w vals (give_rel hr id) ⟨by rw [hd.1]; simp, fun i x u hy hu => ?_⟩).mono ?_
  · rcases Nat.lt_trichotomy i l1.length with hi | hi | hi
    · rw [List.getElem?_append_left hi] at hy
      exact (hd.2 i x u (by rw [List.getElem?_append_left hi]; exact hy) hu).ext hx
    · subst hi
      rw [List.getElem?_append_right (Nat.le_refl _)] at hy
      simp only [Nat.sub_self, List.getElem?_cons_zero, Option.some.injEq] at hy
      subst hy
      exact give_den hr hg (hd.2 l1.length _ u (by rw [List.getElem?_append_right (Nat.le_refl _)]; simp) hu)
    · rw [List.getElem?_append_right (by omega)] at hy
      obtain ⟨k, hk⟩ : ∃ k, i - l1.length = k + 1 := ⟨i - l1.length - 1, by omega⟩
      rw [hk, List.getElem?_cons_succ] at hy
      exact (hd.2 i x u (by rw [List.getElem?_append_right (by omega), hk, List.getElem?_cons_succ]; exact hy) hu).ext hx
  · rintro e w' ⟨o, h', E', q, r1, r2, r3⟩
    exact ⟨o, h', E', q, r1, hx.trans r2, r3⟩
/-- A call from a memory of which more is known. -/
theorem calls_pre {P : Program} {g : Nat} {args args' : List SV} {h h' : HS} {K : Out → HS → Prop} (hs : SubS args h (args', h')) (hB : lenB h'.blks = lenB h.blks) (hV : lenV h'.vecs = lenV h.vecs) (hc : CallsS P g args' h' K) : CallsS P g args h K := fun E w vals hr hd => by
  obtain ⟨g1, g2⟩ := hs.go hd hr E.nb E.nv (hB.trans hr.nb.symm) (hV.trans hr.nv.symm) (Nat.le_refl _) (Nat.le_refl _)
  exact hc E w vals g2 g1
end Go.Eng
end

/- brine: cold plants, all events; Play with events of one's own. -/
section
namespace Go.Eng
open Go Go.RowKit Go.Proofs
set_option maxRecDepth 100000
set_option maxHeartbeats 4000000
attribute [local irreducible] OwnT DefS
theorem doM_he {N : Nat} {room : Nat → Int} {s : TkP} {R : Rst} {k p a h : Int} (hk : k = 0 ∨ k = 2 ∨ k = 3 ∨ k = 1) : (doM N room s R k p a h).2.2.he = R.he ∧ (doM N room s R k p a h).2.2.hr = R.hr := by
  rcases hk with rfl | rfl | rfl | rfl
  · simp only [doM, if_true, pumpM]; split <;> (try split) <;> exact ⟨rfl, rfl⟩
  · simp only [doM, show ¬ ((2 : Int) = 0) by decide, show ¬ ((2 : Int) = 1) by decide, if_false, if_true, leakM]; split <;> exact ⟨rfl, rfl⟩
  · simp only [doM, show ¬ ((3 : Int) = 0) by decide, show ¬ ((3 : Int) = 1) by decide, show ¬ ((3 : Int) = 2) by decide, if_false, if_true, fillM]; split <;> (try split) <;> exact ⟨rfl, rfl⟩
  · simp only [doM, show ¬ ((1 : Int) = 0) by decide, if_false, if_true, warmM]; split <;> (try split) <;> exact ⟨rfl, rfl⟩
theorem plM_he {N : Nat} {room : Nat → Int} {s : TkP} {R : Rst} {x : Nat → Nat → Int} : ∀ m, (∀ i, i < m → (x i 0 = 0 ∨ x i 0 = 2 ∨ x i 0 = 3 ∨ x i 0 = 1)) → (plM N room s R x m).R.he = R.he ∧ (plM N room s R x m).R.hr = R.hr
  | 0, _ => ⟨rfl, rfl⟩
  | j + 1, h => by
    have h1 := plM_he (N := N) (room := room) (s := s) (R := R) (x := x) j (fun i hi => h i (by omega))
    have h2 := doM_he (N := N) (room := room) (s := (plM N room s R x j).s) (R := (plM N room s R x j).R) (p := x j 1) (a := x j 2) (h := x j 3) (h j (by omega))
    simp only [plM]
    split
    · split
      · exact ⟨h2.1.trans h1.1, h2.2.trans h1.2⟩
      · exact h1
    · exact h1
theorem slL_cold (n : Nat) (V : Nat → Nat → Int) : slL n (fun k j => if j = 0 then V k 0 else 0) = cL (slL n V) := by
  simp only [slL, cL, List.map_map]
  refine List.map_congr_left fun i _ => ?_
  simp [cS]
theorem okBr_cold {tv th : Int} {n : Nat} {A : Nat → Nat → Int} {M : Nat → Nat} {V : Nat → Nat → Nat → Int} {he hr : Int} (h : okBr tv th n A M V he hr = true) : okBr tv 0 n A M (coV V) 0 0 = true := by
  simp only [okBr, Bool.and_eq_true, Bool.or_eq_true, in3_iff, decide_eq_true_eq, allU_iff] at h ⊢
  obtain ⟨⟨h1, h2, h3⟩, ⟨h4, h5⟩, h6, h7⟩ := h
  refine ⟨⟨h1, by decide, by simp⟩, ⟨by decide, by decide⟩, h6, fun i hi => ?_⟩
  have := h7 i hi
  simp only [okPp, Bool.and_eq_true, in3_iff, decide_eq_true_eq, allU_iff] at this ⊢
  refine ⟨this.1, this.2.1, fun k hk => ?_, ?_⟩
  · have h9 := this.2.2.1 k hk
    simp only [okS, Bool.and_eq_true, in3_iff, coV] at h9 ⊢
    exact ⟨h9.1, by simp⟩
  · have e : slL (M i) (coV V i) = cL (slL (M i) (V i)) := slL_cold _ _
    rw [e, smL_cold]
    exact this.2.2.2
theorem plA_cold {tv th : Int} {n : Nat} {A : Nat → Nat → Int} {M : Nat → Nat} {V : Nat → Nat → Nat → Int} {he hr : Int} {m : Nat} {x y : Nat → Nat → Int} (hok : okBr tv th n A M V he hr = true) (hm : m ≤ 256)
    (hx : ∀ i, i < m → (x i 0 = 0 ∨ x i 0 = 2 ∨ x i 0 = 3 ∨ x i 0 = 1) ∧ y i 0 = x i 0 ∧ y i 1 = x i 1 ∧ y i 2 = x i 2 ∧ y i 3 = 0) :
    (plA tv th n A M V he hr m x).e = 1 ∨ ((plA tv 0 n A M (coV V) 0 0 m y).e = (plA tv th n A M V he hr m x).e ∧ (plA tv 0 n A M (coV V) 0 0 m y).n = (plA tv th n A M V he hr m x).n ∧ (plA tv 0 n A M (coV V) 0 0 m y).s = cT (plA tv th n A M V he hr m x).s ∧
      Lit2 (plA tv 0 n A M (coV V) 0 0 m y).R (plA tv th n A M V he hr m x).R ∧ (plA tv 0 n A M (coV V) 0 0 m y).R.he = 0 ∧ (plA tv 0 n A M (coV V) 0 0 m y).R.hr = 0) := by
  unfold plA
  rw [if_pos hok, if_neg (by omega), if_pos (okBr_cold hok), if_neg (by omega)]
  have e : s00 tv 0 M (coV V) = cT (s00 tv th M V) := by
    simp only [s00, cT, cS]
    congr 1
    funext i
    exact slL_cold _ _
  rw [e]
  rcases plM_cold (N := n) (room := fun i => A i 0) (s := s00 tv th M V) (R := R00 he hr) (R' := R00 0 0) ⟨rfl, rfl⟩ m hx with q | ⟨q1, q2, q3, q4⟩
  · exact .inl q
  · have q5 := plM_he (N := n) (room := fun i => A i 0) (s := cT (s00 tv th M V)) (R := R00 0 0) (x := y) m (fun i hi => by rw [(hx i hi).2.1]; exact (hx i hi).1)
    exact .inr ⟨q1, q2, q3, q4, q5.1, q5.2⟩
theorem nestF_nsA (A : Nat → Nat → Int) (M M' : Nat → Nat) (V V' : Nat → Nat → Nat → Int) : nestF 1 2 (nsA (nestF 1 2 A M V)) M' V' = nestF 1 2 A M' V' := by
  funext i j
  simp only [nestF]
  split
  · rfl
  · rename_i h; rw [nsA_lit _ h]
theorem plS1_ns {n : Nat} {A : Nat → Nat → Int} {M : Nat → Nat} {V : Nat → Nat → Nat → Int} {r : PlR} : plS1 n (nsA (nestF 1 2 A M V)) r = plS1 n A r := by
  have e : ∀ s, piR (nsA (nestF 1 2 A M V)) s = piR A s := fun s => by simp only [piR, nsA_A]
  simp only [plS1, e]
theorem play_own {tv th : Int} {n : Nat} (hn : n ≤ 1000) {A : Nat → Nat → Int} {M : Nat → Nat} (hM : ∀ i, i < n → M i ≤ 1000) {V : Nat → Nat → Nat → Int} {he hr : Int} {m : Nat} (hm : m ≤ 1000000) {x : Nat → Nat → Int} {h : HS} {id v ty : Nat} {F : Nat → Nat → SV} (hk : getV h.vecs id = .live v ty 4 m F) (hF : ∀ i j, i < m → j < 4 → F i j = .int .i64 (x i j)) :
    CallsS Try.prog 14 [.agg [.int .i64 tv, .int .i64 th, .row n 2 (nestF 1 2 A M V), .int .i64 he, .int .i64 hr], .vec id v] h (fun o h' => o = .ret (plS1 n A (plA tv th n A M V he hr m x)) ∧ h' = { h with vecs := setV h.vecs id .dead }) := by
  refine calls_give (l1 := [.agg [.int .i64 tv, .int .i64 th, .row n 2 (nestF 1 2 A M V), .int .i64 he, .int .i64 hr]]) (l2 := []) hk ?_
  refine calls_congr (args' := [.agg [.int .i64 tv, .int .i64 th, .row n 2 (nestF 1 2 A M V), .int .i64 he, .int .i64 hr], .row m 4 (fun i j => .int .i64 (x i j))]) ⟨SameD.rfl' _, SameD.rowD fun i j hi hj => by rw [hF i j hi hj]; exact SameD.rfl' _, trivial⟩ ?_
  obtain ⟨b1, b2, b3⟩ := nb_calls (g := 14) (P := Try.prog) (args := [.agg [.int .i64 tv, .int .i64 th, .row n 2 (nestF 1 2 A M V), .int .i64 he, .int .i64 hr], .row m 4 (fun i j => .int .i64 (x i j))]) (args' := [.agg [.int .i64 tv, .int .i64 th, .row n 2 (nestF 1 2 A M V), .int .i64 he, .int .i64 hr], .row m 4 (fun i j => .int .i64 (x i j))])
    (K := PlayK n (fun i => A i 0) (plA tv th n A M V he hr m x)) (v := plS1 n A (plA tv th n A M V he hr m x))
    (by simp only [BdL, Bd, and_self, and_true, true_and, implies_true]; exact nestF_bd _ _ _ _ _ _ _ _ _) ⟨SameD.rfl' _, SameD.rfl' _, trivial⟩ (plS1_bd _ _ _) (play_calls hn A M V hM tv th he hr hm x) (fun o h' hk => pl_frz hk)
  exact frame_calls b3 b1 (fun o => o = .ret _) (fun o h' e => by subst e; exact ⟨rfl, b2⟩) _
end Go.Eng
end

/- brine: Play, with a plant of the caller's own. -/
section
namespace Go.Eng
open Go Go.RowKit Go.Proofs
set_option maxRecDepth 100000
set_option maxHeartbeats 4000000
attribute [local irreducible] OwnT DefS
def PlayT (n : Nat) (room : Nat → Int) (r : PlR) (o : Out) (h' : HS) : Prop :=
  (r.e ≠ 0 ∧ o = .ret (.tup [brS 0 0 (.vec 0 0) 0 0, smS (R00 0 0), .int .i64 (r.n : Int), .int .i64 r.e]) ∧ h' = ⟨[], [.live 0 50 2 0 (fun _ _ => .any)]⟩) ∨
  (r.e = 0 ∧ ∃ ver, o = .ret (.tup [brS r.s.t.1 r.s.t.2 (.vec 1 0) r.R.he r.R.hr, smS r.R, .int .i64 (r.n : Int), .int .i64 0]) ∧ h' = ⟨[], fam [.dead, pipes2 n room ver] n (fun i => slV (ver i) (r.s.sl i)) []⟩)
theorem play_bdV {n : Nat} {room : Nat → Int} {ver : Nat → Nat} {f : Nat → Vc} (hf : ∀ L K i, bdV L K [f i]) : bdV 0 (lenV (fam [.dead, pipes2 n room ver] n f [])) (fam [.dead, pipes2 n room ver] n f []) := by
  refine bdV_famI (pre := [.dead, pipes2 n room ver]) ⟨fun i j hi hj => ?_, trivial⟩ (fun _ _ => hf _ _ _) trivial
  have : j = 0 ∨ j = 1 := by omega
  rcases this with rfl | rfl
  · trivial
  · show fI 2 i < _
    simp only [fam_lenV, fI, fP, lenV]; omega
theorem subB_nil' (B : List Blk) : subB B [] := by cases B <;> exact trivial
theorem play_trim {n : Nat} (hn : n ≤ 1000) (A : Nat → Nat → Int) (M : Nat → Nat) (V : Nat → Nat → Nat → Int) (hM : ∀ i, i < n → M i ≤ 1000) (tv th he hr : Int) {m : Nat} (hm : m ≤ 1000000) (x : Nat → Nat → Int) :
    CallsS Try.prog 14 [brS tv th (.row n 2 (nestF 1 2 A M V)) he hr, .row m 4 (fun i j => .int .i64 (x i j))] ⟨[], []⟩ (PlayT n (fun i => A i 0) (plA tv th n A M V he hr m x)) := by
  refine calls_trim2 (play_calls hn A M V hM tv th he hr hm x) ?_
  generalize plA tv th n A M V he hr m x = r
  rintro o h' (⟨h0, B, W, rfl, rfl⟩ | ⟨h0, ver, z, B, W, rfl, rfl⟩)
  · refine ⟨_, _, .ret (.tup [brS 0 0 (.vec 0 0) 0 0, smS (R00 0 0), .int .i64 (r.n : Int), .int .i64 r.e]), ⟨[], [.live 0 50 2 0 (fun _ _ => .any)]⟩, .inl ⟨rfl, rfl⟩, .inl ⟨h0, rfl, rfl⟩, ⟨⟨rfl, trivial⟩, subB_nil' _, ⟨⟨rfl, rfl, rfl, rfl, fun _ _ _ _ => rfl⟩, subV_nil _⟩, ⟨by simp [Bd, BdL, brS, smS, lenV], trivial⟩, trivial, ⟨fun _ _ _ _ => trivial, trivial⟩⟩, ⟨Nat.le_refl _, Nat.zero_le _⟩, ⟨Nat.zero_le _, by simp [lenV]⟩⟩
  · refine ⟨_, _, .ret (.tup [brS r.s.t.1 r.s.t.2 (.vec 1 0) r.R.he r.R.hr, smS r.R, .int .i64 (r.n : Int), .int .i64 0]), ⟨[], fam [.dead, pipes2 n (fun i => A i 0) ver] n (fun i => slV (ver i) (r.s.sl i)) []⟩, .inl ⟨rfl, rfl⟩, .inr ⟨h0, ver, rfl, rfl⟩, ⟨⟨rfl, trivial⟩, subB_nil' _, ?_, ⟨by simp only [Bd, BdL, brS, smS, fam_lenV, fP, lenV]; simp; omega, trivial⟩, trivial, ?_⟩, ⟨Nat.le_refl _, Nat.zero_le _⟩, ⟨Nat.zero_le _, ?_⟩⟩
    · exact subV_famI rfl (by simp [subV, subVk, pipes2]) (fun _ _ => subVk_rfl _) (subV_nil _)
    · exact play_bdV fun _ _ _ => slV_bd
    · simp only [fam_lenV, fP, lenV]; omega
def pipes5 (N : Nat) (room : Nat → Int) (ver : Nat → Nat) : Vc := .live 0 50 2 N (piF 5 room ver)
theorem pipes2_ren (N : Nat) (room : Nat → Int) (ver : Nat → Nat) : renC (fun n => n + 2) (fun n => n + 3) (pipes2 N room ver) = pipes5 N room ver := by
  simp only [pipes2, pipes5, renC]
  congr 1
  funext i j
  simp only [piF]
  split
  · rfl
  · split
    · simp only [renS, fI]; congr 1; omega
    · rfl
theorem slV_ren3 (v : Nat) (l : List Sl) : renC (fun n => n + 2) (fun n => n + 3) (slV v l) = slV v l := by simp [slV, renC, renS]
theorem play_three {n : Nat} (hn : n ≤ 1000) (A : Nat → Nat → Int) (M : Nat → Nat) (V : Nat → Nat → Nat → Int) (hM : ∀ i, i < n → M i ≤ 1000) (tv th he hr : Int) {m : Nat} (hm : m ≤ 1000000) (x : Nat → Nat → Int) (b0 b1 : Blk) (v0 v1 v2 : Vc) {r : PlR} (hr0 : plA tv th n A M V he hr m x = r) :
    CallsS Try.prog 14 [.agg [.int .i64 tv, .int .i64 th, .row n 2 (nestF 1 2 A M V), .int .i64 he, .int .i64 hr], .row m 4 (fun i j => .int .i64 (x i j))] ⟨[b0, b1], [v0, v1, v2]⟩ (fun o h' =>
      (r.e ≠ 0 ∧ o = .ret (.tup [brS 0 0 (.vec 3 0) 0 0, smS (R00 0 0), .int .i64 (r.n : Int), .int .i64 r.e]) ∧ h' = ⟨[b0, b1], [v0, v1, v2, .live 0 50 2 0 (fun _ _ => .any)]⟩) ∨
      (r.e = 0 ∧ ∃ ver, o = .ret (.tup [brS r.s.t.1 r.s.t.2 (.vec 4 0) r.R.he r.R.hr, smS r.R, .int .i64 (r.n : Int), .int .i64 0]) ∧ h' = ⟨[b0, b1], fam [v0, v1, v2, .dead, pipes5 n (fun i => A i 0) ver] n (fun i => slV (ver i) (r.s.sl i)) []⟩)) := by
  subst hr0
  refine calls_mono ?_ (calls_grow (play_trim hn A M V hM tv th he hr hm x) ?_ ?_ _)
  · generalize plA tv th n A M V he hr m x = r
    rintro o h' ⟨o0, h0', (⟨h0, rfl, rfl⟩ | ⟨h0, ver, rfl, rfl⟩), rfl, rfl⟩
    · exact .inl ⟨h0, rfl, by simp [appB, appV, renC, renS]⟩
    · refine .inr ⟨h0, ver, rfl, ?_⟩
      simp only [appB, appV, appV_nil, fam_map, List.map_cons, List.map_nil, lenB, lenV, Nat.zero_add, Nat.reduceAdd, pipes2_ren, slV_ren3]
      rfl
  · simp only [BdL, Bd, brS, and_self, and_true, true_and, implies_true]
    exact nestF_bd _ _ _ _ _ _ _ _ _
  · generalize plA tv th n A M V he hr m x = r
    rintro o h' (⟨h0, rfl, rfl⟩ | ⟨h0, ver, rfl, rfl⟩)
    · exact ⟨trivial, ⟨fun _ _ _ _ => trivial, trivial⟩, by simp [bdO, Bd, BdL, brS, smS, lenV]⟩
    · exact ⟨trivial, play_bdV fun _ _ _ => slV_bd, by simp only [bdO, Bd, BdL, brS, smS, fam_lenV, fP, lenV]; simp; omega⟩
theorem play_any {n : Nat} (hn : n ≤ 1000) (A : Nat → Nat → Int) (M : Nat → Nat) (V : Nat → Nat → Nat → Int) (hM : ∀ i, i < n → M i ≤ 1000) (tv th he hr : Int) {m : Nat} (hm : m ≤ 1000000) (x : Nat → Nat → Int) {r : PlR} (hr0 : plA tv th n A M V he hr m x = r) (h : HS) :
    CallsS Try.prog 14 [.agg [.int .i64 tv, .int .i64 th, .row n 2 (nestF 1 2 A M V), .int .i64 he, .int .i64 hr], .row m 4 (fun i j => .int .i64 (x i j))] h (fun o h' => o = .ret (plS1 n A r) ∧ h' = h) := by
  subst hr0
  obtain ⟨b1, b2, b3⟩ := nb_calls (g := 14) (P := Try.prog) (args := [.agg [.int .i64 tv, .int .i64 th, .row n 2 (nestF 1 2 A M V), .int .i64 he, .int .i64 hr], .row m 4 (fun i j => .int .i64 (x i j))]) (args' := [.agg [.int .i64 tv, .int .i64 th, .row n 2 (nestF 1 2 A M V), .int .i64 he, .int .i64 hr], .row m 4 (fun i j => .int .i64 (x i j))])
    (K := PlayK n (fun i => A i 0) (plA tv th n A M V he hr m x)) (v := plS1 n A (plA tv th n A M V he hr m x))
    (by simp only [BdL, Bd, and_self, and_true, true_and, implies_true]; exact nestF_bd _ _ _ _ _ _ _ _ _) ⟨SameD.rfl' _, SameD.rfl' _, trivial⟩ (plS1_bd _ _ _) (play_calls hn A M V hM tv th he hr hm x) (fun o h' hk => pl_frz hk)
  exact frame_calls b3 b1 (fun o => o = .ret _) (fun o h' e => by subst e; exact ⟨rfl, b2⟩) _
end Go.Eng
end

/- brine: nothing is changed, and what is returned is new. -/
section
namespace Go.Eng
open Go Go.RowKit Go.Proofs
set_option maxRecDepth 100000
set_option maxHeartbeats 4000000
attribute [local irreducible] OwnT DefS
theorem catF0 (f g : Nat → Nat → SV) : catF 0 f g = g := by funext i j; simp [catF]
theorem ow_bd {n m : Nat} {A : Nat → Nat → Int} {M : Nat → Nat} {V : Nat → Nat → Nat → Int} {x : Nat → Nat → Int} {ver : Nat → Nat} {rm : Nat → Int} {G : Nat → Nat → Nat → Int} {lens : Nat → Nat} (L : Nat) :
    bdV L (fP 5 n 1) (fam [.live 0 50 2 0 (fun _ _ => .any), .live n 50 2 n (nestF 1 2 A M V), .live 1 39 4 m (fun i j => .int .i64 (x i j)), .dead, .live 0 50 2 n (piF 5 rm ver)] n (fun a => .live (ver a) 23 2 (lens a) fun k j => .int .i64 (G a k j)) [.live 0 50 2 0 (fun _ _ => .any)]) := by
  refine bdV_famI ⟨fun _ _ _ _ => trivial, nestF_bd _ _ _ _ _ _ _ _ _, fun _ _ _ _ => trivial, fun i j hi hj => ?_, trivial⟩ (fun _ _ => ⟨fun _ _ _ _ => trivial, trivial⟩) ⟨fun _ _ _ _ => trivial, trivial⟩
  have : j = 0 ∨ j = 1 := by omega
  rcases this with rfl | rfl
  · trivial
  · show fI 5 i < _
    simp only [fI, fP]; omega
theorem ow_bd2 {n m : Nat} {A : Nat → Nat → Int} {M : Nat → Nat} {V : Nat → Nat → Nat → Int} {x : Nat → Nat → Int} {ver : Nat → Nat} {rm : Nat → Int} {G : Nat → Nat → Nat → Int} {lens : Nat → Nat} (L : Nat) :
    bdV L (fP 5 n 2) (fam [.live 0 50 2 0 (fun _ _ => .any), .live n 50 2 n (nestF 1 2 A M V), .live 1 39 4 m (fun i j => .int .i64 (x i j)), .dead, .live 0 50 2 n (piF 5 rm ver)] n (fun a => .live (ver a) 23 2 (lens a) fun k j => .int .i64 (G a k j)) [.live 0 50 2 0 (fun _ _ => .any), .live 0 50 2 0 (fun _ _ => .any)]) := by
  refine bdV_famI ⟨fun _ _ _ _ => trivial, nestF_bd _ _ _ _ _ _ _ _ _, fun _ _ _ _ => trivial, fun i j hi hj => ?_, trivial⟩ (fun _ _ => ⟨fun _ _ _ _ => trivial, trivial⟩) ⟨fun _ _ _ _ => trivial, fun _ _ _ _ => trivial, trivial⟩
  have : j = 0 ∨ j = 1 := by omega
  rcases this with rfl | rfl
  · trivial
  · show fI 5 i < _
    simp only [fI, fP]; omega
def gSet (G : Nat → Nat → Nat → Int) (a k : Nat) : Nat → Nat → Nat → Int := fun b c j => if b = a ∧ c = k ∧ j = 0 then -1 else G b c j
def rSet (rm : Nat → Int) (a : Nat) : Nat → Int := fun b => if b = a then -1 else rm b
theorem gSet_at (G : Nat → Nat → Nat → Int) (a k c j : Nat) : updF (fun k j => .int .i64 (G a k j)) k 0 1 [.int .i64 (-1)] c j = .int .i64 (gSet G a k a c j) := by
  simp only [updF, gSet]
  by_cases h1 : c = k
  · by_cases h2 : j = 0
    · subst h1 h2; simp [nth]
    · rw [if_neg (by omega), if_neg (by omega)]
  · rw [if_neg (by omega), if_neg (by omega)]
theorem gSet_ne (G : Nat → Nat → Nat → Int) {a b : Nat} (k c j : Nat) (h : b ≠ a) : gSet G a k b c j = G b c j := by
  simp only [gSet]; rw [if_neg (by omega)]
theorem rSet_at (rm : Nat → Int) (ver : Nat → Nat) (a c j : Nat) : updF (piF 5 rm ver) a 0 1 [.int .i64 (-1)] c j = piF 5 (rSet rm a) ver c j := by
  simp only [updF, piF, rSet]
  by_cases h1 : c = a
  · by_cases h2 : j = 0
    · subst h1 h2; simp [nth]
    · rw [if_neg (by omega)]; simp [h2]
  · rw [if_neg (by omega)]; simp [h1]
theorem samB_rf (tv th : Int) (n : Nat) (A : Nat → Nat → Int) (M : Nat → Nat) (V : Nat → Nat → Nat → Int) (he hr : Int) : samB tv th n A M V he hr tv th n A M V he hr = true := by
  simp only [samB, samP, decide_true, Bool.true_and, allU_true fun _ _ => rfl]
def brineOwnsBase : BaseF := fun args => match args with
  | [.agg [.int .i64 tv, .int .i64 th, .row n sz_A f_A, .int .i64 he, .int .i64 hr], .row m sz_x f_x] => some ((sz_A = 2 ∧ NestR n 2 1 2 f_A) ∧ (sz_x = 4 ∧ IntR m 4 f_x), .bool true)
  | _ => none
theorem brineOwns_eq (tv : Int) (th : Int) (n : Nat) (sz_A : Nat) (f_A : Nat → Nat → SV) (he : Int) (hr : Int) (m : Nat) (sz_x : Nat) (f_x : Nat → Nat → SV) : brineOwnsBase [.agg [.int .i64 tv, .int .i64 th, .row n sz_A f_A, .int .i64 he, .int .i64 hr], .row m sz_x f_x] = some ((sz_A = 2 ∧ NestR n 2 1 2 f_A) ∧ (sz_x = 4 ∧ IntR m 4 f_x), .bool true) := rfl
theorem brineOwns_base : Base Try.prog 6 brineOwnsBase := by
  intro args p v hq hp
  unfold brineOwnsBase at hq
  split at hq
  rotate_left
  · cases hq
  rename_i tv th n sz_A f_A he hr m sz_x f_x
  cases hq
  obtain ⟨⟨rfl, i_A⟩, ⟨rfl, i_x⟩⟩ := hp
  refine base_of (C := cx [14] [] [(12, greatBase), (13, aliveBase), (17, SameBase)] [(6, 29, p6_29)] none) (cx_ok trivial ⟨great_base, alive_base, Same_base, trivial⟩) rfl (g := 6) (fn := Try.f6)
    (args' := [.agg [.int .i64 tv, .int .i64 th, .row n 2 (nestF 1 2 (nsA f_A) (nsM 1 f_A) (nsV 1 f_A)), .int .i64 he, .int .i64 hr], .row m 4 (rowF .i64 (ivf f_x))]) (fn_6) rfl 1000 (by
    simp only [BdL, Bd, and_self, and_true, true_and]
    exact ⟨(fun i j hi hj => nest_bd i_A i j hi hj), (fun i j hi hj => by rw [i_x i j hi hj]; trivial)⟩) ⟨SameD.agg ⟨SameD.rfl' _, SameD.rfl' _, SameD.nest i_A, SameD.rfl' _, SameD.rfl' _, trivial⟩, SameD.int i_x, trivial⟩ ?_
  generalize nsA f_A = A
  generalize nsM 1 f_A = M
  generalize nsV 1 f_A = V
  generalize ivf f_x = x
  simp only [rowF_eq]
  cases hg : grM n M with
  | true => simp only [hg, great_eq, alive_eq, Same_eq, p6_29, catF0, samB_ns1, samB_ns2, frzF_nest, nestR_lit, nsM_lit, nsV_lit, nestF11_0, nestF11_1, Try.f6, go_sem, ↓reduceIte, Nat.reduceAdd, Nat.reduceSub, Nat.reduceMul, Nat.reduceEqDiff, Nat.reduceLT, Nat.reduceLeDiff, Int.reduceToNat, Int.reduceLE, Int.reduceLT, Int.reduceEq, Int.reduceNeg, reduceCtorEq]
  | false =>
  by_cases hm : 40 < m
  · have e1 : decide (40 < (m : Int)) = true := decide_eq_true (by omega)
    simp only [hg, e1, great_eq, alive_eq, Same_eq, p6_29, catF0, samB_ns1, samB_ns2, frzF_nest, nestR_lit, nsM_lit, nsV_lit, nestF11_0, nestF11_1, Try.f6, go_sem, ↓reduceIte, Nat.reduceAdd, Nat.reduceSub, Nat.reduceMul, Nat.reduceEqDiff, Nat.reduceLT, Nat.reduceLeDiff, Int.reduceToNat, Int.reduceLE, Int.reduceLT, Int.reduceEq, Int.reduceNeg, reduceCtorEq]
  have e1 : decide (40 < (m : Int)) = false := decide_eq_false (by omega)
  obtain ⟨g1, g2⟩ := grM_no hg
  have c1 : n ≤ 1000 := by omega
  have c3 : n ≤ 1000000 := by omega
  have hM : ∀ i, i < n → M i ≤ 1000 := fun i hi => by have := g2 i hi; omega
  simp only [hg, e1, great_eq, alive_eq, Same_eq, p6_29, catF0, samB_ns1, samB_ns2, frzF_nest, nestR_lit, nsM_lit, nsV_lit, nestF11_0, nestF11_1, Try.f6, go_sem, ↓reduceIte, Nat.reduceAdd, Nat.reduceSub, Nat.reduceMul, Nat.reduceEqDiff, Nat.reduceLT, Nat.reduceLeDiff, Int.reduceToNat, Int.reduceLE, Int.reduceLT, Int.reduceEq, Int.reduceNeg, reduceCtorEq]
  refine loop_of { i : Nat // i ≤ n } (fun i => [(35, .int .i64 (i.1 : Int)), (34, .int .i64 (n : Int)), (33, .row n 2 (nestF 1 2 A M V)), (5, .ptr 1 0), (2, .ptr 0 0), (1, .row m 4 fun i j => .int .i64 (x i j))])
    (fun i => ⟨[.live 26 [.int .i64 tv, .int .i64 th, .row n 2 (nestF 1 2 A M V), .int .i64 he, .int .i64 hr], .live 26 [.int .i64 tv, .int .i64 th, .vec 1 i.1, .int .i64 he, .int .i64 hr]], [.live 0 50 2 0 (fun _ _ => .any), .live i.1 50 2 i.1 (nestF 1 2 A M V)]⟩) (fun i => n - i.1) (fun _ => ⟨rfl, rfl⟩) ⟨0, by omega⟩ (by (apply sub_of <;> simp only [go_sem, ↓reduceIte, Nat.reduceAdd, Nat.reduceSub, Nat.reduceMul, Nat.reduceEqDiff, Nat.reduceLT, Nat.reduceLeDiff, Int.reduceToNat, Int.reduceLE, Int.reduceLT, Int.reduceEq, Int.reduceNeg, reduceCtorEq] <;> (try simp [catF])); all_goals (repeat' first | assumption | exact nestF_bd _ _ _ _ _ _ _ _ _ | exact nestF_bd1 _ _ _ _ _ _ _ _ _ | exact fun _ _ => nestF_bd1 _ _ _ _ _ _ _ _ _ | exact fun _ _ _ _ => nestF_bd1 _ _ _ _ _ _ _ _ _ | exact fun x hx => catF_one _ hx | refine And.intro ?_ ?_)) ?_
  rintro ⟨i, hi⟩
  by_cases ik : i < n
  · have e2 : decide ((i : Int) < (n : Int)) = true := decide_eq_true (by omega)
    have hMi := g2 i ik
    simp only [e2, great_eq, alive_eq, Same_eq, p6_29, catF0, samB_ns1, samB_ns2, frzF_nest, nestR_lit, nsM_lit, nsV_lit, nestF11_0, nestF11_1, Try.f6, go_sem, ↓reduceIte, Nat.reduceAdd, Nat.reduceSub, Nat.reduceMul, Nat.reduceEqDiff, Nat.reduceLT, Nat.reduceLeDiff, Int.reduceToNat, Int.reduceLE, Int.reduceLT, Int.reduceEq, Int.reduceNeg, reduceCtorEq]
    refine ⟨⟨by omega, by omega⟩, ⟨by omega, by omega⟩, ⟨by omega, by omega⟩, ⟨i + 1, by omega⟩, by simp only []; omega, ?_⟩
    refine sub_fz 3 1 (nestF 1 2 A M V) rfl rfl (by decide) ?_ ?_
    · intro x y hx hy
      rcases Nat.lt_or_ge x i with h1 | h1
      · left
        simp only [catF, if_pos h1]
      · obtain rfl : x = i := by omega
        rcases two hy with rfl | rfl
        · left
          simp only [catF, if_neg (Nat.lt_irrefl _), Nat.sub_self]; rfl
        · right
          exact ⟨by simp only [catF, if_neg (Nat.lt_irrefl _), Nat.sub_self]; rfl, rfl⟩
    · apply sub_of <;> simp only [wrap_s ik c3, go_sem, ↓reduceIte, Nat.reduceAdd, Nat.reduceSub, Nat.reduceMul, Nat.reduceEqDiff, Nat.reduceLT, Nat.reduceLeDiff, Int.reduceToNat, Int.reduceLE, Int.reduceLT, Int.reduceEq, Int.reduceNeg, reduceCtorEq] <;> (try simp)
      all_goals (repeat' first | assumption | exact nestF_bd _ _ _ _ _ _ _ _ _ | exact nestF_bd1 _ _ _ _ _ _ _ _ _ | exact fun _ _ => nestF_bd1 _ _ _ _ _ _ _ _ _ | exact fun _ _ _ _ => nestF_bd1 _ _ _ _ _ _ _ _ _ | exact fun x hx => catF_one _ hx | refine And.intro ?_ ?_)
  obtain rfl : i = n := by omega
  have e2 : decide ((i : Int) < (i : Int)) = false := decide_eq_false (by omega)
  simp only [e2, great_eq, alive_eq, Same_eq, p6_29, catF0, samB_ns1, samB_ns2, frzF_nest, nestR_lit, nsM_lit, nsV_lit, nestF11_0, nestF11_1, Try.f6, go_sem, ↓reduceIte, Nat.reduceAdd, Nat.reduceSub, Nat.reduceMul, Nat.reduceEqDiff, Nat.reduceLT, Nat.reduceLeDiff, Int.reduceToNat, Int.reduceLE, Int.reduceLT, Int.reduceEq, Int.reduceNeg, reduceCtorEq]
  obtain ⟨r, hr0⟩ : ∃ r, plA tv th i A M V he hr m x = r := ⟨_, rfl⟩
  have hleft := plA_left (tv := tv) (th := th) (n := i) (A := A) (M := M) (V := V) (he := he) (hr := hr) (m := m) (x := x)
  have hokp := plA_ok (tv := tv) (th := th) (n := i) (A := A) (M := M) (V := V) (he := he) (hr := hr) (m := m) (x := x)
  rw [hr0] at hleft hokp
  refine ⟨⟨by omega, by omega⟩, ?_⟩
  unfold callS
  refine calls_mono ?_ (play_three c1 A M V hM tv th he hr (show m ≤ 1000000 by omega) x _ _ _ _ _ hr0)
  rintro o h' (⟨h0, rfl, rfl⟩ | ⟨h0, ver, rfl, rfl⟩)
  · simp only [brS, smS, R00, great_eq, alive_eq, Same_eq, p6_29, catF0, samB_ns1, samB_ns2, frzF_nest, nestR_lit, nsM_lit, nsV_lit, nestF11_0, nestF11_1, Try.f6, go_sem, ↓reduceIte, Nat.reduceAdd, Nat.reduceSub, Nat.reduceMul, Nat.reduceEqDiff, Nat.reduceLT, Nat.reduceLeDiff, Int.reduceToNat, Int.reduceLE, Int.reduceLT, Int.reduceEq, Int.reduceNeg, reduceCtorEq]
    refine loop_ofH Unit (fun _ => [(65, .int .i64 0), (64, .int .i64 ((0 : Nat) : Int)), (12, .int .i64 r.e), (11, .int .i64 (r.n : Int)), (10, .ptr 3 0), (9, .ptr 2 0), (8, .vec 2 1), (5, .ptr 1 0), (2, .ptr 0 0), (1, .row m 4 fun i j => .int .i64 (x i j))]) (fun h _ => h) (fun _ => 0) (fun _ => ⟨rfl, rfl⟩) () (by (apply sub_of <;> simp only [go_sem, ↓reduceIte, Nat.reduceAdd, Nat.reduceSub, Nat.reduceMul, Nat.reduceEqDiff, Nat.reduceLT, Nat.reduceLeDiff, Int.reduceToNat, Int.reduceLE, Int.reduceLT, Int.reduceEq, Int.reduceNeg, reduceCtorEq] <;> (try simp [catF])); all_goals (repeat' first | assumption | exact nestF_bd _ _ _ _ _ _ _ _ _ | exact nestF_bd1 _ _ _ _ _ _ _ _ _ | exact fun _ _ => nestF_bd1 _ _ _ _ _ _ _ _ _ | exact fun _ _ _ _ => nestF_bd1 _ _ _ _ _ _ _ _ _ | exact fun x hx => catF_one _ hx | refine And.intro ?_ ?_)) ?_
    intro _
    have hM2 : (∀ j, j < i → M j ≤ 1000000) = True := eq_true fun j hj => by have := g2 j hj; omega
    have z1 : decide ((0 : Int) < ((0 : Nat) : Int)) = false := rfl
    simp only [z1, c3, hM2, samB_rf, great_eq, alive_eq, Same_eq, p6_29, catF0, samB_ns1, samB_ns2, frzF_nest, nestR_lit, nsM_lit, nsV_lit, nestF11_0, nestF11_1, Try.f6, go_sem, ↓reduceIte, Nat.reduceAdd, Nat.reduceSub, Nat.reduceMul, Nat.reduceEqDiff, Nat.reduceLT, Nat.reduceLeDiff, Int.reduceToNat, Int.reduceLE, Int.reduceLT, Int.reduceEq, Int.reduceNeg, reduceCtorEq]
    unfold callS
    refine calls_mono ?_ (play_any c1 A M V hM tv th he hr (show m ≤ 1000000 by omega) x hr0 _)
    rintro o h' ⟨rfl, rfl⟩
    simp only [plS1_no h0, piR, great_eq, alive_eq, Same_eq, p6_29, catF0, samB_ns1, samB_ns2, frzF_nest, nestR_lit, nsM_lit, nsV_lit, nestF11_0, nestF11_1, Try.f6, go_sem, ↓reduceIte, Nat.reduceAdd, Nat.reduceSub, Nat.reduceMul, Nat.reduceEqDiff, Nat.reduceLT, Nat.reduceLeDiff, Int.reduceToNat, Int.reduceLE, Int.reduceLT, Int.reduceEq, Int.reduceNeg, reduceCtorEq]
    refine loop_ofH { j : Nat // j ≤ m } (fun j => [(108, .int .i64 (j.1 : Int)), (107, .int .i64 (m : Int)), (18, .int .i64 r.e), (17, .int .i64 (r.n : Int)), (16, .ptr 5 0), (15, .ptr 4 0), (12, .int .i64 r.e), (11, .int .i64 (r.n : Int)), (10, .ptr 3 0), (9, .ptr 2 0), (8, .vec 2 1), (1, .row m 4 fun i j => .int .i64 (x i j))]) (fun h _ => h) (fun j => m - j.1) (fun _ => ⟨rfl, rfl⟩) ⟨0, Nat.zero_le m⟩ (by (apply sub_of <;> simp only [go_sem, ↓reduceIte, Nat.reduceAdd, Nat.reduceSub, Nat.reduceMul, Nat.reduceEqDiff, Nat.reduceLT, Nat.reduceLeDiff, Int.reduceToNat, Int.reduceLE, Int.reduceLT, Int.reduceEq, Int.reduceNeg, reduceCtorEq] <;> (try simp [catF])); all_goals (repeat' first | assumption | exact nestF_bd _ _ _ _ _ _ _ _ _ | exact nestF_bd1 _ _ _ _ _ _ _ _ _ | exact fun _ _ => nestF_bd1 _ _ _ _ _ _ _ _ _ | exact fun _ _ _ _ => nestF_bd1 _ _ _ _ _ _ _ _ _ | exact fun x hx => catF_one _ hx | refine And.intro ?_ ?_)) ?_
    rintro ⟨j, hj⟩
    by_cases jk : j < m
    · have e3 : decide ((j : Int) < (m : Int)) = true := decide_eq_true (by omega)
      simp only [e3, decide_true, Bool.and_self, Bool.not_true, Int.toNat_natCast, great_eq, alive_eq, Same_eq, p6_29, catF0, samB_ns1, samB_ns2, frzF_nest, nestR_lit, nsM_lit, nsV_lit, nestF11_0, nestF11_1, Try.f6, go_sem, ↓reduceIte, Nat.reduceAdd, Nat.reduceSub, Nat.reduceMul, Nat.reduceEqDiff, Nat.reduceLT, Nat.reduceLeDiff, Int.reduceToNat, Int.reduceLE, Int.reduceLT, Int.reduceEq, Int.reduceNeg, reduceCtorEq]
      refine ⟨⟨by kernel_rfl, by kernel_rfl⟩, ⟨by omega, by omega⟩, by omega, ⟨by omega, by omega⟩, ⟨j + 1, by omega⟩, by simp only []; omega, ?_⟩
      apply sub_of <;> simp only [wrap_s jk (show m ≤ 1000000 by omega), go_sem, ↓reduceIte, Nat.reduceAdd, Nat.reduceSub, Nat.reduceMul, Nat.reduceEqDiff, Nat.reduceLT, Nat.reduceLeDiff, Int.reduceToNat, Int.reduceLE, Int.reduceLT, Int.reduceEq, Int.reduceNeg, reduceCtorEq] <;> (try simp)
      all_goals (repeat' first | assumption | exact nestF_bd _ _ _ _ _ _ _ _ _ | exact nestF_bd1 _ _ _ _ _ _ _ _ _ | exact fun _ _ => nestF_bd1 _ _ _ _ _ _ _ _ _ | exact fun _ _ _ _ => nestF_bd1 _ _ _ _ _ _ _ _ _ | exact fun x hx => catF_one _ hx | refine And.intro ?_ ?_)
    obtain rfl : j = m := by omega
    have e3 : decide ((j : Int) < (j : Int)) = false := decide_eq_false (by omega)
    simp only [e3, great_eq, alive_eq, Same_eq, p6_29, catF0, samB_ns1, samB_ns2, frzF_nest, nestR_lit, nsM_lit, nsV_lit, nestF11_0, nestF11_1, Try.f6, go_sem, ↓reduceIte, Nat.reduceAdd, Nat.reduceSub, Nat.reduceMul, Nat.reduceEqDiff, Nat.reduceLT, Nat.reduceLeDiff, Int.reduceToNat, Int.reduceLE, Int.reduceLT, Int.reduceEq, Int.reduceNeg, reduceCtorEq]
    refine loop_ofH Unit (fun _ => [(131, .int .i64 0), (130, .int .i64 ((0 : Nat) : Int)), (18, .int .i64 r.e), (17, .int .i64 (r.n : Int)), (16, .ptr 5 0), (15, .ptr 4 0), (12, .int .i64 r.e), (11, .int .i64 (r.n : Int)), (10, .ptr 3 0), (9, .ptr 2 0)]) (fun h _ => h) (fun _ => 0) (fun _ => ⟨rfl, rfl⟩) () (by (apply sub_of <;> simp only [go_sem, ↓reduceIte, Nat.reduceAdd, Nat.reduceSub, Nat.reduceMul, Nat.reduceEqDiff, Nat.reduceLT, Nat.reduceLeDiff, Int.reduceToNat, Int.reduceLE, Int.reduceLT, Int.reduceEq, Int.reduceNeg, reduceCtorEq] <;> (try simp [catF])); all_goals (repeat' first | assumption | exact nestF_bd _ _ _ _ _ _ _ _ _ | exact nestF_bd1 _ _ _ _ _ _ _ _ _ | exact fun _ _ => nestF_bd1 _ _ _ _ _ _ _ _ _ | exact fun _ _ _ _ => nestF_bd1 _ _ _ _ _ _ _ _ _ | exact fun x hx => catF_one _ hx | refine And.intro ?_ ?_)) ?_
    intro _
    simp only [z1, decide_true, Bool.and_self, great_eq, alive_eq, Same_eq, p6_29, catF0, samB_ns1, samB_ns2, frzF_nest, nestR_lit, nsM_lit, nsV_lit, nestF11_0, nestF11_1, Try.f6, go_sem, ↓reduceIte, Nat.reduceAdd, Nat.reduceSub, Nat.reduceMul, Nat.reduceEqDiff, Nat.reduceLT, Nat.reduceLeDiff, Int.reduceToNat, Int.reduceLE, Int.reduceLT, Int.reduceEq, Int.reduceNeg, reduceCtorEq]
  · simp only [brS, smS, pipes5, getV_fL, setV_fL, getV_fI, setV_fI, getV_fP, setV_fP, snocV_fam', fam_lenV, updV_same, updV_upd, upN_same, catS1_eq, catS1_intR, catS1_slL, catS1_frz, piF_0, piF_1, piF_upd, slV, great_eq, alive_eq, Same_eq, p6_29, catF0, samB_ns1, samB_ns2, frzF_nest, nestR_lit, nsM_lit, nsV_lit, nestF11_0, nestF11_1, Try.f6, go_sem, ↓reduceIte, Nat.reduceAdd, Nat.reduceSub, Nat.reduceMul, Nat.reduceEqDiff, Nat.reduceLT, Nat.reduceLeDiff, Int.reduceToNat, Int.reduceLE, Int.reduceLT, Int.reduceEq, Int.reduceNeg, reduceCtorEq]
    refine loop_ofH { q : Nat × (Nat → Int) × (Nat → Nat → Nat → Int) // q.1 ≤ i } (fun q => [(65, .int .i64 (q.1.1 : Int)), (64, .int .i64 (i : Int)), (12, .int .i64 0), (11, .int .i64 (r.n : Int)), (10, .ptr 3 0), (9, .ptr 2 0), (8, .vec 2 1), (5, .ptr 1 0), (2, .ptr 0 0), (1, .row m 4 fun i j => .int .i64 (x i j))])
      (fun _ q => ⟨[.live 26 [.int .i64 tv, .int .i64 th, .row i 2 (nestF 1 2 A M V), .int .i64 he, .int .i64 hr], .live 26 [.int .i64 tv, .int .i64 th, .vec 1 i, .int .i64 he, .int .i64 hr], .live 26 [.int .i64 r.s.t.1, .int .i64 r.s.t.2, .vec 4 0, .int .i64 r.R.he, .int .i64 r.R.hr], .live 31 [.int .i64 r.R.w, .int .i64 r.R.lv, .int .i64 r.R.lh, .int .i64 r.R.fv, .int .i64 r.R.fh, .int .i64 r.R.ch, .int .i64 r.R.ai, .int .i64 r.R.us, .int .i64 r.R.bo]], fam [.live 0 50 2 0 (fun _ _ => .any), .live i 50 2 i (nestF 1 2 A M V), .live 1 39 4 m (fun i j => .int .i64 (x i j)), .dead, .live 0 50 2 i (piF 5 q.1.2.1 ver)] i (fun a => .live (ver a) 23 2 (r.s.sl a).length fun k j => .int .i64 (q.1.2.2 a k j)) [.live 0 50 2 0 (fun _ _ => .any)]⟩) (fun q => i - q.1.1) (fun _ => ⟨rfl, by simp only [fam_lenV, go_sem, ↓reduceIte, Nat.reduceAdd, Nat.reduceSub, Nat.reduceMul, Nat.reduceEqDiff, Nat.reduceLT, Nat.reduceLeDiff, Int.reduceToNat, Int.reduceLE, Int.reduceLT, Int.reduceEq, Int.reduceNeg, reduceCtorEq]⟩) ⟨(0, fun a => A a 0, fun a => slI (r.s.sl a)), Nat.zero_le i⟩ (by
        apply sub_of <;> simp only [getV_fL, setV_fL, getV_fI, setV_fI, getV_fP, setV_fP, snocV_fam', fam_lenV, updV_same, updV_upd, upN_same, catS1_eq, catS1_intR, catS1_slL, catS1_frz, piF_0, piF_1, piF_upd, slV, go_sem, ↓reduceIte, Nat.reduceAdd, Nat.reduceSub, Nat.reduceMul, Nat.reduceEqDiff, Nat.reduceLT, Nat.reduceLeDiff, Int.reduceToNat, Int.reduceLE, Int.reduceLT, Int.reduceEq, Int.reduceNeg, reduceCtorEq]
        all_goals first | rfl | exact ⟨rfl, fun _ _ _ _ => trivial⟩ | exact fun _ _ _ _ => trivial | exact subV_famI rfl (by simp [subV, subVk]) (fun _ _ => subVk_rfl _) (by simp [subV, subVk]) | exact ⟨by simp only [fP]; omega, fun _ _ _ _ => trivial⟩ | exact ⟨nestF_bd _ _ _ _ _ _ _ _ _, by simp only [fP]; omega, by simp only [fP]; omega⟩ | exact ow_bd _) ?_
    rintro ⟨⟨a, rm, G⟩, ha⟩
    simp only at ha ⊢
    by_cases ai : a < i
    · have e3 : decide ((a : Int) < (i : Int)) = true := decide_eq_true (by omega)
      have hi0 : (0 : Int) ≤ (a : Int) := by omega
      have hiN : (a : Int) < (i : Int) := by omega
      simp only [e3, ai, hi0, hiN, Int.toNat_natCast, getV_fL, setV_fL, getV_fI, setV_fI, getV_fP, setV_fP, snocV_fam', fam_lenV, updV_same, updV_upd, upN_same, catS1_eq, catS1_intR, catS1_slL, catS1_frz, piF_0, piF_1, piF_upd, slV, great_eq, alive_eq, Same_eq, p6_29, catF0, samB_ns1, samB_ns2, frzF_nest, nestR_lit, nsM_lit, nsV_lit, nestF11_0, nestF11_1, Try.f6, go_sem, ↓reduceIte, Nat.reduceAdd, Nat.reduceSub, Nat.reduceMul, Nat.reduceEqDiff, Nat.reduceLT, Nat.reduceLeDiff, Int.reduceToNat, Int.reduceLE, Int.reduceLT, Int.reduceEq, Int.reduceNeg, reduceCtorEq]
      refine loop_ofH { q : Nat × (Nat → Nat → Nat → Int) // q.1 ≤ (r.s.sl a).length } (fun q => [(75, .int .i64 (q.1.1 : Int)), (74, .int .i64 ((r.s.sl a).length : Int)), (13, .int .i64 (a : Int)), (65, .int .i64 (a : Int)), (64, .int .i64 (i : Int)), (12, .int .i64 0), (11, .int .i64 (r.n : Int)), (10, .ptr 3 0), (9, .ptr 2 0), (8, .vec 2 1), (5, .ptr 1 0), (2, .ptr 0 0), (1, .row m 4 fun i j => .int .i64 (x i j))])
        (fun _ q => ⟨[.live 26 [.int .i64 tv, .int .i64 th, .row i 2 (nestF 1 2 A M V), .int .i64 he, .int .i64 hr], .live 26 [.int .i64 tv, .int .i64 th, .vec 1 i, .int .i64 he, .int .i64 hr], .live 26 [.int .i64 r.s.t.1, .int .i64 r.s.t.2, .vec 4 0, .int .i64 r.R.he, .int .i64 r.R.hr], .live 31 [.int .i64 r.R.w, .int .i64 r.R.lv, .int .i64 r.R.lh, .int .i64 r.R.fv, .int .i64 r.R.fh, .int .i64 r.R.ch, .int .i64 r.R.ai, .int .i64 r.R.us, .int .i64 r.R.bo]], fam [.live 0 50 2 0 (fun _ _ => .any), .live i 50 2 i (nestF 1 2 A M V), .live 1 39 4 m (fun i j => .int .i64 (x i j)), .dead, .live 0 50 2 i (piF 5 rm ver)] i (fun a => .live (ver a) 23 2 (r.s.sl a).length fun k j => .int .i64 (q.1.2 a k j)) [.live 0 50 2 0 (fun _ _ => .any)]⟩) (fun q => (r.s.sl a).length - q.1.1) (fun _ => ⟨rfl, by simp only [fam_lenV, go_sem, ↓reduceIte, Nat.reduceAdd, Nat.reduceSub, Nat.reduceMul, Nat.reduceEqDiff, Nat.reduceLT, Nat.reduceLeDiff, Int.reduceToNat, Int.reduceLE, Int.reduceLT, Int.reduceEq, Int.reduceNeg, reduceCtorEq]⟩) ⟨(0, G), Nat.zero_le _⟩ (by
          apply sub_of <;> simp only [getV_fL, setV_fL, getV_fI, setV_fI, getV_fP, setV_fP, snocV_fam', fam_lenV, updV_same, updV_upd, upN_same, catS1_eq, catS1_intR, catS1_slL, catS1_frz, piF_0, piF_1, piF_upd, slV, go_sem, ↓reduceIte, Nat.reduceAdd, Nat.reduceSub, Nat.reduceMul, Nat.reduceEqDiff, Nat.reduceLT, Nat.reduceLeDiff, Int.reduceToNat, Int.reduceLE, Int.reduceLT, Int.reduceEq, Int.reduceNeg, reduceCtorEq]
          all_goals first | rfl | exact ⟨rfl, fun _ _ _ _ => trivial⟩ | exact fun _ _ _ _ => trivial | exact subV_famI rfl (by simp [subV, subVk]) (fun _ _ => subVk_rfl _) (by simp [subV, subVk]) | exact ⟨by simp only [fP]; omega, fun _ _ _ _ => trivial⟩ | exact ⟨nestF_bd _ _ _ _ _ _ _ _ _, by simp only [fP]; omega, by simp only [fP]; omega⟩ | exact ow_bd _) ?_
      rintro ⟨⟨k, G⟩, hk⟩
      simp only at hk ⊢
      by_cases kk : k < (r.s.sl a).length
      · have e4 : decide ((k : Int) < ((r.s.sl a).length : Int)) = true := decide_eq_true (by omega)
        have hk0 : (0 : Int) ≤ (k : Int) := by omega
        have hkN : (k : Int) < ((r.s.sl a).length : Int) := by omega
        simp only [e4, ai, hi0, hiN, hk0, hkN, Int.toNat_natCast, getV_fL, setV_fL, getV_fI, setV_fI, getV_fP, setV_fP, snocV_fam', fam_lenV, updV_same, updV_upd, upN_same, catS1_eq, catS1_intR, catS1_slL, catS1_frz, piF_0, piF_1, piF_upd, slV, great_eq, alive_eq, Same_eq, p6_29, catF0, samB_ns1, samB_ns2, frzF_nest, nestR_lit, nsM_lit, nsV_lit, nestF11_0, nestF11_1, Try.f6, go_sem, ↓reduceIte, Nat.reduceAdd, Nat.reduceSub, Nat.reduceMul, Nat.reduceEqDiff, Nat.reduceLT, Nat.reduceLeDiff, Int.reduceToNat, Int.reduceLE, Int.reduceLT, Int.reduceEq, Int.reduceNeg, reduceCtorEq]
        have hlen := (hleft h0).ok.ok.len a ai
        refine ⟨kk, ⟨(k + 1, gSet G a k), by simp only []; omega⟩, by simp only []; omega, ?_⟩
        apply sub_of <;> simp only [wrap_s kk (show (r.s.sl a).length ≤ 1000000 by omega), getV_fL, setV_fL, getV_fI, setV_fI, getV_fP, setV_fP, snocV_fam', fam_lenV, updV_same, updV_upd, upN_same, catS1_eq, catS1_intR, catS1_slL, catS1_frz, piF_0, piF_1, piF_upd, slV, go_sem, ↓reduceIte, Nat.reduceAdd, Nat.reduceSub, Nat.reduceMul, Nat.reduceEqDiff, Nat.reduceLT, Nat.reduceLeDiff, Int.reduceToNat, Int.reduceLE, Int.reduceLT, Int.reduceEq, Int.reduceNeg, reduceCtorEq]
        all_goals first
          | exact subV_famI rfl (by simp [subV, subVk]) (updV_sub ⟨rfl, rfl, rfl, rfl, fun c j _ _ => gSet_at G a k c j⟩ (fun b _ hb => ⟨rfl, rfl, rfl, rfl, fun c j _ _ => congrArg (SV.int .i64) (gSet_ne G k c j hb).symm⟩)) (by simp [subV, subVk])
          | (first | rfl | exact ⟨rfl, fun _ _ _ _ => trivial⟩ | exact fun _ _ _ _ => trivial | exact subV_famI rfl (by simp [subV, subVk]) (fun _ _ => subVk_rfl _) (by simp [subV, subVk]) | exact ⟨by simp only [fP]; omega, fun _ _ _ _ => trivial⟩ | exact ⟨nestF_bd _ _ _ _ _ _ _ _ _, by simp only [fP]; omega, by simp only [fP]; omega⟩ | exact ow_bd _)
      have e4 : decide ((k : Int) < ((r.s.sl a).length : Int)) = false := decide_eq_false (by omega)
      simp only [e4, ai, hi0, hiN, Int.toNat_natCast, getV_fL, setV_fL, getV_fI, setV_fI, getV_fP, setV_fP, snocV_fam', fam_lenV, updV_same, updV_upd, upN_same, catS1_eq, catS1_intR, catS1_slL, catS1_frz, piF_0, piF_1, piF_upd, slV, great_eq, alive_eq, Same_eq, p6_29, catF0, samB_ns1, samB_ns2, frzF_nest, nestR_lit, nsM_lit, nsV_lit, nestF11_0, nestF11_1, Try.f6, go_sem, ↓reduceIte, Nat.reduceAdd, Nat.reduceSub, Nat.reduceMul, Nat.reduceEqDiff, Nat.reduceLT, Nat.reduceLeDiff, Int.reduceToNat, Int.reduceLE, Int.reduceLT, Int.reduceEq, Int.reduceNeg, reduceCtorEq]
      refine ⟨⟨(a + 1, rSet rm a, G), by simp only []; omega⟩, by simp only []; omega, ?_⟩
      apply sub_of <;> simp only [wrap_s ai c3, getV_fL, setV_fL, getV_fI, setV_fI, getV_fP, setV_fP, snocV_fam', fam_lenV, updV_same, updV_upd, upN_same, catS1_eq, catS1_intR, catS1_slL, catS1_frz, piF_0, piF_1, piF_upd, slV, go_sem, ↓reduceIte, Nat.reduceAdd, Nat.reduceSub, Nat.reduceMul, Nat.reduceEqDiff, Nat.reduceLT, Nat.reduceLeDiff, Int.reduceToNat, Int.reduceLE, Int.reduceLT, Int.reduceEq, Int.reduceNeg, reduceCtorEq]
      all_goals first
        | exact subV_famI rfl ⟨⟨rfl, rfl, rfl, rfl, fun _ _ _ _ => rfl⟩, ⟨rfl, rfl, rfl, rfl, fun _ _ _ _ => rfl⟩, ⟨rfl, rfl, rfl, rfl, fun _ _ _ _ => rfl⟩, trivial, ⟨rfl, rfl, rfl, rfl, fun c j _ _ => rSet_at rm ver a c j⟩, trivial⟩ (fun _ _ => subVk_rfl _) (by simp [subV, subVk])
        | (first | rfl | exact ⟨rfl, fun _ _ _ _ => trivial⟩ | exact fun _ _ _ _ => trivial | exact subV_famI rfl (by simp [subV, subVk]) (fun _ _ => subVk_rfl _) (by simp [subV, subVk]) | exact ⟨by simp only [fP]; omega, fun _ _ _ _ => trivial⟩ | exact ⟨nestF_bd _ _ _ _ _ _ _ _ _, by simp only [fP]; omega, by simp only [fP]; omega⟩ | exact ow_bd _)
    obtain rfl : a = i := by omega
    have e3 : decide ((a : Int) < (a : Int)) = false := decide_eq_false (by omega)
    have hM2 : (∀ j, j < a → M j ≤ 1000000) = True := eq_true fun j hj => by have := g2 j hj; omega
    simp only [e3, c3, hM2, samB_rf, getV_fL, setV_fL, getV_fI, setV_fI, getV_fP, setV_fP, snocV_fam', fam_lenV, updV_same, updV_upd, upN_same, catS1_eq, catS1_intR, catS1_slL, catS1_frz, piF_0, piF_1, piF_upd, slV, great_eq, alive_eq, Same_eq, p6_29, catF0, samB_ns1, samB_ns2, frzF_nest, nestR_lit, nsM_lit, nsV_lit, nestF11_0, nestF11_1, Try.f6, go_sem, ↓reduceIte, Nat.reduceAdd, Nat.reduceSub, Nat.reduceMul, Nat.reduceEqDiff, Nat.reduceLT, Nat.reduceLeDiff, Int.reduceToNat, Int.reduceLE, Int.reduceLT, Int.reduceEq, Int.reduceNeg, reduceCtorEq]
    unfold callS
    refine calls_mono ?_ (play_any c1 A M V hM tv th he hr (show m ≤ 1000000 by omega) x hr0 _)
    rintro o h' ⟨rfl, rfl⟩
    simp only [plS1_ok h0, getV_fL, setV_fL, getV_fI, setV_fI, getV_fP, setV_fP, snocV_fam', fam_lenV, updV_same, updV_upd, upN_same, catS1_eq, catS1_intR, catS1_slL, catS1_frz, piF_0, piF_1, piF_upd, slV, great_eq, alive_eq, Same_eq, p6_29, catF0, samB_ns1, samB_ns2, frzF_nest, nestR_lit, nsM_lit, nsV_lit, nestF11_0, nestF11_1, Try.f6, go_sem, ↓reduceIte, Nat.reduceAdd, Nat.reduceSub, Nat.reduceMul, Nat.reduceEqDiff, Nat.reduceLT, Nat.reduceLeDiff, Int.reduceToNat, Int.reduceLE, Int.reduceLT, Int.reduceEq, Int.reduceNeg, reduceCtorEq]
    refine loop_ofH { j : Nat // j ≤ m } (fun j => [(108, .int .i64 (j.1 : Int)), (107, .int .i64 (m : Int)), (18, .int .i64 0), (17, .int .i64 (r.n : Int)), (16, .ptr 5 0), (15, .ptr 4 0), (12, .int .i64 0), (11, .int .i64 (r.n : Int)), (10, .ptr 3 0), (9, .ptr 2 0), (8, .vec 2 1), (1, .row m 4 fun i j => .int .i64 (x i j))]) (fun h _ => h) (fun j => m - j.1) (fun _ => ⟨rfl, rfl⟩) ⟨0, Nat.zero_le m⟩ (by
      apply sub_of <;> simp only [getV_fL, setV_fL, getV_fI, setV_fI, getV_fP, setV_fP, snocV_fam', fam_lenV, updV_same, updV_upd, upN_same, catS1_eq, catS1_intR, catS1_slL, catS1_frz, piF_0, piF_1, piF_upd, slV, go_sem, ↓reduceIte, Nat.reduceAdd, Nat.reduceSub, Nat.reduceMul, Nat.reduceEqDiff, Nat.reduceLT, Nat.reduceLeDiff, Int.reduceToNat, Int.reduceLE, Int.reduceLT, Int.reduceEq, Int.reduceNeg, reduceCtorEq]
      all_goals first | rfl | exact ⟨rfl, fun _ _ _ _ => trivial⟩ | exact fun _ _ _ _ => trivial | exact subV_famI rfl (by simp [subV, subVk]) (fun _ _ => subVk_rfl _) (by simp [subV, subVk]) | exact ⟨by simp only [fP]; omega, fun _ _ _ _ => trivial⟩ | exact ⟨nestF_bd _ _ _ _ _ _ _ _ _, by simp only [fP]; omega, by simp only [fP]; omega, nestF_bd _ _ _ _ _ _ _ _ _⟩ | exact ow_bd2 _) ?_
    rintro ⟨j, hj⟩
    by_cases jk : j < m
    · have e3 : decide ((j : Int) < (m : Int)) = true := decide_eq_true (by omega)
      simp only [e3, decide_true, Bool.and_self, Bool.not_true, Int.toNat_natCast, getV_fL, setV_fL, getV_fI, setV_fI, getV_fP, setV_fP, snocV_fam', fam_lenV, updV_same, updV_upd, upN_same, catS1_eq, catS1_intR, catS1_slL, catS1_frz, piF_0, piF_1, piF_upd, slV, great_eq, alive_eq, Same_eq, p6_29, catF0, samB_ns1, samB_ns2, frzF_nest, nestR_lit, nsM_lit, nsV_lit, nestF11_0, nestF11_1, Try.f6, go_sem, ↓reduceIte, Nat.reduceAdd, Nat.reduceSub, Nat.reduceMul, Nat.reduceEqDiff, Nat.reduceLT, Nat.reduceLeDiff, Int.reduceToNat, Int.reduceLE, Int.reduceLT, Int.reduceEq, Int.reduceNeg, reduceCtorEq]
      refine ⟨⟨by kernel_rfl, by kernel_rfl⟩, ⟨by omega, by omega⟩, by omega, ⟨by omega, by omega⟩, ⟨j + 1, by omega⟩, by simp only []; omega, ?_⟩
      apply sub_of <;> simp only [wrap_s jk (show m ≤ 1000000 by omega), getV_fL, setV_fL, getV_fI, setV_fI, getV_fP, setV_fP, snocV_fam', fam_lenV, updV_same, updV_upd, upN_same, catS1_eq, catS1_intR, catS1_slL, catS1_frz, piF_0, piF_1, piF_upd, slV, go_sem, ↓reduceIte, Nat.reduceAdd, Nat.reduceSub, Nat.reduceMul, Nat.reduceEqDiff, Nat.reduceLT, Nat.reduceLeDiff, Int.reduceToNat, Int.reduceLE, Int.reduceLT, Int.reduceEq, Int.reduceNeg, reduceCtorEq]
      all_goals first | rfl | exact ⟨rfl, fun _ _ _ _ => trivial⟩ | exact fun _ _ _ _ => trivial | exact subV_famI rfl (by simp [subV, subVk]) (fun _ _ => subVk_rfl _) (by simp [subV, subVk]) | exact ⟨by simp only [fP]; omega, fun _ _ _ _ => trivial⟩ | exact ⟨nestF_bd _ _ _ _ _ _ _ _ _, by simp only [fP]; omega, by simp only [fP]; omega, nestF_bd _ _ _ _ _ _ _ _ _⟩ | exact ow_bd2 _
    obtain rfl : j = m := by omega
    have e3 : decide ((j : Int) < (j : Int)) = false := decide_eq_false (by omega)
    have e4 : decide ((a : Int) = (a : Int)) = true := decide_eq_true rfl
    simp only [e3, e4, getV_fL, setV_fL, getV_fI, setV_fI, getV_fP, setV_fP, snocV_fam', fam_lenV, updV_same, updV_upd, upN_same, catS1_eq, catS1_intR, catS1_slL, catS1_frz, piF_0, piF_1, piF_upd, slV, great_eq, alive_eq, Same_eq, p6_29, catF0, samB_ns1, samB_ns2, frzF_nest, nestR_lit, nsM_lit, nsV_lit, nestF11_0, nestF11_1, Try.f6, go_sem, ↓reduceIte, Nat.reduceAdd, Nat.reduceSub, Nat.reduceMul, Nat.reduceEqDiff, Nat.reduceLT, Nat.reduceLeDiff, Int.reduceToNat, Int.reduceLE, Int.reduceLT, Int.reduceEq, Int.reduceNeg, reduceCtorEq]
    have hroom : ∀ b, b < a → 1 ≤ A b 0 := fun b hb => by
      have h1 := (hokp h0).1
      simp only [okBr, Bool.and_eq_true, allU_iff] at h1
      have h2 := h1.2.2.2 b hb
      simp only [okPp, Bool.and_eq_true, in3_iff] at h2
      exact h2.1.1
    refine loop_ofH { b : Nat // b ≤ a } (fun b => [(131, .int .i64 (b.1 : Int)), (130, .int .i64 (a : Int)), (129, .row a 2 (nestF 1 2 (fun i _ => A i 0) (fun i => (r.s.sl i).length) fun i => slI (r.s.sl i))), (18, .int .i64 0), (17, .int .i64 (r.n : Int)), (16, .ptr 5 0), (15, .ptr 4 0), (12, .int .i64 0), (11, .int .i64 (r.n : Int)), (10, .ptr 3 0), (9, .ptr 2 0)]) (fun h _ => h) (fun b => a - b.1) (fun _ => ⟨rfl, rfl⟩) ⟨0, Nat.zero_le a⟩ (by
      apply sub_of <;> simp only [getV_fL, setV_fL, getV_fI, setV_fI, getV_fP, setV_fP, snocV_fam', fam_lenV, updV_same, updV_upd, upN_same, catS1_eq, catS1_intR, catS1_slL, catS1_frz, piF_0, piF_1, piF_upd, slV, go_sem, ↓reduceIte, Nat.reduceAdd, Nat.reduceSub, Nat.reduceMul, Nat.reduceEqDiff, Nat.reduceLT, Nat.reduceLeDiff, Int.reduceToNat, Int.reduceLE, Int.reduceLT, Int.reduceEq, Int.reduceNeg, reduceCtorEq]
      all_goals first | rfl | exact ⟨rfl, fun _ _ _ _ => trivial⟩ | exact fun _ _ _ _ => trivial | exact subV_famI rfl (by simp [subV, subVk]) (fun _ _ => subVk_rfl _) (by simp [subV, subVk]) | exact ⟨by simp only [fP]; omega, fun _ _ _ _ => trivial⟩ | exact ⟨nestF_bd _ _ _ _ _ _ _ _ _, by simp only [fP]; omega, by simp only [fP]; omega, nestF_bd _ _ _ _ _ _ _ _ _⟩ | exact ⟨nestF_bd _ _ _ _ _ _ _ _ _, by simp only [fP]; omega, by simp only [fP]; omega⟩ | exact nestF_bd _ _ _ _ _ _ _ _ _ | exact ow_bd2 _) ?_
    rintro ⟨b, hb⟩
    by_cases bk : b < a
    · have e5 : decide ((b : Int) < (a : Int)) = true := decide_eq_true (by omega)
      have e6 : decide (A b 0 < 1) = false := decide_eq_false (by have := hroom b bk; omega)
      simp only [e5, e6, Int.toNat_natCast, getV_fL, setV_fL, getV_fI, setV_fI, getV_fP, setV_fP, snocV_fam', fam_lenV, updV_same, updV_upd, upN_same, catS1_eq, catS1_intR, catS1_slL, catS1_frz, piF_0, piF_1, piF_upd, slV, great_eq, alive_eq, Same_eq, p6_29, catF0, samB_ns1, samB_ns2, frzF_nest, nestR_lit, nsM_lit, nsV_lit, nestF11_0, nestF11_1, Try.f6, go_sem, ↓reduceIte, Nat.reduceAdd, Nat.reduceSub, Nat.reduceMul, Nat.reduceEqDiff, Nat.reduceLT, Nat.reduceLeDiff, Int.reduceToNat, Int.reduceLE, Int.reduceLT, Int.reduceEq, Int.reduceNeg, reduceCtorEq]
      refine ⟨⟨by omega, by omega⟩, ⟨b + 1, by omega⟩, by simp only []; omega, ?_⟩
      apply sub_of <;> simp only [wrap_s bk c3, getV_fL, setV_fL, getV_fI, setV_fI, getV_fP, setV_fP, snocV_fam', fam_lenV, updV_same, updV_upd, upN_same, catS1_eq, catS1_intR, catS1_slL, catS1_frz, piF_0, piF_1, piF_upd, slV, go_sem, ↓reduceIte, Nat.reduceAdd, Nat.reduceSub, Nat.reduceMul, Nat.reduceEqDiff, Nat.reduceLT, Nat.reduceLeDiff, Int.reduceToNat, Int.reduceLE, Int.reduceLT, Int.reduceEq, Int.reduceNeg, reduceCtorEq]
      all_goals first | rfl | exact ⟨rfl, fun _ _ _ _ => trivial⟩ | exact fun _ _ _ _ => trivial | exact subV_famI rfl (by simp [subV, subVk]) (fun _ _ => subVk_rfl _) (by simp [subV, subVk]) | exact ⟨by simp only [fP]; omega, fun _ _ _ _ => trivial⟩ | exact ⟨nestF_bd _ _ _ _ _ _ _ _ _, by simp only [fP]; omega, by simp only [fP]; omega, nestF_bd _ _ _ _ _ _ _ _ _⟩ | exact ⟨nestF_bd _ _ _ _ _ _ _ _ _, by simp only [fP]; omega, by simp only [fP]; omega⟩ | exact nestF_bd _ _ _ _ _ _ _ _ _ | exact ow_bd2 _
    obtain rfl : b = a := by omega
    have e5 : decide ((b : Int) < (b : Int)) = false := decide_eq_false (by omega)
    simp only [e5, decide_true, Bool.and_self, getV_fL, setV_fL, getV_fI, setV_fI, getV_fP, setV_fP, snocV_fam', fam_lenV, updV_same, updV_upd, upN_same, catS1_eq, catS1_intR, catS1_slL, catS1_frz, piF_0, piF_1, piF_upd, slV, great_eq, alive_eq, Same_eq, p6_29, catF0, samB_ns1, samB_ns2, frzF_nest, nestR_lit, nsM_lit, nsV_lit, nestF11_0, nestF11_1, Try.f6, go_sem, ↓reduceIte, Nat.reduceAdd, Nat.reduceSub, Nat.reduceMul, Nat.reduceEqDiff, Nat.reduceLT, Nat.reduceLeDiff, Int.reduceToNat, Int.reduceLE, Int.reduceLT, Int.reduceEq, Int.reduceNeg, reduceCtorEq]
end Go.Eng
end

/-
  BrineOwns: for every input the law returns true, and each argument reads afterwards as it read before. No condition.
-/
section
namespace Go.Proofs.Ytakbfbcfddcncaa.brineOwns
open Go.ChangeShapes Go.WideShapes Go.ChangeAt Go.RowKit Go.Eng
set_option linter.unusedVariables false
theorem own : ownKnob Try.prog.godebug = none := by kernel_rfl
theorem laid : laidOutB Try.prog = true := by kernel_rfl
set_option maxRecDepth 100000 in
theorem lifted (os : Os) (started : os.Started) (H : Type) (enc : TypeId × Value → H) :
    ReturnsInHanded {} Try.checked os 6 .any (Rows.brineOwnsSpec.pre6 enc Try.prog Try.f6 Rows.brineOwnsRow.domain false) (Rows.brineOwnsSpec.post enc Try.prog Try.f6 false true false false) := by
  refine returnsInHanded_of_change (C := Try.checked) own started (by kernel_rfl) Try.func6
    (ChangeSpec.witness6 (enc := enc) (C := Try.checked) false ⟨#[], #[.agg #[.int .i64 0, .int .i64 0, .slice none 0 0, .int .i64 0, .int .i64 0], .slice none 0 0], []⟩ 8 (by kernel_rfl) (by kernel_rfl) (by kernel_rfl) (by kernel_rfl)) ?_
  intro W base args ds gs before hval0 hW hcnd _
  have hval : ∀ (j : Nat) t v, Try.f6.params[j]? = some t → args[j]? = some v → Value.okWide Try.prog W .any base t v := hval0
  have hW' := hW
  obtain ⟨p, q, hA0, hV, rfl, hfz, hnd⟩ := hW
  have hA : DataW.TrodAll enc Try.prog W 0 (fun _ => true) true Try.f6.params.toList args.toList ds p := hA0
  rw [Try.params6] at hA hval
  obtain ⟨v0, vs0, d0, ds0, p0, q0, hargs, rfl, rfl, h0, r0⟩ := trodAll_cons hA
  obtain ⟨v1, vs1, d1, ds1, p1, q1, rfl, rfl, rfl, h1, r1⟩ := trodAll_cons r0
  obtain ⟨rfl, rfl, rfl⟩ := trodAll_nil r1
  obtain rfl : args = #[v0, v1] := by cases args; simp_all
  obtain ⟨rfl, rfl⟩ := trodVars_none hV
  obtain ⟨xs0, e0, l0, t0⟩ := arg_agg (shs := [.int .i64, .int .i64, .sl [.int .i64, .sl [.int .i64, .int .i64]], .int .i64, .int .i64]) Try.underlying26 (by kernel_rfl) (hval 0 26 v0 rfl rfl) h0
  obtain ⟨a0_0, a0_1, a0_2, a0_3, a0_4, rfl⟩ : ∃ a0_0 a0_1 a0_2 a0_3 a0_4, xs0 = [a0_0, a0_1, a0_2, a0_3, a0_4] := by
    match xs0, l0 with
    | [a0_0, a0_1, a0_2, a0_3, a0_4], _ => exact ⟨a0_0, a0_1, a0_2, a0_3, a0_4, rfl⟩
  obtain ⟨x0_0, rfl, w0_0⟩ := typ_int (t0 0 _ _ rfl rfl)
  obtain ⟨x0_1, rfl, w0_1⟩ := typ_int (t0 1 _ _ rfl rfl)
  obtain ⟨n0_2, f0_2, rfl, m0_2, s0_2⟩ := typ_sl (t0 2 _ _ rfl rfl)
  obtain ⟨i0_2, b0_2, c0_2, g0_2⟩ := nestR_typ (sz := 2) (k := 1) (s := 2) (by intro j hj hk; rcases (show j = 0 ∨ j = 1 by omega) with rfl | rfl <;> first | rfl | exact absurd rfl hk) rfl s0_2
  obtain ⟨x0_3, rfl, w0_3⟩ := typ_int (t0 3 _ _ rfl rfl)
  obtain ⟨x0_4, rfl, w0_4⟩ := typ_int (t0 4 _ _ rfl rfl)
  obtain ⟨n1, f1, e1, m1, t1⟩ := arg_row (s := [.int .i64, .int .i64, .int .i64, .int .i64]) Try.underlying27 (by kernel_rfl) (hval 1 27 v1 rfl rfl) h1
  obtain ⟨i1, b1⟩ := intK_of_typ (k := .i64) (c := 4) rfl t1
  have hd : DenL Env.emp W [.agg [.int .i64 x0_0, .int .i64 x0_1, .row n0_2 2 f0_2, .int .i64 x0_3, .int .i64 x0_4], .row n1 4 f1] [v0, v1] := ⟨e0, e1, trivial⟩
  refine (law_calls brineOwns_base (args := [.agg [.int .i64 x0_0, .int .i64 x0_1, .row n0_2 2 f0_2, .int .i64 x0_3, .int .i64 x0_4], .row n1 4 f1]) rfl ⟨⟨rfl, i0_2⟩, ⟨rfl, fun i j hi hj => i1 i j hi hj⟩⟩ (denA_of hd)).mono fun e W' ⟨he, hb⟩ => ?_
  subst he
  exact ⟨_, rfl, law_end laid rfl Try.underlying4 (by kernel_rfl) rfl hW' rfl hb⟩
theorem over : Rows.brineOwnsRow.holds Try.pinned (OpenSpec.ofChange Rows.brineOwnsSpec) :=
  OpenClaim.holds_of_wide 6 Try.f6 rfl rfl rfl rfl rfl rfl rfl ⟨rfl, rfl, rfl, rfl, rfl⟩ rfl rfl rfl rfl rfl (by kernel_rfl) Try.func6 (by kernel_rfl)
    (of_decide_eq_true (by kernel_rfl)) (by unfold Func.isWrapper; first | (rw [if_pos (by decide +kernel)]; kernel_rfl) | (rw [if_neg (by decide +kernel)]; exact ⟨rfl, rfl⟩))
    (fun os started H enc _ => lifted os started H enc)
end Go.Proofs.Ytakbfbcfddcncaa.brineOwns
namespace Go.Proofs.Ytakbfbcfddcncaa
/-- The given statement. -/
theorem brineOwns_holds : Rows.BrineOwnsSaid := brineOwns.over
#print axioms brineOwns_holds
end Go.Proofs.Ytakbfbcfddcncaa
end
