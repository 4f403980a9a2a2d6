/-
  PanelMore: for every input the law returns true, and each argument reads afterwards as it read before. No condition.
-/
import Derived.Test.YtnccjojfpkjihaaRows
import Derived.WalkKit
import Derived.Test.YtnccjojfpkjihaaX6
set_option linter.unusedSimpArgs false
set_option linter.unusedVariables false
/- panel: meetings. -/
section
namespace Go.Eng
open Go Go.RowKit Go.Proofs
set_option maxRecDepth 100000
set_option maxHeartbeats 4000000
attribute [local irreducible] OwnT DefS
def jdB (jd : Nat → Nat → Int) (i : Nat) : Bool := in3 (jd i 0) 0 255 && (in3 (jd i 1) 0 9 && in3 (jd i 2) 0 4)
def ctB (A : Nat → Nat → Int) (M : Nat → Nat) (V : Nat → Nat → Nat → Int) (i : Nat) : Bool := decide (M i ≤ 16) && (allU (fun k => in3 (V i k 0) 0 255) (M i) && (in3 (A i 1) 0 9 && in3 (A i 2) 0 3))
def mtB (n : Nat) (jd : Nat → Nat → Int) (m : Nat) (A : Nat → Nat → Int) (M : Nat → Nat) (V : Nat → Nat → Nat → Int) : Bool := decide (n ≤ 8) && (decide (m ≤ 4) && (allU (jdB jd) n && allU (ctB A M V) m))
theorem ctB_ns (A : Nat → Nat → Int) (M : Nat → Nat) (V : Nat → Nat → Nat → Int) : ctB (nsA (nestF 0 1 A M V)) M V = ctB A M V := by
  funext i
  simp only [ctB, nsA_lit i (show 1 ≠ 0 by omega), nsA_lit i (show 2 ≠ 0 by omega)]
theorem mtB_ns (n : Nat) (jd : Nat → Nat → Int) (m : Nat) (A : Nat → Nat → Int) (M : Nat → Nat) (V : Nat → Nat → Nat → Int) : mtB n jd m (nsA (nestF 0 1 A M V)) M V = mtB n jd m A M V := by
  simp only [mtB, ctB_ns]
def hasJBase : BaseF := fun args => match args with
  | [.row n sz_jd f_jd, .func g []] => some ((sz_jd = 3 ∧ IntR n 3 f_jd) ∧ (g = 62 ∧ n ≤ 1000000), .bool (!allU (jdB (ivf f_jd)) n))
  | _ => none
theorem hasJ_eq (n : Nat) (sz_jd : Nat) (f_jd : Nat → Nat → SV) (g : Nat) : hasJBase [.row n sz_jd f_jd, .func g []] = some ((sz_jd = 3 ∧ IntR n 3 f_jd) ∧ (g = 62 ∧ n ≤ 1000000), .bool (!allU (jdB (ivf f_jd)) n)) := rfl
theorem hasJ_base : Base Try.prog 65 hasJBase := by
  intro args p v hq hp
  unfold hasJBase at hq
  split at hq
  rotate_left
  · cases hq
  rename_i n sz_jd f_jd g
  cases hq
  obtain ⟨⟨rfl, i_jd⟩, pre⟩ := hp
  refine base_of (C := cx [] [] [(44, withinBase)] [] none) (cx_ok trivial ⟨within_base, trivial⟩) rfl (g := 65) (fn := Try.f65)
    (args' := [.row n 3 (rowF .i64 (ivf f_jd)), .func g []]) (fn_65) rfl 1000 (by
    simp only [BdL, Bd, and_self, and_true, true_and]
    exact (fun i j hi hj => by rw [i_jd i j hi hj]; trivial)) ⟨SameD.int i_jd, SameD.rfl' _, trivial⟩ ?_
  generalize ivf f_jd = jd at *
  simp only [rowF_eq]
  simp only [within_eq, Try.f62, Try.f82, Try.f65, go_sem, ↓reduceIte, Nat.reduceAdd, Nat.reduceSub, Nat.reduceMul, Nat.reduceEqDiff, Nat.reduceLT, Nat.reduceLeDiff, Int.reduceToNat, Int.reduceLE, Int.reduceLT, Int.reduceEq, Int.reduceNeg, reduceCtorEq]
  obtain ⟨rfl, hn⟩ := pre
  refine loop_ofH { i : Nat // i ≤ n ∧ ∀ j, j < i → jdB jd j = true } (fun i => [(8, .int .i64 (i.1 : Int)), (7, .int .i64 (n : Int)), (1, .func 62 []), (0, .row n 3 fun i j => .int .i64 (jd i j))]) (fun h _ => h) (fun i => n - i.1) (fun _ => ⟨rfl, rfl⟩) ⟨0, by omega, by omega⟩ (by (apply sub_of <;> simp only [go_sem, ↓reduceIte, Nat.reduceAdd, Nat.reduceSub, Nat.reduceMul, Nat.reduceEqDiff, Nat.reduceLT, Nat.reduceLeDiff, Int.reduceToNat, Int.reduceLE, Int.reduceLT, Int.reduceEq, Int.reduceNeg, reduceCtorEq] <;> (try simp [catF]) <;> (try exact fun j _ => Bd_nth (by simp [BdL, Bd]) j) <;> (try exact bd_setL (by simp [bdAs, BdL, Bd])) <;> (try exact nestF_bd _ _ _ _ _ _ _ _ _))) ?_
  rintro ⟨i, hi, h3⟩
  have h0 : (0 : Int) ≤ (i : Int) := by omega
  by_cases ik : i < n
  · have e1 : decide ((i : Int) < (n : Int)) = true := decide_eq_true (by omega)
    have bad : SV.bool (decide ((0 : Int) ≤ (i : Int))) = SV.bool true := by rw [decide_eq_true h0]
    cases c1 : in3 (jd i 0) 0 255 with
    | false =>
      rw [allU_false (p := jdB jd) ik (by simp only [jdB, c1, Bool.false_and])]
      simp only [e1, c1, within_eq, Try.f62, Try.f82, Try.f65, go_sem, ↓reduceIte, Nat.reduceAdd, Nat.reduceSub, Nat.reduceMul, Nat.reduceEqDiff, Nat.reduceLT, Nat.reduceLeDiff, Int.reduceToNat, Int.reduceLE, Int.reduceLT, Int.reduceEq, Int.reduceNeg, reduceCtorEq]
      exact ⟨⟨by omega, by omega⟩, bad⟩
    | true =>
    cases c2 : in3 (jd i 1) 0 9 with
    | false =>
      rw [allU_false (p := jdB jd) ik (by simp only [jdB, c1, c2, Bool.false_and, Bool.and_false])]
      simp only [e1, c1, c2, within_eq, Try.f62, Try.f82, Try.f65, go_sem, ↓reduceIte, Nat.reduceAdd, Nat.reduceSub, Nat.reduceMul, Nat.reduceEqDiff, Nat.reduceLT, Nat.reduceLeDiff, Int.reduceToNat, Int.reduceLE, Int.reduceLT, Int.reduceEq, Int.reduceNeg, reduceCtorEq]
      exact ⟨⟨by omega, by omega⟩, bad⟩
    | true =>
    cases c3 : in3 (jd i 2) 0 4 with
    | false =>
      rw [allU_false (p := jdB jd) ik (by simp only [jdB, c1, c2, c3, Bool.and_false])]
      simp only [e1, c1, c2, c3, within_eq, Try.f62, Try.f82, Try.f65, go_sem, ↓reduceIte, Nat.reduceAdd, Nat.reduceSub, Nat.reduceMul, Nat.reduceEqDiff, Nat.reduceLT, Nat.reduceLeDiff, Int.reduceToNat, Int.reduceLE, Int.reduceLT, Int.reduceEq, Int.reduceNeg, reduceCtorEq]
      exact ⟨⟨by omega, by omega⟩, bad⟩
    | true =>
      simp only [e1, c1, c2, c3, within_eq, Try.f62, Try.f82, Try.f65, go_sem, ↓reduceIte, Nat.reduceAdd, Nat.reduceSub, Nat.reduceMul, Nat.reduceEqDiff, Nat.reduceLT, Nat.reduceLeDiff, Int.reduceToNat, Int.reduceLE, Int.reduceLT, Int.reduceEq, Int.reduceNeg, reduceCtorEq]
      refine ⟨⟨by omega, by omega⟩, ⟨i + 1, by omega, below h3 (by simp only [jdB, c1, c2, c3, Bool.and_self])⟩, by simp only []; omega, ?_⟩
      apply sub_of <;> simp only [wrap_s ik hn, go_sem, ↓reduceIte, Nat.reduceAdd, Nat.reduceSub, Nat.reduceMul, Nat.reduceEqDiff, Nat.reduceLT, Nat.reduceLeDiff, Int.reduceToNat, Int.reduceLE, Int.reduceLT, Int.reduceEq, Int.reduceNeg, reduceCtorEq] <;> (try simp) <;> (try exact fun j _ => Bd_nth (by simp [BdL, Bd]) j) <;> (try exact bd_setL (by simp [bdAs, BdL, Bd])) <;> (try exact nestF_bd _ _ _ _ _ _ _ _ _)
  · obtain rfl : i = n := by omega
    have e1 : decide ((i : Int) < (i : Int)) = false := decide_eq_false (by omega)
    rw [allU_true h3]
    simp only [e1, within_eq, Try.f62, Try.f82, Try.f65, go_sem, ↓reduceIte, Nat.reduceAdd, Nat.reduceSub, Nat.reduceMul, Nat.reduceEqDiff, Nat.reduceLT, Nat.reduceLeDiff, Int.reduceToNat, Int.reduceLE, Int.reduceLT, Int.reduceEq, Int.reduceNeg, reduceCtorEq]
    first | rfl | trace_state
def hasCBase : BaseF := fun args => match args with
  | [.row n sz_A f_A, .func g []] => some ((sz_A = 3 ∧ NestR n 3 0 1 f_A) ∧ (g = 63 ∧ n ≤ 1000000), .bool (!allU (ctB (nsA f_A) (nsM 0 f_A) (nsV 0 f_A)) n))
  | _ => none
theorem hasC_eq (n : Nat) (sz_A : Nat) (f_A : Nat → Nat → SV) (g : Nat) : hasCBase [.row n sz_A f_A, .func g []] = some ((sz_A = 3 ∧ NestR n 3 0 1 f_A) ∧ (g = 63 ∧ n ≤ 1000000), .bool (!allU (ctB (nsA f_A) (nsM 0 f_A) (nsV 0 f_A)) n)) := rfl
theorem hasC_base : Base Try.prog 66 hasCBase := by
  intro args p v hq hp
  unfold hasCBase at hq
  split at hq
  rotate_left
  · cases hq
  rename_i n sz_A f_A g
  cases hq
  obtain ⟨⟨rfl, i_A⟩, pre⟩ := hp
  refine base_of (C := cx [] [] [(44, withinBase), (64, areClubsBase)] [] none) (cx_ok trivial ⟨within_base, areClubs_base, trivial⟩) rfl (g := 66) (fn := Try.f66)
    (args' := [.row n 3 (nestF 0 1 (nsA f_A) (nsM 0 f_A) (nsV 0 f_A)), .func g []]) (fn_66) rfl 1000 (by
    simp only [BdL, Bd, and_self, and_true, true_and]
    exact (fun i j hi hj => nest_bd i_A i j hi hj)) ⟨SameD.nest i_A, SameD.rfl' _, trivial⟩ ?_
  generalize nsA f_A = A at *
  generalize nsM 0 f_A = M at *
  generalize nsV 0 f_A = V at *
  simp only [within_eq, areClubs_eq, Try.f63, Try.f83, nestF_eq, nestR_lit, nsM_lit, nsV_lit, Try.f66, go_sem, ↓reduceIte, Nat.reduceAdd, Nat.reduceSub, Nat.reduceMul, Nat.reduceEqDiff, Nat.reduceLT, Nat.reduceLeDiff, Int.reduceToNat, Int.reduceLE, Int.reduceLT, Int.reduceEq, Int.reduceNeg, reduceCtorEq]
  obtain ⟨rfl, hn⟩ := pre
  refine loop_ofH { i : Nat // i ≤ n ∧ ∀ j, j < i → ctB A M V j = true } (fun i => [(8, .int .i64 (i.1 : Int)), (7, .int .i64 (n : Int)), (1, .func 63 []), (0, .row n 3 (nestF 0 1 A M V))]) (fun h _ => h) (fun i => n - i.1) (fun _ => ⟨rfl, rfl⟩) ⟨0, by omega, by omega⟩ (by (apply sub_of <;> simp only [go_sem, ↓reduceIte, Nat.reduceAdd, Nat.reduceSub, Nat.reduceMul, Nat.reduceEqDiff, Nat.reduceLT, Nat.reduceLeDiff, Int.reduceToNat, Int.reduceLE, Int.reduceLT, Int.reduceEq, Int.reduceNeg, reduceCtorEq] <;> (try simp [catF]) <;> (try exact fun j _ => Bd_nth (by simp [BdL, Bd]) j) <;> (try exact bd_setL (by simp [bdAs, BdL, Bd])) <;> (try exact nestF_bd _ _ _ _ _ _ _ _ _))) ?_
  rintro ⟨i, hi, h3⟩
  have h0 : (0 : Int) ≤ (i : Int) := by omega
  by_cases ik : i < n
  · have e1 : decide ((i : Int) < (n : Int)) = true := decide_eq_true (by omega)
    have bad : SV.bool (decide ((0 : Int) ≤ (i : Int))) = SV.bool true := by rw [decide_eq_true h0]
    by_cases c0 : M i ≤ 16
    rotate_left
    · have d0 : decide ((16 : Int) < (M i : Int)) = true := decide_eq_true (by omega)
      have d1 : decide (M i ≤ 16) = false := decide_eq_false c0
      rw [allU_false (p := ctB A M V) ik (by simp only [ctB, d1, Bool.false_and])]
      simp only [e1, d0, within_eq, areClubs_eq, Try.f63, Try.f83, nestF_eq, nestR_lit, nsM_lit, nsV_lit, Try.f66, go_sem, ↓reduceIte, Nat.reduceAdd, Nat.reduceSub, Nat.reduceMul, Nat.reduceEqDiff, Nat.reduceLT, Nat.reduceLeDiff, Int.reduceToNat, Int.reduceLE, Int.reduceLT, Int.reduceEq, Int.reduceNeg, reduceCtorEq]
      exact ⟨⟨by omega, by omega⟩, bad⟩
    have d0 : decide ((16 : Int) < (M i : Int)) = false := decide_eq_false (by omega)
    have d1 : decide (M i ≤ 16) = true := decide_eq_true c0
    have cM : M i ≤ 1000000 := by omega
    cases c1 : allU (fun k => in3 (V i k 0) 0 255) (M i) with
    | false =>
      rw [allU_false (p := ctB A M V) ik (by simp only [ctB, c1, Bool.false_and, Bool.and_false])]
      simp only [e1, d0, c1, within_eq, areClubs_eq, Try.f63, Try.f83, nestF_eq, nestR_lit, nsM_lit, nsV_lit, Try.f66, go_sem, ↓reduceIte, Nat.reduceAdd, Nat.reduceSub, Nat.reduceMul, Nat.reduceEqDiff, Nat.reduceLT, Nat.reduceLeDiff, Int.reduceToNat, Int.reduceLE, Int.reduceLT, Int.reduceEq, Int.reduceNeg, reduceCtorEq]
      exact ⟨⟨by omega, by omega⟩, cM, bad⟩
    | true =>
    cases c2 : in3 (A i 1) 0 9 with
    | false =>
      rw [allU_false (p := ctB A M V) ik (by simp only [ctB, c1, c2, Bool.false_and, Bool.and_false])]
      simp only [e1, d0, c1, c2, within_eq, areClubs_eq, Try.f63, Try.f83, nestF_eq, nestR_lit, nsM_lit, nsV_lit, Try.f66, go_sem, ↓reduceIte, Nat.reduceAdd, Nat.reduceSub, Nat.reduceMul, Nat.reduceEqDiff, Nat.reduceLT, Nat.reduceLeDiff, Int.reduceToNat, Int.reduceLE, Int.reduceLT, Int.reduceEq, Int.reduceNeg, reduceCtorEq]
      exact ⟨⟨by omega, by omega⟩, cM, bad⟩
    | true =>
    cases c3 : in3 (A i 2) 0 3 with
    | false =>
      rw [allU_false (p := ctB A M V) ik (by simp only [ctB, c1, c2, c3, Bool.and_false])]
      simp only [e1, d0, c1, c2, c3, within_eq, areClubs_eq, Try.f63, Try.f83, nestF_eq, nestR_lit, nsM_lit, nsV_lit, Try.f66, go_sem, ↓reduceIte, Nat.reduceAdd, Nat.reduceSub, Nat.reduceMul, Nat.reduceEqDiff, Nat.reduceLT, Nat.reduceLeDiff, Int.reduceToNat, Int.reduceLE, Int.reduceLT, Int.reduceEq, Int.reduceNeg, reduceCtorEq]
      exact ⟨⟨by omega, by omega⟩, cM, bad⟩
    | true =>
      simp only [e1, d0, c1, c2, c3, within_eq, areClubs_eq, Try.f63, Try.f83, nestF_eq, nestR_lit, nsM_lit, nsV_lit, Try.f66, go_sem, ↓reduceIte, Nat.reduceAdd, Nat.reduceSub, Nat.reduceMul, Nat.reduceEqDiff, Nat.reduceLT, Nat.reduceLeDiff, Int.reduceToNat, Int.reduceLE, Int.reduceLT, Int.reduceEq, Int.reduceNeg, reduceCtorEq]
      refine ⟨⟨by omega, by omega⟩, cM, ⟨i + 1, by omega, below h3 (by simp only [ctB, d1, c1, c2, c3, Bool.and_self])⟩, by simp only []; omega, ?_⟩
      apply sub_of <;> simp only [wrap_s ik hn, go_sem, ↓reduceIte, Nat.reduceAdd, Nat.reduceSub, Nat.reduceMul, Nat.reduceEqDiff, Nat.reduceLT, Nat.reduceLeDiff, Int.reduceToNat, Int.reduceLE, Int.reduceLT, Int.reduceEq, Int.reduceNeg, reduceCtorEq] <;> (try simp) <;> (try exact fun j _ => Bd_nth (by simp [BdL, Bd]) j) <;> (try exact bd_setL (by simp [bdAs, BdL, Bd])) <;> (try exact nestF_bd _ _ _ _ _ _ _ _ _)
  · obtain rfl : i = n := by omega
    have e1 : decide ((i : Int) < (i : Int)) = false := decide_eq_false (by omega)
    rw [allU_true h3]
    simp only [e1, within_eq, areClubs_eq, Try.f63, Try.f83, nestF_eq, nestR_lit, nsM_lit, nsV_lit, Try.f66, go_sem, ↓reduceIte, Nat.reduceAdd, Nat.reduceSub, Nat.reduceMul, Nat.reduceEqDiff, Nat.reduceLT, Nat.reduceLeDiff, Int.reduceToNat, Int.reduceLE, Int.reduceLT, Int.reduceEq, Int.reduceNeg, reduceCtorEq]
    first | rfl | trace_state
def isMeetingBase : BaseF := fun args => match args with
  | [.agg [.row n sz_jd f_jd, .row m sz_A f_A]] => some ((sz_jd = 3 ∧ IntR n 3 f_jd) ∧ (sz_A = 3 ∧ NestR m 3 0 1 f_A) ∧ (n ≤ 1000000 ∧ m ≤ 1000000), .bool (mtB n (ivf f_jd) m (nsA f_A) (nsM 0 f_A) (nsV 0 f_A)))
  | _ => none
theorem isMeeting_eq (n : Nat) (sz_jd : Nat) (f_jd : Nat → Nat → SV) (m : Nat) (sz_A : Nat) (f_A : Nat → Nat → SV) : isMeetingBase [.agg [.row n sz_jd f_jd, .row m sz_A f_A]] = some ((sz_jd = 3 ∧ IntR n 3 f_jd) ∧ (sz_A = 3 ∧ NestR m 3 0 1 f_A) ∧ (n ≤ 1000000 ∧ m ≤ 1000000), .bool (mtB n (ivf f_jd) m (nsA f_A) (nsM 0 f_A) (nsV 0 f_A))) := rfl
theorem isMeeting_base : Base Try.prog 35 isMeetingBase := by
  intro args p v hq hp
  unfold isMeetingBase at hq
  split at hq
  rotate_left
  · cases hq
  rename_i n sz_jd f_jd m sz_A f_A
  cases hq
  obtain ⟨⟨rfl, i_jd⟩, ⟨rfl, i_A⟩, pre⟩ := hp
  refine base_of (C := cx [] [] [(65, hasJBase), (66, hasCBase)] [] none) (cx_ok trivial ⟨hasJ_base, hasC_base, trivial⟩) rfl (g := 35) (fn := Try.f35)
    (args' := [.agg [.row n 3 (rowF .i64 (ivf f_jd)), .row m 3 (nestF 0 1 (nsA f_A) (nsM 0 f_A) (nsV 0 f_A))]]) (fn_35) rfl 1000 (by
    simp only [BdL, Bd, and_self, and_true, true_and]
    exact ⟨(fun i j hi hj => by rw [i_jd i j hi hj]; trivial), (fun i j hi hj => nest_bd i_A i j hi hj)⟩) ⟨SameD.agg ⟨SameD.int i_jd, SameD.nest i_A, trivial⟩, trivial⟩ ?_
  generalize ivf f_jd = jd at *
  generalize nsA f_A = A at *
  generalize nsM 0 f_A = M at *
  generalize nsV 0 f_A = V at *
  simp only [rowF_eq]
  obtain ⟨p1, p2⟩ := pre
  by_cases c0 : n ≤ 8
  rotate_left
  · have d0 : decide ((n : Int) ≤ 8) = false := decide_eq_false (by omega)
    have d1 : decide (n ≤ 8) = false := decide_eq_false c0
    simp only [mtB, d0, d1, Bool.false_and, hasJ_eq, hasC_eq, nestF_eq, nestR_lit, nsM_lit, nsV_lit, ctB_ns, Try.f35, go_sem, ↓reduceIte, Nat.reduceAdd, Nat.reduceSub, Nat.reduceMul, Nat.reduceEqDiff, Nat.reduceLT, Nat.reduceLeDiff, Int.reduceToNat, Int.reduceLE, Int.reduceLT, Int.reduceEq, Int.reduceNeg, reduceCtorEq]
  have d0 : decide ((n : Int) ≤ 8) = true := decide_eq_true (by omega)
  have d1 : decide (n ≤ 8) = true := decide_eq_true c0
  by_cases c1 : m ≤ 4
  rotate_left
  · have d2 : decide ((m : Int) ≤ 4) = false := decide_eq_false (by omega)
    have d3 : decide (m ≤ 4) = false := decide_eq_false c1
    simp only [mtB, d0, d1, d2, d3, Bool.false_and, Bool.true_and, hasJ_eq, hasC_eq, nestF_eq, nestR_lit, nsM_lit, nsV_lit, ctB_ns, Try.f35, go_sem, ↓reduceIte, Nat.reduceAdd, Nat.reduceSub, Nat.reduceMul, Nat.reduceEqDiff, Nat.reduceLT, Nat.reduceLeDiff, Int.reduceToNat, Int.reduceLE, Int.reduceLT, Int.reduceEq, Int.reduceNeg, reduceCtorEq]
  have d2 : decide ((m : Int) ≤ 4) = true := decide_eq_true (by omega)
  have d3 : decide (m ≤ 4) = true := decide_eq_true c1
  cases c2 : allU (jdB jd) n with
  | false =>
    simp only [mtB, d0, d1, d2, d3, c2, p1, Bool.false_and, Bool.true_and, hasJ_eq, hasC_eq, nestF_eq, nestR_lit, nsM_lit, nsV_lit, ctB_ns, Try.f35, go_sem, ↓reduceIte, Nat.reduceAdd, Nat.reduceSub, Nat.reduceMul, Nat.reduceEqDiff, Nat.reduceLT, Nat.reduceLeDiff, Int.reduceToNat, Int.reduceLE, Int.reduceLT, Int.reduceEq, Int.reduceNeg, reduceCtorEq]
  | true =>
  cases c3 : allU (ctB A M V) m with
  | false => simp only [mtB, d0, d1, d2, d3, c2, c3, p1, p2, Bool.true_and, hasJ_eq, hasC_eq, nestF_eq, nestR_lit, nsM_lit, nsV_lit, ctB_ns, Try.f35, go_sem, ↓reduceIte, Nat.reduceAdd, Nat.reduceSub, Nat.reduceMul, Nat.reduceEqDiff, Nat.reduceLT, Nat.reduceLeDiff, Int.reduceToNat, Int.reduceLE, Int.reduceLT, Int.reduceEq, Int.reduceNeg, reduceCtorEq]
  | true => simp only [mtB, d0, d1, d2, d3, c2, c3, p1, p2, Bool.true_and, hasJ_eq, hasC_eq, nestF_eq, nestR_lit, nsM_lit, nsV_lit, ctB_ns, Try.f35, go_sem, ↓reduceIte, Nat.reduceAdd, Nat.reduceSub, Nat.reduceMul, Nat.reduceEqDiff, Nat.reduceLT, Nat.reduceLeDiff, Int.reduceToNat, Int.reduceLE, Int.reduceLT, Int.reduceEq, Int.reduceNeg, reduceCtorEq]
end Go.Eng
end

/- Families of own slices: the names behind the others, one for each number. -/
section
namespace Go.Eng
set_option linter.unusedVariables false
theorem lenV_len : ∀ l : List Vc, lenV l = l.length
  | [] => rfl
  | _ :: l => by simp [lenV, lenV_len l]
theorem getV_eq : ∀ (l : List Vc) (n : Nat), getV l n = l.getD n .dead
  | [], n => by simp [getV]
  | x :: l, 0 => by simp [getV]
  | x :: l, n + 1 => by simp [getV, getV_eq l n]
theorem setV_eq : ∀ (l : List Vc) (n : Nat) (x : Vc), setV l n x = l.set n x
  | [], n, x => by simp [setV]
  | y :: l, 0, x => by simp [setV]
  | y :: l, n + 1, x => by simp [setV, setV_eq l n x]
end Go.Eng
end

/- Families of own slices: some names, then one for each number, then others. Calls framed by names that are shifted. -/
section
namespace Go.Eng
open Go.RowKit
set_option linter.unusedVariables false
theorem calls_ren2 {P : Program} {g : Nat} {args0 : List SV} {h0 h : HS} {K0 : Out → HS → Prop} (bs vs : List Nat) (b v : Nat → Nat) (eb : ∀ i, i < bs.length → b i = nmN bs i) (ev : ∀ i, i < vs.length → v i = nmN vs i) (hc : CallsS P g args0 h0 K0) (nb : bs.Nodup) (nv : vs.Nodup)
    (ba : BdL bs.length vs.length args0) (bB : bdB bs.length vs.length h0.blks) (bV : bdV bs.length vs.length h0.vecs)
    (hB : matB b v bs h.blks h0.blks) (hV : matV b v vs h.vecs h0.vecs) (hlB : ∀ k, k ∈ bs → k < lenB h.blks) (hlV : ∀ k, k ∈ vs → k < lenV h.vecs)
    (hK : ∀ o h', K0 o h' → lenB h'.blks = bs.length ∧ lenV h'.vecs = vs.length ∧ bdB bs.length vs.length h'.blks ∧ bdV bs.length vs.length h'.vecs ∧ bdO bs.length vs.length o) :
    CallsS P g (renL b v args0) h (fun o h' => ∃ o0 h0', K0 o0 h0' ∧ o = renO b v o0 ∧ h' = ⟨putB b v bs h.blks h0'.blks, putV b v vs h.vecs h0'.vecs⟩) := by
  intro E w vals hr hd
  obtain ⟨lB, gB⟩ := matB_get hB
  obtain ⟨lV, gV⟩ := matV_get hV
  have hnmb : ∀ i, i < bs.length → nmN bs i < E.nb := fun i hi => by rw [hr.nb]; exact hlB _ (nmN_mem hi)
  have hnmv : ∀ i, i < vs.length → nmN vs i < E.nv := fun i hi => by rw [hr.nv]; exact hlV _ (nmN_mem hi)
  have un := fun (x : SV) (u : Value) (hx : Den E w (renS b v x) u) (hb : Bd bs.length vs.length x) =>
    Den.unren (E := E) (E0 := E.small bs vs) (w := w) (b := b) (v := v) (L := bs.length) (M := vs.length) (fun nm hn => ⟨hn, by simp only [Env.small, eb nm hn]⟩) (fun id ver y hi hy => ⟨hi, by simp only [Env.small, ← ev id hi]; exact hy⟩) (fun k _ hk => by simp [Env.small, hk, tagS]) x u hx hb
  have unL := fun (l : List SV) (us : Array Value) (hx : DenA E w (renL b v l) us) (hb : BdL bs.length vs.length l) => (show DenA (E.small bs vs) w l us from
    ⟨by rw [hx.1, renL_eq]; simp, Den.unrenL (E := E) (E0 := E.small bs vs) (w := w) (b := b) (v := v) (L := bs.length) (M := vs.length) (fun nm hn => ⟨hn, by simp only [Env.small, eb nm hn]⟩) (fun id ver y hi hy => ⟨hi, by simp only [Env.small, ← ev id hi]; exact hy⟩) (fun k _ hk => by simp [Env.small, hk, tagS]) l us hx.2 hb⟩)
  have ownB : ∀ i, i < bs.length → ∀ k, E.own k = some (.blk (nmN bs i)) → (E.small bs vs).own k = some (.blk i) := fun i hi k hk => by simp [Env.small, hk, tagS, ixN_nm nb hi]
  have ownV : ∀ i, i < vs.length → ∀ k, E.own k = some (.vec (nmN vs i)) → (E.small bs vs).own k = some (.vec i) := fun i hi k hk => by simp [Env.small, hk, tagS, ixN_nm nv hi]
  have hr0 : RelH (E.small bs vs) h0 w := by
    refine ⟨by simp [Env.small, lB], by simp [Env.small, lV], ?_, ?_, ?_, ?_, ?_⟩
    · intro nm ty c hg
      have hlt : nm < bs.length := by rw [← lB]; exact getB_lt hg
      have hg' := gB nm hlt
      rw [hg] at hg'
      obtain ⟨cs, a1, a2, a3, a4⟩ := hr.blk _ _ _ hg'
      exact ⟨cs, a1, unL c cs a2 (bdB_get bB hg), a3, ownB nm hlt _ a4⟩
    · intro id ver ty sz n f hg
      have hlt : id < vs.length := by rw [← lV]; exact getV_lt hg
      have hg' := gV id hlt
      rw [hg] at hg'
      obtain ⟨c0, ⟨a, cap, k1, k2⟩, k3⟩ := hr.vec _ _ _ _ _ _ hg'
      refine ⟨c0, ⟨a, cap, k1, ?_⟩, k3⟩
      rcases k2 with hk | ⟨g1, o, cur, q1, q2, q3, q4, q5, q6, q7, q8⟩
      · exact .inl hk
      · exact .inr ⟨g1, o, cur, q1, q2, q3, q4, q5, ownV id hlt _ q6, q7, fun i j u hi hj hu => un _ _ (q8 i j u hi hj hu) (bdV_get bV hg i j hi hj)⟩
    · intro k t hk
      simp only [Env.small] at hk
      cases ho : E.own k with
      | none => rw [ho] at hk; simp [tagS] at hk
      | some t' => exact hr.own k t' ho
    · intro nm st pend fid t params assign body hg
      have hlt : nm < bs.length := by rw [← lB]; exact getB_ltL hg
      have hg' := gB nm hlt
      rw [hg] at hg'
      obtain ⟨tmps, db, a1, a2, a3⟩ := hr.lp _ _ _ _ _ _ _ _ hg'
      exact ⟨tmps, db, a1, unL t tmps a2 (bdB_getL bB hg), ownB nm hlt _ a3⟩
    · intro nm m hg
      have hlt : nm < bs.length := by rw [← lB]; exact getB_ltM hg
      have hg' := gB nm hlt
      rw [hg] at hg'
      obtain ⟨a2, a3⟩ := hr.mp _ _ hg'
      have hi := bdB_getM bB hg
      refine ⟨ownB nm hlt _ a2, ?_⟩
      rw [hi] at a3 ⊢
      exact a3
  refine (hc (E.small bs vs) w vals hr0 (unL args0 vals hd ba)).mono ?_
  rintro e w' ⟨o, h', E0', hk, hr', hx, hout⟩
  obtain ⟨k1, k2, k3, k4, k5⟩ := hK o h' hk
  have rho' : ∀ i, i < bs.length → E0'.rho i = E.rho (nmN bs i) := fun i hi => hx.rho i hi
  have hxG : Ext E w (E.great E0' bs vs) w' := by
    refine ⟨hx.os, hx.tape, hx.output, hx.size, Nat.le_refl _, Nat.le_refl _, fun _ _ => rfl, fun id ver x hi hv => ?_, fun k hk ho => ?_, fun k ho => ?_⟩
    · simp only [Env.great]
      split
      · rename_i i hi'
        obtain ⟨q1, q2⟩ := ixN_some hi'
        exact hx.val i ver x q1 (by simp only [Env.small, q2]; exact hv)
      · exact hv
    · obtain ⟨q1, q2⟩ := hx.keep k hk (by simp [Env.small, ho, tagS])
      exact ⟨by simp [Env.great, q1, tagG], q2⟩
    · obtain ⟨q1, q2⟩ := hx.oth k (by simp [Env.small, ho, tagS])
      exact ⟨by simp [Env.great, q1, tagG, ho, tagS], q2⟩
  have up := fun (x : SV) (u : Value) (hd : Den E0' w' x u) (hb : Bd bs.length vs.length x) =>
    Den.ren (E := E.great E0' bs vs) (E0 := E0') (b := b) (v := v) hd hb (fun nm hn _ => ⟨by rw [eb nm hn]; exact hnmb nm hn, by rw [eb nm hn]; exact (rho' nm hn).symm⟩) (fun id ver y hi _ hy => ⟨by rw [ev id hi]; exact hnmv id hi, by simp only [Env.great, ev id hi, ixN_nm nv hi]; exact hy⟩) (fun k _ hk => by simp [Env.great, hk, tagG])
  have upL := fun (l : List SV) (us : Array Value) (hd : DenA E0' w' l us) (hb : BdL bs.length vs.length l) => (show DenA (E.great E0' bs vs) w' (renL b v l) us from
    ⟨by rw [hd.1, renL_eq]; simp, fun i x u hx hu => by
      rw [renL_eq, List.getElem?_map, Option.map_eq_some_iff] at hx
      obtain ⟨y, hy, rfl⟩ := hx
      exact up y u (hd.2 i y u hy hu) (BdL_get hb i y hy)⟩)
  have gown : ∀ i, i < bs.length → E0'.own (E0'.rho i) = some (.blk i) → (E.great E0' bs vs).own (E.rho (nmN bs i)) = some (.blk (nmN bs i)) := fun i hi ho => by
    rw [rho' i hi] at ho
    simp [Env.great, ho, tagG, hi]
  -- what is not handed over stays
  have foreign : ∀ k t, E.own k = some t → (match t with | .blk m => ixN bs m = none | .vec m => ixN vs m = none | .other => True) → w'.heap[k]? = w.heap[k]? ∧ (E.great E0' bs vs).own k = E.own k := fun k t ho ht => by
    have hs : (E.small bs vs).own k = some .other := by
      simp only [Env.small, ho]
      cases t with
      | blk m => simp only at ht; simp [tagS, ht]
      | vec m => simp only at ht; simp [tagS, ht]
      | other => rfl
    obtain ⟨q1, q2⟩ := hx.oth k hs
    have hs' : tagS bs vs (E.own k) = some .other := hs
    exact ⟨q2, by simp [Env.great, q1, tagG, hs']⟩
  refine ⟨renO b v o, _, E.great E0' bs vs, ⟨o, h', hk, rfl, rfl⟩, ?_, hxG, ?_⟩
  · have gBp := getB_put b v bs h.blks h'.blks nb k1 hlB
    have gVp := getV_put b v vs h.vecs h'.vecs nv k2 hlV
    refine ⟨by rw [lenB_put]; exact hr.nb, by rw [lenV_put]; exact hr.nv, ?_, ?_, ?_, ?_, ?_⟩
    · intro nm ty c hg
      rw [gBp] at hg
      split at hg
      · rename_i i hi
        obtain ⟨q1, q2⟩ := ixN_some hi
        subst q2
        cases hb : getB h'.blks i with
        | live ty' c' =>
          rw [hb] at hg
          simp only [renK, Blk.live.injEq] at hg
          obtain ⟨rfl, rfl⟩ := hg
          obtain ⟨cs, a1, a2, a3, a4⟩ := hr'.blk _ _ _ hb
          exact ⟨cs, by rw [rho' i q1] at a1; exact a1, upL c' cs a2 (bdB_get k3 hb), a3, gown i q1 a4⟩
        | dead => rw [hb] at hg; simp [renK] at hg
        | loop => rw [hb] at hg; simp [renK] at hg
        | mp => rw [hb] at hg; simp [renK] at hg
      · rename_i hn
        obtain ⟨cs, a1, a2, a3, a4⟩ := hr.blk _ _ _ hg
        obtain ⟨f1, f2⟩ := foreign _ _ a4 hn
        exact ⟨cs, f1.trans a1, a2.ext hxG, a3, f2.trans a4⟩
    · intro id ver ty sz n f hg
      rw [gVp] at hg
      split at hg
      · rename_i i hi
        obtain ⟨q1, q2⟩ := ixN_some hi
        subst q2
        cases hb : getV h'.vecs i with
        | live ver' ty' sz' n' f' =>
          rw [hb] at hg
          simp only [renC, Vc.live.injEq] at hg
          obtain ⟨rfl, rfl, rfl, rfl, rfl⟩ := hg
          obtain ⟨c0, ⟨a, cap, l1, l2⟩, l3⟩ := hr'.vec _ _ _ _ _ _ hb
          have hval : ∀ ver, (E.great E0' bs vs).val (nmN vs i) ver = E0'.val i ver := fun ver => by simp only [Env.great, ixN_nm nv q1]
          refine ⟨c0, ⟨a, cap, by rw [hval]; exact l1, ?_⟩, fun v' hv' => by rw [hval]; exact l3 v' hv'⟩
          rcases l2 with hk | ⟨g1, o, cur, p1, p2, p3, p4, p5, p6, p7, p8⟩
          · exact .inl hk
          · exact .inr ⟨g1, o, cur, p1, p2, p3, p4, p5, by simp [Env.great, p6, tagG, q1], p7, fun a j u hi hj hu => up _ _ (p8 a j u hi hj hu) (bdV_get k4 hb a j hi hj)⟩
        | dead => rw [hb] at hg; simp [renC] at hg
      · rename_i hn
        obtain ⟨c0, ⟨a, cap, l1, l2⟩, l3⟩ := hr.vec _ _ _ _ _ _ hg
        have hval : ∀ ver, (E.great E0' bs vs).val id ver = E.val id ver := fun ver => by simp only [Env.great, hn]
        exact ⟨c0, ⟨a, cap, by rw [hval]; exact l1, l2.ext hxG (fun g hg => foreign g _ hg hn)⟩, fun v' hv' => by rw [hval]; exact l3 v' hv'⟩
    · intro k t hk
      rcases Nat.lt_or_ge k w'.heap.size with h | h
      · exact h
      · exfalso
        have n0 : E0'.own k = none := by
          cases ho : E0'.own k with
          | none => rfl
          | some t' => have := hr'.own k t' ho; omega
        simp [Env.great, n0, tagG] at hk
    · intro nm st pend fid t params assign body hg
      rw [gBp] at hg
      split at hg
      · rename_i i hi
        obtain ⟨q1, q2⟩ := ixN_some hi
        subst q2
        cases hb : getB h'.blks i with
        | loop st' pend' fid' t' params' assign' body' =>
          rw [hb] at hg
          simp only [renK, Blk.loop.injEq] at hg
          obtain ⟨rfl, rfl, rfl, rfl, rfl, rfl, rfl⟩ := hg
          obtain ⟨tmps, db, a1, a2, a3⟩ := hr'.lp _ _ _ _ _ _ _ _ hb
          exact ⟨tmps, db, by rw [rho' i q1] at a1; exact a1, upL t' tmps a2 (bdB_getL k3 hb), gown i q1 a3⟩
        | dead => rw [hb] at hg; simp [renK] at hg
        | live => rw [hb] at hg; simp [renK] at hg
        | mp => rw [hb] at hg; simp [renK] at hg
      · rename_i hn
        exact (hr.lp _ _ _ _ _ _ _ _ hg).ext hxG (fun ho => ⟨rfl, foreign _ _ ho hn⟩)
    · intro nm m hg
      rw [gBp] at hg
      split at hg
      · rename_i i hi
        obtain ⟨q1, q2⟩ := ixN_some hi
        subst q2
        cases hb : getB h'.blks i with
        | mp m' =>
          rw [hb] at hg
          simp only [renK, Blk.mp.injEq] at hg
          subst hg
          obtain ⟨a2, a3⟩ := hr'.mp _ _ hb
          have hi := bdB_getM k3 hb
          rw [hi] at a3
          obtain ⟨es, a1, a4⟩ := a3
          refine ⟨gown i q1 a2, ?_⟩
          rw [hi]
          exact ⟨es, by rw [rho' i q1] at a1; exact a1, a4⟩
        | dead => rw [hb] at hg; simp [renK] at hg
        | live => rw [hb] at hg; simp [renK] at hg
        | loop => rw [hb] at hg; simp [renK] at hg
      · rename_i hn
        exact (hr.mp _ _ hg).ext hxG (fun ho => ⟨rfl, foreign _ _ ho hn⟩)
  · cases o with
    | ret x =>
      cases e with
      | returned val => exact up x val hout k5
      | panicked _ => exact hout.elim
      | outgrown => exact hout.elim
    | pan x =>
      cases e with
      | panicked chain => obtain ⟨val, h1, h2⟩ := hout; exact ⟨val, h1, up x val h2 k5⟩
      | returned _ => exact hout.elim
      | outgrown => exact hout.elim
    | fin p ts => cases e <;> exact hout.elim
    | stop k t => cases e <;> exact hout.elim
    | rnd v => cases e <;> exact hout.elim


/- ### shifted names -/
mutual
theorem renS_id : ∀ x : SV, renS (fun n => n) (fun n => n) x = x
  | .any => rfl
  | .int _ _ => rfl
  | .bool _ => rfl
  | .str _ => rfl
  | .ptr _ _ => rfl
  | .nilp => rfl
  | .nils _ _ => rfl
  | .rptr sz f => by simp only [renS]; congr 1; funext j; exact renS_id (f j)
  | .row n sz f => by simp only [renS]; congr 1; funext i j; exact renS_id (f i j)
  | .vec _ _ => rfl
  | .vptr _ _ _ _ _ => rfl
  | .vcut _ _ _ _ _ _ => rfl
  | .bsl _ _ _ => rfl
  | .mapp _ => rfl
  | .func g caps => by simp only [renS, renL_id caps]
  | .nilf => rfl
  | .iface t x => by simp only [renS, renS_id x]
  | .nili => rfl
  | .agg l => by simp only [renS, renL_id l]
  | .tup l => by simp only [renS, renL_id l]
  | .yield _ => rfl
  | .meth g first => by simp only [renS, renL_id first]
theorem renL_id : ∀ l : List SV, renL (fun n => n) (fun n => n) l = l
  | [] => rfl
  | x :: l => by simp only [renL, renS_id x, renL_id l]
end
theorem renK_id (x : Blk) : renK (fun n => n) (fun n => n) x = x := by cases x <;> simp only [renK, renL_id]
theorem renC_id (x : Vc) : renC (fun n => n) (fun n => n) x = x := by
  cases x with
  | live ver ty sz n f => simp only [renC]; congr 1; funext i j; exact renS_id _
  | dead => rfl
theorem nmN_range' : ∀ (n p i : Nat), i < n → nmN (List.range' p n) i = p + i
  | 0, p, i, h => absurd h (Nat.not_lt_zero _)
  | n + 1, p, 0, h => by simp [List.range'_succ, nmN]
  | n + 1, p, i + 1, h => by
    rw [List.range'_succ]
    simp only [nmN]
    rw [nmN_range' n (p + 1) i (by omega)]
    omega
theorem lenB_len : ∀ l : List Blk, lenB l = l.length
  | [] => rfl
  | _ :: l => by simp [lenB, lenB_len l]
theorem setB_eq : ∀ (l : List Blk) (n : Nat) (x : Blk), setB l n x = l.set n x
  | [], n, x => by simp [setB]
  | y :: l, 0, x => by simp [setB]
  | y :: l, n + 1, x => by simp [setB, setB_eq l n x]
theorem getB_eq : ∀ (l : List Blk) (n : Nat), getB l n = l.getD n .dead
  | [], n => by simp [getB]
  | x :: l, 0 => by simp [getB]
  | x :: l, n + 1 => by simp [getB, getB_eq l n]
theorem putB_mid (b v : Nat → Nat) : ∀ (l X Bp B : List Blk), X.length = l.length → putB b v (List.range' Bp.length l.length) (Bp ++ (X ++ B)) l = Bp ++ (l.map (renK b v) ++ B)
  | [], X, Bp, B, h => by
    obtain rfl : X = [] := List.length_eq_zero_iff.1 h
    simp [putB]
  | y :: l, X, Bp, B, h => by
    cases X with
    | nil => simp at h
    | cons x X =>
      rw [List.length_cons, List.range'_succ]
      simp only [putB]
      rw [setB_eq, List.set_append_right _ _ (Nat.le_refl _), Nat.sub_self]
      have := putB_mid b v l X (Bp ++ [renK b v y]) B (by simpa using h)
      simp only [List.length_append, List.length_cons, List.length_nil, Nat.zero_add, List.append_assoc, List.cons_append, List.nil_append] at this
      simpa using this
theorem putV_mid (b v : Nat → Nat) : ∀ (l X Vp V : List Vc), X.length = l.length → putV b v (List.range' Vp.length l.length) (Vp ++ (X ++ V)) l = Vp ++ (l.map (renC b v) ++ V)
  | [], X, Vp, V, h => by
    obtain rfl : X = [] := List.length_eq_zero_iff.1 h
    simp [putV]
  | y :: l, X, Vp, V, h => by
    cases X with
    | nil => simp at h
    | cons x X =>
      rw [List.length_cons, List.range'_succ]
      simp only [putV]
      rw [setV_eq, List.set_append_right _ _ (Nat.le_refl _), Nat.sub_self]
      have := putV_mid b v l X (Vp ++ [renC b v y]) V (by simpa using h)
      simp only [List.length_append, List.length_cons, List.length_nil, Nat.zero_add, List.append_assoc, List.cons_append, List.nil_append] at this
      simpa using this
theorem matB_mid (b v : Nat → Nat) : ∀ (l Bp B : List Blk), matB b v (List.range' Bp.length l.length) (Bp ++ (l.map (renK b v) ++ B)) l
  | [], Bp, B => by simp [matB]
  | y :: l, Bp, B => by
    rw [List.length_cons, List.range'_succ]
    refine ⟨by rw [getB_eq]; simp [List.getD], ?_⟩
    have := matB_mid b v l (Bp ++ [renK b v y]) B
    simpa using this
theorem matV_mid (b v : Nat → Nat) : ∀ (l Vp V : List Vc), matV b v (List.range' Vp.length l.length) (Vp ++ (l.map (renC b v) ++ V)) l
  | [], Vp, V => by simp [matV]
  | y :: l, Vp, V => by
    rw [List.length_cons, List.range'_succ]
    refine ⟨by rw [getV_eq]; simp [List.getD], ?_⟩
    have := matV_mid b v l (Vp ++ [renC b v y]) V
    simpa using this
/-- A call over a part of what is owned, whose names are shifted. -/
theorem calls_mid {P : Program} {g : Nat} {args0 : List SV} {h0 : HS} {K0 : Out → HS → Prop} (p q : Nat) (hc : CallsS P g args0 h0 K0)
    (ba : BdL h0.blks.length h0.vecs.length args0) (bB : bdB h0.blks.length h0.vecs.length h0.blks) (bV : bdV h0.blks.length h0.vecs.length h0.vecs)
    (hK : ∀ o h', K0 o h' → h'.blks.length = h0.blks.length ∧ h'.vecs.length = h0.vecs.length ∧ bdB h0.blks.length h0.vecs.length h'.blks ∧ bdV h0.blks.length h0.vecs.length h'.vecs ∧ bdO h0.blks.length h0.vecs.length o)
    (Bp B : List Blk) (Vp V : List Vc) (hp : Bp.length = p) (hq : Vp.length = q) :
    CallsS P g (renL (fun n => n + p) (fun n => n + q) args0) ⟨Bp ++ (h0.blks.map (renK (fun n => n + p) (fun n => n + q)) ++ B), Vp ++ (h0.vecs.map (renC (fun n => n + p) (fun n => n + q)) ++ V)⟩
      (fun o h' => ∃ o0 h0', K0 o0 h0' ∧ o = renO (fun n => n + p) (fun n => n + q) o0 ∧ h' = ⟨Bp ++ (h0'.blks.map (renK (fun n => n + p) (fun n => n + q)) ++ B), Vp ++ (h0'.vecs.map (renC (fun n => n + p) (fun n => n + q)) ++ V)⟩) := by
  subst hp hq
  have := calls_ren2 (h := ⟨Bp ++ (h0.blks.map (renK (fun n => n + Bp.length) (fun n => n + Vp.length)) ++ B), Vp ++ (h0.vecs.map (renC (fun n => n + Bp.length) (fun n => n + Vp.length)) ++ V)⟩)
    (List.range' Bp.length h0.blks.length) (List.range' Vp.length h0.vecs.length) (fun n => n + Bp.length) (fun n => n + Vp.length)
    (fun i hi => by rw [List.length_range'] at hi; rw [nmN_range' _ _ _ hi]; omega) (fun i hi => by rw [List.length_range'] at hi; rw [nmN_range' _ _ _ hi]; omega) hc List.nodup_range' List.nodup_range'
    (by simpa using ba) (by simpa using bB) (by simpa using bV) (matB_mid _ _ _ _ _) (matV_mid _ _ _ _ _)
    (fun k hk => by rw [lenB_len]; simp at hk ⊢; omega) (fun k hk => by rw [lenV_len]; simp at hk ⊢; omega)
    (fun o h' hk => by rw [lenB_len, lenV_len]; simpa using hK o h' hk)
  refine calls_mono ?_ this
  rintro o h' ⟨o0, h0', hk, rfl, rfl⟩
  obtain ⟨k1, k2, _⟩ := hK _ _ hk
  refine ⟨o0, h0', hk, rfl, ?_⟩
  simp only
  rw [← k1, ← k2, putB_mid _ _ _ _ _ _ (by simp [k1]), putV_mid _ _ _ _ _ _ (by simp [k2])]
/-- The same; the names stay, others lie behind them. -/
theorem calls_pfx {P : Program} {g : Nat} {args0 : List SV} {h0 : HS} {K0 : Out → HS → Prop} (hc : CallsS P g args0 h0 K0)
    (ba : BdL h0.blks.length h0.vecs.length args0) (bB : bdB h0.blks.length h0.vecs.length h0.blks) (bV : bdV h0.blks.length h0.vecs.length h0.vecs)
    (hK : ∀ o h', K0 o h' → h'.blks.length = h0.blks.length ∧ h'.vecs.length = h0.vecs.length ∧ bdB h0.blks.length h0.vecs.length h'.blks ∧ bdV h0.blks.length h0.vecs.length h'.vecs ∧ bdO h0.blks.length h0.vecs.length o)
    (B : List Blk) (V : List Vc) : CallsS P g args0 ⟨h0.blks ++ B, h0.vecs ++ V⟩ (fun o h' => ∃ o0 h0', K0 o0 h0' ∧ o = renO (fun n => n) (fun n => n) o0 ∧ h' = ⟨h0'.blks ++ B, h0'.vecs ++ V⟩) := by
  have := calls_mid 0 0 hc ba bB bV hK [] B [] V rfl rfl
  simp only [Nat.add_zero, renL_id, List.nil_append] at this
  have e1 : ∀ l : List Blk, l.map (renK (fun n => n) (fun n => n)) = l := fun l => by rw [show (renK (fun n => n) (fun n => n)) = id from funext renK_id]; simp
  have e2 : ∀ l : List Vc, l.map (renC (fun n => n) (fun n => n)) = l := fun l => by rw [show (renC (fun n => n) (fun n => n)) = id from funext renC_id]; simp
  simpa only [e1, e2] using this
/-- Of what a call leaves, some is forgotten; whatever it ends with. -/
theorem calls_trim2 {P : Program} {g : Nat} {args : List SV} {h : HS} {K K' : Out → HS → Prop} (hc : CallsS P g args h K)
    (ht : ∀ o h', K o h' → ∃ x y o' h'', ((o = .ret x ∧ o' = .ret y) ∨ (o = .pan x ∧ o' = .pan y)) ∧ K' o' h'' ∧ SubS [x] h' ([y], h'') ∧ (lenB h.blks ≤ lenB h''.blks ∧ lenB h''.blks ≤ lenB h'.blks) ∧ (lenV h.vecs ≤ lenV h''.vecs ∧ lenV h''.vecs ≤ lenV h'.vecs)) : CallsS P g args h K' := by
  intro E w vals hr hd
  refine (hc E w vals hr hd).mono ?_
  rintro e w' ⟨o, h', E', hk, hr', hx, hout⟩
  obtain ⟨x, y, o', h'', ho, hk', hsub, ⟨hB, hB2⟩, ⟨hV, hV2⟩⟩ := ht o h' hk
  have key : ∀ val : Value, Den E' w' x val → ∃ E2, RelH E2 h'' w' ∧ Ext E w E2 w' ∧ Den E2 w' y val := fun val hout => by
    have hd1 : DenA E' w' [x] #[val] := ⟨rfl, fun i z u hz hu => by
      cases i with
      | zero => simp at hz hu; subst hz hu; exact hout
      | succ i => simp at hz⟩
    obtain ⟨g1, g2⟩ := hsub.go hd1 hr' (lenB h''.blks) (lenV h''.vecs) rfl rfl (by rw [hr'.nb]; exact hB2) (by rw [hr'.nv]; exact hV2)
    exact ⟨_, g2, ⟨hx.os, hx.tape, hx.output, hx.size, by simp only []; rw [hr.nb]; exact hB, by simp only []; rw [hr.nv]; exact hV, hx.rho, hx.val, hx.keep, hx.oth⟩, g1.2 0 y val rfl rfl⟩
  rcases ho with ⟨rfl, rfl⟩ | ⟨rfl, rfl⟩
  · cases e with
    | returned val =>
      obtain ⟨E2, r1, r2, r3⟩ := key val hout
      exact ⟨_, _, E2, hk', r1, r2, r3⟩
    | panicked _ => exact hout.elim
    | outgrown => exact hout.elim
  · cases e with
    | panicked chain =>
      obtain ⟨val, h1, h2⟩ := hout
      obtain ⟨E2, r1, r2, r3⟩ := key val h2
      exact ⟨_, _, E2, hk', r1, r2, val, h1, r3⟩
    | returned _ => exact hout.elim
    | outgrown => exact hout.elim
/- ### families -/
variable {pre : List Vc} {N : Nat} {f : Nat → Vc} {post : List Vc}
end Go.Eng
end

/- An own slice that is given away is foreign from then on. -/
section
namespace Go.Eng
open Go Go.RowKit Go.Proofs
/-- A call from a memory of which more is known. -/
theorem calls_pre {P : Program} {g : Nat} {args args' : List SV} {h h' : HS} {K : Out → HS → Prop} (hs : SubS args h (args', h')) (hB : lenB h'.blks = lenB h.blks) (hV : lenV h'.vecs = lenV h.vecs) (hc : CallsS P g args' h' K) : CallsS P g args h K := fun E w vals hr hd => by
  obtain ⟨g1, g2⟩ := hs.go hd hr E.nb E.nv (hB.trans hr.nb.symm) (hV.trans hr.nv.symm) (Nat.le_refl _) (Nat.le_refl _)
  exact hc E w vals g2 g1
end Go.Eng
end

/- Rounds that run apart: the iterator is walked for whatever a round does; a round is walked by itself. -/
section
namespace Go.Eng
open Go Go.RowKit Go.Proofs
set_option linter.unusedVariables false
noncomputable def cxs (hof : List Nat) (NL : List (Nat × BaseF)) (OL : List (Nat × Nat × BaseF)) (GL : List (Nat × BaseF)) (PL : List (Nat × Nat × Plan)) : Ctx := { cxn hof NL OL GL PL none with rs := true }
noncomputable def cxd (hof : List Nat) (NL : List (Nat × BaseF)) (OL : List (Nat × Nat × BaseF)) (GL : List (Nat × BaseF)) (PL : List (Nat × Nat × Plan)) : Ctx := { cxn hof NL OL GL PL none with rd := true }
section
variable (hof : List Nat) (NL : List (Nat × BaseF)) (OL : List (Nat × Nat × BaseF)) (GL : List (Nat × BaseF)) (PL : List (Nat × Nat × Plan))
theorem cxs_P : (cxs hof NL OL GL PL).P = Try.prog := rfl
theorem cxs_T : (cxs hof NL OL GL PL).T = tab := rfl
theorem cxs_F : (cxs hof NL OL GL PL).F = entB Try.prog := rfl
theorem cxs_FN (g : Nat) : (cxs hof NL OL GL PL).FN g = Try.prog.funcs[g]? := rfl
theorem cxs_inl (g : Nat) : (cxs hof NL OL GL PL).inl g = !memN hof g := rfl
theorem cxs_G (g : Nat) : (cxs hof NL OL GL PL).G g = mapN (lookG NL g) (mapS (lookG GL g) (lookO OL g)) := rfl
theorem cxs_plan (g id : Nat) : (cxs hof NL OL GL PL).plan g id = lookP PL g id := rfl
theorem cxs_D : (cxs hof NL OL GL PL).D = none := rfl
theorem cxs_rs : (cxs hof NL OL GL PL).rs = true := rfl
theorem cxs_rd : (cxs hof NL OL GL PL).rd = false := rfl
theorem cxs_off : (cxs hof NL OL GL PL).off = cxn hof NL OL GL PL none := rfl
theorem cxd_P : (cxd hof NL OL GL PL).P = Try.prog := rfl
theorem cxd_T : (cxd hof NL OL GL PL).T = tab := rfl
theorem cxd_F : (cxd hof NL OL GL PL).F = entB Try.prog := rfl
theorem cxd_FN (g : Nat) : (cxd hof NL OL GL PL).FN g = Try.prog.funcs[g]? := rfl
theorem cxd_inl (g : Nat) : (cxd hof NL OL GL PL).inl g = !memN hof g := rfl
theorem cxd_G (g : Nat) : (cxd hof NL OL GL PL).G g = mapN (lookG NL g) (mapS (lookG GL g) (lookO OL g)) := rfl
theorem cxd_plan (g id : Nat) : (cxd hof NL OL GL PL).plan g id = lookP PL g id := rfl
theorem cxd_D : (cxd hof NL OL GL PL).D = none := rfl
theorem cxd_rs : (cxd hof NL OL GL PL).rs = false := rfl
theorem cxd_rd : (cxd hof NL OL GL PL).rd = true := rfl
theorem cxd_off : (cxd hof NL OL GL PL).off = cxn hof NL OL GL PL none := rfl
end
theorem cxs_ok {hof : List Nat} {NL : List (Nat × BaseF)} {OL : List (Nat × Nat × BaseF)} {GL : List (Nat × BaseF)} {PL : List (Nat × Nat × Plan)} (hN : AllN NL) (hO : AllO OL) (h : AllB GL) : CtxOk (cxs hof NL OL GL PL) :=
  let c : CtxOk (cxn hof NL OL GL PL none) := cxn_ok hN hO h
  ⟨c.T, c.F, c.FN, c.G, c.mix⟩
theorem cxd_ok {hof : List Nat} {NL : List (Nat × BaseF)} {OL : List (Nat × Nat × BaseF)} {GL : List (Nat × BaseF)} {PL : List (Nat × Nat × Plan)} (hN : AllN NL) (hO : AllO OL) (h : AllB GL) : CtxOk (cxd hof NL OL GL PL) :=
  let c : CtxOk (cxn hof NL OL GL PL none) := cxn_ok hN hO h
  ⟨c.T, c.F, c.FN, c.G, c.mix⟩
attribute [go_sem] cxs_P cxs_T cxs_F cxs_FN cxs_inl cxs_G cxs_plan cxs_D cxs_rs cxs_rd cxs_off cxd_P cxd_T cxd_F cxd_FN cxd_inl cxd_G cxd_plan cxd_D cxd_rs cxd_rd cxd_off
/-- A call, its rounds apart. -/
theorem calls_of_runs {C : Ctx} (hC : CtxOk C) (hD : C.D = none) (hrd : C.rd = false) {g : Nat} {fn : Func} {c : Code} (hFN : C.FN g = some fn) (hb : fn.body = some c) {args : List SV} {h : HS} {K : Out → HS → Prop} (n : Nat)
    (hrun : run C n g [.code c] (catS args (anys (fn.ntmps - lenS args))) [] h K) : CallsS C.P g args h K := by
  intro E w vals hr hd cs
  have hf := hC.FN g fn hFN
  have hs := run_sound n C hC cs g (Bt.std C.P g cs (Rel0 E w K)) E w K (Bt.std_ok (C := C) hD hrd cs g E w K) g _ _ [] h hrun (fun h => absurd hD h) E w (vals ++ Array.replicate (fn.ntmps - vals.size) undef) [] w.heap.size [] (fill_den hd _) hr (by simp only [StkOk]; exact Nat.le_refl _) (Nat.le_refl _) (no_marks rfl _ _) (by simp only [kb]) (by simp only [InvK]) (Ext.refl E w) rfl ⟨fn, hf⟩
  obtain ⟨e, m', ⟨fr, w', rfl, ⟨o, h', E', q1, q2, q3, q4⟩, hfn, hl⟩, hc⟩ := hs
  rw [enter_fra (B := Bt.std C.P g cs (Rel0 E w K)) rfl hf hb]
  refine ⟨e, w', fr, ⟨o, h', E', q1, q2, q3, ?_⟩, hc, hfn, hl⟩
  cases o <;> cases e <;> exact q4
end Go.Eng
end

/- panel: the error of the list of a contest. -/
section
namespace Go.Eng
open Go Go.RowKit Go.Proofs
set_option maxRecDepth 100000
set_option maxHeartbeats 4000000
attribute [local irreducible] OwnT DefS
/-- A meeting. -/
structure MT where
  n : Nat
  jd : Nat → Nat → Int
  m : Nat
  A : Nat → Nat → Int
  M : Nat → Nat
  V : Nat → Nat → Nat → Int
def mtC (D : MT) : List SV := [.row D.n 3 (fun i j => .int .i64 (D.jd i j)), .row D.m 3 (nestF 0 1 D.A D.M D.V)]
def tC (T : Nat → Int) : List SV := [.int .i64 (T 0), .int .i64 (T 1), .int .i64 (T 2), .int .i64 (T 3), .int .i64 (T 4), .int .i64 (T 5), .int .i64 (T 6), .int .i64 (T 7)]
def tbB (D : MT) (T : Nat → Int) : List Blk := [.live 25 (mtC D), .live 78 (.ptr 0 0 :: tC T)]
/-- What is asked of the list of a contest. -/
def risB (l : Nat → Int) (k : Nat) : Bool := allU (fun i => decide (i = 0) || decide (l (i - 1) < l i)) k
def memC (v : Nat → Nat → Int) (M : Nat) (x : Int) : Bool := !allU (fun i => !decide (v i 0 = x)) M
def mayJ (D : MT) (c : Nat) (j : Nat) : Bool := decide (D.A c 1 ≤ D.jd j 1) && !memC (D.V c) (D.M c) (D.jd j 0)
def mayB (D : MT) (c : Nat) (l : Nat → Int) (k : Nat) : Bool := allU (fun i => mayJ D c (l i).toNat) k
def dstB (D : MT) (l : Nat → Int) (k : Nat) : Bool := allU (fun i => allU (fun e => !decide (D.jd (l e).toNat 0 = D.jd (l i).toNat 0)) i) k
def limB (D : MT) (T : Nat → Int) (l : Nat → Int) (k : Nat) : Bool := allU (fun i => !decide (T (l i).toNat = D.jd (l i).toNat 2)) k
def erM (D : MT) (c : Nat) (T : Nat → Int) (l : Nat → Int) (k : Nat) : Int :=
  if risB l k then if decide ((k : Int) = D.A c 2) then if mayB D c l k then if dstB D l k then if limB D T l k then 0 else 12 else 5 else 11 else 10 else 7
def containsBase : BaseF := fun args => match args with
  | [.row n sz_v f_v, .int .i64 x] => some ((sz_v = 1 ∧ IntR n 1 f_v) ∧ (n ≤ 1000000), .bool (memC (ivf f_v) n x))
  | _ => none
theorem contains_eq (n : Nat) (sz_v : Nat) (f_v : Nat → Nat → SV) (x : Int) : containsBase [.row n sz_v f_v, .int .i64 x] = some ((sz_v = 1 ∧ IntR n 1 f_v) ∧ (n ≤ 1000000), .bool (memC (ivf f_v) n x)) := rfl
theorem contains_base : Base Try.prog 69 containsBase := by
  intro args p v hq hp
  unfold containsBase at hq
  split at hq
  rotate_left
  · cases hq
  rename_i n sz_v f_v x
  cases hq
  obtain ⟨⟨rfl, i_v⟩, pre⟩ := hp
  refine base_of (C := cx [] [] [] [] none) (cx_ok trivial trivial) rfl (g := 69) (fn := Try.f69)
    (args' := [.row n 1 (rowF .i64 (ivf f_v)), .int .i64 x]) (fn_69) rfl 1000 (by
    simp only [BdL, Bd, and_self, and_true, true_and]
    exact (fun i j hi hj => by rw [i_v i j hi hj]; trivial)) ⟨SameD.int i_v, SameD.rfl' _, trivial⟩ ?_
  generalize ivf f_v = v at *
  simp only [rowF_eq]
  simp only [Try.f84, Try.f69, go_sem, ↓reduceIte, Nat.reduceAdd, Nat.reduceSub, Nat.reduceMul, Nat.reduceEqDiff, Nat.reduceLT, Nat.reduceLeDiff, Int.reduceToNat, Int.reduceLE, Int.reduceLT, Int.reduceEq, Int.reduceNeg, reduceCtorEq]
  refine loop_ofH { i : Nat // i ≤ n ∧ ∀ j, j < i → (fun i => !decide (v i 0 = x)) j = true } (fun i => [(8, .int .i64 (i.1 : Int)), (7, .int .i64 (n : Int)), (1, .int .i64 x), (0, .row n 1 fun i j => .int .i64 (v i j))]) (fun h _ => h) (fun i => n - i.1) (fun _ => ⟨rfl, rfl⟩) ⟨0, by omega, by omega⟩ (by (apply sub_of <;> simp only [go_sem, ↓reduceIte, Nat.reduceAdd, Nat.reduceSub, Nat.reduceMul, Nat.reduceEqDiff, Nat.reduceLT, Nat.reduceLeDiff, Int.reduceToNat, Int.reduceLE, Int.reduceLT, Int.reduceEq, Int.reduceNeg, reduceCtorEq] <;> (try simp [catF]) <;> (try exact fun j _ => Bd_nth (by simp [BdL, Bd]) j) <;> (try exact bd_setL (by simp [bdAs, BdL, Bd])) <;> (try exact nestF_bd _ _ _ _ _ _ _ _ _))) ?_
  rintro ⟨i, hi, h3⟩
  have h0 : (0 : Int) ≤ (i : Int) := by omega
  by_cases ik : i < n
  · have e1 : decide ((i : Int) < (n : Int)) = true := decide_eq_true (by omega)
    by_cases c1 : v i 0 = x
    · have d1 : decide (x = v i 0) = true := decide_eq_true c1.symm
      simp only [e1, d1, Try.f84, Try.f69, go_sem, ↓reduceIte, Nat.reduceAdd, Nat.reduceSub, Nat.reduceMul, Nat.reduceEqDiff, Nat.reduceLT, Nat.reduceLeDiff, Int.reduceToNat, Int.reduceLE, Int.reduceLT, Int.reduceEq, Int.reduceNeg, reduceCtorEq]
      refine ⟨⟨by omega, by omega⟩, ?_⟩
      rw [decide_eq_true h0, memC, allU_false (p := fun i => !decide (v i 0 = x)) ik (by simp [c1])]; rfl
    · have d1 : decide (x = v i 0) = false := decide_eq_false (fun h => c1 h.symm)
      simp only [e1, d1, Try.f84, Try.f69, go_sem, ↓reduceIte, Nat.reduceAdd, Nat.reduceSub, Nat.reduceMul, Nat.reduceEqDiff, Nat.reduceLT, Nat.reduceLeDiff, Int.reduceToNat, Int.reduceLE, Int.reduceLT, Int.reduceEq, Int.reduceNeg, reduceCtorEq]
      refine ⟨⟨by omega, by omega⟩, ⟨i + 1, by omega, below h3 (by simp [c1])⟩, by simp only []; omega, ?_⟩
      apply sub_of <;> simp only [wrap_s ik pre, go_sem, ↓reduceIte, Nat.reduceAdd, Nat.reduceSub, Nat.reduceMul, Nat.reduceEqDiff, Nat.reduceLT, Nat.reduceLeDiff, Int.reduceToNat, Int.reduceLE, Int.reduceLT, Int.reduceEq, Int.reduceNeg, reduceCtorEq] <;> (try simp) <;> (try exact fun j _ => Bd_nth (by simp [BdL, Bd]) j) <;> (try exact bd_setL (by simp [bdAs, BdL, Bd])) <;> (try exact nestF_bd _ _ _ _ _ _ _ _ _)
  · obtain rfl : i = n := by omega
    have e1 : decide ((i : Int) < (i : Int)) = false := decide_eq_false (by omega)
    simp only [e1, Try.f84, Try.f69, go_sem, ↓reduceIte, Nat.reduceAdd, Nat.reduceSub, Nat.reduceMul, Nat.reduceEqDiff, Nat.reduceLT, Nat.reduceLeDiff, Int.reduceToNat, Int.reduceLE, Int.reduceLT, Int.reduceEq, Int.reduceNeg, reduceCtorEq]
    rw [memC, allU_true h3]; rfl
theorem tC_nth (x : SV) (T : Nat → Int) {j : Nat} (h : j < 8) : nth (x :: tC T) (1 + j * 1) = .int .i64 (T j) := by
  rcases (by omega : j = 0 ∨ j = 1 ∨ j = 2 ∨ j = 3 ∨ j = 4 ∨ j = 5 ∨ j = 6 ∨ j = 7) with rfl | rfl | rfl | rfl | rfl | rfl | rfl | rfl <;> rfl
/-- A meeting within bounds. -/
structure MT.Ok (D : MT) : Prop where
  n : D.n ≤ 8
  m : D.m ≤ 4
  M : ∀ i, i < D.m → D.M i ≤ 16
  s : ∀ i, i < D.m → 0 ≤ D.A i 2 ∧ D.A i 2 ≤ 3
  q : ∀ i, i < D.n → 0 ≤ D.jd i 2 ∧ D.jd i 2 ≤ 4
def lOk (D : MT) (l : Nat → Int) (k : Nat) : Prop := k ≤ 1000000 ∧ ∀ i, i < k → 0 ≤ l i ∧ l i < (D.n : Int)
/-- The clubs of the first judges of a list. -/
def KM (D : MT) (l : Nat → Int) (i : Nat) (es : List (List Int × List Int)) : Prop :=
  (∀ y : Int, (findM es [y]).isSome = true ↔ ∃ e, e < i ∧ D.jd (l e).toNat 0 = y) ∧ es.length ≤ i ∧ (es.length = i ↔ dstB D l i = true)
theorem km_0 (D : MT) (l : Nat → Int) : KM D l 0 [] := ⟨fun y => ⟨fun h => by simp [findM] at h, fun ⟨e, he, _⟩ => absurd he (by omega)⟩, Nat.le_refl _, ⟨fun _ => rfl, fun _ => rfl⟩⟩
theorem put_len : ∀ (es : List (List Int × List Int)) (k v : List Int), (putM es k v).length = if (findM es k).isSome = true then es.length else es.length + 1
  | [], k, v => by simp [putM, findM]
  | (k', v') :: es, k, v => by
    by_cases h : k' = k
    · simp [putM, findM, h]
    · have e1 : putM ((k', v') :: es) k v = (k', v') :: putM es k v := by simp only [putM, if_neg h]
      have e2 : findM ((k', v') :: es) k = findM es k := by simp only [findM, if_neg h]
      rw [e1, e2, List.length_cons, put_len es k v, List.length_cons]
      split <;> rfl
theorem dst_step (D : MT) (l : Nat → Int) (i : Nat) : dstB D l (i + 1) = true ↔ dstB D l i = true ∧ ¬ ∃ e, e < i ∧ D.jd (l e).toNat 0 = D.jd (l i).toNat 0 := by
  simp only [dstB, allU_iff]
  constructor
  · intro h
    refine ⟨fun a ha => h a (by omega), ?_⟩
    rintro ⟨e, he, hq⟩
    have := h i (by omega) e he
    simp [hq] at this
  · rintro ⟨h1, h2⟩ a ha
    rcases Nat.lt_or_ge a i with g | g
    · exact h1 a g
    · obtain rfl : a = i := by omega
      intro e he
      simp only [Bool.not_eq_true', decide_eq_false_iff_not]
      exact fun hq => h2 ⟨e, he, hq⟩
theorem km_s {D : MT} {l : Nat → Int} {i : Nat} {es : List (List Int × List Int)} (h : KM D l i es) (v : List Int) : KM D l (i + 1) (putM es [D.jd (l i).toNat 0] v) := by
  obtain ⟨h1, h2, h3⟩ := h
  refine ⟨fun y => ?_, ?_, ?_⟩
  · rw [findM_put]
    by_cases hy : D.jd (l i).toNat 0 = y
    · subst hy
      simp only [if_true, Option.isSome_some, true_iff]
      exact ⟨i, by omega, rfl⟩
    · rw [if_neg (by simpa using hy), h1 y]
      constructor
      · rintro ⟨e, he, hq⟩; exact ⟨e, by omega, hq⟩
      · rintro ⟨e, he, hq⟩
        rcases Nat.lt_or_ge e i with g | g
        · exact ⟨e, g, hq⟩
        · obtain rfl : e = i := by omega
          exact absurd hq hy
  · rw [put_len]; split <;> omega
  · rw [put_len, dst_step, ← h1, ← h3]
    split
    · rename_i hs
      simp only [hs, not_true_eq_false, and_false, iff_false]; omega
    · rename_i hs
      simp only [hs, not_false_eq_true, and_true]; simp
theorem numV_b (b : Bool) : numV false [.b] (.bool b) = some [b2i b] := rfl
theorem errorOf_calls {D : MT} (hD : D.Ok) {c : Nat} (hc : c < D.m) (T : Nat → Int) {l : Nat → Int} {k : Nat} (hl : lOk D l k) :
    CallsS Try.prog 38 [.ptr 1 0, .int .i64 (c : Int), .row k 1 (fun i _ => .int .i64 (l i))] ⟨tbB D T, []⟩ (fun o h' => ∃ B V, o = .ret (.int .i64 (erM D c T l k)) ∧ h' = ⟨.live 25 (mtC D) :: .live 78 (.ptr 0 0 :: tC T) :: B, V⟩) := by
  obtain ⟨hk, hlb⟩ := hl
  have hn := hD.n
  have hm := hD.m
  have hMc := hD.M c hc
  refine calls_of_run (C := cx [] [] [(69, containsBase)] [(38, 5, p38_5), (38, 27, p38_27)] none) (cx_ok trivial ⟨contains_base, trivial⟩) rfl (g := 38) (fn := Try.f38) (fn_38) rfl 1000 ?_
  have hc0 : (0 : Int) ≤ (c : Int) := by omega
  have hcN : (c : Int) < (D.m : Int) := by omega
  simp only [tbB, mtC, tC, hc0, hcN, Int.toNat_natCast, contains_eq, nestF_eq, nestR_lit, nsM_lit, nsV_lit, p38_5, p38_27, Try.f38, go_sem, ↓reduceIte, Nat.reduceAdd, Nat.reduceSub, Nat.reduceMul, Nat.reduceEqDiff, Nat.reduceLT, Nat.reduceLeDiff, Int.reduceToNat, Int.reduceLE, Int.reduceLT, Int.reduceEq, Int.reduceNeg, reduceCtorEq]
  have nT : ∀ j, j < 8 → nth [.ptr 0 0, .int .i64 (T 0), .int .i64 (T 1), .int .i64 (T 2), .int .i64 (T 3), .int .i64 (T 4), .int .i64 (T 5), .int .i64 (T 6), .int .i64 (T 7)] (1 + j * 1) = .int .i64 (T j) := fun j hj => tC_nth (.ptr 0 0) T hj
  have mtd : ∀ i j, i < D.n → j < 3 → True := fun _ _ _ _ => trivial
  have st0 : ∀ j, j < 0 + 1 → j < k → (fun i => decide (i = 0) || decide (l (i - 1) < l i)) j = true := fun j hj _ => by
    obtain rfl : j = 0 := by omega
    rfl
  refine loop_ofH { x : Nat // (x = 0 ∨ x < k) ∧ ∀ j, j < x + 1 → j < k → (fun i => decide (i = 0) || decide (l (i - 1) < l i)) j = true } (fun x => [(8, .int .i64 ((x.1 + 1 : Nat) : Int)), (7, .ptr 2 0), (2, .row k 1 fun i _ => .int .i64 (l i)), (0, .ptr 1 0)]) (fun h _ => h) (fun x => k - x.1) (fun _ => ⟨rfl, rfl⟩) ⟨0, .inl rfl, st0⟩ ?_ ?_
  · apply sub_of <;> simp only [go_sem, ↓reduceIte, Nat.reduceAdd, Nat.reduceSub, Nat.reduceMul, Nat.reduceEqDiff, Nat.reduceLT, Nat.reduceLeDiff, Int.reduceToNat, Int.reduceLE, Int.reduceLT, Int.reduceEq, Int.reduceNeg, reduceCtorEq] <;> (try simp)
    exact fun i j _ _ => nestF_bd1 _ _ _ _ _ _ _ i j
  rintro ⟨x, hx, hr⟩
  by_cases xk : x + 1 < k
  · have e1 : decide (((x + 1 : Nat) : Int) < (k : Int)) = true := decide_eq_true (by omega)
    have w1 : IntKind.i64.wrap (((x + 1 : Nat) : Int) - 1) = (x : Int) := by rw [wrap_id (by omega) (by omega)]; omega
    have e2 : decide (l (x + 1) ≤ l x) = !decide (l x < l (x + 1)) := by
      by_cases h : l x < l (x + 1)
      · rw [decide_eq_true h, decide_eq_false (by omega)]; rfl
      · rw [decide_eq_false h, decide_eq_true (by omega)]; rfl
    cases c1 : decide (l x < l (x + 1)) with
    | false =>
      simp only [e1, e2, w1, c1, Int.toNat_natCast, contains_eq, nestR_lit, nsM_lit, nsV_lit, p38_5, p38_27, Try.f38, go_sem, ↓reduceIte, Nat.reduceAdd, Nat.reduceSub, Nat.reduceMul, Nat.reduceEqDiff, Nat.reduceLT, Nat.reduceLeDiff, Int.reduceToNat, Int.reduceLE, Int.reduceLT, Int.reduceEq, Int.reduceNeg, reduceCtorEq]
      have hb : risB l k = false := allU_false (i := x + 1) xk (by simp only [Nat.add_sub_cancel, c1, Bool.or_false]; rfl)
      have he : erM D c T l k = 7 := by simp only [erM, hb]; rfl
      rw [he]
      exact ⟨⟨by kernel_rfl, by kernel_rfl⟩, ⟨by omega, by omega⟩, ⟨by omega, by omega⟩, _, _, rfl, rfl⟩
    | true =>
      simp only [e1, e2, w1, c1, Int.toNat_natCast, contains_eq, nestR_lit, nsM_lit, nsV_lit, p38_5, p38_27, Try.f38, go_sem, ↓reduceIte, Nat.reduceAdd, Nat.reduceSub, Nat.reduceMul, Nat.reduceEqDiff, Nat.reduceLT, Nat.reduceLeDiff, Int.reduceToNat, Int.reduceLE, Int.reduceLT, Int.reduceEq, Int.reduceNeg, reduceCtorEq]
      refine ⟨⟨by kernel_rfl, by kernel_rfl⟩, ⟨by omega, by omega⟩, ⟨by omega, by omega⟩, ⟨x + 1, .inr (by omega), fun j hj hjk => ?_⟩, by simp only []; omega, ?_⟩
      · rcases Nat.lt_or_ge j (x + 1) with h | h
        · exact hr j h hjk
        · obtain rfl : j = x + 1 := by omega
          simp only [Nat.add_sub_cancel, c1, Bool.or_true]
      · have w2 : IntKind.i64.wrap (((x + 1 : Nat) : Int) + 1) = ((x + 1 + 1 : Nat) : Int) := by rw [wrap_id (by omega) (by omega)]; omega
        apply sub_of <;> simp only [w2, go_sem, ↓reduceIte, Nat.reduceAdd, Nat.reduceSub, Nat.reduceMul, Nat.reduceEqDiff, Nat.reduceLT, Nat.reduceLeDiff, Int.reduceToNat, Int.reduceLE, Int.reduceLT, Int.reduceEq, Int.reduceNeg, reduceCtorEq] <;> (try simp)
        exact fun i j _ _ => nestF_bd1 _ _ _ _ _ _ _ i j
  have e1 : decide (((x + 1 : Nat) : Int) < (k : Int)) = false := decide_eq_false (by omega)
  simp only [e1, Int.toNat_natCast, contains_eq, nestR_lit, nsM_lit, nsV_lit, p38_5, p38_27, Try.f38, go_sem, ↓reduceIte, Nat.reduceAdd, Nat.reduceSub, Nat.reduceMul, Nat.reduceEqDiff, Nat.reduceLT, Nat.reduceLeDiff, Int.reduceToNat, Int.reduceLE, Int.reduceLT, Int.reduceEq, Int.reduceNeg, reduceCtorEq]
  have hR : risB l k = true := allU_true fun j hj => hr j (by omega) hj
  cases c2 : decide ((k : Int) = D.A c 2) with
  | false =>
    have he : erM D c T l k = 10 := by simp only [erM, hR, c2]; rfl
    simp only [Bool.not_false, he, go_sem, ↓reduceIte, Nat.reduceAdd, Nat.reduceSub, Nat.reduceMul, Nat.reduceEqDiff, Nat.reduceLT, Nat.reduceLeDiff, Int.reduceToNat, Int.reduceLE, Int.reduceLT, Int.reduceEq, Int.reduceNeg, reduceCtorEq]
    exact ⟨_, _, rfl⟩
  | true =>
  have hk3 : k ≤ 3 := by have := of_decide_eq_true c2; have := hD.s c hc; omega
  simp only [Bool.not_true, go_sem, ↓reduceIte, Nat.reduceAdd, Nat.reduceSub, Nat.reduceMul, Nat.reduceEqDiff, Nat.reduceLT, Nat.reduceLeDiff, Int.reduceToNat, Int.reduceLE, Int.reduceLT, Int.reduceEq, Int.reduceNeg, reduceCtorEq]
  refine loop_ofH { i : Nat // i ≤ k ∧ ∀ j, j < i → (fun i => mayJ D c (l i).toNat) j = true } (fun i => [(50, .int .i64 (i.1 : Int)), (49, .int .i64 (k : Int)), (48, .row k 1 fun i _ => .int .i64 (l i)), (7, .ptr 2 0), (2, .row k 1 fun i _ => .int .i64 (l i)), (0, .ptr 1 0)]) (fun h _ => h) (fun i => k - i.1) (fun _ => ⟨rfl, rfl⟩) ⟨0, by omega, by omega⟩ ?_ ?_
  · apply sub_of <;> simp only [go_sem, ↓reduceIte, Nat.reduceAdd, Nat.reduceSub, Nat.reduceMul, Nat.reduceEqDiff, Nat.reduceLT, Nat.reduceLeDiff, Int.reduceToNat, Int.reduceLE, Int.reduceLT, Int.reduceEq, Int.reduceNeg, reduceCtorEq] <;> (try simp)
    exact fun i j _ _ => nestF_bd1 _ _ _ _ _ _ _ i j
  rintro ⟨i, hi, hm3⟩
  by_cases ik : i < k
  · have e2 : decide ((i : Int) < (k : Int)) = true := decide_eq_true (by omega)
    obtain ⟨hl0, hlN⟩ := hlb i ik
    cases c3 : decide (D.jd (l i).toNat 1 < D.A c 1) with
    | true =>
      have hb : mayB D c l k = false := allU_false (i := i) ik (by simp only [mayJ]; rw [decide_eq_false (by have := of_decide_eq_true c3; omega)]; rfl)
      have he : erM D c T l k = 11 := by simp only [erM, hR, c2, hb]; rfl
      rw [he]
      simp only [e2, c3, hl0, hlN, contains_eq, nestR_lit, nsM_lit, nsV_lit, p38_5, p38_27, Try.f38, go_sem, ↓reduceIte, Nat.reduceAdd, Nat.reduceSub, Nat.reduceMul, Nat.reduceEqDiff, Nat.reduceLT, Nat.reduceLeDiff, Int.reduceToNat, Int.reduceLE, Int.reduceLT, Int.reduceEq, Int.reduceNeg, reduceCtorEq]
      exact ⟨⟨by omega, by omega⟩, _, _, rfl⟩
    | false =>
    have d3 : decide (D.A c 1 ≤ D.jd (l i).toNat 1) = true := decide_eq_true (by have := of_decide_eq_false c3; omega)
    cases c4 : memC (D.V c) (D.M c) (D.jd (l i).toNat 0) with
    | true =>
      have hb : mayB D c l k = false := allU_false (i := i) ik (by simp only [mayJ, c4, d3]; rfl)
      have he : erM D c T l k = 11 := by simp only [erM, hR, c2, hb]; rfl
      rw [he]
      simp only [e2, c3, c4, hl0, hlN, contains_eq, nestR_lit, nsM_lit, nsV_lit, p38_5, p38_27, Try.f38, go_sem, ↓reduceIte, Nat.reduceAdd, Nat.reduceSub, Nat.reduceMul, Nat.reduceEqDiff, Nat.reduceLT, Nat.reduceLeDiff, Int.reduceToNat, Int.reduceLE, Int.reduceLT, Int.reduceEq, Int.reduceNeg, reduceCtorEq]
      exact ⟨⟨by omega, by omega⟩, by omega, _, _, rfl⟩
    | false =>
      simp only [e2, c3, c4, hl0, hlN, contains_eq, nestR_lit, nsM_lit, nsV_lit, p38_5, p38_27, Try.f38, go_sem, ↓reduceIte, Nat.reduceAdd, Nat.reduceSub, Nat.reduceMul, Nat.reduceEqDiff, Nat.reduceLT, Nat.reduceLeDiff, Int.reduceToNat, Int.reduceLE, Int.reduceLT, Int.reduceEq, Int.reduceNeg, reduceCtorEq]
      refine ⟨⟨by omega, by omega⟩, by omega, ⟨i + 1, by omega, below hm3 (by simp only [mayJ, c4, d3]; rfl)⟩, by simp only []; omega, ?_⟩
      apply sub_of <;> simp only [wrap_s ik hk, go_sem, ↓reduceIte, Nat.reduceAdd, Nat.reduceSub, Nat.reduceMul, Nat.reduceEqDiff, Nat.reduceLT, Nat.reduceLeDiff, Int.reduceToNat, Int.reduceLE, Int.reduceLT, Int.reduceEq, Int.reduceNeg, reduceCtorEq] <;> (try simp)
      exact fun i j _ _ => nestF_bd1 _ _ _ _ _ _ _ i j
  obtain rfl : i = k := by omega
  have e2 : decide ((i : Int) < (i : Int)) = false := decide_eq_false (by omega)
  have hM2 : mayB D c l i = true := allU_true hm3
  simp only [e2, contains_eq, nestR_lit, nsM_lit, nsV_lit, p38_5, p38_27, Try.f38, go_sem, ↓reduceIte, Nat.reduceAdd, Nat.reduceSub, Nat.reduceMul, Nat.reduceEqDiff, Nat.reduceLT, Nat.reduceLeDiff, Int.reduceToNat, Int.reduceLE, Int.reduceLT, Int.reduceEq, Int.reduceNeg, reduceCtorEq]
  refine loop_ofH { x : Nat × List (List Int × List Int) // x.1 ≤ i ∧ KM D l x.1 x.2 } (fun x => [(80, .int .i64 (x.1.1 : Int)), (79, .int .i64 (i : Int)), (78, .row i 1 fun i _ => .int .i64 (l i)), (12, .mapp 3), (7, .ptr 2 0), (2, .row i 1 fun i _ => .int .i64 (l i)), (0, .ptr 1 0)])
    (fun h x => ⟨setB h.blks 3 (.mp ⟨3, 4, false, [.i], false, [.b], x.1.2, none⟩), h.vecs⟩) (fun x => i - x.1.1) (fun _ => ⟨rfl, rfl⟩) ⟨(0, []), by simp only []; omega, km_0 D l⟩ ?_ ?_
  · apply sub_of <;> simp only [go_sem, ↓reduceIte, Nat.reduceAdd, Nat.reduceSub, Nat.reduceMul, Nat.reduceEqDiff, Nat.reduceLT, Nat.reduceLeDiff, Int.reduceToNat, Int.reduceLE, Int.reduceLT, Int.reduceEq, Int.reduceNeg, reduceCtorEq] <;> (try simp)
    exact fun i j _ _ => nestF_bd1 _ _ _ _ _ _ _ i j
  rintro ⟨⟨j, es⟩, hj, hK⟩
  simp only at hj hK ⊢
  by_cases jk : j < i
  · have e3 : decide ((j : Int) < (i : Int)) = true := decide_eq_true (by omega)
    obtain ⟨hl0, hlN⟩ := hlb j jk
    simp only [e3, hl0, hlN, contains_eq, nestR_lit, nsM_lit, nsV_lit, p38_5, p38_27, Try.f38, numV_i, numV_b, go_sem, ↓reduceIte, Nat.reduceAdd, Nat.reduceSub, Nat.reduceMul, Nat.reduceEqDiff, Nat.reduceLT, Nat.reduceLeDiff, Int.reduceToNat, Int.reduceLE, Int.reduceLT, Int.reduceEq, Int.reduceNeg, reduceCtorEq]
    refine ⟨⟨by omega, by omega⟩, ⟨(j + 1, putM es [D.jd (l j).toNat 0] [1]), by simp only []; omega, km_s hK [1]⟩, by simp only []; omega, ?_⟩
    apply sub_of <;> simp only [wrap_s jk (show i ≤ 1000000 by omega), go_sem, ↓reduceIte, Nat.reduceAdd, Nat.reduceSub, Nat.reduceMul, Nat.reduceEqDiff, Nat.reduceLT, Nat.reduceLeDiff, Int.reduceToNat, Int.reduceLE, Int.reduceLT, Int.reduceEq, Int.reduceNeg, reduceCtorEq] <;> (try simp)
    exact fun i j _ _ => nestF_bd1 _ _ _ _ _ _ _ i j
  obtain rfl : j = i := by omega
  have e3 : decide ((j : Int) < (j : Int)) = false := decide_eq_false (by omega)
  simp only [e3, contains_eq, nestR_lit, nsM_lit, nsV_lit, p38_5, p38_27, Try.f38, numV_i, numV_b, go_sem, ↓reduceIte, Nat.reduceAdd, Nat.reduceSub, Nat.reduceMul, Nat.reduceEqDiff, Nat.reduceLT, Nat.reduceLeDiff, Int.reduceToNat, Int.reduceLE, Int.reduceLT, Int.reduceEq, Int.reduceNeg, reduceCtorEq]
  obtain ⟨q1, q2, q3⟩ := hK
  have hlen : lenM es = es.length := lenM_len es
  rw [hlen]
  cases c5 : dstB D l j with
  | false =>
    have hlt : es.length < j := by
      rcases Nat.lt_or_ge es.length j with h | h
      · exact h
      · rw [q3.1 (by omega)] at c5; cases c5
    have e4 : decide ((es.length : Int) < (j : Int)) = true := decide_eq_true (by omega)
    have he : erM D c T l j = 5 := by simp only [erM, hR, c2, hM2, c5]; rfl
    simp only [e4, he, go_sem, ↓reduceIte, Nat.reduceAdd, Nat.reduceSub, Nat.reduceMul, Nat.reduceEqDiff, Nat.reduceLT, Nat.reduceLeDiff, Int.reduceToNat, Int.reduceLE, Int.reduceLT, Int.reduceEq, Int.reduceNeg, reduceCtorEq]
    exact ⟨_, _, rfl⟩
  | true =>
  have e4 : decide ((es.length : Int) < (j : Int)) = false := decide_eq_false (by have := q3.2 c5; omega)
  simp only [e4, go_sem, ↓reduceIte, Nat.reduceAdd, Nat.reduceSub, Nat.reduceMul, Nat.reduceEqDiff, Nat.reduceLT, Nat.reduceLeDiff, Int.reduceToNat, Int.reduceLE, Int.reduceLT, Int.reduceEq, Int.reduceNeg, reduceCtorEq]
  refine loop_ofH { i : Nat // i ≤ j ∧ ∀ e, e < i → (fun i => !decide (T (l i).toNat = D.jd (l i).toNat 2)) e = true } (fun i => [(104, .int .i64 (i.1 : Int)), (103, .int .i64 (j : Int)), (102, .row j 1 fun i _ => .int .i64 (l i)), (7, .ptr 2 0), (2, .row j 1 fun i _ => .int .i64 (l i)), (0, .ptr 1 0)]) (fun h _ => h) (fun i => j - i.1) (fun _ => ⟨rfl, rfl⟩) ⟨0, by omega, by omega⟩ ?_ ?_
  · apply sub_of <;> simp only [go_sem, ↓reduceIte, Nat.reduceAdd, Nat.reduceSub, Nat.reduceMul, Nat.reduceEqDiff, Nat.reduceLT, Nat.reduceLeDiff, Int.reduceToNat, Int.reduceLE, Int.reduceLT, Int.reduceEq, Int.reduceNeg, reduceCtorEq] <;> (try simp)
    exact fun i j _ _ => nestF_bd1 _ _ _ _ _ _ _ i j
  rintro ⟨i, hi2, hm4⟩
  by_cases ik : i < j
  · have e5 : decide ((i : Int) < (j : Int)) = true := decide_eq_true (by omega)
    obtain ⟨hl0, hlN⟩ := hlb i ik
    have n8 := nT (l i).toNat (by omega)
    cases c6 : decide (T (l i).toNat = D.jd (l i).toNat 2) with
    | true =>
      have hb : limB D T l j = false := allU_false (i := i) ik (by simp only [c6]; rfl)
      have he : erM D c T l j = 12 := by simp only [erM, hR, c2, hM2, c5, hb]; rfl
      rw [he]
      simp only [e5, c6, hl0, hlN, n8, contains_eq, nestR_lit, nsM_lit, nsV_lit, p38_5, p38_27, Try.f38, numV_i, numV_b, go_sem, ↓reduceIte, Nat.reduceAdd, Nat.reduceSub, Nat.reduceMul, Nat.reduceEqDiff, Nat.reduceLT, Nat.reduceLeDiff, Int.reduceToNat, Int.reduceLE, Int.reduceLT, Int.reduceEq, Int.reduceNeg, reduceCtorEq]
      exact ⟨⟨by omega, by omega⟩, ⟨by kernel_rfl, by kernel_rfl⟩, by omega, by omega, _, _, rfl⟩
    | false =>
      simp only [e5, c6, hl0, hlN, n8, contains_eq, nestR_lit, nsM_lit, nsV_lit, p38_5, p38_27, Try.f38, numV_i, numV_b, go_sem, ↓reduceIte, Nat.reduceAdd, Nat.reduceSub, Nat.reduceMul, Nat.reduceEqDiff, Nat.reduceLT, Nat.reduceLeDiff, Int.reduceToNat, Int.reduceLE, Int.reduceLT, Int.reduceEq, Int.reduceNeg, reduceCtorEq]
      refine ⟨⟨by omega, by omega⟩, ⟨by kernel_rfl, by kernel_rfl⟩, by omega, by omega, ⟨i + 1, by omega, below hm4 (by simp only [c6]; rfl)⟩, by simp only []; omega, ?_⟩
      apply sub_of <;> simp only [wrap_s ik (show j ≤ 1000000 by omega), go_sem, ↓reduceIte, Nat.reduceAdd, Nat.reduceSub, Nat.reduceMul, Nat.reduceEqDiff, Nat.reduceLT, Nat.reduceLeDiff, Int.reduceToNat, Int.reduceLE, Int.reduceLT, Int.reduceEq, Int.reduceNeg, reduceCtorEq] <;> (try simp)
      exact fun i j _ _ => nestF_bd1 _ _ _ _ _ _ _ i j
  obtain rfl : i = j := by omega
  have e5 : decide ((i : Int) < (i : Int)) = false := decide_eq_false (by omega)
  have hL : limB D T l i = true := allU_true hm4
  have he : erM D c T l i = 0 := by simp only [erM, hR, c2, hM2, c5, hL]; rfl
  rw [he]
  simp only [e5, contains_eq, nestR_lit, nsM_lit, nsV_lit, p38_5, p38_27, Try.f38, numV_i, numV_b, go_sem, ↓reduceIte, Nat.reduceAdd, Nat.reduceSub, Nat.reduceMul, Nat.reduceEqDiff, Nat.reduceLT, Nat.reduceLeDiff, Int.reduceToNat, Int.reduceLE, Int.reduceLT, Int.reduceEq, Int.reduceNeg, reduceCtorEq]
  exact ⟨_, _, rfl⟩
theorem subB_nil (B : List Blk) : subB B [] := by cases B <;> exact trivial
theorem subV_nil (V : List Vc) : subV V [] := by cases V <;> exact trivial
theorem mtC_bd (D : MT) (L K : Nat) : BdL L K (mtC D) := ⟨fun _ _ _ _ => trivial, nestF_bd _ _ _ _ _ _ _ _ _, trivial⟩
theorem tC_bd (T : Nat → Int) (L K : Nat) : BdL L K (tC T) := ⟨trivial, trivial, trivial, trivial, trivial, trivial, trivial, trivial, trivial⟩
/-- The error of a list, and nothing else. -/
theorem errorOf_trim {D : MT} (hD : D.Ok) {c : Nat} (hc : c < D.m) (T : Nat → Int) {l : Nat → Int} {k : Nat} (hl : lOk D l k) :
    CallsS Try.prog 38 [.ptr 1 0, .int .i64 (c : Int), .row k 1 (fun i _ => .int .i64 (l i))] ⟨tbB D T, []⟩ (fun o h' => o = .ret (.int .i64 (erM D c T l k)) ∧ h' = ⟨tbB D T, []⟩) := by
  refine calls_trim2 (errorOf_calls hD hc T hl) ?_
  rintro o h' ⟨B, V, rfl, rfl⟩
  refine ⟨_, _, .ret (.int .i64 (erM D c T l k)), ⟨tbB D T, []⟩, .inl ⟨rfl, rfl⟩, ⟨rfl, rfl⟩, ⟨⟨rfl, trivial⟩, ?_, subV_nil _, ⟨trivial, trivial⟩, ?_, trivial⟩, ⟨Nat.le_refl _, ?_⟩, ⟨Nat.le_refl _, Nat.zero_le _⟩⟩
  · exact ⟨by simp [subBk, mtC, subL, subX], by simp [subBk, tC, subL, subX], subB_nil _⟩
  · exact ⟨mtC_bd D _ _, ⟨by simp [tbB, lenB, Bd], tC_bd T _ _⟩, trivial⟩
  · simp [tbB, lenB]
end Go.Eng
end

/- panel: all rising lists, each handed to a round. -/
section
namespace Go.Eng
open Go Go.RowKit Go.Proofs
set_option maxRecDepth 100000
set_option maxHeartbeats 4000000
attribute [local irreducible] OwnT DefS
def liV (v : Nat) (l : List Int) : Vc := .live v 3 1 l.length (fun i _ => .int .i64 (l.getD i 0))
def stV (v : Nat) (L : List (List Int)) : Vc := .live v 37 1 L.length (nestF 0 1 (fun _ _ => 0) (fun i => (L.getD i []).length) (fun i a _ => (L.getD i []).getD a 0))
/-- The shared memory of a search: the meeting, the table, and the seating so far. -/
def shB (D : MT) (T : Nat → Int) (sv : Nat) : List Blk := [.live 25 (mtC D), .live 78 (.ptr 0 0 :: tC T), .live 73 [.ptr 1 0], .live 26 [.vec 0 sv], .live 79 [.func 36 [.ptr 0 0, .ptr 2 0, .ptr 3 0, .ptr 4 0]]]
/-- A contest under way: a record of its range over lists. -/
structure FR where
  c : Int
  T0 : Nat → Int
  s : Nat
  rt : List SV
  asg : Code
  body : Code
def frB (D : MT) (R : FR) (res : Bool) (st : LoopState) (pend : Option Code) (lv : Nat) : List Blk :=
  [.live 3 [.int .i64 R.c], .live 4 [.bool res], .live 76 (tC R.T0), .live 3 [.int .i64 (D.n : Int)], .live 3 [.int .i64 (R.s : Int)], .loop st pend 36 R.rt #[28] R.asg R.body,
   .live 89 [.yield 10], .live 37 [.vec 1 lv], .live 79 [.func 68 [.ptr 12 0, .ptr 9 0, .ptr 11 0, .ptr 8 0, .ptr 13 0]]]
def frH (D : MT) (T : Nat → Int) (sv : Nat) (L : List (List Int)) (R : FR) (res : Bool) (st : LoopState) (pend : Option Code) (lv : Nat) (l : List Int) (V : List Vc) : HS :=
  ⟨shB D T sv ++ frB D R res st pend lv, stV sv L :: liV lv l :: V⟩
def q68_2 : Plan := .quiet 0 (.quiet 1 (.loud 2 [0] (.loud 3 [] (.quiet 4 (.done)))))
/-- All rising lists of r numbers from k to n, in their order. -/
def rz (n : Nat) : Nat → Nat → List (List Int)
  | 0, _ => [[]]
  | r + 1, k => (List.range' k (n - k)).flatMap fun i => (rz n r (i + 1)).map ((i : Int) :: ·)
theorem rz_step {n r k : Nat} (h : k < n) : rz n (r + 1) k = (rz n r (k + 1)).map ((k : Int) :: ·) ++ rz n (r + 1) (k + 1) := by
  simp only [rz]
  rw [show n - k = (n - (k + 1)) + 1 by omega, List.range'_succ]
  simp
theorem rz_end {n r k : Nat} (h : n ≤ k) : rz n (r + 1) k = [] := by
  simp only [rz]
  rw [show n - k = 0 by omega]
  simp
/-- The first list that goes on from some numbers and is good. -/
def fo (ok : List Int → Bool) (n r k : Nat) (l : List Int) : Option (List Int) := ((rz n r k).map (l ++ ·)).find? ok
theorem fo_step {ok : List Int → Bool} {n r k : Nat} {l : List Int} (h : k < n) : fo ok n (r + 1) k l = match fo ok n r (k + 1) (l ++ [(k : Int)]) with | some q => some q | none => fo ok n (r + 1) (k + 1) l := by
  have e : ((rz n r (k + 1)).map ((k : Int) :: ·)).map (l ++ ·) = (rz n r (k + 1)).map ((l ++ [(k : Int)]) ++ ·) := by
    rw [List.map_map]
    congr 1
    funext x
    simp
  simp only [fo]
  rw [rz_step h, List.map_append, List.find?_append, e]
  cases List.find? ok _ <;> rfl
theorem fo_end {ok : List Int → Bool} {n r k : Nat} {l : List Int} (h : n ≤ k) : fo ok n (r + 1) k l = none := by
  simp only [fo, rz_end h]; rfl
theorem fo_0 {ok : List Int → Bool} {n k : Nat} {l : List Int} : fo ok n 0 k l = if ok l then some l else none := by
  simp only [fo, rz, List.map_cons, List.map_nil, List.append_nil, List.find?_cons, List.find?_nil]
  cases ok l <;> rfl
/-- What a round over a list leaves: the list was good, and the search is done; or all is as it was. -/
structure FIN where
  ok : List Int → Bool
  T : List Int → Nat → Int
  L : List Int → List (List Int)
  pd : Code
def RndK (D : MT) (T : Nat → Int) (L : List (List Int)) (R : FR) (F : FIN) (lv : Nat) (l : List Int) (v : SV) (h' : HS) : Prop :=
  (F.ok l = true ∧ v = .bool false ∧ ∃ sv V, h' = frH D (F.T l) sv (F.L l) R true .done (some F.pd) lv l V) ∨ (F.ok l = false ∧ v = .bool true ∧ ∃ sv V, h' = frH D T sv L R false .ready none lv l V)
def frHz (D : MT) (T : Nat → Int) (sv : Nat) (L : List (List Int)) (R : FR) (res : Bool) (st : LoopState) (pend : Option Code) (lv : Nat) (z : Vc) (V : List Vc) : HS :=
  ⟨shB D T sv ++ frB D R res st pend lv, stV sv L :: z :: V⟩
def FrK (D : MT) (T : Nat → Int) (L : List (List Int)) (R : FR) (F : FIN) (l : List Int) (q : Option (List Int)) (o : Out) (h' : HS) : Prop :=
  match q with
  | some q => o = .ret (.bool false) ∧ ∃ sv lv z V, subVk z (liV lv l) ∧ h' = frHz D (F.T q) sv (F.L q) R true .done (some F.pd) lv z V
  | none => o = .ret (.bool true) ∧ ∃ sv lv z V, subVk z (liV lv l) ∧ h' = frHz D T sv L R false .ready none lv z V
def FrK0 (D : MT) (T : Nat → Int) (L : List (List Int)) (R : FR) (F : FIN) (l : List Int) (q : Option (List Int)) (o : Out) (h' : HS) : Prop :=
  match q with
  | some q => o = .ret (.bool false) ∧ ∃ sv lv, h' = frH D (F.T q) sv (F.L q) R true .done (some F.pd) lv l []
  | none => o = .ret (.bool true) ∧ ∃ sv lv, h' = frH D T sv L R false .ready none lv l []
def numOk (n : Nat) (l : List Int) : Prop := ∀ x ∈ l, 0 ≤ x ∧ x < (n : Int)
theorem subVk_rfl (x : Vc) : subVk x x := by cases x <;> simp [subVk]
theorem from_leaf {D : MT} {T : Nat → Int} {sv : Nat} {L : List (List Int)} {R : FR} {F : FIN} {lv : Nat} {l : List Int} (k : Nat) (hl : l.length = R.s) (hs : R.s ≤ 3)
    (hr : RoundS Try.prog 10 36 (upd R.rt 28 (.vec 2 0)) R.asg R.body (frH D T sv L R false .ready none lv l [liV 0 l]) (RndK D T L R F lv l)) :
    CallsS Try.prog 68 [.int .i64 (k : Int), .ptr 12 0, .ptr 9 0, .ptr 11 0, .ptr 8 0, .ptr 13 0] (frH D T sv L R false .ready none lv l []) (FrK D T L R F l (fo F.ok D.n 0 k l)) := by
  refine calls_of_runs (C := cxs [68] [] [(55, 3, cloneBase)] [] [(68, 2, q68_2)]) (cxs_ok trivial ⟨clone_base, trivial⟩ trivial) rfl rfl (g := 68) (fn := Try.f68) fn_68 rfl 1000 ?_
  have e1 : decide ((l.length : Int) = (R.s : Int)) = true := decide_eq_true (by omega)
  simp only [frH, shB, frB, List.cons_append, List.nil_append, liV, stV, e1, clone_eq, q68_2, Try.f68, go_sem, ↓reduceIte, Nat.reduceAdd, Nat.reduceSub, Nat.reduceMul, Nat.reduceEqDiff, Nat.reduceLT, Nat.reduceLeDiff, Int.reduceToNat, Int.reduceLE, Int.reduceLT, Int.reduceEq, Int.reduceNeg, reduceCtorEq]
  refine ⟨⟨by kernel_rfl, by kernel_rfl⟩, by omega, RoundS.mono hr ?_⟩
  rintro v h' hk
  rw [fo_0]
  rcases hk with ⟨h1, rfl, sv', V, rfl⟩ | ⟨h1, rfl, sv', V, rfl⟩
  · rw [if_pos h1]
    simp only [frH, shB, frB, List.cons_append, List.nil_append, liV, stV, clone_eq, q68_2, Try.f68, go_sem, ↓reduceIte, Nat.reduceAdd, Nat.reduceSub, Nat.reduceMul, Nat.reduceEqDiff, Nat.reduceLT, Nat.reduceLeDiff, Int.reduceToNat, Int.reduceLE, Int.reduceLT, Int.reduceEq, Int.reduceNeg, reduceCtorEq]
    exact ⟨rfl, sv', lv, _, V, subVk_rfl _, rfl⟩
  · rw [if_neg (by rw [h1]; exact Bool.false_ne_true)]
    simp only [frH, shB, frB, List.cons_append, List.nil_append, liV, stV, clone_eq, q68_2, Try.f68, go_sem, ↓reduceIte, Nat.reduceAdd, Nat.reduceSub, Nat.reduceMul, Nat.reduceEqDiff, Nat.reduceLT, Nat.reduceLeDiff, Int.reduceToNat, Int.reduceLE, Int.reduceLT, Int.reduceEq, Int.reduceNeg, reduceCtorEq]
    exact ⟨rfl, sv', lv, _, V, subVk_rfl _, rfl⟩
def FR.Bd (R : FR) : Prop := ∀ L M, 14 ≤ L → 1 ≤ M → BdL L M R.rt
theorem frH_len {D : MT} {T : Nat → Int} {sv : Nat} {L : List (List Int)} {R : FR} {res : Bool} {st : LoopState} {pend : Option Code} {lv : Nat} {l : List Int} : (frH D T sv L R res st pend lv l []).blks.length = 14 ∧ (frH D T sv L R res st pend lv l []).vecs.length = 2 := ⟨rfl, rfl⟩
theorem frH_bdB {D : MT} {T : Nat → Int} {sv : Nat} {L : List (List Int)} {R : FR} (hR : R.Bd) {res : Bool} {st : LoopState} {pend : Option Code} {lv : Nat} {l : List Int} {V : List Vc} {X Y : Nat} (hX : 14 ≤ X) (hY : 2 ≤ Y) : bdB X Y (frH D T sv L R res st pend lv l V).blks := by
  simp only [frH, shB, frB, List.cons_append, List.nil_append, bdB, BdL, Bd, and_true, true_and]
  exact ⟨mtC_bd D _ _, ⟨by omega, tC_bd T _ _⟩, by omega, by omega, ⟨by omega, by omega, by omega, by omega⟩, tC_bd _ _ _, hR _ _ hX (by omega), by omega, by omega, by omega, by omega, by omega, by omega, by omega⟩
theorem frH_bdB2 {D : MT} {T : Nat → Int} {sv : Nat} {L : List (List Int)} {R : FR} (hR : R.Bd) {res : Bool} {st : LoopState} {pend : Option Code} {lv : Nat} {l : List Int} {V : List Vc} {X Y : Nat} (hX : 14 ≤ X) (hY : 2 ≤ Y) : bdB2 X Y (frH D T sv L R res st pend lv l V).blks := by
  simp only [frH, shB, frB, List.cons_append, List.nil_append, bdB2, BdL, Bd, and_true, true_and]
  exact ⟨mtC_bd D _ _, ⟨by omega, tC_bd T _ _⟩, by omega, by omega, ⟨by omega, by omega, by omega, by omega⟩, tC_bd _ _ _, hR _ _ hX (by omega), by omega, by omega, by omega, by omega, by omega, by omega, by omega⟩
theorem frH_subB {D : MT} {T : Nat → Int} {sv : Nat} {L : List (List Int)} {R : FR} {res : Bool} {st : LoopState} {pend : Option Code} {lv : Nat} {l : List Int} {V V' : List Vc} : subB (frH D T sv L R res st pend lv l V).blks (frH D T sv L R res st pend lv l V').blks := by
  simp only [frH, shB, frB, List.cons_append, List.nil_append, subB, subBk, subL, subX, mtC, tC]
  simp
theorem frH_subS {D : MT} {T : Nat → Int} {sv : Nat} {L : List (List Int)} {R : FR} (hR : R.Bd) {res : Bool} {st : LoopState} {pend : Option Code} {lv : Nat} {l : List Int} {z : Vc} (hz : subVk z (liV lv l)) {V : List Vc} {b : Bool} : SubS [.bool b] (frHz D T sv L R res st pend lv z V) ([.bool b], frH D T sv L R res st pend lv l []) :=
  ⟨⟨rfl, trivial⟩, frH_subB (L := []) (l := []) (V := []) (V' := []), ⟨subVk_rfl _, hz, subV_nil _⟩, ⟨trivial, trivial⟩, frH_bdB2 hR (by simp [frH, shB, frB, lenB]) (by simp [frH, lenV]), ⟨nestF_bd _ _ _ _ _ _ _ _ _, fun _ _ _ _ => trivial, trivial⟩⟩
theorem from_trim {D : MT} {T : Nat → Int} {sv : Nat} {L : List (List Int)} {R : FR} (hR : R.Bd) {F : FIN} {lv : Nat} {l : List Int} {k : Nat} {q : Option (List Int)}
    (h : CallsS Try.prog 68 [.int .i64 (k : Int), .ptr 12 0, .ptr 9 0, .ptr 11 0, .ptr 8 0, .ptr 13 0] (frH D T sv L R false .ready none lv l []) (FrK D T L R F l q)) :
    CallsS Try.prog 68 [.int .i64 (k : Int), .ptr 12 0, .ptr 9 0, .ptr 11 0, .ptr 8 0, .ptr 13 0] (frH D T sv L R false .ready none lv l []) (FrK0 D T L R F l q) := by
  refine calls_trim2 h ?_
  rintro o h' hk
  cases q with
  | some q =>
    obtain ⟨rfl, sv', lv', z, V, hz, rfl⟩ := hk
    exact ⟨_, _, .ret (.bool false), frH D (F.T q) sv' (F.L q) R true .done (some F.pd) lv' l [], .inl ⟨rfl, rfl⟩, ⟨rfl, sv', lv', rfl⟩, frH_subS hR hz, ⟨by simp [frH, shB, frB, lenB], by simp [frH, frHz, shB, frB, lenB]⟩, ⟨by simp [frH, lenV], by simp [frH, frHz, lenV]⟩⟩
  | none =>
    obtain ⟨rfl, sv', lv', z, V, hz, rfl⟩ := hk
    exact ⟨_, _, .ret (.bool true), frH D T sv' L R false .ready none lv' l [], .inl ⟨rfl, rfl⟩, ⟨rfl, sv', lv', rfl⟩, frH_subS hR hz, ⟨by simp [frH, shB, frB, lenB], by simp [frH, frHz, shB, frB, lenB]⟩, ⟨by simp [frH, lenV], by simp [frH, frHz, lenV]⟩⟩
/-- The same, with more slices behind. -/
theorem from_pfx {D : MT} {T : Nat → Int} {sv : Nat} {L : List (List Int)} {R : FR} (hR : R.Bd) {F : FIN} {lv : Nat} {l : List Int} {k : Nat} {q : Option (List Int)} (V : List Vc)
    (h : CallsS Try.prog 68 [.int .i64 (k : Int), .ptr 12 0, .ptr 9 0, .ptr 11 0, .ptr 8 0, .ptr 13 0] (frH D T sv L R false .ready none lv l []) (FrK0 D T L R F l q)) :
    CallsS Try.prog 68 [.int .i64 (k : Int), .ptr 12 0, .ptr 9 0, .ptr 11 0, .ptr 8 0, .ptr 13 0] (frH D T sv L R false .ready none lv l V) (fun o h' => ∃ sv lv, (∃ q', q = some q' ∧ o = .ret (.bool false) ∧ h' = frH D (F.T q') sv (F.L q') R true .done (some F.pd) lv l V) ∨ (q = none ∧ o = .ret (.bool true) ∧ h' = frH D T sv L R false .ready none lv l V)) := by
  have := calls_pfx h (by rw [frH_len.1, frH_len.2]; simp [BdL, Bd]) (by rw [frH_len.1, frH_len.2]; exact frH_bdB hR (Nat.le_refl _) (Nat.le_refl _)) (by rw [frH_len.1, frH_len.2]; exact ⟨nestF_bd _ _ _ _ _ _ _ _ _, fun _ _ _ _ => trivial, trivial⟩) (by
    rintro o h' hk
    rw [frH_len.1, frH_len.2]
    cases q with
    | some q =>
      obtain ⟨rfl, sv', lv', rfl⟩ := hk
      exact ⟨rfl, rfl, frH_bdB hR (Nat.le_refl _) (Nat.le_refl _), ⟨nestF_bd _ _ _ _ _ _ _ _ _, fun _ _ _ _ => trivial, trivial⟩, trivial⟩
    | none =>
      obtain ⟨rfl, sv', lv', rfl⟩ := hk
      exact ⟨rfl, rfl, frH_bdB hR (Nat.le_refl _) (Nat.le_refl _), ⟨nestF_bd _ _ _ _ _ _ _ _ _, fun _ _ _ _ => trivial, trivial⟩, trivial⟩) [] V
  simp only [List.append_nil] at this
  refine calls_mono ?_ this
  rintro o h' ⟨o0, h0', hk, rfl, rfl⟩
  cases q with
  | some q =>
    obtain ⟨rfl, sv', lv', rfl⟩ := hk
    exact ⟨sv', lv', .inl ⟨q, rfl, rfl, rfl⟩⟩
  | none =>
    obtain ⟨rfl, sv', lv', rfl⟩ := hk
    exact ⟨sv', lv', .inr ⟨rfl, rfl, rfl⟩⟩
end Go.Eng
end

/- panel: all rising lists, each handed to a round: the recursion. -/
section
namespace Go.Eng
open Go Go.RowKit Go.Proofs
set_option maxRecDepth 100000
set_option maxHeartbeats 4000000
attribute [local irreducible] OwnT DefS
theorem liV_snoc {v : Nat} {l : List Int} {x : Int} : subVk (.live v 3 1 (l.length + 1) (catF l.length (fun i _ => .int .i64 (l.getD i 0)) (oneF [.int .i64 x]))) (liV v (l ++ [x])) :=
  ⟨rfl, rfl, rfl, by simp, fun i j hi hj => by
    obtain rfl : j = 0 := by omega
    simp only [List.length_append, List.length_cons, List.length_nil] at hi
    simp only [catF]
    split
    · rename_i h; simp [List.getD, List.getElem?_append_left h]
    · obtain rfl : i = l.length := by omega
      simp [oneF, nth, List.getD]⟩
theorem liV_cut {v : Nat} {l : List Int} {x : Int} : subVk (.live v 3 1 (l.length - 0) (fun i _ => .int .i64 ((l ++ [x]).getD i 0))) (liV v l) :=
  ⟨rfl, rfl, rfl, by simp, fun i j hi hj => by simp [List.getD, List.getElem?_append_left hi]⟩
theorem from_calls {D : MT} (hD : D.Ok) {T : Nat → Int} {L : List (List Int)} {R : FR} (hR : R.Bd) (hs : R.s ≤ 3) {F : FIN}
    (hr : ∀ (l : List Int) (sv lv : Nat), l.length = R.s → numOk D.n l → RoundS Try.prog 10 36 (upd R.rt 28 (.vec 2 0)) R.asg R.body (frH D T sv L R false .ready none lv l [liV 0 l]) (RndK D T L R F lv l)) :
    ∀ (r k : Nat) (l : List Int) (sv lv : Nat), l.length + r = R.s → k ≤ D.n → numOk D.n l → CallsS Try.prog 68 [.int .i64 (k : Int), .ptr 12 0, .ptr 9 0, .ptr 11 0, .ptr 8 0, .ptr 13 0] (frH D T sv L R false .ready none lv l []) (FrK D T L R F l (fo F.ok D.n r k l)) := by
  have hn := hD.n
  intro r
  induction r with
  | zero => intro k l sv lv hl hk hl2; exact from_leaf k hl hs (hr l sv lv hl hl2)
  | succ r ih =>
    intro k l sv lv hl hk hl2
    refine calls_of_runs (C := cxs [68] [] [(55, 3, cloneBase)] [] [(68, 2, q68_2)]) (cxs_ok trivial ⟨clone_base, trivial⟩ trivial) rfl rfl (g := 68) (fn := Try.f68) fn_68 rfl 1000 ?_
    have e1 : decide ((l.length : Int) = (R.s : Int)) = false := decide_eq_false (by omega)
    obtain ⟨Q0, hQ0⟩ : ∃ q, fo F.ok D.n (r + 1) k l = q := ⟨_, rfl⟩
    rw [hQ0]
    simp only [frH, shB, frB, List.cons_append, List.nil_append, liV, stV, e1, clone_eq, q68_2, Try.f68, go_sem, ↓reduceIte, Nat.reduceAdd, Nat.reduceSub, Nat.reduceMul, Nat.reduceEqDiff, Nat.reduceLT, Nat.reduceLeDiff, Int.reduceToNat, Int.reduceLE, Int.reduceLT, Int.reduceEq, Int.reduceNeg, reduceCtorEq]
    refine loop_ofH { x : Nat × Nat × Nat // x.1 ≤ D.n ∧ Q0 = fo F.ok D.n (r + 1) x.1 l } (fun x => [(5, .ptr 13 0), (4, .ptr 8 0), (3, .ptr 11 0), (2, .ptr 9 0), (1, .ptr 12 0), (0, .int .i64 (x.1.1 : Int))]) (fun _ x => frH D T x.1.2.1 L R false .ready none x.1.2.2 l []) (fun x => D.n - x.1.1) (fun _ => ⟨rfl, rfl⟩) ⟨(k, sv, lv), hk, hQ0.symm⟩ ?_ ?_
    · apply sub_of <;> simp only [frH, shB, frB, List.cons_append, List.nil_append, liV, stV, go_sem, ↓reduceIte, Nat.reduceAdd, Nat.reduceSub, Nat.reduceMul, Nat.reduceEqDiff, Nat.reduceLT, Nat.reduceLeDiff, Int.reduceToNat, Int.reduceLE, Int.reduceLT, Int.reduceEq, Int.reduceNeg, reduceCtorEq]
      · exact ⟨by simp [mtC, subL, subX], by simp [tC, subL, subX], by simp [tC, subL, subX]⟩
      · exact ⟨fun _ _ _ _ => trivial, fun _ _ _ _ => trivial⟩
      · exact ⟨mtC_bd D _ _, tC_bd T _ _, tC_bd _ _ _, hR _ _ (Nat.le_refl _) (by omega)⟩
      · exact ⟨nestF_bd _ _ _ _ _ _ _ _ _, fun _ _ _ _ => trivial⟩
    rintro ⟨⟨x, sv, lv⟩, hx, hfo⟩
    simp only at hx hfo ⊢
    by_cases xk : x < D.n
    · have e2 : decide ((x : Int) < (D.n : Int)) = true := decide_eq_true (by omega)
      have w1 : IntKind.i64.wrap ((x : Int) + 1) = ((x + 1 : Nat) : Int) := by rw [wrap_id (by omega) (by omega)]; omega
      simp only [e2, w1, frH, shB, frB, List.cons_append, List.nil_append, liV, stV, clone_eq, q68_2, Try.f68, go_sem, ↓reduceIte, Nat.reduceAdd, Nat.reduceSub, Nat.reduceMul, Nat.reduceEqDiff, Nat.reduceLT, Nat.reduceLeDiff, Int.reduceToNat, Int.reduceLE, Int.reduceLT, Int.reduceEq, Int.reduceNeg, reduceCtorEq]
      have hln : l.length ≤ 3 := by omega
      refine ⟨⟨by omega, by omega⟩, ?_⟩
      have hl3 : numOk D.n (l ++ [(x : Int)]) := fun y hy => by
        rcases List.mem_append.1 hy with h | h
        · exact hl2 y h
        · simp only [List.mem_singleton] at h; subst h; exact ⟨by omega, by omega⟩
      have hc := from_pfx hR [.live 0 3 1 1 (oneF [.int .i64 (x : Int)])] (from_trim hR (ih (x + 1) (l ++ [(x : Int)]) sv (lv + 1) (by simp; omega) (by omega) hl3))
      unfold callS
      refine calls_mono ?_ (calls_pre (args' := [.int .i64 ((x + 1 : Nat) : Int), .ptr 12 0, .ptr 9 0, .ptr 11 0, .ptr 8 0, .ptr 13 0]) (h' := frH D T sv L R false .ready none (lv + 1) (l ++ [(x : Int)]) [.live 0 3 1 1 (oneF [.int .i64 (x : Int)])]) ⟨by simp [subL, subX], frH_subB (V := []), ⟨subVk_rfl _, liV_snoc, subVk_rfl _, trivial⟩, by simp [BdL, Bd, frH, shB, frB, lenB], frH_bdB2 hR (by simp [frH, shB, frB, lenB]) (by simp [frH, lenV]), ⟨nestF_bd _ _ _ _ _ _ _ _ _, fun _ _ _ _ => trivial, fun i j hi hj => ?_, trivial⟩⟩ rfl rfl hc)
      rotate_left
      · obtain rfl : i = 0 := by omega
        obtain rfl : j = 0 := by omega
        trivial
      have w2 : IntKind.i64.wrap (((l ++ [(x : Int)]).length : Int) - 1) = (l.length : Int) := by
        rw [wrap_id (by simp only [List.length_append, List.length_singleton]; omega) (by simp only [List.length_append, List.length_singleton]; omega)]; simp
      have hst := fo_step (ok := F.ok) (n := D.n) (r := r) (k := x) (l := l) xk
      rintro o h' ⟨sv', lv', ⟨q', hq, rfl, rfl⟩ | ⟨hq, rfl, rfl⟩⟩
      · rw [hq] at hst
        simp only [w2, Int.toNat_natCast, frH, shB, frB, List.cons_append, List.nil_append, liV, stV, clone_eq, q68_2, Try.f68, go_sem, ↓reduceIte, Nat.reduceAdd, Nat.reduceSub, Nat.reduceMul, Nat.reduceEqDiff, Nat.reduceLT, Nat.reduceLeDiff, Int.reduceToNat, Int.reduceLE, Int.reduceLT, Int.reduceEq, Int.reduceNeg, reduceCtorEq]
        rw [hfo, hst]
        exact ⟨⟨by omega, by simp; omega⟩, rfl, sv', lv' + 1, _, _, liV_cut, rfl⟩
      · rw [hq] at hst
        simp only [w2, Int.toNat_natCast, frH, shB, frB, List.cons_append, List.nil_append, liV, stV, clone_eq, q68_2, Try.f68, go_sem, ↓reduceIte, Nat.reduceAdd, Nat.reduceSub, Nat.reduceMul, Nat.reduceEqDiff, Nat.reduceLT, Nat.reduceLeDiff, Int.reduceToNat, Int.reduceLE, Int.reduceLT, Int.reduceEq, Int.reduceNeg, reduceCtorEq]
        refine ⟨⟨by omega, by simp; omega⟩, ⟨(x + 1, sv', lv' + 1), by simp only []; omega, by rw [hfo, hst]⟩, by simp only []; omega, ?_⟩
        apply sub_of <;> simp only [wrap_s xk (show D.n ≤ 1000000 by omega), frH, shB, frB, List.cons_append, List.nil_append, liV, stV, go_sem, ↓reduceIte, Nat.reduceAdd, Nat.reduceSub, Nat.reduceMul, Nat.reduceEqDiff, Nat.reduceLT, Nat.reduceLeDiff, Int.reduceToNat, Int.reduceLE, Int.reduceLT, Int.reduceEq, Int.reduceNeg, reduceCtorEq]
        · exact ⟨by simp [mtC, subL, subX], by simp [tC, subL, subX], by simp [tC, subL, subX]⟩
        · exact ⟨fun _ _ _ _ => trivial, (liV_cut (v := 0) (l := l) (x := (x : Int))).2.2.2.1, (liV_cut (v := 0) (l := l) (x := (x : Int))).2.2.2.2⟩
        · exact ⟨mtC_bd D _ _, tC_bd T _ _, tC_bd _ _ _, hR _ _ (Nat.le_refl _) (by omega)⟩
        · exact ⟨nestF_bd _ _ _ _ _ _ _ _ _, fun _ _ _ _ => trivial⟩
    obtain rfl : x = D.n := by omega
    have e2 : decide ((D.n : Int) < (D.n : Int)) = false := decide_eq_false (by omega)
    rw [fo_end (Nat.le_refl _)] at hfo
    subst hfo
    simp only [e2, frH, shB, frB, List.cons_append, List.nil_append, liV, stV, clone_eq, q68_2, Try.f68, go_sem, ↓reduceIte, Nat.reduceAdd, Nat.reduceSub, Nat.reduceMul, Nat.reduceEqDiff, Nat.reduceLT, Nat.reduceLeDiff, Int.reduceToNat, Int.reduceLE, Int.reduceLT, Int.reduceEq, Int.reduceNeg, reduceCtorEq]
    exact ⟨rfl, sv, lv, _, [], subVk_rfl _, rfl⟩
end Go.Eng
end

/- panel: the search for a seating. -/
section
namespace Go.Eng
open Go Go.RowKit Go.Proofs
set_option maxRecDepth 100000
set_option maxHeartbeats 4000000
attribute [local irreducible] OwnT DefS
def q36_4 : Plan := .quiet 0 (.quiet 1 (.quiet 2 (.quiet 3 (.quiet 4 (.quiet 5 (.quiet 6 (.quiet 7 (.quiet 8 (.loud 9 [] (.done))))))))))
/-- How often each judge judges, behind a list. -/
def addT (T : Nat → Int) (l : List Int) : Nat → Int := l.foldl (fun T x => fun j => if (j : Int) = x then T j + 1 else T j) T
/-- The first good seating of the last k contests: how often each judge judges then, and the lists. -/
def seatM (D : MT) : Nat → (Nat → Int) → Option ((Nat → Int) × List (List Int))
  | 0, T => some (T, [])
  | k + 1, T => match ((rz D.n (D.A (D.m - (k + 1)) 2).toNat 0).find? fun l => decide (erM D (D.m - (k + 1)) T (fun i => l.getD i 0) l.length = 0) && (seatM D k (addT T l)).isSome) with
    | some l => match seatM D k (addT T l) with
      | some r => some (r.1, l :: r.2)
      | none => none
    | none => none
def finM (D : MT) (c k : Nat) (T : Nat → Int) (L : List (List Int)) : FIN :=
  ⟨fun l => decide (erM D c T (fun i => l.getD i 0) l.length = 0) && (seatM D k (addT T l)).isSome, fun l => match seatM D k (addT T l) with | some r => r.1 | none => T, fun l => match seatM D k (addT T l) with | some r => L ++ [l] ++ r.2 | none => L, .ret⟩
def SeatK (D : MT) (k : Nat) (T : Nat → Int) (L : List (List Int)) (o : Out) (h' : HS) : Prop :=
  match seatM D k T with
  | some r => o = .ret (.bool true) ∧ ∃ sv B z V, subVk z (stV sv (L ++ r.2)) ∧ h' = ⟨shB D r.1 sv ++ B, z :: V⟩
  | none => o = .ret (.bool false) ∧ ∃ sv B z V, subVk z (stV sv L) ∧ h' = ⟨shB D T sv ++ B, z :: V⟩
theorem from_use {D : MT} (hD : D.Ok) {T : Nat → Int} {L : List (List Int)} {c : Int} {s sv : Nat} {rt : List SV} {asg body : Code} {h : HS} (hh : h = ⟨shB D T sv ++ frB D ⟨c, T, s, rt, asg, body⟩ false .ready none 0, [stV sv L, .live 0 3 1 0 (fun _ _ => .any)]⟩)
    (hR : FR.Bd ⟨c, T, s, rt, asg, body⟩) (hs : s ≤ 3) (F : FIN)
    (hr : FR.Bd ⟨c, T, s, rt, asg, body⟩ → ∀ (l : List Int) (sv lv : Nat), l.length = s → numOk D.n l → RoundS Try.prog 10 36 (upd rt 28 (.vec 2 0)) asg body (frH D T sv L ⟨c, T, s, rt, asg, body⟩ false .ready none lv l [liV 0 l]) (RndK D T L ⟨c, T, s, rt, asg, body⟩ F lv l)) :
    CallsS Try.prog 68 [.int .i64 0, .ptr 12 0, .ptr 9 0, .ptr 11 0, .ptr 8 0, .ptr 13 0] h (FrK D T L ⟨c, T, s, rt, asg, body⟩ F [] (fo F.ok D.n s 0 [])) := by
  subst hh
  have h1 := from_calls hD hR hs (F := F) (hr hR) s 0 [] sv 0 (by simp) (by omega) (fun _ h => by simp at h)
  refine calls_pre (args' := [.int .i64 0, .ptr 12 0, .ptr 9 0, .ptr 11 0, .ptr 8 0, .ptr 13 0]) (h' := frH D T sv L ⟨c, T, s, rt, asg, body⟩ false .ready none 0 [] []) ⟨by simp [subL, subX], frH_subB (L := []) (l := []) (V := []) (V' := []), ⟨subVk_rfl _, ⟨rfl, rfl, rfl, rfl, fun i _ hi _ => absurd hi (by simp)⟩, trivial⟩, by simp [BdL, Bd, frH, shB, frB, lenB], frH_bdB2 hR (by simp [frH, shB, frB, lenB]) (by simp [frH, lenV]), ⟨nestF_bd _ _ _ _ _ _ _ _ _, fun _ _ _ _ => trivial, trivial⟩⟩ rfl rfl h1
/-- A round from a memory of which slices are given away. -/
theorem rounds_preM {P : Program} {nm rf : Nat} {rt rt' : List SV} {assign body : Code} {h h' : HS} {K : SV → HS → Prop} (hs : SubM rt h (rt', h')) (hB : lenB h'.blks = lenB h.blks) (hV : lenV h'.vecs = lenV h.vecs) (hc : RoundS P nm rf rt' assign body h' K) : RoundS P nm rf rt assign body h K := fun E w tmps c cs hr hd hn => by
  obtain ⟨E', e0, e1, e2, e3⟩ := hs.go hd hr E.nb E.nv (hB.trans hr.nb.symm) (hV.trans hr.nv.symm) (Nat.le_refl _) (Nat.le_refl _)
  have hx : Ext E w { E' with nb := E.nb, nv := E.nv } w := ⟨e1.os, e1.tape, e1.output, e1.size, Nat.le_refl _, Nat.le_refl _, e1.rho, e1.val, e1.keep, e1.oth⟩
  obtain ⟨v, val, h'', E'', w'', q1, q2, q3, q4, q5⟩ := hc { E' with nb := E.nb, nv := E.nv } w tmps c cs e3 e2 hn
  refine ⟨v, val, h'', E'', w'', ?_, q2, q3, hx.trans q4, q5⟩
  have : E'.rho nm = E.rho nm := by rw [e0]
  simpa only [this] using q1
theorem subX_rfl (x : SV) : subX x x := by cases x <;> simp [subX]
theorem subL_rfl : ∀ l : List SV, subL l l
  | [] => trivial
  | x :: l => ⟨subX_rfl x, subL_rfl l⟩
theorem subBk_rfl (x : Blk) : subBk x x := by cases x <;> simp [subBk, subL_rfl]
theorem subB_rfl : ∀ l : List Blk, subB l l
  | [] => trivial
  | x :: l => ⟨subBk_rfl x, subB_rfl l⟩
theorem subV_rfl : ∀ l : List Vc, subV l l
  | [] => trivial
  | x :: l => ⟨subVk_rfl x, subV_rfl l⟩
theorem subM_rfl {t : List SV} {h : HS} (h1 : BdL (lenB h.blks) (lenV h.vecs) t) (h2 : bdB2 (lenB h.blks) (lenV h.vecs) h.blks) (h3 : bdV (lenB h.blks) (lenV h.vecs) h.vecs) : SubM t h (t, h) :=
  .sub ⟨subL_rfl _, subB_rfl _, subV_rfl _, h1, h2, h3⟩
theorem fo_nil {ok : List Int → Bool} {n s k : Nat} : fo ok n s k [] = (rz n s k).find? ok := by
  simp only [fo, List.nil_append, List.map_id']
theorem rounds_trim {P : Program} {nm rf : Nat} {rt : List SV} {assign body : Code} {h : HS} {K K' : SV → HS → Prop} (hc : RoundS P nm rf rt assign body h K)
    (ht : ∀ x h', K x h' → ∃ y h'', K' y h'' ∧ SubS [x] h' ([y], h'') ∧ (lenB h.blks ≤ lenB h''.blks ∧ lenB h''.blks ≤ lenB h'.blks) ∧ (lenV h.vecs ≤ lenV h''.vecs ∧ lenV h''.vecs ≤ lenV h'.vecs)) : RoundS P nm rf rt assign body h K' := by
  intro E w tmps c cs hr hd hn
  obtain ⟨x, val, h', E', w', q1, hk, hr', hx, hout⟩ := hc E w tmps c cs hr hd hn
  obtain ⟨y, h'', hk', hsub, ⟨hB, hB2⟩, ⟨hV, hV2⟩⟩ := ht x h' hk
  have hd1 : DenA E' w' [x] #[val] := ⟨rfl, fun i z u hz hu => by
    cases i with
    | zero => simp at hz hu; subst hz hu; exact hout
    | succ i => simp at hz⟩
  obtain ⟨g1, g2⟩ := hsub.go hd1 hr' (lenB h''.blks) (lenV h''.vecs) rfl rfl (by rw [hr'.nb]; exact hB2) (by rw [hr'.nv]; exact hV2)
  exact ⟨y, val, h'', _, w', q1, hk', g2, ⟨hx.os, hx.tape, hx.output, hx.size, by simp only []; rw [hr.nb]; exact hB, by simp only []; rw [hr.nv]; exact hV, hx.rho, hx.val, hx.keep, hx.oth⟩, g1.2 0 y val rfl rfl⟩
theorem addT_snoc (T : Nat → Int) (l : List Int) (x : Int) : addT T (l ++ [x]) = fun (j : Nat) => if (j : Int) = x then addT T l j + 1 else addT T l j := by
  simp only [addT, List.foldl_append, List.foldl_cons, List.foldl_nil]
theorem addT_bd : ∀ (l : List Int) (T : Nat → Int) (j : Nat), T j ≤ addT T l j ∧ addT T l j ≤ T j + (l.length : Int)
  | [], T, j => by simp [addT]
  | x :: l, T, j => by
    have h := addT_bd l (fun (j : Nat) => if (j : Int) = x then T j + 1 else T j) j
    have e : addT T (x :: l) = addT (fun (j : Nat) => if (j : Int) = x then T j + 1 else T j) l := rfl
    rw [e, List.length_cons]
    by_cases hx : (j : Int) = x
    · simp only [if_pos hx] at h; omega
    · simp only [if_neg hx] at h; omega
theorem errorOf_at {D : MT} (hD : D.Ok) {c : Nat} (hc : c < D.m) (T : Nat → Int) {l : List Int} (hl : l.length ≤ 1000000) (hn : numOk D.n l) (B : List Blk) (V : List Vc) :
    CallsS Try.prog 38 [.ptr 1 0, .int .i64 (c : Int), .row l.length 1 (fun i _ => .int .i64 (l.getD i 0))] ⟨.live 25 (mtC D) :: .live 78 (.ptr 0 0 :: tC T) :: B, V⟩ (fun o h' => o = .ret (.int .i64 (erM D c T (fun i => l.getD i 0) l.length)) ∧ h' = ⟨.live 25 (mtC D) :: .live 78 (.ptr 0 0 :: tC T) :: B, V⟩) := by
  have h1 := errorOf_trim hD hc T (l := fun i => l.getD i 0) (k := l.length) ⟨hl, fun i hi => by
    have : l.getD i 0 = l[i] := by simp [List.getD, hi]
    show 0 ≤ l.getD i 0 ∧ l.getD i 0 < _
    rw [this]; exact hn _ (List.getElem_mem hi)⟩
  have h2 := calls_pfx h1 (by simp [BdL, Bd, tbB]) (by simp only [tbB, bdB]; exact ⟨mtC_bd D _ _, ⟨by simp [Bd], tC_bd T _ _⟩, trivial⟩) trivial (by
    rintro o h' ⟨rfl, rfl⟩
    exact ⟨rfl, rfl, ⟨mtC_bd D _ _, ⟨by simp [Bd, tbB], tC_bd T _ _⟩, trivial⟩, trivial, trivial⟩) B V
  refine calls_mono ?_ h2
  rintro o h' ⟨o0, h0', ⟨rfl, rfl⟩, rfl, rfl⟩
  exact ⟨rfl, rfl⟩
/-- What a search leaves, and nothing else. -/
def SeatK0 (D : MT) (k : Nat) (T : Nat → Int) (L : List (List Int)) (o : Out) (h' : HS) : Prop :=
  match seatM D k T with
  | some r => o = .ret (.bool true) ∧ ∃ sv, h' = ⟨shB D r.1 sv, [stV sv (L ++ r.2)]⟩
  | none => o = .ret (.bool false) ∧ ∃ sv, h' = ⟨shB D T sv, [stV sv L]⟩
theorem shB_bdB {D : MT} {T : Nat → Int} {sv X Y : Nat} (hX : 5 ≤ X) (hY : 1 ≤ Y) : bdB X Y (shB D T sv) := by
  simp only [shB, bdB, BdL, Bd, and_true, true_and]
  exact ⟨mtC_bd D _ _, ⟨by omega, tC_bd T _ _⟩, by omega, by omega, by omega, by omega, by omega, by omega⟩
theorem shB_bdB2 {D : MT} {T : Nat → Int} {sv X Y : Nat} (hX : 5 ≤ X) (hY : 1 ≤ Y) : bdB2 X Y (shB D T sv) := by
  simp only [shB, bdB2, BdL, Bd, and_true, true_and]
  exact ⟨mtC_bd D _ _, ⟨by omega, tC_bd T _ _⟩, by omega, by omega, by omega, by omega, by omega, by omega⟩
theorem subB_app : ∀ (l B : List Blk), subB (l ++ B) l
  | [], B => by cases B <;> trivial
  | x :: l, B => ⟨subBk_rfl x, subB_app l B⟩
theorem shB_subS {D : MT} {T : Nat → Int} {sv : Nat} {S : List (List Int)} {B : List Blk} {z : Vc} (hz : subVk z (stV sv S)) {V : List Vc} {b : Bool} : SubS [.bool b] ⟨shB D T sv ++ B, z :: V⟩ ([.bool b], ⟨shB D T sv, [stV sv S]⟩) :=
  ⟨⟨rfl, trivial⟩, subB_app _ _, ⟨hz, subV_nil _⟩, ⟨trivial, trivial⟩, shB_bdB2 (by simp [shB, lenB]) (by simp [lenV]), ⟨nestF_bd _ _ _ _ _ _ _ _ _, trivial⟩⟩
theorem lenB_app : ∀ l k : List Blk, lenB (l ++ k) = lenB l + lenB k
  | [], k => by simp [lenB]
  | x :: l, k => by simp only [List.cons_append, lenB, lenB_app l k]; omega
theorem seat_trim {D : MT} {k : Nat} {c : Int} {T : Nat → Int} {sv : Nat} {L : List (List Int)} (h : CallsS Try.prog 36 [.int .i64 c, .ptr 0 0, .ptr 2 0, .ptr 3 0, .ptr 4 0] ⟨shB D T sv, [stV sv L]⟩ (SeatK D k T L)) :
    CallsS Try.prog 36 [.int .i64 c, .ptr 0 0, .ptr 2 0, .ptr 3 0, .ptr 4 0] ⟨shB D T sv, [stV sv L]⟩ (SeatK0 D k T L) := by
  refine calls_trim2 h ?_
  rintro o h' hk
  unfold SeatK at hk
  cases hq : seatM D k T with
  | some r =>
    rw [hq] at hk
    obtain ⟨rfl, sv', B, z, V, hz, rfl⟩ := hk
    exact ⟨_, _, .ret (.bool true), ⟨shB D r.1 sv', [stV sv' (L ++ r.2)]⟩, .inl ⟨rfl, rfl⟩, by rw [SeatK0, hq]; exact ⟨rfl, sv', rfl⟩, shB_subS hz, ⟨by simp [shB, lenB], by rw [lenB_app]; simp⟩, ⟨by simp [lenV], by simp [lenV]⟩⟩
  | none =>
    rw [hq] at hk
    obtain ⟨rfl, sv', B, z, V, hz, rfl⟩ := hk
    exact ⟨_, _, .ret (.bool false), ⟨shB D T sv', [stV sv' L]⟩, .inl ⟨rfl, rfl⟩, by rw [SeatK0, hq]; exact ⟨rfl, sv', rfl⟩, shB_subS hz, ⟨by simp [shB, lenB], by rw [lenB_app]; simp⟩, ⟨by simp [lenV], by simp [lenV]⟩⟩
theorem seat_pfx {D : MT} {k : Nat} {c : Int} {T : Nat → Int} {sv : Nat} {L : List (List Int)} (h : CallsS Try.prog 36 [.int .i64 c, .ptr 0 0, .ptr 2 0, .ptr 3 0, .ptr 4 0] ⟨shB D T sv, [stV sv L]⟩ (SeatK0 D k T L)) (B : List Blk) (V : List Vc) :
    CallsS Try.prog 36 [.int .i64 c, .ptr 0 0, .ptr 2 0, .ptr 3 0, .ptr 4 0] ⟨shB D T sv ++ B, stV sv L :: V⟩ (fun o h' => ∃ sv', (∃ r, seatM D k T = some r ∧ o = .ret (.bool true) ∧ h' = ⟨shB D r.1 sv' ++ B, stV sv' (L ++ r.2) :: V⟩) ∨ (seatM D k T = none ∧ o = .ret (.bool false) ∧ h' = ⟨shB D T sv' ++ B, stV sv' L :: V⟩)) := by
  have hl : ∀ (T : Nat → Int) (sv : Nat), (shB D T sv).length = 5 := fun _ _ => rfl
  have := calls_pfx h (by simp [BdL, Bd, shB]) (by rw [hl]; exact shB_bdB (Nat.le_refl _) (Nat.le_refl _)) ⟨nestF_bd _ _ _ _ _ _ _ _ _, trivial⟩ (by
    rintro o h' hk
    unfold SeatK0 at hk
    cases hq : seatM D k T with
    | some r =>
      rw [hq] at hk
      obtain ⟨rfl, sv', rfl⟩ := hk
      exact ⟨rfl, rfl, by rw [hl]; exact shB_bdB (Nat.le_refl _) (Nat.le_refl _), ⟨nestF_bd _ _ _ _ _ _ _ _ _, trivial⟩, trivial⟩
    | none =>
      rw [hq] at hk
      obtain ⟨rfl, sv', rfl⟩ := hk
      exact ⟨rfl, rfl, by rw [hl]; exact shB_bdB (Nat.le_refl _) (Nat.le_refl _), ⟨nestF_bd _ _ _ _ _ _ _ _ _, trivial⟩, trivial⟩) B V
  refine calls_mono ?_ this
  rintro o h' ⟨o0, h0', hk, rfl, rfl⟩
  unfold SeatK0 at hk
  cases hq : seatM D k T with
  | some r =>
    rw [hq] at hk
    obtain ⟨rfl, sv', rfl⟩ := hk
    exact ⟨sv', .inl ⟨r, rfl, rfl, rfl⟩⟩
  | none =>
    rw [hq] at hk
    obtain ⟨rfl, sv', rfl⟩ := hk
    exact ⟨sv', .inr ⟨rfl, rfl, rfl⟩⟩
theorem rounds_R {D : MT} {T : Nat → Int} {sv : Nat} {L : List (List Int)} {lv : Nat} {l : List Int} {V : List Vc} {F : FIN} {rt' : List SV} {a b : Code} {R0 : FR} (h0 : R0.Bd)
    (h : ∀ R : FR, R.Bd → R.c = R0.c → R.T0 = R0.T0 → R.s = R0.s → RoundS Try.prog 10 36 rt' a b (frH D T sv L R false .ready none lv l V) (RndK D T L R F lv l)) : RoundS Try.prog 10 36 rt' a b (frH D T sv L R0 false .ready none lv l V) (RndK D T L R0 F lv l) := h R0 h0 rfl rfl rfl
end Go.Eng
end

/- panel: a list sits: its judges judge once more. -/
section
namespace Go.Eng
open Go Go.RowKit Go.Proofs
set_option maxRecDepth 100000
set_option maxHeartbeats 4000000
attribute [local irreducible] OwnT DefS
theorem tC_upd (T : Nat → Int) {x : Nat} (hx : x < 8) : upd (.ptr 0 0 :: tC T) (1 + x * 1) (.int .i64 (T x + 1)) = .ptr 0 0 :: tC (fun (j : Nat) => if (j : Int) = (x : Int) then T j + 1 else T j) := by
  match x, hx with
  | 0, _ | 1, _ | 2, _ | 3, _ | 4, _ | 5, _ | 6, _ | 7, _ => simp [tC, upd]
theorem sit_calls {T : Nat → Int} {c : Int} (hc : c ≤ 1000000) (hT : ∀ j, 0 ≤ T j ∧ T j ≤ c) {l : List Int} (hl : l.length ≤ 1000) (hn : ∀ x ∈ l, 0 ≤ x ∧ x < 8) (D : MT) :
    CallsS Try.prog 39 [.ptr 1 0, .row l.length 1 (fun i _ => .int .i64 (l.getD i 0))] ⟨[.live 25 (mtC D), .live 78 (.ptr 0 0 :: tC T)], []⟩ (fun o h' => o = .ret (.tup []) ∧ h' = ⟨[.live 25 (mtC D), .live 78 (.ptr 0 0 :: tC (addT T l))], []⟩) := by
  refine calls_of_run (C := cx [] [] [] [(39, 3, p39_3)] none) (cx_ok trivial trivial) rfl (g := 39) (fn := Try.f39) fn_39 rfl 1000 ?_
  simp only [p39_3, Try.f39, go_sem, ↓reduceIte, Nat.reduceAdd, Nat.reduceSub, Nat.reduceMul, Nat.reduceEqDiff, Nat.reduceLT, Nat.reduceLeDiff, Int.reduceToNat, Int.reduceLE, Int.reduceLT, Int.reduceEq, Int.reduceNeg, reduceCtorEq]
  refine loop_ofH { x : Nat // x ≤ l.length } (fun x => [(8, .int .i64 (x.1 : Int)), (7, .int .i64 (l.length : Int)), (6, .row l.length 1 (fun i _ => .int .i64 (l.getD i 0))), (1, .row l.length 1 (fun i _ => .int .i64 (l.getD i 0))), (0, .ptr 1 0)]) (fun _ x => ⟨[.live 25 (mtC D), .live 78 (.ptr 0 0 :: tC (addT T (l.take x.1)))], []⟩) (fun x => l.length - x.1) (fun _ => ⟨rfl, rfl⟩) ⟨0, Nat.zero_le _⟩ ?_ ?_
  · apply sub_of <;> simp only [go_sem, ↓reduceIte, Nat.reduceAdd, Nat.reduceSub, Nat.reduceMul, Nat.reduceEqDiff, Nat.reduceLT, Nat.reduceLeDiff, Int.reduceToNat, Int.reduceLE, Int.reduceLT, Int.reduceEq, Int.reduceNeg, reduceCtorEq]
    all_goals first | exact ⟨mtC_bd D _ _, tC_bd _ _ _⟩ | exact fun _ _ _ _ => trivial | exact ⟨by simp [mtC, subL, subX], by simp [tC, addT, subL, subX]⟩ | exact fun _ _ _ _ => rfl
  rintro ⟨x, hx⟩
  simp only at hx ⊢
  by_cases hxl : x < l.length
  · have e1 : decide ((x : Int) < (l.length : Int)) = true := decide_eq_true (by omega)
    have hg : l.getD x 0 = l[x] := by simp [List.getD, hxl]
    have hm := hn _ (List.getElem_mem hxl)
    obtain ⟨y, hy⟩ : ∃ y : Nat, l.getD x 0 = (y : Int) := ⟨(l.getD x 0).toNat, by omega⟩
    have hb0 := addT_bd (l.take x) T y
    have hb1 := hT y
    have hx1 : (l.take x).length ≤ 1000 := by simp; omega
    have hadd : addT T (l.take (x + 1)) = fun (j : Nat) => if (j : Int) = (y : Int) then addT T (l.take x) j + 1 else addT T (l.take x) j := by
      rw [List.take_succ_eq_append_getElem hxl, addT_snoc, ← hg, hy]
    have w1 : IntKind.i64.wrap (addT T (l.take x) y + 1) = addT T (l.take x) y + 1 := wrap_id (by omega) (by omega)
    simp only [e1, hy, tC_nth _ _ (show y < 8 by omega), w1, tC_upd _ (show y < 8 by omega), p39_3, Try.f39, go_sem, ↓reduceIte, Nat.reduceAdd, Nat.reduceSub, Nat.reduceMul, Nat.reduceEqDiff, Nat.reduceLT, Nat.reduceLeDiff, Int.reduceToNat, Int.reduceLE, Int.reduceLT, Int.reduceEq, Int.reduceNeg, reduceCtorEq]
    refine ⟨⟨by omega, by omega⟩, ⟨by kernel_rfl, by kernel_rfl⟩, ⟨by omega, by omega⟩, ?_, ?_⟩
    · simp only [tC, lenS]; omega
    refine ⟨⟨by omega, by omega⟩, by simp only [tC, lenS]; omega, ⟨x + 1, by omega⟩, by simp only []; omega, ?_⟩
    apply sub_of <;> simp only [wrap_s hxl (show l.length ≤ 1000000 by omega), hadd, go_sem, ↓reduceIte, Nat.reduceAdd, Nat.reduceSub, Nat.reduceMul, Nat.reduceEqDiff, Nat.reduceLT, Nat.reduceLeDiff, Int.reduceToNat, Int.reduceLE, Int.reduceLT, Int.reduceEq, Int.reduceNeg, reduceCtorEq]
    all_goals first | exact ⟨mtC_bd D _ _, tC_bd _ _ _⟩ | exact fun _ _ _ _ => trivial | exact ⟨by simp [mtC, subL, subX], by simp [tC, addT, subL, subX]⟩ | exact fun _ _ _ _ => rfl
  obtain rfl : x = l.length := by omega
  have e1 : decide ((l.length : Int) < (l.length : Int)) = false := decide_eq_false (by omega)
  simp only [e1, p39_3, Try.f39, go_sem, ↓reduceIte, Nat.reduceAdd, Nat.reduceSub, Nat.reduceMul, Nat.reduceEqDiff, Nat.reduceLT, Nat.reduceLeDiff, Int.reduceToNat, Int.reduceLE, Int.reduceLT, Int.reduceEq, Int.reduceNeg, reduceCtorEq]
  simp [List.take_length]
theorem sit_at {T : Nat → Int} {c : Int} (hc : c ≤ 1000000) (hT : ∀ j, 0 ≤ T j ∧ T j ≤ c) {l : List Int} (hl : l.length ≤ 1000) (hn : ∀ x ∈ l, 0 ≤ x ∧ x < 8) (D : MT) (B : List Blk) (V : List Vc) :
    CallsS Try.prog 39 [.ptr 1 0, .row l.length 1 (fun i _ => .int .i64 (l.getD i 0))] ⟨.live 25 (mtC D) :: .live 78 (.ptr 0 0 :: tC T) :: B, V⟩ (fun o h' => o = .ret (.tup []) ∧ h' = ⟨.live 25 (mtC D) :: .live 78 (.ptr 0 0 :: tC (addT T l)) :: B, V⟩) := by
  have h2 := calls_pfx (sit_calls hc hT hl hn D) (by simp [BdL, Bd]) (by exact ⟨mtC_bd D _ _, ⟨by simp [Bd], tC_bd T _ _⟩, trivial⟩) trivial (by
    rintro o h' ⟨rfl, rfl⟩
    exact ⟨rfl, rfl, ⟨mtC_bd D _ _, ⟨by simp [Bd], tC_bd _ _ _⟩, trivial⟩, trivial, trivial⟩) B V
  refine calls_mono ?_ h2
  rintro o h' ⟨o0, h0', ⟨rfl, rfl⟩, rfl, rfl⟩
  exact ⟨rfl, rfl⟩
theorem stV_snoc {v : Nat} {L : List (List Int)} {l : List Int} : subVk (.live v 37 1 (L.length + 1) (catF L.length (nestF 0 1 (fun _ _ => 0) (fun i => (L.getD i []).length) (fun i a _ => (L.getD i []).getD a 0)) (oneF [.row l.length 1 (fun i _ => .int .i64 (l.getD i 0))]))) (stV v (L ++ [l])) :=
  ⟨rfl, rfl, rfl, by simp, fun i j hi hj => by
    obtain rfl : j = 0 := by omega
    simp only [List.length_append, List.length_cons, List.length_nil] at hi
    simp only [catF]
    split
    · rename_i h; simp [nestF, List.getD, List.getElem?_append_left h]
    · obtain rfl : i = L.length := by omega
      simp [oneF, nth, nestF, List.getD]⟩
theorem stV_cut {v c : Nat} {L : List (List Int)} {l : List Int} (hc : c = L.length) : subVk (.live v 37 1 (c - 0) (nestF 0 1 (fun _ _ => 0) (fun i => ((L ++ [l]).getD i []).length) (fun i a _ => ((L ++ [l]).getD i []).getD a 0))) (stV v L) :=
  ⟨rfl, rfl, rfl, by simp [hc], fun i j hi hj => by
    obtain rfl : j = 0 := by omega
    simp [nestF, List.getD, List.getElem?_append_left hi]⟩
def RndKz (D : MT) (T : Nat → Int) (L : List (List Int)) (R : FR) (F : FIN) (lv : Nat) (l : List Int) (v : SV) (h' : HS) : Prop :=
  (F.ok l = true ∧ v = .bool false ∧ ∃ sv z y V, subVk z (stV sv (F.L l)) ∧ h' = ⟨shB D (F.T l) sv ++ frB D R true .done (some F.pd) lv, z :: liV lv l :: y :: V⟩) ∨ (F.ok l = false ∧ v = .bool true ∧ ∃ sv z y V, subVk z (stV sv L) ∧ h' = ⟨shB D T sv ++ frB D R false .ready none lv, z :: liV lv l :: y :: V⟩)
theorem rounds_z {D : MT} {T : Nat → Int} {sv : Nat} {L : List (List Int)} {lv : Nat} {l : List Int} {y : Vc} {F : FIN} {rt' : List SV} {a b : Code} {R : FR} (hR : R.Bd)
    (h : RoundS Try.prog 10 36 rt' a b ⟨(frH D T sv L R false .ready none lv l []).blks, [stV sv L, liV lv l, y]⟩ (RndKz D T L R F lv l)) :
    RoundS Try.prog 10 36 rt' a b ⟨(frH D T sv L R false .ready none lv l []).blks, [stV sv L, liV lv l, y]⟩ (RndK D T L R F lv l) := by
  refine rounds_trim h ?_
  rintro x h' (⟨h1, rfl, sv', z, y', V, hz, rfl⟩ | ⟨h1, rfl, sv', z, y', V, hz, rfl⟩)
  · refine ⟨.bool false, frH D (F.T l) sv' (F.L l) R true .done (some F.pd) lv l [.dead], .inl ⟨h1, rfl, sv', _, rfl⟩, ⟨⟨rfl, trivial⟩, frH_subB (L := []) (l := []) (V := []) (V' := []), ⟨hz, subVk_rfl _, trivial, subV_nil _⟩, ⟨trivial, trivial⟩, frH_bdB2 hR (by simp [frH, shB, frB, lenB]) (by simp [frH, lenV]), ⟨nestF_bd _ _ _ _ _ _ _ _ _, fun _ _ _ _ => trivial, trivial⟩⟩, ⟨by simp [frH, shB, frB, lenB], by simp [frH, shB, frB, lenB]⟩, ⟨by simp [frH, lenV], by simp [frH, lenV]⟩⟩
  · refine ⟨.bool true, frH D T sv' L R false .ready none lv l [.dead], .inr ⟨h1, rfl, sv', _, rfl⟩, ⟨⟨rfl, trivial⟩, frH_subB (L := []) (l := []) (V := []) (V' := []), ⟨hz, subVk_rfl _, trivial, subV_nil _⟩, ⟨trivial, trivial⟩, frH_bdB2 hR (by simp [frH, shB, frB, lenB]) (by simp [frH, lenV]), ⟨nestF_bd _ _ _ _ _ _ _ _ _, fun _ _ _ _ => trivial, trivial⟩⟩, ⟨by simp [frH, shB, frB, lenB], by simp [frH, shB, frB, lenB]⟩, ⟨by simp [frH, lenV], by simp [frH, lenV]⟩⟩
end Go.Eng
end

/- panel: the search for a seating: a contest. -/
section
namespace Go.Eng
open Go Go.RowKit Go.Proofs
set_option maxRecDepth 100000
set_option maxHeartbeats 4000000
attribute [local irreducible] OwnT DefS
theorem seat_step {D : MT} (hD : D.Ok) {k : Nat} (hk : k + 1 ≤ D.m)
    (ih : ∀ (T : Nat → Int) (sv : Nat) (L : List (List Int)), L.length = D.m - k → (∀ j, 0 ≤ T j ∧ T j ≤ 3 * ((D.m - k : Nat) : Int)) → CallsS Try.prog 36 [.int .i64 ((D.m - k : Nat) : Int), .ptr 0 0, .ptr 2 0, .ptr 3 0, .ptr 4 0] ⟨shB D T sv, [stV sv L]⟩ (SeatK D k T L))
    {T : Nat → Int} {sv : Nat} {L : List (List Int)} {c : Nat} (hc : c = D.m - (k + 1)) (hL : L.length = c) (hT : ∀ j, 0 ≤ T j ∧ T j ≤ 3 * (c : Int)) :
    CallsS Try.prog 36 [.int .i64 (c : Int), .ptr 0 0, .ptr 2 0, .ptr 3 0, .ptr 4 0] ⟨shB D T sv, [stV sv L]⟩ (SeatK D (k + 1) T L) := by
  refine calls_of_run (C := cx [36, 68, 38] [] [] [(36, 4, q36_4), (36, 11, p36_11)] none) (cx_ok trivial trivial) rfl (g := 36) (fn := Try.f36) fn_36 rfl 1000 ?_
  have hcm : c < D.m := by omega
  have e1 : decide ((c : Int) = (D.m : Int)) = false := decide_eq_false (by omega)
  have hc0 : (0 : Int) ≤ (c : Int) := by omega
  have hcN : (c : Int) < (D.m : Int) := by omega
  have hs := hD.s c hcm
  obtain ⟨s, hsA⟩ : ∃ s : Nat, D.A c 2 = (s : Int) := ⟨(D.A c 2).toNat, by omega⟩
  have hs3 : s ≤ 3 := by omega
  simp only [shB, mtC, stV, tC, e1, hc0, hcN, hsA, Int.toNat_natCast, nestF_eq, q36_4, p36_11, Try.f36, Try.f37, Try.f67, go_sem, ↓reduceIte, Nat.reduceAdd, Nat.reduceSub, Nat.reduceMul, Nat.reduceEqDiff, Nat.reduceLT, Nat.reduceLeDiff, Int.reduceToNat, Int.reduceLE, Int.reduceLT, Int.reduceEq, Int.reduceNeg, reduceCtorEq]
  refine ⟨⟨by kernel_rfl, by kernel_rfl⟩, ?_⟩
  unfold callS
  refine calls_mono ?_ (from_use hD (T := T) (L := L) rfl ?_ hs3 (finM D c k T L) ?_)
  · rintro o h' hK
    have hsm : seatM D (k + 1) T = match fo (finM D c k T L).ok D.n s 0 [] with
      | some l => match seatM D k (addT T l) with
        | some r => some (r.1, l :: r.2)
        | none => none
      | none => none := by
      rw [fo_nil]
      simp only [seatM, ← hc, hsA, Int.toNat_natCast, finM] <;> rfl
    cases hq : fo (finM D c k T L).ok D.n s 0 [] with
    | none =>
      rw [hq] at hK hsm
      obtain ⟨rfl, sv', lv', z, V, hz, rfl⟩ := hK
      simp only [frHz, shB, frB, List.cons_append, List.nil_append, stV, q36_4, p36_11, Try.f36, Try.f37, Try.f67, go_sem, ↓reduceIte, Nat.reduceAdd, Nat.reduceSub, Nat.reduceMul, Nat.reduceEqDiff, Nat.reduceLT, Nat.reduceLeDiff, Int.reduceToNat, Int.reduceLE, Int.reduceLT, Int.reduceEq, Int.reduceNeg, reduceCtorEq]
      rw [SeatK, hsm]
      exact ⟨rfl, sv', _, _, _, subVk_rfl _, rfl⟩
    | some q =>
      rw [hq] at hK hsm
      obtain ⟨rfl, sv', lv', z, V, hz, rfl⟩ := hK
      have hpd : (finM D c k T L).pd = .ret := rfl
      simp only [hpd, frHz, shB, frB, List.cons_append, List.nil_append, stV, q36_4, p36_11, Try.f36, Try.f37, Try.f67, go_sem, ↓reduceIte, Nat.reduceAdd, Nat.reduceSub, Nat.reduceMul, Nat.reduceEqDiff, Nat.reduceLT, Nat.reduceLeDiff, Int.reduceToNat, Int.reduceLE, Int.reduceLT, Int.reduceEq, Int.reduceNeg, reduceCtorEq]
      have hok := List.find?_some (fo_nil ▸ hq)
      simp only [finM, Bool.and_eq_true] at hok
      obtain ⟨r, hr⟩ := Option.isSome_iff_exists.1 hok.2
      simp only [hr] at hsm
      have hT : (finM D c k T L).T q = r.1 := by simp only [finM, hr]
      have hL2 : (finM D c k T L).L q = L ++ (q :: r.2) := by simp only [finM, hr, List.append_assoc, List.singleton_append]
      rw [hT, hL2, SeatK, hsm]
      exact ⟨rfl, sv', _, _, _, subVk_rfl _, rfl⟩
  · intro X Y hX hY
    refine bd_setL ?_
    simp only [bdAs, Bd, BdL, and_true, true_and]
    refine ⟨⟨by omega, by omega⟩, fun j _ => ?_, fun j _ => nestF_bd1 _ _ _ _ _ _ _ _ _, fun i j _ _ => nestF_bd1 _ _ _ _ _ _ _ _ _, by omega, fun _ _ _ _ => trivial, by omega, by omega, by omega, by omega, by omega, fun i j _ _ => nestF_bd1 _ _ _ _ _ _ _ _ _, by omega, by omega, by omega, by omega, by omega, by omega, by omega⟩
    split <;> simp [Bd]
  · intro hR0 l sv lv hl hln
    refine rounds_R hR0 ?_
    intro R hR hRc hRT hRs
    simp only at hRc hRT hRs
    simp only [go_sem, ↓reduceIte, Nat.reduceAdd, Nat.reduceSub, Nat.reduceMul, Nat.reduceEqDiff, Nat.reduceLT, Nat.reduceLeDiff, Int.reduceToNat, Int.reduceLE, Int.reduceLT, Int.reduceEq, Int.reduceNeg, reduceCtorEq]
    refine rounds_preM (sub_fz1 2 28 rfl (by simp only [go_sem, ↓reduceIte, Nat.reduceAdd, Nat.reduceSub, Nat.reduceMul, Nat.reduceEqDiff, Nat.reduceLT, Nat.reduceLeDiff, Int.reduceToNat, Int.reduceLE, Int.reduceLT, Int.reduceEq, Int.reduceNeg, reduceCtorEq]) (subM_rfl ?_ ?_ ?_)) ?_ ?_ ?_
    · rw [← upd_setL, ← upd_setL]
      exact bd_upd (by simp [Bd]) (bd_upd (by simp [Bd, frH, lenV, setV]) (hR0 _ _ (by simp [frH, shB, frB, lenB]) (by simp [frH, lenV, setV])))
    · exact frH_bdB2 hR (by simp [frH, shB, frB, lenB]) (by simp [frH, lenV, setV])
    · exact ⟨nestF_bd _ _ _ _ _ _ _ _ _, fun _ _ _ _ => trivial, trivial⟩
    · rfl
    · simp [frH, lenV, setV]
    clear hR0
    refine rounds_z hR ?_
    refine rounds_of_run (C := cxd [36, 38, 39] [] [] [] [(36, 11, p36_11)]) (cxd_ok trivial trivial trivial) rfl rfl (Q := fun o h' => ∃ v, o = .rnd v ∧ RndKz D T L _ (finM D c k T L) lv l v h') (fun o h' h => h) 1000 rfl ?_
    simp only [frH, shB, frB, List.cons_append, List.nil_append, stV, liV, hRc, q36_4, p36_11, Try.f36, go_sem, ↓reduceIte, Nat.reduceAdd, Nat.reduceSub, Nat.reduceMul, Nat.reduceEqDiff, Nat.reduceLT, Nat.reduceLeDiff, Int.reduceToNat, Int.reduceLE, Int.reduceLT, Int.reduceEq, Int.reduceNeg, reduceCtorEq]
    unfold callS
    refine calls_mono ?_ (errorOf_at hD hcm T (l := l) (by omega) hln _ _)
    rintro o h' ⟨rfl, rfl⟩
    by_cases hE : erM D c T (fun i => l.getD i 0) l.length = 0
    · have e2 : decide (erM D c T (fun i => l.getD i 0) l.length = 0) = true := decide_eq_true hE
      simp only [e2, q36_4, p36_11, Try.f36, go_sem, ↓reduceIte, Nat.reduceAdd, Nat.reduceSub, Nat.reduceMul, Nat.reduceEqDiff, Nat.reduceLT, Nat.reduceLeDiff, Int.reduceToNat, Int.reduceLE, Int.reduceLT, Int.reduceEq, Int.reduceNeg, reduceCtorEq]
      unfold callS
      refine calls_mono ?_ (sit_at (c := 3 * (c : Int)) ?_ hT (by omega) ?_ D _ _)
      rotate_left
      · have := hD.m; omega
      · intro x hx; have := hln x hx; have := hD.n; omega
      rintro o h' ⟨rfl, rfl⟩
      have hcL : IntKind.i64.wrap ((c : Int) + 1) = ((D.m - k : Nat) : Int) := by rw [wrap_id (by omega) (by have := hD.m; omega)]; omega
      simp only [hcL, q36_4, p36_11, Try.f36, go_sem, ↓reduceIte, Nat.reduceAdd, Nat.reduceSub, Nat.reduceMul, Nat.reduceEqDiff, Nat.reduceLT, Nat.reduceLeDiff, Int.reduceToNat, Int.reduceLE, Int.reduceLT, Int.reduceEq, Int.reduceNeg, reduceCtorEq]
      refine ⟨⟨by have := hD.m; omega, by have := hD.m; omega⟩, ?_⟩
      have hT' : ∀ j, 0 ≤ addT T l j ∧ addT T l j ≤ 3 * ((D.m - k : Nat) : Int) := fun j => by
        have h1 := addT_bd l T j
        have h2 := hT j
        omega
      have hi := seat_pfx (seat_trim (ih (addT T l) (sv + 1) (L ++ [l]) (by simp; omega) hT')) (frB D R false .busy none lv) [liV lv l, .dead, .live 0 37 1 1 (oneF [.row l.length 1 (fun i _ => .int .i64 (l.getD i 0))])]
      unfold callS
      refine calls_mono ?_ (calls_pre (args' := [.int .i64 ((D.m - k : Nat) : Int), .ptr 0 0, .ptr 2 0, .ptr 3 0, .ptr 4 0]) (h' := ⟨shB D (addT T l) (sv + 1) ++ frB D R false .busy none lv, [stV (sv + 1) (L ++ [l]), liV lv l, .dead, .live 0 37 1 1 (oneF [.row l.length 1 (fun i _ => .int .i64 (l.getD i 0))])]⟩) ⟨by simp [subL, subX], by simp only [frB, hRc]; exact subB_rfl _, ⟨stV_snoc, subVk_rfl _, trivial, subVk_rfl _, trivial⟩, by simp [BdL, Bd, shB, frB, lenB], frH_bdB2 (T := addT T l) (sv := sv + 1) (L := []) (l := []) (V := []) hR (by simp [shB, frB, lenB]) (by simp [lenV]), ⟨nestF_bd _ _ _ _ _ _ _ _ _, fun _ _ _ _ => trivial, fun i j hi hj => ?_, trivial⟩⟩ rfl rfl hi)
      rotate_left
      · obtain rfl : i = 0 := by omega
        obtain rfl : j = 0 := by omega
        exact fun _ _ _ _ => trivial
      rintro o h' ⟨sv', ⟨r, hr, rfl, rfl⟩ | ⟨hr, rfl, rfl⟩⟩
      · simp only [shB, frB, hRc, hRT, mtC, stV, liV, List.cons_append, List.nil_append, popR, cxd_D, cxd_rd, q36_4, p36_11, Try.f36, go_sem, ↓reduceIte, Nat.reduceAdd, Nat.reduceSub, Nat.reduceMul, Nat.reduceEqDiff, Nat.reduceLT, Nat.reduceLeDiff, Int.reduceToNat, Int.reduceLE, Int.reduceLT, Int.reduceEq, Int.reduceNeg, reduceCtorEq]
        have hFT : (finM D c k T L).T l = r.1 := by simp only [finM, hr]
        have hFL : (finM D c k T L).L l = L ++ [l] ++ r.2 := by simp only [finM, hr]
        refine ⟨_, rfl, .inl ⟨by simp only [finM, e2, hr]; rfl, rfl, sv', stV sv' (L ++ [l] ++ r.2), .dead, [.live 0 37 1 1 (oneF [.row l.length 1 (fun i _ => .int .i64 (l.getD i 0))])], by rw [hFL]; exact subVk_rfl _, ?_⟩⟩
        simp only [hFT, shB, frB, hRc, hRT]
        rfl
      · simp only [shB, frB, hRc, hRT, mtC, tC, stV, liV, List.cons_append, List.nil_append, popR, cxd_D, cxd_rd, q36_4, p36_11, Try.f36, go_sem, ↓reduceIte, Nat.reduceAdd, Nat.reduceSub, Nat.reduceMul, Nat.reduceEqDiff, Nat.reduceLT, Nat.reduceLeDiff, Int.reduceToNat, Int.reduceLE, Int.reduceLT, Int.reduceEq, Int.reduceNeg, reduceCtorEq]
        refine ⟨⟨by kernel_rfl, by kernel_rfl⟩, ⟨by omega, by simp [hL]; exact Int.le_of_lt (Int.lt_succ _)⟩, _, rfl, .inr ⟨by simp only [finM, e2, hr]; rfl, rfl, sv' + 1, .live (sv' + 1) 37 1 (c - 0) (nestF 0 1 (fun _ _ => 0) (fun i => ((L ++ [l]).getD i []).length) (fun i a _ => ((L ++ [l]).getD i []).getD a 0)), .dead, [.live 0 37 1 1 (oneF [.row l.length 1 (fun i _ => .int .i64 (l.getD i 0))])], stV_cut hL.symm, ?_⟩⟩
        simp only [shB, frB, hRc, hRT]
        rfl
    · have e2 : decide (erM D c T (fun i => l.getD i 0) l.length = 0) = false := decide_eq_false hE
      simp only [e2, popR, cxd_D, cxd_rd, q36_4, p36_11, Try.f36, go_sem, ↓reduceIte, Nat.reduceAdd, Nat.reduceSub, Nat.reduceMul, Nat.reduceEqDiff, Nat.reduceLT, Nat.reduceLeDiff, Int.reduceToNat, Int.reduceLE, Int.reduceLT, Int.reduceEq, Int.reduceNeg, reduceCtorEq]
      refine ⟨_, rfl, .inr ⟨by simp only [finM, e2, Bool.false_and], rfl, sv, stV sv L, .dead, [], subVk_rfl _, ?_⟩⟩
      simp only [shB, frB, hRc]
      rfl
end Go.Eng
end

/- panel: the search for a seating: all contests; Seat. -/
section
namespace Go.Eng
open Go Go.RowKit Go.Proofs
set_option maxRecDepth 100000
set_option maxHeartbeats 4000000
attribute [local irreducible] OwnT DefS
theorem seat_calls {D : MT} (hD : D.Ok) : ∀ (k : Nat), k ≤ D.m → ∀ (T : Nat → Int) (sv : Nat) (L : List (List Int)), L.length = D.m - k → (∀ j, 0 ≤ T j ∧ T j ≤ 3 * ((D.m - k : Nat) : Int)) → CallsS Try.prog 36 [.int .i64 ((D.m - k : Nat) : Int), .ptr 0 0, .ptr 2 0, .ptr 3 0, .ptr 4 0] ⟨shB D T sv, [stV sv L]⟩ (SeatK D k T L) := by
  intro k
  induction k with
  | succ k ih => intro hk T sv L hL hT; exact seat_step hD hk (ih (by omega)) rfl hL hT
  | zero =>
    intro hk T sv L hL hT
    refine calls_of_run (C := cx [36, 68, 38] [] [] [(36, 4, q36_4), (36, 11, p36_11)] none) (cx_ok trivial trivial) rfl (g := 36) (fn := Try.f36) fn_36 rfl 1000 ?_
    have e1 : decide (((D.m - 0 : Nat) : Int) = (D.m : Int)) = true := decide_eq_true (by omega)
    simp only [shB, mtC, stV, tC, e1, q36_4, p36_11, Try.f36, go_sem, ↓reduceIte, Nat.reduceAdd, Nat.reduceSub, Nat.reduceMul, Nat.reduceEqDiff, Nat.reduceLT, Nat.reduceLeDiff, Int.reduceToNat, Int.reduceLE, Int.reduceLT, Int.reduceEq, Int.reduceNeg, reduceCtorEq]
    exact ⟨rfl, sv, _, stV sv L, [], by simp only [List.append_nil]; exact subVk_rfl _, rfl⟩
theorem mtB_ok {n m : Nat} {jd A : Nat → Nat → Int} {M : Nat → Nat} {V : Nat → Nat → Nat → Int} (h : mtB n jd m A M V = true) : MT.Ok ⟨n, jd, m, A, M, V⟩ := by
  simp only [mtB, Bool.and_eq_true, decide_eq_true_eq] at h
  obtain ⟨h1, h2, h3, h4⟩ := h
  refine ⟨h1, h2, fun i hi => ?_, fun i hi => ?_, fun i hi => ?_⟩
  · have := allU_iff.1 h4 i hi
    simp only [ctB, Bool.and_eq_true, decide_eq_true_eq] at this
    exact this.1
  · have := allU_iff.1 h4 i hi
    simp only [ctB, Bool.and_eq_true, decide_eq_true_eq] at this
    exact in3_iff.1 this.2.2.2
  · have := allU_iff.1 h3 i hi
    simp only [jdB, Bool.and_eq_true] at this
    exact in3_iff.1 this.2.2
theorem nestF_ren (k s : Nat) (A : Nat → Nat → Int) (M : Nat → Nat) (V : Nat → Nat → Nat → Int) (b v : Nat → Nat) (i j : Nat) : renS b v (nestF k s A M V i j) = nestF k s A M V i j := by
  simp only [nestF]
  split <;> rfl
def shB1 (D : MT) (T : Nat → Int) (sv : Nat) : List Blk := [.live 25 (mtC D), .live 78 (.ptr 0 0 :: tC T), .live 73 [.ptr 1 0], .live 26 [.vec 1 sv], .live 79 [.func 36 [.ptr 0 0, .ptr 2 0, .ptr 3 0, .ptr 4 0]]]
theorem shB_ren (D : MT) (T : Nat → Int) (sv : Nat) : (shB D T sv).map (renK (fun n => n + 0) (fun n => n + 1)) = shB1 D T sv := by
  simp [shB, shB1, mtC, tC, renK, renL, renS, nestF_ren]
theorem stV_ren (sv : Nat) (L : List (List Int)) : renC (fun n => n + 0) (fun n => n + 1) (stV sv L) = stV sv L := by
  simp [stV, renC, nestF_ren]
theorem seat_at {D : MT} (hD : D.Ok) (x : Vc) : CallsS Try.prog 36 [.int .i64 0, .ptr 0 0, .ptr 2 0, .ptr 3 0, .ptr 4 0] ⟨shB1 D (fun _ => 0) 0, [x, stV 0 []]⟩ (fun o h' => ∃ sv', (∃ r, seatM D D.m (fun _ => 0) = some r ∧ o = .ret (.bool true) ∧ h' = ⟨shB1 D r.1 sv', [x, stV sv' r.2]⟩) ∨ (seatM D D.m (fun _ => 0) = none ∧ o = .ret (.bool false) ∧ h' = ⟨shB1 D (fun _ => 0) sv', [x, stV sv' []]⟩)) := by
  have h0 := seat_calls hD D.m (Nat.le_refl _) (fun _ => 0) 0 [] (by simp) (fun j => by simp)
  rw [Nat.sub_self] at h0
  have hc := calls_mid 0 1 (seat_trim h0) (by simp [BdL, Bd, shB]) (shB_bdB (Nat.le_refl _) (Nat.le_refl _)) ⟨nestF_bd _ _ _ _ _ _ _ _ _, trivial⟩ (by
    rintro o h' hk
    unfold SeatK0 at hk
    cases hq : seatM D D.m (fun _ => 0) with
    | some r =>
      rw [hq] at hk
      obtain ⟨rfl, sv', rfl⟩ := hk
      exact ⟨rfl, rfl, shB_bdB (Nat.le_refl _) (Nat.le_refl _), ⟨nestF_bd _ _ _ _ _ _ _ _ _, trivial⟩, trivial⟩
    | none =>
      rw [hq] at hk
      obtain ⟨rfl, sv', rfl⟩ := hk
      exact ⟨rfl, rfl, shB_bdB (Nat.le_refl _) (Nat.le_refl _), ⟨nestF_bd _ _ _ _ _ _ _ _ _, trivial⟩, trivial⟩) [] [] [x] [] rfl rfl
  simp only [List.map_cons, List.map_nil, List.append_nil, List.nil_append, List.cons_append, shB_ren, stV_ren] at hc
  refine calls_mono ?_ hc
  rintro o h' ⟨o0, h0', hk, rfl, rfl⟩
  unfold SeatK0 at hk
  cases hq : seatM D D.m (fun _ => 0) with
  | some r =>
    rw [hq] at hk
    obtain ⟨rfl, sv', rfl⟩ := hk
    exact ⟨sv', .inl ⟨r, rfl, rfl, by simp only [List.map_cons, List.map_nil, List.append_nil, List.nil_append, List.cons_append, shB_ren, stV_ren]⟩⟩
  | none =>
    rw [hq] at hk
    obtain ⟨rfl, sv', rfl⟩ := hk
    exact ⟨sv', .inr ⟨rfl, rfl, by simp only [List.map_cons, List.map_nil, List.append_nil, List.nil_append, List.cons_append, shB_ren, stV_ren]⟩⟩
/-- What Seat returns. -/
def stM (D : MT) : List (List Int) × Int := if mtB D.n D.jd D.m D.A D.M D.V then (match seatM D D.m (fun _ => 0) with | some r => (r.2, 0) | none => ([], 4)) else ([], 1)
def stF (S : List (List Int)) : Nat → Nat → SV := nestF 0 1 (fun _ _ => 0) (fun i => (S.getD i []).length) (fun i a _ => (S.getD i []).getD a 0)
def stR (p : List (List Int) × Int) : SV := .tup [.row p.1.length 1 (stF p.1), .int .i64 p.2]
theorem stR_bd (p : List (List Int) × Int) (L M : Nat) : Bd L M (stR p) := by
  simp only [stR, stF, Bd, BdL, and_true]
  exact nestF_bd _ _ _ _ _ _ _ _ _
def SeatBase : BaseF := fun args => match args with
  | [.agg [.row n sz_jd f_jd, .row m sz_A f_A]] => some ((sz_jd = 3 ∧ IntR n 3 f_jd) ∧ (sz_A = 3 ∧ NestR m 3 0 1 f_A) ∧ (n ≤ 1000000 ∧ m ≤ 1000000), stR (stM ⟨n, (ivf f_jd), m, (nsA f_A), (nsM 0 f_A), (nsV 0 f_A)⟩))
  | _ => none
theorem Seat_base : NB Try.prog 14 SeatBase := by
  intro args p v hq hp
  unfold SeatBase at hq
  split at hq
  rotate_left
  · cases hq
  rename_i n sz_jd f_jd m sz_A f_A
  cases hq
  obtain ⟨⟨rfl, i_jd⟩, ⟨rfl, i_A⟩, pre⟩ := hp
  refine nb_of (C := cx [36] [] [(35, isMeetingBase)] [] none) (cx_ok trivial ⟨isMeeting_base, trivial⟩) rfl (g := 14) (fn := Try.f14)
    (args' := [.agg [.row n 3 (rowF .i64 (ivf f_jd)), .row m 3 (nestF 0 1 (nsA f_A) (nsM 0 f_A) (nsV 0 f_A))]]) (fn_14) rfl 1000 (by
    simp only [BdL, Bd, and_self, and_true, true_and]
    exact ⟨(fun i j hi hj => by rw [i_jd i j hi hj]; trivial), (fun i j hi hj => nest_bd i_A i j hi hj)⟩) ⟨SameD.agg ⟨SameD.int i_jd, SameD.nest i_A, trivial⟩, trivial⟩ (by exact stR_bd _ _ _) ?_
  generalize ivf f_jd = jd at *
  generalize nsA f_A = A at *
  generalize nsM 0 f_A = M at *
  generalize nsV 0 f_A = V at *
  simp only [rowF_eq]
  cases c1 : mtB n jd m A M V with
  | false =>
    simp only [c1, mtB_ns, isMeeting_eq, nestF_eq, nestR_lit, nsM_lit, nsV_lit, mtB_ns, Try.f14, go_sem, ↓reduceIte, Nat.reduceAdd, Nat.reduceSub, Nat.reduceMul, Nat.reduceEqDiff, Nat.reduceLT, Nat.reduceLeDiff, Int.reduceToNat, Int.reduceLE, Int.reduceLT, Int.reduceEq, Int.reduceNeg, reduceCtorEq]
    refine ⟨pre, fun _ _ h => absurd h (by omega), ?_⟩
    have h1 : stM ⟨n, jd, m, A, M, V⟩ = ([], 1) := by simp only [stM, c1]; rfl
    rw [h1]
    exact SameD.tup ⟨SameD.row fun i j h => absurd h (by simp), SameD.rfl' _, trivial⟩
  | true =>
    simp only [c1, mtB_ns, isMeeting_eq, nestF_eq, nestR_lit, nsM_lit, nsV_lit, mtB_ns, Try.f14, go_sem, ↓reduceIte, Nat.reduceAdd, Nat.reduceSub, Nat.reduceMul, Nat.reduceEqDiff, Nat.reduceLT, Nat.reduceLeDiff, Int.reduceToNat, Int.reduceLE, Int.reduceLT, Int.reduceEq, Int.reduceNeg, reduceCtorEq]
    refine ⟨pre, ?_⟩
    have hD := mtB_ok c1
    unfold callS
    refine calls_mono ?_ (calls_pre (args' := [.int .i64 0, .ptr 0 0, .ptr 2 0, .ptr 3 0, .ptr 4 0]) (h' := ⟨shB1 ⟨n, jd, m, A, M, V⟩ (fun _ => 0) 0, [.dead, stV 0 []]⟩) ⟨by simp [subL, subX], subB_rfl _, ⟨trivial, ⟨rfl, rfl, rfl, rfl, fun i _ hi _ => absurd hi (by simp)⟩, trivial⟩, by simp [BdL, Bd, shB1, lenB], ?_, ⟨nestF_bd _ _ _ _ _ _ _ _ _, trivial⟩⟩ rfl rfl (seat_at hD .dead))
    rotate_left
    · simp only [shB1, bdB2, BdL, Bd, and_true, true_and, lenB, lenV]
      exact ⟨mtC_bd _ _ _, ⟨by omega, tC_bd _ _ _⟩, by omega, by omega, by omega, by omega, by omega, by omega⟩
    rintro o h' ⟨sv', ⟨r, hr, rfl, rfl⟩ | ⟨hr, rfl, rfl⟩⟩
    · simp only [shB1, mtC, tC, stV, isMeeting_eq, nestF_eq, nestR_lit, nsM_lit, nsV_lit, mtB_ns, Try.f14, go_sem, ↓reduceIte, Nat.reduceAdd, Nat.reduceSub, Nat.reduceMul, Nat.reduceEqDiff, Nat.reduceLT, Nat.reduceLeDiff, Int.reduceToNat, Int.reduceLE, Int.reduceLT, Int.reduceEq, Int.reduceNeg, reduceCtorEq]
      have h1 : stM ⟨n, jd, m, A, M, V⟩ = (r.2, 0) := by simp only [stM, c1, hr]; rfl
      rw [h1]
      refine ⟨fun i j hi hj => ?_, SameD.rfl' _⟩
      obtain rfl : j = 0 := by omega
      exact fun _ _ _ _ => trivial
    · simp only [shB1, mtC, tC, stV, isMeeting_eq, nestF_eq, nestR_lit, nsM_lit, nsV_lit, mtB_ns, Try.f14, go_sem, ↓reduceIte, Nat.reduceAdd, Nat.reduceSub, Nat.reduceMul, Nat.reduceEqDiff, Nat.reduceLT, Nat.reduceLeDiff, Int.reduceToNat, Int.reduceLE, Int.reduceLT, Int.reduceEq, Int.reduceNeg, reduceCtorEq]
      have h1 : stM ⟨n, jd, m, A, M, V⟩ = ([], 4) := by simp only [stM, c1, hr]; rfl
      rw [h1]
      exact ⟨fun _ _ h => absurd h (by omega), SameD.tup ⟨SameD.row fun i j h => absurd h (by simp), SameD.rfl' _, trivial⟩⟩
end Go.Eng
end

/- panel: how often a judge judges; whether he may. -/
section
namespace Go.Eng
open Go Go.RowKit Go.Proofs
set_option maxRecDepth 100000
set_option maxHeartbeats 4000000
attribute [local irreducible] OwnT DefS
def cnL (l : Nat → Int) (j : Int) : Nat → Int
  | 0 => 0
  | k + 1 => cnL l j k + if l k = j then 1 else 0
def tmS (M : Nat → Nat) (V : Nat → Nat → Nat → Int) (j : Int) : Nat → Int
  | 0 => 0
  | i + 1 => tmS M V j i + cnL (fun a => V i a 0) j (M i)
theorem cnL_bd (l : Nat → Int) (j : Int) : ∀ k, 0 ≤ cnL l j k ∧ cnL l j k ≤ (k : Int)
  | 0 => by simp [cnL]
  | k + 1 => by
    have := cnL_bd l j k
    simp only [cnL]
    split <;> omega
theorem tmS_bd {M : Nat → Nat} {V : Nat → Nat → Nat → Int} {j : Int} : ∀ {i : Nat}, (∀ e, e < i → M e ≤ 1000) → 0 ≤ tmS M V j i ∧ tmS M V j i ≤ 1000 * (i : Int)
  | 0, _ => by simp [tmS]
  | i + 1, h => by
    have h1 := tmS_bd (M := M) (V := V) (j := j) (i := i) (fun e he => h e (by omega))
    have h2 := cnL_bd (fun a => V i a 0) j (M i)
    have h3 := h i (by omega)
    simp only [tmS]
    omega
end Go.Eng
end

/- panel: the reference's error of a contest. -/
section
namespace Go.Eng
open Go Go.RowKit Go.Proofs
set_option maxRecDepth 100000
set_option maxHeartbeats 4000000
attribute [local irreducible] OwnT DefS
def limR (D : MT) (c : Nat) (K : Nat → Nat) (W : Nat → Nat → Nat → Int) : Bool := allU (fun i => !decide (D.jd (W c i 0).toNat 2 < tmS K W (W c i 0) (c + 1))) (K c)
def erR (D : MT) (c : Nat) (K : Nat → Nat) (W : Nat → Nat → Nat → Int) : Int :=
  if risB (fun a => W c a 0) (K c) then if decide ((K c : Int) = D.A c 2) then if mayB D c (fun a => W c a 0) (K c) then if dstB D (fun a => W c a 0) (K c) then if limR D c K W then 0 else 12 else 5 else 11 else 10 else 7
theorem erR_7 {D : MT} {c : Nat} {K : Nat → Nat} {W : Nat → Nat → Nat → Int} (h : risB (fun a => W c a 0) (K c) = false) : erR D c K W = 7 := by rw [erR, h]; rfl
theorem erR_10 {D : MT} {c : Nat} {K : Nat → Nat} {W : Nat → Nat → Nat → Int} (h : risB (fun a => W c a 0) (K c) = true) (h2 : decide ((K c : Int) = D.A c 2) = false) : erR D c K W = 10 := by rw [erR, h, h2]; rfl
theorem erR_11 {D : MT} {c : Nat} {K : Nat → Nat} {W : Nat → Nat → Nat → Int} (h : risB (fun a => W c a 0) (K c) = true) (h2 : decide ((K c : Int) = D.A c 2) = true) (h3 : mayB D c (fun a => W c a 0) (K c) = false) : erR D c K W = 11 := by rw [erR, h, h2, h3]; rfl
theorem erR_5 {D : MT} {c : Nat} {K : Nat → Nat} {W : Nat → Nat → Nat → Int} (h : risB (fun a => W c a 0) (K c) = true) (h2 : decide ((K c : Int) = D.A c 2) = true) (h3 : mayB D c (fun a => W c a 0) (K c) = true) (h4 : dstB D (fun a => W c a 0) (K c) = false) : erR D c K W = 5 := by rw [erR, h, h2, h3, h4]; rfl
theorem erR_12 {D : MT} {c : Nat} {K : Nat → Nat} {W : Nat → Nat → Nat → Int} (h : risB (fun a => W c a 0) (K c) = true) (h2 : decide ((K c : Int) = D.A c 2) = true) (h3 : mayB D c (fun a => W c a 0) (K c) = true) (h4 : dstB D (fun a => W c a 0) (K c) = true) (h5 : limR D c K W = false) : erR D c K W = 12 := by rw [erR, h, h2, h3, h4, h5]; rfl
theorem erR_0 {D : MT} {c : Nat} {K : Nat → Nat} {W : Nat → Nat → Nat → Int} (h : risB (fun a => W c a 0) (K c) = true) (h2 : decide ((K c : Int) = D.A c 2) = true) (h3 : mayB D c (fun a => W c a 0) (K c) = true) (h4 : dstB D (fun a => W c a 0) (K c) = true) (h5 : limR D c K W = true) : erR D c K W = 0 := by rw [erR, h, h2, h3, h4, h5]; rfl
end Go.Eng
end

/- panel: the reference's search for a seating. -/
section
namespace Go.Eng
open Go Go.RowKit Go.Proofs
set_option maxRecDepth 100000
set_option maxHeartbeats 4000000
attribute [local irreducible] OwnT DefS
def lnF (S : List (List Int)) : Nat → Nat := fun i => (S.getD i []).length
def vlF (S : List (List Int)) : Nat → Nat → Nat → Int := fun i a _ => (S.getD i []).getD a 0
theorem stF_eq (S : List (List Int)) : stF S = nestF 0 1 (fun _ _ => 0) (lnF S) (vlF S) := rfl
/-- The first way on from some lists. -/
def seatR (D : MT) : Nat → List (List Int) → Option (List (List Int))
  | 0, S => some S
  | k + 1, S => (rz D.n (D.A S.length 2).toNat 0).findSome? fun l => if erR D S.length (lnF (S ++ [l])) (vlF (S ++ [l])) = 0 then seatR D k (S ++ [l]) else none
theorem rz_num {n : Nat} : ∀ {r k : Nat} {l : List Int}, l ∈ rz n r k → numOk n l
  | 0, k, l, h => by
    simp only [rz, List.mem_singleton] at h
    subst h
    exact fun x hx => by simp at hx
  | r + 1, k, l, h => by
    simp only [rz, List.mem_flatMap, List.mem_range'_1, List.mem_map] at h
    obtain ⟨i, hi, y, hy, rfl⟩ := h
    intro x hx
    rcases List.mem_cons.1 hx with rfl | hx
    · exact ⟨by omega, by omega⟩
    · exact rz_num hy x hx
theorem rz_length {n : Nat} : ∀ {r k : Nat} {l : List Int}, l ∈ rz n r k → l.length = r
  | 0, k, l, h => by
    simp only [rz, List.mem_singleton] at h
    subst h; rfl
  | r + 1, k, l, h => by
    simp only [rz, List.mem_flatMap, List.mem_range'_1, List.mem_map] at h
    obtain ⟨i, hi, y, hy, rfl⟩ := h
    rw [List.length_cons, rz_length hy]
end Go.Eng
end

/- panel: Seat of the reference. -/
section
namespace Go.Eng
open Go Go.RowKit Go.Proofs
set_option maxRecDepth 100000
set_option maxHeartbeats 4000000
attribute [local irreducible] OwnT DefS
def stMR (D : MT) : List (List Int) × Int := if mtB D.n D.jd D.m D.A D.M D.V then (match seatR D D.m [] with | some r => (r, 0) | none => ([], 4)) else ([], 1)
end Go.Eng
end

/- panel: both searches find the same. -/
section
namespace Go.Eng
theorem ris_lt {l : Nat → Int} {k : Nat} (h : risB l k = true) : ∀ (j i : Nat), i < j → j < k → l i < l j := by
  intro j
  induction j with
  | zero => intro i hi; omega
  | succ j ih =>
    intro i hi hj
    have h1 := allU_iff.1 h (j + 1) hj
    simp only [Nat.add_sub_cancel, Bool.or_eq_true, decide_eq_true_eq] at h1
    have h2 : l j < l (j + 1) := by
      rcases h1 with h1 | h1
      · omega
      · exact h1
    rcases Nat.lt_or_ge i j with h3 | h3
    · have := ih i h3 (by omega); omega
    · obtain rfl : i = j := by omega
      exact h2
theorem cnL_0 {l : Nat → Int} {x : Int} : ∀ {k : Nat}, (∀ a, a < k → l a ≠ x) → cnL l x k = 0
  | 0, _ => rfl
  | k + 1, h => by
    rw [cnL, cnL_0 (k := k) (fun a ha => h a (by omega)), if_neg (h k (by omega))]; rfl
theorem cnL_1 {l : Nat → Int} : ∀ {k : Nat}, (∀ j i, i < j → j < k → l i < l j) → ∀ i, i < k → cnL l (l i) k = 1
  | 0, _, i, hi => by omega
  | k + 1, h, i, hi => by
    rcases Nat.lt_or_ge i k with h3 | h3
    · rw [cnL, cnL_1 (k := k) (fun j i h1 h2 => h j i h1 (by omega)) i h3, if_neg (by have := h k i h3 (by omega); omega)]; rfl
    · obtain rfl : i = k := by omega
      rw [cnL, cnL_0 (fun a ha => by have := h i a ha (by omega); omega), if_pos rfl]; rfl
theorem cnL_congr {l l' : Nat → Int} {x : Int} : ∀ {k : Nat}, (∀ a, a < k → l a = l' a) → cnL l x k = cnL l' x k
  | 0, _ => rfl
  | k + 1, h => by rw [cnL, cnL, cnL_congr (k := k) (fun a ha => h a (by omega)), h k (by omega)]
theorem tmS_congr {M M' : Nat → Nat} {V V' : Nat → Nat → Nat → Int} {x : Int} : ∀ {i : Nat}, (∀ e, e < i → M e = M' e ∧ ∀ a, V e a 0 = V' e a 0) → tmS M V x i = tmS M' V' x i
  | 0, _ => rfl
  | i + 1, h => by rw [tmS, tmS, tmS_congr (i := i) (fun e he => h e (by omega)), (h i (by omega)).1, cnL_congr (fun a _ => (h i (by omega)).2 a)]
theorem addT_cn (T : Nat → Int) (l : List Int) (j : Nat) : ∀ k, k ≤ l.length → addT T (l.take k) j = T j + cnL (fun a => l.getD a 0) (j : Int) k
  | 0, _ => by simp [addT, cnL]
  | k + 1, h => by
    have hk : k < l.length := by omega
    have hg : l.getD k 0 = l[k] := by simp [List.getD, hk]
    rw [List.take_succ_eq_append_getElem hk, addT_snoc, cnL, hg]
    have := addT_cn T l j k (by omega)
    simp only [this]
    by_cases hx : (j : Int) = l[k]
    · rw [if_pos hx, if_pos hx.symm]; omega
    · rw [if_neg hx, if_neg (fun h => hx h.symm)]; omega
theorem addT_all (T : Nat → Int) (l : List Int) (j : Nat) : addT T l j = T j + cnL (fun a => l.getD a 0) (j : Int) l.length := by
  have := addT_cn T l j l.length (Nat.le_refl _)
  rwa [List.take_length] at this
theorem lnF_lt {S : List (List Int)} {l : List Int} {e : Nat} (h : e < S.length) : lnF (S ++ [l]) e = lnF S e ∧ ∀ a, vlF (S ++ [l]) e a 0 = vlF S e a 0 := by
  have : (S ++ [l]).getD e [] = S.getD e [] := by simp [List.getD, List.getElem?_append_left h]
  exact ⟨by simp only [lnF, this], fun a => by simp only [vlF, this]⟩
theorem lnF_at {S : List (List Int)} {l : List Int} : lnF (S ++ [l]) S.length = l.length ∧ ∀ a, vlF (S ++ [l]) S.length a 0 = l.getD a 0 := by
  have : (S ++ [l]).getD S.length [] = l := by simp [List.getD]
  exact ⟨by simp only [lnF, this], fun a => by simp only [vlF, this]⟩
/-- How often each judge judges in some lists. -/
def tmT (S : List (List Int)) : Nat → Int := fun j => tmS (lnF S) (vlF S) (j : Int) S.length
theorem tmT_snoc (S : List (List Int)) (l : List Int) : tmT (S ++ [l]) = addT (tmT S) l := by
  funext j
  rw [addT_all]
  simp only [tmT, List.length_append, List.length_singleton, tmS]
  rw [tmS_congr (fun e he => lnF_lt he), lnF_at.1, cnL_congr (fun a _ => lnF_at.2 a)]
theorem allU_congr {p q : Nat → Bool} {n : Nat} (h : ∀ i, i < n → p i = q i) : allU p n = allU q n := by
  induction n with
  | zero => rfl
  | succ n ih => rw [allU, allU, ih (fun i hi => h i (by omega)), h n (by omega)]
theorem er_eq {D : MT} {S : List (List Int)} {l : List Int} (hT : ∀ j, j < D.n → tmT S j ≤ D.jd j 2) (hl : numOk D.n l) :
    erR D S.length (lnF (S ++ [l])) (vlF (S ++ [l])) = erM D S.length (tmT S) (fun i => l.getD i 0) l.length := by
  have e1 : (fun a => vlF (S ++ [l]) S.length a 0) = fun i => l.getD i 0 := funext fun a => lnF_at.2 a
  simp only [erR, erM, lnF_at.1, e1]
  cases h1 : risB (fun i => l.getD i 0) l.length with
  | false => rfl
  | true =>
  have e2 : limR D S.length (lnF (S ++ [l])) (vlF (S ++ [l])) = limB D (tmT S) (fun i => l.getD i 0) l.length := by
    simp only [limR, limB, lnF_at.1]
    refine allU_congr fun i hi => ?_
    rw [lnF_at.2 i]
    have hg : l.getD i 0 = l[i] := by simp [List.getD, hi]
    have hm := hl _ (List.getElem_mem hi)
    rw [← hg] at hm
    obtain ⟨y, hy⟩ : ∃ y : Nat, l.getD i 0 = (y : Int) := ⟨(l.getD i 0).toNat, by omega⟩
    have h2 : tmS (lnF (S ++ [l])) (vlF (S ++ [l])) (l.getD i 0) (S.length + 1) = tmT S y + 1 := by
      rw [tmS, tmS_congr (fun e he => lnF_lt he), lnF_at.1, cnL_congr (fun a _ => lnF_at.2 a), cnL_1 (l := fun i => l.getD i 0) (fun j i h1' h2' => ris_lt h1 j i h1' h2') i hi, hy]
      rfl
    have hb := hT y (by omega)
    have e3 : decide (D.jd y 2 < tmT S y + 1) = decide (tmT S y = D.jd y 2) := by
      by_cases h3 : tmT S y = D.jd y 2
      · rw [decide_eq_true h3, decide_eq_true (by omega)]
      · rw [decide_eq_false h3, decide_eq_false (by omega)]
    rw [hy] at h2
    simp only [h2, hy, Int.toNat_natCast, e3]
  rw [e2]
theorem erM_lim {D : MT} {c : Nat} {T : Nat → Int} {l : List Int} (h : erM D c T (fun i => l.getD i 0) l.length = 0) (hl : numOk D.n l) (hT : ∀ j, j < D.n → T j ≤ D.jd j 2) : ∀ j, j < D.n → addT T l j ≤ D.jd j 2 := by
  intro j hj
  simp only [erM] at h
  cases h1 : risB (fun i => l.getD i 0) l.length with
  | false => rw [h1, if_neg Bool.false_ne_true] at h; exact absurd h (by decide)
  | true =>
  have h5 : limB D T (fun i => l.getD i 0) l.length = true := by
    cases hx : limB D T (fun i => l.getD i 0) l.length with
    | true => rfl
    | false =>
      rw [hx] at h
      revert h
      split <;> (try split) <;> (try split) <;> (try split) <;> simp
  rw [addT_all]
  have hb := hT j hj
  by_cases hx : ∃ i, i < l.length ∧ l.getD i 0 = (j : Int)
  · obtain ⟨i, hi, hij⟩ := hx
    have h6 := allU_iff.1 h5 i hi
    simp only [hij, Int.toNat_natCast, Bool.not_eq_true', decide_eq_false_iff_not] at h6
    have h7 := cnL_1 (l := fun i => l.getD i 0) (fun j i h1' h2' => ris_lt h1 j i h1' h2') i hi
    simp only [hij] at h7
    rw [h7]; omega
  · rw [cnL_0 (fun a ha he => hx ⟨a, ha, he⟩)]; omega
theorem seat_eq {D : MT} : ∀ (k : Nat) (S : List (List Int)), S.length + k = D.m → (∀ j, j < D.n → tmT S j ≤ D.jd j 2) → seatR D k S = (seatM D k (tmT S)).map fun r => S ++ r.2
  | 0, S, hS, hT => by simp [seatR, seatM]
  | k + 1, S, hS, hT => by
    have hc : D.m - (k + 1) = S.length := by omega
    simp only [seatR, seatM, hc]
    have key : ∀ R : List (List Int), (∀ l ∈ R, numOk D.n l) → (R.findSome? fun (l : List Int) => if erR D S.length (lnF (S ++ [l])) (vlF (S ++ [l])) = 0 then seatR D k (S ++ [l]) else none) =
        (match R.find? fun (l : List Int) => decide (erM D S.length (tmT S) (fun i => l.getD i 0) l.length = 0) && (seatM D k (addT (tmT S) l)).isSome with
          | some l => match seatM D k (addT (tmT S) l) with
            | some r => some (r.1, l :: r.2)
            | none => none
          | none => none).map fun (r : (Nat → Int) × List (List Int)) => S ++ r.2 := by
      intro R
      induction R with
      | nil => intro _; rfl
      | cons l R ih =>
        intro hR
        have hl := hR l (List.mem_cons_self ..)
        have ih' := ih (fun x hx => hR x (List.mem_cons_of_mem _ hx))
        rw [List.findSome?_cons, List.find?_cons, er_eq hT hl]
        by_cases hE : erM D S.length (tmT S) (fun i => l.getD i 0) l.length = 0
        · have h2 := seat_eq (D := D) k (S ++ [l]) (by rw [List.length_append, List.length_singleton]; omega) (by rw [tmT_snoc]; exact erM_lim hE hl hT)
          rw [if_pos hE, decide_eq_true hE, h2, tmT_snoc]
          cases hq : seatM D k (addT (tmT S) l) with
          | some r => simp [hq]
          | none => simpa using ih'
        · rw [if_neg hE, decide_eq_false hE]
          simpa using ih'
    exact key _ (fun l hl => rz_num hl)
theorem stM_eq {D : MT} (hq : mtB D.n D.jd D.m D.A D.M D.V = true → ∀ j, j < D.n → 0 ≤ D.jd j 2) : stMR D = stM D := by
  unfold stMR stM
  cases h : mtB D.n D.jd D.m D.A D.M D.V with
  | false => rfl
  | true =>
    have hz : tmT [] = fun _ => (0 : Int) := rfl
    have := seat_eq (D := D) D.m [] (by simp) (by rw [hz]; exact hq h)
    rw [hz] at this
    simp only [if_true]
    rw [this]
    cases seatM D D.m (fun _ => 0) <;> simp
end Go.Eng
end

/- panel: what marks are. -/
section
namespace Go.Eng
open Go Go.RowKit Go.Proofs
set_option maxRecDepth 100000
set_option maxHeartbeats 4000000
attribute [local irreducible] OwnT DefS
/-- Not longer than most, and no row longer than long. -/
def lgB (m : Nat) (M : Nat → Nat) (most long : Int) : Bool := !(decide ((m : Int) ≤ most) && allU (fun i => decide ((M i : Int) ≤ long)) m)
def longerBase : BaseF := fun args => match args with
  | [.row m sz_A f_A, .int .i64 most, .int .i64 long] => some ((sz_A = 1 ∧ NestR m 1 0 1 f_A) ∧ (most ≤ 1000), .bool (lgB m (nsM 0 f_A) most long))
  | _ => none
theorem longer_eq (m : Nat) (sz_A : Nat) (f_A : Nat → Nat → SV) (most : Int) (long : Int) : longerBase [.row m sz_A f_A, .int .i64 most, .int .i64 long] = some ((sz_A = 1 ∧ NestR m 1 0 1 f_A) ∧ (most ≤ 1000), .bool (lgB m (nsM 0 f_A) most long)) := rfl
theorem longer_base : Base Try.prog 12 longerBase := by
  intro args p v hq hp
  unfold longerBase at hq
  split at hq
  rotate_left
  · cases hq
  rename_i m sz_A f_A most long
  cases hq
  obtain ⟨⟨rfl, i_A⟩, pre⟩ := hp
  refine base_of (C := cx [] [] [] [] none) (cx_ok trivial trivial) rfl (g := 12) (fn := Try.f12)
    (args' := [.row m 1 (nestF 0 1 (nsA f_A) (nsM 0 f_A) (nsV 0 f_A)), .int .i64 most, .int .i64 long]) (fn_12) rfl 1000 (by
    simp only [BdL, Bd, and_self, and_true, true_and]
    exact (fun i j hi hj => nest_bd i_A i j hi hj)) ⟨SameD.nest i_A, SameD.rfl' _, SameD.rfl' _, trivial⟩ ?_
  generalize nsA f_A = A at *
  generalize nsM 0 f_A = M at *
  generalize nsV 0 f_A = V at *
  simp only [nestF_eq, nestR_lit, nsM_lit, nsV_lit, Try.f12, go_sem, ↓reduceIte, Nat.reduceAdd, Nat.reduceSub, Nat.reduceMul, Nat.reduceEqDiff, Nat.reduceLT, Nat.reduceLeDiff, Int.reduceToNat, Int.reduceLE, Int.reduceLT, Int.reduceEq, Int.reduceNeg, reduceCtorEq]
  refine loop_ofH { i : Nat // i ≤ m ∧ ∀ j, j < i → (fun i => decide ((M i : Int) ≤ long)) j = true } (fun i => [(7, .int .i64 (i.1 : Int)), (2, .int .i64 long), (1, .int .i64 most), (0, .row m 1 (nestF 0 1 A M V))]) (fun h _ => h) (fun i => m - i.1) (fun _ => ⟨rfl, rfl⟩) ⟨0, by omega, by omega⟩ (by (apply sub_of <;> simp only [go_sem, ↓reduceIte, Nat.reduceAdd, Nat.reduceSub, Nat.reduceMul, Nat.reduceEqDiff, Nat.reduceLT, Nat.reduceLeDiff, Int.reduceToNat, Int.reduceLE, Int.reduceLT, Int.reduceEq, Int.reduceNeg, reduceCtorEq] <;> (try simp [catF]) <;> (try exact fun j _ => Bd_nth (by simp [BdL, Bd]) j) <;> (try exact bd_setL (by simp [bdAs, BdL, Bd])) <;> (try exact nestF_bd _ _ _ _ _ _ _ _ _)) <;> ((repeat' refine And.intro ?_ ?_) <;> first | trivial | rfl | exact fun _ _ _ _ => trivial | exact nestF_bd _ _ _ _ _ _ _ _ _ | exact fun i hi => nestF_bd _ _ _ _ _ _ _ _ _ i 0 hi Nat.zero_lt_one)) ?_
  rintro ⟨i, hi, h3⟩
  simp only [nestF_eq, nestR_lit, nsM_lit, nsV_lit, Try.f12, go_sem, ↓reduceIte, Nat.reduceAdd, Nat.reduceSub, Nat.reduceMul, Nat.reduceEqDiff, Nat.reduceLT, Nat.reduceLeDiff, Int.reduceToNat, Int.reduceLE, Int.reduceLT, Int.reduceEq, Int.reduceNeg, reduceCtorEq]
  refine ⟨fun e1 => ⟨fun e2 => ⟨⟨by omega, by simpa using e1⟩, fun e3 => ?_, fun e3 => ?_⟩, fun e2 => ?_⟩, fun e1 => ?_⟩
  · simp only [decide_eq_true_eq] at e1 e3
    rw [lgB, allU_false (i := i) (by omega) (by simp; omega)]; simp
  · simp only [decide_eq_true_eq] at e1 e2
    simp only [decide_eq_false_iff_not] at e3
    have im : i < m := by omega
    refine ⟨⟨i + 1, by omega, below h3 (by simp; omega)⟩, by simp only []; omega, ?_⟩
    apply sub_of <;> simp only [wrap_s (show i < 1001 by omega) (by omega), go_sem, ↓reduceIte, Nat.reduceAdd, Nat.reduceSub, Nat.reduceMul, Nat.reduceEqDiff, Nat.reduceLT, Nat.reduceLeDiff, Int.reduceToNat, Int.reduceLE, Int.reduceLT, Int.reduceEq, Int.reduceNeg, reduceCtorEq] <;> ((repeat' refine And.intro ?_ ?_) <;> first | trivial | rfl | exact fun _ _ _ _ => trivial | exact nestF_bd _ _ _ _ _ _ _ _ _ | exact fun i hi => nestF_bd _ _ _ _ _ _ _ _ _ i 0 hi Nat.zero_lt_one)
  · simp only [decide_eq_true_eq] at e1
    simp only [decide_eq_false_iff_not] at e2
    rw [lgB, decide_eq_false (p := (m : Int) ≤ most) (by omega), decide_eq_true (by omega)]; rfl
  · simp only [decide_eq_false_iff_not] at e1
    obtain rfl : i = m := by omega
    rw [lgB, allU_true h3]
    by_cases h : (i : Int) ≤ most
    · rw [decide_eq_true h, decide_eq_false (by omega)]; rfl
    · rw [decide_eq_false h, decide_eq_true (by omega)]; rfl
end Go.Eng
end

/- panel: form, equal lists, large meetings. -/
section
namespace Go.Eng
open Go Go.RowKit Go.Proofs
set_option maxRecDepth 100000
set_option maxHeartbeats 4000000
attribute [local irreducible] OwnT DefS
theorem spl_mk {b : Bool} {P Q : Prop} (h1 : b = true → P) (h2 : b = false → Q) : spl b P Q := by
  cases b
  · simpa [spl] using h2 rfl
  · simpa [spl] using h1 rfl
def foB (n m q : Nat) (K : Nat → Nat) (W : Nat → Nat → Nat → Int) : Bool := allU (fun i => allU (fun a => in3 (W i a 0) 0 ((n : Int) - 1)) (K i)) q && decide (q = m)
def laB (n m : Nat) (M : Nat → Nat) : Bool := !allU (fun i => decide (M i ≤ 20) || decide (8 ≤ i)) m || (decide (10 < n) || decide (6 < m))
def largeBase : BaseF := fun args => match args with
  | [.agg [.row n sz_jd f_jd, .row m sz_A f_A]] => some ((sz_jd = 3 ∧ IntR n 3 f_jd) ∧ (sz_A = 3 ∧ NestR m 3 0 1 f_A), .bool (laB n m (nsM 0 f_A)))
  | _ => none
theorem large_eq (n : Nat) (sz_jd : Nat) (f_jd : Nat → Nat → SV) (m : Nat) (sz_A : Nat) (f_A : Nat → Nat → SV) : largeBase [.agg [.row n sz_jd f_jd, .row m sz_A f_A]] = some ((sz_jd = 3 ∧ IntR n 3 f_jd) ∧ (sz_A = 3 ∧ NestR m 3 0 1 f_A), .bool (laB n m (nsM 0 f_A))) := rfl
theorem large_base : Base Try.prog 11 largeBase := by
  intro args p v hq hp
  unfold largeBase at hq
  split at hq
  rotate_left
  · cases hq
  rename_i n sz_jd f_jd m sz_A f_A
  cases hq
  obtain ⟨⟨rfl, i_jd⟩, ⟨rfl, i_A⟩⟩ := hp
  refine base_of (C := cx [] [] [] [] none) (cx_ok trivial trivial) rfl (g := 11) (fn := Try.f11)
    (args' := [.agg [.row n 3 (rowF .i64 (ivf f_jd)), .row m 3 (nestF 0 1 (nsA f_A) (nsM 0 f_A) (nsV 0 f_A))]]) (fn_11) rfl 1000 (by
    simp only [BdL, Bd, and_self, and_true, true_and]
    exact ⟨(fun i j hi hj => by rw [i_jd i j hi hj]; trivial), (fun i j hi hj => nest_bd i_A i j hi hj)⟩) ⟨SameD.agg ⟨SameD.int i_jd, SameD.nest i_A, trivial⟩, trivial⟩ ?_
  generalize ivf f_jd = jd
  generalize nsA f_A = A
  generalize nsM 0 f_A = M
  generalize nsV 0 f_A = V
  simp only [rowF_eq]
  simp only [nestF_eq, nestR_lit, nsM_lit, nsV_lit, Try.f11, go_sem, ↓reduceIte, Nat.reduceAdd, Nat.reduceSub, Nat.reduceMul, Nat.reduceEqDiff, Nat.reduceLT, Nat.reduceLeDiff, Int.reduceToNat, Int.reduceLE, Int.reduceLT, Int.reduceEq, Int.reduceNeg, reduceCtorEq]
  refine loop_ofH { i : Nat // i ≤ m ∧ i ≤ 8 ∧ ∀ j, j < i → (fun i => decide (M i ≤ 20) || decide (8 ≤ i)) j = true } (fun i => [(3, .int .i64 (i.1 : Int)), (1, .ptr 0 0)]) (fun h _ => h) (fun i => m - i.1) (fun _ => ⟨rfl, rfl⟩) ⟨0, by omega, by omega, by omega⟩ (by (apply sub_of <;> simp only [go_sem, ↓reduceIte, Nat.reduceAdd, Nat.reduceSub, Nat.reduceMul, Nat.reduceEqDiff, Nat.reduceLT, Nat.reduceLeDiff, Int.reduceToNat, Int.reduceLE, Int.reduceLT, Int.reduceEq, Int.reduceNeg, reduceCtorEq] <;> (try simp [catF])); all_goals first | exact fun i _ => nestF_bd1 _ _ _ _ _ _ _ _ _ | exact fun i j _ _ => nestF_bd1 _ _ _ _ _ _ _ i j | trace_state) ?_
  rintro ⟨i, hi, hi8, h3⟩
  by_cases ik : i < m ∧ i < 8
  · have e1 : decide ((i : Int) < (m : Int)) = true := decide_eq_true (by omega)
    have e8 : decide ((i : Int) < 8) = true := decide_eq_true (by omega)
    by_cases c1 : M i ≤ 20
    · have d1 : decide ((20 : Int) < (M i : Int)) = false := decide_eq_false (by omega)
      simp only [e1, e8, d1, nestF_eq, nestR_lit, nsM_lit, nsV_lit, Try.f11, go_sem, ↓reduceIte, Nat.reduceAdd, Nat.reduceSub, Nat.reduceMul, Nat.reduceEqDiff, Nat.reduceLT, Nat.reduceLeDiff, Int.reduceToNat, Int.reduceLE, Int.reduceLT, Int.reduceEq, Int.reduceNeg, reduceCtorEq]
      refine ⟨⟨by omega, by omega⟩, ⟨i + 1, by omega, by omega, below h3 (by simp [c1])⟩, by simp only []; omega, ?_⟩
      apply sub_of <;> simp only [wrap_s (show i < 1000 by omega) (by omega), go_sem, ↓reduceIte, Nat.reduceAdd, Nat.reduceSub, Nat.reduceMul, Nat.reduceEqDiff, Nat.reduceLT, Nat.reduceLeDiff, Int.reduceToNat, Int.reduceLE, Int.reduceLT, Int.reduceEq, Int.reduceNeg, reduceCtorEq] <;> (try simp)
      all_goals first | exact fun i _ => nestF_bd1 _ _ _ _ _ _ _ _ _ | exact fun i j _ _ => nestF_bd1 _ _ _ _ _ _ _ i j | exact ⟨fun i j _ _ => nestF_bd1 _ _ _ _ _ _ _ i j, fun i _ => nestF_bd1 _ _ _ _ _ _ _ _ _⟩ | exact ⟨fun i _ => nestF_bd1 _ _ _ _ _ _ _ _ _, fun i _ => nestF_bd1 _ _ _ _ _ _ _ _ _⟩ | trace_state
    · have d1 : decide ((20 : Int) < (M i : Int)) = true := decide_eq_true (by omega)
      simp only [e1, e8, d1, nestF_eq, nestR_lit, nsM_lit, nsV_lit, Try.f11, go_sem, ↓reduceIte, Nat.reduceAdd, Nat.reduceSub, Nat.reduceMul, Nat.reduceEqDiff, Nat.reduceLT, Nat.reduceLeDiff, Int.reduceToNat, Int.reduceLE, Int.reduceLT, Int.reduceEq, Int.reduceNeg, reduceCtorEq]
      rw [laB, allU_false (p := fun i => decide (M i ≤ 20) || decide (8 ≤ i)) ik.1 (by simp [c1]; omega)]
      exact ⟨⟨by omega, by omega⟩, rfl⟩
  have hall : allU (fun i => decide (M i ≤ 20) || decide (8 ≤ i)) m = true := allU_true fun j hj => by
    by_cases h : j < i
    · exact h3 j h
    · simp only [Bool.or_eq_true, decide_eq_true_eq]; omega
  rcases Nat.lt_or_ge i m with im | im
  · have e1 : decide ((i : Int) < (m : Int)) = true := decide_eq_true (by omega)
    have e8 : decide ((i : Int) < 8) = false := decide_eq_false (by omega)
    simp only [e1, e8, nestF_eq, nestR_lit, nsM_lit, nsV_lit, Try.f11, go_sem, ↓reduceIte, Nat.reduceAdd, Nat.reduceSub, Nat.reduceMul, Nat.reduceEqDiff, Nat.reduceLT, Nat.reduceLeDiff, Int.reduceToNat, Int.reduceLE, Int.reduceLT, Int.reduceEq, Int.reduceNeg, reduceCtorEq]
    rw [laB, hall]
    have x1 : decide ((10 : Int) < (n : Int)) = decide (10 < n) := decide_eq_decide.2 (by omega)
    have x2 : decide ((6 : Int) < (m : Int)) = decide (6 < m) := decide_eq_decide.2 (by omega)
    rw [x1, x2]
    exact spl_mk (fun h => by rw [h]; rfl) (fun h => by rw [h]; rfl)
  · have e1 : decide ((i : Int) < (m : Int)) = false := decide_eq_false (by omega)
    simp only [e1, nestF_eq, nestR_lit, nsM_lit, nsV_lit, Try.f11, go_sem, ↓reduceIte, Nat.reduceAdd, Nat.reduceSub, Nat.reduceMul, Nat.reduceEqDiff, Nat.reduceLT, Nat.reduceLeDiff, Int.reduceToNat, Int.reduceLE, Int.reduceLT, Int.reduceEq, Int.reduceNeg, reduceCtorEq]
    rw [laB, hall]
    have x1 : decide ((10 : Int) < (n : Int)) = decide (10 < n) := decide_eq_decide.2 (by omega)
    have x2 : decide ((6 : Int) < (m : Int)) = decide (6 < m) := decide_eq_decide.2 (by omega)
    rw [x1, x2]
    exact spl_mk (fun h => by rw [h]; rfl) (fun h => by rw [h]; rfl)
end Go.Eng
end

/- panel: Check. -/
section
namespace Go.Eng
open Go Go.RowKit Go.Proofs
set_option maxRecDepth 100000
set_option maxHeartbeats 4000000
attribute [local irreducible] OwnT DefS
def fs0 (e : Nat → Int) : Nat → Nat → Nat × Int
  | 0, i => (i, 0)
  | r + 1, i => if e i = 0 then fs0 e r (i + 1) else (i, e i)
def chM (D : MT) (q : Nat) (K : Nat → Nat) (W : Nat → Nat → Nat → Int) : Nat × Int :=
  if mtB D.n D.jd D.m D.A D.M D.V then if foB D.n D.m q K W then fs0 (fun i => erR D i K W) q 0 else (0, 2) else (0, 1)
theorem chM_1 {D : MT} {q : Nat} {K : Nat → Nat} {W : Nat → Nat → Nat → Int} (h : mtB D.n D.jd D.m D.A D.M D.V = false) : chM D q K W = (0, 1) := by rw [chM, h]; rfl
theorem chM_2 {D : MT} {q : Nat} {K : Nat → Nat} {W : Nat → Nat → Nat → Int} (h : mtB D.n D.jd D.m D.A D.M D.V = true) (h2 : foB D.n D.m q K W = false) : chM D q K W = (0, 2) := by rw [chM, h, h2]; rfl
theorem chM_3 {D : MT} {q : Nat} {K : Nat → Nat} {W : Nat → Nat → Nat → Int} (h : mtB D.n D.jd D.m D.A D.M D.V = true) (h2 : foB D.n D.m q K W = true) : chM D q K W = fs0 (fun i => erR D i K W) q 0 := by rw [chM, h, h2]; rfl
theorem fs0_step {e : Nat → Int} {q i : Nat} (h : i < q) : fs0 e (q - i) i = if e i = 0 then fs0 e (q - (i + 1)) (i + 1) else (i, e i) := by
  rw [show q - i = (q - (i + 1)) + 1 by omega, fs0]
theorem foB_iff {n m q : Nat} {K : Nat → Nat} {W : Nat → Nat → Nat → Int} (h : foB n m q K W = true) : q = m ∧ ∀ i a, i < q → a < K i → 0 ≤ W i a 0 ∧ W i a 0 < (n : Int) := by
  simp only [foB, Bool.and_eq_true, decide_eq_true_eq] at h
  refine ⟨h.2, fun i a hi ha => ?_⟩
  have h1 := in3_iff.1 (allU_iff.1 (allU_iff.1 h.1 i hi) a ha)
  omega
end Go.Eng
end

/- panel: Check of the program. -/
section
namespace Go.Eng
open Go Go.RowKit Go.Proofs
set_option maxRecDepth 100000
set_option maxHeartbeats 4000000
attribute [local irreducible] OwnT DefS
theorem er_eqF {D : MT} {c : Nat} {K : Nat → Nat} {W : Nat → Nat → Nat → Int} (hT : ∀ j, j < D.n → tmS K W (j : Int) c ≤ D.jd j 2) (hl : ∀ a, a < K c → 0 ≤ W c a 0 ∧ W c a 0 < (D.n : Int)) :
    erR D c K W = erM D c (fun j => tmS K W (j : Int) c) (fun a => W c a 0) (K c) := by
  simp only [erR, erM]
  cases h1 : risB (fun a => W c a 0) (K c) with
  | false => rfl
  | true =>
  have e2 : limR D c K W = limB D (fun j => tmS K W (j : Int) c) (fun a => W c a 0) (K c) := by
    simp only [limR, limB]
    refine allU_congr fun i hi => ?_
    have hm := hl i hi
    obtain ⟨y, hy⟩ : ∃ y : Nat, W c i 0 = (y : Int) := ⟨(W c i 0).toNat, by omega⟩
    have h2 : tmS K W (W c i 0) (c + 1) = tmS K W (y : Int) c + 1 := by
      rw [tmS, cnL_1 (l := fun a => W c a 0) (fun j i h1' h2' => ris_lt h1 j i h1' h2') i hi, hy]
    have hb := hT y (by omega)
    have e3 : decide (D.jd y 2 < tmS K W (y : Int) c + 1) = decide (tmS K W (y : Int) c = D.jd y 2) := by
      by_cases h3 : tmS K W (y : Int) c = D.jd y 2
      · rw [decide_eq_true h3, decide_eq_true (by omega)]
      · rw [decide_eq_false h3, decide_eq_false (by omega)]
    rw [hy] at h2
    simp only [h2, hy, Int.toNat_natCast, e3]
  rw [e2]
theorem erM_limF {D : MT} {c : Nat} {T : Nat → Int} {l : Nat → Int} {k : Nat} (h : erM D c T l k = 0) (hT : ∀ j, j < D.n → T j ≤ D.jd j 2) : ∀ j, j < D.n → T j + cnL l (j : Int) k ≤ D.jd j 2 := by
  intro j hj
  simp only [erM] at h
  cases h1 : risB l k with
  | false => rw [h1, if_neg Bool.false_ne_true] at h; exact absurd h (by decide)
  | true =>
  have h5 : limB D T l k = true := by
    cases hx : limB D T l k with
    | true => rfl
    | false =>
      rw [hx] at h
      revert h
      split <;> (try split) <;> (try split) <;> (try split) <;> simp
  have hb := hT j hj
  by_cases hx : ∃ i, i < k ∧ l i = (j : Int)
  · obtain ⟨i, hi, hij⟩ := hx
    have h6 := allU_iff.1 h5 i hi
    simp only [hij, Int.toNat_natCast, Bool.not_eq_true', decide_eq_false_iff_not] at h6
    have h7 := cnL_1 (l := l) (fun j i h1' h2' => ris_lt h1 j i h1' h2') i hi
    rw [hij] at h7
    rw [h7]; omega
  · rw [cnL_0 (fun a ha he => hx ⟨a, ha, he⟩)]; omega
/-- A row as a list. -/
def rwL (l : Nat → Int) (k : Nat) : List Int := (List.range k).map l
theorem rwL_len (l : Nat → Int) (k : Nat) : (rwL l k).length = k := by simp [rwL]
theorem rwL_get {l : Nat → Int} {k i : Nat} (h : i < k) : (rwL l k).getD i 0 = l i := by simp [rwL, List.getD, h]
theorem rwL_addT (T : Nat → Int) (l : Nat → Int) (k : Nat) (j : Nat) : addT T (rwL l k) j = T j + cnL l (j : Int) k := by
  rw [addT_all, rwL_len, cnL_congr (fun a ha => rwL_get ha)]
theorem errF_at {D : MT} (hD : D.Ok) {c : Nat} (hc : c < D.m) (T : Nat → Int) {W : Nat → Nat → Int} {k : Nat} (hk : k ≤ 1000) (hn : ∀ a, a < k → 0 ≤ W a 0 ∧ W a 0 < (D.n : Int)) (B : List Blk) (V : List Vc) :
    CallsS Try.prog 38 [.ptr 1 0, .int .i64 (c : Int), .row k 1 (fun a b => .int .i64 (W a b))] ⟨.live 25 (mtC D) :: .live 78 (.ptr 0 0 :: tC T) :: B, V⟩ (fun o h' => o = .ret (.int .i64 (erM D c T (fun a => W a 0) k)) ∧ h' = ⟨.live 25 (mtC D) :: .live 78 (.ptr 0 0 :: tC T) :: B, V⟩) := by
  have h := errorOf_trim hD hc T (l := fun a => W a 0) (k := k) ⟨by omega, hn⟩
  have h2 := calls_pfx h (by simp [BdL, Bd, tbB]) (by simp only [tbB, bdB]; exact ⟨mtC_bd D _ _, ⟨by simp [Bd], tC_bd T _ _⟩, trivial⟩) trivial (by
    rintro o h' ⟨rfl, rfl⟩
    exact ⟨rfl, rfl, ⟨mtC_bd D _ _, ⟨by simp [Bd, tbB], tC_bd T _ _⟩, trivial⟩, trivial, trivial⟩) B V
  refine calls_congr (args' := [.ptr 1 0, .int .i64 (c : Int), .row k 1 (fun i _ => .int .i64 (W i 0))]) ⟨SameD.rfl' _, SameD.rfl' _, SameD.rowD fun i j _ hj => (by have hj0 : j = 0 := (by omega); subst hj0; exact SameD.rfl' _), trivial⟩ (calls_mono ?_ h2)
  rintro o h' ⟨o0, h0', ⟨rfl, rfl⟩, rfl, rfl⟩
  exact ⟨rfl, rfl⟩
theorem sitF_at {T : Nat → Int} {c : Int} (hc : c ≤ 1000000) (hT : ∀ j, 0 ≤ T j ∧ T j ≤ c) {W : Nat → Nat → Int} {k : Nat} (hk : k ≤ 1000) (hn : ∀ a, a < k → 0 ≤ W a 0 ∧ W a 0 < 8) (D : MT) (B : List Blk) (V : List Vc) :
    CallsS Try.prog 39 [.ptr 1 0, .row k 1 (fun a b => .int .i64 (W a b))] ⟨.live 25 (mtC D) :: .live 78 (.ptr 0 0 :: tC T) :: B, V⟩ (fun o h' => o = .ret (.tup []) ∧ h' = ⟨.live 25 (mtC D) :: .live 78 (.ptr 0 0 :: tC (fun j => T j + cnL (fun a => W a 0) (j : Int) k)) :: B, V⟩) := by
  have h := sit_at hc hT (l := rwL (fun a => W a 0) k) (by rw [rwL_len]; exact hk) (fun x hx => by
    simp only [rwL, List.mem_map, List.mem_range] at hx
    obtain ⟨a, ha, rfl⟩ := hx
    exact hn a ha) D B V
  have e : addT T (rwL (fun a => W a 0) k) = fun j => T j + cnL (fun a => W a 0) (j : Int) k := funext fun j => rwL_addT T _ k j
  rw [e, rwL_len] at h
  refine calls_congr (args' := [.ptr 1 0, .row k 1 (fun i _ => .int .i64 ((rwL (fun a => W a 0) k).getD i 0))]) ⟨SameD.rfl' _, SameD.rowD fun i j hi hj => (by have hj0 : j = 0 := (by omega); subst hj0; rw [rwL_get hi]; exact SameD.rfl' _), trivial⟩ h
def checkBase : BaseF := fun args => match args with
  | [.agg [.row n sz_jd f_jd, .row m sz_A f_A], .row q sz_B f_B] => some ((sz_jd = 3 ∧ IntR n 3 f_jd) ∧ (sz_A = 3 ∧ NestR m 3 0 1 f_A) ∧ (sz_B = 1 ∧ NestR q 1 0 1 f_B) ∧ (n ≤ 1000000 ∧ m ≤ 1000000 ∧ q ≤ 1000 ∧ ∀ i, i < q → (nsM 0 f_B) i ≤ 1000), .tup [.int .i64 ((chM ⟨n, (ivf f_jd), m, (nsA f_A), (nsM 0 f_A), (nsV 0 f_A)⟩ q (nsM 0 f_B) (nsV 0 f_B)).1 : Int), .int .i64 (chM ⟨n, (ivf f_jd), m, (nsA f_A), (nsM 0 f_A), (nsV 0 f_A)⟩ q (nsM 0 f_B) (nsV 0 f_B)).2])
  | _ => none
theorem check_eq (n : Nat) (sz_jd : Nat) (f_jd : Nat → Nat → SV) (m : Nat) (sz_A : Nat) (f_A : Nat → Nat → SV) (q : Nat) (sz_B : Nat) (f_B : Nat → Nat → SV) : checkBase [.agg [.row n sz_jd f_jd, .row m sz_A f_A], .row q sz_B f_B] = some ((sz_jd = 3 ∧ IntR n 3 f_jd) ∧ (sz_A = 3 ∧ NestR m 3 0 1 f_A) ∧ (sz_B = 1 ∧ NestR q 1 0 1 f_B) ∧ (n ≤ 1000000 ∧ m ≤ 1000000 ∧ q ≤ 1000 ∧ ∀ i, i < q → (nsM 0 f_B) i ≤ 1000), .tup [.int .i64 ((chM ⟨n, (ivf f_jd), m, (nsA f_A), (nsM 0 f_A), (nsV 0 f_A)⟩ q (nsM 0 f_B) (nsV 0 f_B)).1 : Int), .int .i64 (chM ⟨n, (ivf f_jd), m, (nsA f_A), (nsM 0 f_A), (nsV 0 f_A)⟩ q (nsM 0 f_B) (nsV 0 f_B)).2]) := rfl
theorem check_base : Base Try.prog 16 checkBase := by
  intro args p v hq hp
  unfold checkBase at hq
  split at hq
  rotate_left
  · cases hq
  rename_i n sz_jd f_jd m sz_A f_A q sz_B f_B
  cases hq
  obtain ⟨⟨rfl, i_jd⟩, ⟨rfl, i_A⟩, ⟨rfl, i_B⟩, pre⟩ := hp
  refine base_of (C := cx [38, 39] [] [(35, isMeetingBase), (44, withinBase)] [] none) (cx_ok trivial ⟨isMeeting_base, within_base, trivial⟩) rfl (g := 16) (fn := Try.f16)
    (args' := [.agg [.row n 3 (rowF .i64 (ivf f_jd)), .row m 3 (nestF 0 1 (nsA f_A) (nsM 0 f_A) (nsV 0 f_A))], .row q 1 (nestF 0 1 (nsA f_B) (nsM 0 f_B) (nsV 0 f_B))]) (fn_16) rfl 1000 (by
    simp only [BdL, Bd, and_self, and_true, true_and]
    exact ⟨⟨(fun i j hi hj => by rw [i_jd i j hi hj]; trivial), (fun i j hi hj => nest_bd i_A i j hi hj)⟩, (fun i j hi hj => nest_bd i_B i j hi hj)⟩) ⟨SameD.agg ⟨SameD.int i_jd, SameD.nest i_A, trivial⟩, SameD.nest i_B, trivial⟩ ?_
  generalize ivf f_jd = jd at *
  generalize nsA f_A = A at *
  generalize nsM 0 f_A = M at *
  generalize nsV 0 f_A = V at *
  generalize nsA f_B = B at *
  generalize nsM 0 f_B = K at *
  generalize nsV 0 f_B = W at *
  simp only [rowF_eq]
  obtain ⟨p1, p2, p3, p4⟩ := pre
  cases c1 : mtB n jd m A M V with
  | false =>
    simp only [c1, mtB_ns, isMeeting_eq, within_eq, nestF_eq, nestR_lit, nsM_lit, nsV_lit, mtB_ns, Try.f45, Try.f72, Try.f41, Try.f42, Try.f71, Try.f43, Try.f16, go_sem, ↓reduceIte, Nat.reduceAdd, Nat.reduceSub, Nat.reduceMul, Nat.reduceEqDiff, Nat.reduceLT, Nat.reduceLeDiff, Int.reduceToNat, Int.reduceLE, Int.reduceLT, Int.reduceEq, Int.reduceNeg, reduceCtorEq]
    rw [chM_1 c1]
    exact ⟨⟨p1, p2⟩, rfl⟩
  | true =>
  have hD := mtB_ok c1
  by_cases c3 : q = m
  rotate_left
  · have e0 : decide ((q : Int) = (m : Int)) = false := decide_eq_false (by omega)
    have c2 : foB n m q K W = false := by rw [foB, decide_eq_false c3, Bool.and_false]
    simp only [c1, e0, mtB_ns, isMeeting_eq, within_eq, nestF_eq, nestR_lit, nsM_lit, nsV_lit, mtB_ns, Try.f45, Try.f72, Try.f41, Try.f42, Try.f71, Try.f43, Try.f16, go_sem, ↓reduceIte, Nat.reduceAdd, Nat.reduceSub, Nat.reduceMul, Nat.reduceEqDiff, Nat.reduceLT, Nat.reduceLeDiff, Int.reduceToNat, Int.reduceLE, Int.reduceLT, Int.reduceEq, Int.reduceNeg, reduceCtorEq]
    rw [chM_2 c1 c2]
    exact ⟨⟨p1, p2⟩, rfl⟩
  have e0 : decide ((q : Int) = (m : Int)) = true := decide_eq_true (by omega)
  simp only [c1, e0, mtB_ns, isMeeting_eq, within_eq, nestF_eq, nestR_lit, nsM_lit, nsV_lit, mtB_ns, Try.f45, Try.f72, Try.f41, Try.f42, Try.f71, Try.f43, Try.f16, go_sem, ↓reduceIte, Nat.reduceAdd, Nat.reduceSub, Nat.reduceMul, Nat.reduceEqDiff, Nat.reduceLT, Nat.reduceLeDiff, Int.reduceToNat, Int.reduceLE, Int.reduceLT, Int.reduceEq, Int.reduceNeg, reduceCtorEq]
  refine ⟨⟨p1, p2⟩, ?_⟩
  refine loop_ofH { i : Nat // i ≤ q ∧ ∀ j, j < i → (fun i => allU (fun a => in3 (W i a 0) 0 ((n : Int) - 1)) (K i)) j = true } (fun i => [(8, .int .i64 (i.1 : Int)), (7, .int .i64 (q : Int)), (6, .row q 1 (nestF 0 1 B K W)), (1, .func 41 [.ptr 0 0]), (0, .row q 1 (nestF 0 1 B K W))]) (fun h _ => h) (fun i => q - i.1) (fun _ => ⟨rfl, rfl⟩) ⟨0, by omega, by omega⟩ (by (apply sub_of <;> simp only [go_sem, ↓reduceIte, Nat.reduceAdd, Nat.reduceSub, Nat.reduceMul, Nat.reduceEqDiff, Nat.reduceLT, Nat.reduceLeDiff, Int.reduceToNat, Int.reduceLE, Int.reduceLT, Int.reduceEq, Int.reduceNeg, reduceCtorEq] <;> (try simp [catF])); all_goals first | exact fun i _ => nestF_bd1 _ _ _ _ _ _ _ _ _ | exact fun i j _ _ => nestF_bd1 _ _ _ _ _ _ _ i j | exact ⟨fun i j _ _ => nestF_bd1 _ _ _ _ _ _ _ i j, fun i _ => nestF_bd1 _ _ _ _ _ _ _ _ _⟩ | exact ⟨fun i _ => nestF_bd1 _ _ _ _ _ _ _ _ _, fun i _ => nestF_bd1 _ _ _ _ _ _ _ _ _⟩ | trace_state) ?_
  rintro ⟨i, hi, h3⟩
  by_cases ik : i < q
  · have e1 : decide ((i : Int) < (q : Int)) = true := decide_eq_true (by omega)
    have hKi := p4 i ik
    have wn : IntKind.i64.wrap ((n : Int) - 1) = (n : Int) - 1 := wrap_id (by omega) (by omega)
    simp only [e1, isMeeting_eq, within_eq, nestF_eq, nestR_lit, nsM_lit, nsV_lit, mtB_ns, Try.f45, Try.f72, Try.f41, Try.f42, Try.f71, Try.f43, Try.f16, go_sem, ↓reduceIte, Nat.reduceAdd, Nat.reduceSub, Nat.reduceMul, Nat.reduceEqDiff, Nat.reduceLT, Nat.reduceLeDiff, Int.reduceToNat, Int.reduceLE, Int.reduceLT, Int.reduceEq, Int.reduceNeg, reduceCtorEq]
    refine ⟨⟨by omega, by omega⟩, ?_⟩
    refine loop_ofH { a : Nat // a ≤ K i ∧ ∀ j, j < a → (fun a => in3 (W i a 0) 0 ((n : Int) - 1)) j = true } (fun a => [(8, .int .i64 (a.1 : Int)), (7, .int .i64 (K i : Int)), (6, .row (K i) 1 (fun a b => .int .i64 (W i a b))), (1, .func 43 [.ptr 0 0]), (0, .row (K i) 1 (fun a b => .int .i64 (W i a b)))]) (fun h _ => h) (fun a => K i - a.1) (fun _ => ⟨rfl, rfl⟩) ⟨0, by omega, by omega⟩ (by (apply sub_of <;> simp only [go_sem, ↓reduceIte, Nat.reduceAdd, Nat.reduceSub, Nat.reduceMul, Nat.reduceEqDiff, Nat.reduceLT, Nat.reduceLeDiff, Int.reduceToNat, Int.reduceLE, Int.reduceLT, Int.reduceEq, Int.reduceNeg, reduceCtorEq] <;> (try simp [catF])); all_goals first | exact fun i _ => nestF_bd1 _ _ _ _ _ _ _ _ _ | exact fun i j _ _ => nestF_bd1 _ _ _ _ _ _ _ i j | exact ⟨fun i j _ _ => nestF_bd1 _ _ _ _ _ _ _ i j, fun i _ => nestF_bd1 _ _ _ _ _ _ _ _ _⟩ | exact ⟨fun i _ => nestF_bd1 _ _ _ _ _ _ _ _ _, fun i _ => nestF_bd1 _ _ _ _ _ _ _ _ _⟩ | trace_state) ?_
    rintro ⟨a, ha, h4⟩
    by_cases ak : a < K i
    · have e2 : decide ((a : Int) < (K i : Int)) = true := decide_eq_true (by omega)
      cases c4 : in3 (W i a 0) 0 ((n : Int) - 1) with
      | false =>
        have c2 : foB n m q K W = false := by
          rw [foB, allU_false (p := fun i => allU (fun a => in3 (W i a 0) 0 ((n : Int) - 1)) (K i)) ik (allU_false (p := fun a => in3 (W i a 0) 0 ((n : Int) - 1)) ak c4), Bool.false_and]
        have ea : decide ((0 : Int) ≤ (a : Int)) = true := decide_eq_true (by omega)
        have ei : decide ((0 : Int) ≤ (i : Int)) = true := decide_eq_true (by omega)
        simp only [e2, wn, c4, ea, ei, isMeeting_eq, within_eq, nestF_eq, nestR_lit, nsM_lit, nsV_lit, mtB_ns, Try.f45, Try.f72, Try.f41, Try.f42, Try.f71, Try.f43, Try.f16, go_sem, ↓reduceIte, Nat.reduceAdd, Nat.reduceSub, Nat.reduceMul, Nat.reduceEqDiff, Nat.reduceLT, Nat.reduceLeDiff, Int.reduceToNat, Int.reduceLE, Int.reduceLT, Int.reduceEq, Int.reduceNeg, reduceCtorEq]
        rw [chM_2 c1 c2]
        exact ⟨⟨by omega, by omega⟩, rfl⟩
      | true =>
        simp only [e2, wn, c4, isMeeting_eq, within_eq, nestF_eq, nestR_lit, nsM_lit, nsV_lit, mtB_ns, Try.f45, Try.f72, Try.f41, Try.f42, Try.f71, Try.f43, Try.f16, go_sem, ↓reduceIte, Nat.reduceAdd, Nat.reduceSub, Nat.reduceMul, Nat.reduceEqDiff, Nat.reduceLT, Nat.reduceLeDiff, Int.reduceToNat, Int.reduceLE, Int.reduceLT, Int.reduceEq, Int.reduceNeg, reduceCtorEq]
        refine ⟨⟨by omega, by omega⟩, ⟨a + 1, by omega, below h4 c4⟩, by simp only []; omega, ?_⟩
        apply sub_of <;> simp only [wrap_s ak (show K i ≤ 1000000 by omega), go_sem, ↓reduceIte, Nat.reduceAdd, Nat.reduceSub, Nat.reduceMul, Nat.reduceEqDiff, Nat.reduceLT, Nat.reduceLeDiff, Int.reduceToNat, Int.reduceLE, Int.reduceLT, Int.reduceEq, Int.reduceNeg, reduceCtorEq] <;> (try simp)
        all_goals first | exact fun i _ => nestF_bd1 _ _ _ _ _ _ _ _ _ | exact fun i j _ _ => nestF_bd1 _ _ _ _ _ _ _ i j | exact ⟨fun i j _ _ => nestF_bd1 _ _ _ _ _ _ _ i j, fun i _ => nestF_bd1 _ _ _ _ _ _ _ _ _⟩ | exact ⟨fun i _ => nestF_bd1 _ _ _ _ _ _ _ _ _, fun i _ => nestF_bd1 _ _ _ _ _ _ _ _ _⟩ | trace_state
    obtain rfl : a = K i := by omega
    have e2 : decide ((K i : Int) < (K i : Int)) = false := decide_eq_false (by omega)
    simp only [e2, isMeeting_eq, within_eq, nestF_eq, nestR_lit, nsM_lit, nsV_lit, mtB_ns, Try.f45, Try.f72, Try.f41, Try.f42, Try.f71, Try.f43, Try.f16, go_sem, ↓reduceIte, Nat.reduceAdd, Nat.reduceSub, Nat.reduceMul, Nat.reduceEqDiff, Nat.reduceLT, Nat.reduceLeDiff, Int.reduceToNat, Int.reduceLE, Int.reduceLT, Int.reduceEq, Int.reduceNeg, reduceCtorEq]
    refine ⟨⟨i + 1, by omega, below h3 (allU_true h4)⟩, by simp only []; omega, ?_⟩
    apply sub_of <;> simp only [wrap_s ik (show q ≤ 1000000 by omega), go_sem, ↓reduceIte, Nat.reduceAdd, Nat.reduceSub, Nat.reduceMul, Nat.reduceEqDiff, Nat.reduceLT, Nat.reduceLeDiff, Int.reduceToNat, Int.reduceLE, Int.reduceLT, Int.reduceEq, Int.reduceNeg, reduceCtorEq] <;> (try simp)
    all_goals first | exact fun i _ => nestF_bd1 _ _ _ _ _ _ _ _ _ | exact fun i j _ _ => nestF_bd1 _ _ _ _ _ _ _ i j | exact ⟨fun i j _ _ => nestF_bd1 _ _ _ _ _ _ _ i j, fun i _ => nestF_bd1 _ _ _ _ _ _ _ _ _⟩ | exact ⟨fun i _ => nestF_bd1 _ _ _ _ _ _ _ _ _, fun i _ => nestF_bd1 _ _ _ _ _ _ _ _ _⟩ | trace_state
  obtain rfl : i = q := by omega
  have e1 : decide ((i : Int) < (i : Int)) = false := decide_eq_false (by omega)
  simp only [e1, isMeeting_eq, within_eq, nestF_eq, nestR_lit, nsM_lit, nsV_lit, mtB_ns, Try.f45, Try.f72, Try.f41, Try.f42, Try.f71, Try.f43, Try.f16, go_sem, ↓reduceIte, Nat.reduceAdd, Nat.reduceSub, Nat.reduceMul, Nat.reduceEqDiff, Nat.reduceLT, Nat.reduceLeDiff, Int.reduceToNat, Int.reduceLE, Int.reduceLT, Int.reduceEq, Int.reduceNeg, reduceCtorEq]
  have c2 : foB n m i K W = true := by rw [foB, allU_true h3, decide_eq_true c3]; rfl
  obtain ⟨hq, hW⟩ := foB_iff c2
  obtain ⟨Q, hQ⟩ : ∃ Q, chM ⟨n, jd, m, A, M, V⟩ i K W = Q := ⟨_, rfl⟩
  have hQ0 := hQ.symm.trans (chM_3 c1 c2)
  rw [hQ]
  have hDn := hD.n
  have hDm := hD.m
  simp only at hDn hDm
  refine loop_ofH { k : Nat // k ≤ i ∧ Q = fs0 (fun k => erR ⟨n, jd, m, A, M, V⟩ k K W) (i - k) k ∧ ∀ j, j < n → tmS K W (j : Int) k ≤ jd j 2 } (fun k => [(30, .int .i64 (k.1 : Int)), (29, .int .i64 (i : Int)), (28, .row i 1 (nestF 0 1 B K W)), (7, .ptr 1 0), (2, .ptr 0 0), (1, .row i 1 (nestF 0 1 B K W))]) (fun _ k => ⟨[.live 25 (mtC ⟨n, jd, m, A, M, V⟩), .live 78 (.ptr 0 0 :: tC (fun j => tmS K W (j : Int) k.1))], []⟩) (fun k => i - k.1) (fun _ => ⟨rfl, rfl⟩) ⟨0, by omega, hQ0, fun j hj => (hD.q j hj).1⟩ ?_ ?_
  · apply sub_of <;> simp only [mtC, tC, go_sem, ↓reduceIte, Nat.reduceAdd, Nat.reduceSub, Nat.reduceMul, Nat.reduceEqDiff, Nat.reduceLT, Nat.reduceLeDiff, Int.reduceToNat, Int.reduceLE, Int.reduceLT, Int.reduceEq, Int.reduceNeg, reduceCtorEq]
    all_goals first | exact fun _ _ _ _ => trivial | exact ⟨rfl, fun _ _ _ _ => trivial⟩ | exact ⟨⟨fun _ _ _ _ => trivial, fun _ _ _ _ => trivial⟩, rfl, rfl, rfl, rfl, rfl, rfl, rfl, rfl⟩ | exact fun i j _ _ => nestF_bd1 _ _ _ _ _ _ _ i j | exact ⟨fun _ _ _ _ => trivial, fun i j _ _ => nestF_bd1 _ _ _ _ _ _ _ i j⟩
  rintro ⟨k, hk, hq2, hT⟩
  by_cases kk : k < i
  · have e3 : decide ((k : Int) < (i : Int)) = true := decide_eq_true (by omega)
    have hKk := p4 k kk
    have hWk : ∀ a, a < K k → 0 ≤ W k a 0 ∧ W k a 0 < (n : Int) := fun a ha => hW k a kk ha
    simp only [e3, mtC, tC, isMeeting_eq, within_eq, nestF_eq, nestR_lit, nsM_lit, nsV_lit, mtB_ns, Try.f45, Try.f72, Try.f41, Try.f42, Try.f71, Try.f43, Try.f16, go_sem, ↓reduceIte, Nat.reduceAdd, Nat.reduceSub, Nat.reduceMul, Nat.reduceEqDiff, Nat.reduceLT, Nat.reduceLeDiff, Int.reduceToNat, Int.reduceLE, Int.reduceLT, Int.reduceEq, Int.reduceNeg, reduceCtorEq]
    refine ⟨⟨by omega, by omega⟩, ?_⟩
    unfold callS
    refine calls_mono ?_ (errF_at hD (c := k) (by simp only []; omega) (fun j => tmS K W (j : Int) k) (W := W k) (k := K k) hKk hWk [] [])
    rintro o h' ⟨rfl, rfl⟩
    rw [fs0_step kk, er_eqF (D := ⟨n, jd, m, A, M, V⟩) hT hWk] at hq2
    by_cases hE : erM ⟨n, jd, m, A, M, V⟩ k (fun j => tmS K W (j : Int) k) (fun a => W k a 0) (K k) = 0
    · have d1 : decide (erM ⟨n, jd, m, A, M, V⟩ k (fun j => tmS K W (j : Int) k) (fun a => W k a 0) (K k) = 0) = true := decide_eq_true hE
      rw [if_pos hE] at hq2
      simp only [d1, isMeeting_eq, within_eq, nestF_eq, nestR_lit, nsM_lit, nsV_lit, mtB_ns, Try.f45, Try.f72, Try.f41, Try.f42, Try.f71, Try.f43, Try.f16, go_sem, ↓reduceIte, Nat.reduceAdd, Nat.reduceSub, Nat.reduceMul, Nat.reduceEqDiff, Nat.reduceLT, Nat.reduceLeDiff, Int.reduceToNat, Int.reduceLE, Int.reduceLT, Int.reduceEq, Int.reduceNeg, reduceCtorEq]
      unfold callS
      have hbd := fun j : Nat => tmS_bd (M := K) (V := W) (j := (j : Int)) (i := k) (fun e he => p4 e (by omega))
      refine calls_mono ?_ (sitF_at (T := fun j => tmS K W (j : Int) k) (c := 4000) (by omega) (fun j => ⟨(hbd j).1, by have := (hbd j).2; omega⟩) (W := W k) (k := K k) hKk (fun a ha => by have := hWk a ha; omega) ⟨n, jd, m, A, M, V⟩ [] [])
      rintro o h' ⟨rfl, rfl⟩
      simp only [mtC, tC, isMeeting_eq, within_eq, nestF_eq, nestR_lit, nsM_lit, nsV_lit, mtB_ns, Try.f45, Try.f72, Try.f41, Try.f42, Try.f71, Try.f43, Try.f16, go_sem, ↓reduceIte, Nat.reduceAdd, Nat.reduceSub, Nat.reduceMul, Nat.reduceEqDiff, Nat.reduceLT, Nat.reduceLeDiff, Int.reduceToNat, Int.reduceLE, Int.reduceLT, Int.reduceEq, Int.reduceNeg, reduceCtorEq]
      refine ⟨⟨k + 1, by omega, hq2, fun j hj => erM_limF hE hT j hj⟩, by simp only []; omega, ?_⟩
      apply sub_of <;> simp only [wrap_s kk (show i ≤ 1000000 by omega), mtC, tC, go_sem, ↓reduceIte, Nat.reduceAdd, Nat.reduceSub, Nat.reduceMul, Nat.reduceEqDiff, Nat.reduceLT, Nat.reduceLeDiff, Int.reduceToNat, Int.reduceLE, Int.reduceLT, Int.reduceEq, Int.reduceNeg, reduceCtorEq]
      all_goals first | exact fun _ _ _ _ => trivial | exact ⟨rfl, fun _ _ _ _ => trivial⟩ | exact ⟨⟨fun _ _ _ _ => trivial, fun _ _ _ _ => trivial⟩, rfl, rfl, rfl, rfl, rfl, rfl, rfl, rfl⟩ | exact fun i j _ _ => nestF_bd1 _ _ _ _ _ _ _ i j | exact ⟨fun _ _ _ _ => trivial, fun i j _ _ => nestF_bd1 _ _ _ _ _ _ _ i j⟩
    · have d1 : decide (erM ⟨n, jd, m, A, M, V⟩ k (fun j => tmS K W (j : Int) k) (fun a => W k a 0) (K k) = 0) = false := decide_eq_false hE
      rw [if_neg hE] at hq2
      simp only [d1, isMeeting_eq, within_eq, nestF_eq, nestR_lit, nsM_lit, nsV_lit, mtB_ns, Try.f45, Try.f72, Try.f41, Try.f42, Try.f71, Try.f43, Try.f16, go_sem, ↓reduceIte, Nat.reduceAdd, Nat.reduceSub, Nat.reduceMul, Nat.reduceEqDiff, Nat.reduceLT, Nat.reduceLeDiff, Int.reduceToNat, Int.reduceLE, Int.reduceLT, Int.reduceEq, Int.reduceNeg, reduceCtorEq]
      rw [hq2]
  obtain rfl : k = i := by omega
  have e3 : decide ((k : Int) < (k : Int)) = false := decide_eq_false (by omega)
  simp only [e3, mtC, tC, isMeeting_eq, within_eq, nestF_eq, nestR_lit, nsM_lit, nsV_lit, mtB_ns, Try.f45, Try.f72, Try.f41, Try.f42, Try.f71, Try.f43, Try.f16, go_sem, ↓reduceIte, Nat.reduceAdd, Nat.reduceSub, Nat.reduceMul, Nat.reduceEqDiff, Nat.reduceLT, Nat.reduceLeDiff, Int.reduceToNat, Int.reduceLE, Int.reduceLT, Int.reduceEq, Int.reduceNeg, reduceCtorEq]
  rw [Nat.sub_self] at hq2
  rw [hq2]
  rfl
end Go.Eng
end

/- panel: one seating ahead of another, by the law. -/
section
namespace Go.Eng
open Go Go.RowKit Go.Proofs
set_option maxRecDepth 100000
set_option maxHeartbeats 4000000
attribute [local irreducible] OwnT DefS
def ahL (l l' : Nat → Int) : Nat → Nat → Option Bool
  | 0, _ => none
  | r + 1, k => if l k = l' k then ahL l l' r (k + 1) else some (decide (l k < l' k))
def ahS (M : Nat → Nat) (V : Nat → Nat → Nat → Int) (K : Nat → Nat) (W : Nat → Nat → Nat → Int) : Nat → Nat → Bool
  | 0, _ => false
  | r + 1, i => match ahL (fun a => V i a 0) (fun a => W i a 0) (min (M i) (K i)) 0 with
    | some b => b
    | none => ahS M V K W r (i + 1)
end Go.Eng
end

/- panel: good seatings, by the law. -/
section
namespace Go.Eng
open Go Go.RowKit Go.Proofs
set_option maxRecDepth 100000
set_option maxHeartbeats 4000000
attribute [local irreducible] OwnT DefS
def gK (D : MT) (q : Nat) (K : Nat → Nat) (W : Nat → Nat → Nat → Int) (i k : Nat) : Bool :=
  (decide (D.A i 1 ≤ D.jd (W i k 0).toNat 1) && ((decide (k = 0) || decide (W i (k - 1) 0 < W i k 0)) && decide (tmS K W (W i k 0) q ≤ D.jd (W i k 0).toNat 2))) &&
    (allU (fun a => !decide (D.V i a 0 = D.jd (W i k 0).toNat 0)) (D.M i) && allU (fun e => !decide (D.jd (W i e 0).toNat 0 = D.jd (W i k 0).toNat 0)) k)
def gC (D : MT) (q : Nat) (K : Nat → Nat) (W : Nat → Nat → Nat → Int) (i : Nat) : Bool := decide ((K i : Int) = D.A i 2) && allU (gK D q K W i) (K i)
def gdB (D : MT) (q : Nat) (K : Nat → Nat) (W : Nat → Nat → Nat → Int) : Bool := foB D.n D.m q K W && allU (gC D q K W) q
end Go.Eng
end

/- panel: what is asked of a seating, in two ways; the search finds the first one. -/
section
namespace Go.Eng
theorem tmS_mono {K : Nat → Nat} {W : Nat → Nat → Nat → Int} {j : Int} {a : Nat} : ∀ {b : Nat}, a ≤ b → tmS K W j a ≤ tmS K W j b
  | 0, h => by obtain rfl : a = 0 := by omega
               exact Int.le_refl _
  | b + 1, h => by
    rcases Nat.lt_or_ge b a with g | g
    · obtain rfl : a = b + 1 := by omega
      exact Int.le_refl _
    · have h1 := tmS_mono (K := K) (W := W) (j := j) g
      have h2 := (cnL_bd (fun a => W b a 0) j (K b)).1
      simp only [tmS]; omega
theorem erR_z {D : MT} {c : Nat} {K : Nat → Nat} {W : Nat → Nat → Nat → Int} : erR D c K W = 0 ↔ risB (fun a => W c a 0) (K c) = true ∧ (K c : Int) = D.A c 2 ∧ mayB D c (fun a => W c a 0) (K c) = true ∧ dstB D (fun a => W c a 0) (K c) = true ∧ limR D c K W = true := by
  rw [← decide_eq_true_iff (p := (K c : Int) = D.A c 2)]
  cases h1 : risB (fun a => W c a 0) (K c) with
  | false => rw [erR_7 h1]; simp
  | true =>
  cases h2 : decide ((K c : Int) = D.A c 2) with
  | false => rw [erR_10 h1 h2]; simp
  | true =>
  cases h3 : mayB D c (fun a => W c a 0) (K c) with
  | false => rw [erR_11 h1 h2 h3]; simp
  | true =>
  cases h4 : dstB D (fun a => W c a 0) (K c) with
  | false => rw [erR_5 h1 h2 h3 h4]; simp
  | true =>
  cases h5 : limR D c K W with
  | false => rw [erR_12 h1 h2 h3 h4 h5]; simp
  | true => rw [erR_0 h1 h2 h3 h4 h5]; simp
theorem fs0_z {e : Nat → Int} : ∀ {r i : Nat}, (fs0 e r i).2 = 0 ↔ ∀ j, i ≤ j → j < i + r → e j = 0
  | 0, i => by
    simp only [fs0, true_iff]
    exact fun j h1 h2 => absurd h2 (by omega)
  | r + 1, i => by
    rw [fs0]
    split
    · rename_i h
      rw [fs0_z]
      constructor
      · intro g j h1 h2
        rcases Nat.lt_or_ge i j with h3 | h3
        · exact g j h3 (by omega)
        · obtain rfl : j = i := by omega
          exact h
      · exact fun g j h1 h2 => g j (by omega) (by omega)
    · rename_i h
      constructor
      · exact fun g => absurd g h
      · exact fun g => absurd (g i (Nat.le_refl _) (by omega)) h
theorem fs0_n {e : Nat → Int} : ∀ {r i : Nat}, (fs0 e r i).2 = 0 → (fs0 e r i).1 = i + r
  | 0, i, _ => rfl
  | r + 1, i, h => by
    rw [fs0] at h ⊢
    split
    · rename_i g
      rw [if_pos g] at h
      rw [fs0_n h]; omega
    · rename_i g
      rw [if_neg g] at h
      exact absurd h g
/-- Behind an error: all ahead of it is good. -/
theorem fs0_p {e : Nat → Int} : ∀ {r i : Nat}, (fs0 e r i).2 ≠ 0 → (fs0 e r i).1 < i + r ∧ ∀ j, i ≤ j → j < (fs0 e r i).1 → e j = 0
  | 0, i, h => absurd rfl h
  | r + 1, i, h => by
    rw [fs0] at h ⊢
    split
    · rename_i g
      rw [if_pos g] at h
      obtain ⟨h1, h2⟩ := fs0_p h
      refine ⟨by omega, fun j h3 h4 => ?_⟩
      rcases Nat.lt_or_ge i j with h5 | h5
      · exact h2 j h5 h4
      · obtain rfl : j = i := by omega
        exact g
    · exact ⟨by simp only []; omega, fun j h3 h4 => absurd h4 (by simp only []; omega)⟩
theorem mt_ok {D : MT} (h : mtB D.n D.jd D.m D.A D.M D.V = true) : D.Ok := by
  obtain ⟨n, jd, m, A, M, V⟩ := D
  exact mtB_ok h
/-- Nobody too often. -/
theorem tm_all {D : MT} (hD : D.Ok) {q : Nat} {K : Nat → Nat} {W : Nat → Nat → Nat → Int} (hW : ∀ i a, i < q → a < K i → 0 ≤ W i a 0 ∧ W i a 0 < (D.n : Int)) (h : ∀ i, i < q → erR D i K W = 0) : ∀ c, c ≤ q → ∀ j, j < D.n → tmS K W (j : Int) c ≤ D.jd j 2
  | 0, _, j, hj => (hD.q j hj).1
  | c + 1, hc, j, hj => by
    have ih := tm_all hD hW h c (by omega)
    have h1 := h c (by omega)
    rw [er_eqF ih (fun a ha => hW c a (by omega) ha)] at h1
    exact erM_limF h1 ih j hj
theorem er_gd {D : MT} (hD : D.Ok) {q : Nat} {K : Nat → Nat} {W : Nat → Nat → Nat → Int} (hW : ∀ i a, i < q → a < K i → 0 ≤ W i a 0 ∧ W i a 0 < (D.n : Int)) : (∀ i, i < q → erR D i K W = 0) ↔ ∀ i, i < q → gC D q K W i = true := by
  have hJ : ∀ i a, i < q → a < K i → ∃ y : Nat, W i a 0 = (y : Int) ∧ y < D.n := fun i a hi ha => by
    have := hW i a hi ha
    exact ⟨(W i a 0).toNat, by omega, by omega⟩
  constructor
  · intro h i hi
    obtain ⟨h1, h2, h3, h4, h5⟩ := erR_z.1 (h i hi)
    rw [gC, decide_eq_true h2, Bool.true_and]
    refine allU_true fun k hk => ?_
    obtain ⟨y, hy, hyn⟩ := hJ i k hi hk
    have m1 := allU_iff.1 h3 k hk
    have m2 := allU_iff.1 h1 k hk
    have m3 := allU_iff.1 h4 k hk
    have m4 := tm_all hD hW h q (Nat.le_refl _) y hyn
    simp only [mayJ, memC, Bool.not_not, Bool.and_eq_true] at m1
    simp only [gK, Bool.and_eq_true]
    refine ⟨⟨m1.1, m2, decide_eq_true ?_⟩, m1.2, m3⟩
    rw [hy, Int.toNat_natCast]; exact m4
  · intro h i hi
    have g := h i hi
    simp only [gC, Bool.and_eq_true, decide_eq_true_eq] at g
    have g2 := allU_iff.1 g.2
    simp only [gK, Bool.and_eq_true] at g2
    refine erR_z.2 ⟨allU_true fun k hk => (g2 k hk).1.2.1, g.1, allU_true fun k hk => ?_, allU_true fun k hk => (g2 k hk).2.2, allU_true fun k hk => ?_⟩
    · simp only [mayJ, memC, Bool.not_not, Bool.and_eq_true]
      exact ⟨(g2 k hk).1.1, (g2 k hk).2.1⟩
    · have m4 := of_decide_eq_true (g2 k hk).1.2.2
      have m5 := tmS_mono (K := K) (W := W) (j := W i k 0) (show i + 1 ≤ q by omega)
      simp only [Bool.not_eq_true', decide_eq_false_iff_not]
      omega
end Go.Eng
end

/- panel: PanelSeats. -/
section
namespace Go.Eng
open Go Go.RowKit Go.Proofs
set_option maxRecDepth 100000
set_option maxHeartbeats 4000000
attribute [local irreducible] OwnT DefS
theorem stMR_eq (D : MT) : stMR D = stM D := stM_eq fun h j hj => by
  obtain ⟨n, jd, m, A, M, V⟩ := D
  exact ((mtB_ok h).q j hj).1
theorem seatM_len {D : MT} (hD : D.Ok) : ∀ (k : Nat) (T : Nat → Int) (r : (Nat → Int) × List (List Int)), k ≤ D.m → seatM D k T = some r → r.2.length = k ∧ ∀ l ∈ r.2, l.length ≤ 3
  | 0, T, r, _, h => by
    simp only [seatM, Option.some.injEq] at h
    subst h
    exact ⟨rfl, fun l hl => by simp at hl⟩
  | k + 1, T, r, hk, h => by
    simp only [seatM] at h
    split at h
    · rename_i l hl
      split at h
      · rename_i r' hr
        simp only [Option.some.injEq] at h
        subst h
        obtain ⟨h1, h2⟩ := seatM_len hD k _ _ (by omega) hr
        have h3 := rz_length (List.mem_of_find?_eq_some hl)
        have h4 := hD.s (D.m - (k + 1)) (by omega)
        refine ⟨by simp [h1], fun x hx => ?_⟩
        rcases List.mem_cons.1 hx with rfl | hx
        · omega
        · exact h2 x hx
      · cases h
    · cases h
theorem laB_false {n m : Nat} {M : Nat → Nat} (h : laB n m M = false) : n ≤ 10 ∧ m ≤ 6 := by
  simp only [laB, Bool.or_eq_false_iff, decide_eq_false_iff_not] at h
  omega
theorem lgB_false {m : Nat} {M : Nat → Nat} {a b : Int} (h : lgB m M a b = false) : (m : Int) ≤ a ∧ ∀ i, i < m → (M i : Int) ≤ b := by
  simp only [lgB, Bool.not_eq_false', Bool.and_eq_true, decide_eq_true_eq] at h
  exact ⟨h.1, fun i hi => of_decide_eq_true (allU_iff.1 h.2 i hi)⟩
end Go.Eng
end

/- panel: the search finds the first good seating. -/
section
namespace Go.Eng
theorem erM_cg {D : MT} {c : Nat} {T : Nat → Int} {l l' : Nat → Int} {k : Nat} (h : ∀ i, i < k → l i = l' i) : erM D c T l k = erM D c T l' k := by
  have h1 : risB l k = risB l' k := allU_congr fun i hi => by rw [h i hi, h (i - 1) (by omega)]
  have h2 : mayB D c l k = mayB D c l' k := allU_congr fun i hi => by rw [h i hi]
  have h3 : dstB D l k = dstB D l' k := allU_congr fun i hi => allU_congr fun e he => by rw [h i hi, h e (by omega)]
  have h4 : limB D T l k = limB D T l' k := allU_congr fun i hi => by rw [h i hi]
  simp only [erM, h1, h2, h3, h4]
theorem erR_cg {D : MT} {c : Nat} {K K' : Nat → Nat} {W W' : Nat → Nat → Nat → Int} (h : ∀ e, e ≤ c → K e = K' e ∧ ∀ a, W e a 0 = W' e a 0) : erR D c K W = erR D c K' W' := by
  have e1 : (fun a => W c a 0) = fun a => W' c a 0 := funext (h c (Nat.le_refl _)).2
  have e2 : K c = K' c := (h c (Nat.le_refl _)).1
  have h4 : limR D c K W = limR D c K' W' := by
    simp only [limR, e2]
    exact allU_congr fun i hi => by rw [(h c (Nat.le_refl _)).2 i, tmS_congr (fun e he => h e (by omega))]
  simp only [erR, e1, e2, h4]
/-- A list is ahead of another one. -/
def Lx : List Int → List Int → Prop
  | a :: s, b :: t => a < b ∨ a = b ∧ Lx s t
  | _, _ => False
theorem rz_pw {n : Nat} : ∀ (r k : Nat), (rz n r k).Pairwise Lx
  | 0, k => by simp [rz]
  | r + 1, k => by
    rw [rz, List.pairwise_flatMap]
    refine ⟨fun i _ => ?_, ?_⟩
    · rw [List.pairwise_map]
      exact (rz_pw r (i + 1)).imp fun h => .inr ⟨rfl, h⟩
    · refine (List.pairwise_lt_range' (s := k) (n := n - k)).imp fun {a b} hab => ?_
      intro x hx y hy
      simp only [List.mem_map] at hx hy
      obtain ⟨s, _, rfl⟩ := hx
      obtain ⟨t, _, rfl⟩ := hy
      exact .inl (by omega)
theorem rz_mem {n : Nat} : ∀ {l : List Int} {k : Nat}, l.Pairwise (· < ·) → (∀ x ∈ l, (k : Int) ≤ x ∧ x < (n : Int)) → l ∈ rz n l.length k
  | [], k, _, _ => by simp [rz]
  | x :: l, k, h1, h2 => by
    obtain ⟨ha, hb⟩ := List.pairwise_cons.1 h1
    have hx := h2 x (List.mem_cons_self ..)
    have ih := rz_mem (n := n) (l := l) (k := x.toNat + 1) hb fun y hy => by
      have := ha y hy
      have := h2 y (List.mem_cons_of_mem _ hy)
      omega
    rw [List.length_cons, rz, List.mem_flatMap]
    refine ⟨x.toNat, by rw [List.mem_range'_1]; omega, List.mem_map.2 ⟨l, ih, ?_⟩⟩
    rw [Int.toNat_of_nonneg (by omega)]
theorem find_pw {R : List Int → List Int → Prop} {ok : List Int → Bool} {a b : List Int} : ∀ {l : List (List Int)}, l.Pairwise R → l.find? ok = some a → b ∈ l → ok b = true → a = b ∨ R a b
  | x :: l, hp, hf, hb, ho => by
    obtain ⟨h1, h2⟩ := List.pairwise_cons.1 hp
    rw [List.find?_cons] at hf
    split at hf
    · simp only [Option.some.injEq] at hf
      subst hf
      rcases List.mem_cons.1 hb with h | h
      · exact .inl h.symm
      · exact .inr (h1 b h)
    · rename_i hx
      rcases List.mem_cons.1 hb with h | h
      · subst h; rw [ho] at hx; cases hx
      · exact find_pw h2 hf h ho
theorem ahL_lx : ∀ (a b : List Int) {f g : Nat → Int} {k : Nat}, a.length = b.length → (∀ i, i < a.length → f (k + i) = b.getD i 0 ∧ g (k + i) = a.getD i 0) → Lx a b → ahL f g a.length k = some false
  | [], b, f, g, k, _, _, h => by cases b <;> exact h.elim
  | x :: s, [], f, g, k, hl, _, _ => by simp at hl
  | x :: s, y :: t, f, g, k, hl, hfg, h => by
    have h0 := hfg 0 (by simp)
    simp only [Nat.add_zero, List.getD_cons_zero] at h0
    rw [List.length_cons, ahL, h0.1, h0.2]
    rcases h with h | ⟨h, h2⟩
    · rw [if_neg (by omega), decide_eq_false (by omega)]
    · rw [if_pos h.symm]
      refine ahL_lx s t (by simpa using hl) (fun i hi => ?_) h2
      have := hfg (i + 1) (by simp; omega)
      simp only [List.getD_cons_succ] at this
      rw [show k + 1 + i = k + (i + 1) by omega]
      exact this
theorem ahL_eq {f g : Nat → Int} : ∀ {r k : Nat}, (∀ i, k ≤ i → i < k + r → f i = g i) → ahL f g r k = none
  | 0, k, _ => rfl
  | r + 1, k, h => by
    rw [ahL, if_pos (h k (Nat.le_refl _) (by omega))]
    exact ahL_eq fun i h1 h2 => h i (by omega) (by omega)
theorem ris_pw {l : Nat → Int} {k : Nat} (h : risB l k = true) : (rwL l k).Pairwise (· < ·) := by
  rw [rwL, List.pairwise_map]
  refine List.Pairwise.imp_of_mem ?_ (List.pairwise_lt_range (n := k))
  intro a b _ hb hab
  exact ris_lt h b a hab (by simpa using hb)
/-- A seating, all of whose contests are good: the search finds one, and that one is not behind it. -/
theorem seat_good {D : MT} (hD : D.Ok) {K : Nat → Nat} {W : Nat → Nat → Nat → Int} (hW : ∀ i a, i < D.m → a < K i → 0 ≤ W i a 0 ∧ W i a 0 < (D.n : Int)) (hE : ∀ i, i < D.m → erR D i K W = 0) :
    ∀ (k c : Nat), c + k = D.m → ∃ r, seatM D k (fun j => tmS K W (j : Int) c) = some r ∧ ∀ S : List (List Int), S.length = c → ahS K W (lnF (S ++ r.2)) (vlF (S ++ r.2)) k c = false
  | 0, c, _ => ⟨_, rfl, fun _ _ => rfl⟩
  | k + 1, c, hc => by
    have hcm : c < D.m := by omega
    have hc2 : D.m - (k + 1) = c := by omega
    obtain ⟨r1, hr1, ho1⟩ := seat_good hD hW hE k (c + 1) (by omega)
    have e0 := hE c hcm
    have hz := erR_z.1 e0
    have hT := tm_all hD hW hE c (by omega)
    rw [er_eqF hT (fun a ha => hW c a hcm ha)] at e0
    obtain ⟨P, hP⟩ : ∃ P, rwL (fun a => W c a 0) (K c) = P := ⟨_, rfl⟩
    have hPl : P.length = K c := by rw [← hP, rwL_len]
    have hPg : ∀ i, i < K c → P.getD i 0 = W c i 0 := fun i hi => by rw [← hP, rwL_get hi]
    have hs : (D.A c 2).toNat = P.length := by rw [hPl]; omega
    have hPm : P ∈ rz D.n (D.A c 2).toNat 0 := by
      rw [hs]
      refine rz_mem (by rw [← hP]; exact ris_pw hz.1) fun x hx => ?_
      rw [← hP] at hx
      simp only [rwL, List.mem_map, List.mem_range] at hx
      obtain ⟨a, ha, rfl⟩ := hx
      have := hW c a hcm ha
      omega
    have hPE : erM D c (fun j => tmS K W (j : Int) c) (fun i => P.getD i 0) P.length = 0 := by rw [hPl, erM_cg hPg]; exact e0
    have hPT : addT (fun j => tmS K W (j : Int) c) P = fun (j : Nat) => tmS K W (j : Int) (c + 1) := by
      funext j
      rw [← hP, rwL_addT, tmS]
    have hPok : (decide (erM D c (fun j => tmS K W (j : Int) c) (fun i => P.getD i 0) P.length = 0) && (seatM D k (addT (fun j => tmS K W (j : Int) c) P)).isSome) = true := by
      rw [hPE, hPT, hr1]; rfl
    simp only [seatM, hc2]
    obtain ⟨l, hl⟩ : ∃ l, ((rz D.n (D.A c 2).toNat 0).find? fun l => decide (erM D c (fun j => tmS K W (j : Int) c) (fun i => l.getD i 0) l.length = 0) && (seatM D k (addT (fun j => tmS K W (j : Int) c) l)).isSome) = some l := by
      cases hf : ((rz D.n (D.A c 2).toNat 0).find? fun l => decide (erM D c (fun j => tmS K W (j : Int) c) (fun i => l.getD i 0) l.length = 0) && (seatM D k (addT (fun j => tmS K W (j : Int) c) l)).isSome) with
      | some l => exact ⟨l, rfl⟩
      | none =>
        have := List.find?_eq_none.1 hf P hPm
        exact absurd hPok this
    rw [hl]
    have hok := List.find?_some hl
    simp only [Bool.and_eq_true] at hok
    obtain ⟨r, hr⟩ := Option.isSome_iff_exists.1 hok.2
    simp only [hr]
    have hll := rz_length (List.mem_of_find?_eq_some hl)
    refine ⟨_, rfl, fun S hS => ?_⟩
    have hn : lnF (S ++ l :: r.2) c = K c := by
      have : (S ++ l :: r.2).getD c [] = l := by simp [List.getD, ← hS]
      rw [lnF, this, hll, hs, hPl]
    have hv : ∀ a, vlF (S ++ l :: r.2) c a 0 = l.getD a 0 := fun a => by
      have : (S ++ l :: r.2).getD c [] = l := by simp [List.getD, ← hS]
      rw [vlF, this]
    simp only [ahS, hn, Nat.min_self]
    rcases find_pw (rz_pw _ _) hl hPm hPok with h | h
    · subst h
      rw [ahL_eq (fun i _ hi => by rw [hv, hPg i (by omega)])]
      rw [hPT, hr1] at hr
      simp only [Option.some.injEq] at hr
      subst hr
      have := ho1 (S ++ [l]) (by simp [hS])
      simpa using this
    · have hlk : l.length = K c := by rw [hll, hs, hPl]
      have := ahL_lx l P (f := fun a => W c a 0) (g := fun a => vlF (S ++ l :: r.2) c a 0) (k := 0) (by rw [hlk, hPl]) (fun i hi => by rw [Nat.zero_add]; exact ⟨(hPg i (by omega)).symm, hv i⟩) h
      rw [hlk] at this
      rw [this]
theorem st_good {D : MT} (hB : mtB D.n D.jd D.m D.A D.M D.V = true) {q : Nat} {K : Nat → Nat} {W : Nat → Nat → Nat → Int} (h : gdB D q K W = true) : (stM D).2 = 0 ∧ (stM D).1.length = D.m ∧ ahS K W (lnF (stM D).1) (vlF (stM D).1) D.m 0 = false := by
  have hD := mt_ok hB
  simp only [gdB, Bool.and_eq_true] at h
  obtain ⟨hq, hW⟩ := foB_iff h.1
  subst hq
  have hE := (er_gd hD hW).2 (allU_iff.1 h.2)
  obtain ⟨r, hr, ho⟩ := seat_good hD hW hE D.m 0 (by omega)
  have hz : (fun j : Nat => tmS K W (j : Int) 0) = fun _ => (0 : Int) := rfl
  rw [hz] at hr
  have hs : stM D = (r.2, 0) := by rw [stM, if_pos hB, hr]
  rw [hs]
  exact ⟨rfl, (seatM_len hD _ _ _ (Nat.le_refl _) hr).1, ho [] rfl⟩
end Go.Eng
end

/- panel: what the search finds is good; more judges, fewer contests. -/
section
namespace Go.Eng
theorem seatR_ok {D : MT} : ∀ (k : Nat) (S R : List (List Int)), seatR D k S = some R → ∃ X, R = S ++ X ∧ X.length = k ∧ (∀ l ∈ X, numOk D.n l) ∧ ∀ c, S.length ≤ c → c < S.length + k → erR D c (lnF R) (vlF R) = 0
  | 0, S, R, h => by
    simp only [seatR, Option.some.injEq] at h
    subst h
    exact ⟨[], by simp, rfl, fun l hl => by simp at hl, fun c h1 h2 => absurd h2 (by omega)⟩
  | k + 1, S, R, h => by
    simp only [seatR] at h
    obtain ⟨l, hl, h2⟩ := List.exists_of_findSome?_eq_some h
    split at h2
    · rename_i hE
      obtain ⟨X, rfl, hX, hn, hc⟩ := seatR_ok k (S ++ [l]) R h2
      refine ⟨l :: X, by simp, by simp [hX], fun x hx => ?_, fun c h3 h4 => ?_⟩
      · rcases List.mem_cons.1 hx with rfl | hx
        · exact rz_num hl
        · exact hn x hx
      · rcases Nat.lt_or_ge S.length c with h5 | h5
        · exact hc c (by simp; omega) (by simp; omega)
        · obtain rfl : c = S.length := by omega
          rw [← hE]
          refine erR_cg fun e he => ?_
          have : (S ++ [l] ++ X).getD e [] = (S ++ [l]).getD e [] := by
            simp only [List.getD]
            rw [List.getElem?_append_left (by simp; omega)]
          simp only [lnF, vlF, this, and_self, implies_true]
    · cases h2
/-- What Seat returns is good. -/
theorem st_sound {D : MT} (h : (stM D).2 = 0) : mtB D.n D.jd D.m D.A D.M D.V = true ∧ (stM D).1.length = D.m ∧ gdB D D.m (lnF (stM D).1) (vlF (stM D).1) = true := by
  rw [← stMR_eq] at h ⊢
  unfold stMR at h ⊢
  cases hB : mtB D.n D.jd D.m D.A D.M D.V with
  | false => simp [hB] at h
  | true =>
    rw [hB] at h
    simp only [if_true] at h ⊢
    cases hr : seatR D D.m [] with
    | none => simp [hr] at h
    | some R =>
      simp only []
      obtain ⟨X, hX, hl, hn, hc⟩ := seatR_ok D.m [] R hr
      rw [List.nil_append] at hX
      subst hX
      have hW : ∀ i a, i < D.m → a < lnF R i → 0 ≤ vlF R i a 0 ∧ vlF R i a 0 < (D.n : Int) := fun i a hi ha => by
        have e : R.getD i [] = R[i] := by simp [List.getD, hl, hi]
        simp only [lnF, vlF, e] at ha ⊢
        have e2 : R[i].getD a 0 = R[i][a] := by simp [List.getD, ha]
        rw [e2]
        exact hn _ (List.getElem_mem _) _ (List.getElem_mem ha)
      refine ⟨by first | rfl | trivial | exact hB, hl, ?_⟩
      rw [gdB, allU_iff.2 ((er_gd (mt_ok hB) hW).1 fun i hi => hc i (Nat.zero_le _) (by simpa using hi)), Bool.and_true, foB, decide_eq_true rfl, Bool.and_true]
      refine allU_true fun i hi => allU_true fun a ha => in3_iff.2 ?_
      have := hW i a hi ha
      omega
theorem st_err (D : MT) : (stM D).2 = 0 ∨ (stM D).2 = 4 ∧ (stM D).1 = [] ∨ (stM D).2 = 1 ∧ (stM D).1 = [] := by
  unfold stM
  split
  · split
    · exact .inl rfl
    · exact .inr (.inl ⟨rfl, rfl⟩)
  · exact .inr (.inr ⟨rfl, rfl⟩)
theorem st_mt {D : MT} : (stM D).2 = 1 ↔ mtB D.n D.jd D.m D.A D.M D.V = false := by
  unfold stM
  split
  · rename_i h
    rw [h]
    split <;> simp
  · rename_i h
    simp [h]
/-- With a judge more. -/
theorem gd_more {D : MT} {jd' : Nat → Nat → Int} {K : Nat → Nat} {W : Nat → Nat → Nat → Int} (hj : ∀ i, i < D.n → ∀ j, j < 3 → jd' i j = D.jd i j) (h : gdB D D.m K W = true) : gdB ⟨D.n + 1, jd', D.m, D.A, D.M, D.V⟩ D.m K W = true := by
  simp only [gdB, Bool.and_eq_true] at h ⊢
  obtain ⟨_, hW⟩ := foB_iff h.1
  refine ⟨?_, allU_true fun i hi => ?_⟩
  · rw [foB, decide_eq_true rfl, Bool.and_true]
    refine allU_true fun i hi => allU_true fun a ha => in3_iff.2 ?_
    have := hW i a hi ha
    (try simp only []); omega
  · have h1 := allU_iff.1 h.2 i hi
    simp only [gC, Bool.and_eq_true] at h1 ⊢
    refine ⟨h1.1, allU_true fun k hk => ?_⟩
    have h2 := allU_iff.1 h1.2 k hk
    have hJ : ∀ a, a < K i → (W i a 0).toNat < D.n := fun a ha => by have := hW i a hi ha; omega
    have e1 : ∀ a, a < K i → ∀ j, j < 3 → jd' (W i a 0).toNat j = D.jd (W i a 0).toNat j := fun a ha j hj3 => hj _ (hJ a ha) j hj3
    rw [← h2]
    simp only [gK, e1 k hk 1 (by omega), e1 k hk 2 (by omega), e1 k hk 0 (by omega)]
    congr 2
    exact allU_congr fun e he => by rw [e1 e (by omega) 0 (by omega)]
def skp (k i : Nat) : Nat := if i < k then i else i + 1
theorem tm_skp {K : Nat → Nat} {W : Nat → Nat → Nat → Int} {j : Int} {k : Nat} : ∀ i, tmS (fun i => K (skp k i)) (fun i => W (skp k i)) j i ≤ tmS K W j (if i ≤ k then i else i + 1)
  | 0 => by simp [tmS]
  | i + 1 => by
    have ih := tm_skp (K := K) (W := W) (j := j) (k := k) i
    have hc := (cnL_bd (fun a => W k a 0) j (K k)).1
    simp only [tmS]
    by_cases h1 : i < k
    · rw [if_pos (by omega)] at ih ⊢
      simp only [skp, if_pos h1, tmS]
      simp only [skp] at ih
      omega
    · by_cases h2 : i = k
      · subst h2
        rw [if_pos (Nat.le_refl _)] at ih
        rw [if_neg (by omega)]
        simp only [skp, Nat.lt_irrefl, if_false, tmS]
        simp only [skp] at ih
        omega
      · rw [if_neg (by omega)] at ih
        rw [if_neg (by omega)]
        simp only [skp, if_neg h1, tmS]
        simp only [skp, tmS] at ih
        omega
/-- With a contest less. -/
theorem gd_less {D : MT} {m' k : Nat} {A' : Nat → Nat → Int} {M' : Nat → Nat} {V' : Nat → Nat → Nat → Int} (hm : D.m = m' + 1) (hk : k < D.m)
    (hA : ∀ i, i < m' → ∀ j, 1 ≤ j → j < 3 → A' i j = D.A (skp k i) j) (hM : ∀ i, i < m' → M' i = D.M (skp k i)) (hV : ∀ i, i < m' → ∀ a, a < M' i → V' i a 0 = D.V (skp k i) a 0)
    {K : Nat → Nat} {W : Nat → Nat → Nat → Int} (h : gdB D D.m K W = true) : gdB ⟨D.n, D.jd, m', A', M', V'⟩ m' (fun i => K (skp k i)) (fun i => W (skp k i)) = true := by
  simp only [gdB, Bool.and_eq_true] at h ⊢
  obtain ⟨_, hW⟩ := foB_iff h.1
  have hs : ∀ i, i < m' → skp k i < D.m := fun i hi => by unfold skp; split <;> omega
  refine ⟨?_, allU_true fun i hi => ?_⟩
  · rw [foB, decide_eq_true rfl, Bool.and_true]
    refine allU_true fun i hi => allU_true fun a ha => in3_iff.2 ?_
    have := hW (skp k i) a (hs i hi) ha
    (try simp only []); omega
  · have h1 := allU_iff.1 h.2 (skp k i) (hs i hi)
    simp only [gC, Bool.and_eq_true] at h1 ⊢
    refine ⟨by simp only [hA i hi 2 (by omega) (by omega)]; exact h1.1, allU_true fun x hx => ?_⟩
    have h2 := allU_iff.1 h1.2 x hx
    simp only [gK, Bool.and_eq_true] at h2 ⊢
    obtain ⟨⟨a1, a2, a3⟩, a4, a5⟩ := h2
    refine ⟨⟨by simp only [hA i hi 1 (by omega) (by omega)]; exact a1, a2, ?_⟩, ?_, a5⟩
    · have b := of_decide_eq_true a3
      have c := tm_skp (K := K) (W := W) (j := W (skp k i) x 0) (k := k) m'
      have d := tmS_mono (K := K) (W := W) (j := W (skp k i) x 0) (show (if m' ≤ k then m' else m' + 1) ≤ D.m by split <;> omega)
      exact decide_eq_true (by omega)
    · simp only [hM i hi]
      refine allU_true fun a ha => ?_
      simp only [hV i hi a (by rw [hM i hi]; exact ha)]
      exact allU_iff.1 a4 a ha
end Go.Eng
end

/- panel: what PanelMore needs. -/
section
namespace Go.Eng
open Go Go.RowKit Go.Proofs
theorem ch_first {D : MT} {q : Nat} {K : Nat → Nat} {W : Nat → Nat → Nat → Int} (h0 : (chM D q K W).2 ≠ 0) (h1 : (chM D q K W).2 ≠ 1) (h2 : (chM D q K W).2 ≠ 2) :
    (chM D q K W).1 < q ∧ q = D.m ∧ D.m ≤ 4 ∧ chM ⟨D.n, D.jd, (chM D q K W).1, D.A, D.M, D.V⟩ (chM D q K W).1 K W = ((chM D q K W).1, 0) := by
  cases hB : mtB D.n D.jd D.m D.A D.M D.V with
  | false => exact absurd (by rw [chM_1 hB]) h1
  | true =>
  cases hf : foB D.n D.m q K W with
  | false => exact absurd (by rw [chM_2 hB hf]) h2
  | true =>
  have hc := chM_3 hB hf
  obtain ⟨hq, hW⟩ := foB_iff hf
  have hD := mt_ok hB
  have hp := fs0_p (e := fun i => erR D i K W) (r := q) (i := 0) (by rw [← hc]; exact h0)
  rw [← hc] at hp
  obtain ⟨c, hcc⟩ : ∃ c, (chM D q K W).1 = c := ⟨_, rfl⟩
  rw [hcc] at hp ⊢
  obtain ⟨hp1, hp2⟩ := hp
  have hm4 := hD.m
  refine ⟨by omega, hq, hm4, ?_⟩
  have hB1 : mtB D.n D.jd c D.A D.M D.V = true := by
    simp only [mtB, Bool.and_eq_true, decide_eq_true_eq] at hB ⊢
    exact ⟨hB.1, by omega, hB.2.2.1, allU_true fun i hi => allU_iff.1 hB.2.2.2 i (by omega)⟩
  have hf1 : foB D.n c c K W = true := by
    rw [foB, decide_eq_true rfl, Bool.and_true]
    refine allU_true fun i hi => allU_true fun a ha => in3_iff.2 ?_
    have := hW i a (by omega) ha
    omega
  rw [chM_3 (D := ⟨D.n, D.jd, c, D.A, D.M, D.V⟩) hB1 hf1]
  have hz : (fs0 (fun i => erR ⟨D.n, D.jd, c, D.A, D.M, D.V⟩ i K W) c 0).2 = 0 := fs0_z.2 fun j _ hj => hp2 j (Nat.zero_le _) (by omega)
  have hn := fs0_n hz
  rw [Nat.zero_add] at hn
  exact Prod.ext hn hz
theorem mt_less {D : MT} {m' k : Nat} {A' : Nat → Nat → Int} {M' : Nat → Nat} {V' : Nat → Nat → Nat → Int} (hm : D.m = m' + 1) (hk : k < D.m)
    (hA : ∀ i, i < m' → ∀ j, 1 ≤ j → j < 3 → A' i j = D.A (skp k i) j) (hM : ∀ i, i < m' → M' i = D.M (skp k i)) (hV : ∀ i, i < m' → ∀ a, a < M' i → V' i a 0 = D.V (skp k i) a 0)
    (h : mtB D.n D.jd D.m D.A D.M D.V = true) : mtB D.n D.jd m' A' M' V' = true := by
  simp only [mtB, Bool.and_eq_true, decide_eq_true_eq] at h ⊢
  refine ⟨h.1, by omega, h.2.2.1, allU_true fun i hi => ?_⟩
  have hs : skp k i < D.m := by unfold skp; split <;> omega
  have h1 := allU_iff.1 h.2.2.2 (skp k i) hs
  simp only [ctB, Bool.and_eq_true, decide_eq_true_eq] at h1 ⊢
  refine ⟨by rw [hM i hi]; exact h1.1, allU_true fun a ha => ?_, by rw [hA i hi 1 (by omega) (by omega)]; exact h1.2.2.1, by rw [hA i hi 2 (by omega) (by omega)]; exact h1.2.2.2⟩
  rw [hV i hi a ha]
  exact allU_iff.1 h1.2.1 a (by rw [← hM i hi]; exact ha)
/-- With a judge more there is a seating, too. -/
theorem st_more {D : MT} {jd' : Nat → Nat → Int} (hj : ∀ i, i < D.n → ∀ j, j < 3 → jd' i j = D.jd i j) (h : (stM D).2 = 0) : (stM ⟨D.n + 1, jd', D.m, D.A, D.M, D.V⟩).2 ≠ 4 := by
  obtain ⟨_, _, hg⟩ := st_sound h
  cases hB : mtB (D.n + 1) jd' D.m D.A D.M D.V with
  | false =>
    have := (st_mt (D := ⟨D.n + 1, jd', D.m, D.A, D.M, D.V⟩)).2 hB
    omega
  | true =>
    have := (st_good (D := ⟨D.n + 1, jd', D.m, D.A, D.M, D.V⟩) hB (gd_more hj hg)).1
    omega
/-- And with a contest less. -/
theorem st_less {D : MT} {m' k : Nat} {A' : Nat → Nat → Int} {M' : Nat → Nat} {V' : Nat → Nat → Nat → Int} (hm : D.m = m' + 1) (hk : k < D.m)
    (hA : ∀ i, i < m' → ∀ j, 1 ≤ j → j < 3 → A' i j = D.A (skp k i) j) (hM : ∀ i, i < m' → M' i = D.M (skp k i)) (hV : ∀ i, i < m' → ∀ a, a < M' i → V' i a 0 = D.V (skp k i) a 0)
    (h : (stM D).2 = 0) : (stM ⟨D.n, D.jd, m', A', M', V'⟩).2 = 0 := by
  obtain ⟨hB, _, hg⟩ := st_sound h
  exact (st_good (D := ⟨D.n, D.jd, m', A', M', V'⟩) (mt_less (D := D) hm hk hA hM hV hB) (gd_less (D := D) hm hk hA hM hV hg)).1
end Go.Eng
end

/- An own slice inside a struct that is handed over for good. -/
section
namespace Go.Eng
open Go Go.RowKit Go.Proofs
set_option maxRecDepth 100000
set_option maxHeartbeats 4000000
attribute [local irreducible] OwnT DefS
theorem calls_giveX {P : Program} {g : Nat} {l1 l2 : List SV} {x y : SV} {h : HS} {K : Out → HS → Prop} {id : Nat} (hxy : ∀ E w v, RelH E h w → Den E w x v → Den (E.give id) w y v)
    (hc : CallsS P g (l1 ++ y :: l2) { h with vecs := setV h.vecs id .dead } K) : CallsS P g (l1 ++ x :: l2) h K := fun E w vals hr hd => by
  have hx := give_ext E id w
  refine (hc (E.give id) w vals (give_rel hr id) ⟨by rw [hd.1]; simp, fun i z u hy hu => ?_⟩).mono ?_
  · rcases Nat.lt_trichotomy i l1.length with hi | hi | hi
    · rw [List.getElem?_append_left hi] at hy
      exact (hd.2 i z u (by rw [List.getElem?_append_left hi]; exact hy) hu).ext hx
    · subst hi
      rw [List.getElem?_append_right (Nat.le_refl _)] at hy
      simp only [Nat.sub_self, List.getElem?_cons_zero, Option.some.injEq] at hy
      subst hy
      exact hxy E w u hr (hd.2 l1.length _ u (by rw [List.getElem?_append_right (Nat.le_refl _)]; simp) hu)
    · rw [List.getElem?_append_right (by omega)] at hy
      obtain ⟨k, hk⟩ : ∃ k, i - l1.length = k + 1 := ⟨i - l1.length - 1, by omega⟩
      rw [hk, List.getElem?_cons_succ] at hy
      exact (hd.2 i z u (by rw [List.getElem?_append_right (by omega), hk, List.getElem?_cons_succ]; exact hy) hu).ext hx
  · rintro e w' ⟨o, h', E', q, r1, r2, r3⟩
    exact ⟨o, h', E', q, r1, hx.trans r2, r3⟩
theorem give_agg {h : HS} {c1 c2 : List SV} {id ver ty sz n f} (hg : getV h.vecs id = .live ver ty sz n f) (E : Env) (w : World) (v : Value) (hr : RelH E h w) (hd : Den E w (.agg (c1 ++ .vec id ver :: c2)) v) : Den (E.give id) w (.agg (c1 ++ .row n sz f :: c2)) v := by
  have hx := give_ext E id w
  cases hd with
  | agg vs hs h1 hd =>
    refine .agg vs (by rw [hs]; simp) h1 (fun i z u hy hu => ?_)
    rcases Nat.lt_trichotomy i c1.length with hi | hi | hi
    · rw [List.getElem?_append_left hi] at hy
      exact (hd i z u (by rw [List.getElem?_append_left hi]; exact hy) hu).ext hx
    · subst hi
      rw [List.getElem?_append_right (Nat.le_refl _)] at hy
      simp only [Nat.sub_self, List.getElem?_cons_zero, Option.some.injEq] at hy
      subst hy
      exact give_den hr hg (hd c1.length _ u (by rw [List.getElem?_append_right (Nat.le_refl _)]; simp) hu)
    · rw [List.getElem?_append_right (by omega)] at hy
      obtain ⟨k, hk⟩ : ∃ k, i - c1.length = k + 1 := ⟨i - c1.length - 1, by omega⟩
      rw [hk, List.getElem?_cons_succ] at hy
      exact (hd i z u (by rw [List.getElem?_append_right (by omega), hk, List.getElem?_cons_succ]; exact hy) hu).ext hx
/-- A cell of a struct argument is given for good. -/
theorem calls_giveA {P : Program} {g : Nat} {l1 l2 c1 c2 : List SV} {h : HS} {K : Out → HS → Prop} {id ver ty sz n f} (hg : getV h.vecs id = .live ver ty sz n f)
    (hc : CallsS P g (l1 ++ .agg (c1 ++ .row n sz f :: c2) :: l2) { h with vecs := setV h.vecs id .dead } K) : CallsS P g (l1 ++ .agg (c1 ++ .vec id ver :: c2) :: l2) h K :=
  calls_giveX (give_agg hg) hc
end Go.Eng
end

/- panel: PanelMore. -/
section
namespace Go.Eng
open Go Go.RowKit Go.Proofs
set_option maxRecDepth 100000
set_option maxHeartbeats 4000000
attribute [local irreducible] OwnT DefS
theorem seat_nb {n m : Nat} {jd A : Nat → Nat → Int} {M : Nat → Nat} {V : Nat → Nat → Nat → Int} (hn : n ≤ 1000000) (hm : m ≤ 1000000) (h : HS) :
    CallsS Try.prog 14 [.agg [.row n 3 (fun i j => .int .i64 (jd i j)), .row m 3 (nestF 0 1 A M V)]] h (fun o h' => o = .ret (stR (stM ⟨n, jd, m, nsA (nestF 0 1 A M V), M, V⟩)) ∧ h' = h) := by
  have := bareS_ok Seat_base [.agg [.row n 3 (fun i j => .int .i64 (jd i j)), .row m 3 (nestF 0 1 A M V)]] h _ _ h rfl ⟨⟨rfl, fun _ _ _ _ => rfl⟩, ⟨rfl, of_eq_true (nestR_lit _ _ _ _ _ _ _)⟩, hn, hm⟩
  simp only [nsM_lit, nsV_lit] at this
  exact this
theorem seat_ownJ {n m : Nat} {jd A : Nat → Nat → Int} {M : Nat → Nat} {V : Nat → Nat → Nat → Int} (hn : n ≤ 1000000) (hm : m ≤ 1000000) (h : HS) {k v ty : Nat} {F : Nat → Nat → SV} (hk : getV h.vecs k = .live v ty 3 n F) (hF : ∀ i j, i < n → j < 3 → F i j = .int .i64 (jd i j)) :
    CallsS Try.prog 14 [.agg [.vec k v, .row m 3 (nestF 0 1 A M V)]] h (fun o h' => o = .ret (stR (stM ⟨n, jd, m, nsA (nestF 0 1 A M V), M, V⟩)) ∧ h' = { h with vecs := setV h.vecs k .dead }) := by
  refine calls_giveA (l1 := []) (l2 := []) (c1 := []) (c2 := [.row m 3 (nestF 0 1 A M V)]) hk ?_
  refine calls_congr (args' := [.agg [.row n 3 (fun i j => .int .i64 (jd i j)), .row m 3 (nestF 0 1 A M V)]]) ⟨SameD.agg ⟨SameD.rowD fun i j hi hj => by rw [hF i j hi hj]; exact SameD.rfl' _, SameD.rfl' _, trivial⟩, trivial⟩ ?_
  exact seat_nb hn hm _
theorem seat_ownC {n m : Nat} {jd A : Nat → Nat → Int} {M : Nat → Nat} {V : Nat → Nat → Nat → Int} (hn : n ≤ 1000000) (hm : m ≤ 1000000) (h : HS) {k v ty : Nat} {F : Nat → Nat → SV} (hk : getV h.vecs k = .live v ty 3 m F) (hF : ∀ i j, i < m → j < 3 → F i j = nestF 0 1 A M V i j) :
    CallsS Try.prog 14 [.agg [.row n 3 (fun i j => .int .i64 (jd i j)), .vec k v]] h (fun o h' => o = .ret (stR (stM ⟨n, jd, m, nsA (nestF 0 1 A M V), M, V⟩)) ∧ h' = { h with vecs := setV h.vecs k .dead }) := by
  refine calls_giveA (l1 := []) (l2 := []) (c1 := [.row n 3 (fun i j => .int .i64 (jd i j))]) (c2 := []) hk ?_
  refine calls_congr (args' := [.agg [.row n 3 (fun i j => .int .i64 (jd i j)), .row m 3 (nestF 0 1 A M V)]]) ⟨SameD.agg ⟨SameD.rfl' _, SameD.rowD fun i j hi hj => by rw [hF i j hi hj]; exact SameD.rfl' _, trivial⟩, trivial⟩ ?_
  exact seat_nb hn hm _
/-- The judges, and one more. -/
def moF (n : Nat) (jd : Nat → Nat → Int) (a b c : Int) (i j : Nat) : Int := if i < n then jd i j else if j = 0 then a else if j = 1 then b else c
theorem more_F {n : Nat} {jd : Nat → Nat → Int} {a b c : Int} : ∀ i j, i < n + 1 → j < 3 → catF n (catF 0 (fun _ _ => .any) (fun i j => .int .i64 (jd i j))) (oneF [.int .i64 a, .int .i64 b, .int .i64 c]) i j = .int .i64 (moF n jd a b c i j) := fun i j hi hj => by
  unfold moF catF
  by_cases h : i < n
  · rw [if_pos h, if_pos h, if_neg (by omega)]; rfl
  · rw [if_neg h, if_neg h]
    rcases (by omega : j = 0 ∨ j = 1 ∨ j = 2) with rfl | rfl | rfl <;> rfl
theorem less_F {m' k : Nat} {A : Nat → Nat → Int} {M : Nat → Nat} {V : Nat → Nat → Nat → Int} : ∀ i j, i < k + (m' + 1 - (k + 1)) → j < 3 → catF k (catF 0 (fun _ _ => .any) (nestF 0 1 A M V)) (fun i j => if j = 0 then SV.row (M (k + 1 + i)) 1 (fun a b => .int .i64 (V (k + 1 + i) a b)) else .int .i64 (A (k + 1 + i) j)) i j = nestF 0 1 (fun i => A (skp k i)) (fun i => M (skp k i)) (fun i => V (skp k i)) i j := fun i j hi hj => by
  unfold catF skp
  by_cases h : i < k
  · rw [if_pos h, if_neg (by omega)]
    simp only [nestF, if_pos h]; rfl
  · have e : k + 1 + (i - k) = i + 1 := by omega
    rw [if_neg h]
    simp only [e, nestF, if_neg h]
def panelMoreBase : BaseF := fun args => match args with
  | [.agg [.row n sz_jd f_jd, .row m sz_A f_A], .agg [.int .i64 mo1, .int .i64 mo2, .int .i64 mo3], .int .u8 w, .row q sz_B f_B] => some ((sz_jd = 3 ∧ IntR n 3 f_jd) ∧ (sz_A = 3 ∧ NestR m 3 0 1 f_A) ∧ ((Lit.int .u8 w).wf = true) ∧ (sz_B = 1 ∧ NestR q 1 0 1 f_B), .bool true)
  | _ => none
theorem panelMore_base : Base Try.prog 6 panelMoreBase := by
  intro args p v hq hp
  unfold panelMoreBase at hq
  split at hq
  rotate_left
  · cases hq
  rename_i n sz_jd f_jd m sz_A f_A mo1 mo2 mo3 w q sz_B f_B
  cases hq
  obtain ⟨⟨rfl, i_jd⟩, ⟨rfl, i_A⟩, wf_w, ⟨rfl, i_B⟩⟩ := hp
  refine base_of (C := cx [14] [] [(11, largeBase), (12, longerBase), (13, awakeBase), (16, checkBase)] [(6, 9, p6_9), (6, 16, p6_16), (6, 24, p6_24)] none) (cx_ok trivial ⟨large_base, longer_base, awake_base, check_base, trivial⟩) rfl (g := 6) (fn := Try.f6)
    (args' := [.agg [.row n 3 (rowF .i64 (ivf f_jd)), .row m 3 (nestF 0 1 (nsA f_A) (nsM 0 f_A) (nsV 0 f_A))], .agg [.int .i64 mo1, .int .i64 mo2, .int .i64 mo3], .int .u8 w, .row q 1 (nestF 0 1 (nsA f_B) (nsM 0 f_B) (nsV 0 f_B))]) (fn_6) rfl 1000 (by
    simp only [BdL, Bd, and_self, and_true, true_and]
    exact ⟨⟨(fun i j hi hj => by rw [i_jd i j hi hj]; trivial), (fun i j hi hj => nest_bd i_A i j hi hj)⟩, (fun i j hi hj => nest_bd i_B i j hi hj)⟩) ⟨SameD.agg ⟨SameD.int i_jd, SameD.nest i_A, trivial⟩, SameD.rfl' _, SameD.rfl' _, SameD.nest i_B, trivial⟩ ?_
  generalize ivf f_jd = jd
  generalize nsA f_A = A
  generalize nsM 0 f_A = M
  generalize nsV 0 f_A = V
  generalize nsA f_B = B
  generalize nsM 0 f_B = K
  generalize nsV 0 f_B = W
  simp only [rowF_eq]
  cases c1 : laB n m M with
  | true =>
    simp only [c1, large_eq, longer_eq, awake_eq, check_eq, p6_9, p6_16, p6_24, nestF_eq, nestR_lit, nsM_lit, nsV_lit, stR, stF_eq, Try.f6, go_sem, ↓reduceIte, Nat.reduceAdd, Nat.reduceSub, Nat.reduceMul, Nat.reduceEqDiff, Nat.reduceLT, Nat.reduceLeDiff, Int.reduceToNat, Int.reduceLE, Int.reduceLT, Int.reduceEq, Int.reduceNeg, reduceCtorEq]
  | false =>
  cases c2 : lgB q K 8 8 with
  | true =>
    simp only [c1, c2, large_eq, longer_eq, awake_eq, check_eq, p6_9, p6_16, p6_24, nestF_eq, nestR_lit, nsM_lit, nsV_lit, stR, stF_eq, Try.f6, go_sem, ↓reduceIte, Nat.reduceAdd, Nat.reduceSub, Nat.reduceMul, Nat.reduceEqDiff, Nat.reduceLT, Nat.reduceLeDiff, Int.reduceToNat, Int.reduceLE, Int.reduceLT, Int.reduceEq, Int.reduceNeg, reduceCtorEq]
  | false =>
  obtain ⟨b1, b2⟩ := laB_false c1
  obtain ⟨b3, b4⟩ := lgB_false c2
  have b6 : ∀ i, i < q → K i ≤ 1000 := fun i hi => by have := b4 i hi; omega
  obtain ⟨D, hD⟩ : ∃ D : MT, D = ⟨n, jd, m, nsA (nestF 0 1 A M V), M, V⟩ := ⟨_, rfl⟩
  have hDn : D.n = n := by rw [hD]
  have hDm : D.m = m := by rw [hD]
  have hDA : D.A = nsA (nestF 0 1 A M V) := by rw [hD]
  have hDM : D.M = M := by rw [hD]
  have hDV : D.V = V := by rw [hD]
  have hDj : D.jd = jd := by rw [hD]
  have hcf := ch_first (D := D) (q := q) (K := K) (W := W)
  rw [hDn, hDm, hDA, hDM, hDV, hDj] at hcf
  obtain ⟨C, hC⟩ : ∃ C, chM D q K W = C := ⟨_, rfl⟩
  rw [hC] at hcf
  obtain ⟨S, e, hS⟩ : ∃ S e, stM D = (S, e) := ⟨_, _, rfl⟩
  have key : ∀ P : Prop, (∀ z0 z1 z2 : Bool, decide (C.2 = 0) = z0 → decide (C.2 = 1) = z1 → decide (C.2 = 2) = z2 → (z0 = true ∨ z0 = false ∧ z1 = true ∨ z0 = false ∧ z1 = false ∧ z2 = true) → P) → (decide (C.2 = 0) = false → decide (C.2 = 1) = false → decide (C.2 = 2) = false → P) → P := fun P a b => by
    cases h0 : decide (C.2 = 0) with
    | true => exact a _ _ _ h0 rfl rfl (.inl rfl)
    | false =>
    cases h1 : decide (C.2 = 1) with
    | true => exact a _ _ _ h0 h1 rfl (.inr (.inl ⟨rfl, rfl⟩))
    | false =>
    cases h2 : decide (C.2 = 2) with
    | true => exact a _ _ _ h0 h1 h2 (.inr (.inr ⟨rfl, rfl, rfl⟩))
    | false => exact b h0 h1 h2
  have g1 := st_err D
  have g2 := fun jd' hj => st_more (D := D) (jd' := jd') hj
  have g3 := fun m' k A' M' V' hm hk hA hM hV => st_less (D := D) (m' := m') (k := k) (A' := A') (M' := M') (V' := V') hm hk hA hM hV
  simp only [hS, hDn, hDm, hDA, hDM, hDV, hDj] at g1 g2 g3
  have e40 : decide ((4 : Int) = 0) = false := rfl
  have e41 : decide ((4 : Int) = 1) = false := rfl
  have e44 : decide ((4 : Int) = 4) = true := rfl
  have e10 : decide ((1 : Int) = 0) = false := rfl
  have e11 : decide ((1 : Int) = 1) = true := rfl
  have e00 : decide ((0 : Int) = 0) = true := rfl
  obtain ⟨w', rfl⟩ : ∃ w' : Nat, w = (w' : Int) := ⟨w.toNat, by simp [Lit.wf, IntKind.min, IntKind.max, IntKind.signed, IntKind.bits] at wf_w; omega⟩
  have hw' : w' ≤ 255 := by simp [Lit.wf, IntKind.min, IntKind.max, IntKind.signed, IntKind.bits] at wf_w; omega
  apply key
  · intro z0 z1 z2 f0 f1 f2 hz
    rcases hz with rfl | ⟨rfl, rfl⟩ | ⟨rfl, rfl, rfl⟩
    all_goals simp only [c1, c2, ← hD, hC, f0, f1, f2, large_eq, longer_eq, awake_eq, check_eq, p6_9, p6_16, p6_24, nestF_eq, nestR_lit, nsM_lit, nsV_lit, stR, stF_eq, Try.f6, go_sem, ↓reduceIte, Nat.reduceAdd, Nat.reduceSub, Nat.reduceMul, Nat.reduceEqDiff, Nat.reduceLT, Nat.reduceLeDiff, Int.reduceToNat, Int.reduceLE, Int.reduceLT, Int.reduceEq, Int.reduceNeg, reduceCtorEq]
    all_goals refine ⟨⟨by omega, by omega, by omega, b6⟩, ?_⟩
    all_goals
      unfold callS
      refine calls_mono ?_ (seat_nb (by omega) (by omega) _)
      rintro o h' ⟨rfl, rfl⟩
      rcases g1 with rfl | ⟨rfl, rfl⟩ | ⟨rfl, rfl⟩
      rotate_left
      · simp only [← hD, hS, e40, e41, e44, large_eq, longer_eq, awake_eq, check_eq, p6_9, p6_16, p6_24, nestF_eq, nestR_lit, nsM_lit, nsV_lit, stR, stF_eq, Try.f6, go_sem, ↓reduceIte, Nat.reduceAdd, Nat.reduceSub, Nat.reduceMul, Nat.reduceEqDiff, Nat.reduceLT, Nat.reduceLeDiff, Int.reduceToNat, Int.reduceLE, Int.reduceLT, Int.reduceEq, Int.reduceNeg, reduceCtorEq]
      · simp only [← hD, hS, e10, e11, large_eq, longer_eq, awake_eq, check_eq, p6_9, p6_16, p6_24, nestF_eq, nestR_lit, nsM_lit, nsV_lit, stR, stF_eq, Try.f6, go_sem, ↓reduceIte, Nat.reduceAdd, Nat.reduceSub, Nat.reduceMul, Nat.reduceEqDiff, Nat.reduceLT, Nat.reduceLeDiff, Int.reduceToNat, Int.reduceLE, Int.reduceLT, Int.reduceEq, Int.reduceNeg, reduceCtorEq]
      simp only [← hD, hS, e00, large_eq, longer_eq, awake_eq, check_eq, p6_9, p6_16, p6_24, nestF_eq, nestR_lit, nsM_lit, nsV_lit, stR, stF_eq, Try.f6, go_sem, ↓reduceIte, Nat.reduceAdd, Nat.reduceSub, Nat.reduceMul, Nat.reduceEqDiff, Nat.reduceLT, Nat.reduceLeDiff, Int.reduceToNat, Int.reduceLE, Int.reduceLT, Int.reduceEq, Int.reduceNeg, reduceCtorEq]
      have g4 := g2 (moF n jd mo1 mo2 mo3) (fun i hi j hj => by rw [moF, if_pos hi]) rfl
      obtain ⟨S2, x2, hS2⟩ : ∃ S e, stM ⟨n + 1, moF n jd mo1 mo2 mo3, m, nsA (nestF 0 1 A M V), M, V⟩ = (S, e) := ⟨_, _, rfl⟩
      rw [hS2] at g4
      have x4 : decide (x2 = 4) = false := decide_eq_false g4
      refine ⟨⟨by kernel_rfl, by kernel_rfl⟩, ?_⟩
      refine ⟨⟨⟨⟨by omega, by omega⟩, ⟨by omega, by omega⟩, ?_⟩, ⟨by omega, by omega⟩, ⟨by omega, by omega⟩, ?_⟩, ⟨by omega, by omega⟩, ⟨by omega, by omega⟩, ?_⟩
      all_goals
        unfold callS
        refine calls_mono ?_ (seat_ownJ (jd := moF n jd mo1 mo2 mo3) (by omega) (by omega) _ rfl more_F)
        rintro o h' ⟨rfl, rfl⟩
        cases m with
        | zero =>
          have m0 : decide (((0 : Nat) : Int) = 0) = true := rfl
          simp only [hS2, x4, m0, large_eq, longer_eq, awake_eq, check_eq, p6_9, p6_16, p6_24, nestF_eq, nestR_lit, nsM_lit, nsV_lit, stR, stF_eq, Try.f6, go_sem, ↓reduceIte, Nat.reduceAdd, Nat.reduceSub, Nat.reduceMul, Nat.reduceEqDiff, Nat.reduceLT, Nat.reduceLeDiff, Int.reduceToNat, Int.reduceLE, Int.reduceLT, Int.reduceEq, Int.reduceNeg, reduceCtorEq]
        | succ m' =>
          have m0 : decide (((m' + 1 : Nat) : Int) = 0) = false := decide_eq_false (by omega)
          have hr : ((w' : Nat) : Int).tmod ((m' + 1 : Nat) : Int) = ((w' % (m' + 1) : Nat) : Int) := rfl
          have hk := Nat.mod_lt w' (show 0 < m' + 1 by omega)
          have ww : IntKind.i64.wrap ((w' : Nat) : Int) = (w' : Int) := wrap_id (by omega) (by omega)
          have wk : IntKind.i64.wrap (((w' % (m' + 1) : Nat) : Int) + 1) = ((w' % (m' + 1) + 1 : Nat) : Int) := by rw [wrap_id (by omega) (by omega)]; omega
          have g5 := g3 (w' % (m' + 1) + (m' + 1 - (w' % (m' + 1) + 1))) (w' % (m' + 1)) (nsA (nestF 0 1 (fun i => A (skp (w' % (m' + 1)) i)) (fun i => M (skp (w' % (m' + 1)) i)) (fun i => V (skp (w' % (m' + 1)) i)))) (fun i => M (skp (w' % (m' + 1)) i)) (fun i => V (skp (w' % (m' + 1)) i)) (by omega) hk (fun i _ j h1 _ => by rw [nsA_lit i (show j ≠ 0 by omega), nsA_lit _ (show j ≠ 0 by omega)]) (fun _ _ => rfl) (fun _ _ _ _ => rfl) rfl
          simp only [hS2, x4, m0, hr, ww, wk, large_eq, longer_eq, awake_eq, check_eq, p6_9, p6_16, p6_24, nestF_eq, nestR_lit, nsM_lit, nsV_lit, stR, stF_eq, Try.f6, go_sem, ↓reduceIte, Nat.reduceAdd, Nat.reduceSub, Nat.reduceMul, Nat.reduceEqDiff, Nat.reduceLT, Nat.reduceLeDiff, Int.reduceToNat, Int.reduceLE, Int.reduceLT, Int.reduceEq, Int.reduceNeg, reduceCtorEq]
          refine ⟨by omega, ⟨by kernel_rfl, by kernel_rfl⟩, ⟨by omega, by omega⟩, ⟨by omega, by omega⟩, ⟨⟨by omega, by omega⟩, ⟨by omega, by omega⟩⟩, ⟨by omega, by omega⟩, ⟨by omega, by omega⟩, ⟨by omega, by omega⟩, ?_⟩
          unfold callS
          refine calls_mono ?_ (seat_ownC (by omega) (by omega) _ rfl less_F)
          rintro o h' ⟨rfl, rfl⟩
          obtain ⟨S3, x3, hS3⟩ : ∃ S e, stM ⟨n, jd, w' % (m' + 1) + (m' + 1 - (w' % (m' + 1) + 1)), nsA (nestF 0 1 (fun i => A (skp (w' % (m' + 1)) i)) (fun i => M (skp (w' % (m' + 1)) i)) (fun i => V (skp (w' % (m' + 1)) i))), fun i => M (skp (w' % (m' + 1)) i), fun i => V (skp (w' % (m' + 1)) i)⟩ = (S, e) := ⟨_, _, rfl⟩
          rw [hS3] at g5
          obtain rfl : x3 = 0 := g5
          simp only [hS3, e00, large_eq, longer_eq, awake_eq, check_eq, p6_9, p6_16, p6_24, nestF_eq, nestR_lit, nsM_lit, nsV_lit, stR, stF_eq, Try.f6, go_sem, ↓reduceIte, Nat.reduceAdd, Nat.reduceSub, Nat.reduceMul, Nat.reduceEqDiff, Nat.reduceLT, Nat.reduceLeDiff, Int.reduceToNat, Int.reduceLE, Int.reduceLT, Int.reduceEq, Int.reduceNeg, reduceCtorEq]
  · intro f0 f1 f2
    obtain ⟨k1, k2, k3, k4⟩ := hcf (of_decide_eq_false f0) (of_decide_eq_false f1) (of_decide_eq_false f2)
    have l1 : decide ((C.1 : Int) < 0) = false := decide_eq_false (by omega)
    have l2 : decide ((q : Int) ≤ (C.1 : Int)) = false := decide_eq_false (by omega)
    have l3 : decide ((C.1 : Int) = (C.1 : Int)) = true := decide_eq_true rfl
    have l4 : decide ((0 : Int) = 0) = true := rfl
    simp only [c1, c2, ← hD, hC, f0, f1, f2, k4, l1, l2, l3, l4, large_eq, longer_eq, awake_eq, check_eq, p6_9, p6_16, p6_24, nestF_eq, nestR_lit, nsM_lit, nsV_lit, stR, stF_eq, Try.f6, go_sem, ↓reduceIte, Nat.reduceAdd, Nat.reduceSub, Nat.reduceMul, Nat.reduceEqDiff, Nat.reduceLT, Nat.reduceLeDiff, Int.reduceToNat, Int.reduceLE, Int.reduceLT, Int.reduceEq, Int.reduceNeg, reduceCtorEq]
    refine ⟨⟨by omega, by omega, by omega, b6⟩, ⟨by omega, by omega⟩, ?_, ⟨by omega, by omega⟩, ⟨by omega, by omega, by omega, fun i hi => b6 i (by omega)⟩, ?_⟩
    · exact ⟨by kernel_rfl, by kernel_rfl⟩
    unfold callS
    refine calls_mono ?_ (seat_nb (by omega) (by omega) _)
    rintro o h' ⟨rfl, rfl⟩
    rcases g1 with rfl | ⟨rfl, rfl⟩ | ⟨rfl, rfl⟩
    rotate_left
    · simp only [← hD, hS, e40, e41, e44, large_eq, longer_eq, awake_eq, check_eq, p6_9, p6_16, p6_24, nestF_eq, nestR_lit, nsM_lit, nsV_lit, stR, stF_eq, Try.f6, go_sem, ↓reduceIte, Nat.reduceAdd, Nat.reduceSub, Nat.reduceMul, Nat.reduceEqDiff, Nat.reduceLT, Nat.reduceLeDiff, Int.reduceToNat, Int.reduceLE, Int.reduceLT, Int.reduceEq, Int.reduceNeg, reduceCtorEq]
    · simp only [← hD, hS, e10, e11, large_eq, longer_eq, awake_eq, check_eq, p6_9, p6_16, p6_24, nestF_eq, nestR_lit, nsM_lit, nsV_lit, stR, stF_eq, Try.f6, go_sem, ↓reduceIte, Nat.reduceAdd, Nat.reduceSub, Nat.reduceMul, Nat.reduceEqDiff, Nat.reduceLT, Nat.reduceLeDiff, Int.reduceToNat, Int.reduceLE, Int.reduceLT, Int.reduceEq, Int.reduceNeg, reduceCtorEq]
    simp only [← hD, hS, e00, large_eq, longer_eq, awake_eq, check_eq, p6_9, p6_16, p6_24, nestF_eq, nestR_lit, nsM_lit, nsV_lit, stR, stF_eq, Try.f6, go_sem, ↓reduceIte, Nat.reduceAdd, Nat.reduceSub, Nat.reduceMul, Nat.reduceEqDiff, Nat.reduceLT, Nat.reduceLeDiff, Int.reduceToNat, Int.reduceLE, Int.reduceLT, Int.reduceEq, Int.reduceNeg, reduceCtorEq]
    have g4 := g2 (moF n jd mo1 mo2 mo3) (fun i hi j hj => by rw [moF, if_pos hi]) rfl
    obtain ⟨S2, x2, hS2⟩ : ∃ S e, stM ⟨n + 1, moF n jd mo1 mo2 mo3, m, nsA (nestF 0 1 A M V), M, V⟩ = (S, e) := ⟨_, _, rfl⟩
    rw [hS2] at g4
    have x4 : decide (x2 = 4) = false := decide_eq_false g4
    refine ⟨⟨by kernel_rfl, by kernel_rfl⟩, ?_⟩
    refine ⟨⟨⟨⟨by omega, by omega⟩, ⟨by omega, by omega⟩, ?_⟩, ⟨by omega, by omega⟩, ⟨by omega, by omega⟩, ?_⟩, ⟨by omega, by omega⟩, ⟨by omega, by omega⟩, ?_⟩
    all_goals
      unfold callS
      refine calls_mono ?_ (seat_ownJ (jd := moF n jd mo1 mo2 mo3) (by omega) (by omega) _ rfl more_F)
      rintro o h' ⟨rfl, rfl⟩
      cases m with
      | zero =>
        have m0 : decide (((0 : Nat) : Int) = 0) = true := rfl
        simp only [hS2, x4, m0, large_eq, longer_eq, awake_eq, check_eq, p6_9, p6_16, p6_24, nestF_eq, nestR_lit, nsM_lit, nsV_lit, stR, stF_eq, Try.f6, go_sem, ↓reduceIte, Nat.reduceAdd, Nat.reduceSub, Nat.reduceMul, Nat.reduceEqDiff, Nat.reduceLT, Nat.reduceLeDiff, Int.reduceToNat, Int.reduceLE, Int.reduceLT, Int.reduceEq, Int.reduceNeg, reduceCtorEq]
      | succ m' =>
        have m0 : decide (((m' + 1 : Nat) : Int) = 0) = false := decide_eq_false (by omega)
        have hr : ((w' : Nat) : Int).tmod ((m' + 1 : Nat) : Int) = ((w' % (m' + 1) : Nat) : Int) := rfl
        have hk := Nat.mod_lt w' (show 0 < m' + 1 by omega)
        have ww : IntKind.i64.wrap ((w' : Nat) : Int) = (w' : Int) := wrap_id (by omega) (by omega)
        have wk : IntKind.i64.wrap (((w' % (m' + 1) : Nat) : Int) + 1) = ((w' % (m' + 1) + 1 : Nat) : Int) := by rw [wrap_id (by omega) (by omega)]; omega
        have g5 := g3 (w' % (m' + 1) + (m' + 1 - (w' % (m' + 1) + 1))) (w' % (m' + 1)) (nsA (nestF 0 1 (fun i => A (skp (w' % (m' + 1)) i)) (fun i => M (skp (w' % (m' + 1)) i)) (fun i => V (skp (w' % (m' + 1)) i)))) (fun i => M (skp (w' % (m' + 1)) i)) (fun i => V (skp (w' % (m' + 1)) i)) (by omega) hk (fun i _ j h1 _ => by rw [nsA_lit i (show j ≠ 0 by omega), nsA_lit _ (show j ≠ 0 by omega)]) (fun _ _ => rfl) (fun _ _ _ _ => rfl) rfl
        simp only [hS2, x4, m0, hr, ww, wk, large_eq, longer_eq, awake_eq, check_eq, p6_9, p6_16, p6_24, nestF_eq, nestR_lit, nsM_lit, nsV_lit, stR, stF_eq, Try.f6, go_sem, ↓reduceIte, Nat.reduceAdd, Nat.reduceSub, Nat.reduceMul, Nat.reduceEqDiff, Nat.reduceLT, Nat.reduceLeDiff, Int.reduceToNat, Int.reduceLE, Int.reduceLT, Int.reduceEq, Int.reduceNeg, reduceCtorEq]
        refine ⟨by omega, ⟨by kernel_rfl, by kernel_rfl⟩, ⟨by omega, by omega⟩, ⟨by omega, by omega⟩, ⟨⟨by omega, by omega⟩, ⟨by omega, by omega⟩⟩, ⟨by omega, by omega⟩, ⟨by omega, by omega⟩, ⟨by omega, by omega⟩, ?_⟩
        unfold callS
        refine calls_mono ?_ (seat_ownC (by omega) (by omega) _ rfl less_F)
        rintro o h' ⟨rfl, rfl⟩
        obtain ⟨S3, x3, hS3⟩ : ∃ S e, stM ⟨n, jd, w' % (m' + 1) + (m' + 1 - (w' % (m' + 1) + 1)), nsA (nestF 0 1 (fun i => A (skp (w' % (m' + 1)) i)) (fun i => M (skp (w' % (m' + 1)) i)) (fun i => V (skp (w' % (m' + 1)) i))), fun i => M (skp (w' % (m' + 1)) i), fun i => V (skp (w' % (m' + 1)) i)⟩ = (S, e) := ⟨_, _, rfl⟩
        rw [hS3] at g5
        obtain rfl : x3 = 0 := g5
        simp only [hS3, e00, large_eq, longer_eq, awake_eq, check_eq, p6_9, p6_16, p6_24, nestF_eq, nestR_lit, nsM_lit, nsV_lit, stR, stF_eq, Try.f6, go_sem, ↓reduceIte, Nat.reduceAdd, Nat.reduceSub, Nat.reduceMul, Nat.reduceEqDiff, Nat.reduceLT, Nat.reduceLeDiff, Int.reduceToNat, Int.reduceLE, Int.reduceLT, Int.reduceEq, Int.reduceNeg, reduceCtorEq]
end Go.Eng
end

/-
  PanelMore: for every input the law returns true, and each argument reads afterwards as it read before. No condition.
-/
section
namespace Go.Proofs.Ytnccjojfpkjihaa.panelMore
open Go.ChangeShapes Go.WideShapes Go.ChangeAt Go.RowKit Go.Eng
set_option linter.unusedVariables false
theorem own : ownKnob Try.prog.godebug = none := by kernel_rfl
theorem laid : laidOutB Try.prog = true := by kernel_rfl
set_option maxRecDepth 100000 in
theorem lifted (os : Os) (started : os.Started) (H : Type) (enc : TypeId × Value → H) :
    ReturnsInHanded {} Try.checked os 6 .any (Rows.panelMoreSpec.pre6 enc Try.prog Try.f6 Rows.panelMoreRow.domain false) (Rows.panelMoreSpec.post enc Try.prog Try.f6 false true false false) := by
  refine returnsInHanded_of_change (C := Try.checked) own started (by kernel_rfl) Try.func6
    (ChangeSpec.witness6 (enc := enc) (C := Try.checked) false ⟨#[], #[.agg #[.slice none 0 0, .slice none 0 0], .agg #[.int .i64 0, .int .i64 0, .int .i64 0], .int .u8 0, .slice none 0 0], []⟩ 8 (by kernel_rfl) (by kernel_rfl) (by kernel_rfl) (by kernel_rfl)) ?_
  intro W base args ds gs before hval0 hW hcnd _
  have hval : ∀ (j : Nat) t v, Try.f6.params[j]? = some t → args[j]? = some v → Value.okWide Try.prog W .any base t v := hval0
  have hW' := hW
  obtain ⟨p, q, hA0, hV, rfl, hfz, hnd⟩ := hW
  have hA : DataW.TrodAll enc Try.prog W 0 (fun _ => true) true Try.f6.params.toList args.toList ds p := hA0
  rw [Try.params6] at hA hval
  obtain ⟨v0, vs0, d0, ds0, p0, q0, hargs, rfl, rfl, h0, r0⟩ := trodAll_cons hA
  obtain ⟨v1, vs1, d1, ds1, p1, q1, rfl, rfl, rfl, h1, r1⟩ := trodAll_cons r0
  obtain ⟨v2, vs2, d2, ds2, p2, q2, rfl, rfl, rfl, h2, r2⟩ := trodAll_cons r1
  obtain ⟨v3, vs3, d3, ds3, p3, q3, rfl, rfl, rfl, h3, r3⟩ := trodAll_cons r2
  obtain ⟨rfl, rfl, rfl⟩ := trodAll_nil r3
  obtain rfl : args = #[v0, v1, v2, v3] := by cases args; simp_all
  obtain ⟨rfl, rfl⟩ := trodVars_none hV
  obtain ⟨xs0, e0, l0, t0⟩ := arg_agg (shs := [.sl [.int .i64, .int .i64, .int .i64], .sl [.sl [.int .i64], .int .i64, .int .i64]]) Try.underlying25 (by kernel_rfl) (hval 0 25 v0 rfl rfl) h0
  obtain ⟨a0_0, a0_1, rfl⟩ : ∃ a0_0 a0_1, xs0 = [a0_0, a0_1] := by
    match xs0, l0 with
    | [a0_0, a0_1], _ => exact ⟨a0_0, a0_1, rfl⟩
  obtain ⟨n0_0, f0_0, rfl, m0_0, s0_0⟩ := typ_sl (t0 0 _ _ rfl rfl)
  obtain ⟨i0_0, b0_0⟩ := intK_of_typ (k := .i64) (c := 3) rfl s0_0
  obtain ⟨n0_1, f0_1, rfl, m0_1, s0_1⟩ := typ_sl (t0 1 _ _ rfl rfl)
  obtain ⟨i0_1, b0_1, c0_1, g0_1⟩ := nestR_typ (sz := 3) (k := 0) (s := 1) (by intro j hj hk; rcases (show j = 0 ∨ j = 1 ∨ j = 2 by omega) with rfl | rfl | rfl <;> first | rfl | exact absurd rfl hk) rfl s0_1
  obtain ⟨xs1, e1, l1, t1⟩ := arg_agg (shs := [.int .i64, .int .i64, .int .i64]) Try.underlying51 (by kernel_rfl) (hval 1 51 v1 rfl rfl) h1
  obtain ⟨a1_0, a1_1, a1_2, rfl⟩ : ∃ a1_0 a1_1 a1_2, xs1 = [a1_0, a1_1, a1_2] := by
    match xs1, l1 with
    | [a1_0, a1_1, a1_2], _ => exact ⟨a1_0, a1_1, a1_2, rfl⟩
  obtain ⟨x1_0, rfl, w1_0⟩ := typ_int (t1 0 _ _ rfl rfl)
  obtain ⟨x1_1, rfl, w1_1⟩ := typ_int (t1 1 _ _ rfl rfl)
  obtain ⟨x1_2, rfl, w1_2⟩ := typ_int (t1 2 _ _ rfl rfl)
  obtain ⟨x2, rfl, rfl, rfl, w2⟩ := open_int Try.underlying5 (hval 2 5 v2 rfl rfl) h2
  obtain ⟨n3, f3, e3, m3, t3⟩ := arg_row (s := [.sl [.int .i64]]) Try.underlying26 (by kernel_rfl) (hval 3 26 v3 rfl rfl) h3
  obtain ⟨i3, b3, c3, g3⟩ := nestR_typ (sz := 1) (k := 0) (s := 1) (by intro j hj hk; rcases (show j = 0 by omega) with rfl <;> first | rfl | exact absurd rfl hk) rfl t3
  have hd : DenL Env.emp W [.agg [.row n0_0 3 f0_0, .row n0_1 3 f0_1], .agg [.int .i64 x1_0, .int .i64 x1_1, .int .i64 x1_2], .int .u8 x2, .row n3 1 f3] [v0, v1, .int .u8 x2, v3] := ⟨e0, e1, .int _ _, e3, trivial⟩
  refine (law_calls panelMore_base (args := [.agg [.row n0_0 3 f0_0, .row n0_1 3 f0_1], .agg [.int .i64 x1_0, .int .i64 x1_1, .int .i64 x1_2], .int .u8 x2, .row n3 1 f3]) rfl ⟨⟨rfl, fun i j hi hj => i0_0 i j hi hj⟩, ⟨rfl, i0_1⟩, w2, ⟨rfl, i3⟩⟩ (denA_of hd)).mono fun e W' ⟨he, hb⟩ => ?_
  subst he
  exact ⟨_, rfl, law_end laid rfl Try.underlying4 (by kernel_rfl) rfl hW' rfl hb⟩
theorem over : Rows.panelMoreRow.holds Try.pinned (OpenSpec.ofChange Rows.panelMoreSpec) :=
  OpenClaim.holds_of_wide 6 Try.f6 rfl rfl rfl rfl rfl rfl rfl ⟨rfl, rfl, rfl, rfl, rfl⟩ rfl rfl rfl rfl rfl (by kernel_rfl) Try.func6 (by kernel_rfl)
    (of_decide_eq_true (by kernel_rfl)) (by unfold Func.isWrapper; first | (rw [if_pos (by decide +kernel)]; kernel_rfl) | (rw [if_neg (by decide +kernel)]; exact ⟨rfl, rfl⟩))
    (fun os started H enc _ => lifted os started H enc)
end Go.Proofs.Ytnccjojfpkjihaa.panelMore
namespace Go.Proofs.Ytnccjojfpkjihaa
/-- The given statement. -/
theorem panelMore_holds : Rows.PanelMoreSaid := panelMore.over
#print axioms panelMore_holds
end Go.Proofs.Ytnccjojfpkjihaa
end
